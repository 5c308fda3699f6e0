/- Chapter 14's numbers: code.add, slices.Clone of bytes, code.Num, code.Get. Conditions: as each lemma names. -/
import Derived.Test.YtopncifebldklaaBits
import Derived.Test.YtopncifebldklaaTreeMath
import Derived.Test.YtopncifebldklaaPath
import Derived.WalkSpells
import Derived.Deep.DeepMust
namespace Go.Proofs.Ytopncifebldklaa
set_option linter.unusedVariables false
set_option linter.unusedSimpArgs false
open Go.RowKit

def BReads (w : World) (B : Nat) (A : Option Addr) (n : Nat) (l : List Int) : Prop := Reads w B 1 A n (l.map (Value.int .u8))
theorem BReads.len {w : World} {B n : Nat} {A : Option Addr} {l : List Int} (h : BReads w B A n l) : l.length = n := by have := h.1; simpa using this
theorem BReads.get {w : World} {B n : Nat} {A : Option Addr} {l : List Int} (h : BReads w B A n l) {k : Nat} (hk : k < n) :
    ∃ b off x, A = some ⟨b, off, none⟩ ∧ b < B ∧ l[k]? = some x ∧ w.cell? ⟨b, off + k, none⟩ = some (.int .u8 x) := by
  obtain ⟨b, off, rfl, hb, hc⟩ := Reads.spot h (by omega) (by omega)
  have hl : k < l.length := by rw [h.len]; exact hk
  exact ⟨b, off, l[k], rfl, hb, List.getElem?_eq_getElem hl, hc k _ (by simp [hl])⟩

/-- a row of bytes of the call's own, and what was put behind it -/
def AddPost (base n : Nat) (bs : List Int) (w : World) (e : Ending) (w' : World) : Prop :=
  ∃ v, e = .returned v ∧ w'.ownsRow base 5 1 v n (bs.map (Value.int .u8)) ∧ Below base w w'

theorem get_err {l : List Int} {k x : Nat} {y : Int} (h : l[k]? = some y) (hf : getFrom k x (l.drop k) = getV l) (he : (k = 9 ∧ 1 < y) ∨ (0 < k ∧ y = 0)) : getV l = (0, 0, 2) := by
  rw [← hf, drop_at h, getFrom, if_pos he]
theorem get_done {l : List Int} {k x : Nat} {y : Nat} (h : l[k]? = some (y : Int)) (hf : getFrom k x (l.drop k) = getV l) (he : ¬ ((k = 9 ∧ 1 < (y : Int)) ∨ (0 < k ∧ (y : Int) = 0))) (hy : y < 128) : getV l = (unzig (x + y % 128 * 2 ^ (7 * k)), k + 1, 0) := by
  rw [← hf, drop_at h, getFrom, if_neg he, if_pos (by omega), Int.toNat_natCast]
theorem get_next {l : List Int} {k x : Nat} {y : Nat} (h : l[k]? = some (y : Int)) (hf : getFrom k x (l.drop k) = getV l) (he : ¬ ((k = 9 ∧ 1 < (y : Int)) ∨ (0 < k ∧ (y : Int) = 0))) (hy : ¬ y < 128) : getFrom (k + 1) (x + y % 128 * 2 ^ (7 * k)) (l.drop (k + 1)) = getV l := by
  rw [← hf, drop_at h, getFrom, if_neg he, if_neg (by omega), Int.toNat_natCast]
theorem get_bound {k x y : Nat} (hk : k ≤ 9) (hx : x < 2 ^ (7 * k)) (hy : k = 9 → y ≤ 1) : x + y % 128 * 2 ^ (7 * k) < 18446744073709551616 := by
  have h : y % 128 * 2 ^ (7 * k) + 2 ^ (7 * k) = (y % 128 + 1) * 2 ^ (7 * k) := by rw [Nat.add_mul, Nat.one_mul]
  by_cases h9 : k = 9
  · subst h9
    have : y % 128 + 1 ≤ 2 := by have := hy rfl; omega
    have := Nat.mul_le_mul_right (2 ^ (7 * 9)) this
    have e : (2 : Nat) * 2 ^ (7 * 9) = 18446744073709551616 := by decide
    omega
  · have h8 : 2 ^ (7 * k) ≤ 2 ^ 56 := Nat.pow_le_pow_right (by omega) (by omega)
    have := Nat.mul_le_mul (show y % 128 + 1 ≤ 128 by omega) h8
    have e : (128 : Nat) * 2 ^ 56 = 9223372036854775808 := by decide
    omega
theorem get_small {k x y : Nat} (hx : x < 2 ^ (7 * k)) : x + y % 128 * 2 ^ (7 * k) < 2 ^ (7 * (k + 1)) := by
  have h : y % 128 * 2 ^ (7 * k) + 2 ^ (7 * k) = (y % 128 + 1) * 2 ^ (7 * k) := by rw [Nat.add_mul, Nat.one_mul]
  have := Nat.mul_le_mul_right (2 ^ (7 * k)) (show y % 128 + 1 ≤ 128 by omega)
  have e : 2 ^ (7 * (k + 1)) = 128 * 2 ^ (7 * k) := by rw [show 7 * (k + 1) = 7 * k + 7 by omega, Nat.pow_add, Nat.mul_comm]
  omega

end Go.Proofs.Ytopncifebldklaa
