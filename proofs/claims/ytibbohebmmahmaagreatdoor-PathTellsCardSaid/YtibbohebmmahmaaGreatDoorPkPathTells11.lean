/- Part 11 of what LawPathTells needs: Bits, Code, CodeRow, Span. Conditions: as each lemma names. -/
import Derived.Test.YtibbohebmmahmaaGreatDoorPkPathTells01
import Derived.Laws.BitsAllLaws
import Derived.Laws.BitsLemmas
import Derived.Test.YtibbohebmmahmaaGreatDoorPkPathTells05
import Derived.Test.YtibbohebmmahmaaGreatDoorPkPathTells06
import Derived.WalkSpells
import Derived.Deep.DeepMust
import Derived.Test.YtibbohebmmahmaaGreatDoorPkPathTells02
import Derived.Test.YtibbohebmmahmaaGreatDoorPkPathTells03
/- Plain facts on bits, and the numbers of chapter 14 as lists of bytes. Conditions: as each lemma names. -/
namespace Go.Proofs.YtibbohebmmahmaaGreatDoor
set_option linter.unusedVariables false
set_option linter.unusedSimpArgs false
open Go.RowKit

/-- a number as one that is not below 0 -/
def zig (z : Int) : Nat := if 0 ≤ z then (2 * z).toNat else (-2 * z - 1).toNat
def unzig (g : Nat) : Int := if g % 2 = 0 then ((g / 2 : Nat) : Int) else -((g / 2 : Nat) : Int) - 1
theorem unzig_zig (z : Int) : unzig (zig z) = z := by
  unfold unzig zig
  by_cases h : 0 ≤ z
  · rw [if_pos h, if_pos (by omega)]; omega
  · rw [if_neg h, if_neg (by omega)]; omega
theorem zig_lt {z : Int} (h1 : -9223372036854775808 ≤ z) (h2 : z < 9223372036854775808) : zig z < 18446744073709551616 := by
  unfold zig; split <;> omega

theorem xor_ones (a : Nat) (ha : a < 18446744073709551616) : a ^^^ 18446744073709551615 = 18446744073709551615 - a := by
  have h := congrArg BitVec.toNat (BitVec.xor_allOnes (x := BitVec.ofNat 64 a))
  rw [BitVec.toNat_xor, BitVec.toNat_not, BitVec.toNat_allOnes, BitVec.toNat_ofNat] at h
  rw [Nat.mod_eq_of_lt (by omega)] at h
  exact h
theorem zig_pos (z : Int) (h1 : 0 ≤ z) (h2 : z < 9223372036854775808) : bits BinOp.xor IntKind.u64 (z * 2) (z / 9223372036854775808) = ((zig z : Nat) : Int) := by
  have e : z / 9223372036854775808 = 0 := by omega
  rw [e, u64_xor _ _ (by omega) (by omega) (by omega) (by omega)]
  unfold zig
  rw [if_pos h1]
  simp
  omega
theorem zig_neg (z : Int) (h1 : -9223372036854775808 ≤ z) (h2 : z < 0) : bits BinOp.xor IntKind.u64 (IntKind.u64.wrap (IntKind.u64.wrap z * 2)) (IntKind.u64.wrap (z / 9223372036854775808)) = ((zig z : Nat) : Int) := by
  have e0 : z / 9223372036854775808 = -1 := by omega
  have e1 : IntKind.u64.wrap (-1) = 18446744073709551615 := by rw [IntKind.wrap_u64]; decide
  have e2 : IntKind.u64.wrap (IntKind.u64.wrap z * 2) = 2 * z + 18446744073709551616 := by rw [IntKind.wrap_u64, IntKind.wrap_u64]; omega
  rw [e0, e1, e2, u64_xor _ _ (by omega) (by omega) (by omega) (by omega)]
  have e3 : (18446744073709551615 : Int).toNat = 18446744073709551615 := rfl
  rw [e3, xor_ones _ (by omega)]
  unfold zig
  rw [if_neg (by omega)]
  omega
theorem or128 : ∀ v : Fin 256, (v.val ||| 128) = v.val % 128 + 128 := by decide +kernel
theorem byte_more (x : Nat) : bits BinOp.or IntKind.u8 ((x : Int) % 256) 128 = ((x % 128 + 128 : Nat) : Int) := by
  rw [u8_or _ _ (by omega) (by omega) (by omega) (by omega)]
  have e : ((x : Int) % 256).toNat = x % 256 := by omega
  have := or128 ⟨x % 256, by omega⟩
  simp only at this
  rw [e, show (128 : Int).toNat = 128 from rfl, this]
  omega
theorem byte_low (y : Nat) (h : y < 256) : bits BinOp.and IntKind.u8 (y : Int) 127 = ((y % 128 : Nat) : Int) := by
  rw [u8_and _ _ (by omega) (by omega) (by omega) (by omega)]
  have : ∀ v : Fin 256, (v.val &&& 127) = v.val % 128 := by decide +kernel
  have := this ⟨y, h⟩
  simp only at this
  rw [Int.toNat_natCast, show (127 : Int).toNat = 127 from rfl, this]
theorem or_add (x y k : Nat) (hx : x < 2 ^ k) : x ||| (y * 2 ^ k) = x + y * 2 ^ k := by
  have h := Nat.two_pow_add_eq_or_of_lt hx y
  rw [Nat.or_comm, Nat.mul_comm, ← h]
  omega
/-- one byte more of a number that is read -/
theorem read_more (x y k : Nat) (hx : x < 2 ^ (7 * k)) (hy : y < 256) (hs : x + y % 128 * 2 ^ (7 * k) < 18446744073709551616) :
    bits BinOp.or IntKind.u64 (x : Int) (IntKind.u64.wrap (IntKind.u64.wrap (bits BinOp.and IntKind.u8 (y : Int) 127) * 2 ^ (7 * k))) = ((x + y % 128 * 2 ^ (7 * k) : Nat) : Int) := by
  have e1 : IntKind.u64.wrap (((y % 128 : Nat) : Int)) = ((y % 128 : Nat) : Int) := by rw [IntKind.wrap_u64]; omega
  have e2 : (((y % 128 : Nat) : Int) * 2 ^ (7 * k)) = ((y % 128 * 2 ^ (7 * k) : Nat) : Int) := by rw [Int.natCast_mul, Int.natCast_pow]; rfl
  rw [byte_low y hy, e1, e2]
  generalize hp : y % 128 * 2 ^ (7 * k) = q at hs
  have e3 : IntKind.u64.wrap ((q : Nat) : Int) = (q : Int) := by rw [IntKind.wrap_u64]; omega
  rw [e3, u64_or_nat _ _ (by omega) (by omega), ← hp, or_add _ _ _ hx]
theorem ofInt_i64 (a : Nat) (ha : a < 9223372036854775808) : (BitVec.ofInt 64 (a : Int)).toNat = a := by
  rw [BitVec.ofInt_natCast, BitVec.toNat_ofNat]; exact Nat.mod_eq_of_lt (by omega)
theorem i64_not (a : Nat) (ha : a < 9223372036854775808) : bits BinOp.xor IntKind.i64 (a : Int) (-1) = -(a : Int) - 1 := by
  show IntKind.i64.wrap ((BitVec.ofInt 64 (a : Int) ^^^ BitVec.ofInt 64 (-1 : Int)).toNat : Int) = _
  have e : BitVec.ofInt 64 (-1 : Int) = BitVec.allOnes 64 := by decide
  rw [e, BitVec.xor_allOnes, BitVec.toNat_not, ofInt_i64 a ha, IntKind.wrap_i64]
  omega
theorem i64_same (a : Nat) (ha : a < 9223372036854775808) : bits BinOp.xor IntKind.i64 (a : Int) 0 = (a : Int) := by
  show IntKind.i64.wrap ((BitVec.ofInt 64 (a : Int) ^^^ BitVec.ofInt 64 (0 : Int)).toNat : Int) = _
  have e : BitVec.ofInt 64 (0 : Int) = 0#64 := by decide
  rw [e, BitVec.xor_zero, ofInt_i64 a ha, IntKind.wrap_i64]
  omega
theorem read_end (g : Nat) (hg : g < 18446744073709551616) : bits BinOp.xor IntKind.i64 (wrap64 ((g : Int) / 2)) (wrap64 (-wrap64 (bits BinOp.and IntKind.u64 (g : Int) 1))) = unzig g := by
  have e1 : bits BinOp.and IntKind.u64 (g : Int) 1 = ((g % 2 : Nat) : Int) := by
    have := u64_and_nat g 1 hg (by omega)
    rw [Nat.and_one_is_mod] at this
    exact this
  have e2 : wrap64 ((g : Int) / 2) = ((g / 2 : Nat) : Int) := by unfold wrap64; omega
  rw [e1, e2]
  unfold unzig
  by_cases h : g % 2 = 0
  · have e3 : wrap64 (-wrap64 ((0 : Nat) : Int)) = 0 := by unfold wrap64; omega
    rw [if_pos h, h, e3]
    exact i64_same _ (by omega)
  · have h1 : g % 2 = 1 := by omega
    have e3 : wrap64 (-wrap64 ((1 : Nat) : Int)) = -1 := by unfold wrap64; omega
    rw [if_neg h, h1, e3]
    exact i64_not _ (by omega)

/-- a number as bytes, seven bits a byte -/
def encN : Nat → Nat → List Int
  | 0, _ => []
  | k + 1, x => if x < 128 then [(x : Int)] else ((x % 128 + 128 : Nat) : Int) :: encN k (x / 128)
def enc (z : Int) : List Int := encN 10 (zig z)
theorem encN_len : ∀ (k x : Nat), (encN k x).length ≤ k := by
  intro k
  induction k with
  | zero => intro x; simp [encN]
  | succ k ih => intro x; rw [encN]; split; · simp
                 · rw [List.length_cons]; have := ih (x / 128); omega
theorem encN_pos (k x : Nat) : 0 < (encN (k + 1) x).length := by rw [encN]; split <;> simp
theorem encN_low {k x : Nat} (hk : 0 < k) (h : x < 128) : encN k x = [(x : Int)] := by
  obtain ⟨j, rfl⟩ : ∃ j, k = j + 1 := ⟨k - 1, by omega⟩
  rw [encN, if_pos h]
theorem encN_high {k x : Nat} (h : 128 ≤ x) : encN (k + 1) x = ((x % 128 + 128 : Nat) : Int) :: encN k (x / 128) := by rw [encN, if_neg (by omega)]

/-- the number that bytes begin with, how many they are, what is wrong; from byte i on, x so far -/
def getFrom (i x : Nat) : List Int → Int × Nat × Int
  | [] => (0, 0, 8)
  | c :: r => if (i = 9 ∧ 1 < c) ∨ (0 < i ∧ c = 0) then (0, 0, 2) else
    if c < 128 then (unzig (x + c.toNat % 128 * 2 ^ (7 * i)), i + 1, 0) else getFrom (i + 1) (x + c.toNat % 128 * 2 ^ (7 * i)) r
def getV (l : List Int) : Int × Nat × Int := getFrom 0 0 l
/-- what was written is read -/
theorem get_enc : ∀ (k i x y : Nat) (r : List Int), i + k = 10 → y < 128 ^ k → (0 < i → 0 < y) → x + y * 2 ^ (7 * i) < 18446744073709551616 → getFrom i x (encN k y ++ r) = (unzig (x + y * 2 ^ (7 * i)), i + (encN k y).length, 0) := by
  intro k
  induction k with
  | zero => intro i x y r h1 h2 h3 h4; have : i = 10 := by omega
            subst this; simp at h2; subst h2; have := h3 (by omega); omega
  | succ k ih =>
    intro i x y r h1 h2 h3 h4
    by_cases hy : y < 128
    · rw [encN_low (by omega) hy, List.cons_append, getFrom, if_neg, if_pos (by omega)]
      · rw [Int.toNat_natCast, Nat.mod_eq_of_lt hy]; rfl
      · rintro (⟨rfl, h5⟩ | ⟨h5, h6⟩)
        · have : 2 ≤ y := by omega
          have : 2 * 2 ^ 63 ≤ y * 2 ^ (7 * 9) := Nat.mul_le_mul this (by decide)
          omega
        · have := h3 h5; omega
    · rw [encN_high (by omega), List.cons_append, getFrom, if_neg, if_neg (by omega)]
      · have e : ((y % 128 + 128 : Nat) : Int).toNat % 128 = y % 128 := by rw [Int.toNat_natCast]; omega
        have e2 : y * 2 ^ (7 * i) = y % 128 * 2 ^ (7 * i) + y / 128 * 2 ^ (7 * (i + 1)) := by
          rw [show 7 * (i + 1) = 7 * i + 7 by omega, Nat.pow_add, show (2 : Nat) ^ 7 = 128 from rfl, Nat.mul_comm (2 ^ (7 * i)) 128, ← Nat.mul_assoc, ← Nat.add_mul]
          congr 1
          omega
        rw [e, ih (i + 1) _ (y / 128) r (by omega) (Nat.div_lt_of_lt_mul (by rw [Nat.pow_succ] at h2; omega)) (fun _ => by omega) (by omega), List.length_cons, e2, Nat.add_assoc]
        congr 2
        omega
      · rintro (⟨rfl, _⟩ | ⟨_, h6⟩)
        · have : 128 * 2 ^ 63 ≤ y * 2 ^ (7 * 9) := Nat.mul_le_mul (by omega) (by decide)
          omega
        · omega
theorem get_back (z : Int) (h1 : -9223372036854775808 ≤ z) (h2 : z < 9223372036854775808) (r : List Int) : getV (enc z ++ r) = (z, (enc z).length, 0) := by
  have h := zig_lt h1 h2
  unfold getV enc
  rw [get_enc 10 0 0 (zig z) r rfl (Nat.lt_of_lt_of_le h (by decide)) (by omega) (by simpa using h)]
  rw [Nat.zero_add, Nat.zero_add, Nat.mul_zero, Nat.pow_zero, Nat.mul_one, unzig_zig]
end Go.Proofs.YtibbohebmmahmaaGreatDoor
/- Chapter 14's numbers: code.add, slices.Clone of bytes, code.Num, code.Get. Conditions: as each lemma names. -/
namespace Go.Proofs.YtibbohebmmahmaaGreatDoor
set_option linter.unusedVariables false
set_option linter.unusedSimpArgs false
open Go.RowKit

theorem elem_byte : Elem Tryz.prog 75 5 (.int .u8 0) 1 1 := ⟨Tryz.underlying75, by kernel_rfl, rfl, by omega, by omega⟩
def BReads (w : World) (B : Nat) (A : Option Addr) (n : Nat) (l : List Int) : Prop := Reads w B 1 A n (l.map (Value.int .u8))
theorem BReads.len {w : World} {B n : Nat} {A : Option Addr} {l : List Int} (h : BReads w B A n l) : l.length = n := by have := h.1; simpa using this
theorem BReads.get {w : World} {B n : Nat} {A : Option Addr} {l : List Int} (h : BReads w B A n l) {k : Nat} (hk : k < n) :
    ∃ b off x, A = some ⟨b, off, none⟩ ∧ b < B ∧ l[k]? = some x ∧ w.cell? ⟨b, off + k, none⟩ = some (.int .u8 x) := by
  obtain ⟨b, off, rfl, hb, hc⟩ := Reads.spot h (by omega) (by omega)
  have hl : k < l.length := by rw [h.len]; exact hk
  exact ⟨b, off, l[k], rfl, hb, List.getElem?_eq_getElem hl, hc k _ (by simp [hl])⟩

/-- a row of bytes of the call's own, and what was put behind it -/
def AddPost (base n : Nat) (bs : List Int) (w : World) (e : Ending) (w' : World) : Prop :=
  ∃ v, e = .returned v ∧ w'.ownsRow base 5 1 v n (bs.map (Value.int .u8)) ∧ Below base w w'

theorem get_err {l : List Int} {k x : Nat} {y : Int} (h : l[k]? = some y) (hf : getFrom k x (l.drop k) = getV l) (he : (k = 9 ∧ 1 < y) ∨ (0 < k ∧ y = 0)) : getV l = (0, 0, 2) := by
  rw [← hf, drop_at h, getFrom, if_pos he]
theorem get_done {l : List Int} {k x : Nat} {y : Nat} (h : l[k]? = some (y : Int)) (hf : getFrom k x (l.drop k) = getV l) (he : ¬ ((k = 9 ∧ 1 < (y : Int)) ∨ (0 < k ∧ (y : Int) = 0))) (hy : y < 128) : getV l = (unzig (x + y % 128 * 2 ^ (7 * k)), k + 1, 0) := by
  rw [← hf, drop_at h, getFrom, if_neg he, if_pos (by omega), Int.toNat_natCast]
theorem get_next {l : List Int} {k x : Nat} {y : Nat} (h : l[k]? = some (y : Int)) (hf : getFrom k x (l.drop k) = getV l) (he : ¬ ((k = 9 ∧ 1 < (y : Int)) ∨ (0 < k ∧ (y : Int) = 0))) (hy : ¬ y < 128) : getFrom (k + 1) (x + y % 128 * 2 ^ (7 * k)) (l.drop (k + 1)) = getV l := by
  rw [← hf, drop_at h, getFrom, if_neg he, if_neg (by omega), Int.toNat_natCast]
theorem get_bound {k x y : Nat} (hk : k ≤ 9) (hx : x < 2 ^ (7 * k)) (hy : k = 9 → y ≤ 1) : x + y % 128 * 2 ^ (7 * k) < 18446744073709551616 := by
  have h : y % 128 * 2 ^ (7 * k) + 2 ^ (7 * k) = (y % 128 + 1) * 2 ^ (7 * k) := by rw [Nat.add_mul, Nat.one_mul]
  by_cases h9 : k = 9
  · subst h9
    have : y % 128 + 1 ≤ 2 := by have := hy rfl; omega
    have := Nat.mul_le_mul_right (2 ^ (7 * 9)) this
    have e : (2 : Nat) * 2 ^ (7 * 9) = 18446744073709551616 := by decide
    omega
  · have h8 : 2 ^ (7 * k) ≤ 2 ^ 56 := Nat.pow_le_pow_right (by omega) (by omega)
    have := Nat.mul_le_mul (show y % 128 + 1 ≤ 128 by omega) h8
    have e : (128 : Nat) * 2 ^ 56 = 9223372036854775808 := by decide
    omega
theorem get_small {k x y : Nat} (hx : x < 2 ^ (7 * k)) : x + y % 128 * 2 ^ (7 * k) < 2 ^ (7 * (k + 1)) := by
  have h : y % 128 * 2 ^ (7 * k) + 2 ^ (7 * k) = (y % 128 + 1) * 2 ^ (7 * k) := by rw [Nat.add_mul, Nat.one_mul]
  have := Nat.mul_le_mul_right (2 ^ (7 * k)) (show y % 128 + 1 ≤ 128 by omega)
  have e : 2 ^ (7 * (k + 1)) = 128 * 2 ^ (7 * k) := by rw [show 7 * (k + 1) = 7 * k + 7 by omega, Nat.pow_add, Nat.mul_comm]
  omega

end Go.Proofs.YtibbohebmmahmaaGreatDoor
/- CodeRow: the walk of the law's function. Conditions: the argument reads as a list of ints. -/
namespace Go.Proofs.YtibbohebmmahmaaGreatDoor
set_option linter.unusedVariables false
set_option linter.unusedSimpArgs false
open Go.RowKit

theorem own_base {w : World} {base base' : Nat} {e : TypeId} {size n : Nat} {v : Value} {xs : List Value} (h : w.ownsRow base e size v n xs) (hb : base' ≤ base) : w.ownsRow base' e size v n xs := by
  refine ⟨h.1, ?_⟩
  rcases h.2 with hn | ⟨g, cap, cur, rfl, hg, rest⟩
  · exact .inl hn
  · exact .inr ⟨g, cap, cur, rfl, Nat.le_trans hb hg, rest⟩
theorem own_slice2 {w : World} {base : Nat} {e : TypeId} {size n : Nat} {v : Value} {xs : List Value} (h : w.ownsRow base e size v n xs) : ∃ A c, v = .slice A n c ∧ Reads w w.heap.size size A n xs ∧ n ≤ maxLen ∧ n ≤ c ∧ (A = none → c = 0) ∧ (∀ a, A = some a → base ≤ a.block) := by
  rcases h.2 with ⟨rfl, rfl⟩ | ⟨g, cap, cur, rfl, hg, _, h1, h2, _⟩
  · exact ⟨none, 0, rfl, ⟨h.1, fun h0 => absurd h0 (by omega)⟩, Nat.zero_le _, Nat.le_refl _, fun _ => rfl, fun a e => by cases e⟩
  · exact ⟨_, _, rfl, Reads.of_own h, Nat.le_trans h1 h2, h1, fun e => (by cases e), fun a e => by injection e with e; subst e; exact hg⟩

def encs (l : List Int) : List Int := l.flatMap enc
theorem encs_next {l : List Int} {k : Nat} {x : Int} (h : l[k]? = some x) : encs (l.take (k + 1)) = encs (l.take k) ++ enc x := by
  unfold encs; rw [take_next h, List.flatMap_append]; simp
theorem enc_len (z : Int) : 1 ≤ (enc z).length ∧ (enc z).length ≤ 10 := ⟨encN_pos 9 _, encN_len 10 _⟩
theorem encs_len (l : List Int) : (encs l).length ≤ 10 * l.length := by
  induction l with
  | nil => simp [encs]
  | cons x r ih => unfold encs at *; rw [List.flatMap_cons, List.length_append, List.length_cons]; have := (enc_len x).2; omega
theorem encN_bytes : ∀ (k x : Nat), ∀ y ∈ encN k x, 0 ≤ y ∧ y < 256 := by
  intro k
  induction k with
  | zero => intro x y h; simp [encN] at h
  | succ k ih =>
    intro x y h
    rw [encN] at h
    split at h
    · simp at h; subst h; omega
    · rcases List.mem_cons.1 h with rfl | h
      · omega
      · exact ih _ y h
theorem encs_bytes (l : List Int) : ∀ y ∈ encs l, 0 ≤ y ∧ y < 256 := by
  intro y h
  unfold encs at h
  obtain ⟨z, _, hz⟩ := List.mem_flatMap.1 h
  exact encN_bytes _ _ y hz
theorem encs_drop {l : List Int} {k : Nat} {x : Int} (h : l[k]? = some x) : encs (l.drop k) = enc x ++ encs (l.drop (k + 1)) := by
  unfold encs; rw [drop_at h, List.flatMap_cons]
theorem getV4 : getV [4] = (2, 1, 0) := by decide

end Go.Proofs.YtibbohebmmahmaaGreatDoor
/- Chapter 5's spans: path.Some, path.Any, path.Wide, path.Side, slices.Clone of spans. Conditions: as each lemma names. -/
namespace Go.Proofs.YtibbohebmmahmaaGreatDoor
set_option linter.unusedVariables false
set_option linter.unusedSimpArgs false
open Go.RowKit

def someB (s : Sp) : Bool := decide (s.low ≤ s.high) || s.ab
def anyB (l : List Sp) : Bool := l.all someB

theorem some_any (lo hi : Int) (ab : Bool) (w : World) :
    Calls Tryz.prog 52 #[.agg #[.int .i64 lo, .int .i64 hi, .bool ab]] w fun e w' => e = .returned (.bool (someB ⟨lo, hi, ab⟩)) ∧ Below w.heap.size w w' := by
  by_cases h1 : lo ≤ hi
  · have HE : Hid (someB ⟨lo, hi, ab⟩ = true) := hide (by simp [someB, h1])
    go_enter Tryz.func52, Tryz.ntmps52
    go_wp2
    go_ret
    exact ⟨by rw [unhide HE]; rfl, by go_grown⟩
  · have HE : Hid (someB ⟨lo, hi, ab⟩ = ab) := hide (by simp [someB, h1])
    go_enter Tryz.func52, Tryz.ntmps52
    go_wp2
    go_ret
    exact ⟨by rw [unhide HE]; rfl, by go_grown⟩

theorem any1_any (lo hi : Int) (ab : Bool) (w : World) :
    Calls Tryz.prog 51 #[.agg #[.int .i64 lo, .int .i64 hi, .bool ab]] w fun e w' => e = .returned (.bool (!someB ⟨lo, hi, ab⟩)) ∧ Below w.heap.size w w' := by
  go_enter Tryz.func51, Tryz.ntmps51
  go_wp2_with fail
  refine (some_any lo hi ab _).mono ?_
  rintro e w1 ⟨rfl, hb1⟩
  go_wp2_with fail
  go_ret
  exact ⟨rfl, ((Below.refl _ _).alloc (Nat.le_refl _) _).trans (hb1.mono (by simp))⟩

def badAtS : List Sp → Nat → Int
  | [], _ => -1
  | s :: r, k => if someB s then badAtS r (k + 1) else (k : Int)
theorem badAtS_any : ∀ (l : List Sp) (k : Nat), (badAtS l k < 0 ↔ anyB l = true) := by
  intro l
  induction l with
  | nil => intro k; simp [badAtS, anyB]
  | cons s r ih =>
    intro k
    rw [badAtS]
    by_cases h : someB s = true
    · rw [if_pos h, ih (k + 1)]; simp [anyB, h]
    · rw [if_neg h]; simp [anyB, h]
theorem badAtS_drop {l : List Sp} {k : Nat} {s : Sp} (h : l[k]? = some s) : badAtS (l.drop k) k = if someB s then badAtS (l.drop (k + 1)) (k + 1) else (k : Int) := by
  have : l.drop k = s :: l.drop (k + 1) := by
    obtain ⟨hk, e⟩ := List.getElem?_eq_some_iff.1 h
    rw [List.drop_eq_getElem_cons hk, e]
  rw [this, badAtS]

theorem index_any (A : Option Addr) (n c B : Nat) (l : List Sp) (w : World) (hr : SReads w B A n l) (hB : B ≤ w.heap.size) (hn : n ≤ 100000000) :
    Calls Tryz.prog 65 #[.slice A n c, .func (.func 51) #[] #[]] w fun e w' => e = .returned (.int .i64 (badAtS l 0)) ∧ Below w.heap.size w w' := by
  have HL := hide hr.len
  go_enter Tryz.func65, Tryz.ntmps65
  go_wp2_with fail
  go_loopw [8] (fun i wr => ∃ k : Nat, k ≤ n ∧ i = .int .i64 k ∧ Hid (badAtS (l.drop k) k = badAtS l 0) ∧ Below w.heap.size w wr) (fun i _ => n - (intOf i).toNat)
  case atStart => exact ⟨0, Nat.zero_le _, rfl, hide (by simp), Below.refl _ _⟩
  case round =>
    obtain ⟨k, hk, rfl, HG, hbel⟩ := hrel
    by_cases hlt : k < n
    · obtain ⟨b, o, x, rfl, hb, hx, c0, c1, c2⟩ := (hr.below (hbel.mono hB)).get hlt
      have HD := hide (badAtS_drop hx)
      obtain ⟨x0, x1, x2⟩ := x
      dsimp only at c0 c1 c2
      clear hx
      go_wp2_with fail
      refine (any1_any x0 x1 x2 _).mono ?_
      rintro e w1 ⟨rfl, hb1⟩
      by_cases hs : someB ⟨x0, x1, x2⟩ = true
      · rw [hs]
        have HD2 := hide (unhide HD)
        go_wp2_with fail
        go_roundw
        case rel => exact ⟨k + 1, by omega, by go_num, hide (by rw [← unhide HG, unhide HD, if_pos hs]), hbel.trans (hb1.mono hbel.size)⟩
        case measure => simp [intOf]; omega
      · have hs2 : someB ⟨x0, x1, x2⟩ = false := by simpa using hs
        rw [hs2]
        go_wp2_with fail
        go_ret
        exact ⟨ret_int (by rw [← unhide HG, unhide HD, if_neg hs]), hbel.trans (hb1.mono hbel.size)⟩
    · have h0 : badAtS l 0 = -1 := by
        rw [← unhide HG, List.drop_of_length_le (by have := unhide HL; omega)]; rfl
      have H0 := hide h0
      clear h0
      go_wp2_with fail
      go_ret
      exact ⟨ret_int (unhide H0).symm, hbel⟩

theorem any_any (A : Option Addr) (n c B : Nat) (l : List Sp) (w : World) (hr : SReads w B A n l) (hB : B ≤ w.heap.size) (hn : n ≤ 100000000) :
    Calls Tryz.prog 36 #[.slice A n c] w fun e w' => e = .returned (.bool (anyB l)) ∧ Below w.heap.size w w' := by
  have hcon : ∀ w, SReads w B A n l → B ≤ w.heap.size → Calls Tryz.prog 50 #[.slice A n c, .func (.func 51) #[] #[]] w fun e w' => e = .returned (.bool (!anyB l)) ∧ Below w.heap.size w w' := by
    intro w hr hB
    have HB := hide (badAtS_any l 0)
    go_enter Tryz.func50, Tryz.ntmps50
    go_wp2_with fail
    refine (index_any A n c B l _ hr hB hn).mono ?_
    rintro e w1 ⟨rfl, hb1⟩
    go_wp2_with fail
    go_ret
    refine ⟨ret_bool ?_, hb1⟩
    have := unhide HB
    by_cases h : badAtS l 0 < 0
    · rw [this.1 h]; simp; omega
    · have h2 : anyB l = false := by
        rcases Bool.eq_false_or_eq_true (anyB l) with h3 | h3
        · exact absurd (this.2 h3) h
        · exact h3
      rw [h2]; simp; omega
  go_enter Tryz.func36, Tryz.ntmps36
  go_wp2_with fail
  refine (hcon _ hr hB).mono ?_
  rintro e w1 ⟨rfl, hb1⟩
  go_wp2_with fail
  go_ret
  exact ⟨ret_bool (by simp), hb1⟩
end Go.Proofs.YtibbohebmmahmaaGreatDoor
