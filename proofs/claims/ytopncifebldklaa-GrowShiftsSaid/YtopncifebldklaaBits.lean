/- Plain facts on bits, and the numbers of chapter 14 as lists of bytes. Conditions: as each lemma names. -/
import Derived.Test.YtopncifebldklaaWords
import Derived.Laws.BitsAllLaws
import Derived.Laws.BitsLemmas
namespace Go.Proofs.Ytopncifebldklaa
set_option linter.unusedVariables false
set_option linter.unusedSimpArgs false
open Go.RowKit

/-- a number as one that is not below 0 -/
def zig (z : Int) : Nat := if 0 ≤ z then (2 * z).toNat else (-2 * z - 1).toNat
def unzig (g : Nat) : Int := if g % 2 = 0 then ((g / 2 : Nat) : Int) else -((g / 2 : Nat) : Int) - 1
theorem unzig_zig (z : Int) : unzig (zig z) = z := by
  unfold unzig zig
  by_cases h : 0 ≤ z
  · rw [if_pos h, if_pos (by omega)]; omega
  · rw [if_neg h, if_neg (by omega)]; omega
theorem zig_lt {z : Int} (h1 : -9223372036854775808 ≤ z) (h2 : z < 9223372036854775808) : zig z < 18446744073709551616 := by
  unfold zig; split <;> omega

theorem xor_ones (a : Nat) (ha : a < 18446744073709551616) : a ^^^ 18446744073709551615 = 18446744073709551615 - a := by
  have h := congrArg BitVec.toNat (BitVec.xor_allOnes (x := BitVec.ofNat 64 a))
  rw [BitVec.toNat_xor, BitVec.toNat_not, BitVec.toNat_allOnes, BitVec.toNat_ofNat] at h
  rw [Nat.mod_eq_of_lt (by omega)] at h
  exact h
theorem zig_pos (z : Int) (h1 : 0 ≤ z) (h2 : z < 9223372036854775808) : bits BinOp.xor IntKind.u64 (z * 2) (z / 9223372036854775808) = ((zig z : Nat) : Int) := by
  have e : z / 9223372036854775808 = 0 := by omega
  rw [e, u64_xor _ _ (by omega) (by omega) (by omega) (by omega)]
  unfold zig
  rw [if_pos h1]
  simp
  omega
theorem zig_neg (z : Int) (h1 : -9223372036854775808 ≤ z) (h2 : z < 0) : bits BinOp.xor IntKind.u64 (IntKind.u64.wrap (IntKind.u64.wrap z * 2)) (IntKind.u64.wrap (z / 9223372036854775808)) = ((zig z : Nat) : Int) := by
  have e0 : z / 9223372036854775808 = -1 := by omega
  have e1 : IntKind.u64.wrap (-1) = 18446744073709551615 := by rw [IntKind.wrap_u64]; decide
  have e2 : IntKind.u64.wrap (IntKind.u64.wrap z * 2) = 2 * z + 18446744073709551616 := by rw [IntKind.wrap_u64, IntKind.wrap_u64]; omega
  rw [e0, e1, e2, u64_xor _ _ (by omega) (by omega) (by omega) (by omega)]
  have e3 : (18446744073709551615 : Int).toNat = 18446744073709551615 := rfl
  rw [e3, xor_ones _ (by omega)]
  unfold zig
  rw [if_neg (by omega)]
  omega
theorem or128 : ∀ v : Fin 256, (v.val ||| 128) = v.val % 128 + 128 := by decide +kernel
theorem byte_more (x : Nat) : bits BinOp.or IntKind.u8 ((x : Int) % 256) 128 = ((x % 128 + 128 : Nat) : Int) := by
  rw [u8_or _ _ (by omega) (by omega) (by omega) (by omega)]
  have e : ((x : Int) % 256).toNat = x % 256 := by omega
  have := or128 ⟨x % 256, by omega⟩
  simp only at this
  rw [e, show (128 : Int).toNat = 128 from rfl, this]
  omega
theorem byte_low (y : Nat) (h : y < 256) : bits BinOp.and IntKind.u8 (y : Int) 127 = ((y % 128 : Nat) : Int) := by
  rw [u8_and _ _ (by omega) (by omega) (by omega) (by omega)]
  have : ∀ v : Fin 256, (v.val &&& 127) = v.val % 128 := by decide +kernel
  have := this ⟨y, h⟩
  simp only at this
  rw [Int.toNat_natCast, show (127 : Int).toNat = 127 from rfl, this]
theorem or_add (x y k : Nat) (hx : x < 2 ^ k) : x ||| (y * 2 ^ k) = x + y * 2 ^ k := by
  have h := Nat.two_pow_add_eq_or_of_lt hx y
  rw [Nat.or_comm, Nat.mul_comm, ← h]
  omega
/-- one byte more of a number that is read -/
theorem read_more (x y k : Nat) (hx : x < 2 ^ (7 * k)) (hy : y < 256) (hs : x + y % 128 * 2 ^ (7 * k) < 18446744073709551616) :
    bits BinOp.or IntKind.u64 (x : Int) (IntKind.u64.wrap (IntKind.u64.wrap (bits BinOp.and IntKind.u8 (y : Int) 127) * 2 ^ (7 * k))) = ((x + y % 128 * 2 ^ (7 * k) : Nat) : Int) := by
  have e1 : IntKind.u64.wrap (((y % 128 : Nat) : Int)) = ((y % 128 : Nat) : Int) := by rw [IntKind.wrap_u64]; omega
  have e2 : (((y % 128 : Nat) : Int) * 2 ^ (7 * k)) = ((y % 128 * 2 ^ (7 * k) : Nat) : Int) := by rw [Int.natCast_mul, Int.natCast_pow]; rfl
  rw [byte_low y hy, e1, e2]
  generalize hp : y % 128 * 2 ^ (7 * k) = q at hs
  have e3 : IntKind.u64.wrap ((q : Nat) : Int) = (q : Int) := by rw [IntKind.wrap_u64]; omega
  rw [e3, u64_or_nat _ _ (by omega) (by omega), ← hp, or_add _ _ _ hx]
theorem ofInt_i64 (a : Nat) (ha : a < 9223372036854775808) : (BitVec.ofInt 64 (a : Int)).toNat = a := by
  rw [BitVec.ofInt_natCast, BitVec.toNat_ofNat]; exact Nat.mod_eq_of_lt (by omega)
theorem i64_not (a : Nat) (ha : a < 9223372036854775808) : bits BinOp.xor IntKind.i64 (a : Int) (-1) = -(a : Int) - 1 := by
  show IntKind.i64.wrap ((BitVec.ofInt 64 (a : Int) ^^^ BitVec.ofInt 64 (-1 : Int)).toNat : Int) = _
  have e : BitVec.ofInt 64 (-1 : Int) = BitVec.allOnes 64 := by decide
  rw [e, BitVec.xor_allOnes, BitVec.toNat_not, ofInt_i64 a ha, IntKind.wrap_i64]
  omega
theorem i64_same (a : Nat) (ha : a < 9223372036854775808) : bits BinOp.xor IntKind.i64 (a : Int) 0 = (a : Int) := by
  show IntKind.i64.wrap ((BitVec.ofInt 64 (a : Int) ^^^ BitVec.ofInt 64 (0 : Int)).toNat : Int) = _
  have e : BitVec.ofInt 64 (0 : Int) = 0#64 := by decide
  rw [e, BitVec.xor_zero, ofInt_i64 a ha, IntKind.wrap_i64]
  omega
theorem read_end (g : Nat) (hg : g < 18446744073709551616) : bits BinOp.xor IntKind.i64 (wrap64 ((g : Int) / 2)) (wrap64 (-wrap64 (bits BinOp.and IntKind.u64 (g : Int) 1))) = unzig g := by
  have e1 : bits BinOp.and IntKind.u64 (g : Int) 1 = ((g % 2 : Nat) : Int) := by
    have := u64_and_nat g 1 hg (by omega)
    rw [Nat.and_one_is_mod] at this
    exact this
  have e2 : wrap64 ((g : Int) / 2) = ((g / 2 : Nat) : Int) := by unfold wrap64; omega
  rw [e1, e2]
  unfold unzig
  by_cases h : g % 2 = 0
  · have e3 : wrap64 (-wrap64 ((0 : Nat) : Int)) = 0 := by unfold wrap64; omega
    rw [if_pos h, h, e3]
    exact i64_same _ (by omega)
  · have h1 : g % 2 = 1 := by omega
    have e3 : wrap64 (-wrap64 ((1 : Nat) : Int)) = -1 := by unfold wrap64; omega
    rw [if_neg h, h1, e3]
    exact i64_not _ (by omega)

/-- a number as bytes, seven bits a byte -/
def encN : Nat → Nat → List Int
  | 0, _ => []
  | k + 1, x => if x < 128 then [(x : Int)] else ((x % 128 + 128 : Nat) : Int) :: encN k (x / 128)
def enc (z : Int) : List Int := encN 10 (zig z)
theorem encN_len : ∀ (k x : Nat), (encN k x).length ≤ k := by
  intro k
  induction k with
  | zero => intro x; simp [encN]
  | succ k ih => intro x; rw [encN]; split; · simp
                 · rw [List.length_cons]; have := ih (x / 128); omega
theorem encN_pos (k x : Nat) : 0 < (encN (k + 1) x).length := by rw [encN]; split <;> simp
theorem encN_low {k x : Nat} (hk : 0 < k) (h : x < 128) : encN k x = [(x : Int)] := by
  obtain ⟨j, rfl⟩ : ∃ j, k = j + 1 := ⟨k - 1, by omega⟩
  rw [encN, if_pos h]
theorem encN_high {k x : Nat} (h : 128 ≤ x) : encN (k + 1) x = ((x % 128 + 128 : Nat) : Int) :: encN k (x / 128) := by rw [encN, if_neg (by omega)]

/-- the number that bytes begin with, how many they are, what is wrong; from byte i on, x so far -/
def getFrom (i x : Nat) : List Int → Int × Nat × Int
  | [] => (0, 0, 8)
  | c :: r => if (i = 9 ∧ 1 < c) ∨ (0 < i ∧ c = 0) then (0, 0, 2) else
    if c < 128 then (unzig (x + c.toNat % 128 * 2 ^ (7 * i)), i + 1, 0) else getFrom (i + 1) (x + c.toNat % 128 * 2 ^ (7 * i)) r
def getV (l : List Int) : Int × Nat × Int := getFrom 0 0 l
/-- what was written is read -/
theorem get_enc : ∀ (k i x y : Nat) (r : List Int), i + k = 10 → y < 128 ^ k → (0 < i → 0 < y) → x + y * 2 ^ (7 * i) < 18446744073709551616 → getFrom i x (encN k y ++ r) = (unzig (x + y * 2 ^ (7 * i)), i + (encN k y).length, 0) := by
  intro k
  induction k with
  | zero => intro i x y r h1 h2 h3 h4; have : i = 10 := by omega
            subst this; simp at h2; subst h2; have := h3 (by omega); omega
  | succ k ih =>
    intro i x y r h1 h2 h3 h4
    by_cases hy : y < 128
    · rw [encN_low (by omega) hy, List.cons_append, getFrom, if_neg, if_pos (by omega)]
      · rw [Int.toNat_natCast, Nat.mod_eq_of_lt hy]; rfl
      · rintro (⟨rfl, h5⟩ | ⟨h5, h6⟩)
        · have : 2 ≤ y := by omega
          have : 2 * 2 ^ 63 ≤ y * 2 ^ (7 * 9) := Nat.mul_le_mul this (by decide)
          omega
        · have := h3 h5; omega
    · rw [encN_high (by omega), List.cons_append, getFrom, if_neg, if_neg (by omega)]
      · have e : ((y % 128 + 128 : Nat) : Int).toNat % 128 = y % 128 := by rw [Int.toNat_natCast]; omega
        have e2 : y * 2 ^ (7 * i) = y % 128 * 2 ^ (7 * i) + y / 128 * 2 ^ (7 * (i + 1)) := by
          rw [show 7 * (i + 1) = 7 * i + 7 by omega, Nat.pow_add, show (2 : Nat) ^ 7 = 128 from rfl, Nat.mul_comm (2 ^ (7 * i)) 128, ← Nat.mul_assoc, ← Nat.add_mul]
          congr 1
          omega
        rw [e, ih (i + 1) _ (y / 128) r (by omega) (Nat.div_lt_of_lt_mul (by rw [Nat.pow_succ] at h2; omega)) (fun _ => by omega) (by omega), List.length_cons, e2, Nat.add_assoc]
        congr 2
        omega
      · rintro (⟨rfl, _⟩ | ⟨_, h6⟩)
        · have : 128 * 2 ^ 63 ≤ y * 2 ^ (7 * 9) := Nat.mul_le_mul (by omega) (by decide)
          omega
        · omega
theorem get_back (z : Int) (h1 : -9223372036854775808 ≤ z) (h2 : z < 9223372036854775808) (r : List Int) : getV (enc z ++ r) = (z, (enc z).length, 0) := by
  have h := zig_lt h1 h2
  unfold getV enc
  rw [get_enc 10 0 0 (zig z) r rfl (Nat.lt_of_lt_of_le h (by decide)) (by omega) (by simpa using h)]
  rw [Nat.zero_add, Nat.zero_add, Nat.mul_zero, Nat.pow_zero, Nat.mul_one, unzig_zig]
end Go.Proofs.Ytopncifebldklaa
