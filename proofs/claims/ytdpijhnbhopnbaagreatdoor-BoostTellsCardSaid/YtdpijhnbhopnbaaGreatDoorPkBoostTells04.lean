/- Part 4 of what LawBoostTells needs: TreeMath, Bits, Path, Code, CodeRow, Span, Side. Conditions: as each lemma names. -/
import Derived.Test.YtdpijhnbhopnbaaGreatDoorPkBoostTells03
import Derived.Test.YtdpijhnbhopnbaaGreatDoorPkBoostTells01
import Derived.Laws.BitsAllLaws
import Derived.Laws.BitsLemmas
import Derived.WalkSpells
import Derived.Deep.DeepMust
import Derived.Test.YtdpijhnbhopnbaaGreatDoorPkBoostTells02
/- Plain laws of trees: how many leaves, how deep; no program in sight. Conditions: a tree that is right. -/
namespace Go.Proofs.YtdpijhnbhopnbaaGreatDoor
set_option linter.unusedVariables false
set_option linter.unusedSimpArgs false
open Go.RowKit

/-- a row of the call's own stays so where all that was there stays -/
theorem own_below {w w' : World} {base : Nat} {e : TypeId} {size n : Nat} {v : Value} {xs : List Value} (h : w.ownsRow base e size v n xs) (hb : Below w.heap.size w w') : w'.ownsRow base e size v n xs := by
  refine ⟨h.1, ?_⟩
  rcases h.2 with hn | ⟨g, cap, cur, rfl, hg, hh, rest⟩
  · exact .inl hn
  · exact .inr ⟨g, cap, cur, rfl, hg, (hb.block g (Array.getElem?_eq_some_iff.1 hh).1).trans hh, rest⟩

/-! ### sums -/
def sumTo (f : Nat → Nat) : Nat → Nat
  | 0 => 0
  | n + 1 => sumTo f n + f n
theorem sumTo_add (f g : Nat → Nat) (n : Nat) : sumTo (fun j => f j + g j) n = sumTo f n + sumTo g n := by
  induction n with
  | zero => rfl
  | succ n ih => simp only [sumTo, ih]; omega
theorem sumTo_congr {f g : Nat → Nat} {n : Nat} (h : ∀ j, j < n → f j = g j) : sumTo f n = sumTo g n := by
  induction n with
  | zero => rfl
  | succ n ih => rw [sumTo, sumTo, ih (fun j hj => h j (by omega)), h n (by omega)]
theorem sumTo_zero (n : Nat) : sumTo (fun _ => 0) n = 0 := by
  induction n with
  | zero => rfl
  | succ n ih => rw [sumTo, ih]
theorem sumTo_one (a : Nat) (g : Nat → Nat) (n : Nat) : sumTo (fun j => (if a = j then 1 else 0) * g j) n = if a < n then g a else 0 := by
  induction n with
  | zero => simp [sumTo]
  | succ n ih =>
    rw [sumTo, ih]
    by_cases h1 : a = n
    · subst h1; simp
    · by_cases h2 : a < n
      · rw [if_pos h2, if_neg h1, if_pos (by omega)]; omega
      · rw [if_neg h2, if_neg h1, if_neg (by omega)]; omega
theorem sumTo_one_int (a : Int) (h0 : 0 ≤ a) (g : Nat → Nat) (n : Nat) (hn : a < n) : sumTo (fun j => (if a = (j : Int) then 1 else 0) * g j) n = g a.toNat := by
  have : sumTo (fun j => (if a = (j : Int) then 1 else 0) * g j) n = sumTo (fun j => (if a.toNat = j then 1 else 0) * g j) n := by
    refine sumTo_congr fun j _ => ?_
    by_cases h : a = (j : Int)
    · rw [if_pos h, if_pos (by omega)]
    · rw [if_neg h, if_neg (by omega)]
  rw [this, sumTo_one, if_pos (by omega)]
/-- what the nodes of a list sum up of g over what is below them -/
def kids (g : Nat → Nat) : List Nd → Nat
  | [] => 0
  | n :: r => (if n.f = -1 then 0 else g n.l.toNat + g n.r.toNat) + kids g r
theorem kids_eq (g : Nat → Nat) (N : Nat) : ∀ t : List Nd, (∀ n ∈ t, n.f ≠ -1 → 0 ≤ n.l ∧ n.l < N ∧ 0 ≤ n.r ∧ n.r < N) → sumTo (fun j => ups t j * g j) N = kids g t := by
  intro t
  induction t with
  | nil => intro _; simp [ups, kids, sumTo_zero]
  | cons n r ih =>
    intro h
    rw [kids, ← ih (fun x hx => h x (List.mem_cons_of_mem _ hx))]
    have e : sumTo (fun j => ups (n :: r) j * g j) N = sumTo (fun j => kid n j * g j) N + sumTo (fun j => ups r j * g j) N := by
      rw [← sumTo_add]
      exact sumTo_congr fun j _ => by rw [ups, Nat.add_mul]
    rw [e]
    congr 1
    by_cases hf : n.f = -1
    · rw [if_pos hf]
      rw [sumTo_congr (g := fun _ => 0) (fun j _ => by unfold kid; rw [if_pos hf, Nat.zero_mul]), sumTo_zero]
    · rw [if_neg hf]
      obtain ⟨h1, h2, h3, h4⟩ := h n (List.mem_cons_self ..) hf
      rw [sumTo_congr (g := fun j => (if n.l = (j : Int) then 1 else 0) * g j + (if n.r = (j : Int) then 1 else 0) * g j) (fun j _ => by unfold kid; rw [if_neg hf, Nat.add_mul]), sumTo_add,
        sumTo_one_int _ h1 g N h2, sumTo_one_int _ h3 g N h4]

theorem ups_first {t : List Nd} (h : ∀ n ∈ t, n.f ≠ -1 → 0 < n.l ∧ 0 < n.r) : ups t 0 = 0 := by
  induction t with
  | nil => rfl
  | cons n r ih =>
    rw [ups, ih (fun x hx => h x (List.mem_cons_of_mem _ hx))]
    unfold kid
    by_cases hf : n.f = -1
    · rw [if_pos hf]
    · have := h n (List.mem_cons_self ..) hf
      rw [if_neg hf, if_neg (by omega), if_neg (by omega)]
theorem mem_at {t : List Nd} {n : Nd} (h : n ∈ t) : ∃ i : Nat, t[i]? = some n := List.mem_iff_getElem?.1 h
/-- of a right tree: all nodes but the root are below one -/
theorem Right.sum {t : List Nd} {fe : Int} (h : Right t fe) (g : Nat → Nat) : sumTo g t.length = g 0 + kids g t := by
  have hb := h.behind
  rw [← kids_eq g t.length t (fun n hn hf => by obtain ⟨i, hi⟩ := mem_at hn; obtain ⟨a, b, c, d⟩ := hb i n hi hf; exact ⟨by omega, b, by omega, d⟩)]
  have h0 := ups_first (t := t) (fun n hn hf => by obtain ⟨i, hi⟩ := mem_at hn; obtain ⟨a, b, c, d⟩ := hb i n hi hf; exact ⟨by omega, by omega⟩)
  have key : ∀ N : Nat, 0 < N → N ≤ t.length → sumTo g N = g 0 + sumTo (fun j => ups t j * g j) N := by
    intro N
    induction N with
    | zero => intro h; omega
    | succ N ih =>
      intro _ hN
      rcases Nat.eq_zero_or_pos N with rfl | hp
      · simp [sumTo, h0]
      · rw [sumTo, ih hp (by omega), sumTo, h.one N hp (by omega)]; omega
  exact key _ h.pos (Nat.le_refl _)

/-! ### how many leaves are below a node -/
def cnts (i : Nat) : List Nd → List Nat
  | [] => []
  | n :: r => (if n.f = -1 then 1 else (cnts (i + 1) r).getD (n.l.toNat - (i + 1)) 0 + (cnts (i + 1) r).getD (n.r.toNat - (i + 1)) 0) :: cnts (i + 1) r
def cnt (t : List Nd) (j : Nat) : Nat := (cnts 0 t).getD j 0
theorem cnts_len : ∀ (t : List Nd) (i : Nat), (cnts i t).length = t.length := by
  intro t
  induction t with
  | nil => intro i; rfl
  | cons n r ih => intro i; rw [cnts, List.length_cons, ih, List.length_cons]
theorem cnts_drop : ∀ (t : List Nd) (i k : Nat), (cnts i t).drop k = cnts (i + k) (t.drop k) := by
  intro t
  induction t with
  | nil => intro i k; simp [cnts]
  | cons n r ih =>
    intro i k
    cases k with
    | zero => rfl
    | succ k => rw [cnts, List.drop_succ_cons, ih, List.drop_succ_cons, show i + 1 + k = i + (k + 1) by omega]
theorem cnt_at {t : List Nd} {i : Nat} {n : Nd} (h : t[i]? = some n) (hl : n.f ≠ -1 → (i : Int) < n.l) (hr : n.f ≠ -1 → (i : Int) < n.r) : cnt t i = if n.f = -1 then 1 else cnt t n.l.toNat + cnt t n.r.toNat := by
  have h1 := cnts_drop t 0 i
  rw [Nat.zero_add, drop_at h, cnts] at h1
  have hi : i < (cnts 0 t).length := by rw [cnts_len]; exact (List.getElem?_eq_some_iff.1 h).1
  have h2 : (cnts 0 t)[i]? = some ((cnts 0 t)[i]) := List.getElem?_eq_getElem hi
  have h3 := drop_at h2
  rw [h1] at h3
  injection h3 with h4 h5
  unfold cnt
  rw [List.getD_eq_getElem?_getD, h2, Option.getD_some, ← h4]
  by_cases hf : n.f = -1
  · rw [if_pos hf, if_pos hf]
  · rw [if_neg hf, if_neg hf]
    have key : ∀ m : Nat, i < m → (cnts (i + 1) (t.drop (i + 1))).getD (m - (i + 1)) 0 = (cnts 0 t).getD m 0 := by
      intro m hm
      rw [h5, List.getD_eq_getElem?_getD, List.getElem?_drop, List.getD_eq_getElem?_getD, show i + 1 + (m - (i + 1)) = m by omega]
    rw [key _ (by have := hl hf; omega), key _ (by have := hr hf; omega)]

theorem cnt_dep {t : List Nd} (hb : Behind t) : ∀ (m i : Nat), i < t.length → t.length ≤ i + m → dep t i + 1 ≤ cnt t i ∧ cnt t i ≤ 2 ^ dep t i := by
  intro m
  induction m with
  | zero => intro i h1 h2; omega
  | succ m ih =>
    intro i h1 h2
    have hn : t[i]? = some t[i] := List.getElem?_eq_getElem h1
    have hx := fun hf => hb i _ hn hf
    rw [dep_at hn (fun hf => (hx hf).1) (fun hf => (hx hf).2.2.1), cnt_at hn (fun hf => (hx hf).1) (fun hf => (hx hf).2.2.1)]
    by_cases hf : (t[i]).f = -1
    · rw [if_pos hf, if_pos hf]; exact ⟨Nat.le_refl _, Nat.le_refl _⟩
    · rw [if_neg hf, if_neg hf]
      obtain ⟨a, b, c, d⟩ := hx hf
      obtain ⟨p1, p2⟩ := ih (t[i]).l.toNat (by omega) (by omega)
      obtain ⟨q1, q2⟩ := ih (t[i]).r.toNat (by omega) (by omega)
      generalize dep t (t[i]).l.toNat = x at *
      generalize dep t (t[i]).r.toNat = y at *
      have e1 : 2 ^ x ≤ 2 ^ max x y := Nat.pow_le_pow_right (by omega) (Nat.le_max_left _ _)
      have e2 : 2 ^ y ≤ 2 ^ max x y := Nat.pow_le_pow_right (by omega) (Nat.le_max_right _ _)
      have e3 : 2 ^ (1 + max x y) = 2 ^ max x y + 2 ^ max x y := by rw [Nat.add_comm, Nat.pow_succ]; omega
      refine ⟨by omega, by omega⟩

def nLeaf : List Nd → Nat
  | [] => 0
  | n :: r => (if n.f = -1 then 1 else 0) + nLeaf r
theorem leavesFrom_count (t : List Nd) : ∀ i, (leavesFrom i t).length = nLeaf t := by
  induction t with
  | nil => intro i; rfl
  | cons n r ih =>
    intro i
    rw [leavesFrom, nLeaf]
    split <;> simp [ih]; omega
theorem kids_const (t : List Nd) : kids (fun _ => 1) t + 2 * nLeaf t = 2 * t.length := by
  induction t with
  | nil => rfl
  | cons n r ih => rw [kids, nLeaf, List.length_cons]; split <;> omega
theorem sumTo_const (n : Nat) : sumTo (fun _ => 1) n = n := by
  induction n with
  | zero => rfl
  | succ n ih => rw [sumTo, ih]
/-- one more are leaves than ask -/
theorem Right.halves {t : List Nd} {fe : Int} (h : Right t fe) : 2 * nLeaf t = t.length + 1 := by
  have h1 := h.sum (fun _ => 1)
  rw [sumTo_const] at h1
  have h2 := kids_const t
  omega
theorem sum_list (g : Nat → Nat) : ∀ (t : List Nd) (i : Nat), sumTo (fun j => g (i + j)) t.length + sumTo g i = sumTo g (i + t.length) := by
  intro t
  induction t with
  | nil => intro i; simp [sumTo]
  | cons n r ih =>
    intro i
    rw [List.length_cons, sumTo, show i + (r.length + 1) = (i + r.length) + 1 by omega, sumTo, ← ih i]
    omega
/-- all leaves are below the root -/
theorem Right.all_below {t : List Nd} {fe : Int} (h : Right t fe) : nLeaf t = cnt t 0 := by
  have hb := h.behind
  have h1 := h.sum (cnt t)
  have key : ∀ k : Nat, k ≤ t.length → sumTo (cnt t) k = nLeaf (t.take k) + kids (cnt t) (t.take k) := by
    intro k
    induction k with
    | zero => intro _; simp [sumTo, nLeaf, kids]
    | succ k ih =>
      intro hk
      have hn : t[k]? = some t[k] := List.getElem?_eq_getElem (by omega)
      have hx := fun hf => hb k _ hn hf
      have ap : ∀ (a : List Nd) (n : Nd), nLeaf (a ++ [n]) = nLeaf a + (if n.f = -1 then 1 else 0) ∧ kids (cnt t) (a ++ [n]) = kids (cnt t) a + (if n.f = -1 then 0 else cnt t n.l.toNat + cnt t n.r.toNat) := by
        intro a n
        induction a with
        | nil => simp [nLeaf, kids]
        | cons y a ih2 => rw [List.cons_append, nLeaf, kids, ih2.1, ih2.2, nLeaf, kids]; omega
      rw [sumTo, ih (by omega), take_next hn, (ap _ _).1, (ap _ _).2, cnt_at hn (fun hf => (hx hf).1) (fun hf => (hx hf).2.2.1)]
      split <;> omega
  have h2 := key t.length (Nat.le_refl _)
  rw [List.take_length] at h2
  omega
theorem Right.bounds {t : List Nd} {fe : Int} (h : Right t fe) : dep t 0 + 1 ≤ nLeaf t ∧ nLeaf t ≤ 2 ^ dep t 0 := by
  rw [h.all_below]
  exact cnt_dep h.behind t.length 0 h.pos (by omega)
end Go.Proofs.YtdpijhnbhopnbaaGreatDoor
/- Plain facts on bits, and the numbers of chapter 14 as lists of bytes. Conditions: as each lemma names. -/
namespace Go.Proofs.YtdpijhnbhopnbaaGreatDoor
set_option linter.unusedVariables false
set_option linter.unusedSimpArgs false
open Go.RowKit

/-- a number as one that is not below 0 -/
def zig (z : Int) : Nat := if 0 ≤ z then (2 * z).toNat else (-2 * z - 1).toNat
def unzig (g : Nat) : Int := if g % 2 = 0 then ((g / 2 : Nat) : Int) else -((g / 2 : Nat) : Int) - 1
theorem unzig_zig (z : Int) : unzig (zig z) = z := by
  unfold unzig zig
  by_cases h : 0 ≤ z
  · rw [if_pos h, if_pos (by omega)]; omega
  · rw [if_neg h, if_neg (by omega)]; omega
theorem zig_lt {z : Int} (h1 : -9223372036854775808 ≤ z) (h2 : z < 9223372036854775808) : zig z < 18446744073709551616 := by
  unfold zig; split <;> omega

theorem xor_ones (a : Nat) (ha : a < 18446744073709551616) : a ^^^ 18446744073709551615 = 18446744073709551615 - a := by
  have h := congrArg BitVec.toNat (BitVec.xor_allOnes (x := BitVec.ofNat 64 a))
  rw [BitVec.toNat_xor, BitVec.toNat_not, BitVec.toNat_allOnes, BitVec.toNat_ofNat] at h
  rw [Nat.mod_eq_of_lt (by omega)] at h
  exact h
theorem zig_pos (z : Int) (h1 : 0 ≤ z) (h2 : z < 9223372036854775808) : bits BinOp.xor IntKind.u64 (z * 2) (z / 9223372036854775808) = ((zig z : Nat) : Int) := by
  have e : z / 9223372036854775808 = 0 := by omega
  rw [e, u64_xor _ _ (by omega) (by omega) (by omega) (by omega)]
  unfold zig
  rw [if_pos h1]
  simp
  omega
theorem zig_neg (z : Int) (h1 : -9223372036854775808 ≤ z) (h2 : z < 0) : bits BinOp.xor IntKind.u64 (IntKind.u64.wrap (IntKind.u64.wrap z * 2)) (IntKind.u64.wrap (z / 9223372036854775808)) = ((zig z : Nat) : Int) := by
  have e0 : z / 9223372036854775808 = -1 := by omega
  have e1 : IntKind.u64.wrap (-1) = 18446744073709551615 := by rw [IntKind.wrap_u64]; decide
  have e2 : IntKind.u64.wrap (IntKind.u64.wrap z * 2) = 2 * z + 18446744073709551616 := by rw [IntKind.wrap_u64, IntKind.wrap_u64]; omega
  rw [e0, e1, e2, u64_xor _ _ (by omega) (by omega) (by omega) (by omega)]
  have e3 : (18446744073709551615 : Int).toNat = 18446744073709551615 := rfl
  rw [e3, xor_ones _ (by omega)]
  unfold zig
  rw [if_neg (by omega)]
  omega
theorem or128 : ∀ v : Fin 256, (v.val ||| 128) = v.val % 128 + 128 := by decide +kernel
theorem byte_more (x : Nat) : bits BinOp.or IntKind.u8 ((x : Int) % 256) 128 = ((x % 128 + 128 : Nat) : Int) := by
  rw [u8_or _ _ (by omega) (by omega) (by omega) (by omega)]
  have e : ((x : Int) % 256).toNat = x % 256 := by omega
  have := or128 ⟨x % 256, by omega⟩
  simp only at this
  rw [e, show (128 : Int).toNat = 128 from rfl, this]
  omega
theorem byte_low (y : Nat) (h : y < 256) : bits BinOp.and IntKind.u8 (y : Int) 127 = ((y % 128 : Nat) : Int) := by
  rw [u8_and _ _ (by omega) (by omega) (by omega) (by omega)]
  have : ∀ v : Fin 256, (v.val &&& 127) = v.val % 128 := by decide +kernel
  have := this ⟨y, h⟩
  simp only at this
  rw [Int.toNat_natCast, show (127 : Int).toNat = 127 from rfl, this]
theorem or_add (x y k : Nat) (hx : x < 2 ^ k) : x ||| (y * 2 ^ k) = x + y * 2 ^ k := by
  have h := Nat.two_pow_add_eq_or_of_lt hx y
  rw [Nat.or_comm, Nat.mul_comm, ← h]
  omega
/-- one byte more of a number that is read -/
theorem read_more (x y k : Nat) (hx : x < 2 ^ (7 * k)) (hy : y < 256) (hs : x + y % 128 * 2 ^ (7 * k) < 18446744073709551616) :
    bits BinOp.or IntKind.u64 (x : Int) (IntKind.u64.wrap (IntKind.u64.wrap (bits BinOp.and IntKind.u8 (y : Int) 127) * 2 ^ (7 * k))) = ((x + y % 128 * 2 ^ (7 * k) : Nat) : Int) := by
  have e1 : IntKind.u64.wrap (((y % 128 : Nat) : Int)) = ((y % 128 : Nat) : Int) := by rw [IntKind.wrap_u64]; omega
  have e2 : (((y % 128 : Nat) : Int) * 2 ^ (7 * k)) = ((y % 128 * 2 ^ (7 * k) : Nat) : Int) := by rw [Int.natCast_mul, Int.natCast_pow]; rfl
  rw [byte_low y hy, e1, e2]
  generalize hp : y % 128 * 2 ^ (7 * k) = q at hs
  have e3 : IntKind.u64.wrap ((q : Nat) : Int) = (q : Int) := by rw [IntKind.wrap_u64]; omega
  rw [e3, u64_or_nat _ _ (by omega) (by omega), ← hp, or_add _ _ _ hx]
theorem ofInt_i64 (a : Nat) (ha : a < 9223372036854775808) : (BitVec.ofInt 64 (a : Int)).toNat = a := by
  rw [BitVec.ofInt_natCast, BitVec.toNat_ofNat]; exact Nat.mod_eq_of_lt (by omega)
theorem i64_not (a : Nat) (ha : a < 9223372036854775808) : bits BinOp.xor IntKind.i64 (a : Int) (-1) = -(a : Int) - 1 := by
  show IntKind.i64.wrap ((BitVec.ofInt 64 (a : Int) ^^^ BitVec.ofInt 64 (-1 : Int)).toNat : Int) = _
  have e : BitVec.ofInt 64 (-1 : Int) = BitVec.allOnes 64 := by decide
  rw [e, BitVec.xor_allOnes, BitVec.toNat_not, ofInt_i64 a ha, IntKind.wrap_i64]
  omega
theorem i64_same (a : Nat) (ha : a < 9223372036854775808) : bits BinOp.xor IntKind.i64 (a : Int) 0 = (a : Int) := by
  show IntKind.i64.wrap ((BitVec.ofInt 64 (a : Int) ^^^ BitVec.ofInt 64 (0 : Int)).toNat : Int) = _
  have e : BitVec.ofInt 64 (0 : Int) = 0#64 := by decide
  rw [e, BitVec.xor_zero, ofInt_i64 a ha, IntKind.wrap_i64]
  omega
theorem read_end (g : Nat) (hg : g < 18446744073709551616) : bits BinOp.xor IntKind.i64 (wrap64 ((g : Int) / 2)) (wrap64 (-wrap64 (bits BinOp.and IntKind.u64 (g : Int) 1))) = unzig g := by
  have e1 : bits BinOp.and IntKind.u64 (g : Int) 1 = ((g % 2 : Nat) : Int) := by
    have := u64_and_nat g 1 hg (by omega)
    rw [Nat.and_one_is_mod] at this
    exact this
  have e2 : wrap64 ((g : Int) / 2) = ((g / 2 : Nat) : Int) := by unfold wrap64; omega
  rw [e1, e2]
  unfold unzig
  by_cases h : g % 2 = 0
  · have e3 : wrap64 (-wrap64 ((0 : Nat) : Int)) = 0 := by unfold wrap64; omega
    rw [if_pos h, h, e3]
    exact i64_same _ (by omega)
  · have h1 : g % 2 = 1 := by omega
    have e3 : wrap64 (-wrap64 ((1 : Nat) : Int)) = -1 := by unfold wrap64; omega
    rw [if_neg h, h1, e3]
    exact i64_not _ (by omega)

/-- a number as bytes, seven bits a byte -/
def encN : Nat → Nat → List Int
  | 0, _ => []
  | k + 1, x => if x < 128 then [(x : Int)] else ((x % 128 + 128 : Nat) : Int) :: encN k (x / 128)
def enc (z : Int) : List Int := encN 10 (zig z)
theorem encN_len : ∀ (k x : Nat), (encN k x).length ≤ k := by
  intro k
  induction k with
  | zero => intro x; simp [encN]
  | succ k ih => intro x; rw [encN]; split; · simp
                 · rw [List.length_cons]; have := ih (x / 128); omega
theorem encN_pos (k x : Nat) : 0 < (encN (k + 1) x).length := by rw [encN]; split <;> simp
theorem encN_low {k x : Nat} (hk : 0 < k) (h : x < 128) : encN k x = [(x : Int)] := by
  obtain ⟨j, rfl⟩ : ∃ j, k = j + 1 := ⟨k - 1, by omega⟩
  rw [encN, if_pos h]
theorem encN_high {k x : Nat} (h : 128 ≤ x) : encN (k + 1) x = ((x % 128 + 128 : Nat) : Int) :: encN k (x / 128) := by rw [encN, if_neg (by omega)]

/-- the number that bytes begin with, how many they are, what is wrong; from byte i on, x so far -/
def getFrom (i x : Nat) : List Int → Int × Nat × Int
  | [] => (0, 0, 8)
  | c :: r => if (i = 9 ∧ 1 < c) ∨ (0 < i ∧ c = 0) then (0, 0, 2) else
    if c < 128 then (unzig (x + c.toNat % 128 * 2 ^ (7 * i)), i + 1, 0) else getFrom (i + 1) (x + c.toNat % 128 * 2 ^ (7 * i)) r
def getV (l : List Int) : Int × Nat × Int := getFrom 0 0 l
/-- what was written is read -/
theorem get_enc : ∀ (k i x y : Nat) (r : List Int), i + k = 10 → y < 128 ^ k → (0 < i → 0 < y) → x + y * 2 ^ (7 * i) < 18446744073709551616 → getFrom i x (encN k y ++ r) = (unzig (x + y * 2 ^ (7 * i)), i + (encN k y).length, 0) := by
  intro k
  induction k with
  | zero => intro i x y r h1 h2 h3 h4; have : i = 10 := by omega
            subst this; simp at h2; subst h2; have := h3 (by omega); omega
  | succ k ih =>
    intro i x y r h1 h2 h3 h4
    by_cases hy : y < 128
    · rw [encN_low (by omega) hy, List.cons_append, getFrom, if_neg, if_pos (by omega)]
      · rw [Int.toNat_natCast, Nat.mod_eq_of_lt hy]; rfl
      · rintro (⟨rfl, h5⟩ | ⟨h5, h6⟩)
        · have : 2 ≤ y := by omega
          have : 2 * 2 ^ 63 ≤ y * 2 ^ (7 * 9) := Nat.mul_le_mul this (by decide)
          omega
        · have := h3 h5; omega
    · rw [encN_high (by omega), List.cons_append, getFrom, if_neg, if_neg (by omega)]
      · have e : ((y % 128 + 128 : Nat) : Int).toNat % 128 = y % 128 := by rw [Int.toNat_natCast]; omega
        have e2 : y * 2 ^ (7 * i) = y % 128 * 2 ^ (7 * i) + y / 128 * 2 ^ (7 * (i + 1)) := by
          rw [show 7 * (i + 1) = 7 * i + 7 by omega, Nat.pow_add, show (2 : Nat) ^ 7 = 128 from rfl, Nat.mul_comm (2 ^ (7 * i)) 128, ← Nat.mul_assoc, ← Nat.add_mul]
          congr 1
          omega
        rw [e, ih (i + 1) _ (y / 128) r (by omega) (Nat.div_lt_of_lt_mul (by rw [Nat.pow_succ] at h2; omega)) (fun _ => by omega) (by omega), List.length_cons, e2, Nat.add_assoc]
        congr 2
        omega
      · rintro (⟨rfl, _⟩ | ⟨_, h6⟩)
        · have : 128 * 2 ^ 63 ≤ y * 2 ^ (7 * 9) := Nat.mul_le_mul (by omega) (by decide)
          omega
        · omega
theorem get_back (z : Int) (h1 : -9223372036854775808 ≤ z) (h2 : z < 9223372036854775808) (r : List Int) : getV (enc z ++ r) = (z, (enc z).length, 0) := by
  have h := zig_lt h1 h2
  unfold getV enc
  rw [get_enc 10 0 0 (zig z) r rfl (Nat.lt_of_lt_of_le h (by decide)) (by omega) (by simpa using h)]
  rw [Nat.zero_add, Nat.zero_add, Nat.mul_zero, Nat.pow_zero, Nat.mul_one, unzig_zig]
end Go.Proofs.YtdpijhnbhopnbaaGreatDoor
/- path.Path: the way of a row. Conditions: arguments read as lists. -/
namespace Go.Proofs.YtdpijhnbhopnbaaGreatDoor
set_option linter.unusedVariables false
set_option linter.unusedSimpArgs false
open Go.RowKit

/-- the nodes behind a node on the way of a row -/
def wayFrom (t : List Nd) (row : List Int) : Nat → Nat → List Int
  | 0, _ => []
  | k + 1, i => match t[i]? with
    | some n => if n.f = -1 then [] else nextOf n (cellAt row n.f) :: wayFrom t row k (nextOf n (cellAt row n.f)).toNat
    | none => []
theorem wayFrom_leaf {t : List Nd} {row : List Int} {k i : Nat} {n : Nd} (h : t[i]? = some n) (hf : n.f = -1) : wayFrom t row k i = [] := by
  cases k with
  | zero => rfl
  | succ k => simp only [wayFrom, h, hf, if_true]
theorem wayFrom_step {t : List Nd} {row : List Int} {k i : Nat} {n : Nd} (h : t[i]? = some n) (hf : n.f ≠ -1) : wayFrom t row (k + 1) i = nextOf n (cellAt row n.f) :: wayFrom t row k (nextOf n (cellAt row n.f)).toNat := by
  simp only [wayFrom, h, hf, if_false]
theorem wayFrom_len {t : List Nd} {row : List Int} (hb : Behind t) : ∀ (k i : Nat), i < t.length → (wayFrom t row k i).length ≤ dep t i := by
  intro k
  induction k with
  | zero => intro i _; exact Nat.zero_le _
  | succ k ih =>
    intro i hi
    have hn : t[i]? = some t[i] := List.getElem?_eq_getElem hi
    by_cases hf : (t[i]).f = -1
    · rw [wayFrom_leaf hn hf]; exact Nat.zero_le _
    · obtain ⟨a, b, c, d⟩ := hb i _ hn hf
      rw [wayFrom_step hn hf, List.length_cons, dep_at hn (fun _ => a) (fun _ => c), if_neg hf]
      have e : nextOf t[i] (cellAt row (t[i]).f) = (t[i]).l ∨ nextOf t[i] (cellAt row (t[i]).f) = (t[i]).r := by
        unfold nextOf; split
        · exact .inl rfl
        · exact .inr rfl
      rcases e with e | e
      · rw [e]
        have := ih (t[i]).l.toNat (by omega)
        have := Nat.le_max_left (dep t (t[i]).l.toNat) (dep t (t[i]).r.toNat)
        omega
      · rw [e]
        have := ih (t[i]).r.toNat (by omega)
        have := Nat.le_max_right (dep t (t[i]).l.toNat) (dep t (t[i]).r.toNat)
        omega
def pathV (t : List Nd) (row : List Int) : List Int := if readyE t row = 0 then 0 :: wayFrom t row t.length 0 else []
def PathPost (t : List Nd) (row : List Int) (w : World) (e : Ending) (w' : World) : Prop :=
  ∃ v, e = .returned (.tuple #[v, errV (readyE t row)]) ∧ w'.ownsRow w.heap.size 3 1 v (pathV t row).length ((pathV t row).map (Value.int .i64)) ∧ Below w.heap.size w w'

end Go.Proofs.YtdpijhnbhopnbaaGreatDoor
/- Chapter 14's numbers: code.add, slices.Clone of bytes, code.Num, code.Get. Conditions: as each lemma names. -/
namespace Go.Proofs.YtdpijhnbhopnbaaGreatDoor
set_option linter.unusedVariables false
set_option linter.unusedSimpArgs false
open Go.RowKit

def BReads (w : World) (B : Nat) (A : Option Addr) (n : Nat) (l : List Int) : Prop := Reads w B 1 A n (l.map (Value.int .u8))
theorem BReads.len {w : World} {B n : Nat} {A : Option Addr} {l : List Int} (h : BReads w B A n l) : l.length = n := by have := h.1; simpa using this
theorem BReads.get {w : World} {B n : Nat} {A : Option Addr} {l : List Int} (h : BReads w B A n l) {k : Nat} (hk : k < n) :
    ∃ b off x, A = some ⟨b, off, none⟩ ∧ b < B ∧ l[k]? = some x ∧ w.cell? ⟨b, off + k, none⟩ = some (.int .u8 x) := by
  obtain ⟨b, off, rfl, hb, hc⟩ := Reads.spot h (by omega) (by omega)
  have hl : k < l.length := by rw [h.len]; exact hk
  exact ⟨b, off, l[k], rfl, hb, List.getElem?_eq_getElem hl, hc k _ (by simp [hl])⟩

/-- a row of bytes of the call's own, and what was put behind it -/
def AddPost (base n : Nat) (bs : List Int) (w : World) (e : Ending) (w' : World) : Prop :=
  ∃ v, e = .returned v ∧ w'.ownsRow base 5 1 v n (bs.map (Value.int .u8)) ∧ Below base w w'

theorem get_err {l : List Int} {k x : Nat} {y : Int} (h : l[k]? = some y) (hf : getFrom k x (l.drop k) = getV l) (he : (k = 9 ∧ 1 < y) ∨ (0 < k ∧ y = 0)) : getV l = (0, 0, 2) := by
  rw [← hf, drop_at h, getFrom, if_pos he]
theorem get_done {l : List Int} {k x : Nat} {y : Nat} (h : l[k]? = some (y : Int)) (hf : getFrom k x (l.drop k) = getV l) (he : ¬ ((k = 9 ∧ 1 < (y : Int)) ∨ (0 < k ∧ (y : Int) = 0))) (hy : y < 128) : getV l = (unzig (x + y % 128 * 2 ^ (7 * k)), k + 1, 0) := by
  rw [← hf, drop_at h, getFrom, if_neg he, if_pos (by omega), Int.toNat_natCast]
theorem get_next {l : List Int} {k x : Nat} {y : Nat} (h : l[k]? = some (y : Int)) (hf : getFrom k x (l.drop k) = getV l) (he : ¬ ((k = 9 ∧ 1 < (y : Int)) ∨ (0 < k ∧ (y : Int) = 0))) (hy : ¬ y < 128) : getFrom (k + 1) (x + y % 128 * 2 ^ (7 * k)) (l.drop (k + 1)) = getV l := by
  rw [← hf, drop_at h, getFrom, if_neg he, if_neg (by omega), Int.toNat_natCast]
theorem get_bound {k x y : Nat} (hk : k ≤ 9) (hx : x < 2 ^ (7 * k)) (hy : k = 9 → y ≤ 1) : x + y % 128 * 2 ^ (7 * k) < 18446744073709551616 := by
  have h : y % 128 * 2 ^ (7 * k) + 2 ^ (7 * k) = (y % 128 + 1) * 2 ^ (7 * k) := by rw [Nat.add_mul, Nat.one_mul]
  by_cases h9 : k = 9
  · subst h9
    have : y % 128 + 1 ≤ 2 := by have := hy rfl; omega
    have := Nat.mul_le_mul_right (2 ^ (7 * 9)) this
    have e : (2 : Nat) * 2 ^ (7 * 9) = 18446744073709551616 := by decide
    omega
  · have h8 : 2 ^ (7 * k) ≤ 2 ^ 56 := Nat.pow_le_pow_right (by omega) (by omega)
    have := Nat.mul_le_mul (show y % 128 + 1 ≤ 128 by omega) h8
    have e : (128 : Nat) * 2 ^ 56 = 9223372036854775808 := by decide
    omega
theorem get_small {k x y : Nat} (hx : x < 2 ^ (7 * k)) : x + y % 128 * 2 ^ (7 * k) < 2 ^ (7 * (k + 1)) := by
  have h : y % 128 * 2 ^ (7 * k) + 2 ^ (7 * k) = (y % 128 + 1) * 2 ^ (7 * k) := by rw [Nat.add_mul, Nat.one_mul]
  have := Nat.mul_le_mul_right (2 ^ (7 * k)) (show y % 128 + 1 ≤ 128 by omega)
  have e : 2 ^ (7 * (k + 1)) = 128 * 2 ^ (7 * k) := by rw [show 7 * (k + 1) = 7 * k + 7 by omega, Nat.pow_add, Nat.mul_comm]
  omega

end Go.Proofs.YtdpijhnbhopnbaaGreatDoor
/- CodeRow: the walk of the law's function. Conditions: the argument reads as a list of ints. -/
namespace Go.Proofs.YtdpijhnbhopnbaaGreatDoor
set_option linter.unusedVariables false
set_option linter.unusedSimpArgs false
open Go.RowKit

theorem own_base {w : World} {base base' : Nat} {e : TypeId} {size n : Nat} {v : Value} {xs : List Value} (h : w.ownsRow base e size v n xs) (hb : base' ≤ base) : w.ownsRow base' e size v n xs := by
  refine ⟨h.1, ?_⟩
  rcases h.2 with hn | ⟨g, cap, cur, rfl, hg, rest⟩
  · exact .inl hn
  · exact .inr ⟨g, cap, cur, rfl, Nat.le_trans hb hg, rest⟩
theorem own_slice2 {w : World} {base : Nat} {e : TypeId} {size n : Nat} {v : Value} {xs : List Value} (h : w.ownsRow base e size v n xs) : ∃ A c, v = .slice A n c ∧ Reads w w.heap.size size A n xs ∧ n ≤ maxLen ∧ n ≤ c ∧ (A = none → c = 0) ∧ (∀ a, A = some a → base ≤ a.block) := by
  rcases h.2 with ⟨rfl, rfl⟩ | ⟨g, cap, cur, rfl, hg, _, h1, h2, _⟩
  · exact ⟨none, 0, rfl, ⟨h.1, fun h0 => absurd h0 (by omega)⟩, Nat.zero_le _, Nat.le_refl _, fun _ => rfl, fun a e => by cases e⟩
  · exact ⟨_, _, rfl, Reads.of_own h, Nat.le_trans h1 h2, h1, fun e => (by cases e), fun a e => by injection e with e; subst e; exact hg⟩

def encs (l : List Int) : List Int := l.flatMap enc
theorem encs_next {l : List Int} {k : Nat} {x : Int} (h : l[k]? = some x) : encs (l.take (k + 1)) = encs (l.take k) ++ enc x := by
  unfold encs; rw [take_next h, List.flatMap_append]; simp
theorem enc_len (z : Int) : 1 ≤ (enc z).length ∧ (enc z).length ≤ 10 := ⟨encN_pos 9 _, encN_len 10 _⟩
theorem encs_len (l : List Int) : (encs l).length ≤ 10 * l.length := by
  induction l with
  | nil => simp [encs]
  | cons x r ih => unfold encs at *; rw [List.flatMap_cons, List.length_append, List.length_cons]; have := (enc_len x).2; omega
theorem encN_bytes : ∀ (k x : Nat), ∀ y ∈ encN k x, 0 ≤ y ∧ y < 256 := by
  intro k
  induction k with
  | zero => intro x y h; simp [encN] at h
  | succ k ih =>
    intro x y h
    rw [encN] at h
    split at h
    · simp at h; subst h; omega
    · rcases List.mem_cons.1 h with rfl | h
      · omega
      · exact ih _ y h
theorem encs_bytes (l : List Int) : ∀ y ∈ encs l, 0 ≤ y ∧ y < 256 := by
  intro y h
  unfold encs at h
  obtain ⟨z, _, hz⟩ := List.mem_flatMap.1 h
  exact encN_bytes _ _ y hz
theorem encs_drop {l : List Int} {k : Nat} {x : Int} (h : l[k]? = some x) : encs (l.drop k) = enc x ++ encs (l.drop (k + 1)) := by
  unfold encs; rw [drop_at h, List.flatMap_cons]
theorem getV4 : getV [4] = (2, 1, 0) := by decide

end Go.Proofs.YtdpijhnbhopnbaaGreatDoor
/- Chapter 5's spans: path.Some, path.Any, path.Wide, path.Side, slices.Clone of spans. Conditions: as each lemma names. -/
namespace Go.Proofs.YtdpijhnbhopnbaaGreatDoor
set_option linter.unusedVariables false
set_option linter.unusedSimpArgs false
open Go.RowKit

def someB (s : Sp) : Bool := decide (s.low ≤ s.high) || s.ab
def anyB (l : List Sp) : Bool := l.all someB

def badAtS : List Sp → Nat → Int
  | [], _ => -1
  | s :: r, k => if someB s then badAtS r (k + 1) else (k : Int)
theorem badAtS_any : ∀ (l : List Sp) (k : Nat), (badAtS l k < 0 ↔ anyB l = true) := by
  intro l
  induction l with
  | nil => intro k; simp [badAtS, anyB]
  | cons s r ih =>
    intro k
    rw [badAtS]
    by_cases h : someB s = true
    · rw [if_pos h, ih (k + 1)]; simp [anyB, h]
    · rw [if_neg h]; simp [anyB, h]
theorem badAtS_drop {l : List Sp} {k : Nat} {s : Sp} (h : l[k]? = some s) : badAtS (l.drop k) k = if someB s then badAtS (l.drop (k + 1)) (k + 1) else (k : Int) := by
  have : l.drop k = s :: l.drop (k + 1) := by
    obtain ⟨hk, e⟩ := List.getElem?_eq_some_iff.1 h
    rw [List.drop_eq_getElem_cons hk, e]
  rw [this, badAtS]

end Go.Proofs.YtdpijhnbhopnbaaGreatDoor
/- Chapter 5: path.Wide, path.Side. Conditions: as each lemma names. -/
namespace Go.Proofs.YtdpijhnbhopnbaaGreatDoor
set_option linter.unusedVariables false
set_option linter.unusedSimpArgs false
open Go.RowKit

def sideS (s : Sp) (c : Int) (less left : Bool) : Sp := if left then ⟨s.low, min s.high (c - 1), s.ab && (less == left)⟩ else ⟨max s.low c, s.high, s.ab && (less == left)⟩
def sideL (l : List Sp) (n : Nd) (left : Bool) : List Sp := match l[n.f.toNat]? with | none => l | some s => l.set n.f.toNat (sideS s n.c n.less left)

theorem SReads.set_ {w w' : World} {B n g o k : Nat} {l : List Sp} (h : SReads w B (some ⟨g, o, none⟩) n l) (hk : k < n) (s : Sp)
    (hsame : ∀ j, j ≠ k * 3 → j ≠ k * 3 + 1 → j ≠ k * 3 + 2 → w'.cell? ⟨g, o + j, none⟩ = w.cell? ⟨g, o + j, none⟩)
    (c0 : w'.cell? ⟨g, o + k * 3, none⟩ = some (.int .i64 s.low)) (c1 : w'.cell? ⟨g, o + (k * 3 + 1), none⟩ = some (.int .i64 s.high)) (c2 : w'.cell? ⟨g, o + (k * 3 + 2), none⟩ = some (.bool s.ab)) :
    SReads w' B (some ⟨g, o, none⟩) n (l.set k s) := by
  have hl := h.len
  obtain ⟨_, _, e, hb, hc⟩ := Reads.spot h (by omega) (by omega)
  cases e
  refine ⟨by rw [flatMap_len Sp.cells 3 (fun _ => rfl), List.length_set, hl], fun _ => ⟨_, rfl, hb, fun j u hu => ?_⟩⟩
  have hj : j < n * 3 := by
    have := (List.getElem?_eq_some_iff.1 hu).1
    rw [flatMap_len Sp.cells 3 (fun _ => rfl), List.length_set, hl] at this
    exact this
  obtain ⟨k', r, hr, rfl⟩ : ∃ k' r, r < 3 ∧ j = k' * 3 + r := ⟨j / 3, j % 3, Nat.mod_lt _ (by omega), by omega⟩
  have hk' : k' < n := by omega
  have hadd : (⟨g, o, none⟩ : Addr).add (k' * 3 + r) = ⟨g, o + (k' * 3 + r), none⟩ := by
    unfold Addr.add
    split
    · rename_i e; rw [e]; rfl
    · rfl
  rw [hadd]
  by_cases he : k' = k
  · subst he
    rw [flatMap_at Sp.cells 3 (fun _ => rfl) (l.set k' s) k' r s (by rw [List.getElem?_set_self (by omega)]) hr] at hu
    match r, hr with
    | 0, _ => simp [Sp.cells] at hu; subst hu; exact c0
    | 1, _ => simp [Sp.cells] at hu; subst hu; exact c1
    | 2, _ => simp [Sp.cells] at hu; subst hu; exact c2
  · have hs : l[k']? = some l[k'] := List.getElem?_eq_getElem (by omega)
    rw [flatMap_at Sp.cells 3 (fun _ => rfl) (l.set k s) k' r l[k'] (by rw [List.getElem?_set_ne (by omega)]; exact hs) hr] at hu
    rw [hsame _ (by omega) (by omega) (by omega)]
    refine hc _ u ?_
    rw [flatMap_at Sp.cells 3 (fun _ => rfl) l k' r l[k'] hs hr]
    exact hu

theorem sp_cells_one (l : List Sp) : ∀ u ∈ l.flatMap Sp.cells, u.oneCell' = true := by
  intro u hu
  obtain ⟨s, _, h⟩ := List.mem_flatMap.1 hu
  simp [Sp.cells] at h
  rcases h with rfl | rfl | rfl <;> rfl

theorem two_other {w : World} {g a b : Nat} {u v : Value} {j : Nat} (h1 : j ≠ a) (h2 : j ≠ b) : ((w.setCell ⟨g, a, none⟩ u).setCell ⟨g, b, none⟩ v).drew.cell? ⟨g, j, none⟩ = w.cell? ⟨g, j, none⟩ := by
  show ((w.setCell ⟨g, a, none⟩ u).setCell ⟨g, b, none⟩ v).cell? ⟨g, j, none⟩ = _
  rw [World.cell?_setCell_other _ _ _ _ (by intro e; injection e; omega), World.cell?_setCell_other _ _ _ _ (by intro e; injection e; omega)]
theorem two_first {w : World} {g a b : Nat} {u v x : Value} (h : a ≠ b) (hx : w.cell? ⟨g, a, none⟩ = some x) : ((w.setCell ⟨g, a, none⟩ u).setCell ⟨g, b, none⟩ v).drew.cell? ⟨g, a, none⟩ = some u := by
  show ((w.setCell ⟨g, a, none⟩ u).setCell ⟨g, b, none⟩ v).cell? ⟨g, a, none⟩ = _
  rw [World.cell?_setCell_other _ _ _ _ (by intro e; injection e; omega)]
  exact World.cell?_setCell_same' _ _ _ (by rw [hx]; rfl)
theorem two_last {w : World} {g a b : Nat} {u v x : Value} (h : b ≠ a) (hx : w.cell? ⟨g, b, none⟩ = some x) : ((w.setCell ⟨g, a, none⟩ u).setCell ⟨g, b, none⟩ v).drew.cell? ⟨g, b, none⟩ = some v := by
  show ((w.setCell ⟨g, a, none⟩ u).setCell ⟨g, b, none⟩ v).cell? ⟨g, b, none⟩ = _
  exact World.cell?_setCell_same' _ _ _ (by rw [World.cell?_setCell_other _ _ _ _ (by intro e; injection e; omega), hx]; rfl)

end Go.Proofs.YtdpijhnbhopnbaaGreatDoor
