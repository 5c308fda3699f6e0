/- Part 14 of what LawFlatTells needs: Prune, Prune2, KinUp, FixMath. Conditions: as each lemma names. -/
import Derived.Test.YtcneacooedefjaaDoorPkFlatTells13
import Derived.Test.YtcneacooedefjaaDoorPkFlatTells09
import Derived.Test.YtcneacooedefjaaDoorPkFlatTells04
import Derived.Test.YtcneacooedefjaaDoorPkFlatTells11
import Derived.Deep.CutRange
/- Package prune: nodes with their kids in memory, Of, pruned, Lay, Tree. Conditions: as each lemma names. -/
namespace Go.Proofs.YtcneacooedefjaaDoor
set_option linter.unusedVariables false
set_option linter.unusedSimpArgs false
open Go.RowKit

/-- cells of a node with its kids -/
def kcells (x : Nd) (u v : Option Addr) : Array Value := #[.int .i64 x.f, .int .i64 x.c, .int .i64 x.l, .int .i64 x.r, .bool x.less, .int .i64 x.v, .pointer u, .pointer v]
def Till (B : Nat) (b : Nat) : Prop := b < B
def Span2 (A B : Nat) (b : Nat) : Prop := A ≤ b ∧ b < B
/-- what a question in a tree with kids is about -/
def Fits (n : Nat) (k : Kt) : Prop := ∀ y ∈ k.asks, 0 ≤ y.f ∧ y.f < n ∧ -1000000 ≤ y.c ∧ y.c ≤ 1000000
theorem Fits.left {n : Nat} {x : Nd} {l r : Kt} (h : Fits n (.node x l r)) : Fits n l := fun y hy => h y (by simp [Kt.asks, hy])
theorem Fits.right {n : Nat} {x : Nd} {l r : Kt} (h : Fits n (.node x l r)) : Fits n r := fun y hy => h y (by simp [Kt.asks, hy])

end Go.Proofs.YtcneacooedefjaaDoor
/- Package prune: Lay, Tree, Sort. Conditions: as each lemma names. -/
namespace Go.Proofs.YtcneacooedefjaaDoor
set_option linter.unusedVariables false
set_option linter.unusedSimpArgs false
open Go.RowKit

theorem elem_nodeP : Elem Tryd.prog 42 41 (.agg #[.int .i64 0, .int .i64 0, .int .i64 0, .int .i64 0, .bool false, .int .i64 0]) 6 48 := ⟨Tryd.underlying42, by kernel_rfl, rfl, by omega, by omega⟩
theorem node_one (x : Nd) : ∀ u ∈ [Value.int .i64 x.f, .int .i64 x.c, .int .i64 x.l, .int .i64 x.r, .bool x.less, .int .i64 x.v], u.oneCell' = true := by
  intro u hu
  simp at hu
  rcases hu with rfl | rfl | rfl | rfl | rfl | rfl <;> rfl
theorem nodes_set (xs zs : List Nd) (x y : Nd) (r : Nat) (u : Value) (hr : r < 6) (h : x.cells.set r u = y.cells) :
    ((xs ++ x :: zs).flatMap Nd.cells).set (xs.length * 6 + r) u = (xs ++ y :: zs).flatMap Nd.cells := by
  have hl := flatMap_len Nd.cells 6 (fun _ => rfl) xs
  rw [List.flatMap_append, List.flatMap_append, List.set_append_right _ _ (by omega)]
  congr 1
  rw [List.flatMap_cons, List.flatMap_cons, hl, show xs.length * 6 + r - xs.length * 6 = r by omega, List.set_append_left _ _ (by simpa [Nd.cells] using hr), h]

/-- a row of nodes of a call's own -/
def NOwn (w : World) (base : Nat) (v : Value) (l : List Nd) : Prop := w.ownsRow base 41 6 v l.length (l.flatMap Nd.cells)
theorem NOwn.nil_ (w : World) (base : Nat) : NOwn w base (.slice none 0 0) [] := World.ownsRow_nil _ _ _ _
theorem NOwn.low {w : World} {base base' : Nat} {v : Value} {l : List Nd} (h : NOwn w base v l) (hb : base' ≤ base) : NOwn w base' v l := by
  refine ⟨h.1, ?_⟩
  rcases h.2 with h1 | ⟨g, cap, cur, e, hg, h2⟩
  · exact .inl h1
  · exact .inr ⟨g, cap, cur, e, Nat.le_trans hb hg, h2⟩
theorem NOwn.slice {w : World} {base : Nat} {v : Value} {l : List Nd} (h : NOwn w base v l) : ∃ A c, v = .slice A l.length c ∧ NReads w w.heap.size A l.length l ∧ l.length ≤ c := by
  obtain ⟨A, c, e, hr, _, hc⟩ := own_slice h
  exact ⟨A, c, e, hr, hc⟩
theorem NOwn.at_ {w : World} {base n cap : Nat} {A : Option Addr} {l : List Nd} (h : NOwn w base (.slice A n cap) l) (hl : l.length = n) {k : Nat} {x : Nd} (hx : l[k]? = some x) (r : Nat) (hr : r < 6) :
    ∃ g, A = some ⟨g, 0, none⟩ ∧ base ≤ g ∧ g < w.heap.size ∧ w.cell? ⟨g, k * 6 + r, none⟩ = x.cells[r]? ∧ w.frozen? ⟨g, k * 6 + r, none⟩ = false := by
  unfold NOwn at h
  rw [hl] at h
  have hk : k < n := by rw [← hl]; exact (List.getElem?_eq_some_iff.1 hx).1
  have hc := flatMap_at Nd.cells 6 (fun _ => rfl) l k r x hx hr
  rcases h.2 with ⟨e, h0⟩ | ⟨g, cap', cur, e, hg, hh, _⟩
  · omega
  · injection e with e1 e2 e3
    subst e1
    refine ⟨g, rfl, hg, (Array.getElem?_eq_some_iff.1 hh).1, ?_, h.frozenAt _⟩
    rw [h.cellAt _ (by omega), hc]
theorem NOwn.stored {w : World} {base n cap g : Nat} {xs zs : List Nd} {x y : Nd} (h : NOwn w base (.slice (some ⟨g, 0, none⟩) n cap) (xs ++ x :: zs)) (hl : (xs ++ x :: zs).length = n) (r : Nat) (u : Value) (hr : r < 6) (he : x.cells.set r u = y.cells) :
    NOwn (w.setCell ⟨g, xs.length * 6 + r, none⟩ u) base (.slice (some ⟨g, 0, none⟩) n cap) (xs ++ y :: zs) := by
  unfold NOwn at h ⊢
  have hl' : (xs ++ y :: zs).length = n := by rw [← hl]; simp
  rw [hl] at h
  rw [hl', ← nodes_set xs zs x y r u hr he]
  exact (h.stored _ u).1

theorem Right.fits {t : List Nd} {n : Nat} (h : Right t n) : Fits n (kTree t) := fun y hy => by
  obtain ⟨j, hj, hf⟩ := kof_asks _ _ y hy
  obtain ⟨h1, h2⟩ := h.asks j y hj hf
  obtain ⟨h3, h4⟩ := h.fit.cut j y hj hf
  exact ⟨h1, h2, h3, h4⟩
/-- what comes of prune.Tree -/
def prunedR (t : List Nd) (fe : Int) : List Nd := if treeE t fe = 0 then prunedV t fe.toNat else []
def sortedR (t : List Nd) (fe : Int) : List Nd := if treeE t fe = 0 then sortedV t else []
def NodesPost (l : List Nd) (er : Int) (w : World) (e : Ending) (w' : World) : Prop :=
  ∃ v, e = .returned (.tuple #[v, errV er]) ∧ NOwn w' w.heap.size v l ∧ Below w.heap.size w w'
end Go.Proofs.YtcneacooedefjaaDoor
/- Which node is above another one (R.Up), and the law's 'below'; a tree whose leaves say one value. Conditions: as each lemma names. -/
namespace Go.Proofs.YtcneacooedefjaaDoor
set_option linter.unusedVariables false
set_option linter.unusedSimpArgs false
open Go.RowKit

theorem clashAt_mk {t : List Nd} : ∀ (m i : Nat), (∀ j, i ≤ j → j < i + m → 0 < j → ups t j = 1) → (clashAt t i m).2 = 0 := by
  intro m
  induction m with
  | zero => intro i _; rfl
  | succ m ih =>
    intro i h
    rw [clashAt, if_neg (fun h2 => h2.2 (h i (Nat.le_refl _) (by omega) h2.1))]
    exact ih (i + 1) fun j h1 h2 h3 => h j (by omega) (by omega) h3
theorem treeE_right {t : List Nd} {fe : Int} (h : Right t fe) : treeE t fe = 0 := by
  unfold treeE treeC
  have h1 := h.most
  have h2 := h.pos
  have h3 := h.fe0
  have h4 := h.fe8
  have h5 := h.deep
  rw [if_neg (by omega), if_neg (by omega), if_neg (by omega), if_neg (by omega), badAt_mk t 0 (fun j n hj => by rw [Nat.zero_add]; exact h.node j n hj), if_pos rfl,
    if_pos (clashAt_mk t.length 0 fun j _ hj h0 => h.one j h0 (by omega)), if_neg (by omega)]

/-- each leaf says v -/
def sayV (v : Int) (n : Nd) : Nd := if n.f = -1 then ⟨n.f, n.c, n.l, n.r, n.less, v⟩ else n
theorem sayV_f (v : Int) (n : Nd) : (sayV v n).f = n.f := by unfold sayV; split <;> rfl
theorem sayV_l (v : Int) (n : Nd) : (sayV v n).l = n.l := by unfold sayV; split <;> rfl
theorem sayV_r (v : Int) (n : Nd) : (sayV v n).r = n.r := by unfold sayV; split <;> rfl
theorem nodeE_say {len i : Nat} {fe v : Int} {n : Nd} (h : nodeE len i fe n = 0) (h1 : -1000000 ≤ v) (h2 : v ≤ 1000000) : nodeE len i fe (sayV v n) = 0 := by
  by_cases hf : n.f = -1
  · rcases node_of h with ⟨_, _, _, hc, hl, hr, hs⟩ | h3
    · unfold sayV
      rw [if_pos hf]
      unfold nodeE
      dsimp only
      rw [if_pos hf, if_neg (by omega), if_neg (by omega), if_neg (by omega), if_neg (by omega), if_neg (by omega), if_neg (by simp [hs])]
    · omega
  · unfold sayV; rw [if_neg hf]; exact h
theorem kid_say (v : Int) (n : Nd) (j : Nat) : kid (sayV v n) j = kid n j := by unfold kid; rw [sayV_f, sayV_l, sayV_r]
theorem ups_say (v : Int) : ∀ (t : List Nd) (j : Nat), ups (t.map (sayV v)) j = ups t j := by
  intro t
  induction t with
  | nil => intro j; rfl
  | cons n r ih => intro j; simp only [List.map_cons, ups, kid_say, ih]
theorem deps_say (v : Int) : ∀ (t : List Nd) (i : Nat), deps i (t.map (sayV v)) = deps i t := by
  intro t
  induction t with
  | nil => intro i; rfl
  | cons n r ih => intro i; simp only [List.map_cons, deps, sayV_f, sayV_l, sayV_r, ih]
theorem Right.say {t : List Nd} {fe v : Int} (h : Right t fe) (h1 : -1000000 ≤ v) (h2 : v ≤ 1000000) : Right (t.map (sayV v)) fe := by
  refine ⟨by rw [List.length_map]; exact h.pos, by rw [List.length_map]; exact h.most, h.fe0, h.fe8, ?_, ?_, by unfold dep; rw [deps_say]; exact h.deep⟩
  · intro i n hi
    rw [List.getElem?_map] at hi
    obtain ⟨m, hm, rfl⟩ := Option.map_eq_some_iff.1 hi
    rw [List.length_map]
    exact nodeE_say (h.node i m hm) h1 h2
  · intro i h3 h4
    rw [List.length_map] at h4
    rw [ups_say]
    exact h.one i h3 h4
theorem Right.sayOne {t : List Nd} {fe v : Int} (h : Right t fe) (h1 : -1000000 ≤ v) (h2 : v ≤ 1000000) : ∃ x, prunedR (t.map (sayV v)) fe = [x] ∧ x.v = v := by
  have hr := h.say h1 h2
  obtain ⟨n, rfl⟩ : ∃ n : Nat, fe = n := ⟨fe.toNat, by have := h.fe0; omega⟩
  unfold prunedR
  rw [if_pos (treeE_right hr)]
  refine hr.prunedOne fun j y hj hf => ?_
  rw [List.getElem?_map] at hj
  obtain ⟨m, hm, rfl⟩ := Option.map_eq_some_iff.1 hj
  rw [sayV_f] at hf
  unfold sayV
  rw [if_pos hf]

/-- what is laid has its kids behind -/
theorem layK_kids : ∀ (k : Kt) (n : Nat), k.Ok → ∀ (j : Nat) x, (layK n k)[j]? = some x → x.f ≠ -1 → (n : Int) + j < x.l ∧ x.l < (n : Int) + k.size ∧ (n : Int) + j < x.r ∧ x.r < (n : Int) + k.size := by
  intro k
  induction k with
  | leaf y =>
    intro n hk j x hx hf
    cases j with
    | zero => simp [layK] at hx; subst hx; exact absurd (hk.2 y (by simp [Kt.leaves])) hf
    | succ j => simp [layK] at hx
  | node y a b ia ib =>
    intro n hk j x hx hf
    have hsa := a.size_pos
    have hsb := b.size_pos
    cases j with
    | zero => simp [layK] at hx; subst hx; simp only [Kt.size]; omega
    | succ j =>
      rw [layK, List.getElem?_cons_succ] at hx
      simp only [Kt.size]
      by_cases hj : j < a.size
      · rw [List.getElem?_append_left (by rw [layK_len]; exact hj)] at hx
        have := ia (n + 1) hk.left j x hx hf
        omega
      · rw [List.getElem?_append_right (by rw [layK_len]; omega), layK_len] at hx
        have := ib (n + 1 + a.size) hk.right (j - a.size) x hx hf
        omega
theorem layK_behind {k : Kt} (h : k.Ok) : Behind (layK 0 k) := fun i x hx hf => by
  have := layK_kids k 0 h i x hx hf
  rw [layK_len]
  omega

/-- the node above one -/
def upAt (at_ : Int) : Nat → List Nd → Int
  | _, [] => -1
  | k, n :: r => if n.f ≠ -1 ∧ (n.l = at_ ∨ n.r = at_) then (k : Int) else upAt at_ (k + 1) r
theorem upAt_drop {t : List Nd} {at_ : Int} {k : Nat} {x : Nd} (h : t[k]? = some x) : upAt at_ k (t.drop k) = if x.f ≠ -1 ∧ (x.l = at_ ∨ x.r = at_) then (k : Int) else upAt at_ (k + 1) (t.drop (k + 1)) := by
  obtain ⟨hk, e⟩ := List.getElem?_eq_some_iff.1 h
  rw [List.drop_eq_getElem_cons hk, e, upAt]
theorem upAt_par {at_ : Nat} : ∀ (l : List Nd) (k : Nat), upAt at_ k l = -1 ∨ ∃ j x, l[j]? = some x ∧ x.f ≠ -1 ∧ (x.l = (at_ : Int) ∨ x.r = (at_ : Int)) ∧ upAt at_ k l = ((k + j : Nat) : Int) := by
  intro l
  induction l with
  | nil => intro k; exact .inl rfl
  | cons n r ih =>
    intro k
    rw [upAt]
    by_cases h : n.f ≠ -1 ∧ (n.l = (at_ : Int) ∨ n.r = (at_ : Int))
    · rw [if_pos h]; exact .inr ⟨0, n, rfl, h.1, h.2, rfl⟩
    · rw [if_neg h]
      rcases ih (k + 1) with h1 | ⟨j, x, h1, h2, h3, h4⟩
      · exact .inl h1
      · exact .inr ⟨j + 1, x, by simpa using h1, h2, h3, by rw [h4]; omega⟩
theorem up_par {t : List Nd} {at_ : Nat} : upAt at_ 0 t = -1 ∨ ∃ j : Nat, Par t j at_ ∧ upAt at_ 0 t = j := by
  rcases upAt_par t 0 (at_ := at_) with h | ⟨j, x, h1, h2, h3, h4⟩
  · exact .inl h
  · exact .inr ⟨j, ⟨x, h1, h2, h3⟩, by rw [h4]; omega⟩

def BelowPost (t : List Nd) (i j : Nat) (e : Ending) : Prop := ∃ b, e = .returned (.bool b) ∧ (b = true → Chain t i j)
end Go.Proofs.YtcneacooedefjaaDoor
/- Chapter 1 in plain words: numbers that have an end, fractions, lists. No program in sight. Conditions: as each lemma names. -/
namespace Go.Proofs.YtcneacooedefjaaDoor
set_option linter.unusedVariables false

def fitV (n : Int) : Int := if 1099511627776 < n then 1099511627776 else if n < -1099511627776 then -1099511627776 else n
theorem fitV_le (n : Int) : -1099511627776 ≤ fitV n ∧ fitV n ≤ 1099511627776 := by unfold fitV; omega
theorem fitV_neg (n : Int) : fitV (-n) = -fitV n := by unfold fitV; omega
theorem fitV_id {n : Int} (h1 : -1099511627776 ≤ n) (h2 : n ≤ 1099511627776) : fitV n = n := by unfold fitV; omega
def addV (a b : Int) : Int := fitV (fitV a + fitV b)
def mulV (a b : Int) : Int := fitV (fitV a * fitV b)
theorem addV_neg (a b : Int) : addV (-a) (-b) = -addV a b := by
  unfold addV; rw [fitV_neg, fitV_neg, show -fitV a + -fitV b = -(fitV a + fitV b) by omega, fitV_neg]
theorem mulV_negl (a b : Int) : mulV (-a) b = -mulV a b := by
  unfold mulV; rw [fitV_neg, Int.neg_mul, fitV_neg]
theorem mulV_comm (a b : Int) : mulV a b = mulV b a := by unfold mulV; rw [Int.mul_comm]
theorem addV_comm (a b : Int) : addV a b = addV b a := by unfold addV; rw [Int.add_comm]
theorem mulV_negr (a b : Int) : mulV a (-b) = -mulV a b := by rw [mulV_comm, mulV_negl, mulV_comm]
theorem mulV_zero {a b : Int} (h : fitV a = 0 ∨ fitV b = 0) : mulV a b = 0 := by
  unfold mulV
  rcases h with h | h <;> rw [h] <;> simp <;> rfl

/-- is a product beyond n: by a division -/
theorem prod_gt {x y n : Int} (hx : 0 ≤ x) (hy : 0 < y) : n / y < x ↔ n < x * y := by
  rw [Int.ediv_lt_iff_lt_mul hy]

/-- Go's quotient and rest, and the floor -/
theorem tdiv_parts (a b : Int) (hb : 0 < b) : b * a.tdiv b + a.tmod b = a ∧ -b < a.tmod b ∧ a.tmod b < b := by
  have h1 := Int.mul_tdiv_add_tmod a b
  have h2 := Int.tmod_lt_of_pos a hb
  have h3 : -b < a.tmod b := by
    have := Int.tmod_lt_of_pos (-a) hb
    rw [Int.neg_tmod] at this; omega
  exact ⟨h1, h3, h2⟩
theorem floor_t1 {a b : Int} (hb : 0 < b) (h : a.tmod b < 0) : a.tdiv b - 1 = a / b := by
  obtain ⟨h1, h2, h3⟩ := tdiv_parts a b hb
  have := (Int.ediv_emod_unique (a := a) (b := b) (r := a.tmod b + b) (q := a.tdiv b - 1) hb).2 ⟨by rw [Int.mul_sub]; omega, by omega, by omega⟩
  exact this.1.symm
theorem floor_t2 {a b : Int} (hb : 0 < b) (h : 0 ≤ a.tmod b) : a.tdiv b = a / b := by
  obtain ⟨h1, h2, h3⟩ := tdiv_parts a b hb
  have := (Int.ediv_emod_unique (a := a) (b := b) (r := a.tmod b) (q := a.tdiv b) hb).2 ⟨by omega, by omega, by omega⟩
  exact this.1.symm
theorem ediv_in {a b n : Int} (hb : 0 < b) (hn : 0 ≤ n) (h1 : -n ≤ a) (h2 : a ≤ n) : -n ≤ a / b ∧ a / b ≤ n := by
  refine ⟨(Int.le_ediv_iff_mul_le hb).2 ?_, ?_⟩
  · have : n * 1 ≤ n * b := Int.mul_le_mul_of_nonneg_left (by omega) hn
    rw [Int.neg_mul]; omega
  · have : a < (n + 1) * b := by
      have : (n + 1) * 1 ≤ (n + 1) * b := Int.mul_le_mul_of_nonneg_left (by omega) (by omega)
      omega
    have := (Int.ediv_lt_iff_lt_mul hb).2 this
    omega

def roundV (a b : Int) : Int :=
  if fitV b = 0 then 0 else if fitV b < 0 then (2 * -fitV a + -fitV b) / (2 * -fitV b) else (2 * fitV a + fitV b) / (2 * fitV b)
/-- a fraction, and one more if the rest is a half or more -/
theorem round_two {x y : Int} (hy : 0 < y) : (2 * x + y) / (2 * y) = if y ≤ 2 * (x - x / y * y) then x / y + 1 else x / y := by
  have h1 := Int.emod_nonneg x (show y ≠ 0 by omega)
  have h2 := Int.emod_lt_of_pos x hy
  have h3 := Int.emod_add_mul_ediv x y
  have h4 : x / y * y = y * (x / y) := Int.mul_comm _ _
  have e : x - x / y * y = x % y := by omega
  rw [e]
  have hq : ∀ q : Int, 0 ≤ 2 * x + y - q * (2 * y) → 2 * x + y - q * (2 * y) < 2 * y → (2 * x + y) / (2 * y) = q := by
    intro q a b
    have e2 : 2 * x + y = (2 * x + y - q * (2 * y)) + q * (2 * y) := by omega
    rw [e2, Int.add_mul_ediv_right _ _ (show (2 * y) ≠ 0 by omega), Int.ediv_eq_zero_of_lt a b]; omega
  by_cases h : y ≤ 2 * (x % y)
  · rw [if_pos h]
    refine hq _ ?_ ?_
    · have : (x / y + 1) * (2 * y) = 2 * (y * (x / y)) + 2 * y := by rw [Int.add_mul, Int.one_mul, ← h4, Int.mul_comm 2 y, ← Int.mul_assoc]; omega
      omega
    · have : (x / y + 1) * (2 * y) = 2 * (y * (x / y)) + 2 * y := by rw [Int.add_mul, Int.one_mul, ← h4, Int.mul_comm 2 y, ← Int.mul_assoc]; omega
      omega
  · rw [if_neg h]
    refine hq _ ?_ ?_
    · have : x / y * (2 * y) = 2 * (y * (x / y)) := by rw [← h4, Int.mul_comm 2 y, ← Int.mul_assoc]; omega
      omega
    · have : x / y * (2 * y) = 2 * (y * (x / y)) := by rw [← h4, Int.mul_comm 2 y, ← Int.mul_assoc]; omega
      omega

def totalV (l : List Int) : Int := l.foldl addV 0
theorem totalV_le (l : List Int) : -1099511627776 ≤ totalV l ∧ totalV l ≤ 1099511627776 := by
  have : ∀ (l : List Int) (a : Int), -1099511627776 ≤ a → a ≤ 1099511627776 → -1099511627776 ≤ l.foldl addV a ∧ l.foldl addV a ≤ 1099511627776 := by
    intro l
    induction l with
    | nil => intro a h1 h2; exact ⟨h1, h2⟩
    | cons x r ih => intro a _ _; exact ih _ (fitV_le _).1 (fitV_le _).2
  exact this l 0 (by omega) (by omega)
theorem totalV_take {l : List Int} {k : Nat} {x : Int} (h : l[k]? = some x) : totalV (l.take (k + 1)) = addV (totalV (l.take k)) x := by
  unfold totalV; rw [List.take_add_one, h, List.foldl_append]; rfl

def sortL (l : List Int) : List Int := l.mergeSort fun x y => decide (x ≤ y)
theorem sortL_perm (l : List Int) : (sortL l).Perm l := List.mergeSort_perm _ _
theorem sortL_len (l : List Int) : (sortL l).length = l.length := (sortL_perm l).length_eq
theorem sortL_sorted (l : List Int) : (sortL l).Pairwise (· ≤ ·) := by
  have := List.pairwise_mergeSort (le := fun x y : Int => decide (x ≤ y)) (fun a b c => by simp; omega) (fun a b => by simp; omega) l
  exact this.imp (by simp)
/-- one list alone is sorted and has these numbers -/
theorem sorted_one {a b : List Int} (h : a.Perm b) (ha : a.Pairwise (· ≤ ·)) (hb : b.Pairwise (· ≤ ·)) : a = b :=
  List.Perm.eq_of_pairwise (fun x y _ _ h1 h2 => Int.le_antisymm h1 h2) ha hb h
theorem sortL_of {a l : List Int} (h : a.Perm l) (ha : a.Pairwise (· ≤ ·)) : a = sortL l := sorted_one (h.trans (sortL_perm l).symm) ha (sortL_sorted l)
theorem sortL_congr {a b : List Int} (h : a.Perm b) : sortL a = sortL b := sortL_of ((sortL_perm a).trans h) (sortL_sorted a)

def sumL (l : List Int) : Int := l.foldl (· + ·) 0
theorem sumL_shift (l : List Int) : ∀ a, l.foldl (· + ·) a = a + sumL l := by
  induction l with
  | nil => intro a; simp [sumL]
  | cons x r ih => intro a; simp only [sumL, List.foldl_cons]; rw [ih, ih (0 + x)]; omega
theorem sumL_cons (x : Int) (r : List Int) : sumL (x :: r) = x + sumL r := by
  show r.foldl (· + ·) (0 + x) = _; rw [sumL_shift]; omega
theorem sumL_append (a b : List Int) : sumL (a ++ b) = sumL a + sumL b := by
  unfold sumL; rw [List.foldl_append, sumL_shift]; rfl
theorem sumL_take {l : List Int} {k : Nat} {x : Int} (h : l[k]? = some x) : sumL (l.take (k + 1)) = sumL (l.take k) + x := by
  rw [List.take_add_one, h, sumL_append]; simp [sumL]
theorem sumL_perm {a b : List Int} (h : a.Perm b) : sumL a = sumL b := by
  induction h with
  | nil => rfl
  | cons x _ ih => rw [sumL_cons, sumL_cons, ih]
  | swap x y l => rw [sumL_cons, sumL_cons, sumL_cons, sumL_cons]; omega
  | trans _ _ h1 h2 => exact h1.trans h2
theorem sumL_le {m : Int} : ∀ {l : List Int}, (∀ x ∈ l, x ≤ m) → sumL l ≤ m * l.length
  | [], _ => by simp [sumL]
  | x :: r, h => by
    have h1 := h x (by simp)
    have h2 := sumL_le (l := r) fun y hy => h y (List.mem_cons_of_mem _ hy)
    rw [sumL_cons, List.length_cons, Int.natCast_add, Int.mul_add]; omega
theorem sumL_ge {m : Int} : ∀ {l : List Int}, (∀ x ∈ l, m ≤ x) → m * l.length ≤ sumL l
  | [], _ => by simp [sumL]
  | x :: r, h => by
    have h1 := h x (by simp)
    have h2 := sumL_ge (l := r) fun y hy => h y (List.mem_cons_of_mem _ hy)
    rw [sumL_cons, List.length_cons, Int.natCast_add, Int.mul_add]; omega

def firstV (l : List Int) : List Int := (l.take 1000).map fitV
theorem firstV_len (l : List Int) : (firstV l).length = min 1000 l.length := by simp [firstV]
theorem firstV_le {l : List Int} {x : Int} (h : x ∈ firstV l) : -1099511627776 ≤ x ∧ x ≤ 1099511627776 := by
  obtain ⟨y, _, rfl⟩ := List.mem_map.1 h; exact fitV_le y
def meanV (l : List Int) : Int := if (firstV l).length = 0 then 0 else sumL (firstV l) / (firstV l).length
def medianV (l : List Int) : Int := if (firstV l).length = 0 then 0 else (sortL (firstV l)).getD ((firstV l).length / 2) 0
theorem first_sum_le (l : List Int) (k : Nat) : -1099511627776000 ≤ sumL ((firstV l).take k) ∧ sumL ((firstV l).take k) ≤ 1099511627776000 := by
  have hl : ((firstV l).take k).length ≤ 1000 := by rw [List.length_take, firstV_len]; omega
  have h1 := sumL_le (l := (firstV l).take k) (m := 1099511627776) fun x hx => (firstV_le (List.mem_of_mem_take hx)).2
  have h2 := sumL_ge (l := (firstV l).take k) (m := -1099511627776) fun x hx => (firstV_le (List.mem_of_mem_take hx)).1
  omega
theorem mean_perm {a b : List Int} (h : a.Perm b) (ha : a.length ≤ 1000) : meanV a = meanV b := by
  have hb : b.length ≤ 1000 := by rw [← h.length_eq]; exact ha
  have hp : (firstV a).Perm (firstV b) := by
    unfold firstV; rw [List.take_of_length_le ha, List.take_of_length_le hb]; exact h.map _
  unfold meanV
  rw [sumL_perm hp, hp.length_eq]
theorem median_perm {a b : List Int} (h : a.Perm b) (ha : a.length ≤ 1000) : medianV a = medianV b := by
  have hb : b.length ≤ 1000 := by rw [← h.length_eq]; exact ha
  have hp : (firstV a).Perm (firstV b) := by
    unfold firstV; rw [List.take_of_length_le ha, List.take_of_length_le hb]; exact h.map _
  unfold medianV
  rw [sortL_congr hp, hp.length_eq]
end Go.Proofs.YtcneacooedefjaaDoor
