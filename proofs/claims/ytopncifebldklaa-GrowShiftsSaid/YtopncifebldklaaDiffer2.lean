/- differ.both, Moved, witness, Trees. Conditions: as each lemma names. -/
import Derived.Test.YtopncifebldklaaDiffer
namespace Go.Proofs.Ytopncifebldklaa
set_option linter.unusedVariables false
set_option linter.unusedSimpArgs false
open Go.RowKit

theorem Right.fit {t : List Nd} {n : Nat} (h : Right t n) : Fit_ t n := ⟨h.pos, h.most, h.behind, h.asks, fun i x hx hf => by
  rcases node_of (h.node i x hx) with h1 | h1
  · exact absurd h1.1 hf
  · exact ⟨h1.2.2.1, h1.2.2.2.1⟩⟩
theorem lv_len {t : List Nd} (hb : Behind t) : ∀ (k i : Nat) (l : List Sp), i < t.length → (lv t k i l).length ≤ cnt t i := by
  intro k
  induction k with
  | zero => intro i l _; exact Nat.zero_le _
  | succ k ih =>
    intro i l hi
    have hn : t[i]? = some t[i] := List.getElem?_eq_getElem hi
    by_cases hf : (t[i]).f = -1
    · rw [lv_leaf hn hf, cnt_at hn (fun h => absurd hf h) (fun h => absurd hf h), if_pos hf]; simp
    · obtain ⟨a, b, c, d⟩ := hb i _ hn hf
      rw [lv_step hn hf, cnt_at hn (fun _ => a) (fun _ => c), if_neg hf, List.length_append]
      exact Nat.add_le_add (ih _ _ (by omega)) (ih _ _ (by omega))
theorem lv_1024 {t : List Nd} {n : Nat} (h : Right t n) (k : Nat) (l : List Sp) : (lv t k 0 l).length ≤ 1024 := by
  have h1 := lv_len h.behind k 0 l h.pos
  have h2 := (cnt_dep h.behind t.length 0 h.pos (by omega)).2
  have h3 : 2 ^ dep t 0 ≤ 2 ^ 10 := Nat.pow_le_pow_right (by omega) h.deep
  omega
theorem flat_le {α β : Type} (f : α → List β) (c : Nat) (h : ∀ a, (f a).length ≤ c) : ∀ l : List α, (l.flatMap f).length ≤ l.length * c := by
  intro l
  induction l with
  | nil => simp
  | cons x r ih => rw [List.flatMap_cons, List.length_append, List.length_cons, Nat.succ_mul]; have := h x; omega
theorem pairsL_len {a b : List Nd} {n : Nat} (ha : Right a n) (hb : Right b n) : (pairsL a b n).length ≤ 1048576 := by
  unfold pairsL
  have h1 : ∀ p, (pairsAt a b p).length ≤ 1024 := fun p => by
    unfold pairsAt
    split
    · rw [List.length_map]; exact Nat.le_trans (List.length_filter_le _ _) (lv_1024 hb _ _)
    · simp
  have h2 := flat_le (pairsAt a b) 1024 h1 (lv a a.length 0 (wideL n))
  have h3 := lv_1024 ha a.length (wideL n)
  have : (lv a a.length 0 (wideL n)).length * 1024 ≤ 1024 * 1024 := Nat.mul_le_mul_right _ h3
  omega

def bothE (a b : List Nd) (fe : Int) : Int := if treeE a fe = 0 then treeE b fe else treeE a fe
theorem bothE_right {a b : List Nd} {fe : Int} (h : bothE a b fe = 0) : Right a fe ∧ Right b fe := by
  unfold bothE at h
  by_cases h1 : treeE a fe = 0
  · rw [if_pos h1] at h; exact ⟨right_of h1, right_of h⟩
  · rw [if_neg h1] at h; exact absurd h h1
/-! ### Moved -/
def CntJ (g : Nat) (ys : List (List Sp)) (w : World) : Prop := ∃ v : Int, Blk w g 3 #[.int .i64 v] ∧ (-9223372036854775808 ≤ v ∧ v ≤ 9223372036854775807) ∧ (ys.length ≤ 9223372036854775807 → v = ys.length)
theorem cnt_ear (g B0 : Nat) (h : B0 ≤ g) : Ear (fun _ k => k = g) (CntJ g) B0 :=
  ⟨fun pre w k hJ hk => by obtain ⟨v, hv, _⟩ := hJ; subst hk; exact ⟨hv.lt, h⟩, fun pre w w' hJ hb => by
    obtain ⟨v, hv, h1, h2⟩ := hJ
    exact ⟨⟨v, hv.below hb hv.lt, h1, h2⟩, fun _ h => h⟩⟩
theorem touch_set {g : Nat} {w : World} {p : Addr} (hp : p.block = g) (v : Value) : Touch (fun _ k => k = g) w (w.setCell p v) :=
  ⟨rfl, rfl, rfl, by simp [World.setCell], fun k hk hn => Below.heap_setCell w p v k (by omega), fun _ _ h => h⟩
def movedV (a b : List Nd) (n : Int) : Int := if bothE a b n = 0 then ((pairsL a b n.toNat).length : Int) else 0
/-! ### witness, Trees -/
theorem own_fresh {w : World} {base : Nat} {e : TypeId} {size n : Nat} {A : Option Addr} {c : Nat} {xs : List Value} (h : w.ownsRow base e size (.slice A n c) n xs) : ∀ a, A = some a → base ≤ a.block ∧ a.block < w.heap.size := by
  intro a ha
  rcases h.2 with ⟨h1, _⟩ | ⟨g, cap, cur, h1, hg, hh, _⟩
  · cases h1; cases ha
  · cases h1; cases ha
    exact ⟨hg, Blk.lt (t := e) hh⟩
def WitT (gr gd : Nat) : World → Nat → Prop := fun _ k => k = gr ∨ k = gd
def WitOf (gr gd n : Nat) (w : World) (v : Value) (b : Bool) : List (List Sp) → Prop
  | [] => v = .slice none 0 0 ∧ b = false
  | l :: _ => b = true ∧ ∃ A c, v = .slice A n c ∧ IReads w w.heap.size A n (pickL l) ∧ (∀ a, A = some a → a.block ≠ gr ∧ a.block ≠ gd) ∧ n ≤ c
def WitJ (gr gd n : Nat) (ys : List (List Sp)) (w : World) : Prop := ∃ v b, Blk w gr 22 #[v] ∧ Blk w gd 4 #[.bool b] ∧ WitOf gr gd n w v b ys
theorem wit_ear (gr gd n B0 : Nat) (h : B0 ≤ gr) (h' : B0 ≤ gd) : Ear (WitT gr gd) (WitJ gr gd n) B0 :=
  ⟨fun pre w k hJ hk => by
    obtain ⟨v, b, h1, h2, _⟩ := hJ
    rcases hk with rfl | rfl
    · exact ⟨h1.lt, h⟩
    · exact ⟨h2.lt, h'⟩, fun pre w w' hJ hb => by
    obtain ⟨v, b, h1, h2, h3⟩ := hJ
    refine ⟨⟨v, b, h1.below hb h1.lt, h2.below hb h2.lt, ?_⟩, fun _ h => h⟩
    cases pre with
    | nil => exact h3
    | cons l r =>
      obtain ⟨hb1, A, c, e, hr, hn⟩ := h3
      exact ⟨hb1, A, c, e, (hr.below hb).more hb.size, hn⟩⟩
theorem wit_app {gr gd n : Nat} {w : World} {v : Value} {b : Bool} {x l : List Sp} {r : List (List Sp)} (h : WitOf gr gd n w v b (x :: r)) : WitOf gr gd n w v b (x :: r ++ [l]) := h
theorem wit_touch (gr gd : Nat) (w : World) (u v : Value) : Touch (WitT gr gd) w ((w.setCell ⟨gr, 0, none⟩ u).setCell ⟨gd, 0, none⟩ v) :=
  ⟨rfl, rfl, rfl, by simp [World.setCell], fun k hk hn => by
    rw [Below.heap_setCell _ _ _ _ (fun e => hn (.inr e)), Below.heap_setCell _ _ _ _ (fun e => hn (.inl e))], fun _ _ h => h⟩
def headL : List (List Sp) → List Int
  | [] => []
  | l :: _ => pickL l
theorem wit_out {gr gd n : Nat} {w : World} {v : Value} {b : Bool} {ys : List (List Sp)} (h : WitOf gr gd n w v b ys) : ∃ A c, v = .slice A (if ys = [] then 0 else n) c ∧ b = !ys.isEmpty ∧ IReads w w.heap.size A (if ys = [] then 0 else n) (headL ys) ∧ (∀ a, A = some a → a.block ≠ gr ∧ a.block ≠ gd) ∧ (if ys = [] then 0 else n) ≤ c := by
  cases ys with
  | nil => obtain ⟨rfl, rfl⟩ := h; exact ⟨none, 0, rfl, rfl, IReads.nil_, (fun a e => by cases e), Nat.le_refl _⟩
  | cons l r => obtain ⟨rfl, A, c, rfl, hr, hn⟩ := h; exact ⟨A, c, rfl, rfl, hr, hn⟩
def WitPost (a b : List Nd) (n : Nat) (w : World) (e : Ending) (w' : World) : Prop :=
  ∃ A c, e = .returned (.tuple #[.slice A (if pairsL a b n = [] then 0 else n) c, .bool (!(pairsL a b n).isEmpty)]) ∧ IReads w' w'.heap.size A (if pairsL a b n = [] then 0 else n) (headL (pairsL a b n)) ∧ (if pairsL a b n = [] then 0 else n) ≤ c ∧ Below w.heap.size w w'
def dtreesE (a b : List Nd) (fe : Int) : Int := if bothE a b fe = 0 then (if pairsL a b fe.toNat = [] then 5 else 0) else bothE a b fe
/-- what Trees tells: a row of which they differ, where there is one -/
def TreesPost (a b : List Nd) (fe : Int) (w : World) (e : Ending) (w' : World) : Prop :=
  ∃ A n c l, e = .returned (.tuple #[.slice A n c, errV (dtreesE a b fe)]) ∧ IReads w' w'.heap.size A n l ∧ n ≤ c ∧ (dtreesE a b fe = 0 → l = headL (pairsL a b fe.toNat) ∧ (n : Int) = fe) ∧ (dtreesE a b fe ≠ 0 → n = 0) ∧ Below w.heap.size w w'
end Go.Proofs.Ytopncifebldklaa
