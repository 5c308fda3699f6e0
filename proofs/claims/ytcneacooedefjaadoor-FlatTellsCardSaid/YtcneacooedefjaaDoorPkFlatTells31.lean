/- Part 31 of what LawFlatTells needs: PairsP, RefRegion, RefMeet, DifferTurned. Conditions: as each lemma names. -/
import Derived.Test.YtcneacooedefjaaDoorPkFlatTells16
import Derived.Test.YtcneacooedefjaaDoorPkFlatTells14
import Derived.Test.YtcneacooedefjaaDoorPkFlatTells12
/- Where two trees differ some row does, and only there. Plain. Conditions: trees that are right. -/
namespace Go.Proofs.YtcneacooedefjaaDoor
set_option linter.unusedVariables false
set_option linter.unusedSimpArgs false
open Go.RowKit

theorem pairsL_some {a b : List Nd} {n : Nat} (ha : Right a n) (hb : Right b n) {r : List Int} (hr : inSp r (wideL n)) (hv : valAt a (leafOf a r) ≠ valAt b (leafOf b r)) : pairsL a b n ≠ [] := by
  obtain ⟨p, hp, h7, h8⟩ := lv_of ha.asks ha.behind r a.length 0 (wideL n) (wide_len n) ha.pos (by omega) hr
  have hpl : p.2.length = n := by rw [lv_length _ _ _ p hp, wide_len]
  obtain ⟨q, hq, h9, h10⟩ := lv_of hb.asks hb.behind r b.length 0 p.2 hpl hb.pos (by omega) h7
  intro he
  unfold pairsL at he
  rw [List.flatMap_eq_nil_iff] at he
  have h1 := he p hp
  unfold pairsAt at h1
  rw [if_pos (inSp_any h7 (fun _ _ => trivial)), List.map_eq_nil_iff, List.filter_eq_nil_iff] at h1
  have h2 := h1 q hq
  unfold meets at h2
  rw [Bool.and_eq_true, bne_iff_ne] at h2
  refine h2 ⟨inSp_any h9 (fun _ _ => trivial), ?_⟩
  rw [← h8, ← h10]
  exact hv
theorem wide_row {n : Nat} (hn : n ≤ 8) {r : List Int} (h : inSp r (wideL n)) : rowE r = 0 ∧ r.length = n := by
  have hl : r.length = n := by rw [h.1, wide_len]
  refine ⟨?_, hl⟩
  unfold rowE
  rw [if_neg (by omega), if_pos]
  rw [List.all_eq_true]
  intro x hx
  obtain ⟨j, hj⟩ := List.getElem?_of_mem hx
  have hjl : j < n := by rw [← hl]; exact (List.getElem?_eq_some_iff.1 hj).1
  have hs : (wideL n)[j]? = some wideS := by unfold wideL; rw [List.getElem?_replicate, if_pos hjl]
  have h1 := h.2 j x wideS hj hs
  unfold rowGood nilC
  unfold inB wideS at h1
  by_cases hx0 : x = -1125899906842624
  · subst hx0; rfl
  · rw [if_neg hx0] at h1
    simp at h1
    rw [Bool.or_eq_true]
    exact .inr (cellB_t.2 ⟨h1.1, h1.2⟩)
theorem pairsL_head {a b : List Nd} {n : Nat} (ha : Right a n) (hb : Right b n) (h : pairsL a b n ≠ []) :
    inSp (headL (pairsL a b n)) (wideL n) ∧ valAt a (leafOf a (headL (pairsL a b n))) ≠ valAt b (leafOf b (headL (pairsL a b n))) := by
  obtain ⟨l0, rest, e⟩ : ∃ l0 rest, pairsL a b n = l0 :: rest := by
    cases hp : pairsL a b n with
    | nil => exact absurd hp h
    | cons x y => exact ⟨x, y, rfl⟩
  have hm : l0 ∈ pairsL a b n := by rw [e]; exact List.mem_cons_self ..
  rw [e]
  show inSp (pickL l0) _ ∧ _
  unfold pairsL at hm
  obtain ⟨p, hp, hl0⟩ := List.mem_flatMap.1 hm
  unfold pairsAt at hl0
  split at hl0
  · obtain ⟨q, hq, rfl⟩ := List.mem_map.1 hl0
    obtain ⟨hq1, hq2⟩ := List.mem_filter.1 hq
    unfold meets at hq2
    rw [Bool.and_eq_true, bne_iff_ne] at hq2
    have hpl : p.2.length = n := by rw [lv_length _ _ _ p hp, wide_len]
    have hlow := lv_low a.length 0 (wideL n) (wide_low n) p hp
    have hr := pick_in (wf_low (lv_low b.length 0 p.2 hlow q hq1)) hq2.1
    obtain ⟨h3, h4⟩ := lv_to hb.asks _ _ _ _ hpl q hq1 hr
    obtain ⟨h5, h6⟩ := lv_to ha.asks _ _ _ _ (wide_len n) p hp h3
    refine ⟨h5, ?_⟩
    show valAt a (leafOf a (pickL q.2)) ≠ valAt b (leafOf b (pickL q.2))
    unfold leafOf
    rw [h4, h6]
    exact hq2.2
  · cases hl0
theorem pairsL_pruned {a : List Nd} {n : Nat} (ha : Right a n) : pairsL a (prunedV a n) n = [] := by
  by_cases h : pairsL a (prunedV a n) n = []
  · exact h
  · obtain ⟨h1, h2⟩ := pairsL_head ha (ha.pruned n) h
    exact absurd (ha.prunedValue h1).symm h2
end Go.Proofs.YtcneacooedefjaaDoor
/- The reference's Region (what cells may be so that a row comes to a node): contract. Conditions: the tree is right and reads as nodes. -/
namespace Go.Proofs.YtcneacooedefjaaDoor
set_option linter.unusedVariables false
set_option linter.unusedSimpArgs false
open Go.RowKit

/-- the sides of all nodes above one, from below -/
def climb (t : List Nd) : Nat → Nat → List Sp → List Sp
  | 0, _, l => l
  | m + 1, k, l => if upAt k 0 t < 0 then l else match t[(upAt k 0 t).toNat]? with
    | some x => climb t m (upAt k 0 t).toNat (sideL l x (x.l == k))
    | none => l
def regR (t : List Nd) (n k : Nat) : List Sp := climb t k k (wideL n)
theorem climb_end {t : List Nd} {k : Nat} (h : upAt k 0 t = -1) (m : Nat) (l : List Sp) : climb t m k l = l := by
  cases m with
  | zero => rfl
  | succ m => rw [climb, if_pos (by rw [h]; decide)]
theorem climb_step {t : List Nd} {k u : Nat} {x : Nd} (h : upAt k 0 t = u) (hx : t[u]? = some x) (m : Nat) (l : List Sp) : climb t (m + 1) k l = climb t m u (sideL l x (x.l == k)) := by
  rw [climb, if_neg (by rw [h]; omega), h, Int.toNat_natCast, hx]
theorem wide_next (k : Nat) : (wideL k).flatMap Sp.cells ++ [.int .i64 (-1000000), .int .i64 1000000, .bool true] = (wideL (k + 1)).flatMap Sp.cells := by
  unfold wideL
  rw [List.replicate_succ', List.flatMap_append]
  rfl
theorem sideL_set {l : List Sp} {x : Nd} {b : Bool} {f : Nat} {s : Sp} (hf : x.f = f) (h : l[f]? = some s) : sideL l x b = l.set f (sideS s x.c x.less b) := by
  unfold sideL; rw [hf, Int.toNat_natCast, h]
theorem span_set (l : List Sp) (f : Nat) (s : Sp) (h : f < l.length) :
    ((((l.flatMap Sp.cells).set (f * 3) (.int .i64 s.low)).set (f * 3 + 1) (.int .i64 s.high)).set (f * 3 + 2) (.bool s.ab)) = (l.set f s).flatMap Sp.cells := by
  obtain ⟨xs, x, zs, rfl, rfl⟩ : ∃ xs x zs, l = xs ++ x :: zs ∧ f = xs.length := ⟨l.take f, l[f], l.drop (f + 1), by simp, by simp; omega⟩
  have hl := flatMap_len Sp.cells 3 (fun _ => rfl) xs
  rw [List.set_append_right _ _ (Nat.le_refl _), Nat.sub_self, List.set_cons_zero]
  simp only [List.flatMap_append, List.flatMap_cons]
  rw [List.set_append_right _ _ (by omega), List.set_append_right _ _ (by omega), List.set_append_right _ _ (by omega), hl, Nat.sub_self, show xs.length * 3 + 1 - xs.length * 3 = 1 by omega, show xs.length * 3 + 2 - xs.length * 3 = 2 by omega]
  rfl

/-- a row of spans of a call's own -/
def SpOwn (w : World) (base : Nat) (v : Value) (n : Nat) (l : List Sp) : Prop := w.ownsRow base 97 3 v n (l.flatMap Sp.cells)
theorem SpOwn.len {w : World} {base n : Nat} {v : Value} {l : List Sp} (h : SpOwn w base v n l) : l.length = n := by
  have := h.1
  rw [flatMap_len Sp.cells 3 (fun _ => rfl)] at this
  omega
theorem SpOwn.set_ {w : World} {base n cap g f : Nat} {l : List Sp} (h : SpOwn w base (.slice (some ⟨g, 0, none⟩) n cap) n l) (hf : f < n) (s : Sp) :
    SpOwn (((w.setCell ⟨g, f * 3, none⟩ (.int .i64 s.low)).setCell ⟨g, f * 3 + 1, none⟩ (.int .i64 s.high)).setCell ⟨g, f * 3 + 2, none⟩ (.bool s.ab)) base (.slice (some ⟨g, 0, none⟩) n cap) n (l.set f s) := by
  have hl := h.len
  unfold SpOwn at h ⊢
  rw [← span_set l f s (by omega)]
  exact ((((h.stored _ _).1).stored _ _).1.stored _ _).1
theorem wp_name {P : Program} {c : Code} {Q : Exit → Act → World → Prop} {a : Act} {W : World} (h : ∀ X, X = W → Code.wp P c Q a X) : Code.wp P c Q a W := h W rfl
theorem own_farR {w : World} {base : Nat} {e : TypeId} {size n : Nat} {v : Value} {xs : List Value} (h : w.ownsRow base e size v n xs) {p : Addr} (hp : ∀ k, v.ownBlock = some k → k ≠ p.block) (u : Value) : (w.setCell p u).ownsRow base e size v n xs := by
  refine h.kept (row := some p.block) (only_setCell (World.grownBy.refl w _) (.inl rfl) u) ?_
  rcases hb : v.ownBlock with _ | k
  · exact .inl rfl
  · exact .inr fun e => hp k hb (by injection e)
def RegPost1 (t : List Nd) (n k : Nat) (w : World) (e : Ending) (w' : World) : Prop :=
  ∃ v, e = .returned v ∧ SpOwn w' w.heap.size v n (regR t n k) ∧ Below w.heap.size w w'

end Go.Proofs.YtcneacooedefjaaDoor
/- The reference's Any and Meet of spans: contracts. Conditions: arguments read as spans. -/
namespace Go.Proofs.YtcneacooedefjaaDoor
set_option linter.unusedVariables false
set_option linter.unusedSimpArgs false
open Go.RowKit

def meetS (a b : Sp) : Sp := ⟨max a.low b.low, min a.high b.high, a.ab && b.ab⟩
def meetL (a b : List Sp) : List Sp := List.zipWith meetS a b
theorem meetL_len {a b : List Sp} (h : a.length = b.length) : (meetL a b).length = a.length := by unfold meetL; rw [List.length_zipWith]; omega
theorem all_next2 {l : List Sp} {k : Nat} {s : Sp} (h : l[k]? = some s) (ha : anyB (l.take k) = true) (hs : someB s = true) : anyB (l.take (k + 1)) = true := by
  unfold anyB at *
  rw [take_next h, List.all_append, ha]
  simp [hs]
theorem any_bad {l : List Sp} {k : Nat} {s : Sp} (h : l[k]? = some s) (hs : someB s = false) : anyB l = false := by
  cases hb : anyB l with
  | false => rfl
  | true => have := any_at hb h; rw [this] at hs; cases hs

theorem post_name {Q : Exit → Act → World → Prop} {x : Exit} {a : Act} {W : World} (h : ∀ X, X = W → Q x a X) : Q x a W := h W rfl
theorem own_lt2 {w : World} {base : Nat} {e : TypeId} {size n : Nat} {v : Value} {xs : List Value} (h : w.ownsRow base e size v n xs) : ∀ k, v.ownBlock = some k → k < w.heap.size := fun k hk => (h.lt k hk).2
theorem own_drewN {w : World} {base : Nat} {e : TypeId} {size n : Nat} {v : Value} {xs : List Value} (h : w.ownsRow base e size v n xs) (q : Nat) : (w.drewN q).ownsRow base e size v n xs := h
theorem meet_next {a b : List Sp} {k : Nat} {s u : Sp} (h : a[k]? = some s) (h' : b[k]? = some u) : meetL (a.take (k + 1)) (b.take (k + 1)) = meetL (a.take k) (b.take k) ++ [meetS s u] := by
  unfold meetL
  have h1 : k < a.length := (List.getElem?_eq_some_iff.1 h).1
  have h2 : k < b.length := (List.getElem?_eq_some_iff.1 h').1
  rw [take_next h, take_next h', List.zipWith_append (by simp; omega)]
  rfl

end Go.Proofs.YtcneacooedefjaaDoor
/- DifferTurned: the plain law and the walk. Conditions: arguments read as lists. -/
namespace Go.Proofs.YtcneacooedefjaaDoor
set_option linter.unusedVariables false
set_option linter.unusedSimpArgs false
open Go.RowKit
open Classical in
/-- in how many pairs: either way round -/
noncomputable def cnt2 {α β : Type} (c : α → β → Prop) (L : List α) (M : List β) : Nat := (L.map fun i => (M.filter fun k => decide (c i k)).length).sum
open Classical in
theorem cnt2_turn {α β : Type} (c : α → β → Prop) (M : List β) : ∀ L : List α, cnt2 c L M = cnt2 (fun k i => c i k) M L := by
  intro L
  induction L with
  | nil => unfold cnt2; induction M with
    | nil => rfl
    | cons k r ih => simpa using ih
  | cons i r ih =>
    have h1 : cnt2 c (i :: r) M = (M.filter fun k => decide (c i k)).length + cnt2 c r M := by unfold cnt2; simp
    have h2 : ∀ M : List β, cnt2 (fun k i => c i k) M (i :: r) = (M.filter fun k => decide (c i k)).length + cnt2 (fun k i => c i k) M r := by
      intro M
      induction M with
      | nil => rfl
      | cons k s ihs =>
        unfold cnt2 at ihs ⊢
        simp only [List.map_cons, List.sum_cons, List.filter_cons]
        by_cases h : c i k
        · simp only [h, decide_true, if_true, List.length_cons] at ihs ⊢
          simp only [List.filter_cons] at ihs
          omega
        · simp only [h, decide_false, Bool.false_eq_true, if_false] at ihs ⊢
          simp only [List.filter_cons] at ihs
          omega
    rw [h1, h2, ih]

/-- some row comes to both leaves, and their values differ -/
def Hit (a b : List Nd) (n i k : Nat) : Prop := valAt a i ≠ valAt b k ∧ ∃ r, inSp r (wideL n) ∧ leafOf a r = i ∧ leafOf b r = k
open Classical in
theorem pairsAt_count {a b : List Nd} {n : Nat} (ha : Right a n) (hb : Right b n) (p : Nat × List Sp) (hp : p ∈ lv a a.length 0 (wideL n)) :
    (pairsAt a b p).length = ((idx b b.length 0).filter (fun k => decide (Hit a b n p.1 k))).length := by
  have hpl : p.2.length = n := by rw [lv_length _ _ _ p hp, wide_len]
  have hlow := lv_low a.length 0 (wideL n) (wide_low n) p hp
  have key : ∀ q ∈ lv b b.length 0 p.2, (meets a b p.1 q = true ↔ Hit a b n p.1 q.1) := by
    intro q hq
    unfold meets Hit
    rw [Bool.and_eq_true, bne_iff_ne]
    constructor
    · rintro ⟨h1, h2⟩
      have hr := pick_in (wf_low (lv_low b.length 0 p.2 hlow q hq)) h1
      obtain ⟨h3, h4⟩ := lv_to hb.asks _ _ _ _ hpl q hq hr
      obtain ⟨h5, h6⟩ := lv_to ha.asks _ _ _ _ (wide_len n) p hp h3
      exact ⟨h2, _, h5, h6, h4⟩
    · rintro ⟨h2, r, h5, h6, h4⟩
      obtain ⟨p', hp', h7, h8⟩ := lv_of ha.asks ha.behind r a.length 0 (wideL n) (wide_len n) ha.pos (by omega) h5
      have := lv_one ha _ _ _ p' hp' p hp (by rw [← h8]; exact h6)
      subst this
      obtain ⟨q', hq', h9, h10⟩ := lv_of hb.asks hb.behind r b.length 0 p'.2 hpl hb.pos (by omega) h7
      have := lv_one hb _ _ _ q' hq' q hq (by rw [← h10]; exact h4)
      subst this
      exact ⟨inSp_any h9 (fun _ _ => trivial), h2⟩
  unfold pairsAt
  by_cases hany : anyB p.2 = true
  · rw [if_pos hany, List.length_map, ← lv_idx b b.length 0 p.2, List.filter_map, List.length_map]
    congr 1
    refine List.filter_congr fun q hq => ?_
    rw [Bool.eq_iff_iff, key q hq]
    simp
  · rw [if_neg hany]
    symm
    rw [List.length_nil, List.length_eq_zero_iff, List.filter_eq_nil_iff]
    intro k _
    rw [decide_eq_true_eq]
    rintro ⟨_, r, h5, h6, _⟩
    obtain ⟨p', hp', h7, h8⟩ := lv_of ha.asks ha.behind r a.length 0 (wideL n) (wide_len n) ha.pos (by omega) h5
    have := lv_one ha _ _ _ p' hp' p hp (by rw [← h8]; exact h6)
    subst this
    exact hany (inSp_any h7 (fun _ _ => trivial))
theorem flat_length {α β : Type} (f : α → List β) : ∀ l : List α, (l.flatMap f).length = (l.map fun x => (f x).length).sum := by
  intro l
  induction l with
  | nil => rfl
  | cons x r ih => rw [List.flatMap_cons, List.length_append, List.map_cons, List.sum_cons, ih]
theorem pairsL_count {a b : List Nd} {n : Nat} (ha : Right a n) (hb : Right b n) : (pairsL a b n).length = cnt2 (Hit a b n) (idx a a.length 0) (idx b b.length 0) := by
  unfold pairsL cnt2
  rw [flat_length, ← lv_idx a a.length 0 (wideL n), List.map_map]
  congr 1
  refine List.map_congr_left fun p hp => ?_
  rw [pairsAt_count ha hb p hp]
  rfl
theorem pairsL_turn {a b : List Nd} {n : Nat} (ha : Right a n) (hb : Right b n) : (pairsL a b n).length = (pairsL b a n).length := by
  rw [pairsL_count ha hb, pairsL_count hb ha, cnt2_turn]
  congr 1
  funext k i
  unfold Hit
  refine propext ⟨?_, ?_⟩
  · rintro ⟨h, r, h1, h2, h3⟩; exact ⟨Ne.symm h, r, h1, h3, h2⟩
  · rintro ⟨h, r, h1, h2, h3⟩; exact ⟨Ne.symm h, r, h1, h3, h2⟩
open Classical in
theorem pairsL_self {a : List Nd} {n : Nat} (ha : Right a n) : pairsL a a n = [] := by
  unfold pairsL
  rw [List.flatMap_eq_nil_iff]
  intro p hp
  have := pairsAt_count ha ha p hp
  apply List.eq_nil_of_length_eq_zero
  rw [this, List.length_eq_zero_iff, List.filter_eq_nil_iff]
  intro k _
  rw [decide_eq_true_eq]
  rintro ⟨h, r, h1, h2, h3⟩
  rw [h2] at h3
  exact h (by rw [h3])

theorem bothE_turn {a b : List Nd} {fe : Int} : bothE a b fe = 0 ↔ bothE b a fe = 0 := by
  unfold bothE
  by_cases h1 : treeE a fe = 0 <;> by_cases h2 : treeE b fe = 0 <;> simp [h1, h2]
theorem leaf_fact : movedV [⟨-1, 0, 0, 0, false, 7⟩] [⟨-1, 0, 0, 0, false, 9⟩] 0 = 1 ∧ bothE [⟨-1, 0, 0, 0, false, 7⟩] [⟨-1, 0, 0, 0, false, 9⟩] 0 = 0 := by decide
theorem errV_no {e : Int} (h : e ≠ 0) : ∃ t v, errV e = .iface t v := ⟨_, _, errV_1 h⟩

end Go.Proofs.YtcneacooedefjaaDoor
