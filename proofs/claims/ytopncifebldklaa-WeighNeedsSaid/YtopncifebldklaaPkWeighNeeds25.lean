/- Part 25 of what LawWeighNeeds needs: WoutP, WGainP, WGain. Conditions: as each lemma names. -/
import Derived.Test.YtopncifebldklaaPkWeighNeeds15
import Derived.Test.YtopncifebldklaaPkWeighNeeds24
import Derived.Test.YtopncifebldklaaPkWeighNeeds10
import Derived.Test.YtopncifebldklaaPkWeighNeeds21
/- Package weigh in plain words: a tree without a feature. Conditions: none. -/
namespace Go.Proofs.Ytopncifebldklaa
set_option linter.unusedVariables false
set_option linter.unusedSimpArgs false
open Go.RowKit

/-- without a feature -/
def kwo (f : Int) : Kt → Kt
  | .leaf x => .leaf x
  | .node x l r => if x.f = f then (if x.less = true then kwo f l else kwo f r) else .node x (kwo f l) (kwo f r)
theorem kwo_asks {f : Int} : ∀ (k : Kt), ∀ y ∈ (kwo f k).asks, y ∈ k.asks ∧ y.f ≠ f := by
  intro k
  induction k with
  | leaf x => intro y hy; simp [kwo, Kt.asks] at hy
  | node x l r il ir =>
    intro y hy
    simp only [kwo] at hy
    by_cases h : x.f = f
    · rw [if_pos h] at hy
      by_cases hs : x.less = true
      · rw [if_pos hs] at hy; exact ⟨by simp [Kt.asks, (il y hy).1], (il y hy).2⟩
      · rw [if_neg hs] at hy; exact ⟨by simp [Kt.asks, (ir y hy).1], (ir y hy).2⟩
    · rw [if_neg h] at hy
      simp only [Kt.asks, List.mem_cons, List.mem_append] at hy ⊢
      rcases hy with rfl | hy | hy
      · exact ⟨.inl rfl, h⟩
      · exact ⟨.inr (.inl (il y hy).1), (il y hy).2⟩
      · exact ⟨.inr (.inr (ir y hy).1), (ir y hy).2⟩
theorem kwo_leaves {f : Int} : ∀ (k : Kt), ∀ y ∈ (kwo f k).leaves, y ∈ k.leaves := by
  intro k
  induction k with
  | leaf x => intro y hy; exact hy
  | node x l r il ir =>
    intro y hy
    simp only [kwo] at hy
    by_cases h : x.f = f
    · rw [if_pos h] at hy
      by_cases hs : x.less = true
      · rw [if_pos hs] at hy; simp [Kt.leaves, il y hy]
      · rw [if_neg hs] at hy; simp [Kt.leaves, ir y hy]
    · rw [if_neg h] at hy
      simp only [Kt.leaves, List.mem_append] at hy ⊢
      rcases hy with hy | hy
      · exact .inl (il y hy)
      · exact .inr (ir y hy)
theorem kwo_fit {f fe : Int} {k : Kt} (h : k.Fit fe) : (kwo f k).Fit fe := ⟨fun y hy => h.1 y (kwo_asks k y hy).1, fun y hy => h.2 y (kwo_leaves k y hy)⟩
theorem kwo_less (f : Int) : ∀ k : Kt, (kwo f k).size ≤ k.size ∧ (kwo f k).deep ≤ k.deep := by
  intro k
  induction k with
  | leaf x => exact ⟨Nat.le_refl _, Nat.le_refl _⟩
  | node x l r il ir =>
    simp only [kwo]
    by_cases h : x.f = f
    · rw [if_pos h]
      by_cases hs : x.less = true
      · rw [if_pos hs]; simp only [Kt.size, Kt.deep]; omega
      · rw [if_neg hs]; simp only [Kt.size, Kt.deep]; omega
    · rw [if_neg h]; simp only [Kt.size, Kt.deep]; omega
/-- what a tree without a feature says of a row, is what the tree says of the row with that cell not there -/
theorem kwo_val (f : Nat) (r : List Int) : ∀ k : Kt, (∀ y ∈ k.asks, 0 ≤ y.f) → f < r.length → kval r (kwo f k) = kval (r.set f (-1125899906842624)) k := by
  intro k
  induction k with
  | leaf x => intro _ _; rfl
  | node x l r' il ir =>
    intro h hf
    have hl := il (fun y hy => h y (by simp [Kt.asks, hy])) hf
    have hr := ir (fun y hy => h y (by simp [Kt.asks, hy])) hf
    have hx := h x (by simp [Kt.asks])
    simp only [kwo]
    by_cases hxf : x.f = f
    · have hc : cellAt (r.set f (-1125899906842624)) x.f = -1125899906842624 := by
        unfold cellAt
        rw [hxf, Int.toNat_natCast, List.getD_eq_getElem?_getD, List.getElem?_set_self hf]
        rfl
      have hg : goes x (cellAt (r.set f (-1125899906842624)) x.f) = x.less := by rw [hc]; unfold goes; rw [if_pos rfl]
      rw [if_pos hxf]
      simp only [kval]
      rw [hg]
      by_cases hs : x.less = true
      · rw [if_pos hs, if_pos hs]; exact hl
      · rw [if_neg hs, if_neg hs]; exact hr
    · rw [if_neg hxf]
      have hc : cellAt (r.set f (-1125899906842624)) x.f = cellAt r x.f := by
        unfold cellAt
        rw [List.getD_eq_getElem?_getD, List.getD_eq_getElem?_getD, List.getElem?_set_ne (by omega)]
      simp only [kval]
      rw [hc, hl, hr]
def woV (f : Int) (t : List Nd) : List Nd := layK 0 (kwo f (kTree t))
theorem Right.wo {t : List Nd} {fe : Int} (h : Right t fe) (f : Int) : Right (woV f t) fe := by
  have h1 := kwo_less f (kTree t)
  have h2 := h.sortedLen
  have h3 := h.most
  have h4 : (kTree t).deep ≤ 10 := by
    have := kof_deep h.behind t.length 0 h.pos (by omega)
    have := h.deep
    unfold kTree
    omega
  exact right_lay (kwo_fit h.kfit) h.fe0 h.fe8 (by omega) (by omega)
theorem Right.woValue {t : List Nd} {fe : Int} (h : Right t fe) {f : Nat} {r : List Int} (hf : f < r.length) : valAt (woV f t) (leafOf (woV f t) r) = valAt t (leafOf t (r.set f (-1125899906842624))) := by
  rw [(h.wo f).value r, h.value]
  have h1 : kTree (woV f t) = nrm 0 (kwo f (kTree t)) := kTree_lay (kwo_fit h.kfit).ok
  rw [h1, (nrm_alike _ 0).val r]
  exact kwo_val f r _ (fun y hy => (h.kfit.1 y hy).2.1) hf
/-- who asks in a tree as it is laid -/
theorem lay_asks : ∀ (k : Kt) (n : Nat), k.Ok → ∀ y ∈ layK n k, y.f = -1 ∨ ∃ z ∈ k.asks, y.f = z.f := by
  intro k
  induction k with
  | leaf x =>
    intro n hk y hy
    simp only [layK, List.mem_singleton] at hy
    subst hy
    exact .inl (hk.2 y (by simp [Kt.leaves]))
  | node x l r il ir =>
    intro n hk y hy
    simp only [layK, List.mem_cons, List.mem_append] at hy
    rcases hy with rfl | hy | hy
    · exact .inr ⟨x, by simp [Kt.asks], rfl⟩
    · rcases il _ hk.left y hy with h | ⟨z, hz, h⟩
      · exact .inl h
      · exact .inr ⟨z, by simp [Kt.asks, hz], h⟩
    · rcases ir _ hk.right y hy with h | ⟨z, hz, h⟩
      · exact .inl h
      · exact .inr ⟨z, by simp [Kt.asks, hz], h⟩
theorem Right.woAsks {t : List Nd} {fe : Int} (h : Right t fe) {f : Int} : ∀ y ∈ woV f t, y.f = -1 ∨ y.f ≠ f := fun y hy => by
  rcases lay_asks _ 0 (kwo_fit h.kfit).ok y hy with h1 | ⟨z, hz, h1⟩
  · exact .inl h1
  · exact .inr (by rw [h1]; exact (kwo_asks _ z hz).2)

end Go.Proofs.Ytopncifebldklaa
/- Package weigh in plain words: what features gain; which features uses tell of; a grove without a feature. Conditions: none. -/
namespace Go.Proofs.Ytopncifebldklaa
set_option linter.unusedVariables false
set_option linter.unusedSimpArgs false
open Go.RowKit

def addG (T : List Us) (f : Nat) (d : Int) : List Us := match T[f]? with
  | some u => T.set f ⟨u.f, u.n, u.g + d⟩
  | none => T
theorem addG_len (T : List Us) (f : Nat) (d : Int) : (addG T f d).length = T.length := by unfold addG; split <;> simp
/-- what a question gains -/
def gainV (f : Nat) (c : Int) (ss : List Sm) : Int := spreadV ss - spreadV (lowS f c ss) - spreadV (highS f c ss)
def gainT : Kt → List Sm → List Us → List Us
  | .leaf _, _, T => T
  | .node x l r, ss, T => gainT r (highS x.f.toNat x.c ss) (gainT l (lowS x.f.toNat x.c ss) (addG T x.f.toNat (gainV x.f.toNat x.c ss)))
theorem gainT_len : ∀ (k : Kt) (ss : List Sm) (T : List Us), (gainT k ss T).length = T.length := by
  intro k
  induction k with
  | leaf x => intro ss T; rfl
  | node x l r il ir => intro ss T; simp only [gainT]; rw [ir, il, addG_len]
/-- samples that may be weighed -/
def WOk (ss : List Sm) : Prop := ss.length ≤ 60 ∧ (∀ s ∈ ss, -1000 ≤ s.t) ∧ (∀ s ∈ ss, s.t ≤ 1000)
theorem WOk.low {ss : List Sm} (h : WOk ss) (f : Nat) (c : Int) : WOk (lowS f c ss) :=
  ⟨by have := parts_len f c ss; have := h.1; omega, fun s hs => h.2.1 s (lowS_mem hs).1, fun s hs => h.2.2 s (lowS_mem hs).1⟩
theorem WOk.high {ss : List Sm} (h : WOk ss) (f : Nat) (c : Int) : WOk (highS f c ss) :=
  ⟨by have := parts_len f c ss; have := h.1; omega, fun s hs => h.2.1 s (highS_mem hs).1, fun s hs => h.2.2 s (highS_mem hs).1⟩
theorem WOk.spread {ss : List Sm} (h : WOk ss) : -4000000000 ≤ spreadV ss ∧ spreadV ss ≤ 4000000000 := (spread_in h.1 h.2.1 h.2.2).2.2
theorem gainV_in {ss : List Sm} (h : WOk ss) (f : Nat) (c : Int) : 0 ≤ gainV f c ss ∧ gainV f c ss ≤ 12000000000 := by
  have h1 := h.spread
  have h2 := (h.low f c).spread
  have h3 := (h.high f c).spread
  have h4 := spread_parts f c ss
  unfold gainV
  omega
def GainOk (T : List Us) (b : Int) : Prop := ∀ u ∈ T, 0 ≤ u.g ∧ u.g ≤ b
theorem GainOk.add {T : List Us} {b d : Int} (h : GainOk T b) (f : Nat) (h0 : 0 ≤ d) : GainOk (addG T f d) (b + d) := by
  intro u hu
  unfold addG at hu
  split at hu
  · rename_i v hv
    rcases List.mem_or_eq_of_mem_set hu with hu | rfl
    · have := h u hu; omega
    · have := h v (List.mem_of_getElem? hv)
      dsimp only
      omega
  · have := h u hu; omega
theorem GainOk.more {T : List Us} {b c : Int} (h : GainOk T b) (hc : b ≤ c) : GainOk T c := fun u hu => by have := h u hu; omega
theorem gainT_ok : ∀ (k : Kt) (ss : List Sm) (T : List Us) (b : Int), WOk ss → GainOk T b → GainOk (gainT k ss T) (b + 12000000000 * (k.size : Int)) := by
  intro k
  induction k with
  | leaf x => intro ss T b _ h; exact h.more (by simp only [Kt.size]; omega)
  | node x l r il ir =>
    intro ss T b hw h
    simp only [gainT, Kt.size]
    have h1 := gainV_in hw x.f.toNat x.c
    have h2 := (h.add x.f.toNat h1.1).more (c := b + 12000000000) (by omega)
    exact (ir _ _ _ (hw.high _ _) (il _ _ _ (hw.low _ _) h2)).more (by omega)
theorem count_gain : ∀ (t : List Nd) (T : List Us) (b : Int), GainOk T b → GainOk (countT T t) b := by
  intro t
  induction t with
  | nil => intro T b h; exact h
  | cons x r ih =>
    intro T b h
    refine ih _ b ?_
    unfold oneT
    split
    · exact h
    · intro u hu
      unfold stepT at hu
      split at hu
      · rename_i v hv
        rcases List.mem_or_eq_of_mem_set hu with hu | rfl
        · exact h u hu
        · exact h v (List.mem_of_getElem? hv)
      · exact h u hu
/-- what features gain in a tree -/
def gainsL (t : List Nd) (ss : List Sm) : List Us := listG (gainT (kTree t) ss (countT zeroT t))
theorem listG_mem {T : List Us} {u : Us} (h : u ∈ listG T) : u ∈ T ∧ 0 < u.n := by
  unfold listG at h
  have := (sortG_perm _).mem_iff.1 h
  have h2 := List.mem_filter.1 this
  exact ⟨h2.1, by simpa using h2.2⟩
theorem gainsL_ok {t : List Nd} {ss : List Sm} (hw : WOk ss) {u : Us} (h : u ∈ gainsL t ss) : 0 ≤ u.g ∧ 1 ≤ u.n := by
  obtain ⟨h1, h2⟩ := listG_mem h
  have h3 := gainT_ok (kTree t) ss _ 0 hw (count_gain t zeroT 0 (fun u hu => by simp [zeroT] at hu; subst hu; decide))
  exact ⟨(h3 u h1).1, by omega⟩
theorem gainsL_len (t : List Nd) (ss : List Sm) : (gainsL t ss).length ≤ 8 := by
  unfold gainsL listG
  rw [sortG_len]
  have := usedT_len (gainT (kTree t) ss (countT zeroT t))
  rw [gainT_len, countT_len] at this
  exact this

/-! ### of which features uses tell -/
theorem asked_count {S : Nd → Prop} : ∀ (t : List Nd) (T : List Us), (∀ u ∈ T, 0 < u.n → ∃ x, S x ∧ x.f ≠ -1 ∧ u.f = x.f) → (∀ x ∈ t, S x) → (∀ x ∈ t, x.f ≠ -1 → 0 ≤ x.f) → ∀ u ∈ countT T t, 0 < u.n → ∃ x, S x ∧ x.f ≠ -1 ∧ u.f = x.f := by
  intro t
  induction t with
  | nil => intro T h _ _; exact h
  | cons x r ih =>
    intro T h hs hf
    refine ih _ ?_ (fun y hy => hs y (List.mem_cons_of_mem _ hy)) (fun y hy => hf y (List.mem_cons_of_mem _ hy))
    unfold oneT
    split
    · exact h
    · rename_i hx
      intro u hu hn
      unfold stepT at hu
      split at hu
      · rename_i v hv
        rcases List.mem_or_eq_of_mem_set hu with hu | rfl
        · exact h u hu hn
        · exact ⟨x, hs x (List.mem_cons_self ..), hx, by have := hf x (List.mem_cons_self ..) hx; dsimp only; omega⟩
      · exact h u hu hn
theorem usesL_asked {L : List (List Nd)} (hf : ∀ t ∈ L, ∀ x ∈ t, x.f ≠ -1 → 0 ≤ x.f) {u : Us} (h : u ∈ usesL L) : ∃ t ∈ L, ∃ x ∈ t, x.f ≠ -1 ∧ u.f = x.f := by
  have key : ∀ (K : List (List Nd)) (T : List Us), (∀ t ∈ K, t ∈ L) → (∀ u ∈ T, 0 < u.n → ∃ x, (∃ t ∈ L, x ∈ t) ∧ x.f ≠ -1 ∧ u.f = x.f) → ∀ u ∈ K.foldl countT T, 0 < u.n → ∃ x, (∃ t ∈ L, x ∈ t) ∧ x.f ≠ -1 ∧ u.f = x.f := by
    intro K
    induction K with
    | nil => intro T _ h; exact h
    | cons t r ih =>
      intro T hk h
      have ht := hk t (List.mem_cons_self ..)
      exact ih _ (fun y hy => hk y (List.mem_cons_of_mem _ hy)) (asked_count t T h (fun x hx => ⟨t, ht, hx⟩) (fun x hx => hf t ht x hx))
  have hn : 0 < u.n := by
    unfold usesL listT at h
    have := (sortU_perm _).mem_iff.1 h
    simpa using (List.mem_filter.1 this).2
  obtain ⟨x, ⟨t, h1, h2⟩, h3, h4⟩ := key L zeroT (fun t h => h) (fun u hu hn => by simp [zeroT] at hu; subst hu; exact absurd hn (by decide)) u (usesL_mem h) hn
  exact ⟨t, h1, x, h2, h3, h4⟩

/-! ### a grove without a feature -/
theorem wo_grove {g p : Gv} {f : Int} (hg : g.e = 0) (h1 : p.f = g.f) (h2 : p.way = g.way) (h3 : p.ws = g.ws) (h4 : p.trees = g.trees.map (woV f)) : p.e = 0 := by
  have hG := groveE_right hg
  have hRt : ∀ t ∈ g.trees, Right t g.f := fun t ht => by
    obtain ⟨r, hr, rfl⟩ := List.mem_map.1 ht
    exact right_of (hG.trees r hr)
  have hl : p.trees.length = g.trees.length := by rw [h4, List.length_map]
  have hz : treesE p.f p.trees = 0 := treesE_zero _ (fun t ht => by
    rw [h4] at ht
    obtain ⟨s, hs, rfl⟩ := List.mem_map.1 ht
    rw [h1]
    exact treeE_right ((hRt s hs).wo f))
  have hgz : treesE g.f g.trees = 0 := treesE_zero _ (fun t ht => treeE_right (hRt t ht))
  unfold Gv.e at hg ⊢
  unfold groveE at hg ⊢
  rw [h1, h2, h3, hl]
  rw [h1] at hz
  rw [hgz] at hg
  rw [hz]
  exact hg
theorem set_row {r : List Int} (h : rowE r = 0) (h8 : r.length ≤ 8) (f : Nat) : rowE (r.set f (-1125899906842624)) = 0 := by
  refine rowE_good (fun x hx => ?_) (by rw [List.length_set]; exact h8)
  rcases List.mem_or_eq_of_mem_set hx with hx | rfl
  · rcases row_cellsP h x hx with rfl | h2
    · exact rowGood_nil
    · exact rowGood_cell h2.1 h2.2
  · exact rowGood_nil
theorem wo_stand {g p : Gv} {r : List Int} (hg : g.e = 0) (hp : p.e = 0) (h1 : p.f = g.f) : standE p r = standE g r := by
  unfold standE
  rw [if_pos hg, if_pos hp, h1]
theorem wo_eval {g p : Gv} {f : Nat} {r : List Int} (hs : standE g r = 0) (hf : f < r.length) (h1 : p.f = g.f) (h2 : p.way = g.way) (h3 : p.ws = g.ws) (h4 : p.trees = g.trees.map (woV f)) :
    standE g (r.set f (-1125899906842624)) = 0 ∧ gevalV p r = gevalV g (r.set f (-1125899906842624)) := by
  obtain ⟨hG, hr, hl⟩ := standE_0 hs
  have hg : g.e = 0 := by
    unfold standE at hs
    by_cases h : g.e = 0
    · exact h
    · rw [if_neg h] at hs; exact absurd hs h
  have hp := wo_grove (f := (f : Int)) hg h1 h2 h3 h4
  have hs2 : standE g (r.set f (-1125899906842624)) = 0 := by
    unfold standE
    rw [if_pos hg, if_pos (set_row hr (by have := hG.f8; omega) f), if_pos (by rw [List.length_set]; exact hl)]
  refine ⟨hs2, ?_⟩
  have hs3 : standE p r = 0 := by rw [wo_stand hg hp h1]; exact hs
  have e1 : eachV p r = eachV g (r.set f (-1125899906842624)) := by
    have a : ∀ (q : Gv) (x : List Int), eachV q x = q.trees.map fun t => valAt t (leafOf t x) := fun q x => by simp [eachV, Gv.trees]
    rw [a, a, h4, List.map_map]
    refine List.map_congr_left fun t ht => ?_
    obtain ⟨u, hu, rfl⟩ := List.mem_map.1 ht
    exact (right_of (hG.trees u hu)).woValue hf
  unfold gevalV
  rw [if_pos hs3, if_pos hs2, h2, h3, e1]
end Go.Proofs.Ytopncifebldklaa
/- Package weigh: spread, gain. Conditions: samples and nodes that stay as they are whatever becomes of the table. -/
namespace Go.Proofs.Ytopncifebldklaa
set_option linter.unusedVariables false
set_option linter.unusedSimpArgs false
open Go.RowKit

theorem bodyPost_nameW {P : Program} {f : Func} {Q : Ending → World → Prop} {x : Exit} {a : Act} {W : World} (h : ∀ X, X = W → bodyPost P f Q x a X) : bodyPost P f Q x a W := h W rfl
theorem wp_nameX {P : Program} {c : Code} {Q : Exit → Act → World → Prop} {a : Act} {W : World} (h : ∀ X, X = W → Code.wp P c Q a X) : Code.wp P c Q a W := h W rfl
theorem post_nameX {Q : Exit → Act → World → Prop} {x : Exit} {a : Act} {W : World} (h : ∀ X, X = W → Q x a X) : Q x a W := h W rfl
theorem calls_nameX {P : Program} {f : FuncId} {xs : Array Value} {W : World} {Q : Ending → World → Prop} (h : ∀ X, X = W → Calls P f xs X Q) : Calls P f xs W Q := h W rfl

set_option maxRecDepth 100000 in
set_option maxHeartbeats 2000000 in
theorem spread_any (A : Option Addr) (n c : Nat) (ss : List Sm) (w : World) (h : MReads w w.heap.size A n ss) (hw : WOk ss) :
    Calls Try.prog 36 #[.slice A n c] w fun e w' => e = .returned (.int .i64 (spreadV ss)) ∧ Below w.heap.size w w' := by
  have hlen := h.len
  have hn60 : n ≤ 60 := by have := hw.1; omega
  have HB : Hid (∀ k, (-60000 ≤ sumM (ss.take k) ∧ sumM (ss.take k) ≤ 60000) ∧ 0 ≤ sqM (ss.take k) ∧ sqM (ss.take k) ≤ 60000000) := hide fun k => by
    have h0 : (ss.take k).length ≤ 60 := by rw [List.length_take]; omega
    have h1 : ∀ s ∈ ss.take k, -1000 ≤ s.t := fun s hs => hw.2.1 s (List.mem_of_mem_take hs)
    have h2 : ∀ s ∈ ss.take k, s.t ≤ 1000 := fun s hs => hw.2.2 s (List.mem_of_mem_take hs)
    have h3 := sqM_in h1 h2
    exact ⟨sum_60 h0 h1 h2, h3.1, by omega⟩
  have HSP : Hid (spreadV ss = if n = 0 then 0 else ((n : Int) * sqM ss - sumM ss * sumM ss) / (n : Int)) := hide (by unfold spreadV; rw [hlen])
  have hsi := spread_in hw.1 hw.2.1 hw.2.2
  rw [hlen] at hsi
  have HSI := hide hsi
  have HT : Hid (ss.take n = ss) := hide (List.take_of_length_le (by omega))
  have HL := hide hlen
  have H1 := hide hw.2.1
  have H2 := hide hw.2.2
  clear hlen hw hsi
  go_enter Try.func36, Try.ntmps36
  go_wp2_with fail
  go_loopw [3, 4, 9] (fun s q i wr => ∃ k : Nat, k ≤ n ∧ s = .int .i64 (sumM (ss.take k)) ∧ q = .int .i64 (sqM (ss.take k)) ∧ i = .int .i64 k ∧ Below w.heap.size w wr) (fun _ _ i _ => n - (intOf i).toNat)
  case atStart => exact ⟨0, Nat.zero_le _, rfl, rfl, rfl, Below.refl _ _⟩
  case round =>
    obtain ⟨k, hk, rfl, rfl, rfl, hbel⟩ := hrel
    by_cases hlt : k < n
    · obtain ⟨b, o, s, rfl, _, hx, c0, c1, hok⟩ := (h.below hbel).get hlt
      have HN := hide (sumM_next hx)
      have HN2 := hide (sqM_next hx)
      obtain ⟨⟨b1, b2⟩, b3, b4⟩ := unhide HB k
      obtain ⟨S, hS⟩ : ∃ S, S = sumM (ss.take k) := ⟨_, rfl⟩
      obtain ⟨Q, hQ⟩ : ∃ Q, Q = sqM (ss.take k) := ⟨_, rfl⟩
      rw [← hS] at b1 b2 HN ⊢
      rw [← hQ] at b3 b4 HN2 ⊢
      have t1 := unhide H1 s (List.mem_of_getElem? hx)
      have t2 := unhide H2 s (List.mem_of_getElem? hx)
      obtain ⟨sA, sn, sc, sr, st⟩ := s
      dsimp only at c0 c1 HN HN2 t1 t2
      have q := sq_le (a := st) (m := 1000) (by omega) t2
      have q1 := q.1
      have q2 := q.2
      have hbA := hbel.alloc hbel.size (.cells #[.slice sA sn sc, .int .i64 st] 46)
      clear hx hok hS hQ q
      go_wp2_with fail
      go_roundw
      case rel => exact ⟨k + 1, by omega, by rw [unhide HN], by rw [unhide HN2], by go_num, hbA⟩
      case measure => simp [intOf]; omega
    · obtain rfl : k = n := by omega
      have hBk := unhide HB k
      rw [unhide HT] at hBk ⊢
      obtain ⟨⟨b1, b2⟩, b3, b4⟩ := hBk
      obtain ⟨d1, d2, _, _⟩ := unhide HSI
      obtain ⟨S, hS⟩ : ∃ S, S = sumM ss := ⟨_, rfl⟩
      obtain ⟨Q, hQ⟩ : ∃ Q, Q = sqM ss := ⟨_, rfl⟩
      rw [← hS, ← hQ] at d1 d2 HSP ⊢
      rw [← hS] at b1 b2
      rw [← hQ] at b3 b4
      clear hS hQ
      by_cases h0 : k = 0
      · have HR : Hid (spreadV ss = 0) := hide (by rw [unhide HSP, if_pos h0])
        subst h0
        clear HSP
        go_wp2_with fail
        go_ret
        exact ⟨ret_int (unhide HR).symm, hbel⟩
      · have HR := hide ((unhide HSP).trans (if_neg h0))
        have e1 : ((k : Int) == 0) = false := by simp; omega
        have e1' : (k == 0) = false := by simp; omega
        have g1 := sq_le (a := S) (m := 60000) (by omega) (by omega)
        have m1 : 0 ≤ (k : Int) * Q := Int.mul_nonneg (by omega) b3
        have m2 : (k : Int) * Q ≤ 60 * 60000000 := Int.mul_le_mul (by omega) b4 b3 (by omega)
        have hw1 : IntKind.i64.wrap ((k : Int) * Q) = (k : Int) * Q := IntWalk.i64_in _ (by omega)
        have hw2 : IntKind.i64.wrap (S * S) = S * S := IntWalk.i64_in _ (by omega)
        have hw3 : IntKind.i64.wrap ((k : Int) * Q - S * S) = (k : Int) * Q - S * S := IntWalk.i64_in _ (by omega)
        have hc := hide (floor_any ((k : Int) * Q - S * S) (k : Int) wr (by omega) (by omega) (by omega) (by omega))
        have h0' : ¬ k = 0 := h0
        clear HSP g1 m1 m2 d1 d2 h0
        go_wp2_with fail
        refine (unhide hc).mono ?_
        rintro e w1 ⟨rfl, rfl⟩
        go_wp2_with fail
        go_ret
        exact ⟨ret_int (unhide HR).symm, hbel⟩

/-! ### who stays as the table changes -/
theorem grown_two {w w1 w2 : World} {r : Option Nat} (h1 : w.grownBy w1 r) (h2 : w1.grownBy w2 r) : w.grownBy w2 r :=
  ⟨h2.os.trans h1.os, h2.tape.trans h1.tape, h2.output.trans h1.output, Nat.le_trans h1.size h2.size, fun i hi hne => by
    have hs := h1.size
    rw [h2.block i (by omega) hne, h1.block i hi hne]⟩
def MSt (w : World) (g : Nat) (A : Option Addr) (n : Nat) (ss : List Sm) : Prop := ∀ w', w.grownBy w' (some g) → MReads w' w'.heap.size A n ss
def NSt (w : World) (g : Nat) (A : Option Addr) (n : Nat) (t : List Nd) : Prop := ∀ w', w.grownBy w' (some g) → NReads w' w'.heap.size A n t
theorem MSt.next {w w1 : World} {g n : Nat} {A : Option Addr} {ss : List Sm} (h : MSt w g A n ss) (h1 : w.grownBy w1 (some g)) : MSt w1 g A n ss := fun w2 h2 => h w2 (grown_two h1 h2)
theorem NSt.next {w w1 : World} {g n : Nat} {A : Option Addr} {t : List Nd} (h : NSt w g A n t) (h1 : w.grownBy w1 (some g)) : NSt w1 g A n t := fun w2 h2 => h w2 (grown_two h1 h2)
theorem MSt.now {w : World} {g n : Nat} {A : Option Addr} {ss : List Sm} (h : MSt w g A n ss) : MReads w w.heap.size A n ss := h w (World.grownBy.refl _ _)
theorem NSt.now {w : World} {g n : Nat} {A : Option Addr} {t : List Nd} (h : NSt w g A n t) : NReads w w.heap.size A n t := h w (World.grownBy.refl _ _)
theorem MSt.made {w w1 : World} {g c : Nat} {A : Option Addr} {ss a : List Sm} {A0 : Option Addr} {n0 : Nat} (hg : g < w.heap.size) (h : MSt w g A0 n0 ss) (hb : Below w.heap.size w w1) (ho : MOwn w1 w.heap.size (.slice A a.length c) a) (hm : ∀ s ∈ a, s ∈ ss) : MSt w1 g A a.length a := by
  intro w2 h2
  have hk : w2.ownsRow w.heap.size 46 2 (.slice A a.length c) a.length (a.flatMap Sm.cells) := by
    refine World.ownsRow.kept ho h2 ?_
    rcases hk : (Value.slice A a.length c).ownBlock with _ | k
    · exact .inl rfl
    · refine .inr fun e => ?_
      have h3 := own_block_ge ho k hk
      injection e with e
      omega
  refine ⟨?_, fun s hs => ?_⟩
  · have := MOwn.slice hk
    obtain ⟨A', c', e', hr, _⟩ := this
    injection e' with e1 _ _
    rw [e1]; exact hr
  · exact (h w2 (grown_two (only_of_below hb _) h2)).2 s (hm s hs)
/-- samples of rows of n cells that may be weighed -/
def WS (ss : List Sm) (n : Nat) : Prop := WOk ss ∧ ∀ s ∈ ss, s.r.length = n
theorem WS.low {ss : List Sm} {n : Nat} (h : WS ss n) (f : Nat) (c : Int) : WS (lowS f c ss) n := ⟨h.1.low f c, fun s hs => h.2 s (lowS_mem hs).1⟩
theorem WS.high {ss : List Sm} {n : Nat} (h : WS ss n) (f : Nat) (c : Int) : WS (highS f c ss) n := ⟨h.1.high f c, fun s hs => h.2 s (highS_mem hs).1⟩
end Go.Proofs.Ytopncifebldklaa
