/- Part 18 of what LawBoostTells needs: BoostF. Conditions: as each lemma names. -/
import Derived.Test.YtdpijhnbhopnbaaGreatDoorPkBoostTells16
import Derived.Test.YtdpijhnbhopnbaaGreatDoorPkBoostTells17
import Derived.Deep.CutBlock
/- Package boost: Fit. Conditions: samples that read as data. -/
namespace Go.Proofs.YtdpijhnbhopnbaaGreatDoor
set_option linter.unusedVariables false
set_option linter.unusedSimpArgs false
open Go.RowKit

theorem Bag.addB {w0 w w' : World} {base : Nat} {rs : List BRow} {bs : List Bk} (h : Bag w0 w base rs [] bs) (hb : Below w.heap.size w w') {e : TypeId} {z n : Nat} {v : Value} {xs : List Value} (ho : w'.ownsRow w.heap.size e z v n xs) : Bag w0 w' base (⟨e, z, v, n, xs⟩ :: rs) [] bs := by
  have h1 := h.below hb
  have hge := own_block_ge ho
  have hlow : w'.ownsRow base e z v n xs := by
    refine ⟨ho.1, ?_⟩
    rcases ho.2 with h2 | ⟨g, cap, cur, e2, hg, h3⟩
    · exact .inl h2
    · exact .inr ⟨g, cap, cur, e2, Nat.le_trans h.low hg, h3⟩
  refine ⟨fun r hr => ?_, ?_, h1.blk, fun r hr => ?_, h1.bne, h1.low, h1.bel⟩
  · simp only [List.append_nil, List.mem_cons] at hr
    rcases hr with rfl | hr
    · exact hlow
    · exact h1.own r (by simpa using hr)
  · rw [List.append_nil]
    refine List.pairwise_cons.2 ⟨fun s hs => ?_, by simpa using h1.apart⟩
    intro k hk e2
    have := hge k hk
    have := ((h.own s (by simpa using hs)).lt k e2).2
    omega
  · simp only [List.append_nil, List.mem_cons] at hr
    rcases hr with rfl | hr
    · intro b hb2 e2
      have := hge _ e2
      have := (h.blk b hb2).1.lt
      omega
    · exact h1.ne r (by simpa using hr)
theorem Bag.perm {w0 w : World} {base : Nat} {rs rs' : List BRow} {bs : List Bk} (h : Bag w0 w base rs [] bs) (hp : rs'.Perm rs) : Bag w0 w base rs' [] bs := by
  refine ⟨fun r hr => h.own r ?_, ?_, h.blk, fun r hr => h.ne r ?_, h.bne, h.low, h.bel⟩
  · simp only [List.append_nil] at hr ⊢; exact hp.mem_iff.1 hr
  · have := h.apart
    rw [List.append_nil] at this ⊢
    exact (hp.pairwise_iff (fun h => h.symm)).2 this
  · simp only [List.append_nil] at hr ⊢; exact hp.mem_iff.1 hr
theorem Bag.has {w0 w : World} {base : Nat} {rs : List BRow} {bs : List Bk} (h : Bag w0 w base rs [] bs) {i : Nat} {r : BRow} (hi : rs[i]? = some r) : w.ownsRow base r.e r.z r.v r.n r.xs := h.own r (by simpa using List.mem_of_getElem? hi)

def treeRow (p : Value × List Nd) : BRow := ⟨51, 6, p.1, p.2.length, p.2.flatMap Nd.cells⟩
/-- how it lies while it is made -/
def BSt (w0 w : World) (base : Nat) (fe : Int) (rv : Value) (rest : List Int) (tv wv : Value) (nw : Nat) (ts : List (Value × List Nd)) (g15 g10 : Nat) : Prop :=
  Bag w0 w base (⟨3, 1, rv, rest.length, rest.map (Value.int .i64)⟩ :: ⟨48, 1, tv, ts.length, ts.map (·.1)⟩ :: ⟨3, 1, wv, nw, List.replicate nw (.int .i64 1)⟩ :: ts.map treeRow) []
    [⟨g15, 26, #[.int .i64 fe, .int .i64 2, wv, tv]⟩, ⟨g10, 26, #[.int .i64 0, .int .i64 0, .slice none 0 0, .slice none 0 0]⟩]
theorem elem_trs : Elem Tryz.prog 24 48 (.slice none 0 0) 1 24 := ⟨Tryz.underlying24, by kernel_rfl, rfl, by omega, by omega⟩
theorem boostE_0 {ss : List Sm} {fe rounds depth part : Int} (h : boostE ss fe rounds depth part = 0) : sampE ss fe = 0 ∧ 0 ≤ rounds ∧ rounds ≤ 8 ∧ 1 ≤ depth ∧ depth ≤ 4 ∧ 1 ≤ part ∧ part ≤ 100 := by
  unfold boostE at h
  by_cases h0 : sampE ss fe = 0
  · rw [if_pos h0] at h
    by_cases h1 : rounds < 0 ∨ 8 < rounds ∨ depth < 1 ∨ 4 < depth ∨ part < 1 ∨ 100 < part
    · rw [if_pos h1] at h; cases h
    · exact ⟨h0, by omega, by omega, by omega, by omega, by omega, by omega⟩
  · rw [if_neg h0] at h; exact absurd h h0
def BoostPost (ss : List Sm) (fe rounds depth part : Int) (w : World) (e : Ending) (w' : World) : Prop :=
  ∃ g' : Gv, e = .returned (.tuple #[g'.val, errV (boostE ss fe rounds depth part)]) ∧ GReads w' w'.heap.size g' ∧ Below w.heap.size w w' ∧
    (boostE ss fe rounds depth part = 0 → g'.f = fe ∧ g'.way = 2 ∧ g'.trees = boostTrees ss fe.toNat rounds.toNat depth.toNat part ∧ g'.ws = List.replicate g'.trees.length 1) ∧
    (boostE ss fe rounds depth part ≠ 0 → g'.f = 0 ∧ g'.way = 0 ∧ g'.ws = [] ∧ g'.ts = [])
theorem own_lowB {w : World} {base b0 n size : Nat} {e : TypeId} {v : Value} {xs : List Value} (h : w.ownsRow base e size v n xs) (hb : b0 ≤ base) : w.ownsRow b0 e size v n xs := by
  refine ⟨h.1, ?_⟩
  rcases h.2 with h2 | ⟨g, cap, cur, e2, hg, h3⟩
  · exact .inl h2
  · exact .inr ⟨g, cap, cur, e2, Nat.le_trans hb hg, h3⟩
def halfRe (rest : List Int) (ss : List Sm) (k : Nat) : List Sm := (reS rest ss).take k ++ ss.drop k
theorem reS_len {rest : List Int} {ss : List Sm} (h : rest.length = ss.length) : (reS rest ss).length = ss.length := by unfold reS; rw [List.length_zipWith, h, Nat.min_self]
theorem reS_mem {rest : List Int} {ss : List Sm} {s : Sm} (h : s ∈ reS rest ss) : ∃ x ∈ ss, ∃ r, s = setT x r := by
  obtain ⟨i, hi⟩ := List.mem_iff_getElem?.1 h
  unfold reS at hi
  rw [List.getElem?_zipWith] at hi
  cases h1 : rest[i]? with
  | none => rw [h1] at hi; simp at hi
  | some r =>
    cases h2 : ss[i]? with
    | none => rw [h1, h2] at hi; simp at hi
    | some x =>
      rw [h1, h2] at hi
      simp at hi
      exact ⟨x, List.mem_of_getElem? h2, r, hi.symm⟩
theorem halfRe_parts {rest : List Int} {ss : List Sm} (h : rest.length = ss.length) {k : Nat} {s : Sm} (hs : ss[k]? = some s) : halfRe rest ss k = (reS rest ss).take k ++ s :: ss.drop (k + 1) ∧ ((reS rest ss).take k).length = k := by
  have hk := (List.getElem?_eq_some_iff.1 hs).1
  exact ⟨by unfold halfRe; rw [drop_at hs], by rw [List.length_take, reS_len h]; omega⟩
theorem halfRe_next {rest : List Int} {ss : List Sm} {k : Nat} {s : Sm} {r : Int} (hr : rest[k]? = some r) (hs : ss[k]? = some s) : halfRe rest ss (k + 1) = (reS rest ss).take k ++ setT s r :: ss.drop (k + 1) := by
  have hv : (reS rest ss)[k]? = some (setT s r) := by unfold reS; rw [List.getElem?_zipWith, hr, hs]
  unfold halfRe
  rw [take_next hv, List.append_assoc]
  rfl
theorem smps_set (xs zs : List Sm) (x : Sm) (u : Int) : ((xs ++ x :: zs).flatMap Sm.cells).set (xs.length * 2 + 1) (.int .i64 u) = (xs ++ (⟨x.A, x.n, x.c, x.r, u⟩ : Sm) :: zs).flatMap Sm.cells := by
  have hl := flatMap_len Sm.cells 2 (fun _ => rfl) xs
  rw [List.flatMap_append, List.flatMap_append, List.set_append_right _ _ (by omega)]
  congr 1
  rw [List.flatMap_cons, List.flatMap_cons, hl, show xs.length * 2 + 1 - xs.length * 2 = 1 by omega, List.set_append_left _ _ (by simp [Sm.cells])]
  rfl
theorem MOwn.at_ {w : World} {base n cap : Nat} {A : Option Addr} {l : List Sm} (h : MOwn w base (.slice A n cap) l) (hl : l.length = n) {k : Nat} {x : Sm} (hx : l[k]? = some x) :
    ∃ g, A = some ⟨g, 0, none⟩ ∧ base ≤ g ∧ g < w.heap.size ∧ w.cell? ⟨g, k * 2 + 1, none⟩ = some (.int .i64 x.t) ∧ w.frozen? ⟨g, k * 2 + 1, none⟩ = false := by
  unfold MOwn at h
  rw [hl] at h
  have hk : k < n := by rw [← hl]; exact (List.getElem?_eq_some_iff.1 hx).1
  have hc := flatMap_at Sm.cells 2 (fun _ => rfl) l k 1 x hx (by omega)
  rcases h.2 with ⟨e, h0⟩ | ⟨g, cap', cur, e, hg, hh, _⟩
  · omega
  · injection e with e1 e2 e3
    subst e1
    refine ⟨g, rfl, hg, (Array.getElem?_eq_some_iff.1 hh).1, ?_, h.frozenAt _⟩
    rw [h.cellAt _ (by omega), hc]
    rfl
theorem MOwn.stored {w : World} {base n cap g : Nat} {xs zs : List Sm} {x : Sm} (h : MOwn w base (.slice (some ⟨g, 0, none⟩) n cap) (xs ++ x :: zs)) (hl : (xs ++ x :: zs).length = n) (u : Int) :
    MOwn (w.setCell ⟨g, xs.length * 2 + 1, none⟩ (.int .i64 u)) base (.slice (some ⟨g, 0, none⟩) n cap) (xs ++ (⟨x.A, x.n, x.c, x.r, u⟩ : Sm) :: zs) := by
  unfold MOwn at h ⊢
  have hl' : (xs ++ (⟨x.A, x.n, x.c, x.r, u⟩ : Sm) :: zs).length = n := by rw [← hl]; simp
  rw [hl] at h
  rw [hl', ← smps_set xs zs x u]
  exact (h.stored _ _).1
theorem MOwn.over {w w1 : World} {base : Nat} {v : Value} {l : List Sm} (h : MOwn w base v l) (hb : Below w.heap.size w w1) : MOwn w1 base v l := own_over h hb
theorem NOwn.over {w w1 : World} {base : Nat} {v : Value} {l : List Nd} (h : NOwn w base v l) (hb : Below w.heap.size w w1) : NOwn w1 base v l := own_over h hb
def halfV (f : Int → Int) (t : List Nd) (k : Nat) : List Nd := (t.take k).map (reV f) ++ t.drop k
theorem halfV_parts {f : Int → Int} {t : List Nd} {k : Nat} {x : Nd} (h : t[k]? = some x) : halfV f t k = (t.take k).map (reV f) ++ x :: t.drop (k + 1) ∧ ((t.take k).map (reV f)).length = k ∧ halfV f t (k + 1) = (t.take k).map (reV f) ++ reV f x :: t.drop (k + 1) := by
  have hk := (List.getElem?_eq_some_iff.1 h).1
  refine ⟨by unfold halfV; rw [drop_at h], by rw [List.length_map, List.length_take]; omega, ?_⟩
  unfold halfV
  rw [take_next h, List.map_append, List.append_assoc]
  rfl
theorem halfV_len (f : Int → Int) (t : List Nd) (k : Nat) : (halfV f t k).length = t.length := by
  unfold halfV
  rw [List.length_append, List.length_map, List.length_take, List.length_drop]
  omega
/-- what holds at a round -/
structure RSt (ss : List Sm) (n d : Nat) (part : Int) (R kk : Nat) (rest : List Int) (ts : List (Value × List Nd)) : Prop where
  len : rest.length = ss.length
  bnd : ∀ x ∈ rest, -(2000 + 1000 * (kk : Int)) ≤ x ∧ x ≤ 2000 + 1000 * (kk : Int)
  tok : ∀ p ∈ ts, p.2.length ≤ 63 ∧ ∀ y ∈ p.2, -1000 ≤ y.v ∧ y.v ≤ 1000
  cnt : ts.length ≤ kk + 1
  eq : roundsB ss n d part (R - kk) ⟨rest, ts.map (·.2)⟩ = roundsB ss n d part R (startBS ss)
theorem lessV_mem {rest : List Int} {t : List Nd} {ss : List Sm} {y : Int} (h : y ∈ lessV rest t ss) : ∃ x ∈ rest, ∃ s ∈ ss, y = x - valAt t (leafOf t s.r) := by
  obtain ⟨i, hi⟩ := List.mem_iff_getElem?.1 h
  unfold lessV at hi
  rw [List.getElem?_zipWith] at hi
  cases h1 : rest[i]? with
  | none => rw [h1] at hi; simp at hi
  | some r =>
    cases h2 : ss[i]? with
    | none => rw [h1, h2] at hi; simp at hi
    | some x =>
      rw [h1, h2] at hi
      simp at hi
      exact ⟨r, List.mem_of_getElem? h1, x, List.mem_of_getElem? h2, hi.symm⟩
theorem less_bnd {rest : List Int} {t : List Nd} {ss : List Sm} {n : Nat} {b : Int} (hR : Right t n) (hv : ∀ y ∈ t, -1000 ≤ y.v ∧ y.v ≤ 1000) (hb : ∀ x ∈ rest, -b ≤ x ∧ x ≤ b) : ∀ x ∈ lessV rest t ss, -(b + 1000) ≤ x ∧ x ≤ b + 1000 := by
  intro y hy
  obtain ⟨x, hx, s, _, rfl⟩ := lessV_mem hy
  obtain ⟨z, hz, e, _⟩ := valAt_in hR s.r
  have h1 := hb x hx
  have h2 := hv z (List.mem_of_getElem? hz)
  omega
theorem RSt.start {ss : List Sm} {n d : Nat} {part : Int} {R : Nat} {v : Value} (hs : SRight ss n) : RSt ss n d part R 0 (startBS ss).rest [(v, firstT ss)] := by
  have hf := firstT_right hs
  refine ⟨lessV_len (by simp), ?_, fun p hp => ?_, Nat.le_refl _, rfl⟩
  · have := less_bnd (ss := ss) (rest := ss.map (·.t)) (b := 1000) hf.1 hf.2 (fun x hx => by
      obtain ⟨s, h, rfl⟩ := List.mem_map.1 hx
      exact ⟨hs.tlo s h, hs.thi s h⟩)
    intro x hx
    have := this x hx
    omega
  · obtain rfl := List.mem_singleton.1 hp
    exact ⟨by show 1 ≤ 63; omega, hf.2⟩
theorem RSt.next {ss : List Sm} {n d : Nat} {part : Int} {R kk : Nat} {rest : List Int} {ts : List (Value × List Nd)} {v : Value} (h : RSt ss n d part R kk rest ts) (hs : SRight ss n) (hd : d ≤ 4) (h1 : 1 ≤ part) (h2 : part ≤ 100) (hk : kk < R)
    (hq : ¬ squaresV rest ≤ squaresV (lessV rest (roundT ss n d part rest) ss)) : RSt ss n d part R (kk + 1) (lessV rest (roundT ss n d part rest) ss) (ts ++ [(v, roundT ss n d part rest)]) := by
  obtain ⟨a, b⟩ := roundT_right (depth := d) hs h.len (by omega) h1 h2
  refine ⟨lessV_len h.len, ?_, fun p hp => ?_, by have := h.cnt; rw [List.length_append]; simp; omega, ?_⟩
  · intro x hx
    have := less_bnd (ss := ss) a b h.bnd x hx
    omega
  · rcases List.mem_append.1 hp with hp | hp
    · exact h.tok p hp
    · obtain rfl := List.mem_singleton.1 hp
      exact ⟨a.most, b⟩
  · rw [← h.eq, show R - kk = (R - (kk + 1)) + 1 by omega]
    rw [roundsB, if_neg hq, List.map_append]
    rfl
theorem RSt.stop {ss : List Sm} {n d : Nat} {part : Int} {R kk : Nat} {rest : List Int} {ts : List (Value × List Nd)} (h : RSt ss n d part R kk rest ts) (hk : kk < R) (hq : squaresV rest ≤ squaresV (lessV rest (roundT ss n d part rest) ss)) : ts.map (·.2) = (roundsB ss n d part R (startBS ss)).trees := by
  rw [← h.eq, show R - kk = (R - (kk + 1)) + 1 by omega, roundsB, if_pos hq]
theorem RSt.full {ss : List Sm} {n d : Nat} {part : Int} {R : Nat} {rest : List Int} {ts : List (Value × List Nd)} (h : RSt ss n d part R R rest ts) : ts.map (·.2) = (roundsB ss n d part R (startBS ss)).trees := by
  rw [← h.eq, Nat.sub_self]
  rfl
theorem perm5 {a b c d e : BRow} {T : List BRow} : (c :: a :: d :: e :: (T ++ [b])).Perm (a :: b :: c :: d :: e :: T) := by
  classical
  rw [List.perm_iff_count]
  intro x
  simp only [List.count_cons, List.count_append, List.count_nil]
  omega
/-- the last round: some trees have their last values -/
def endF (nT : Nat) (v : Int) : Int := capV (v * (nT : Int))
def endQ (nT : Nat) (ts : List (Value × List Nd)) (u : Nat) (p : Value × List Nd) (q : Nat) : List (Value × List Nd) := (ts.take u).map (fun p => (p.1, endT nT p.2)) ++ (p.1, halfV (endF nT) p.2 q) :: ts.drop (u + 1)
def endS (nT : Nat) (ts : List (Value × List Nd)) (u : Nat) : List (Value × List Nd) := (ts.take u).map (fun p => (p.1, endT nT p.2)) ++ ts.drop u
theorem endS_fst (nT : Nat) (ts : List (Value × List Nd)) (u : Nat) : (endS nT ts u).map (·.1) = ts.map (·.1) := by
  unfold endS
  rw [List.map_append, List.map_map]
  conv => rhs; rw [← List.take_append_drop u ts, List.map_append]
  rfl
theorem endS_len (nT : Nat) (ts : List (Value × List Nd)) (u : Nat) : (endS nT ts u).length = ts.length := by
  have := congrArg List.length (endS_fst nT ts u)
  simpa using this
theorem endQ_0 {nT : Nat} {ts : List (Value × List Nd)} {u : Nat} {p : Value × List Nd} (h : ts[u]? = some p) : endS nT ts u = endQ nT ts u p 0 := by
  unfold endS endQ halfV
  rw [drop_at h]
  simp
theorem endQ_full {nT : Nat} {ts : List (Value × List Nd)} {u : Nat} {p : Value × List Nd} (h : ts[u]? = some p) : endQ nT ts u p p.2.length = endS nT ts (u + 1) := by
  unfold endS endQ halfV
  rw [take_next h, List.map_append, List.take_of_length_le (Nat.le_refl _), List.drop_of_length_le (Nat.le_refl _), List.append_nil, List.append_assoc]
  rfl
theorem endQ_rows {nT : Nat} {ts : List (Value × List Nd)} {u : Nat} {p : Value × List Nd} {q : Nat} (h : u < ts.length) (X : BRow) : ((endQ nT ts u p q).map treeRow).set u X = (((ts.take u).map (fun p => (p.1, endT nT p.2))).map treeRow) ++ X :: (ts.drop (u + 1)).map treeRow := by
  unfold endQ
  have hl : (((ts.take u).map (fun p => (p.1, endT nT p.2))).map treeRow).length = u := by simp; omega
  rw [List.map_append, List.map_cons, List.set_append_right _ _ (by omega), hl, Nat.sub_self, List.set_cons_zero]
theorem endQ_at {nT : Nat} {ts : List (Value × List Nd)} {u : Nat} {p : Value × List Nd} {q : Nat} (h : u < ts.length) : ((endQ nT ts u p q).map treeRow)[u]? = some (treeRow (p.1, halfV (endF nT) p.2 q)) := by
  unfold endQ
  have hl : (((ts.take u).map (fun p => (p.1, endT nT p.2))).map treeRow).length = u := by simp; omega
  rw [List.map_append, List.map_cons, List.getElem?_append_right (by omega), hl, Nat.sub_self]
  rfl
theorem endQ_fst {nT : Nat} {ts : List (Value × List Nd)} {u : Nat} {p : Value × List Nd} {q : Nat} (h : ts[u]? = some p) : (endQ nT ts u p q).map (·.1) = ts.map (·.1) ∧ (endQ nT ts u p q).length = ts.length := by
  have key : (endQ nT ts u p q).map (·.1) = ts.map (·.1) := by
    rw [← endS_fst nT ts u, endQ_0 h]
    unfold endQ
    simp
  refine ⟨key, ?_⟩
  have := congrArg List.length key
  simpa using this
theorem trs_of {w : World} {base : Nat} : ∀ (ts : List (Value × List Nd)), (∀ p ∈ ts, w.ownsRow base 51 6 p.1 p.2.length (p.2.flatMap Nd.cells)) → ∃ trs : List Tr, trs.map Tr.val = ts.map (·.1) ∧ trs.map Tr.l = ts.map (·.2) ∧ ∀ r ∈ trs, TrOk w w.heap.size r := by
  intro ts
  induction ts with
  | nil => intro _; exact ⟨[], rfl, rfl, fun r hr => by cases hr⟩
  | cons p r ih =>
    intro hp
    obtain ⟨trs, h1, h2, h3⟩ := ih fun q hq => hp q (List.mem_cons_of_mem _ hq)
    have ho := hp p (List.mem_cons_self ..)
    obtain ⟨A, c, e, hr, hn, _⟩ := own_slice ho
    refine ⟨⟨A, p.2.length, c, p.2⟩ :: trs, by simp [Tr.val, h1, e], by simp [h2], fun x hx => ?_⟩
    rcases List.mem_cons.1 hx with rfl | hx
    · refine ⟨hr, hn, fun hA => ?_⟩
      dsimp only at hA
      subst hA
      rcases ho.2 with ⟨e2, _⟩ | ⟨g, cap, cur, e2, _⟩
      · rw [e] at e2; injection e2 with _ _ e3
      · rw [e] at e2; injection e2 with e3; cases e3
    · exact h3 x hx
/-- the tree of the round, and what becomes of one of its values -/
theorem BSt.cur {w0 w : World} {base : Nat} {fe : Int} {rv tv wv : Value} {rest : List Int} {nw nT u q g15 g10 : Nat} {ts : List (Value × List Nd)} {p : Value × List Nd} {A : Option Addr} {c : Nat} (hB : BSt w0 w base fe rv rest tv wv nw (endQ nT ts u p q) g15 g10) (hp : ts[u]? = some p) (hv : p.1 = .slice A p.2.length c) {x : Nd} (hx : p.2[q]? = some x) :
    ∃ g, A = some ⟨g, 0, none⟩ ∧ w.cell? ⟨g, q * 6 + 5, none⟩ = some (.int .i64 x.v) ∧ w.frozen? ⟨g, q * 6 + 5, none⟩ = false ∧ BSt w0 (w.setCell ⟨g, q * 6 + 5, none⟩ (.int .i64 (endF nT x.v))) base fe rv rest tv wv nw (endQ nT ts u p (q + 1)) g15 g10 := by
  have hu := (List.getElem?_eq_some_iff.1 hp).1
  have hrow : (⟨3, 1, rv, rest.length, rest.map (Value.int .i64)⟩ :: ⟨48, 1, tv, (endQ nT ts u p q).length, (endQ nT ts u p q).map (·.1)⟩ :: ⟨3, 1, wv, nw, List.replicate nw (.int .i64 1)⟩ :: (endQ nT ts u p q).map treeRow : List BRow)[u + 1 + 1 + 1]? = some (treeRow (p.1, halfV (endF nT) p.2 q)) := by
    rw [List.getElem?_cons_succ, List.getElem?_cons_succ, List.getElem?_cons_succ]
    exact endQ_at hu
  have hown := Bag.has hB hrow
  obtain ⟨hp1, hp2, hp3⟩ := halfV_parts (f := endF nT) hx
  have hl1 : ((p.2.take q).map (reV (endF nT)) ++ x :: p.2.drop (q + 1)).length = p.2.length := by rw [← hp1, halfV_len]
  have hO : NOwn w base (.slice A p.2.length c) ((p.2.take q).map (reV (endF nT)) ++ x :: p.2.drop (q + 1)) := by
    rw [← hp1]
    rw [hv] at hown
    exact hown
  obtain ⟨g, hA1, hgb, hgs, cx, fx⟩ := hO.at_ hl1 (k := q) (x := x) (by rw [List.getElem?_append_right (by omega), hp2, Nat.sub_self]; rfl) 5 (by omega)
  subst hA1
  have hst := hO.stored hl1 (y := reV (endF nT) x) 5 (.int .i64 (endF nT x.v)) (by omega) rfl
  rw [hp2, ← hp3] at hst
  refine ⟨g, rfl, cx, fx, ?_⟩
  have hgw : w.grownBy (w.setCell ⟨g, q * 6 + 5, none⟩ (.int .i64 (endF nT x.v))) (treeRow (p.1, halfV (endF nT) p.2 q)).v.ownBlock := by
    show w.grownBy _ p.1.ownBlock
    rw [hv]
    exact only_setCell (World.grownBy.refl _ _) (.inl rfl) _
  have key := Bag.grow hB (u + 1 + 1 + 1) hrow (v' := p.1) (n' := (halfV (endF nT) p.2 (q + 1)).length) (xs' := (halfV (endF nT) p.2 (q + 1)).flatMap Nd.cells) (by rw [hv]; exact hst) hgw (.inl rfl)
  have hset : ((endQ nT ts u p q).map treeRow).set u ⟨51, 6, p.1, (halfV (endF nT) p.2 (q + 1)).length, (halfV (endF nT) p.2 (q + 1)).flatMap Nd.cells⟩ = (endQ nT ts u p (q + 1)).map treeRow := by
    rw [endQ_rows hu]
    unfold endQ
    rw [List.map_append, List.map_cons]
    rfl
  rw [List.set_cons_succ, List.set_cons_succ, List.set_cons_succ] at key
  have e1 := endQ_fst (nT := nT) (q := q) hp
  have e2 := endQ_fst (nT := nT) (q := q + 1) hp
  unfold BSt
  rw [e2.1, e2.2, ← hset, ← e1.1, ← e1.2]
  exact key
theorem endF_in {nT : Nat} {v : Int} (h : -1000 ≤ v ∧ v ≤ 1000) (hn : nT ≤ 9) : -9000 ≤ v * (nT : Int) ∧ v * (nT : Int) ≤ 9000 := by
  have hn' : (nT : Int) ≤ 9 := by omega
  constructor
  · rcases Int.le_total 0 v with hv | hv
    · have := Int.mul_nonneg hv (show (0 : Int) ≤ (nT : Int) by omega); omega
    · have := Int.mul_le_mul (show -v ≤ 1000 by omega) hn' (by omega) (by omega)
      rw [Int.neg_mul] at this; omega
  · rcases Int.le_total 0 v with hv | hv
    · have := Int.mul_le_mul h.2 hn' (by omega) (by omega); omega
    · have := Int.mul_nonneg (show 0 ≤ -v by omega) (show (0 : Int) ≤ (nT : Int) by omega)
      rw [Int.neg_mul] at this; omega
theorem BSt.drew {w0 w : World} {base : Nat} {fe : Int} {rv tv wv : Value} {rest : List Int} {nw g15 g10 : Nat} {ts : List (Value × List Nd)} (hB : BSt w0 w base fe rv rest tv wv nw ts g15 g10) : BSt w0 w.drew base fe rv rest tv wv nw ts g15 g10 := Bag.drew hB
theorem bodyPost_nameB {P : Program} {f : Func} {Q : Ending → World → Prop} {x : Exit} {a : Act} {W : World} (h : ∀ X, X = W → bodyPost P f Q x a X) : bodyPost P f Q x a W := h W rfl
theorem own_nilB {w : World} {base n c size : Nat} {e : TypeId} {A : Option Addr} {xs : List Value} (h : w.ownsRow base e size (.slice A n c) n xs) : A = none → c = 0 := by
  intro hA
  subst hA
  rcases h.2 with ⟨e2, _⟩ | ⟨g, cap, cur, e2, _⟩
  · injection e2 with _ _ e3
  · injection e2 with e3; cases e3
theorem ts_next {ss : List Sm} {k : Nat} {s : Sm} (h : ss[k]? = some s) : (ss.take (k + 1)).map (·.t) = (ss.take k).map (·.t) ++ [s.t] := by rw [take_next h, List.map_append]; rfl

set_option maxRecDepth 100000 in
set_option maxHeartbeats 8000000 in
theorem boostFit_any (A : Option Addr) (m c : Nat) (fe rounds depth part : Int) (ss : List Sm) (w : World) (h : MReads w w.heap.size A m ss) (hm : m ≤ maxLen) (hE : boostE ss fe rounds depth part = 0) :
    Calls Tryz.prog 6 #[.slice A m c, .int .i64 fe, .int .i64 rounds, .int .i64 depth, .int .i64 part] w (BoostPost ss fe rounds depth part w) := by
  obtain ⟨a0, a1, a2, a3, a4, a5, a6⟩ := boostE_0 hE
  obtain ⟨n, hn, hs⟩ := samp_right a0
  obtain ⟨R, hR⟩ : ∃ R : Nat, rounds = R := ⟨rounds.toNat, by omega⟩
  obtain ⟨d, hd⟩ : ∃ d : Nat, depth = d := ⟨depth.toNat, by omega⟩
  subst hn hR hd
  have hlen := h.len
  have hm60 : m ≤ 60 := by have := hs.most; omega
  have hm1 : 1 ≤ m := by have := hs.pos; omega
  have cCk := hide (gCheck_any A m c n ss (w.alloc (.cells #[.int .i64 0, .int .i64 0, .slice none 0 0, .slice none 0 0] 26)) ((h.below ((Below.refl _ _).alloc (Nat.le_refl _) _)).more (by simp)) hm)
  unfold MCheckPost at cCk
  rw [a0, errV_0 rfl] at cCk
  obtain ⟨k0, hk0⟩ : ∃ k0, k0 = (((sampC ss n).1 : Nat) : Int) := ⟨_, rfl⟩
  rw [← hk0] at cCk
  have HE := hide hE
  have HS := hide hs
  have HL := hide hlen
  have cG : Hid (∀ W, Below w.heap.size w W → Calls Tryz.prog 20 #[.slice none 0 0, .slice A m c, .int .i64 n, .int .i64 0, .int .i64 1] W fun e w' => ∃ A' c', e = .returned (.slice A' 1 c') ∧ NOwn w' W.heap.size (.slice A' 1 c') (firstT ss) ∧ Below W.heap.size W w') := hide (fun W hB => by
    refine Calls.mono (grow_any n 1 (by omega) (by omega) 0 0 rfl (by omega) ss A m c [] (.slice none 0 0) W.heap.size W hs (fun w' hg => (h.below ((hB.trans ((only_of_below_none hg).mono hB.size)))).more (Nat.le_trans hB.size hg.size)) (NOwn.nil_ _ _) (Nat.le_refl _) (by simp [growK, Kt.size])) ?_
    rintro e w' ⟨v, rfl, ho, hg, _⟩
    obtain ⟨A', c', rfl, _, _⟩ := ho.slice
    exact ⟨A', c', rfl, ho, only_of_below_none hg⟩)
  have B0 := (Bag.mk0 w).box_ 26 #[.int .i64 0, .int .i64 0, .slice none 0 0, .slice none 0 0]
  have e1 : decide ((R : Int) < 0) = false := decide_eq_false (by omega)
  have e2 : decide (8 < (R : Int)) = false := decide_eq_false (by omega)
  have e2' : decide (8 < R) = false := decide_eq_false (by omega)
  have e3 : decide ((d : Int) < 1) = false := decide_eq_false (by omega)
  have e4 : decide (4 < (d : Int)) = false := decide_eq_false (by omega)
  have e4' : decide (4 < d) = false := decide_eq_false (by omega)
  have e5 : decide (part < 1) = false := decide_eq_false (by omega)
  have e6 : decide (100 < part) = false := decide_eq_false (by omega)
  have hR8 : R ≤ 8 := by omega
  have hd4 : d ≤ 4 := by omega
  clear hE hs hlen a0 a1 a2 a3 a4 hk0
  go_enter Tryz.func6, Tryz.ntmps6
  go_wp2_with fail
  obtain ⟨W, hW⟩ : ∃ W, W = w.alloc (.cells #[.int .i64 0, .int .i64 0, .slice none 0 0, .slice none 0 0] 26) := ⟨_, rfl⟩
  rw [← hW] at cCk B0 ⊢
  clear hW
  refine (unhide cCk).mono ?_
  rintro e w1 ⟨rfl, hb1⟩
  have B1 := B0.below hb1
  clear cCk hb1 B0
  go_wp2_with fail
  refine (unhide cG w1 B1.bel).mono ?_
  rintro e w2 ⟨A14, c14, rfl, ho2, hb2⟩
  have B2 := B1.addB hb2 ho2
  clear cG B1 ho2 hb2 e1 e2 e2' e3 e4 e4' e5 e6
  have B3 := ((B2.push_ 48 1 1 [.slice A14 1 c14] rfl (by decide)).take _ (List.mem_cons_self ..)).box_ 26 #[.int .i64 n, .int .i64 2, .slice none 0 0, .slice (some ⟨w2.heap.size, 0, none⟩) 1 1]
  clear B2
  rw [World.size_alloc] at B3
  go_wp2_with fail
  refine wp_bag B3 fun X B4 => ?_
  clear B3
  obtain ⟨g15, hg15⟩ : ∃ g, g = w2.heap.size + 1 := ⟨_, rfl⟩
  rw [← hg15] at B4 ⊢
  obtain ⟨gt, hgt⟩ : ∃ g, g = w2.heap.size := ⟨_, rfl⟩
  rw [← hgt] at B4
  clear hg15 hgt
  have hBX := B4.bel
  have hMX : MReads X X.heap.size A m ss := (h.below hBX).more hBX.size
  go_loopw [16, 71] (fun v i wr => ∃ k : Nat, k ≤ m ∧ i = .int .i64 k ∧ Hid (IOwn wr X.heap.size v ((ss.take k).map (·.t))) ∧ Below X.heap.size X wr) (fun _ i _ => m - (intOf i).toNat)
  case atStart => exact ⟨0, Nat.zero_le _, rfl, hide (IOwn.nil_ _ _), Below.refl _ _⟩
  case round =>
    obtain ⟨k, hk, rfl, HO, hbel⟩ := hrel
    have hsz := hbel.size
    by_cases hlt : k < m
    · obtain ⟨b, o, s, rfl, _, hx, c0, c1, hok⟩ := (hMX.below hbel).get hlt
      have HN := hide (ts_next hx)
      obtain ⟨sA, sn, sc, sr, st⟩ := s
      dsimp only at c0 c1 HN
      obtain ⟨L, hL⟩ : ∃ L, L = (ss.take k).map (·.t) := ⟨_, rfl⟩
      have hLl : L.length = k := by rw [hL, List.length_map, List.length_take, unhide HL]; omega
      rw [← hL] at HN HO
      have hbA := hbel.alloc hsz (.cells #[.slice sA sn sc, .int .i64 st] 40)
      have hOA : (wr.alloc (.cells #[.slice sA sn sc, .int .i64 st] 40)).ownsRow X.heap.size 3 1 _ L.length (L.map (Value.int .i64)) := World.ownsRow.alloc (unhide HO) _
      rw [hLl] at hOA
      have hwz : X.heap.size ≤ (wr.alloc (.cells #[.slice sA sn sc, .int .i64 st] 40)).heap.size := by rw [World.size_alloc]; omega
      have HLl := hide hLl
      clear hx hok hL HO hbel hLl
      go_wp2_with (at_builtin; refine app_one elem_int (.tmp 75) (.tmp 78) [.int .i64 st] rfl rfl rfl hOA rfl (World.size_alloc _ _) rfl (ints_oneCell .i64 [st]) (by omega) hwz ?_; intro v2 w2 hown2 hb2 _ _)
      have hown3 : IOwn w2 X.heap.size v2 ((ss.take (k + 1)).map (·.t)) := by
        rw [unhide HN]
        unfold IOwn
        rw [List.length_append, List.map_append, unhide HLl]
        exact hown2
      clear hown2 hOA
      go_wp2_with fail
      go_roundw
      case rel => exact ⟨k + 1, by omega, by go_num, hide hown3, hbA.trans hb2⟩
      case measure => simp [intOf] <;> omega
    · obtain rfl : k = m := by omega
      rw [List.take_of_length_le (by rw [unhide HL]; exact Nat.le_refl _)] at HO
      have hml : (ss.map (·.t)).length = k := by rw [List.length_map, unhide HL]
      obtain ⟨A16, c16, rfl, hr16, _, _, hz16⟩ := (unhide HO).slice_
      rw [hml] at hr16 ⊢
      have B5 := B4.below hbel
      have htr : NReads wr wr.heap.size A14 1 (firstT ss) := Reads.of_own (B5.has (i := 1) (r := ⟨51, 6, .slice A14 1 c14, 1, (firstT ss).flatMap Nd.cells⟩) rfl)
      have hcl := hide (less_any A16 A14 A k c16 1 c14 k c n (ss.map (·.t)) (firstT ss) ss wr hr16 htr ((hMX.below hbel).more hsz) (firstT_right (unhide HS)).1 (unhide HS) rfl hz16 (fun x hx => by
        obtain ⟨s, hs, rfl⟩ := List.mem_map.1 hx
        have h1 := (unhide HS).tlo s hs
        have h2 := (unhide HS).thi s hs
        omega))
      have B6 := hide B5
      clear hr16 hz16 HO htr B4 hMX hBX hbel B5
      go_wp2_with fail
      refine (unhide hcl).mono ?_
      rintro e w3 ⟨v16, rfl, ho16, hb16⟩
      have B7 : BSt w w3 w.heap.size n v16 (startBS ss).rest (.slice (some ⟨gt, 0, none⟩) 1 1) (.slice none 0 0) 0 [(.slice A14 1 c14, firstT ss)] g15 w.heap.size := by
        have h1 := ((unhide B6).addB hb16 ho16).nil1 3 1
        exact h1.perm (List.perm_middle (l₁ := [_, _]))
      clear hcl B6 ho16 hb16
      go_upto_block 2 with (fail)
      go_cut [16] from 16 to 143 (fun s16 wx => ∃ (rest : List Int) (rv tv : Value) (ts : List (Value × List Nd)), Hid (ts.map (·.2) = (roundsB ss n d part R (startBS ss)).trees) ∧ Hid (∀ p ∈ ts, p.2.length ≤ 63 ∧ ∀ y ∈ p.2, -1000 ≤ y.v ∧ y.v ≤ 1000) ∧ ts.length ≤ 9 ∧ Hid (BSt w wx w.heap.size n rv rest tv (.slice none 0 0) 0 ts g15 w.heap.size))
      case first =>
        --{
        have HR0 : Hid (RSt ss n d part R 0 (startBS ss).rest [(.slice A14 1 c14, firstT ss)]) := hide (RSt.start (unhide HS))
        have HB7 := hide B7
        clear B7
        go_wp2_with fail
        go_loopw [16, 86] (fun v i wr => ∃ (kk : Nat) (rest : List Int) (tv : Value) (ts : List (Value × List Nd)), kk ≤ R ∧ i = .int .i64 kk ∧ Hid (RSt ss n d part R kk rest ts) ∧ Hid (BSt w wr w.heap.size n v rest tv (.slice none 0 0) 0 ts g15 w.heap.size)) (fun _ i _ => R - (intOf i).toNat)
        case atStart => exact ⟨0, _, _, _, Nat.zero_le _, rfl, HR0, HB7⟩
        case round =>
          clear HR0 HB7
          obtain ⟨kk, rest, tv, ts, hkk, rfl, HRS, HB⟩ := hrel
          by_cases hlk : kk < R
          · obtain ⟨w0, hw0⟩ : ∃ w0, w0 = wr := ⟨_, rfl⟩
            subst hw0
            have hB0 : BSt w w0 w.heap.size n _ rest tv (.slice none 0 0) 0 ts g15 w.heap.size := unhide HB
            have hbel := hB0.bel
            have hz0 := hbel.size
            have hrl : rest.length = k := by rw [(unhide HRS).len, unhide HL]
            have hro : IOwn w0 w.heap.size _ rest := hB0.has (i := 0) rfl
            obtain ⟨Ar, cr, hv16, hir, _, _, hzr⟩ := hro.slice_
            subst hv16
            rw [hrl] at hir ⊢
            have hM0 : MReads w0 w0.heap.size A k ss := (h.below hbel).more hz0
            have hcl := hide (cloneM_any A k c ss w0 hM0 hm1 hm60)
            clear hro HB
            have HB0 := hide hB0
            clear hB0
            go_wp2_with fail
            refine (unhide hcl).mono ?_
            rintro e w4 ⟨v19, rfl, ho19, hb19⟩
            obtain ⟨A19, c19, rfl, _, _⟩ := ho19.slice
            rw [unhide HL] at ho19 ⊢
            clear hcl
            go_wp2_with fail
            go_loopw [92] (fun i wr => ∃ j : Nat, j ≤ k ∧ i = .int .i64 j ∧ Hid (MOwn wr w0.heap.size (.slice A19 k c19) (halfRe rest ss j)) ∧ Below w0.heap.size w0 wr) (fun i _ => k - (intOf i).toNat)
            case atStart => exact ⟨0, Nat.zero_le _, rfl, hide (by unfold halfRe; simpa using ho19), hb19⟩
            case round =>
              clear ho19 hb19
              obtain ⟨j, hj, rfl, HO, hbel1⟩ := hrel
              have hz1 := hbel1.size
              by_cases hlj : j < k
              · obtain ⟨b, o, y, rfl, _, hy, cy⟩ := (hir.below hbel1).get hlj
                obtain ⟨s, hs⟩ : ∃ s, ss[j]? = some s := ⟨_, List.getElem?_eq_getElem (by rw [unhide HL]; exact hlj)⟩
                obtain ⟨hp1, hp2⟩ := halfRe_parts (unhide HRS).len hs
                have hp3 := halfRe_next hy hs
                have hl1 : ((reS rest ss).take j ++ s :: ss.drop (j + 1)).length = k := by
                  rw [← hp1]
                  unfold halfRe
                  rw [List.length_append, List.length_take, List.length_drop, reS_len (unhide HRS).len, unhide HL]
                  omega
                have hO := unhide HO
                rw [hp1] at hO
                obtain ⟨g, hA1, hgb, hgs, cx, fx⟩ := hO.at_ hl1 (k := j) (x := s) (by rw [List.getElem?_append_right (by omega), hp2, Nat.sub_self]; rfl)
                subst hA1
                have hst := hO.stored hl1 (clipT y)
                rw [hp2] at hst
                have HST : Hid (MOwn (wr.setCell ⟨g, j * 2 + 1, none⟩ (.int .i64 (min 1000 (max (-1000) y)))) w0.heap.size (.slice (some ⟨g, 0, none⟩) k c19) (halfRe rest ss (j + 1))) := hide (by rw [hp3]; exact hst)
                have hbn := hbel1.setCell (p := ⟨g, j * 2 + 1, none⟩) hgb (.int .i64 (min 1000 (max (-1000) y)))
                clear hy hs hp1 hp2 hp3 hl1 hO hst HO
                go_wp2_with fail
                go_roundw
                case rel => exact ⟨j + 1, by omega, by go_num, HST, hbn⟩
                case measure => simp [intOf] <;> omega
              · obtain rfl : j = k := by omega
                have hall : halfRe rest ss j = reS rest ss := by
                  unfold halfRe
                  rw [List.take_of_length_le (by rw [reS_len (unhide HRS).len, unhide HL]; exact Nat.le_refl _), List.drop_of_length_le (by rw [unhide HL]; exact Nat.le_refl _), List.append_nil]
                rw [hall] at HO
                obtain ⟨wA, hwA⟩ : ∃ x, x = wr := ⟨_, rfl⟩
                subst hwA
                have hsre := (unhide HS).re (unhide HRS).len
                have hbA := hbel.trans (hbel1.mono hz0)
                have hGT := growK_size n 1 d (reS rest ss)
                have hpow : 2 ^ (d + 1) ≤ 2 ^ 5 := Nat.pow_le_pow_right (by omega) (by omega)
                have hgr := hide (grow_any n 1 (by omega) (by omega) d d rfl (by omega) (reS rest ss) A19 j c19 [] (.slice none 0 0) wA.heap.size wA hsre (fun w' hg => by
                  have hb' := only_of_below_none hg
                  obtain ⟨A', c', e', hr', _⟩ := ((unhide HO).over hb').slice
                  injection e' with e1 _ _
                  subst e1
                  rw [reS_len (unhide HRS).len, unhide HL] at hr'
                  refine ⟨hr', fun s hs => ?_⟩
                  obtain ⟨x, hx, r, rfl⟩ := reS_mem hs
                  have := ((hM0.2 x hx).below (hbel1.trans (hb'.mono hz1))).more (Nat.le_trans hz1 hb'.size)
                  exact ⟨this.reads, this.len⟩) (NOwn.nil_ _ _) (Nat.le_refl _) (by simp; omega))
                unfold GrowPost at hgr
                rw [List.nil_append, show ([] : List Nd).length = 0 from rfl] at hgr
                have hGv := growK_v0 (n := n) (least := 1) (d := d) (Nat.le_refl _) hsre
                have hGl := layK_len (growK n 1 d (reS rest ss)) 0
                have hRT : Hid (roundT ss n d part rest = (layK 0 (growK n 1 d (reS rest ss))).map (reV (shareV part))) := hide rfl
                obtain ⟨GT, hGTe⟩ : ∃ G, G = layK 0 (growK n 1 d (reS rest ss)) := ⟨_, rfl⟩
                rw [← hGTe] at hgr hGv hGl hRT
                obtain ⟨L, hLe⟩ : ∃ L, L = GT.length := ⟨_, rfl⟩
                have hL63 : L ≤ 63 := by omega
                have HLe := hide hLe
                have HGv := hide hGv
                clear hGT hpow hsre HO hall hGTe hGl hGv hLe
                have hgr1 : Hid (Calls Tryz.prog 20 #[.slice none 0 0, .slice A19 j c19, .int .i64 n, .int .i64 d, .int .i64 1] wA fun e w' => ∃ A' c', e = .returned (.slice A' L c') ∧ NOwn w' wA.heap.size (.slice A' L c') GT ∧ Below wA.heap.size wA w') := hide (by
                  refine Calls.mono (unhide hgr) ?_
                  rintro e w' ⟨v, rfl, ho, hg, _⟩
                  obtain ⟨A', c', rfl, _, _⟩ := ho.slice
                  rw [← unhide HLe] at ho ⊢
                  exact ⟨A', c', rfl, ho, only_of_below_none hg⟩)
                clear hgr
                go_wp2_with fail
                refine (unhide hgr1).mono ?_
                rintro e w5 ⟨A22, c22, rfl, ho22, hb22⟩
                clear hgr1
                go_wp2_with fail
                go_loopw [111] (fun i wr => ∃ q : Nat, q ≤ L ∧ i = .int .i64 q ∧ Hid (NOwn wr wA.heap.size (.slice A22 L c22) (halfV (shareV part) GT q)) ∧ Below wA.heap.size wA wr) (fun i _ => L - (intOf i).toNat)
                case atStart => exact ⟨0, Nat.zero_le _, rfl, hide (by unfold halfV; simpa using ho22), hb22⟩
                case round =>
                  clear ho22 hb22
                  obtain ⟨q, hq, rfl, HO, hbel2⟩ := hrel
                  have hz2 := hbel2.size
                  by_cases hlq : q < L
                  · obtain ⟨x, hx⟩ : ∃ x, GT[q]? = some x := ⟨_, List.getElem?_eq_getElem (by rw [← unhide HLe]; exact hlq)⟩
                    obtain ⟨hp1, hp2, hp3⟩ := halfV_parts (f := shareV part) hx
                    have hl1 : ((GT.take q).map (reV (shareV part)) ++ x :: GT.drop (q + 1)).length = L := by rw [← hp1, halfV_len, unhide HLe]
                    have hO := unhide HO
                    rw [hp1] at hO
                    obtain ⟨g, hA1, hgb, hgs, cx, fx⟩ := hO.at_ hl1 (k := q) (x := x) (by rw [List.getElem?_append_right (by omega), hp2, Nat.sub_self]; rfl) 5 (by omega)
                    subst hA1
                    have hxv := unhide HGv x (List.mem_of_getElem? hx)
                    have hst := hO.stored hl1 (y := reV (shareV part) x) 5 (.int .i64 (shareV part x.v)) (by omega) rfl
                    rw [hp2] at hst
                    obtain ⟨xv, hxve⟩ : ∃ v, v = x.v := ⟨_, rfl⟩
                    rw [← hxve] at hxv hst
                    have cx' : wr.cell? ⟨g, q * 6 + 5, none⟩ = some (.int .i64 xv) := by rw [hxve]; exact cx
                    have hsv : shareV part xv = (xv * part).tdiv 100 := rfl
                    rw [hsv] at hst
                    have hb1 := shareV_in a5 a6 hxv
                    have hpv : -1000000 ≤ xv * part ∧ xv * part ≤ 1000000 := by
                      have := tdiv_parts (xv * part) 100 (by omega)
                      rw [hsv] at hb1
                      omega
                    have HST : Hid (NOwn (wr.setCell ⟨g, q * 6 + 5, none⟩ (.int .i64 ((xv * part).tdiv 100))) wA.heap.size (.slice (some ⟨g, 0, none⟩) L c22) (halfV (shareV part) GT (q + 1))) := hide (by rw [hp3]; exact hst)
                    have hbn := hbel2.setCell (p := ⟨g, q * 6 + 5, none⟩) hgb (.int .i64 ((xv * part).tdiv 100))
                    have hp1' := hpv.1
                    have hp2' := hpv.2
                    clear hx hp1 hp2 hp3 hl1 hO hst HO cx hxve hb1 hsv hpv
                    go_wp2_with fail
                    go_roundw
                    case rel => exact ⟨q + 1, by omega, by go_num, HST, hbn⟩
                    case measure => simp [intOf] <;> omega
                  · obtain rfl : q = L := by omega
                    have hall2 : halfV (shareV part) GT q = roundT ss n d part rest := by
                      unfold halfV
                      rw [List.take_of_length_le (by rw [← unhide HLe]; exact Nat.le_refl _), List.drop_of_length_le (by rw [← unhide HLe]; exact Nat.le_refl _), List.append_nil, unhide hRT]
                    rw [hall2] at HO
                    have hTl : (roundT ss n d part rest).length = q := by rw [← hall2, halfV_len, unhide HLe]
                    obtain ⟨hTr, hTv⟩ := roundT_right (depth := d) (part := part) (unhide HS) (unhide HRS).len (by omega) a5 a6
                    have hB6 := hbel1.trans (hbel2.mono hz1)
                    have BagT := hide (Bag.addB (unhide HB0) hB6 (own_lowB (unhide HO) hz1))
                    obtain ⟨At', ct', et', hrt, _⟩ := (unhide HO).slice
                    rw [hTl] at hrt
                    have hAt : At' = A22 := by injection et' with e1 _ _; exact e1.symm
                    clear et'
                    subst hAt
                    have hir6 := (hir.below hB6).more hB6.size
                    have hcl2 := hide (less_any Ar At' A j cr q c22 j c n rest (roundT ss n d part rest) ss wr hir6 hrt ((hM0.below hB6).more hB6.size) hTr (unhide HS) rfl hzr (fun x hx => by have := (unhide HRS).bnd x hx; omega))
                    have hNl : (lessV rest (roundT ss n d part rest) ss).length = j := by rw [lessV_len (unhide HRS).len, unhide HL]
                    have HNX := hide (fun (v : Value) (hq : ¬ squaresV rest ≤ squaresV (lessV rest (roundT ss n d part rest) ss)) => (unhide HRS).next (v := v) (unhide HS) hd4 a5 a6 hlk hq)
                    have HST := hide (fun (hq : squaresV rest ≤ squaresV (lessV rest (roundT ss n d part rest) ss)) => (unhide HRS).stop hlk hq)
                    obtain ⟨TT, hTT⟩ : ∃ T, T = roundT ss n d part rest := ⟨_, rfl⟩
                    rw [← hTT] at hTl BagT hcl2 hNl HNX HST
                    obtain ⟨NX, hNX⟩ : ∃ N, N = lessV rest TT ss := ⟨_, rfl⟩
                    rw [← hNX] at hcl2 hNl HNX HST
                    have HTl := hide hTl
                    clear hall2 hTr hTv hTT hNX HO hrt hRT hTl hir
                    go_wp2_with fail
                    refine (unhide hcl2).mono ?_
                    rintro e w6 ⟨v24, rfl, ho24, hb24⟩
                    have B7 := hide ((unhide BagT).addB hb24 ho24)
                    obtain ⟨A24, c24, rfl, hr24, _, _, _⟩ := ho24.slice_
                    rw [hNl] at hr24 ⊢
                    have hir7 := hir6.below hb24
                    have hsq1 := hide (squares_any A24 j c24 _ NX w6 hr24 (by unfold maxLen; omega))
                    have hsq2 := hide (squares_any Ar j cr _ rest w6 hir7 (by unfold maxLen; omega))
                    have HNl := hide hNl
                    obtain ⟨SN, hSN⟩ : ∃ S, S = squaresV NX := ⟨_, rfl⟩
                    obtain ⟨SR, hSR⟩ : ∃ S, S = squaresV rest := ⟨_, rfl⟩
                    rw [← hSN] at hsq1 HNX HST
                    rw [← hSR] at hsq2 HNX HST
                    clear hcl2 BagT ho24 hr24 hir6 hir7 hb24 hSN hSR hNl
                    go_wp2_with fail
                    refine (unhide hsq1).mono ?_
                    rintro e w7 ⟨rfl, rfl⟩
                    clear hsq1
                    go_wp2_with fail
                    refine (unhide hsq2).mono ?_
                    rintro e w7 ⟨rfl, rfl⟩
                    clear hsq2
                    by_cases hqq : SR ≤ SN
                    · have d1 : decide (SR ≤ SN) = true := decide_eq_true hqq
                      have HF := hide (unhide HST hqq)
                      clear HNX HST hqq
                      go_wp2_with fail
                      go_meet
                      case rel =>
                        have B8 := ((unhide B7).pop).pop
                        exact ⟨rest, _, tv, ts, HF, hide (unhide HRS).tok, by have := (unhide HRS).cnt; omega, hide B8⟩
                    · have d1 : decide (SR ≤ SN) = false := decide_eq_false hqq
                      have HRN := hide (unhide HNX (.slice At' q c22) (by omega))
                      clear HNX HST hqq
                      have B8 := ((unhide B7).perm perm5).pop
                      obtain ⟨Atv, ctv, hvt, _, _, _⟩ := own_slice (B8.has (i := 1) rfl)
                      dsimp only at hvt
                      subst hvt
                      have BP := B8.push_ 48 1 1 [.slice At' q c22] rfl (by decide)
                      have bk := (B8.blk _ (List.mem_cons_self ..)).1
                      have k3 := bk.cell 3
                      simp at k3
                      have hct := (unhide HRS).cnt
                      clear B7 B8 bk
                      go_wp2_with (at_builtin; refine wpList_append_bag elem_trs BP rfl (.tmp 138) (.tmp 140) rfl 1 rfl rfl (List.mem_cons_self ..) rfl (fun u hu => by rw [List.mem_singleton.1 hu]; rfl) (by omega) ?_; intro A' c' w8 hB8; have bk8 := (hB8.blk _ (List.mem_cons_self ..)).1; have k38 := bk8.cell 3; have f38 := bk8.frozen 3; simp at k38)
                      have B9 : BSt w (w8.setCell ⟨g15, 3, none⟩ (.slice A' (ts.length + 1) c')) w.heap.size n (.slice A24 NX.length c24) NX (.slice A' (ts.length + 1) c') (.slice none 0 0) 0 (ts ++ [(.slice At' q c22, TT)]) g15 w.heap.size := by
                        have h1 := (hB8.forget).store 0 3 (.slice A' (ts.length + 1) c') rfl
                        unfold BSt
                        rw [List.length_append, List.map_append, List.map_append]
                        exact h1
                      rw [unhide HNl] at B9
                      have HB9 := hide B9
                      clear BP hB8 bk8 k38 f38 B9 k3
                      go_roundw
                      case rel => exact ⟨kk + 1, NX, _, _, by omega, by go_num, HRN, HB9⟩
                      case measure => simp [intOf] <;> omega
          · obtain rfl : kk = R := by omega
            have hct := (unhide HRS).cnt
            go_wp2_with fail
            go_meet
            case rel => exact ⟨rest, _, tv, ts, hide (unhide HRS).full, hide (unhide HRS).tok, by omega, HB⟩
        --}
      case rest =>
        obtain ⟨rest, rv, tv, ts, HTS, HTK, hcnt, HB⟩ := hcut
        have hB0 : BSt w wc w.heap.size n rv rest tv (.slice none 0 0) 0 ts g15 w.heap.size := unhide HB
        obtain ⟨Atv, ctv, hvt, _, _, _⟩ := own_slice (Bag.has hB0 (i := 1) rfl)
        dsimp only at hvt
        subst hvt
        have bk := (hB0.blk _ (List.mem_cons_self ..)).1
        have k3 := bk.cell 3
        simp at k3
        obtain ⟨nT, hnT⟩ : ∃ x, x = ts.length := ⟨_, rfl⟩
        rw [← hnT] at k3 hcnt
        have HB2 : Hid (BSt w wc w.heap.size n rv rest (.slice Atv nT ctv) (.slice none 0 0) 0 (endS nT ts 0) g15 w.heap.size) := hide (by rw [hnT]; unfold endS; simpa using hB0)
        have HNT := hide hnT
        clear hB0 bk hnT HB B7
        go_wp2_with fail
        clear k3
        go_loopw [147] (fun i wr => ∃ (u : Nat) (wv : Value), u ≤ nT ∧ i = .int .i64 u ∧ Hid (BSt w wr w.heap.size n rv rest (.slice Atv nT ctv) wv u (endS nT ts u) g15 w.heap.size)) (fun i _ => nT - (intOf i).toNat)
        case atStart => exact ⟨0, _, Nat.zero_le _, rfl, HB2⟩
        case round =>
          clear HB2
          obtain ⟨u, wv, hu, rfl, HB⟩ := hrel
          have hB := unhide HB
          by_cases hlu : u < nT
          · obtain ⟨p, hp⟩ : ∃ p, ts[u]? = some p := ⟨_, List.getElem?_eq_getElem (by rw [← unhide HNT]; exact hlu)⟩
            have hfst := endS_fst nT ts u
            have hslen := endS_len nT ts u
            have hr1 := Bag.has hB (i := 1) rfl
            dsimp only at hr1
            rw [hfst, hslen, ← unhide HNT] at hr1
            obtain ⟨gT, oT, hAt, hgT, hcT⟩ := Reads.spot (Reads.of_own hr1) (by omega) (by omega)
            subst hAt
            have cT := hcT u p.1 (by rw [List.getElem?_map, hp]; rfl)
            obtain ⟨Awv, cwv, hwv, _, _, _⟩ := own_slice (Bag.has hB (i := 2) rfl)
            dsimp only at hwv
            subst hwv
            rw [endQ_0 hp] at hB
            have hpo := Bag.has hB (i := 3 + u) (r := treeRow (p.1, halfV (endF nT) p.2 0)) (by rw [show 3 + u = u + 1 + 1 + 1 by omega, List.getElem?_cons_succ, List.getElem?_cons_succ, List.getElem?_cons_succ]; exact endQ_at (by rw [← unhide HNT]; exact hlu))
            obtain ⟨Ap, cp, hpv, _, _, _⟩ := own_slice hpo
            dsimp only [treeRow] at hpv
            rw [halfV_len] at hpv
            rw [hpv] at cT
            have bk := (hB.blk _ (List.mem_cons_self ..)).1
            have k2 := bk.cell 2
            have k3 := bk.cell 3
            simp at k2 k3
            have BP := hB.push_ 3 1 1 [.int .i64 1] rfl (by decide)
            have hpl := (unhide HTK p (List.mem_of_getElem? hp)).1
            obtain ⟨lp, hlp⟩ : ∃ l, l = p.2.length := ⟨_, rfl⟩
            rw [← hlp] at cT hpl
            have HLP := hide hlp
            have HPV := hide hpv
            have HP := hide hp
            clear hfst hslen hr1 hcT hpo bk HB hB hlp hpv hp
            go_wp2_with (at_builtin; refine wpList_append_bag elem_int BP rfl (.tmp 152) (.tmp 153) rfl 2 rfl rfl (List.mem_cons_self ..) rfl (fun u hu => by rw [List.mem_singleton.1 hu]; rfl) (by omega) ?_; intro A' c' w8 hB8; have bk8 := (hB8.blk _ (List.mem_cons_self ..)).1; have k28 := bk8.cell 2; have f28 := bk8.frozen 2; simp at k28)
            have B9 : BSt w (w8.setCell ⟨g15, 2, none⟩ (.slice A' (u + 1) c')) w.heap.size n rv rest (.slice (some ⟨gT, oT, none⟩) nT ctv) (.slice A' (u + 1) c') (u + 1) (endQ nT ts u p 0) g15 w.heap.size := by
              have h1 := (hB8.forget).store 0 2 (.slice A' (u + 1) c') rfl
              unfold BSt
              rw [List.replicate_succ']
              exact h1
            have HB9 := hide B9
            clear BP hB8 bk8 k28 f28 B9 k2 k3 cT
            go_loopw [158] (fun i wr => ∃ q : Nat, q ≤ lp ∧ i = .int .i64 q ∧ Hid (BSt w wr w.heap.size n rv rest (.slice (some ⟨gT, oT, none⟩) nT ctv) (.slice A' (u + 1) c') (u + 1) (endQ nT ts u p q) g15 w.heap.size)) (fun i _ => lp - (intOf i).toNat)
            case atStart => exact ⟨0, Nat.zero_le _, rfl, HB9⟩
            case round =>
              clear HB9
              obtain ⟨q, hq, rfl, HB⟩ := hrel
              by_cases hlq : q < lp
              ·
                --{
                obtain ⟨x, hx⟩ : ∃ x, p.2[q]? = some x := ⟨_, List.getElem?_eq_getElem (by rw [← unhide HLP]; exact hlq)⟩
                obtain ⟨g, hAp, cx, fx, hBn⟩ := BSt.cur (unhide HB).drew (unhide HP) (unhide HPV) hx
                subst hAp
                have hxv := (unhide HTK p (List.mem_of_getElem? (unhide HP))).2 x (List.mem_of_getElem? hx)
                have bk := ((unhide HB).blk _ (List.mem_cons_self ..)).1
                have k3 := bk.cell 3
                simp at k3
                obtain ⟨xv, hxve⟩ : ∃ v, v = x.v := ⟨_, rfl⟩
                rw [← hxve] at hxv cx hBn
                obtain ⟨m1, m2⟩ := endF_in (nT := nT) hxv (by omega)
                have HBN := hide hBn
                have cx' : wr.cell? ⟨g, q * 6 + 5, none⟩ = some (.int .i64 xv) := cx
                have fx' : wr.frozen? ⟨g, q * 6 + 5, none⟩ = false := fx
                have hwr : IntKind.i64.wrap (xv * (nT : Int)) = xv * (nT : Int) := IntWalk.i64_in _ (by omega)
                clear hx hxve hBn bk cx fx
                go_wp2_with fail
                go_region
                go_wp2_with fail
                go_roundw
                case rel => exact ⟨q + 1, by omega, by go_num, HBN⟩
                case measure => simp [intOf] <;> omega
                --}
              · obtain rfl : q = lp := by omega
                have HBE : Hid (BSt w wr w.heap.size n rv rest (.slice (some ⟨gT, oT, none⟩) nT ctv) (.slice A' (u + 1) c') (u + 1) (endS nT ts (u + 1)) g15 w.heap.size) := hide (by rw [← endQ_full (unhide HP), ← unhide HLP]; exact unhide HB)
                clear HB
                go_wp2_with fail
                go_roundw
                case rel => exact ⟨u + 1, _, by omega, by go_num, HBE⟩
                case measure => simp [intOf] <;> omega
          · obtain rfl : u = nT := by omega
            have hsl := endS_len u ts u
            have hend : (endS u ts u).map (·.2) = boostTrees ss n R d part := by
              unfold endS boostTrees
              rw [← unhide HTS, List.drop_of_length_le (by rw [← unhide HNT]; exact Nat.le_refl _), List.append_nil, List.take_of_length_le (by rw [← unhide HNT]; exact Nat.le_refl _), List.map_map, List.map_map, List.length_map, ← unhide HNT]
              rfl
            obtain ⟨TE, hTE⟩ : ∃ T, T = endS u ts u := ⟨_, rfl⟩
            rw [← hTE] at hB hsl hend
            rw [← unhide HNT] at hsl
            obtain ⟨Awv, cwv, hwv, _, _, _⟩ := own_slice (Bag.has hB (i := 2) rfl)
            dsimp only at hwv
            subst hwv
            have bk := (hB.blk _ (List.mem_cons_self ..)).1
            have bk2 := (hB.blk _ (List.mem_cons_of_mem _ (List.mem_cons_self ..))).1
            dsimp only at bk bk2
            have x0 := bk.cell 0; have x1 := bk.cell 1; have x2 := bk.cell 2; have x3 := bk.cell 3
            have y0 := bk2.cell 0; have y1 := bk2.cell 1; have y2 := bk2.cell 2; have y3 := bk2.cell 3
            have f0 := bk2.frozen 0; have f1 := bk2.frozen 1; have f2 := bk2.frozen 2; have f3 := bk2.frozen 3
            simp at x0 x1 x2 x3 y0 y1 y2 y3
            have BF := (((Bag.store hB 1 0 (.int .i64 n) rfl).store 1 1 (.int .i64 2) rfl).store 1 2 (.slice Awv u cwv) rfl).store 1 3 (.slice Atv u ctv) rfl
            dsimp only at BF
            have HBF := hide BF
            have HSL := hide hsl
            have HEND := hide hend
            clear HB bk bk2 hB BF hsl hend hTE
            go_wp2_with fail
            refine bodyPost_nameB fun WF hWF => ?_
            rw [← hWF] at HBF
            clear hWF x0 x1 x2 x3 y0 y1 y2 y3 f0 f1 f2 f3
            have BF := unhide HBF
            have hown1 := Bag.has BF (i := 1) rfl
            have hown2 := Bag.has BF (i := 2) rfl
            dsimp only at hown1 hown2
            rw [unhide HSL] at hown1
            obtain ⟨trs, ht1, ht2, ht3⟩ := trs_of (w := WF) (base := w.heap.size) TE (fun p hp => by
              have := BF.own (treeRow p) (by simp [List.mem_map_of_mem hp])
              exact this)
            have hr1 := Reads.of_own hown1
            have hr2 := Reads.of_own hown2
            have hn1 := own_slice hown1
            have bF := (BF.blk _ (List.mem_cons_of_mem _ (List.mem_cons_self ..))).1
            have k0 := bF.cell 0
            have k1 := bF.cell 1
            have k2 := bF.cell 2
            have k3 := bF.cell 3
            simp at k0 k1 k2 k3
            refine bodyPost_ret (v := .tuple #[.agg #[.int .i64 n, .int .i64 2, .slice Awv u cwv, .slice Atv u ctv], .nilIface]) (by simp [results, Tryz.results6, go_sem, k0, k1, k2, k3]) rfl ?_
            have hf : (⟨(n : Int), 2, Awv, u, cwv, List.replicate u 1, Atv, u, ctv, trs⟩ : Gv).trees = boostTrees ss n R d part := by
              unfold Gv.trees
              rw [ht2]
              exact unhide HEND
            have hul : u ≤ maxLen := by unfold maxLen; omega
            refine ⟨⟨n, 2, Awv, u, cwv, List.replicate u 1, Atv, u, ctv, trs⟩, by rw [errV_0 (unhide HE)]; rfl, ⟨?_, ⟨?_, ht3⟩, hul, hul, own_nilB hown2, own_nilB hown1⟩, BF.bel, fun _ => ⟨rfl, rfl, hf, ?_⟩, fun h => absurd (unhide HE) h⟩
            · unfold IReads
              rw [List.map_replicate]
              exact hr2
            · rw [ht1]; exact hr1
            · have := congrArg List.length (unhide HEND)
              rw [List.length_map, unhide HSL] at this
              rw [hf, ← this]
end Go.Proofs.YtdpijhnbhopnbaaGreatDoor
