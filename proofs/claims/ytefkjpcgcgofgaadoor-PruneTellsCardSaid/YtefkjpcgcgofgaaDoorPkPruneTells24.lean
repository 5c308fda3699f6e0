/- Part 24 of what LawPruneTells needs: Kin4. Conditions: as each lemma names. -/
import Derived.Test.YtefkjpcgcgofgaaDoorPkPruneTells23
/- One node gives way: the new tree is right, has fewer nodes, and is, pruned, what the old one is, pruned. Plain. Conditions: as each lemma names. -/
namespace Go.Proofs.YtefkjpcgcgofgaaDoor
set_option linter.unusedVariables false
set_option linter.unusedSimpArgs false
open Go.RowKit

def relink (x : Nd) (a c : Nat) : Nd := if x.l = (a : Int) then ⟨x.f, x.c, (c : Int), x.r, x.less, x.v⟩ else ⟨x.f, x.c, x.l, (c : Int), x.less, x.v⟩
theorem relink_same (x : Nd) (a c : Nat) : (relink x a c).f = x.f ∧ (relink x a c).c = x.c ∧ (relink x a c).less = x.less ∧ (relink x a c).v = x.v := by
  unfold relink; split <;> exact ⟨rfl, rfl, rfl, rfl⟩
/-- the tree in which a node gave way -/
def gaveT (t : List Nd) (a c : Nat) : List Nd := if upAt a 0 t < 0 then layK 0 (kof t t.length c) else match t[(upAt a 0 t).toNat]? with
  | some x => layK 0 (kTree (t.set (upAt a 0 t).toNat (relink x a c)))
  | none => []
theorem kid_less {t : List Nd} {n i c : Nat} (hR : Right t n) (h : toR t n i = some c) : ∀ k, t.length ≤ i + k → (kof t k c).size < (kof t k i).size ∧ (kof t k c).deep ≤ (kof t k i).deep ∧ i < c ∧ c < t.length := by
  intro k hk
  obtain ⟨x, hx, hf, hcx⟩ := toR_some h
  have hi : i < t.length := (List.getElem?_eq_some_iff.1 hx).1
  obtain ⟨q, rfl⟩ : ∃ q, k = q + 1 := ⟨k - 1, by omega⟩
  obtain ⟨b1, b2, b3, b4⟩ := hR.behind i x hx hf
  have mL : kof t (q + 1) x.l.toNat = kof t q x.l.toNat := kof_more hR.behind _ _ _ (by omega) (by omega) (by omega)
  have mR : kof t (q + 1) x.r.toNat = kof t q x.r.toNat := kof_more hR.behind _ _ _ (by omega) (by omega) (by omega)
  rw [kof_node hx hf]
  simp only [Kt.size, Kt.deep]
  rcases hcx with rfl | rfl
  · rw [mL]; omega
  · rw [mR]; omega
theorem kof_fit {t : List Nd} {fe : Int} (hb : Behind t) (hn : ∀ (i : Nat) n, t[i]? = some n → ∃ N j : Nat, ∃ m, nodeE N j fe m = 0 ∧ n.f = m.f ∧ n.c = m.c ∧ n.less = m.less ∧ n.v = m.v ∧ (n.f = -1 → n = m)) {k i : Nat} (h1 : i < t.length) (h2 : t.length ≤ i + k) : (kof t k i).Fit fe := by
  refine ⟨fun y hy => ?_, fun y hy => ?_⟩
  · obtain ⟨j, hj, hf⟩ := kof_asks k i y hy
    obtain ⟨N, j', m, hm, e1, e2, e3, e4, e5⟩ := hn j y hj
    rcases node_of hm with h | h
    · exact absurd (e1.trans h.1) hf
    · refine ⟨hf, by rw [e1]; exact h.1, by rw [e1]; exact h.2.1, by rw [e2]; exact h.2.2.1, by rw [e2]; exact h.2.2.2.1, by rw [e4]; exact h.2.2.2.2.2.2.2.2.1⟩
  · obtain ⟨j, hj, hf⟩ := kof_leaves hb k i h1 h2 y hy
    obtain ⟨N, j', m, hm, e1, e2, e3, e4, e5⟩ := hn j y hj
    have := e5 hf
    subst this
    rcases node_of hm with h | h
    · exact ⟨h.1, h.2.1, h.2.2.1, h.2.2.2.1, h.2.2.2.2.1, h.2.2.2.2.2.1, h.2.2.2.2.2.2⟩
    · omega
theorem pruned_lay {k : Kt} (hk : k.Ok) (n : Nat) : prunedV (layK 0 k) n = layK 0 (kpr k (wideL n)) := by
  unfold prunedV
  rw [kTree_lay hk]
  exact ((nrm_alike k 0).kpr_ _).lay 0
theorem sorted_lay {k : Kt} (hk : k.Ok) : sortedV (layK 0 k) = layK 0 k := by
  unfold sortedV
  rw [kTree_lay hk]
  exact (nrm_alike k 0).lay 0
structure Gave (t t' : List Nd) (n : Nat) : Prop where
  right : Right t' n
  less : t'.length < t.length
  same : prunedV t' n = prunedV t n
  flat : sortedV t' = t'
theorem gave_root {t : List Nd} {n c : Nat} (hR : Right t n) (h : toR t n 0 = some c) : gaveT t 0 c = layK 0 (kof t t.length c) ∧ Gave t (gaveT t 0 c) n := by
  have hu := up_root hR.behind
  have e : gaveT t 0 c = layK 0 (kof t t.length c) := by unfold gaveT; rw [if_pos (by rw [hu]; decide)]
  refine ⟨e, ?_⟩
  obtain ⟨l1, l2, l3, l4⟩ := kid_less hR h t.length (by omega)
  have hfit : (kof t t.length c).Fit n := kof_fit hR.behind (fun i x hi => ⟨_, _, x, hR.node i x hi, rfl, rfl, rfl, rfl, fun _ => rfl⟩) l4 (by omega)
  have hs := hR.sortedLen
  have hm := hR.most
  have hd := kof_deep hR.behind t.length 0 hR.pos (by omega)
  have hdd := hR.deep
  unfold kTree at hs
  rw [e]
  refine ⟨right_lay hfit hR.fe0 hR.fe8 (by omega) (by omega), by rw [layK_len]; omega, ?_, sorted_lay hfit.ok⟩
  rw [pruned_lay hfit.ok]
  have := step_kpr hR h t.length (by omega)
  rw [regR_root hR.behind] at this
  unfold prunedV kTree
  rw [this]
section
variable {t : List Nd} {n a c u : Nat} {x : Nd}
theorem relink_at (hx : t[u]? = some x) (j : Nat) : (t.set u (relink x a c))[j]? = if j = u then some (relink x a c) else t[j]? := by
  have hu : u < t.length := (List.getElem?_eq_some_iff.1 hx).1
  by_cases h : j = u
  · subst h; rw [if_pos rfl, List.getElem?_set_self hu]
  · rw [if_neg h, List.getElem?_set_ne (Ne.symm h)]
theorem relink_behind (hb : Behind t) (hx : t[u]? = some x) (hf : x.f ≠ -1) (h1 : u < c) (h2 : c < t.length) : Behind (t.set u (relink x a c)) := by
  intro i y hy hyf
  rw [relink_at hx] at hy
  rw [List.length_set]
  by_cases h : i = u
  · rw [if_pos h] at hy
    injection hy with hy
    obtain ⟨b1, b2, b3, b4⟩ := hb u x hx hf
    subst hy
    subst h
    unfold relink
    split <;> refine ⟨?_, ?_, ?_, ?_⟩ <;> dsimp only <;> omega
  · rw [if_neg h] at hy
    exact hb i y hy hyf
theorem relink_after (hb : Behind t) (hx : t[u]? = some x) : ∀ (k j : Nat), u < j → kof (t.set u (relink x a c)) k j = kof t k j := by
  intro k
  induction k with
  | zero => intro j _; rfl
  | succ k ih =>
    intro j hj
    have e : (t.set u (relink x a c))[j]? = t[j]? := by rw [relink_at hx, if_neg (by omega)]
    cases hy : t[j]? with
    | none => rw [hy] at e; simp only [kof, e, hy]
    | some y =>
      rw [hy] at e
      by_cases hf : y.f = -1
      · rw [kof_leaf e hf, kof_leaf hy hf]
      · obtain ⟨b1, b2, b3, b4⟩ := hb j y hy hf
        rw [kof_node e hf, kof_node hy hf, ih _ (by omega), ih _ (by omega)]
theorem relink_kpr (hR : Right t n) (h : toR t n a = some c) (hx : t[u]? = some x) (hf : x.f ≠ -1) (hl : x.l = (a : Int) ∨ x.r = (a : Int)) :
    ∀ k i, i < t.length → t.length ≤ i + k → Alike (kpr (kof (t.set u (relink x a c)) k i) (regR t n i)) (kpr (kof t k i) (regR t n i)) ∧ (kof (t.set u (relink x a c)) k i).deep ≤ (kof t k i).deep ∧
      (kof (t.set u (relink x a c)) k i).size ≤ (kof t k i).size ∧ (Und t i u → (kof (t.set u (relink x a c)) k i).size < (kof t k i).size) := by
  obtain ⟨c1, c2, c3, c4⟩ := hR.behind u x hx hf
  have hal : a < t.length := by omega
  have hua : u < a := by omega
  intro k
  induction k with
  | zero => intro i h1 h2; omega
  | succ q ih =>
    intro i hi hk
    have hy : t[i]? = some t[i] := List.getElem?_eq_getElem hi
    generalize t[i] = y at hy
    by_cases hyf : y.f = -1
    · have hne : i ≠ u := fun e => by subst e; rw [hx] at hy; injection hy with hy; subst hy; exact hf hyf
      have e : (t.set u (relink x a c))[i]? = some y := by rw [relink_at hx, if_neg hne]; exact hy
      rw [kof_leaf e hyf, kof_leaf hy hyf]
      refine ⟨Alike.refl _, Nat.le_refl _, Nat.le_refl _, fun hu => ?_⟩
      cases hu with
      | refl => exact absurd rfl hne
      | step s1 s2 _ _ => rw [hy] at s1; injection s1 with s1; subst s1; exact absurd hyf s2
    · obtain ⟨b1, b2, b3, b4⟩ := hR.behind i y hy hyf
      have hl' : y.l = ((y.l.toNat : Nat) : Int) := by omega
      have hr' : y.r = ((y.r.toNat : Nat) : Int) := by omega
      have hne := kids_ne hR hy hyf
      have eL : regR t n y.l.toNat = sideL (regR t n i) y true := by
        rw [regR_child hR hy hyf (.inl hl'), show (y.l == ((y.l.toNat : Nat) : Int)) = true by rw [beq_iff_eq]; exact hl']
      have eR : regR t n y.r.toNat = sideL (regR t n i) y false := by
        rw [regR_child hR hy hyf (.inr hr'), show (y.l == ((y.r.toNat : Nat) : Int)) = false by rw [beq_eq_false_iff_ne]; omega]
      by_cases hiu : i = u
      · subst hiu
        rw [hx] at hy
        injection hy with hy
        subst hy
        have hst := step_kpr hR h q (by omega)
        obtain ⟨l1, l2, l3, l4⟩ := kid_less hR h q (by omega)
        have aC := relink_after (a := a) (c := c) hR.behind hx q c (by omega)
        have aL := relink_after (a := a) (c := c) hR.behind hx q x.l.toNat (by omega)
        have aR := relink_after (a := a) (c := c) hR.behind hx q x.r.toNat (by omega)
        obtain ⟨r1, r2, r3, r4⟩ := relink_same x a c
        have e : (t.set i (relink x a c))[i]? = some (relink x a c) := by rw [relink_at hx, if_pos rfl]
        rw [kof_node e (by rw [r1]; exact hf), kof_node hx hf]
        by_cases hla : x.l = (a : Int)
        · have e1 : (relink x a c).l.toNat = c := by unfold relink; rw [if_pos hla]; exact Int.toNat_natCast c
          have e2 : (relink x a c).r.toNat = x.r.toNat := by unfold relink; rw [if_pos hla]
          have ea : x.l.toNat = a := by omega
          rw [ea] at eL aL ⊢
          rw [e1, e2, aC, aR]
          simp only [Kt.size, Kt.deep]
          refine ⟨kpr_node_alike r1 r2 r3 r4 ?_ (Alike.refl _), by omega, by omega, fun _ => by omega⟩
          rw [sideL_alike r1 r2 r3, ← eL, hst]
          exact Alike.refl _
        · have hra : x.r = (a : Int) := hl.resolve_left hla
          have e1 : (relink x a c).l.toNat = x.l.toNat := by unfold relink; rw [if_neg hla]
          have e2 : (relink x a c).r.toNat = c := by unfold relink; rw [if_neg hla]; exact Int.toNat_natCast c
          have ea : x.r.toNat = a := by omega
          rw [ea] at eR aR ⊢
          rw [e1, e2, aC, aL]
          simp only [Kt.size, Kt.deep]
          refine ⟨kpr_node_alike r1 r2 r3 r4 (Alike.refl _) ?_, by omega, by omega, fun _ => by omega⟩
          rw [sideL_alike r1 r2 r3, ← eR, hst]
          exact Alike.refl _
      · have e : (t.set u (relink x a c))[i]? = some y := by rw [relink_at hx, if_neg hiu]; exact hy
        obtain ⟨i1, i2, i3, i4⟩ := ih y.l.toNat (by omega) (by omega)
        obtain ⟨j1, j2, j3, j4⟩ := ih y.r.toNat (by omega) (by omega)
        rw [eL] at i1
        rw [eR] at j1
        rw [kof_node e hyf, kof_node hy hyf]
        simp only [Kt.size, Kt.deep]
        refine ⟨kpr_node_alike rfl rfl rfl rfl i1 j1, by omega, by omega, fun hu => ?_⟩
        cases hu with
        | refl => exact absurd rfl hiu
        | step s1 s2 s3 s4 =>
          rw [hy] at s1
          injection s1 with s1
          subst s1
          rcases s3 with rfl | rfl
          · have := i4 s4; omega
          · have := j4 s4; omega
theorem gave_up (hR : Right t n) (h : toR t n a = some c) (hx : t[u]? = some x) (hf : x.f ≠ -1) (hl : x.l = (a : Int) ∨ x.r = (a : Int)) : gaveT t a c = layK 0 (kTree (t.set u (relink x a c))) ∧ Gave t (gaveT t a c) n := by
  obtain ⟨c1, c2, c3, c4⟩ := hR.behind u x hx hf
  have hu := up_is hR ⟨x, hx, hf, hl⟩
  have e : gaveT t a c = layK 0 (kTree (t.set u (relink x a c))) := by
    unfold gaveT
    rw [if_neg (by rw [hu]; omega), hu, Int.toNat_natCast, hx]
  refine ⟨e, ?_⟩
  obtain ⟨l1, l2, l3, l4⟩ := kid_less hR h t.length (by omega)
  have hb' := relink_behind (a := a) (c := c) hR.behind hx hf (by omega) l4
  obtain ⟨k1, k2, k3, k4⟩ := relink_kpr hR h hx hf hl t.length 0 hR.pos (by omega)
  have hul : u < t.length := (List.getElem?_eq_some_iff.1 hx).1
  have k5 := k4 (und_root hR (u + 1) u (by omega) hul)
  have hK : kTree (t.set u (relink x a c)) = kof (t.set u (relink x a c)) t.length 0 := by unfold kTree; rw [List.length_set]
  have hfit : (kof (t.set u (relink x a c)) t.length 0).Fit n := by
    refine kof_fit hb' (fun i y hi => ?_) (by rw [List.length_set]; exact hR.pos) (by rw [List.length_set]; omega)
    rw [relink_at hx] at hi
    by_cases hiu : i = u
    · rw [if_pos hiu] at hi
      injection hi with hi
      obtain ⟨r1, r2, r3, r4⟩ := relink_same x a c
      exact ⟨_, _, x, hR.node u x hx, by rw [← hi]; exact r1, by rw [← hi]; exact r2, by rw [← hi]; exact r3, by rw [← hi]; exact r4, fun hf' => by rw [← hi, r1] at hf'; exact absurd hf' hf⟩
    · rw [if_neg hiu] at hi
      exact ⟨_, _, y, hR.node i y hi, rfl, rfl, rfl, rfl, fun _ => rfl⟩
  have hs := hR.sortedLen
  have hm := hR.most
  have hd := kof_deep hR.behind t.length 0 hR.pos (by omega)
  have hdd := hR.deep
  unfold kTree at hs
  rw [e, hK]
  refine ⟨right_lay hfit hR.fe0 hR.fe8 (by omega) (by omega), by rw [layK_len]; omega, ?_, sorted_lay hfit.ok⟩
  rw [pruned_lay hfit.ok]
  rw [regR_root hR.behind] at k1
  exact k1.lay 0
end
theorem gave_any {t : List Nd} {n a c : Nat} (hR : Right t n) (h : toR t n a = some c) : Gave t (gaveT t a c) n := by
  rcases up_par (t := t) (at_ := a) with hu | ⟨u, ⟨x, hx, hf, hl⟩, hu⟩
  · rcases Nat.eq_zero_or_pos a with rfl | h0
    · exact (gave_root hR h).2
    · obtain ⟨y, hy, _⟩ := toR_some h
      have hal : a < t.length := (List.getElem?_eq_some_iff.1 hy).1
      obtain ⟨p, m, hp, hk⟩ := ups_some (t := t) (j := a) (by rw [hR.one a h0 hal]; exact Nat.le_refl _)
      obtain ⟨m', hm', hf', hc'⟩ := kid_child hR.behind hp hk
      obtain ⟨b1, b2, b3, b4⟩ := hR.behind p m' hm' hf'
      have := upAt_none t 0 hu p m' hm'
      exact absurd ⟨hf', by omega⟩ this
  · exact (gave_up hR h hx hf hl).2
/-- where no node gives way nothing is pruned -/
theorem pruned_none {t : List Nd} {n : Nat} (hR : Right t n) (hs : sortedV t = t) (h : ∀ i, i < t.length → toR t n i = none) : prunedV t n = t := by
  have hc := clean_of hR h t.length 0 hR.pos (by omega)
  rw [regR_root hR.behind] at hc
  have := Clean.stays hc
  unfold prunedV kTree
  rw [this]
  exact hs
end Go.Proofs.YtefkjpcgcgofgaaDoor
