/- Part 32 of what LawFlatTells needs: RegR, MovedR. Conditions: as each lemma names. -/
import Derived.Test.YtcneacooedefjaaDoorPkFlatTells31
/- What cells may be at a node: from below it is what it is from above; with other spans it is what both have in common; in how many pairs of leaves two trees differ. Plain. Conditions: as each lemma names. -/
namespace Go.Proofs.YtcneacooedefjaaDoor
set_option linter.unusedVariables false
set_option linter.unusedSimpArgs false
open Go.RowKit

theorem sideS_comm (s : Sp) (c c' : Int) (e e' b b' : Bool) : sideS (sideS s c e b) c' e' b' = sideS (sideS s c' e' b') c e b := by
  cases b <;> cases b' <;> simp only [sideS, if_true, if_false, Bool.false_eq_true, reduceIte] <;> (congr 1) <;> first | omega | (cases s.ab <;> cases e <;> cases e' <;> rfl)
theorem sideL_comm (l : List Sp) (x y : Nd) (b b' : Bool) : sideL (sideL l x b) y b' = sideL (sideL l y b') x b := by
  apply List.ext_getElem?
  intro i
  cases h : l[i]? with
  | none =>
    have h1 : l.length ≤ i := by rw [List.getElem?_eq_none_iff] at h; exact h
    rw [List.getElem?_eq_none (by rw [sideL_len, sideL_len]; exact h1), List.getElem?_eq_none (by rw [sideL_len, sideL_len]; exact h1)]
  | some s =>
    rw [sideL_at (sideL_at h), sideL_at (sideL_at h)]
    by_cases h1 : i = x.f.toNat <;> by_cases h2 : i = y.f.toNat <;> simp only [h1, h2, if_true, if_false]
    all_goals first | rfl | (subst h1; simp only [h2, if_true, if_false]; first | rfl | (rw [sideS_comm])) | skip
    all_goals simp_all [sideS_comm]
def fold (l : List Sp) (ops : List (Nd × Bool)) : List Sp := ops.foldl (fun l o => sideL l o.1 o.2) l
theorem fold_cons (l : List Sp) (o : Nd × Bool) (ops : List (Nd × Bool)) : fold l (o :: ops) = fold (sideL l o.1 o.2) ops := rfl
theorem fold_side (ops : List (Nd × Bool)) : ∀ (l : List Sp) (x : Nd) (b : Bool), fold (sideL l x b) ops = sideL (fold l ops) x b := by
  induction ops with
  | nil => intro l x b; rfl
  | cons o r ih => intro l x b; rw [fold_cons, fold_cons, sideL_comm, ih]

theorem upAt_none {at_ : Int} : ∀ (l : List Nd) (k : Nat), upAt at_ k l = -1 → ∀ (j : Nat) x, l[j]? = some x → ¬ (x.f ≠ -1 ∧ (x.l = at_ ∨ x.r = at_)) := by
  intro l
  induction l with
  | nil => intro k _ j x h; simp at h
  | cons n r ih =>
    intro k h j x hx
    rw [upAt] at h
    by_cases hc : n.f ≠ -1 ∧ (n.l = at_ ∨ n.r = at_)
    · rw [if_pos hc] at h; omega
    · rw [if_neg hc] at h
      cases j with
      | zero => simp at hx; subst hx; exact hc
      | succ j => exact ih (k + 1) h j x (by simpa using hx)
theorem par_child {t : List Nd} {u c : Nat} (h : Par t u c) : Child t u c := by
  obtain ⟨n, hn, hf, h1 | h1⟩ := h
  · exact ⟨n, hn, hf, .inl (by omega)⟩
  · exact ⟨n, hn, hf, .inr (by omega)⟩
theorem up_is {t : List Nd} {fe : Int} (hR : Right t fe) {u c : Nat} (h : Par t u c) : upAt c 0 t = u := by
  rcases up_par (t := t) (at_ := c) with h1 | ⟨j, h1, h2⟩
  · obtain ⟨n, hn, hf, hl⟩ := h
    exact absurd ⟨hf, hl⟩ (upAt_none t 0 h1 u n hn)
  · rw [h2, one_up hR (par_child h1) (par_child h)]
theorem up_root {t : List Nd} (hb : Behind t) : upAt (0 : Nat) 0 t = -1 := by
  rcases up_par (t := t) (at_ := 0) with h1 | ⟨j, ⟨n, hn, hf, hl⟩, _⟩
  · exact h1
  · have := hb j n hn hf
    omega
/-- climb with as many steps as it may need -/
def climbT (t : List Nd) (k : Nat) (l : List Sp) : List Sp := climb t k k l
theorem climb_more {t : List Nd} (hb : Behind t) : ∀ (m m' k : Nat) (l : List Sp), k ≤ m → k ≤ m' → climb t m k l = climb t m' k l := by
  intro m
  induction m with
  | zero =>
    intro m' k l h1 h2
    obtain rfl : k = 0 := by omega
    rw [climb_end (up_root hb), climb_end (up_root hb)]
  | succ m ih =>
    intro m' k l h1 h2
    rcases up_par (t := t) (at_ := k) with h | ⟨u, ⟨x, hx, hf, hl⟩, hu⟩
    · rw [climb_end h, climb_end h]
    · have h3 := hb u x hx hf
      have huk : u < k := by omega
      obtain ⟨q, rfl⟩ : ∃ q, m' = q + 1 := ⟨m' - 1, by omega⟩
      rw [climb_step hu hx, climb_step hu hx]
      exact ih q u _ (by omega) (by omega)
theorem climbT_root {t : List Nd} (hb : Behind t) (l : List Sp) : climbT t 0 l = l := climb_end (up_root hb) _ _
theorem climbT_step {t : List Nd} {fe : Int} (hR : Right t fe) {u c : Nat} {x : Nd} (hx : t[u]? = some x) (hf : x.f ≠ -1) (hl : x.l = (c : Int) ∨ x.r = (c : Int)) (l : List Sp) : climbT t c l = climbT t u (sideL l x (x.l == c)) := by
  have h1 := up_is hR ⟨x, hx, hf, hl⟩
  have h3 := hR.behind u x hx hf
  obtain ⟨q, rfl⟩ : ∃ q, c = q + 1 := ⟨c - 1, by omega⟩
  unfold climbT
  rw [climb_step h1 hx]
  exact climb_more hR.behind _ _ _ _ (by omega) (by omega)
theorem lv_ops {t : List Nd} {fe : Int} (hR : Right t fe) : ∀ (k i : Nat) (l : List Sp), i < t.length → t.length ≤ i + k → ∀ p ∈ lv t k i l, ∃ ops, p.2 = fold l ops ∧ ∀ L, climbT t p.1 L = climbT t i (fold L ops) := by
  intro k
  induction k with
  | zero => intro i l h1 h2; omega
  | succ k ih =>
    intro i l h1 h2 p hp
    have hn : t[i]? = some t[i] := List.getElem?_eq_getElem h1
    by_cases hf : (t[i]).f = -1
    · rw [lv_leaf hn hf, List.mem_singleton] at hp
      subst hp
      exact ⟨[], rfl, fun L => rfl⟩
    · obtain ⟨a, b, c, d⟩ := hR.behind i _ hn hf
      have hne := kids_ne hR hn hf
      rw [lv_step hn hf] at hp
      rcases List.mem_append.1 hp with hp | hp
      · obtain ⟨ops, e1, e2⟩ := ih _ _ (by omega) (by omega) p hp
        refine ⟨(t[i], true) :: ops, e1, fun L => ?_⟩
        have hl : (t[i]).l = (((t[i]).l.toNat : Nat) : Int) := by omega
        rw [e2, climbT_step hR hn hf (.inl hl), fold_cons, fold_side, show ((t[i]).l == (((t[i]).l.toNat : Nat) : Int)) = true by rw [beq_iff_eq]; exact hl]
      · obtain ⟨ops, e1, e2⟩ := ih _ _ (by omega) (by omega) p hp
        refine ⟨(t[i], false) :: ops, e1, fun L => ?_⟩
        have hl : (t[i]).r = (((t[i]).r.toNat : Nat) : Int) := by omega
        rw [e2, climbT_step hR hn hf (.inr hl), fold_cons, fold_side, show ((t[i]).l == (((t[i]).r.toNat : Nat) : Int)) = false by rw [beq_eq_false_iff_ne]; omega]
theorem lv_climb {t : List Nd} {fe : Int} (hR : Right t fe) (l : List Sp) : ∀ p ∈ lv t t.length 0 l, p.2 = climbT t p.1 l := by
  intro p hp
  obtain ⟨ops, e1, e2⟩ := lv_ops hR t.length 0 l hR.pos (by omega) p hp
  rw [e2, climbT_root hR.behind, e1]
theorem regL_climb {t : List Nd} {n : Nat} (h : Right t n) {j : Nat} {x : Nd} (hn : t[j]? = some x) (hf : x.f = -1) : regL t n j = regR t n j :=
  lv_climb h _ _ (regL_is h hn hf).2

/-! ### what two lists of spans have in common -/
theorem meetL_at {a b : List Sp} {i : Nat} {s u : Sp} (h : a[i]? = some s) (h' : b[i]? = some u) : (meetL a b)[i]? = some (meetS s u) := by unfold meetL; rw [List.getElem?_zipWith, h, h']
theorem side_meetS (s u : Sp) (c : Int) (e b : Bool) : sideS (meetS s u) c e b = meetS (sideS s c e b) u := by
  cases b <;> simp only [sideS, meetS, if_true, if_false, Bool.false_eq_true, reduceIte] <;> congr 1 <;> first | omega | (cases s.ab <;> cases u.ab <;> cases e <;> rfl)
theorem side_meet {a l : List Sp} (hl : a.length = l.length) (x : Nd) (b : Bool) : sideL (meetL a l) x b = meetL (sideL a x b) l := by
  apply List.ext_getElem?
  intro i
  by_cases hi : i < a.length
  · have e1 : a[i]? = some a[i] := List.getElem?_eq_getElem hi
    have e2 : l[i]? = some l[i] := List.getElem?_eq_getElem (by omega)
    rw [sideL_at (meetL_at e1 e2), meetL_at (sideL_at e1) e2]
    split
    · rw [side_meetS]
    · rfl
  · rw [List.getElem?_eq_none (by rw [sideL_len, meetL_len hl]; omega), List.getElem?_eq_none (by rw [meetL_len (by rw [sideL_len]; exact hl), sideL_len]; omega)]
theorem climb_meet {t : List Nd} {l : List Sp} : ∀ (m k : Nat) (a : List Sp), a.length = l.length → climb t m k (meetL a l) = meetL (climb t m k a) l := by
  intro m
  induction m with
  | zero => intro k a _; rfl
  | succ m ih =>
    intro k a ha
    rw [climb, climb]
    by_cases h : upAt k 0 t < 0
    · rw [if_pos h, if_pos h]
    · rw [if_neg h, if_neg h]
      split
      · rw [side_meet ha, ih _ _ (by rw [sideL_len]; exact ha)]
      · rfl
/-- spans of cells -/
def InWide (l : List Sp) : Prop := ∀ s ∈ l, -1000000 ≤ s.low ∧ s.high ≤ 1000000
theorem meet_wide {l : List Sp} (h : InWide l) : meetL (wideL l.length) l = l := by
  apply List.ext_getElem?
  intro i
  by_cases hi : i < l.length
  · have e2 : l[i]? = some l[i] := List.getElem?_eq_getElem hi
    have e1 : (wideL l.length)[i]? = some wideS := by unfold wideL; rw [List.getElem?_replicate, if_pos hi]
    rw [meetL_at e1 e2, e2]
    obtain ⟨h1, h2⟩ := h _ (List.getElem_mem hi)
    congr 1
    unfold meetS wideS
    rw [show max (-1000000) (l[i]).low = (l[i]).low by omega, show min 1000000 (l[i]).high = (l[i]).high by omega]
    cases l[i]; rfl
  · rw [List.getElem?_eq_none (by rw [meetL_len (by rw [wide_len]), wide_len]; omega), List.getElem?_eq_none (by omega)]
theorem climb_len {t : List Nd} : ∀ (m k : Nat) (a : List Sp), (climb t m k a).length = a.length := by
  intro m
  induction m with
  | zero => intro k a; rfl
  | succ m ih =>
    intro k a
    rw [climb]
    split
    · rfl
    · split
      · rw [ih, sideL_len]
      · rfl
theorem regR_len (t : List Nd) (n k : Nat) : (regR t n k).length = n := by unfold regR; rw [climb_len, wide_len]
theorem wide_in (n : Nat) : InWide (wideL n) := fun s hs => by
  have := List.eq_of_mem_replicate hs
  subst this
  exact ⟨Int.le_refl _, Int.le_refl _⟩
theorem within_in {l' l : List Sp} (h : Within l' l) (hl : InWide l) : InWide l' := fun s hs => by
  obtain ⟨i, hi⟩ := List.getElem?_of_mem hs
  have hil : i < l.length := by rw [← h.1]; exact (List.getElem?_eq_some_iff.1 hi).1
  obtain ⟨a1, a2, _⟩ := h.2 i _ _ hi (List.getElem?_eq_getElem hil)
  have := hl _ (List.getElem_mem hil)
  omega
theorem climb_within {t : List Nd} : ∀ (m k : Nat) (a : List Sp), Within (climb t m k a) a := by
  intro m
  induction m with
  | zero => intro k a; exact within_refl a
  | succ m ih =>
    intro k a
    rw [climb]
    split
    · exact within_refl a
    · split
      · exact within_trans (ih _ _) (within_side _ _ _)
      · exact within_refl a
theorem regR_in (t : List Nd) (n k : Nat) : InWide (regR t n k) := within_in (climb_within _ _ _) (wide_in n)
/-- of the leaves within spans each has what is in common of its own and these -/
theorem lv_meet {t : List Nd} {n : Nat} (hR : Right t n) {l : List Sp} (hl : l.length = n) (hw : InWide l) : ∀ p ∈ lv t t.length 0 l, p.2 = meetL (regR t n p.1) l := by
  intro p hp
  rw [lv_climb hR l p hp]
  unfold climbT regR
  rw [← climb_meet _ _ _ (by rw [wide_len, hl]), ← hl, meet_wide hw]
end Go.Proofs.YtcneacooedefjaaDoor
/- The reference's Moved: in how many pairs of leaves two trees differ; it is as the program counts. Conditions: both trees are right and read as nodes. -/
namespace Go.Proofs.YtcneacooedefjaaDoor
set_option linter.unusedVariables false
set_option linter.unusedSimpArgs false
open Go.RowKit

def isLeafB (t : List Nd) (i : Nat) : Bool := match t[i]? with
  | some x => x.f == -1
  | none => false
def hitR (a b : List Nd) (n i k : Nat) : Bool := isLeafB a i && isLeafB b k && (valAt a i != valAt b k) && anyB (meetL (regR a n i) (regR b n k))
def rowHits (a b : List Nd) (n i m : Nat) : Nat := ((List.range m).filter (hitR a b n i)).length
def movTo (a b : List Nd) (n i : Nat) : Nat := ((List.range i).map fun j => rowHits a b n j b.length).sum
def movedR (a b : List Nd) (n : Nat) : Nat := movTo a b n a.length
theorem isLeafB_t {t : List Nd} {i : Nat} : isLeafB t i = true ↔ ∃ x, t[i]? = some x ∧ x.f = -1 := by
  unfold isLeafB
  split
  · rename_i x h
    rw [beq_iff_eq]
    exact ⟨fun e => ⟨x, h, e⟩, fun ⟨y, e, hf⟩ => by rw [h] at e; injection e with e; subst e; exact hf⟩
  · rename_i h
    exact ⟨fun e => (by cases e), fun ⟨y, e, _⟩ => (by rw [h] at e; cases e)⟩
theorem rowHits_next (a b : List Nd) (n i m : Nat) : rowHits a b n i (m + 1) = rowHits a b n i m + if hitR a b n i m then 1 else 0 := by
  unfold rowHits
  rw [List.range_succ, List.filter_append, List.length_append, List.filter_cons]
  split <;> rfl
theorem rowHits_le (a b : List Nd) (n i m : Nat) : rowHits a b n i m ≤ m := by
  unfold rowHits
  exact Nat.le_trans (List.length_filter_le _ _) (by rw [List.length_range]; exact Nat.le_refl _)
theorem movTo_next (a b : List Nd) (n i : Nat) : movTo a b n (i + 1) = movTo a b n i + rowHits a b n i b.length := by
  unfold movTo
  rw [List.range_succ, List.map_append, List.sum_append]
  simp
theorem movTo_le (a b : List Nd) (n : Nat) : ∀ i, movTo a b n i ≤ i * b.length := by
  intro i
  induction i with
  | zero => exact Nat.zero_le _
  | succ i ih => rw [movTo_next, Nat.succ_mul]; have := rowHits_le a b n i b.length; omega
theorem idx_perm {t : List Nd} {fe : Int} (h : Right t fe) : (idx t t.length 0).Perm ((List.range t.length).filter (isLeafB t)) := by
  rw [List.perm_ext_iff_of_nodup (idx_nodup h _ _) (List.Pairwise.filter _ List.nodup_range)]
  intro j
  rw [List.mem_filter, List.mem_range, isLeafB_t]
  constructor
  · intro hj
    obtain ⟨_, n, hn, hf⟩ := idx_und _ _ j hj
    exact ⟨(List.getElem?_eq_some_iff.1 hn).1, n, hn, hf⟩
  · rintro ⟨_, n, hn, hf⟩
    exact leaf_idx h hn hf
theorem sum_keep {α : Type} (p : α → Bool) (f : α → Nat) : ∀ l : List α, (∀ i ∈ l, p i = false → f i = 0) → (l.map f).sum = ((l.filter p).map f).sum := by
  intro l
  induction l with
  | nil => intro _; rfl
  | cons x r ih =>
    intro h
    rw [List.filter_cons, List.map_cons, List.sum_cons, ih (fun i hi => h i (List.mem_cons_of_mem _ hi))]
    by_cases hx : p x = true
    · rw [if_pos hx, List.map_cons, List.sum_cons]
    · rw [if_neg hx, h x (List.mem_cons_self ..) (by simpa using hx), Nat.zero_add]
theorem meetS_comm (a b : Sp) : meetS a b = meetS b a := by
  unfold meetS
  rw [show max a.low b.low = max b.low a.low by omega, show min a.high b.high = min b.high a.high by omega, Bool.and_comm]
theorem meetL_comm (a b : List Sp) : meetL a b = meetL b a := by
  unfold meetL
  exact List.zipWith_comm_of_comm meetS_comm
theorem meet_within {a b : List Sp} (h : a.length = b.length) : Within (meetL a b) b := by
  refine ⟨by rw [meetL_len h]; exact h, fun i s' s hs' hs => ?_⟩
  have hi : i < a.length := by rw [h]; exact (List.getElem?_eq_some_iff.1 hs).1
  rw [meetL_at (List.getElem?_eq_getElem hi) hs] at hs'
  injection hs' with hs'
  subst hs'
  refine ⟨by simp [meetS]; omega, by simp [meetS]; omega, fun e => ?_⟩
  simp [meetS] at e
  exact e.2
theorem pairsAt_len {a b : List Nd} {n : Nat} (ha : Right a n) (hb : Right b n) (p : Nat × List Sp) (hp : p ∈ lv a a.length 0 (wideL n)) : (pairsAt a b p).length = rowHits a b n p.1 b.length := by
  have e1 : p.2 = regR a n p.1 := lv_climb ha _ p hp
  have hl : p.2.length = n := by rw [e1, regR_len]
  have hin : InWide p.2 := by rw [e1]; exact regR_in _ _ _
  have hla : isLeafB a p.1 = true := by
    have : p.1 ∈ idx a a.length 0 := by rw [← lv_idx a a.length 0 (wideL n)]; exact List.mem_map_of_mem hp
    obtain ⟨_, x, hx, hf⟩ := idx_und _ _ _ this
    exact isLeafB_t.2 ⟨x, hx, hf⟩
  have h1 : rowHits a b n p.1 b.length = ((idx b b.length 0).filter (hitR a b n p.1)).length := by
    unfold rowHits
    rw [((idx_perm hb).filter _).length_eq, List.filter_filter]
    congr 1
    refine List.filter_congr fun k _ => ?_
    unfold hitR
    cases isLeafB b k <;> simp
  rw [h1]
  have key : ∀ q ∈ lv b b.length 0 p.2, hitR a b n p.1 q.1 = meets a b p.1 q := by
    intro q hq
    have hlb : isLeafB b q.1 = true := by
      have : q.1 ∈ idx b b.length 0 := by rw [← lv_idx b b.length 0 p.2]; exact List.mem_map_of_mem hq
      obtain ⟨_, x, hx, hf⟩ := idx_und _ _ _ this
      exact isLeafB_t.2 ⟨x, hx, hf⟩
    unfold hitR meets
    rw [hla, hlb, lv_meet hb hl hin q hq, meetL_comm, e1, Bool.true_and, Bool.true_and, Bool.and_comm]
  unfold pairsAt
  by_cases hany : anyB p.2 = true
  · rw [if_pos hany, List.length_map, ← lv_idx b b.length 0 p.2, List.filter_map, List.length_map]
    congr 1
    exact List.filter_congr fun q hq => (key q hq).symm
  · rw [if_neg hany]
    symm
    rw [List.length_nil, List.length_eq_zero_iff, List.filter_eq_nil_iff]
    intro k _ hk
    unfold hitR at hk
    rw [Bool.and_eq_true] at hk
    have := any_mono (meet_within (a := regR b n k) (b := p.2) (by rw [regR_len, hl])) (by rw [meetL_comm, e1]; exact hk.2)
    exact hany this
theorem pairsL_moved {a b : List Nd} {n : Nat} (ha : Right a n) (hb : Right b n) : (pairsL a b n).length = movedR a b n := by
  unfold pairsL movedR movTo
  rw [flat_length]
  have h1 : (lv a a.length 0 (wideL n)).map (fun p => (pairsAt a b p).length) = ((lv a a.length 0 (wideL n)).map (·.1)).map (fun i => rowHits a b n i b.length) := by
    rw [List.map_map]
    exact List.map_congr_left fun p hp => pairsAt_len ha hb p hp
  rw [h1, lv_idx, sum_keep (isLeafB a) _ (List.range a.length) (fun i _ hi => by
    unfold rowHits
    rw [List.length_eq_zero_iff, List.filter_eq_nil_iff]
    intro k _ hk
    unfold hitR at hk
    rw [hi] at hk
    simp at hk)]
  exact ((idx_perm ha).map _).sum_nat

end Go.Proofs.YtcneacooedefjaaDoor
