/- Part 13 of what LawGrowLearns needs: GrowL, App, GrowS. Conditions: as each lemma names. -/
import Derived.Test.YtdpijhnbhopnbaaPkGrowLearns11
import Derived.Test.YtdpijhnbhopnbaaPkGrowLearns12
import Derived.Test.YtdpijhnbhopnbaaPkGrowLearns01
import Derived.Deep.CutRange
/- Package grow in plain words: what a tree of samples holds: each leaf's samples, deeper is not more wrong, no question puts more right. Conditions: none. -/
namespace Go.Proofs.Ytdpijhnbhopnbaa
set_option linter.unusedVariables false
set_option linter.unusedSimpArgs false
open Go.RowKit

/-! ### deeper is not more wrong -/
def errM (x : Int) : List Sm → Int
  | [] => 0
  | s :: r => (s.t - x) * (s.t - x) + errM x r
def wrongK (k : Kt) : List Sm → Int
  | [] => 0
  | s :: r => (s.t - kval s.r k) * (s.t - kval s.r k) + wrongK k r
theorem errM_diff (x d : Int) (ss : List Sm) : errM x ss - errM (x + d) ss = 2 * d * (sumM ss - x * (ss.length : Int)) - d * d * (ss.length : Int) := by
  induction ss with
  | nil => simp [errM, sumM]
  | cons s r ih =>
    simp only [errM, sumM, List.length_cons]
    rw [show ((r.length + 1 : Nat) : Int) = (r.length : Int) + 1 by omega]
    generalize (r.length : Int) = n at ih ⊢
    generalize sumM r = S at ih ⊢
    generalize errM x r = a at ih ⊢
    generalize errM (x + d) r = b at ih ⊢
    generalize s.t = t
    grind
/-- a mean rounded down is not more than one away for each -/
theorem mean_best {ss : List Sm} (hp : 0 < ss.length) (y : Int) : errM (leafG ss).v ss ≤ errM y ss + (ss.length : Int) := by
  have h0 : (0 : Int) < (ss.length : Int) := by omega
  have hd := errM_diff (leafG ss).v (y - (leafG ss).v) ss
  rw [show (leafG ss).v + (y - (leafG ss).v) = y by omega] at hd
  have h1 := Int.mul_ediv_add_emod (sumM ss) (ss.length : Int)
  have h2 := Int.emod_nonneg (sumM ss) (show (ss.length : Int) ≠ 0 by omega)
  have h3 := Int.emod_lt_of_pos (sumM ss) h0
  have hv : (leafG ss).v = sumM ss / (ss.length : Int) := rfl
  have hr : sumM ss - (leafG ss).v * (ss.length : Int) = sumM ss % (ss.length : Int) := by rw [hv, Int.mul_comm]; omega
  rw [hr] at hd
  generalize sumM ss % (ss.length : Int) = r at h2 h3 hd
  generalize y - (leafG ss).v = d at hd
  generalize (ss.length : Int) = n at *
  have key : 2 * d * r - d * d * n ≤ n := by
    rcases Int.lt_or_le d 1 with h | h
    · rcases Int.lt_or_le d 0 with h' | h'
      · have a := Int.mul_nonneg (show 0 ≤ -d by omega) h2
        have b := Int.mul_nonneg (Int.mul_nonneg (show 0 ≤ -d by omega) (show 0 ≤ -d by omega)) (show 0 ≤ n by omega)
        have e1 : -d * r = -(d * r) := Int.neg_mul _ _
        have e2 : -d * -d * n = d * d * n := by rw [Int.neg_mul_neg]
        have e3 : 2 * d * r = 2 * (d * r) := Int.mul_assoc _ _ _
        omega
      · obtain rfl : d = 0 := by omega
        simp
        omega
    · have a := Int.mul_le_mul_of_nonneg_left (show r ≤ n - 1 by omega) (show 0 ≤ d by omega)
      have e3 : 2 * d * r = 2 * (d * r) := Int.mul_assoc _ _ _
      have e4 : d * (n - 1) = d * n - d := by rw [Int.mul_sub, Int.mul_one]
      rcases Int.lt_or_le d 2 with h' | h'
      · obtain rfl : d = 1 := by omega
        simp at a e3 ⊢
        omega
      · have b := Int.mul_nonneg (Int.mul_nonneg (show 0 ≤ d by omega) (show 0 ≤ d - 2 by omega)) (show 0 ≤ n by omega)
        have e5 : d * (d - 2) * n = d * d * n - 2 * (d * n) := by grind
        omega
  omega
theorem wrongK_leaf (x : Nd) (ss : List Sm) : wrongK (.leaf x) ss = errM x.v ss := by
  induction ss with
  | nil => rfl
  | cons s r ih => simp only [wrongK, errM, ih, kval]
theorem errM_parts (x : Int) (f : Nat) (c : Int) (ss : List Sm) : errM x (lowS f c ss) + errM x (highS f c ss) = errM x ss := by
  induction ss with
  | nil => rfl
  | cons s r ih =>
    unfold lowS highS at ih ⊢
    cases h : lowB f c s <;> simp [List.filter_cons, h, errM] <;> omega
theorem goes_low {x : Nd} {s : Sm} {f : Nat} (hf : x.f = f) (hc : cellS f s ≠ -1125899906842624) : goes x (cellAt s.r x.f) = lowB f x.c s := by
  unfold goes cellAt lowB
  rw [hf, Int.toNat_natCast]
  unfold cellS at hc ⊢
  rw [if_neg hc]
theorem wrongK_node {x : Nd} {a b : Kt} {f : Nat} (hf : x.f = f) : ∀ {ss : List Sm}, (∀ s ∈ ss, cellS f s ≠ -1125899906842624) → wrongK (.node x a b) ss = wrongK a (lowS f x.c ss) + wrongK b (highS f x.c ss) := by
  intro ss
  induction ss with
  | nil => intro _; rfl
  | cons s r ih =>
    intro hc
    have h1 := ih fun s' h' => hc s' (List.mem_cons_of_mem _ h')
    have h2 := goes_low (x := x) hf (hc s (List.mem_cons_self ..))
    unfold lowS highS at h1 ⊢
    simp only [wrongK, kval, h2, h1]
    cases h : lowB f x.c s <;> simp [List.filter_cons, h, wrongK] <;> omega
theorem cell_in {ss : List Sm} {n f : Nat} (hs : SRight ss n) (hf : f < n) : ∀ s ∈ ss, cellS f s ≠ -1125899906842624 := by
  intro s hm e
  have hl := hs.len s hm
  have := hs.cell s hm (cellS f s) (by
    unfold cellS
    rw [List.getD_eq_getElem?_getD, List.getElem?_eq_getElem (by omega)]
    exact List.getElem_mem _)
  omega
theorem growK_succ (n least d : Nat) (ss : List Sm) : growK n least (d + 1) ss = if (bestB ss n least).f < 0 then .leaf (leafG ss)
    else .node ⟨(bestB ss n least).f, (bestB ss n least).c, 0, 0, decide ((highS (bestB ss n least).f.toNat (bestB ss n least).c ss).length < (lowS (bestB ss n least).f.toNat (bestB ss n least).c ss).length), 0⟩
      (growK n least d (lowS (bestB ss n least).f.toNat (bestB ss n least).c ss)) (growK n least d (highS (bestB ss n least).f.toNat (bestB ss n least).c ss)) := rfl
theorem growK_deeper {n least : Nat} (hl : 1 ≤ least) : ∀ (d : Nat) (ss : List Sm), SRight ss n → wrongK (growK n least (d + 1) ss) ss ≤ wrongK (growK n least d ss) ss + (ss.length : Int) := by
  intro d
  induction d with
  | zero =>
    intro ss hs
    have hB := bestB_ok hs hl
    simp only [growK]
    by_cases h : (bestB ss n least).f < 0
    · rw [if_pos h]; omega
    · rw [if_neg h]
      obtain ⟨_, _, _, _, _, h6, _, _, hz⟩ := hB
      rcases hz with hz | ⟨h1, h2⟩
      · exact absurd hz h
      obtain ⟨f, hf⟩ : ∃ f : Nat, (bestB ss n least).f = f := ⟨(bestB ss n least).f.toNat, by omega⟩
      rw [hf] at h6 h1 h2 ⊢
      rw [Int.toNat_natCast] at h1 h2 ⊢
      generalize (bestB ss n least).c = C at h1 h2 ⊢
      rw [wrongK_node (f := f) rfl (cell_in hs (by omega)), wrongK_leaf, wrongK_leaf, wrongK_leaf]
      dsimp only
      have a := mean_best (ss := lowS f C ss) (by omega) (leafG ss).v
      have b := mean_best (ss := highS f C ss) (by omega) (leafG ss).v
      have p := errM_parts (leafG ss).v f C ss
      have q := parts_len f C ss
      omega
  | succ d ih =>
    intro ss hs
    have hB := bestB_ok hs hl
    rw [growK_succ n least (d + 1) ss, growK_succ n least d ss]
    by_cases h : (bestB ss n least).f < 0
    · rw [if_pos h, if_pos h]; omega
    · rw [if_neg h, if_neg h]
      obtain ⟨_, _, _, _, _, h6, _, _, hz⟩ := hB
      rcases hz with hz | ⟨h1, h2⟩
      · exact absurd hz h
      obtain ⟨f, hf⟩ : ∃ f : Nat, (bestB ss n least).f = f := ⟨(bestB ss n least).f.toNat, by omega⟩
      rw [hf] at h6 h1 h2 ⊢
      rw [Int.toNat_natCast] at h1 h2 ⊢
      generalize (bestB ss n least).c = C at h1 h2 ⊢
      rw [wrongK_node (f := f) rfl (cell_in hs (by omega)), wrongK_node (f := f) rfl (cell_in hs (by omega))]
      dsimp only
      have a := ih _ (hs.low (f := f) (c := C) (by omega))
      have b := ih _ (hs.high (f := f) (c := C) (by omega))
      have q := parts_len f C ss
      omega

/-! ### each leaf has its samples -/
/-- the leaf to which a row comes -/
def kleaf (r : List Int) : Nat → Kt → Nat
  | i, .leaf _ => i
  | i, .node x a b => if goes x (cellAt r x.f) = true then kleaf r (i + 1) a else kleaf r (i + 1 + a.size) b
theorem kleaf_in (r : List Int) : ∀ (k : Kt) (i : Nat), i ≤ kleaf r i k ∧ kleaf r i k < i + k.size := by
  intro k
  induction k with
  | leaf x => intro i; exact ⟨Nat.le_refl _, by simp [kleaf, Kt.size]⟩
  | node x a b ia ib =>
    intro i
    simp only [kleaf, Kt.size]
    split
    · have := ia (i + 1); omega
    · have := ib (i + 1 + a.size); omega
def atLeaf (i j : Nat) (k : Kt) (ss : List Sm) : List Sm := ss.filter fun s => kleaf s.r i k == j
theorem atLeaf_left {x : Nd} {a b : Kt} {f i j : Nat} {ss : List Sm} (hf : x.f = f) (hc : ∀ s ∈ ss, cellS f s ≠ -1125899906842624) (hj : j < i + 1 + a.size) : atLeaf i j (.node x a b) ss = atLeaf (i + 1) j a (lowS f x.c ss) := by
  unfold atLeaf lowS
  rw [List.filter_filter]
  refine List.filter_congr fun s hm => ?_
  have h2 := goes_low (x := x) hf (hc s hm)
  simp only [kleaf, h2]
  cases h : lowB f x.c s
  · have := (kleaf_in s.r b (i + 1 + a.size)).1
    simp
    omega
  · simp
theorem atLeaf_right {x : Nd} {a b : Kt} {f i j : Nat} {ss : List Sm} (hf : x.f = f) (hc : ∀ s ∈ ss, cellS f s ≠ -1125899906842624) (hj : i + 1 + a.size ≤ j) : atLeaf i j (.node x a b) ss = atLeaf (i + 1 + a.size) j b (highS f x.c ss) := by
  unfold atLeaf highS
  rw [List.filter_filter]
  refine List.filter_congr fun s hm => ?_
  have h2 := goes_low (x := x) hf (hc s hm)
  simp only [kleaf, h2]
  cases h : lowB f x.c s
  · simp
  · have := (kleaf_in s.r a (i + 1)).2
    simp
    omega
/-- of a tree that was grown: each leaf has samples, as many as must be where a question was asked, and says their mean -/
theorem growK_leaves {n least : Nat} (hl : 1 ≤ least) : ∀ (d : Nat) (ss : List Sm) (i j : Nat) (y : Nd), SRight ss n → (layK i (growK n least d ss))[j]? = some y → y.f = -1 →
    SRight (atLeaf i (i + j) (growK n least d ss) ss) n ∧ y = leafG (atLeaf i (i + j) (growK n least d ss) ss) ∧ (1 < (growK n least d ss).size → least ≤ (atLeaf i (i + j) (growK n least d ss) ss).length) := by
  have hleaf : ∀ (ss : List Sm) (i j : Nat) (y : Nd), SRight ss n → (layK i (.leaf (leafG ss)))[j]? = some y → SRight (atLeaf i (i + j) (.leaf (leafG ss)) ss) n ∧ y = leafG (atLeaf i (i + j) (.leaf (leafG ss)) ss) ∧ (1 < (Kt.leaf (leafG ss)).size → least ≤ (atLeaf i (i + j) (.leaf (leafG ss)) ss).length) := by
    intro ss i j y hs hy
    cases j with
    | succ j => simp [layK] at hy
    | zero =>
      have e : atLeaf i (i + 0) (.leaf (leafG ss)) ss = ss := by
        unfold atLeaf
        rw [List.filter_eq_self]
        intro s _
        simp [kleaf]
      rw [e]
      simp [layK] at hy
      exact ⟨hs, hy.symm, fun h => by simp [Kt.size] at h⟩
  intro d
  induction d with
  | zero => intro ss i j y hs hy _; exact hleaf ss i j y hs hy
  | succ d ih =>
    intro ss i j y hs hy hyf
    have hB := bestB_ok hs hl
    rw [growK_succ] at hy ⊢
    by_cases h : (bestB ss n least).f < 0
    · rw [if_pos h] at hy ⊢
      exact hleaf ss i j y hs hy
    · rw [if_neg h] at hy ⊢
      obtain ⟨_, _, _, _, _, h6, _, _, hz⟩ := hB
      rcases hz with hz | ⟨h1, h2⟩
      · exact absurd hz h
      obtain ⟨f, hf⟩ : ∃ f : Nat, (bestB ss n least).f = f := ⟨(bestB ss n least).f.toNat, by omega⟩
      rw [hf] at h6 h1 h2 hy ⊢
      rw [Int.toNat_natCast] at h1 h2 hy ⊢
      generalize (bestB ss n least).c = C at h1 h2 hy ⊢
      have hA := hs.low (f := f) (c := C) (by omega)
      have hH := hs.high (f := f) (c := C) (by omega)
      have hc := cell_in hs (show f < n by omega)
      simp only [layK] at hy
      cases j with
      | zero =>
        simp at hy
        rw [← hy] at hyf
        simp at hyf
      | succ j =>
        rw [List.getElem?_cons_succ] at hy
        rcases Nat.lt_or_ge j (growK n least d (lowS f C ss)).size with hj | hj
        · rw [List.getElem?_append_left (by rw [layK_len]; exact hj)] at hy
          obtain ⟨a1, a2, a3⟩ := ih (lowS f C ss) (i + 1) j y hA hy hyf
          rw [show i + 1 + j = i + (j + 1) by omega] at a1 a2 a3
          rw [atLeaf_left (f := f) rfl hc (by omega)]
          refine ⟨a1, a2, fun _ => ?_⟩
          rcases Nat.lt_or_ge 1 (growK n least d (lowS f C ss)).size with hz | hz
          · exact a3 hz
          · have e : atLeaf (i + 1) (i + (j + 1)) (growK n least d (lowS f C ss)) (lowS f C ss) = lowS f C ss := by
              unfold atLeaf
              rw [List.filter_eq_self]
              intro s _
              have := kleaf_in s.r (growK n least d (lowS f C ss)) (i + 1)
              have := (growK n least d (lowS f C ss)).size_pos
              simp
              omega
            dsimp only
            rw [e]
            exact h1
        · rw [List.getElem?_append_right (by rw [layK_len]; exact hj), layK_len] at hy
          obtain ⟨a1, a2, a3⟩ := ih (highS f C ss) (i + 1 + (growK n least d (lowS f C ss)).size) _ y hH hy hyf
          rw [show i + 1 + (growK n least d (lowS f C ss)).size + (j - (growK n least d (lowS f C ss)).size) = i + (j + 1) by omega] at a1 a2 a3
          rw [atLeaf_right (f := f) rfl hc (by omega)]
          refine ⟨a1, a2, fun _ => ?_⟩
          rcases Nat.lt_or_ge 1 (growK n least d (highS f C ss)).size with hz | hz
          · exact a3 hz
          · have hlt := (List.getElem?_eq_some_iff.1 hy).1
            rw [layK_len] at hlt
            have e : atLeaf (i + 1 + (growK n least d (lowS f C ss)).size) (i + (j + 1)) (growK n least d (highS f C ss)) (highS f C ss) = highS f C ss := by
              unfold atLeaf
              rw [List.filter_eq_self]
              intro s _
              have := kleaf_in s.r (growK n least d (highS f C ss)) (i + 1 + (growK n least d (lowS f C ss)).size)
              simp
              omega
            dsimp only
            rw [e]
            exact h2

/-! ### no question puts more right -/
theorem least_one {f : Nat} : ∀ {L : List Sm}, L ≠ [] → ∃ s ∈ L, ∀ t ∈ L, cellS f s ≤ cellS f t := by
  intro L
  induction L with
  | nil => intro h; exact absurd rfl h
  | cons x r ih =>
    intro _
    by_cases hr : r = []
    · subst hr
      exact ⟨x, List.mem_cons_self .., fun t ht => by rw [List.mem_singleton.1 ht]; exact Int.le_refl _⟩
    · obtain ⟨s, hs, hm⟩ := ih hr
      by_cases hx : cellS f x ≤ cellS f s
      · exact ⟨x, List.mem_cons_self .., fun t ht => by
          rcases List.mem_cons.1 ht with rfl | ht
          · exact Int.le_refl _
          · exact Int.le_trans hx (hm t ht)⟩
      · exact ⟨s, List.mem_cons_of_mem _ hs, fun t ht => by
          rcases List.mem_cons.1 ht with rfl | ht
          · omega
          · exact hm t ht⟩
/-- each question parts as one at a cell does -/
theorem at_cell {ss : List Sm} {f least : Nat} {c : Int} (hl : 1 ≤ least) (h : OkC ss least f c) : ∃ c' ∈ ss.map (cellS f), lowS f c' ss = lowS f c ss ∧ highS f c' ss = highS f c ss := by
  obtain ⟨s, hs, hm⟩ := least_one (f := f) (L := highS f c ss) (fun e => by have := h.2; rw [e] at this; simp at this; omega)
  obtain ⟨h1, h2⟩ := highS_mem hs
  have key : ∀ t ∈ ss, lowB f (cellS f s) t = lowB f c t := fun t ht => by
    unfold lowB
    rw [decide_eq_decide]
    constructor
    · intro h3
      rcases Int.lt_or_le (cellS f t) c with h4 | h4
      · exact h4
      · have := hm t (by unfold highS lowB; rw [List.mem_filter]; exact ⟨ht, by simpa using h4⟩)
        omega
    · intro h3; omega
  refine ⟨cellS f s, List.mem_map_of_mem h1, ?_, ?_⟩
  · unfold lowS; exact List.filter_congr fun t ht => key t ht
  · unfold highS; exact List.filter_congr fun t ht => by rw [key t ht]
structure Most (ss : List Sm) (least k : Nat) (b : Bs) : Prop where
  pos : 0 < b.dn
  most : ∀ f, f < k → ∀ c ∈ ss.map (cellS f), OkC ss least f c → ¬ More (upC ss f c) (dnC ss f c) b.up b.dn
  is : b = startB ss ∨ ∃ (f : Nat) (c : Int), f < k ∧ OkC ss least f c ∧ b = atC ss f c
theorem best_range {ss : List Sm} {n least : Nat} (hs : SRight ss n) (hl : 1 ≤ least) : ∀ k, k ≤ n → Most ss least k ((List.range k).foldl (bestF ss least) (startB ss)) ∧ ((List.range k).foldl (bestF ss least) (startB ss)).f < k := by
  intro k
  induction k with
  | zero => intro _; exact ⟨⟨by show (0 : Int) < (ss.length : Int); have := hs.pos; omega, fun f hf => by omega, .inl rfl⟩, by show (-1 : Int) < ((0 : Nat) : Int); omega⟩
  | succ k ih =>
    intro hk
    obtain ⟨hM, hf⟩ := ih (by omega)
    rw [bestB_next]
    have hP := bestF_pk (ss := ss) (f := k) hl hM.pos (by omega)
    rcases hP with ⟨e, hno⟩ | ⟨c, hc, ho, e, hm, hb⟩
    · rw [e]
      refine ⟨⟨hM.pos, fun f hfk c' hc' ho' => ?_, ?_⟩, by omega⟩
      · rcases Nat.lt_or_ge f k with h | h
        · exact hM.most f h c' hc' ho'
        · obtain rfl : f = k := by omega
          exact hno c' hc' ho'
      · rcases hM.is with h | ⟨f, c', h1, h2⟩
        · exact .inl h
        · exact .inr ⟨f, c', by omega, h2⟩
    · rw [e]
      refine ⟨⟨ho.dn hl, fun f hfk c' hc' ho' => ?_, .inr ⟨k, c, by omega, ho, rfl⟩⟩, by show (k : Int) < ((k + 1 : Nat) : Int); omega⟩
      rcases Nat.lt_or_ge f k with h | h
      · exact more_le_trans (ho.dn hl) hM.pos (ho'.dn hl) hm (hM.most f h c' hc' ho')
      · obtain rfl : f = k := by omega
        exact (hb c' hc' ho').1
/-- whatever is asked puts no more right than the best question does -/
theorem best_most {ss : List Sm} {n least f : Nat} {c : Int} (hs : SRight ss n) (hl : 1 ≤ least) (hf : f < n) (h : OkC ss least f c) : upC ss f c * (bestB ss n least).dn ≤ (bestB ss n least).up * dnC ss f c := by
  obtain ⟨hM, _⟩ := best_range hs hl n (Nat.le_refl _)
  obtain ⟨c', hc', e1, e2⟩ := at_cell hl h
  have h2 : OkC ss least f c' := by unfold OkC; rw [e1, e2]; exact h
  have := hM.most f hf c' hc' h2
  have eu : upC ss f c' = upC ss f c := by unfold upC; rw [e1, e2]
  have ed : dnC ss f c' = dnC ss f c := by unfold dnC; rw [e1, e2]
  rw [eu, ed] at this
  unfold More at this
  have e3 : (List.range n).foldl (bestF ss least) (startB ss) = bestB ss n least := rfl
  rw [e3] at this
  omega
theorem best_is {ss : List Sm} {n least : Nat} (hs : SRight ss n) (hl : 1 ≤ least) : bestB ss n least = startB ss ∨ ∃ (f : Nat) (c : Int), f < n ∧ OkC ss least f c ∧ bestB ss n least = atC ss f c :=
  (best_range hs hl n (Nat.le_refl _)).1.is
end Go.Proofs.Ytdpijhnbhopnbaa
/- Appending one element where another row of the call's own lies beside. Conditions: as each lemma names. -/
namespace Go.Proofs.Ytdpijhnbhopnbaa
set_option linter.unusedVariables false
set_option linter.unusedSimpArgs false
open Go.RowKit

theorem app_one2 {P : Program} {T E : TypeId} {z : Value} {size bytes : Nat} (hE : Elem P T E z size bytes) {ops : Array Oper} {rest : List Oper} {o : Oper} {a : Act} {Q : Exit → Act → World → Prop} {wr : World}
    (s x : Operand) (cs : List Value) (hgd : o.guard = none) (ho : o.op = .call { callee := .builtin .append, args := #[s, x], argTypes := #[T, T] })
    {base : Nat} {v : Value} {n : Nat} {xs : List Value} (hs : a.eval s = v) (hown : wr.ownsRow base E size v n xs) {g : Nat} (hx : a.eval x = .slice (some ⟨g, 0, none⟩) 1 1) (hgs : wr.heap.size = g)
    (hcs : cs.length = size) (h1 : ∀ u ∈ cs, u.oneCell' = true) (hn : n < 1000000000) (hbase : base ≤ wr.heap.size)
    (h : ∀ v' w', w'.ownsRow base E size v' (n + 1) (xs ++ cs) → Below base wr w' → wr.grownBy w' v.ownBlock → (v'.ownBlock = v.ownBlock ∨ v'.ownBlock = some (wr.heap.size + 1)) → wpList P ops Q rest (a.put o.dst v') w') : wpList P ops Q (o :: rest) a (wr.alloc (.cells cs.toArray E)) := by
  subst hgs
  obtain ⟨i, hi, hz, hsz, hby⟩ := info_parts hE.info
  have hw := hE.wide
  refine wpList_append_any _ hgd s x T ho base E i z size bytes hE.und hi hz hsz hby hE.zs hE.pos v n xs hs (hown.alloc _) (wr.heap.size + 1) (some ⟨wr.heap.size, 0, none⟩) 1 1 cs hx (Reads.new_ wr size 1 cs E (by omega)) h1 (by unfold maxLen; omega) ?_ (by simp; omega) ?_
  · have : (n + 1) * bytes ≤ (n + 1) * 1000 := Nat.mul_le_mul_left _ hw
    omega
  · intro v' w' h2 h3 h4
    refine h v' w' h2 (((Below.refl base wr).alloc hbase _).grown h3 (by simp; omega) (own_block_ge hown)) ?_ (by rwa [World.size_alloc] at h4)
    exact ⟨h3.os, h3.tape, h3.output, Nat.le_trans (by simp) h3.size, fun k hk hne => (h3.block k (by simp; omega) hne).trans (Below.heap_alloc wr _ k hk)⟩

/-- two rows lie apart -/
def Apart (u v : Value) : Prop := ∀ k, u.ownBlock = some k → v.ownBlock ≠ some k
theorem Apart.symm {u v : Value} (h : Apart u v) : Apart v u := fun k hk e => h k e hk
theorem Apart.nil_ (v : Value) (n c : Nat) : Apart (.slice none n c) v := fun k hk => by simp [Value.ownBlock] at hk
/-- behind an append onto the one row the other is as it was, and they lie apart still -/
theorem own_aside {wr w' : World} {base base' : Nat} {e e' : TypeId} {size size' n n' : Nat} {v u v' : Value} {xs xs' : List Value} (hu : wr.ownsRow base e size u n xs) (hv : wr.ownsRow base' e' size' v n' xs') (ha : Apart u v) (hg : wr.grownBy w' v.ownBlock) (hn : v'.ownBlock = v.ownBlock ∨ v'.ownBlock = some (wr.heap.size + 1)) :
    w'.ownsRow base e size u n xs ∧ Apart u v' := by
  constructor
  · refine hu.kept hg ?_
    rcases hb : u.ownBlock with _ | k
    · exact .inl rfl
    · exact .inr fun e => ha k hb e.symm
  · intro k hk e
    rcases hn with hn | hn
    · exact ha k hk (by rw [← hn]; exact e)
    · rw [e] at hn
      injection hn with hn
      have := (hu.lt k hk).2
      omega
end Go.Proofs.Ytdpijhnbhopnbaa
/- Package grow: sum, part. Conditions: samples that read as data. -/
namespace Go.Proofs.Ytdpijhnbhopnbaa
set_option linter.unusedVariables false
set_option linter.unusedSimpArgs false
open Go.RowKit

theorem elem_smp : Elem Try.prog 22 25 (.agg #[.slice none 0 0, .int .i64 0]) 2 32 := ⟨Try.underlying22, by kernel_rfl, rfl, by omega, by omega⟩
theorem smp_one (A : Option Addr) (n c : Nat) (t : Int) : ∀ u ∈ [Value.slice A n c, .int .i64 t], u.oneCell' = true := by
  intro u hu
  simp at hu
  rcases hu with rfl | rfl <;> rfl
/-- samples of a call's own -/
def MOwn (w : World) (base : Nat) (v : Value) (ss : List Sm) : Prop := w.ownsRow base 25 2 v ss.length (ss.flatMap Sm.cells)
theorem MOwn.nil_ (w : World) (base : Nat) : MOwn w base (.slice none 0 0) [] := World.ownsRow_nil _ _ _ _
theorem MOwn.slice {w : World} {base : Nat} {v : Value} {ss : List Sm} (h : MOwn w base v ss) : ∃ A c, v = .slice A ss.length c ∧ Reads w w.heap.size 2 A ss.length (ss.flatMap Sm.cells) ∧ ss.length ≤ c := by
  obtain ⟨A, c, e, hr, _, hc⟩ := own_slice h
  exact ⟨A, c, e, hr, hc⟩
theorem MOwn.app {w : World} {base : Nat} {v : Value} {ss : List Sm} {s : Sm} (h : w.ownsRow base 25 2 v (ss.length + 1) (ss.flatMap Sm.cells ++ [.slice s.A s.n s.c, .int .i64 s.t])) : MOwn w base v (ss ++ [s]) := by
  unfold MOwn
  rw [List.length_append, List.flatMap_append]
  exact h

set_option maxRecDepth 100000 in
set_option maxHeartbeats 2000000 in
theorem msum_any (A : Option Addr) (n c : Nat) (ss : List Sm) (w : World) (h : MReads w w.heap.size A n ss) (hn : n ≤ 60) (h1 : ∀ s ∈ ss, -1000 ≤ s.t) (h2 : ∀ s ∈ ss, s.t ≤ 1000) :
    Calls Try.prog 33 #[.slice A n c] w fun e w' => e = .returned (.int .i64 (sumM ss)) ∧ Below w.heap.size w w' := by
  have hlen := h.len
  have HB : Hid (∀ k, -60000 ≤ sumM (ss.take k) ∧ sumM (ss.take k) ≤ 60000) := hide fun k => sum_60 (by rw [List.length_take]; omega) (fun s hs => h1 s (List.mem_of_mem_take hs)) (fun s hs => h2 s (List.mem_of_mem_take hs))
  have HT : Hid (ss.take n = ss) := hide (List.take_of_length_le (by omega))
  have HL := hide hlen
  have H1 := hide h1
  have H2 := hide h2
  clear hlen h1 h2
  go_enter Try.func33, Try.ntmps33
  go_wp2_with fail
  go_loopw [3, 8] (fun s i wr => ∃ k : Nat, k ≤ n ∧ s = .int .i64 (sumM (ss.take k)) ∧ i = .int .i64 k ∧ Below w.heap.size w wr) (fun _ i _ => n - (intOf i).toNat)
  case atStart => exact ⟨0, Nat.zero_le _, rfl, rfl, Below.refl _ _⟩
  case round =>
    obtain ⟨k, hk, rfl, rfl, hbel⟩ := hrel
    by_cases hlt : k < n
    · obtain ⟨b, o, s, rfl, _, hx, c0, c1, hok⟩ := (h.below hbel).get hlt
      have HN := hide (sumM_next hx)
      obtain ⟨b1, b2⟩ := unhide HB k
      obtain ⟨S, hS⟩ : ∃ S, S = sumM (ss.take k) := ⟨_, rfl⟩
      rw [← hS] at b1 b2 HN ⊢
      have t1 := unhide H1 s (List.mem_of_getElem? hx)
      have t2 := unhide H2 s (List.mem_of_getElem? hx)
      obtain ⟨sA, sn, sc, sr, st⟩ := s
      dsimp only at c0 c1 HN t1 t2
      have hbA := hbel.alloc hbel.size (.cells #[.slice sA sn sc, .int .i64 st] 25)
      clear hx hok hS
      go_wp2_with fail
      go_roundw
      case rel => exact ⟨k + 1, by omega, by rw [unhide HN], by go_num, hbA⟩
      case measure => simp [intOf]; omega
    · obtain rfl : k = n := by omega
      rw [unhide HT]
      go_wp2_with fail
      go_ret
      exact ⟨rfl, hbel⟩

/-- two rows of samples come back -/
def PartPost (a b : List Sm) (w : World) (e : Ending) (w' : World) : Prop :=
  ∃ A c A' c', e = .returned (.tuple #[.slice A a.length c, .slice A' b.length c']) ∧ (MOwn w' w.heap.size (.slice A a.length c) a ∧ MReads w' w'.heap.size A a.length a) ∧ (MOwn w' w.heap.size (.slice A' b.length c') b ∧ MReads w' w'.heap.size A' b.length b) ∧ Below w.heap.size w w'

set_option maxRecDepth 100000 in
set_option maxHeartbeats 4000000 in
theorem mpart_any (A : Option Addr) (n c f : Nat) (q : Int) (ss : List Sm) (w : World) (h : MReads w w.heap.size A n ss) (hn : n ≤ 60) (hf : ∀ s ∈ ss, f < s.r.length) :
    Calls Try.prog 34 #[.slice A n c, .int .i64 f, .int .i64 q] w (PartPost (lowS f q ss) (highS f q ss) w) := by
  have hlen := h.len
  have HT : Hid (ss.take n = ss) := hide (List.take_of_length_le (by omega))
  have HF := hide hf
  have HL := hide hlen
  clear hlen hf
  go_enter Try.func34, Try.ntmps34
  go_wp2_with fail
  go_loopw [6, 7, 12] (fun u v i wr => ∃ k : Nat, k ≤ n ∧ i = .int .i64 k ∧ Hid (MOwn wr w.heap.size u (lowS f q (ss.take k))) ∧ Hid (MOwn wr w.heap.size v (highS f q (ss.take k))) ∧ Hid (Apart u v) ∧ Below w.heap.size w wr) (fun _ _ i _ => n - (intOf i).toNat)
  case atStart => exact ⟨0, Nat.zero_le _, rfl, hide (MOwn.nil_ _ _), hide (MOwn.nil_ _ _), hide (Apart.nil_ _ _ _), Below.refl _ _⟩
  case round =>
    obtain ⟨k, hk, rfl, HO, HP, HA, hbel⟩ := hrel
    have hsz := hbel.size
    by_cases hlt : k < n
    · obtain ⟨b, o, s, rfl, _, hx, c0, c1, hok⟩ := (h.below hbel).get hlt
      have HN := hide (lowS_next (f := f) (c := q) hx)
      have HM := hide (highS_next (f := f) (c := q) hx)
      have hfl := unhide HF s (List.mem_of_getElem? hx)
      have hrd := hok.reads
      obtain ⟨sA, sn, sc, sr, st⟩ := s
      dsimp only at c0 c1 HN HM hfl hrd
      rw [hrd.len] at hfl
      obtain ⟨rb, ro, x, rfl, hrb, hrx, crx⟩ := hrd.get hfl
      have HX : Hid (cellS f ⟨some ⟨rb, ro, none⟩, sn, sc, sr, st⟩ = x) := hide (by unfold cellS; rw [List.getD_eq_getElem?_getD, hrx]; rfl)
      obtain ⟨La, hLa⟩ : ∃ La, La = lowS f q (ss.take k) := ⟨_, rfl⟩
      obtain ⟨Lb, hLb⟩ : ∃ Lb, Lb = highS f q (ss.take k) := ⟨_, rfl⟩
      have hal : La.length ≤ k := by rw [hLa]; exact Nat.le_trans (List.length_filter_le _ _) (List.length_take_le _ _)
      have hbl : Lb.length ≤ k := by rw [hLb]; exact Nat.le_trans (List.length_filter_le _ _) (List.length_take_le _ _)
      rw [← hLa] at HN HO
      rw [← hLb] at HM HP
      have hl1 : sn ≤ maxLen := hok.len
      unfold maxLen at hl1
      have hbA := hbel.alloc hsz (.cells #[.slice (some ⟨rb, ro, none⟩) sn sc, .int .i64 st] 25)
      have hcx : (wr.alloc (.cells #[.slice (some ⟨rb, ro, none⟩) sn sc, .int .i64 st] 25)).cell? ⟨rb, ro + f, none⟩ = some (.int .i64 x) := (World.cell?_alloc_lt wr _ _ (by show rb < _; omega)).trans crx
      have bS := Blk.new wr 25 #[.slice (some ⟨rb, ro, none⟩) sn sc, .int .i64 st]
      have e0 := bS.cell 0
      have e1 := bS.cell 1
      simp at e0 e1
      have hOA : (wr.alloc (.cells #[.slice (some ⟨rb, ro, none⟩) sn sc, .int .i64 st] 25)).ownsRow w.heap.size 25 2 _ La.length (La.flatMap Sm.cells) := World.ownsRow.alloc (unhide HO) _
      have hPA : (wr.alloc (.cells #[.slice (some ⟨rb, ro, none⟩) sn sc, .int .i64 st] 25)).ownsRow w.heap.size 25 2 _ Lb.length (Lb.flatMap Sm.cells) := World.ownsRow.alloc (unhide HP) _
      have hap := unhide HA
      have hwz : w.heap.size ≤ (wr.alloc (.cells #[.slice (some ⟨rb, ro, none⟩) sn sc, .int .i64 st] 25)).heap.size := by rw [World.size_alloc]; omega
      clear hx hok hrd hrx hLa hLb crx HO HP HA
      by_cases hlo : x < q
      · have HN2 : Hid (lowS f q (ss.take (k + 1)) = La ++ [⟨some ⟨rb, ro, none⟩, sn, sc, sr, st⟩]) := hide (by rw [unhide HN, unhide HX, if_pos hlo])
        have HM2 : Hid (highS f q (ss.take (k + 1)) = Lb) := hide (by rw [unhide HM, unhide HX, if_pos hlo, List.append_nil])
        have d1 : decide (x < q) = true := decide_eq_true hlo
        clear HN HM HX hlo
        go_wp2_with (at_builtin; refine app_one2 elem_smp (.tmp 23) (.tmp 25) [.slice (some ⟨rb, ro, none⟩) sn sc, .int .i64 st] rfl rfl rfl hOA rfl (World.size_alloc _ _) rfl (smp_one _ _ _ _) (by omega) hwz ?_; intro v2 w2 hown2 hb2 hn2 hg2)
        go_wp2_with fail
        go_roundw
        case rel => exact ⟨k + 1, by omega, by go_num, hide (by rw [unhide HN2]; exact MOwn.app (s := ⟨some ⟨rb, ro, none⟩, sn, sc, sr, st⟩) hown2), hide (by rw [unhide HM2]; exact (own_aside hPA hOA hap.symm hn2 hg2).1), hide (own_aside hPA hOA hap.symm hn2 hg2).2.symm, hbA.trans hb2⟩
        case measure => simp [intOf] <;> omega
      · have HN2 : Hid (lowS f q (ss.take (k + 1)) = La) := hide (by rw [unhide HN, unhide HX, if_neg hlo, List.append_nil])
        have HM2 : Hid (highS f q (ss.take (k + 1)) = Lb ++ [⟨some ⟨rb, ro, none⟩, sn, sc, sr, st⟩]) := hide (by rw [unhide HM, unhide HX, if_neg hlo])
        have d1 : decide (x < q) = false := decide_eq_false hlo
        clear HN HM HX hlo
        go_wp2_with (at_builtin; refine app_one2 elem_smp (.tmp 27) (.tmp 29) [.slice (some ⟨rb, ro, none⟩) sn sc, .int .i64 st] rfl rfl rfl hPA rfl (World.size_alloc _ _) rfl (smp_one _ _ _ _) (by omega) hwz ?_; intro v2 w2 hown2 hb2 hn2 hg2)
        go_wp2_with fail
        go_roundw
        case rel => exact ⟨k + 1, by omega, by go_num, hide (by rw [unhide HN2]; exact (own_aside hOA hPA hap hn2 hg2).1), hide (by rw [unhide HM2]; exact MOwn.app (s := ⟨some ⟨rb, ro, none⟩, sn, sc, sr, st⟩) hown2), hide (own_aside hOA hPA hap hn2 hg2).2, hbA.trans hb2⟩
        case measure => simp [intOf] <;> omega
    · obtain rfl : k = n := by omega
      rw [unhide HT] at HO HP
      obtain ⟨A1, d1, rfl, hr1, _⟩ := (unhide HO).slice
      obtain ⟨A2, d2, rfl, hr2, _⟩ := (unhide HP).slice
      go_wp2_with fail
      go_ret2
      refine ⟨A1, d1, A2, d2, rfl, ⟨unhide HO, hr1, fun s hs => ?_⟩, ⟨unhide HP, hr2, fun s hs => ?_⟩, hbel⟩
      · exact ((h.2 s (lowS_mem hs).1).below hbel).more hbel.size
      · exact ((h.2 s (highS_mem hs).1).below hbel).more hbel.size

/-- samples that stay as they are, whatever becomes of a row -/
def MKept (w : World) (v : Value) (A : Option Addr) (n : Nat) (ss : List Sm) : Prop := ∀ w', w.grownBy w' v.ownBlock → MReads w' w'.heap.size A n ss
def OwnNext (w : World) (v v' : Value) : Prop := v'.ownBlock = v.ownBlock ∨ ∃ q, v'.ownBlock = some q ∧ w.heap.size ≤ q
theorem grown_next {w w1 w2 : World} {v v1 : Value} (h1 : w.grownBy w1 v.ownBlock) (hn : OwnNext w v v1) (h2 : w1.grownBy w2 v1.ownBlock) : w.grownBy w2 v.ownBlock :=
  ⟨h2.os.trans h1.os, h2.tape.trans h1.tape, h2.output.trans h1.output, Nat.le_trans h1.size h2.size, fun i hi hne => by
    have hs := h1.size
    rw [h2.block i (by omega) ?_, h1.block i hi hne]
    rcases hn with e | ⟨q, e, hq⟩
    · rw [e]; exact hne
    · rw [e]; intro e'; injection e' with e'; omega⟩
theorem OwnNext.refl (w : World) (v : Value) : OwnNext w v v := .inl rfl
theorem OwnNext.trans {w w1 : World} {v v1 v2 : Value} (h : OwnNext w v v1) (hs : w.heap.size ≤ w1.heap.size) (k : OwnNext w1 v1 v2) : OwnNext w v v2 := by
  rcases k with e | ⟨q, e, hq⟩
  · rcases h with e1 | ⟨p, e1, hp⟩
    · exact .inl (e.trans e1)
    · exact .inr ⟨p, e.trans e1, hp⟩
  · exact .inr ⟨q, e, Nat.le_trans hs hq⟩
theorem MKept.next {w w1 : World} {v v1 : Value} {A : Option Addr} {n : Nat} {ss : List Sm} (h : MKept w v A n ss) (h1 : w.grownBy w1 v.ownBlock) (hn : OwnNext w v v1) : MKept w1 v1 A n ss := fun w2 h2 => h w2 (grown_next h1 hn h2)
theorem MKept.now {w : World} {v : Value} {A : Option Addr} {n : Nat} {ss : List Sm} (h : MKept w v A n ss) : MReads w w.heap.size A n ss := h w (World.grownBy.refl _ _)
/-- samples that were made behind a row stay so -/
theorem MKept.made {w w1 : World} {v : Value} {A : Option Addr} {c : Nat} {ss a : List Sm} {base : Nat} {xs : List Value} {e : TypeId} {size q : Nat} {A0 : Option Addr} {n0 : Nat} (hv : w.ownsRow base e size v q xs) (h : MKept w v A0 n0 ss) (hb : Below w.heap.size w w1) (ho : MOwn w1 w.heap.size (.slice A a.length c) a) (hm : ∀ s ∈ a, s ∈ ss) : MKept w1 v A a.length a := by
  intro w2 h2
  have hk : w2.ownsRow w.heap.size 25 2 (.slice A a.length c) a.length (a.flatMap Sm.cells) := by
    refine World.ownsRow.kept ho h2 ?_
    rcases hk : (Value.slice A a.length c).ownBlock with _ | k
    · exact .inl rfl
    · refine .inr fun e => ?_
      have h3 := own_block_ge ho k hk
      have h4 := (hv.lt k e.symm).2
      omega
  refine ⟨?_, fun s hs => ?_⟩
  · have := MOwn.slice hk
    obtain ⟨A', c', e', hr, _⟩ := this
    injection e' with e1 _ _
    rw [e1]; exact hr
  · exact (h w2 (grown_next (only_of_below hb _) (OwnNext.refl _ _) h2)).2 s (hm s hs)
end Go.Proofs.Ytdpijhnbhopnbaa
