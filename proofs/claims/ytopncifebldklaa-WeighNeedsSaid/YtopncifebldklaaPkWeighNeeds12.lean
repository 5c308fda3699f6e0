/- Part 12 of what LawWeighNeeds needs: Region. Conditions: as each lemma names. -/
import Derived.Test.YtopncifebldklaaPkWeighNeeds11
/- Plain maths of regions: who is within comes there. Conditions: none beyond what each lemma names. -/
namespace Go.Proofs.Ytopncifebldklaa
set_option linter.unusedVariables false
set_option linter.unusedSimpArgs false
open Go.RowKit

/-- a row within spans -/
def inSp (r : List Int) (l : List Sp) : Prop := r.length = l.length ∧ ∀ (j : Nat) x s, r[j]? = some x → l[j]? = some s → inB x s = true

theorem inB_side {x c : Int} {s : Sp} {less b : Bool} (hx : x = -1125899906842624 ∨ True) :
    inB x (sideS s c less b) = true ↔ inB x s = true ∧ (if x = -1125899906842624 then less else decide (x < c)) = b := by
  unfold inB sideS
  by_cases h : x = -1125899906842624
  · subst h
    cases b <;> cases less <;> simp
  · cases b
    · simp only [h, if_false, Bool.false_eq_true, decide_eq_false_iff_not, Bool.and_eq_true, decide_eq_true_eq]; omega
    · simp only [h, if_false, if_true, decide_eq_true_eq, Bool.and_eq_true]; omega

theorem inSp_side {r : List Int} {l : List Sp} {n : Nd} {b : Bool} (h0 : 0 ≤ n.f) (h1 : n.f < l.length) : inSp r (sideL l n b) ↔ inSp r l ∧ goes n (cellAt r n.f) = b := by
  obtain ⟨f, hf⟩ : ∃ f : Nat, n.f = f := ⟨n.f.toNat, by omega⟩
  have hfl : f < l.length := by omega
  have hsf : l[f]? = some l[f] := List.getElem?_eq_getElem hfl
  have hsd : sideL l n b = l.set f (sideS l[f] n.c n.less b) := by unfold sideL; rw [hf, Int.toNat_natCast, hsf]
  have hlen := sideL_len l n b
  have hg : ∀ x, r[f]? = some x → (goes n (cellAt r n.f) = b ↔ (if x = -1125899906842624 then n.less else decide (x < n.c)) = b) := by
    intro x hx
    have : cellAt r n.f = x := by unfold cellAt; rw [hf, Int.toNat_natCast, List.getD_eq_getElem?_getD, hx]; rfl
    rw [this]; rfl
  constructor
  · rintro ⟨h2, h3⟩
    rw [hlen] at h2
    have hrf : r[f]? = some r[f] := List.getElem?_eq_getElem (by omega)
    have h4 := h3 f _ _ hrf (by rw [hsd, List.getElem?_set_self hfl])
    rw [inB_side (.inr trivial)] at h4
    refine ⟨⟨h2, fun j x s hx hs => ?_⟩, (hg _ hrf).2 h4.2⟩
    by_cases hj : f = j
    · subst hj
      rw [hrf] at hx; rw [hsf] at hs
      cases hx; cases hs
      exact h4.1
    · exact h3 j x s hx (by rw [hsd, List.getElem?_set_ne hj]; exact hs)
  · rintro ⟨⟨h2, h3⟩, h4⟩
    refine ⟨by rw [hlen]; exact h2, fun j x s hx hs => ?_⟩
    rw [hsd] at hs
    by_cases hj : f = j
    · subst hj
      rw [List.getElem?_set_self hfl] at hs
      cases hs
      rw [inB_side (.inr trivial)]
      exact ⟨h3 f x _ hx hsf, (hg x hx).1 h4⟩
    · rw [List.getElem?_set_ne hj] at hs
      exact h3 j x s hx hs

theorem inSp_any {r : List Int} {l : List Sp} (h : inSp r l) (hr : ∀ x ∈ l, True) : anyB l = true := by
  unfold anyB
  rw [List.all_eq_true]
  intro s hs
  obtain ⟨j, hj⟩ := List.mem_iff_getElem?.1 hs
  have hjl : j < l.length := (List.getElem?_eq_some_iff.1 hj).1
  have := h.2 j _ s (List.getElem?_eq_getElem (by rw [h.1]; exact hjl)) hj
  unfold inB at this
  unfold someB
  split at this
  · rw [this]; simp
  · simp only [Bool.and_eq_true, decide_eq_true_eq] at this
    rw [Bool.or_eq_true, decide_eq_true_eq]; left; omega
/-- the ends of spans are cells, or the span has nothing of them -/
def Wf (l : List Sp) : Prop := ∀ s ∈ l, s.low ≤ s.high → s.low ≠ -1125899906842624
theorem pick_in {l : List Sp} (hw : Wf l) (h : anyB l = true) : inSp (pickL l) l := by
  refine ⟨by simp [pickL], fun j x s hx hs => ?_⟩
  unfold pickL at hx
  rw [List.getElem?_map, hs] at hx
  have hx : pickS s = x := by simpa using hx
  subst hx
  have hm := List.mem_of_getElem? hs
  have h1 : someB s = true := List.all_eq_true.1 h s hm
  unfold pickS inB
  unfold someB at h1
  by_cases hl : s.low ≤ s.high
  · rw [if_pos hl, if_neg (hw s hm hl)]; simp [hl]
  · rw [if_neg hl, if_pos rfl]
    simpa [hl] using h1
theorem wf_low {l : List Sp} (h : ∀ s ∈ l, -1000000 ≤ s.low) : Wf l := fun s hs _ => by have := h s hs; omega
theorem low_side {l : List Sp} {n : Nd} {b : Bool} (h : ∀ s ∈ l, -1000000 ≤ s.low) : ∀ s ∈ sideL l n b, -1000000 ≤ s.low := by
  unfold sideL
  split
  · exact h
  · rename_i s0 hs0
    intro s hs
    rcases List.mem_or_eq_of_mem_set hs with h1 | h1
    · exact h s h1
    · subst h1
      have := h s0 (List.mem_of_getElem? hs0)
      unfold sideS
      cases b <;> simp <;> omega

/-! ### each leaf is reached one way -/
inductive Und (t : List Nd) : Nat → Nat → Prop
  | refl (a : Nat) : Und t a a
  | step {a c j : Nat} {n : Nd} : t[a]? = some n → n.f ≠ -1 → (c = n.l.toNat ∨ c = n.r.toNat) → Und t c j → Und t a j
def Child (t : List Nd) (p c : Nat) : Prop := ∃ n, t[p]? = some n ∧ n.f ≠ -1 ∧ (c = n.l.toNat ∨ c = n.r.toNat)
theorem Und.le {t : List Nd} (hb : Behind t) {a j : Nat} (h : Und t a j) : a ≤ j := by
  induction h with
  | refl => exact Nat.le_refl _
  | step hn hf hc _ ih => obtain ⟨h1, _, h2, _⟩ := hb _ _ hn hf; rcases hc with rfl | rfl <;> omega
theorem Und.last {t : List Nd} {a j : Nat} (h : Und t a j) : a = j ∨ ∃ p, Und t a p ∧ Child t p j := by
  induction h with
  | refl => exact .inl rfl
  | step hn hf hc hu ih =>
    rcases ih with rfl | ⟨p, h1, h2⟩
    · exact .inr ⟨_, .refl _, _, hn, hf, hc⟩
    · exact .inr ⟨p, .step hn hf hc h1, h2⟩
theorem ups_at {t : List Nd} {p : Nat} {n : Nd} (h : t[p]? = some n) (j : Nat) : kid n j ≤ ups t j := by
  induction t generalizing p with
  | nil => simp at h
  | cons x r ih =>
    cases p with
    | zero => simp at h; subst h; unfold ups; omega
    | succ p => have := ih (p := p) (by simpa using h); unfold ups; omega
theorem ups_two {t : List Nd} {p q : Nat} {n m : Nd} (h : t[p]? = some n) (h' : t[q]? = some m) (hne : p < q) (j : Nat) : kid n j + kid m j ≤ ups t j := by
  induction t generalizing p q with
  | nil => simp at h
  | cons x r ih =>
    cases q with
    | zero => omega
    | succ q =>
      cases p with
      | zero => simp at h; subst h; have := ups_at (t := r) (p := q) (by simpa using h') j; unfold ups; omega
      | succ p => have := ih (p := p) (q := q) (by simpa using h) (by simpa using h') (by omega); unfold ups; omega
theorem Child.lt {t : List Nd} (hb : Behind t) {p c : Nat} (h : Child t p c) : p < c ∧ c < t.length := by
  obtain ⟨n, hn, hf, hc⟩ := h
  obtain ⟨h1, h2, h3, h4⟩ := hb _ _ hn hf
  rcases hc with rfl | rfl <;> omega
theorem Child.kid {t : List Nd} (hb : Behind t) {p c : Nat} (h : Child t p c) : ∃ n, t[p]? = some n ∧ 1 ≤ kid n c := by
  obtain ⟨n, hn, hf, hc⟩ := h
  obtain ⟨h1, h2, h3, h4⟩ := hb _ _ hn hf
  refine ⟨n, hn, ?_⟩
  unfold Proofs.Ytopncifebldklaa.kid
  rw [if_neg hf]
  rcases hc with rfl | rfl
  · rw [if_pos (by omega)]; omega
  · rw [if_pos (c := n.r = _) (by omega)]; omega
theorem one_up {t : List Nd} {fe : Int} (h : Right t fe) {p q c : Nat} (h1 : Child t p c) (h2 : Child t q c) : p = q := by
  have hb := h.behind
  obtain ⟨a1, a2⟩ := h1.lt hb
  obtain ⟨n, hn, k1⟩ := h1.kid hb
  obtain ⟨m, hm, k2⟩ := h2.kid hb
  have h0 := h.one c (by omega) a2
  rcases Nat.lt_trichotomy p q with hlt | he | hlt
  · have := ups_two hn hm hlt c; omega
  · exact he
  · have := ups_two hm hn hlt c; omega
theorem comparable {t : List Nd} {fe : Int} (h : Right t fe) : ∀ (N j : Nat), j < N → ∀ a b, Und t a j → Und t b j → Und t a b ∨ Und t b a := by
  intro N
  induction N with
  | zero => intro j hj; omega
  | succ N ih =>
    intro j hj a b ha hb
    rcases ha.last with rfl | ⟨p, hp1, hp2⟩
    · exact .inr hb
    · rcases hb.last with rfl | ⟨q, hq1, hq2⟩
      · exact .inl ha
      · have := one_up h hp2 hq2
        subst this
        exact ih p (by have := (hp2.lt h.behind).1; omega) a b hp1 hq1
theorem siblings {t : List Nd} {fe : Int} (h : Right t fe) {p a b j : Nat} (ha : Child t p a) (hb : Child t p b) (hne : a ≠ b) (h1 : Und t a j) (h2 : Und t b j) : False := by
  have key : ∀ {x y : Nat}, Child t p x → Child t p y → x ≠ y → Und t x y → False := by
    intro x y hx hy hne hu
    rcases hu.last with he | ⟨q, hq1, hq2⟩
    · exact hne he
    · have := one_up h hq2 hy
      subst this
      have h3 := hq1.le h.behind
      have h4 := (hx.lt h.behind).1
      omega
  rcases comparable h (j + 1) j (by omega) a b h1 h2 with h3 | h3
  · exact key ha hb hne h3
  · exact key hb ha (Ne.symm hne) h3

/-- the places of the leaves below a node -/
def idx (t : List Nd) : Nat → Nat → List Nat
  | 0, _ => []
  | k + 1, i => match t[i]? with
    | some n => if n.f = -1 then [i] else idx t k n.l.toNat ++ idx t k n.r.toNat
    | none => []
theorem lv_idx (t : List Nd) : ∀ (k i : Nat) (l : List Sp), (lv t k i l).map (·.1) = idx t k i := by
  intro k
  induction k with
  | zero => intro i l; rfl
  | succ k ih =>
    intro i l
    unfold lv idx
    cases hn : t[i]? with
    | none => rfl
    | some n =>
      by_cases hf : n.f = -1
      · simp [hf]
      · simp [hf, ih]
theorem idx_und {t : List Nd} : ∀ (k i : Nat), ∀ j ∈ idx t k i, Und t i j ∧ ∃ n, t[j]? = some n ∧ n.f = -1 := by
  intro k
  induction k with
  | zero => intro i j hj; cases hj
  | succ k ih =>
    intro i j hj
    unfold idx at hj
    cases hn : t[i]? with
    | none => rw [hn] at hj; cases hj
    | some n =>
      rw [hn] at hj
      dsimp only at hj
      by_cases hf : n.f = -1
      · rw [if_pos hf] at hj
        simp at hj; subst hj
        exact ⟨.refl _, n, hn, hf⟩
      · rw [if_neg hf] at hj
        rcases List.mem_append.1 hj with h | h
        · obtain ⟨h1, h2⟩ := ih _ _ h
          exact ⟨.step hn hf (.inl rfl) h1, h2⟩
        · obtain ⟨h1, h2⟩ := ih _ _ h
          exact ⟨.step hn hf (.inr rfl) h1, h2⟩
theorem kids_ne {t : List Nd} {fe : Int} (h : Right t fe) {i : Nat} {n : Nd} (hn : t[i]? = some n) (hf : n.f ≠ -1) : n.l.toNat ≠ n.r.toNat := by
  rcases node_of (h.node i n hn) with h1 | h1
  · exact absurd h1.1 hf
  · have := h1.2.2.2.2; omega
theorem idx_nodup {t : List Nd} {fe : Int} (h : Right t fe) : ∀ (k i : Nat), (idx t k i).Nodup := by
  intro k
  induction k with
  | zero => intro i; exact List.nodup_nil
  | succ k ih =>
    intro i
    unfold idx
    cases hn : t[i]? with
    | none => exact List.nodup_nil
    | some n =>
      dsimp only
      by_cases hf : n.f = -1
      · rw [if_pos hf]; simp
      · rw [if_neg hf, List.nodup_append]
        refine ⟨ih _, ih _, fun a ha b hb hab => ?_⟩
        subst hab
        exact siblings h ⟨n, hn, hf, .inl rfl⟩ ⟨n, hn, hf, .inr rfl⟩ (kids_ne h hn hf) (idx_und _ _ _ ha).1 (idx_und _ _ _ hb).1

/-- who is within the spans of a leaf comes there -/
theorem lv_to {t : List Nd} {n : Nat} (ha : Asks t n) (r : List Int) : ∀ (k i : Nat) (l : List Sp), l.length = n → ∀ p ∈ lv t k i l, inSp r p.2 → inSp r l ∧ leafFrom t r k i = p.1 := by
  intro k
  induction k with
  | zero => intro i l _ p hp; cases hp
  | succ k ih =>
    intro i l hl p hp hin
    cases hn : t[i]? with
    | none => simp only [lv, hn] at hp; cases hp
    | some x =>
      by_cases hf : x.f = -1
      · rw [lv_leaf hn hf] at hp
        simp at hp; subst hp
        exact ⟨hin, leafFrom_leaf hn hf⟩
      · rw [lv_step hn hf] at hp
        obtain ⟨a1, a2⟩ := ha i x hn hf
        rw [leafFrom_step hn hf]
        rcases List.mem_append.1 hp with h | h
        · obtain ⟨h1, h2⟩ := ih _ _ (by rw [sideL_len]; exact hl) p h hin
          rw [inSp_side a1 (by omega)] at h1
          exact ⟨h1.1, by unfold nextOf; rw [if_pos h1.2]; exact h2⟩
        · obtain ⟨h1, h2⟩ := ih _ _ (by rw [sideL_len]; exact hl) p h hin
          rw [inSp_side a1 (by omega)] at h1
          exact ⟨h1.1, by unfold nextOf; rw [if_neg (by rw [h1.2]; simp)]; exact h2⟩
/-- and who comes to a leaf is within its spans -/
theorem lv_of {t : List Nd} {n : Nat} (ha : Asks t n) (hb : Behind t) (r : List Int) : ∀ (k i : Nat) (l : List Sp), l.length = n → i < t.length → t.length ≤ i + k → inSp r l → ∃ p ∈ lv t k i l, inSp r p.2 ∧ leafFrom t r k i = p.1 := by
  intro k
  induction k with
  | zero => intro i l _ h1 h2; omega
  | succ k ih =>
    intro i l hl h1 h2 hin
    have hn : t[i]? = some t[i] := List.getElem?_eq_getElem h1
    by_cases hf : (t[i]).f = -1
    · rw [lv_leaf hn hf]
      exact ⟨(i, l), by simp, hin, leafFrom_leaf hn hf⟩
    · rw [lv_step hn hf, leafFrom_step hn hf]
      obtain ⟨a1, a2⟩ := ha i _ hn hf
      obtain ⟨b1, b2, b3, b4⟩ := hb i _ hn hf
      cases hg : goes t[i] (cellAt r (t[i]).f) with
      | true =>
        obtain ⟨p, hp, h3, h4⟩ := ih (t[i]).l.toNat (sideL l t[i] true) (by rw [sideL_len]; exact hl) (by omega) (by omega) ((inSp_side a1 (by omega)).2 ⟨hin, hg⟩)
        exact ⟨p, List.mem_append_left _ hp, h3, by unfold nextOf; rw [if_pos hg]; exact h4⟩
      | false =>
        obtain ⟨p, hp, h3, h4⟩ := ih (t[i]).r.toNat (sideL l t[i] false) (by rw [sideL_len]; exact hl) (by omega) (by omega) ((inSp_side a1 (by omega)).2 ⟨hin, hg⟩)
        exact ⟨p, List.mem_append_right _ hp, h3, by unfold nextOf; rw [if_neg (by rw [hg]; simp)]; exact h4⟩
theorem lv_low {t : List Nd} : ∀ (k i : Nat) (l : List Sp), (∀ s ∈ l, -1000000 ≤ s.low) → ∀ p ∈ lv t k i l, ∀ s ∈ p.2, -1000000 ≤ s.low := by
  intro k
  induction k with
  | zero => intro i l _ p hp; cases hp
  | succ k ih =>
    intro i l hl p hp
    cases hn : t[i]? with
    | none => simp only [lv, hn] at hp; cases hp
    | some x =>
      by_cases hf : x.f = -1
      · rw [lv_leaf hn hf] at hp
        simp at hp; subst hp
        exact hl
      · rw [lv_step hn hf] at hp
        rcases List.mem_append.1 hp with h | h
        · exact ih _ _ (low_side hl) p h
        · exact ih _ _ (low_side hl) p h
theorem lv_length {t : List Nd} : ∀ (k i : Nat) (l : List Sp), ∀ p ∈ lv t k i l, p.2.length = l.length := by
  intro k
  induction k with
  | zero => intro i l p hp; cases hp
  | succ k ih =>
    intro i l p hp
    cases hn : t[i]? with
    | none => simp only [lv, hn] at hp; cases hp
    | some x =>
      by_cases hf : x.f = -1
      · rw [lv_leaf hn hf] at hp
        simp at hp; subst hp; rfl
      · rw [lv_step hn hf] at hp
        rcases List.mem_append.1 hp with h | h
        · rw [ih _ _ p h, sideL_len]
        · rw [ih _ _ p h, sideL_len]
theorem wide_low (n : Nat) : ∀ s ∈ wideL n, -1000000 ≤ s.low := by
  intro s hs
  have := List.eq_of_mem_replicate hs
  subst this; decide
theorem wide_len (n : Nat) : (wideL n).length = n := by simp [wideL]
/-- of two leaves with one place the spans are one -/
theorem lv_one {t : List Nd} {n : Nat} (h : Right t n) (k i : Nat) (l : List Sp) : ∀ p ∈ lv t k i l, ∀ q ∈ lv t k i l, p.1 = q.1 → p = q := by
  have hn := idx_nodup h k i
  rw [← lv_idx t k i l] at hn
  generalize lv t k i l = L at *
  induction L with
  | nil => intro p hp; cases hp
  | cons x r ih =>
    rw [List.map_cons, List.nodup_cons] at hn
    intro p hp q hq he
    rcases List.mem_cons.1 hp with h1 | h1
    · rcases List.mem_cons.1 hq with h2 | h2
      · rw [h1, h2]
      · exact absurd (by rw [← h1, he]; exact List.mem_map_of_mem h2) hn.1
    · rcases List.mem_cons.1 hq with h2 | h2
      · exact absurd (by rw [← h2, ← he]; exact List.mem_map_of_mem h1) hn.1
      · exact ih hn.2 p h1 q h2 he
theorem ups_some {t : List Nd} {j : Nat} (h : 1 ≤ ups t j) : ∃ (p : Nat) (n : Nd), t[p]? = some n ∧ 1 ≤ kid n j := by
  induction t with
  | nil => simp [ups] at h
  | cons x r ih =>
    by_cases hx : 1 ≤ kid x j
    · exact ⟨0, x, rfl, hx⟩
    · obtain ⟨p, n, h1, h2⟩ := ih (by unfold ups at h; omega)
      exact ⟨p + 1, n, by simpa using h1, h2⟩
theorem kid_child {t : List Nd} (hb : Behind t) {p j : Nat} {n : Nd} (h : t[p]? = some n) (hk : 1 ≤ kid n j) : Child t p j := by
  unfold kid at hk
  by_cases hf : n.f = -1
  · rw [if_pos hf] at hk; omega
  · rw [if_neg hf] at hk
    refine ⟨n, h, hf, ?_⟩
    by_cases hl : n.l = j
    · left; omega
    · rw [if_neg hl] at hk
      by_cases hr : n.r = j
      · right; omega
      · rw [if_neg hr] at hk; omega
theorem und_root {t : List Nd} {fe : Int} (h : Right t fe) : ∀ (N j : Nat), j < N → j < t.length → Und t 0 j := by
  intro N
  induction N with
  | zero => intro j hj; omega
  | succ N ih =>
    intro j hj hl
    rcases Nat.eq_zero_or_pos j with rfl | h0
    · exact .refl _
    · obtain ⟨p, n, h1, h2⟩ := ups_some (t := t) (j := j) (by rw [h.one j h0 hl]; exact Nat.le_refl _)
      have hc := kid_child h.behind h1 h2
      have hlt := hc.lt h.behind
      have hu := ih p (by omega) (by omega)
      obtain ⟨m, hm, hf, hcm⟩ := hc
      have snoc : ∀ {a b : Nat}, Und t a b → b = p → Und t a j := by
        intro a b hab
        induction hab with
        | refl a => intro e; subst e; exact .step hm hf hcm (.refl _)
        | step hn hf' hc' _ ih' => intro e; exact .step hn hf' hc' (ih' e)
      exact snoc hu rfl
theorem und_idx {t : List Nd} (hb : Behind t) {i j : Nat} (h : Und t i j) {n : Nd} (hn : t[j]? = some n) (hf : n.f = -1) : ∀ k, t.length ≤ i + k → j ∈ idx t k i := by
  induction h with
  | refl a =>
    intro k hk
    cases k with
    | zero => have := (List.getElem?_eq_some_iff.1 hn).1; omega
    | succ k => unfold idx; rw [hn]; simp [hf]
  | step ha hfa hc _ ih =>
    intro k hk
    obtain ⟨b1, b2, b3, b4⟩ := hb _ _ ha hfa
    cases k with
    | zero => omega
    | succ k =>
      have := ih hn k (by rcases hc with rfl | rfl <;> omega)
      unfold idx
      rw [ha]
      simp only [hfa, if_false]
      rcases hc with rfl | rfl
      · exact List.mem_append_left _ this
      · exact List.mem_append_right _ this
/-- each leaf comes up -/
theorem leaf_idx {t : List Nd} {fe : Int} (h : Right t fe) {j : Nat} {n : Nd} (hn : t[j]? = some n) (hf : n.f = -1) : j ∈ idx t t.length 0 :=
  und_idx h.behind (und_root h (j + 1) j (by omega) (List.getElem?_eq_some_iff.1 hn).1) hn hf _ (by omega)
/-- the spans of a leaf: of those handed last -/
def lastAt (ys : List (Nat × List Sp)) (leaf : Nat) : Option (List Sp) := ((ys.filter fun p => p.1 == leaf).map (·.2)).getLast?
theorem lastAt_same (ys : List (Nat × List Sp)) (leaf : Nat) (l : List Sp) : lastAt (ys ++ [(leaf, l)]) leaf = some l := by unfold lastAt; simp
theorem lastAt_other (ys : List (Nat × List Sp)) {leaf k : Nat} (l : List Sp) (h : k ≠ leaf) : lastAt (ys ++ [(k, l)]) leaf = lastAt ys leaf := by unfold lastAt; rw [List.filter_append]; simp [h]
def regL (t : List Nd) (n leaf : Nat) : List Sp := (lastAt (lv t t.length 0 (wideL n)) leaf).getD []
theorem regL_is {t : List Nd} {n : Nat} (h : Right t n) {j : Nat} {x : Nd} (hn : t[j]? = some x) (hf : x.f = -1) : lastAt (lv t t.length 0 (wideL n)) j = some (regL t n j) ∧ (j, regL t n j) ∈ lv t t.length 0 (wideL n) := by
  have hm := leaf_idx h hn hf
  rw [← lv_idx t t.length 0 (wideL n)] at hm
  obtain ⟨p, hp, he⟩ := List.mem_map.1 hm
  have hne : ((lv t t.length 0 (wideL n)).filter fun p => p.1 == j).map (·.2) ≠ [] := by
    intro h0
    have : p ∈ (lv t t.length 0 (wideL n)).filter fun p => p.1 == j := List.mem_filter.2 ⟨hp, by simpa using he⟩
    rw [List.map_eq_nil_iff] at h0
    rw [h0] at this; cases this
  have hl := List.getLast?_eq_some_getLast hne
  have hs : lastAt (lv t t.length 0 (wideL n)) j = some (regL t n j) := by unfold regL lastAt; rw [hl]; rfl
  refine ⟨hs, ?_⟩
  have hmem := List.getLast_mem hne
  have hg : (((lv t t.length 0 (wideL n)).filter fun p => p.1 == j).map (·.2)).getLast hne = regL t n j := by
    unfold lastAt at hs; rw [hl] at hs; exact Option.some.inj hs
  rw [hg] at hmem
  obtain ⟨q, hq, hqe⟩ := List.mem_map.1 hmem
  obtain ⟨h1, h2⟩ := List.mem_filter.1 hq
  have h3 : q.1 = j := by simpa using h2
  rw [← hqe, ← h3]
  exact h1
def fixS (s : Sp) : Sp := if s.low ≤ s.high then s else ⟨1, 0, s.ab⟩
theorem fix_some (s : Sp) : someB (fixS s) = someB s := by
  unfold fixS
  split
  · rfl
  · rename_i h; simp [someB, h]
theorem fix_any (l : List Sp) : anyB (l.map fixS) = anyB l := by unfold anyB; rw [List.all_map]; congr 1; funext s; exact fix_some s
end Go.Proofs.Ytopncifebldklaa
