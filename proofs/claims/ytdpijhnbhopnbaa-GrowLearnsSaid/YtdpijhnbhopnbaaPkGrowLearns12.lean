/- Part 12 of what LawGrowLearns needs: GrowR, BoostP. Conditions: as each lemma names. -/
import Derived.Test.YtdpijhnbhopnbaaPkGrowLearns11
import Derived.Test.YtdpijhnbhopnbaaPkGrowLearns03
/- Package grow in plain words: the best question is the best of all, by whatever order they are looked at. Conditions: none. -/
namespace Go.Proofs.Ytdpijhnbhopnbaa
set_option linter.unusedVariables false
set_option linter.unusedSimpArgs false
open Go.RowKit

theorem mul_pos_cancel {a b d : Int} (hd : 0 < d) (h : a * d < b * d) : a < b := by
  rcases Int.lt_or_le a b with h' | h'
  · exact h'
  · have := Int.mul_le_mul_of_nonneg_right h' (Int.le_of_lt hd); omega
theorem mul_pos_cancel_le {a b d : Int} (hd : 0 < d) (h : a * d ≤ b * d) : a ≤ b := by
  rcases Int.lt_or_le b a with h' | h'
  · have := Int.mul_lt_mul_of_pos_right h' hd; omega
  · exact h'
/-- a fraction is more than another one -/
def More (u1 d1 u2 d2 : Int) : Prop := u2 * d1 < u1 * d2
theorem more_le_trans {u1 d1 u2 d2 u3 d3 : Int} (h1 : 0 < d1) (h2 : 0 < d2) (h3 : 0 < d3) (h : More u1 d1 u2 d2) (k : ¬ More u3 d3 u2 d2) : ¬ More u3 d3 u1 d1 := by
  unfold More at *
  intro e
  -- u2/d2 < u1/d1, u3/d3 ≤ u2/d2, u1/d1 < u3/d3
  have a : u2 * d1 * d3 < u1 * d2 * d3 := Int.mul_lt_mul_of_pos_right h h3
  have b : u3 * d2 * d1 ≤ u2 * d3 * d1 := Int.mul_le_mul_of_nonneg_right (by omega) (by omega)
  have c : u1 * d3 * d2 < u3 * d1 * d2 := Int.mul_lt_mul_of_pos_right e h2
  have e1 : u2 * d1 * d3 = u2 * d3 * d1 := by grind
  have e2 : u1 * d2 * d3 = u1 * d3 * d2 := by grind
  have e3 : u3 * d2 * d1 = u3 * d1 * d2 := by grind
  omega
theorem more_eq_trans {u1 d1 u2 d2 u3 d3 : Int} (h1 : 0 < d1) (h2 : 0 < d2) (h3 : 0 < d3) (h : More u1 d1 u2 d2) (k : u3 * d1 = u1 * d3) : More u3 d3 u2 d2 := by
  unfold More at *
  refine mul_pos_cancel (d := d1) h1 ?_
  have a : u2 * d1 * d3 < u1 * d2 * d3 := Int.mul_lt_mul_of_pos_right h h3
  have e1 : u2 * d3 * d1 = u2 * d1 * d3 := by grind
  have e2 : u3 * d2 * d1 = u1 * d2 * d3 := by grind
  omega
theorem more_of_more {u1 d1 u2 d2 u3 d3 : Int} (h1 : 0 < d1) (h2 : 0 < d2) (h3 : 0 < d3) (h : More u1 d1 u2 d2) (k : More u2 d2 u3 d3) : More u1 d1 u3 d3 := by
  unfold More at *
  refine mul_pos_cancel (d := d2) h2 ?_
  have a : u2 * d1 * d3 < u1 * d2 * d3 := Int.mul_lt_mul_of_pos_right h h3
  have b : u3 * d2 * d1 < u2 * d3 * d1 := Int.mul_lt_mul_of_pos_right k h1
  have e1 : u3 * d1 * d2 = u3 * d2 * d1 := by grind
  have e2 : u1 * d3 * d2 = u1 * d2 * d3 := by grind
  have e3 : u2 * d1 * d3 = u2 * d3 * d1 := by grind
  omega
theorem eq_trans_fr {u1 d1 u2 d2 u3 d3 : Int} (h2 : 0 < d2) (h : u1 * d2 = u2 * d1) (k : u2 * d3 = u3 * d2) : u1 * d3 = u3 * d1 := by
  have e : (u1 * d3) * d2 = (u3 * d1) * d2 := by grind
  exact Int.eq_of_mul_eq_mul_right (by omega) e
theorem fr_swap {uc dc uq dq dx : Int} (h : uc * dq = uq * dc) : uq * dx * dc = uc * dx * dq := by grind
theorem fr_turn (a b c : Int) : a * b * c = a * c * b := by grind
theorem not_more_eq {u1 d1 u2 d2 : Int} (h : ¬ More u1 d1 u2 d2) (k : ¬ More u2 d2 u1 d1) : u1 * d2 = u2 * d1 := by
  unfold More at *
  omega

section
variable (ss : List Sm) (least f : Nat)
def OkC (c : Int) : Prop := least ≤ (lowS f c ss).length ∧ least ≤ (highS f c ss).length
def upC (c : Int) : Int := upOf (lowS f c ss) (highS f c ss)
def dnC (c : Int) : Int := dnOf (lowS f c ss) (highS f c ss)
def atC (c : Int) : Bs := ⟨f, c, upC ss f c, dnC ss f c⟩
/-- what comes of the cuts C, from st -/
def Pk (C : Int → Prop) (st st' : Bs) : Prop :=
  (st' = st ∧ ∀ c, C c → OkC ss least f c → ¬ More (upC ss f c) (dnC ss f c) st.up st.dn) ∨
  ∃ c, C c ∧ OkC ss least f c ∧ st' = atC ss f c ∧ More (upC ss f c) (dnC ss f c) st.up st.dn ∧
    ∀ c', C c' → OkC ss least f c' → ¬ More (upC ss f c') (dnC ss f c') (upC ss f c) (dnC ss f c) ∧ (upC ss f c' * dnC ss f c = upC ss f c * dnC ss f c' → c ≤ c')
end
section
variable {ss : List Sm} {least f : Nat}
theorem OkC.dn {c : Int} (hl : 1 ≤ least) (h : OkC ss least f c) : 0 < dnC ss f c := by
  unfold OkC at h
  unfold dnC dnOf
  exact Int.mul_pos (by omega) (by omega)
theorem Pk.one {C : Int → Prop} {st a b : Bs} (h : Pk ss least f C st a) (k : Pk ss least f C st b) : a = b := by
  rcases h with ⟨rfl, h⟩ | ⟨c, hc, ho, rfl, hm, hb⟩
  · rcases k with ⟨rfl, k⟩ | ⟨c, hc, ho, rfl, hm, hb⟩
    · rfl
    · exact absurd hm (h c hc ho)
  · rcases k with ⟨rfl, k⟩ | ⟨c', hc', ho', rfl, hm', hb'⟩
    · exact absurd hm (k c hc ho)
    · obtain ⟨n1, e1⟩ := hb c' hc' ho'
      obtain ⟨n2, e2⟩ := hb' c hc ho
      have e := not_more_eq n1 n2
      have h1 := e1 e
      have h2 := e2 e.symm
      obtain rfl : c = c' := by omega
      rfl
theorem Pk.congr {C D : Int → Prop} {st a : Bs} (h : Pk ss least f C st a) (hCD : ∀ c, OkC ss least f c → (C c ↔ D c)) : Pk ss least f D st a := by
  rcases h with ⟨rfl, h⟩ | ⟨c, hc, ho, rfl, hm, hb⟩
  · exact .inl ⟨rfl, fun c hd ho => h c ((hCD c ho).2 hd) ho⟩
  · exact .inr ⟨c, (hCD c ho).1 hc, ho, rfl, hm, fun c' hd ho' => hb c' ((hCD c' ho').2 hd) ho'⟩
theorem Pk.none_ (st : Bs) : Pk ss least f (fun _ => False) st st := .inl ⟨rfl, fun _ h => h.elim⟩
theorem Pk.skip {C : Int → Prop} {st a : Bs} {c : Int} (h : Pk ss least f C st a) (ho : ¬ OkC ss least f c) : Pk ss least f (fun x => C x ∨ x = c) st a :=
  h.congr fun x hx => ⟨.inl, fun h => h.resolve_right fun e => ho (e ▸ hx)⟩
/-- the better one is taken; of equal ones only one with a lower cut -/
theorem Pk.take_ {C : Int → Prop} {st a : Bs} {c : Int} (hl : 1 ≤ least) (hd : 0 < st.dn) (h : Pk ss least f C st a) (ho : OkC ss least f c) (hm : More (upC ss f c) (dnC ss f c) a.up a.dn) : Pk ss least f (fun x => C x ∨ x = c) st (atC ss f c) := by
  have hc0 := ho.dn hl
  rcases h with ⟨rfl, h⟩ | ⟨q, hq, hoq, rfl, hmq, hb⟩
  · refine .inr ⟨c, .inr rfl, ho, rfl, hm, fun c' hc' ho' => ?_⟩
    rcases hc' with hc' | rfl
    · have hn := h c' hc' ho'
      refine ⟨more_le_trans hc0 hd (ho'.dn hl) hm hn, fun e => ?_⟩
      exact absurd (more_eq_trans hc0 hd (ho'.dn hl) hm e) hn
    · exact ⟨fun e => by unfold More at e; omega, fun _ => Int.le_refl _⟩
  · have hq0 := hoq.dn hl
    refine .inr ⟨c, .inr rfl, ho, rfl, more_of_more hc0 hq0 hd hm hmq, fun c' hc' ho' => ?_⟩
    rcases hc' with hc' | rfl
    · have hn := (hb c' hc' ho').1
      refine ⟨more_le_trans hc0 hq0 (ho'.dn hl) hm hn, fun e => ?_⟩
      exact absurd (more_eq_trans hc0 hq0 (ho'.dn hl) hm e) hn
    · exact ⟨fun e => by unfold More at e; omega, fun _ => Int.le_refl _⟩
/-- of equal ones the one with the lower cut is taken -/
theorem Pk.lower {C : Int → Prop} {st a : Bs} {c : Int} (hl : 1 ≤ least) (hd : 0 < st.dn) (h : Pk ss least f C st a) (ho : OkC ss least f c) (haf : a.f = f) (hst : st.f ≠ f) (he : upC ss f c * a.dn = a.up * dnC ss f c) (hc : c < a.c) : Pk ss least f (fun x => C x ∨ x = c) st (atC ss f c) := by
  have hc0 := ho.dn hl
  rcases h with ⟨rfl, h⟩ | ⟨q, hq, hoq, rfl, hmq, hb⟩
  · exact absurd haf hst
  · have hq0 := hoq.dn hl
    have he' : upC ss f c * dnC ss f q = upC ss f q * dnC ss f c := he
    have hcq : c < q := hc
    refine .inr ⟨c, .inr rfl, ho, rfl, more_eq_trans hq0 hd hc0 hmq he', fun c' hc' ho' => ?_⟩
    rcases hc' with hc' | rfl
    · obtain ⟨hn, hle⟩ := hb c' hc' ho'
      have h0' := ho'.dn hl
      refine ⟨fun e => hn ?_, fun e => ?_⟩
      · unfold More at e ⊢
        refine mul_pos_cancel (d := dnC ss f c) hc0 ?_
        have a1 : upC ss f c * dnC ss f c' * dnC ss f q < upC ss f c' * dnC ss f c * dnC ss f q := Int.mul_lt_mul_of_pos_right e hq0
        have a2 : upC ss f q * dnC ss f c' * dnC ss f c = upC ss f c * dnC ss f c' * dnC ss f q := fr_swap he'
        have a3 : upC ss f c' * dnC ss f q * dnC ss f c = upC ss f c' * dnC ss f c * dnC ss f q := fr_turn _ _ _
        omega
      have := hle (eq_trans_fr hc0 e he')
      omega
    · exact ⟨fun e => by unfold More at e; omega, fun _ => Int.le_refl _⟩
/-- one that is no better stays away; an equal one, if its cut is not lower -/
theorem Pk.stay {C : Int → Prop} {st a : Bs} {c : Int} (hl : 1 ≤ least) (h : Pk ss least f C st a) (ho : OkC ss least f c) (hm : ¬ More (upC ss f c) (dnC ss f c) a.up a.dn) (he : a.f = f → upC ss f c * a.dn = a.up * dnC ss f c → a.c ≤ c) : Pk ss least f (fun x => C x ∨ x = c) st a := by
  rcases h with ⟨rfl, h⟩ | ⟨q, hq, hoq, rfl, hmq, hb⟩
  · refine .inl ⟨rfl, fun x hx ho' => ?_⟩
    rcases hx with hx | rfl
    · exact h x hx ho'
    · exact hm
  · refine .inr ⟨q, .inl hq, hoq, rfl, hmq, fun x hx ho' => ?_⟩
    rcases hx with hx | rfl
    · exact hb x hx ho'
    · exact ⟨hm, fun e => he rfl e⟩
theorem stepB_ok {st : Bs} {c : Int} (ho : OkC ss least f c) : stepB ss least f st c = if st.up * dnC ss f c < upC ss f c * st.dn then atC ss f c else st := by
  unfold stepB tryB
  unfold OkC at ho
  rw [if_neg (by omega), if_neg (by omega)]
  rfl
theorem stepB_no {st : Bs} {c : Int} (ho : ¬ OkC ss least f c) : stepB ss least f st c = st := by
  unfold stepB tryB
  unfold OkC at ho
  split
  · rfl
  split
  · rfl
  · omega
/-- from the lowest cut on, only what is better is taken -/
theorem pk_rise (hl : 1 ≤ least) {st : Bs} (hd : 0 < st.dn) (hst : st.f ≠ f) : ∀ (cs : List Int) (C : Int → Prop) (a : Bs), Pk ss least f C st a → cs.Pairwise (· < ·) → (∀ c ∈ cs, ∀ x, C x → x < c) → Pk ss least f (fun x => C x ∨ x ∈ cs) st (cs.foldl (stepB ss least f) a) := by
  intro cs
  induction cs with
  | nil => intro C a h _ _; exact h.congr fun c _ => ⟨.inl, fun h => h.resolve_right (by simp)⟩
  | cons c r ih =>
    intro C a h hp hC
    rw [List.pairwise_cons] at hp
    have key : Pk ss least f (fun x => C x ∨ x = c) st (stepB ss least f a c) := by
      by_cases ho : OkC ss least f c
      · rw [stepB_ok ho]
        split
        · rename_i hm; exact h.take_ hl hd ho hm
        · rename_i hm
          refine h.stay hl ho hm fun haf _ => ?_
          rcases h with ⟨rfl, _⟩ | ⟨q, hq, _, rfl, _⟩
          · exact absurd haf hst
          · have := hC c (List.mem_cons_self ..) q hq
            show q ≤ c
            omega
      · rw [stepB_no ho]; exact h.skip ho
    have := ih (fun x => C x ∨ x = c) _ key hp.2 (fun x hx y hy => by
      rcases hy with hy | rfl
      · exact hC x (List.mem_cons_of_mem _ hx) y hy
      · exact hp.1 x hx)
    exact this.congr fun x _ => by simp [or_assoc]
theorem cells_at (ss : List Sm) (f : Nat) (c : Int) : c ∈ ss.map (cellS f) ↔ ∃ s ∈ ss, cellS f s = c := by simp [List.mem_map]
/-- the lowest of all cuts leaves none below -/
theorem cutsF_ok (hl : 1 ≤ least) {c : Int} (ho : OkC ss least f c) : c ∈ cutsF ss f ↔ c ∈ ss.map (cellS f) := by
  have hs := compactL_sorted (sortL_sorted (ss.map (cellS f)))
  have hmem : c ∈ compactL (sortL (ss.map (cellS f))) ↔ c ∈ ss.map (cellS f) := by rw [hs.2, (sortL_perm _).mem_iff]
  rw [← hmem]
  unfold cutsF
  have hall : ∀ x, x ∈ compactL (sortL (ss.map (cellS f))) ↔ x ∈ ss.map (cellS f) := fun x => by rw [hs.2, (sortL_perm _).mem_iff]
  cases hL : compactL (sortL (ss.map (cellS f))) with
  | nil => simp
  | cons y r =>
    rw [hL] at hs hall
    simp only [List.drop_one, List.tail_cons, List.mem_cons]
    refine ⟨.inr, fun h => h.resolve_left ?_⟩
    rintro rfl
    have hpw := (List.pairwise_cons.1 hs.1).1
    have h1 := ho.1
    obtain ⟨s, hsl⟩ : ∃ s, s ∈ lowS f c ss := by
      cases hz : lowS f c ss with
      | nil => rw [hz] at h1; simp at h1; omega
      | cons s q => exact ⟨s, List.mem_cons_self ..⟩
    obtain ⟨hm, hlt⟩ := lowS_mem hsl
    have := (hall (cellS f s)).2 (List.mem_map_of_mem hm)
    rcases List.mem_cons.1 this with e | e
    · omega
    · have := hpw _ e; omega
theorem bestF_pk (hl : 1 ≤ least) {st : Bs} (hd : 0 < st.dn) (hst : st.f ≠ f) : Pk ss least f (fun c => c ∈ ss.map (cellS f)) st (bestF ss least st f) := by
  have hs := compactL_sorted (sortL_sorted (ss.map (cellS f)))
  have := pk_rise (ss := ss) (f := f) hl hd hst (cutsF ss f) (fun _ => False) st (Pk.none_ st) (hs.1.sublist (List.drop_sublist _ _)) (fun _ _ _ h => h.elim)
  exact this.congr fun c ho => by simp only [false_or]; exact cutsF_ok hl ho
/-- the document's way: in whatever order the samples stand -/
def rstepB (ss : List Sm) (least f : Nat) (st : Bs) (s : Sm) : Bs :=
  if (lowS f (cellS f s) ss).length < least then st else if (highS f (cellS f s) ss).length < least then st else
  if st.up * dnC ss f (cellS f s) < upC ss f (cellS f s) * st.dn then atC ss f (cellS f s) else if 0 ≤ st.f ∧ upC ss f (cellS f s) * st.dn = st.up * dnC ss f (cellS f s) ∧ st.f = f ∧ cellS f s < st.c then atC ss f (cellS f s) else st
theorem pk_ref (hl : 1 ≤ least) {st : Bs} (hd : 0 < st.dn) (hst : st.f ≠ f) : ∀ (l : List Sm) (C : Int → Prop) (a : Bs), Pk ss least f C st a → Pk ss least f (fun x => C x ∨ x ∈ l.map (cellS f)) st (l.foldl (rstepB ss least f) a) := by
  intro l
  induction l with
  | nil => intro C a h; exact h.congr fun c _ => ⟨.inl, fun h => h.resolve_right (by simp)⟩
  | cons s r ih =>
    intro C a h
    have key : Pk ss least f (fun x => C x ∨ x = cellS f s) st (rstepB ss least f a s) := by
      unfold rstepB
      by_cases ho : OkC ss least f (cellS f s)
      · have ho' := ho
        unfold OkC at ho'
        rw [if_neg (by omega), if_neg (by omega)]
        split
        · rename_i hm; exact h.take_ hl hd ho hm
        · rename_i hm
          split
          · rename_i he; exact h.lower hl hd ho he.2.2.1 hst he.2.1 he.2.2.2
          · rename_i he
            refine h.stay hl ho hm fun haf heq => ?_
            rcases Int.lt_or_le (cellS f s) a.c with hlt | hle
            · exact absurd ⟨by omega, heq, haf, hlt⟩ he
            · exact hle
      · unfold OkC at ho
        split
        · exact h.skip ho
        split
        · exact h.skip ho
        · exact absurd ⟨by omega, by omega⟩ ho
    have := ih _ _ key
    exact this.congr fun x _ => by simp [or_assoc]
def rbestF (ss : List Sm) (least : Nat) (st : Bs) (f : Nat) : Bs := ss.foldl (rstepB ss least f) st
theorem rbestF_eq (hl : 1 ≤ least) {st : Bs} (hd : 0 < st.dn) (hst : st.f ≠ f) : rbestF ss least st f = bestF ss least st f := by
  have h1 := pk_ref (ss := ss) (f := f) hl hd hst ss (fun _ => False) st (Pk.none_ st)
  have h2 := h1.congr (D := fun c => c ∈ ss.map (cellS f)) fun c _ => by simp
  exact h2.one (bestF_pk hl hd hst)
end
theorem bestF_f {ss : List Sm} {n least f : Nat} {st : Bs} (hl : 1 ≤ least) (hd : 0 < st.dn) (hst : st.f < f) : (bestF ss least st f).f < (f + 1 : Int) ∧ 0 < (bestF ss least st f).dn := by
  rcases bestF_pk (ss := ss) (f := f) hl hd (by omega) with ⟨e, _⟩ | ⟨c, _, ho, e, _⟩
  · rw [e]; exact ⟨by omega, hd⟩
  · rw [e]; exact ⟨by show (f : Int) < f + 1; omega, ho.dn hl⟩
theorem rbestB_eq {ss : List Sm} {n least : Nat} (hs : SRight ss n) (hl : 1 ≤ least) : ∀ k, k ≤ n → (List.range k).foldl (rbestF ss least) (startB ss) = (List.range k).foldl (bestF ss least) (startB ss) ∧
    ((List.range k).foldl (bestF ss least) (startB ss)).f < k ∧ 0 < ((List.range k).foldl (bestF ss least) (startB ss)).dn := by
  intro k
  induction k with
  | zero => intro _; exact ⟨rfl, by show (-1 : Int) < ((0 : Nat) : Int); omega, by show (0 : Int) < (ss.length : Int); have := hs.pos; omega⟩
  | succ k ih =>
    intro hk
    obtain ⟨e, h1, h2⟩ := ih (by omega)
    rw [List.range_succ, List.foldl_append, List.foldl_append, e]
    have hb := bestF_f (ss := ss) (n := n) hl h2 h1
    refine ⟨?_, ?_, hb.2⟩
    · show rbestF ss least _ k = bestF ss least _ k
      exact rbestF_eq hl h2 (by omega)
    · show (bestF ss least _ k).f < ((k + 1 : Nat) : Int)
      have := hb.1
      omega
end Go.Proofs.Ytdpijhnbhopnbaa
/- Package boost in plain words: what is left, tree behind tree. Conditions: none. -/
namespace Go.Proofs.Ytdpijhnbhopnbaa
set_option linter.unusedVariables false
set_option linter.unusedSimpArgs false
open Go.RowKit

/-- a grown tree is right -/
theorem growK_asks {n least : Nat} (hl : 1 ≤ least) : ∀ (d : Nat) (ss : List Sm), SRight ss n → (growK n least d ss).Fit n ∧ (growK n least d ss).deep ≤ d := by
  have hleaf : ∀ ss : List Sm, SRight ss n → (Kt.leaf (leafG ss)).Fit n := fun ss hs => by
    have h := leaf_v hs
    refine ⟨fun y hy => by simp [Kt.asks] at hy, fun y hy => ?_⟩
    simp [Kt.leaves] at hy
    subst hy
    exact ⟨rfl, by omega, by omega, rfl, rfl, rfl, rfl⟩
  intro d
  induction d with
  | zero => intro ss hs; exact ⟨hleaf ss hs, Nat.le_refl _⟩
  | succ d ih =>
    intro ss hs
    have hB := bestB_ok hs hl
    simp only [growK]
    by_cases h : (bestB ss n least).f < 0
    · rw [if_pos h]; exact ⟨hleaf ss hs, Nat.zero_le _⟩
    · rw [if_neg h]
      obtain ⟨_, _, _, _, h5, h6, h7, h8, hz⟩ := hB
      rcases hz with hz | ⟨h1, h2⟩
      · exact absurd hz h
      obtain ⟨a1, a2⟩ := ih _ (hs.low (f := (bestB ss n least).f.toNat) (c := (bestB ss n least).c) (by omega))
      obtain ⟨b1, b2⟩ := ih _ (hs.high (f := (bestB ss n least).f.toNat) (c := (bestB ss n least).c) (by omega))
      refine ⟨⟨fun y hy => ?_, fun y hy => ?_⟩, ?_⟩
      · simp only [Kt.asks, List.mem_cons, List.mem_append] at hy
        rcases hy with rfl | hy | hy
        · exact ⟨by dsimp only; omega, by dsimp only; omega, h6, h7, h8, rfl⟩
        · exact a1.1 y hy
        · exact b1.1 y hy
      · simp only [Kt.leaves, List.mem_append] at hy
        rcases hy with hy | hy
        · exact a1.2 y hy
        · exact b1.2 y hy
      · simp only [Kt.deep]; omega
theorem growK_right {n least d : Nat} {ss : List Sm} (hl : 1 ≤ least) (hs : SRight ss n) (hd : d ≤ 5) : Right (layK 0 (growK n least d ss)) n := by
  obtain ⟨h1, h2⟩ := growK_asks hl d ss hs
  refine right_lay h1 (by omega) (by have := hs.fe8; omega) ?_ (by omega)
  have := growK_size n least d ss
  have hp : 2 ^ (d + 1) ≤ 2 ^ 6 := Nat.pow_le_pow_right (by omega) (by omega)
  omega

/-- a tree with other values at its leaves -/
def reV (f : Int → Int) (x : Nd) : Nd := ⟨x.f, x.c, x.l, x.r, x.less, f x.v⟩
theorem ups_re (f : Int → Int) : ∀ (t : List Nd) (j : Nat), ups (t.map (reV f)) j = ups t j := by
  intro t
  induction t with
  | nil => intro j; rfl
  | cons n r ih => intro j; simp only [List.map_cons, ups, ih]; rfl
theorem deps_re (f : Int → Int) : ∀ (t : List Nd) (i : Nat), deps i (t.map (reV f)) = deps i t := by
  intro t
  induction t with
  | nil => intro i; rfl
  | cons n r ih => intro i; simp only [List.map_cons, deps, ih, reV]
theorem Right.re {t : List Nd} {fe : Int} {f : Int → Int} (h : Right t fe) (h0 : f 0 = 0) (h1 : ∀ y ∈ t, -1000000 ≤ f y.v ∧ f y.v ≤ 1000000) : Right (t.map (reV f)) fe := by
  refine ⟨by rw [List.length_map]; exact h.pos, by rw [List.length_map]; exact h.most, h.fe0, h.fe8, ?_, ?_, by unfold dep; rw [deps_re]; exact h.deep⟩
  · intro i n hi
    rw [List.getElem?_map] at hi
    obtain ⟨m, hm, rfl⟩ := Option.map_eq_some_iff.1 hi
    rw [List.length_map]
    have hv := h1 m (List.mem_of_getElem? hm)
    rcases node_of (h.node i m hm) with ⟨hf, _, _, hc, hl, hr, hs⟩ | ⟨b1, b2, b3, b4, b5, b6, b7, b8, b9, b10⟩
    · unfold nodeE reV
      dsimp only
      rw [if_pos hf, if_neg (by omega), if_neg (by omega), if_neg (by omega), if_neg (by omega), if_neg (by omega), if_neg (by simp [hs])]
    · unfold nodeE reV
      dsimp only
      rw [if_neg (by omega), if_neg (by omega), if_neg (by omega), if_neg (by omega), if_neg (by omega), if_neg (by omega), if_neg (by omega), if_neg (by omega), if_neg (by omega), if_neg (by rw [b9, h0]; omega), if_neg b10]
  · intro i h3 h4
    rw [List.length_map] at h4
    rw [ups_re]
    exact h.one i h3 h4
theorem leafFrom_re (f : Int → Int) (t : List Nd) (r : List Int) : ∀ k i, leafFrom (t.map (reV f)) r k i = leafFrom t r k i := by
  intro k
  induction k with
  | zero => intro i; rfl
  | succ k ih =>
    intro i
    cases h : t[i]? with
    | none => simp only [leafFrom, List.getElem?_map, h]; rfl
    | some x =>
      simp only [leafFrom, List.getElem?_map, h, Option.map_some]
      by_cases hf : x.f = -1
      · rw [if_pos hf, if_pos (show (reV f x).f = -1 from hf)]
      · rw [if_neg hf, if_neg (show ¬ (reV f x).f = -1 from hf), ih]
        rfl

def clipT (r : Int) : Int := min 1000 (max (-1000) r)
def capV (v : Int) : Int := min 1000000 (max (-1000000) v)
theorem clipT_in (r : Int) : -1000 ≤ clipT r ∧ clipT r ≤ 1000 := by unfold clipT; omega
theorem capV_in (r : Int) : -1000000 ≤ capV r ∧ capV r ≤ 1000000 := by unfold capV; omega
/-- the samples with what is left -/
def setT (s : Sm) (r : Int) : Sm := ⟨s.A, s.n, s.c, s.r, clipT r⟩
def reS (rest : List Int) (ss : List Sm) : List Sm := List.zipWith (fun r s => setT s r) rest ss
def lessV (rest : List Int) (t : List Nd) (ss : List Sm) : List Int := List.zipWith (fun r s => r - valAt t (leafOf t s.r)) rest ss
def shareV (part v : Int) : Int := (v * part).tdiv 100
def shareT (part : Int) (t : List Nd) : List Nd := t.map (reV (shareV part))
def squaresV (l : List Int) : Int := l.foldl (fun n x => addV n (mulV x x)) 0
theorem squaresV_next {l : List Int} {k : Nat} {x : Int} (h : l[k]? = some x) : squaresV (l.take (k + 1)) = addV (squaresV (l.take k)) (mulV x x) := by
  unfold squaresV
  rw [take_next h, List.foldl_append]
  rfl
/-- the tree of a round -/
def roundT (ss : List Sm) (n depth : Nat) (part : Int) (rest : List Int) : List Nd := shareT part (layK 0 (growK n 1 depth (reS rest ss)))
structure BS where
  rest : List Int
  trees : List (List Nd)
def roundsB (ss : List Sm) (n depth : Nat) (part : Int) : Nat → BS → BS
  | 0, b => b
  | k + 1, b =>
    if squaresV b.rest ≤ squaresV (lessV b.rest (roundT ss n depth part b.rest) ss) then b
    else roundsB ss n depth part k ⟨lessV b.rest (roundT ss n depth part b.rest) ss, b.trees ++ [roundT ss n depth part b.rest]⟩
def firstT (ss : List Sm) : List Nd := [leafG ss]
def startBS (ss : List Sm) : BS := ⟨lessV (ss.map (·.t)) (firstT ss) ss, [firstT ss]⟩
def endT (m : Nat) (t : List Nd) : List Nd := t.map (reV fun v => capV (v * (m : Int)))
def boostTrees (ss : List Sm) (n rounds depth : Nat) (part : Int) : List (List Nd) :=
  (roundsB ss n depth part rounds (startBS ss)).trees.map (endT (roundsB ss n depth part rounds (startBS ss)).trees.length)
def boostE (ss : List Sm) (fe rounds depth part : Int) : Int :=
  if sampE ss fe = 0 then (if rounds < 0 ∨ 8 < rounds ∨ depth < 1 ∨ 4 < depth ∨ part < 1 ∨ 100 < part then 1 else 0) else sampE ss fe

theorem shareV_in {part v : Int} (h1 : 1 ≤ part) (h2 : part ≤ 100) (hv : -1000 ≤ v ∧ v ≤ 1000) : -1000 ≤ shareV part v ∧ shareV part v ≤ 1000 := by
  unfold shareV
  have a : v * part ≤ 1000 * 100 := by
    rcases Int.le_total 0 v with h | h
    · exact Int.mul_le_mul hv.2 h2 (by omega) (by omega)
    · have := Int.mul_nonneg (show 0 ≤ -v by omega) (show 0 ≤ part by omega)
      rw [Int.neg_mul] at this; omega
  have b : -(1000 * 100) ≤ v * part := by
    rcases Int.le_total 0 v with h | h
    · have := Int.mul_nonneg h (show 0 ≤ part by omega); omega
    · have := Int.mul_le_mul (show -v ≤ 1000 by omega) h2 (by omega) (by omega)
      rw [Int.neg_mul] at this; omega
  have hp := tdiv_parts (v * part) 100 (by omega)
  omega
theorem SRight.re {ss : List Sm} {n : Nat} {rest : List Int} (hs : SRight ss n) (hl : rest.length = ss.length) : SRight (reS rest ss) n := by
  have hlen : (reS rest ss).length = ss.length := by unfold reS; rw [List.length_zipWith, hl, Nat.min_self]
  have hm : ∀ s ∈ reS rest ss, ∃ x ∈ ss, ∃ r, s = setT x r := fun s hsm => by
    obtain ⟨i, hi⟩ := List.mem_iff_getElem?.1 hsm
    unfold reS at hi
    rw [List.getElem?_zipWith] at hi
    cases h1 : rest[i]? with
    | none => rw [h1] at hi; simp at hi
    | some r =>
      cases h2 : ss[i]? with
      | none => rw [h1, h2] at hi; simp at hi
      | some x =>
        rw [h1, h2] at hi
        simp at hi
        exact ⟨x, List.mem_of_getElem? h2, r, hi.symm⟩
  refine ⟨by rw [hlen]; exact hs.pos, by rw [hlen]; exact hs.most, hs.fe8, fun s h => ?_, fun s h => ?_, fun s h => ?_, fun s h => ?_⟩
  all_goals obtain ⟨x, hx, r, rfl⟩ := hm s h
  · exact (clipT_in r).1
  · exact (clipT_in r).2
  · exact hs.len x hx
  · exact hs.cell x hx
theorem lessV_len {rest : List Int} {t : List Nd} {ss : List Sm} (h : rest.length = ss.length) : (lessV rest t ss).length = ss.length := by unfold lessV; rw [List.length_zipWith, h, Nat.min_self]
theorem growK_v0 {n least d : Nat} {ss : List Sm} (hl : 1 ≤ least) (hs : SRight ss n) : ∀ y ∈ layK 0 (growK n least d ss), -1000 ≤ y.v ∧ y.v ≤ 1000 := growK_v hl d ss 0 hs
theorem roundT_right {ss : List Sm} {n depth : Nat} {part : Int} {rest : List Int} (hs : SRight ss n) (hl : rest.length = ss.length) (hd : depth ≤ 5) (h1 : 1 ≤ part) (h2 : part ≤ 100) :
    Right (roundT ss n depth part rest) n ∧ ∀ y ∈ roundT ss n depth part rest, -1000 ≤ y.v ∧ y.v ≤ 1000 := by
  have hs' := hs.re hl
  have hv := growK_v0 (least := 1) (d := depth) (Nat.le_refl _) hs'
  constructor
  · exact (growK_right (Nat.le_refl _) hs' hd).re (by unfold shareV; simp) fun y hy => by have := shareV_in h1 h2 (hv y hy); omega
  · intro y hy
    unfold roundT shareT at hy
    obtain ⟨x, hx, rfl⟩ := List.mem_map.1 hy
    exact shareV_in h1 h2 (hv x hx)
theorem firstT_right {ss : List Sm} {n : Nat} (hs : SRight ss n) : Right (firstT ss) n ∧ ∀ y ∈ firstT ss, -1000 ≤ y.v ∧ y.v ≤ 1000 := by
  have := growK_right (n := n) (least := 1) (d := 0) (Nat.le_refl _) hs (by omega)
  exact ⟨this, growK_v0 (least := 1) (d := 0) (n := n) (Nat.le_refl _) hs⟩
end Go.Proofs.Ytdpijhnbhopnbaa
