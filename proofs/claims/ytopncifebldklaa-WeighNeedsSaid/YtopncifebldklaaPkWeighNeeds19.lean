/- Part 19 of what LawWeighNeeds needs: GrowR, RefRow, GrowRef, GrowRef2, RefTree, RefLeaf, CutBin, Steps, RefValue. Conditions: as each lemma names. -/
import Derived.Test.YtopncifebldklaaPkWeighNeeds16
import Derived.Test.YtopncifebldklaaPkWeighNeeds02
import Derived.Test.YtopncifebldklaaPkWeighNeeds03
import Derived.BigGuardPart
import Derived.Test.YtopncifebldklaaPkWeighNeeds09
import Derived.Test.YtopncifebldklaaPkWeighNeeds17
import Derived.Test.YtopncifebldklaaPkWeighNeeds14
/- Package grow in plain words: the best question is the best of all, by whatever order they are looked at. Conditions: none. -/
namespace Go.Proofs.Ytopncifebldklaa
set_option linter.unusedVariables false
set_option linter.unusedSimpArgs false
open Go.RowKit

theorem mul_pos_cancel {a b d : Int} (hd : 0 < d) (h : a * d < b * d) : a < b := by
  rcases Int.lt_or_le a b with h' | h'
  · exact h'
  · have := Int.mul_le_mul_of_nonneg_right h' (Int.le_of_lt hd); omega
theorem mul_pos_cancel_le {a b d : Int} (hd : 0 < d) (h : a * d ≤ b * d) : a ≤ b := by
  rcases Int.lt_or_le b a with h' | h'
  · have := Int.mul_lt_mul_of_pos_right h' hd; omega
  · exact h'
/-- a fraction is more than another one -/
def More (u1 d1 u2 d2 : Int) : Prop := u2 * d1 < u1 * d2
theorem more_le_trans {u1 d1 u2 d2 u3 d3 : Int} (h1 : 0 < d1) (h2 : 0 < d2) (h3 : 0 < d3) (h : More u1 d1 u2 d2) (k : ¬ More u3 d3 u2 d2) : ¬ More u3 d3 u1 d1 := by
  unfold More at *
  intro e
  -- u2/d2 < u1/d1, u3/d3 ≤ u2/d2, u1/d1 < u3/d3
  have a : u2 * d1 * d3 < u1 * d2 * d3 := Int.mul_lt_mul_of_pos_right h h3
  have b : u3 * d2 * d1 ≤ u2 * d3 * d1 := Int.mul_le_mul_of_nonneg_right (by omega) (by omega)
  have c : u1 * d3 * d2 < u3 * d1 * d2 := Int.mul_lt_mul_of_pos_right e h2
  have e1 : u2 * d1 * d3 = u2 * d3 * d1 := by grind
  have e2 : u1 * d2 * d3 = u1 * d3 * d2 := by grind
  have e3 : u3 * d2 * d1 = u3 * d1 * d2 := by grind
  omega
theorem more_eq_trans {u1 d1 u2 d2 u3 d3 : Int} (h1 : 0 < d1) (h2 : 0 < d2) (h3 : 0 < d3) (h : More u1 d1 u2 d2) (k : u3 * d1 = u1 * d3) : More u3 d3 u2 d2 := by
  unfold More at *
  refine mul_pos_cancel (d := d1) h1 ?_
  have a : u2 * d1 * d3 < u1 * d2 * d3 := Int.mul_lt_mul_of_pos_right h h3
  have e1 : u2 * d3 * d1 = u2 * d1 * d3 := by grind
  have e2 : u3 * d2 * d1 = u1 * d2 * d3 := by grind
  omega
theorem more_of_more {u1 d1 u2 d2 u3 d3 : Int} (h1 : 0 < d1) (h2 : 0 < d2) (h3 : 0 < d3) (h : More u1 d1 u2 d2) (k : More u2 d2 u3 d3) : More u1 d1 u3 d3 := by
  unfold More at *
  refine mul_pos_cancel (d := d2) h2 ?_
  have a : u2 * d1 * d3 < u1 * d2 * d3 := Int.mul_lt_mul_of_pos_right h h3
  have b : u3 * d2 * d1 < u2 * d3 * d1 := Int.mul_lt_mul_of_pos_right k h1
  have e1 : u3 * d1 * d2 = u3 * d2 * d1 := by grind
  have e2 : u1 * d3 * d2 = u1 * d2 * d3 := by grind
  have e3 : u2 * d1 * d3 = u2 * d3 * d1 := by grind
  omega
theorem eq_trans_fr {u1 d1 u2 d2 u3 d3 : Int} (h2 : 0 < d2) (h : u1 * d2 = u2 * d1) (k : u2 * d3 = u3 * d2) : u1 * d3 = u3 * d1 := by
  have e : (u1 * d3) * d2 = (u3 * d1) * d2 := by grind
  exact Int.eq_of_mul_eq_mul_right (by omega) e
theorem fr_swap {uc dc uq dq dx : Int} (h : uc * dq = uq * dc) : uq * dx * dc = uc * dx * dq := by grind
theorem fr_turn (a b c : Int) : a * b * c = a * c * b := by grind
theorem not_more_eq {u1 d1 u2 d2 : Int} (h : ¬ More u1 d1 u2 d2) (k : ¬ More u2 d2 u1 d1) : u1 * d2 = u2 * d1 := by
  unfold More at *
  omega

section
variable (ss : List Sm) (least f : Nat)
def OkC (c : Int) : Prop := least ≤ (lowS f c ss).length ∧ least ≤ (highS f c ss).length
def upC (c : Int) : Int := upOf (lowS f c ss) (highS f c ss)
def dnC (c : Int) : Int := dnOf (lowS f c ss) (highS f c ss)
def atC (c : Int) : Bs := ⟨f, c, upC ss f c, dnC ss f c⟩
/-- what comes of the cuts C, from st -/
def Pk (C : Int → Prop) (st st' : Bs) : Prop :=
  (st' = st ∧ ∀ c, C c → OkC ss least f c → ¬ More (upC ss f c) (dnC ss f c) st.up st.dn) ∨
  ∃ c, C c ∧ OkC ss least f c ∧ st' = atC ss f c ∧ More (upC ss f c) (dnC ss f c) st.up st.dn ∧
    ∀ c', C c' → OkC ss least f c' → ¬ More (upC ss f c') (dnC ss f c') (upC ss f c) (dnC ss f c) ∧ (upC ss f c' * dnC ss f c = upC ss f c * dnC ss f c' → c ≤ c')
end
section
variable {ss : List Sm} {least f : Nat}
theorem OkC.dn {c : Int} (hl : 1 ≤ least) (h : OkC ss least f c) : 0 < dnC ss f c := by
  unfold OkC at h
  unfold dnC dnOf
  exact Int.mul_pos (by omega) (by omega)
theorem Pk.one {C : Int → Prop} {st a b : Bs} (h : Pk ss least f C st a) (k : Pk ss least f C st b) : a = b := by
  rcases h with ⟨rfl, h⟩ | ⟨c, hc, ho, rfl, hm, hb⟩
  · rcases k with ⟨rfl, k⟩ | ⟨c, hc, ho, rfl, hm, hb⟩
    · rfl
    · exact absurd hm (h c hc ho)
  · rcases k with ⟨rfl, k⟩ | ⟨c', hc', ho', rfl, hm', hb'⟩
    · exact absurd hm (k c hc ho)
    · obtain ⟨n1, e1⟩ := hb c' hc' ho'
      obtain ⟨n2, e2⟩ := hb' c hc ho
      have e := not_more_eq n1 n2
      have h1 := e1 e
      have h2 := e2 e.symm
      obtain rfl : c = c' := by omega
      rfl
theorem Pk.congr {C D : Int → Prop} {st a : Bs} (h : Pk ss least f C st a) (hCD : ∀ c, OkC ss least f c → (C c ↔ D c)) : Pk ss least f D st a := by
  rcases h with ⟨rfl, h⟩ | ⟨c, hc, ho, rfl, hm, hb⟩
  · exact .inl ⟨rfl, fun c hd ho => h c ((hCD c ho).2 hd) ho⟩
  · exact .inr ⟨c, (hCD c ho).1 hc, ho, rfl, hm, fun c' hd ho' => hb c' ((hCD c' ho').2 hd) ho'⟩
theorem Pk.none_ (st : Bs) : Pk ss least f (fun _ => False) st st := .inl ⟨rfl, fun _ h => h.elim⟩
theorem Pk.skip {C : Int → Prop} {st a : Bs} {c : Int} (h : Pk ss least f C st a) (ho : ¬ OkC ss least f c) : Pk ss least f (fun x => C x ∨ x = c) st a :=
  h.congr fun x hx => ⟨.inl, fun h => h.resolve_right fun e => ho (e ▸ hx)⟩
/-- the better one is taken; of equal ones only one with a lower cut -/
theorem Pk.take_ {C : Int → Prop} {st a : Bs} {c : Int} (hl : 1 ≤ least) (hd : 0 < st.dn) (h : Pk ss least f C st a) (ho : OkC ss least f c) (hm : More (upC ss f c) (dnC ss f c) a.up a.dn) : Pk ss least f (fun x => C x ∨ x = c) st (atC ss f c) := by
  have hc0 := ho.dn hl
  rcases h with ⟨rfl, h⟩ | ⟨q, hq, hoq, rfl, hmq, hb⟩
  · refine .inr ⟨c, .inr rfl, ho, rfl, hm, fun c' hc' ho' => ?_⟩
    rcases hc' with hc' | rfl
    · have hn := h c' hc' ho'
      refine ⟨more_le_trans hc0 hd (ho'.dn hl) hm hn, fun e => ?_⟩
      exact absurd (more_eq_trans hc0 hd (ho'.dn hl) hm e) hn
    · exact ⟨fun e => by unfold More at e; omega, fun _ => Int.le_refl _⟩
  · have hq0 := hoq.dn hl
    refine .inr ⟨c, .inr rfl, ho, rfl, more_of_more hc0 hq0 hd hm hmq, fun c' hc' ho' => ?_⟩
    rcases hc' with hc' | rfl
    · have hn := (hb c' hc' ho').1
      refine ⟨more_le_trans hc0 hq0 (ho'.dn hl) hm hn, fun e => ?_⟩
      exact absurd (more_eq_trans hc0 hq0 (ho'.dn hl) hm e) hn
    · exact ⟨fun e => by unfold More at e; omega, fun _ => Int.le_refl _⟩
/-- of equal ones the one with the lower cut is taken -/
theorem Pk.lower {C : Int → Prop} {st a : Bs} {c : Int} (hl : 1 ≤ least) (hd : 0 < st.dn) (h : Pk ss least f C st a) (ho : OkC ss least f c) (haf : a.f = f) (hst : st.f ≠ f) (he : upC ss f c * a.dn = a.up * dnC ss f c) (hc : c < a.c) : Pk ss least f (fun x => C x ∨ x = c) st (atC ss f c) := by
  have hc0 := ho.dn hl
  rcases h with ⟨rfl, h⟩ | ⟨q, hq, hoq, rfl, hmq, hb⟩
  · exact absurd haf hst
  · have hq0 := hoq.dn hl
    have he' : upC ss f c * dnC ss f q = upC ss f q * dnC ss f c := he
    have hcq : c < q := hc
    refine .inr ⟨c, .inr rfl, ho, rfl, more_eq_trans hq0 hd hc0 hmq he', fun c' hc' ho' => ?_⟩
    rcases hc' with hc' | rfl
    · obtain ⟨hn, hle⟩ := hb c' hc' ho'
      have h0' := ho'.dn hl
      refine ⟨fun e => hn ?_, fun e => ?_⟩
      · unfold More at e ⊢
        refine mul_pos_cancel (d := dnC ss f c) hc0 ?_
        have a1 : upC ss f c * dnC ss f c' * dnC ss f q < upC ss f c' * dnC ss f c * dnC ss f q := Int.mul_lt_mul_of_pos_right e hq0
        have a2 : upC ss f q * dnC ss f c' * dnC ss f c = upC ss f c * dnC ss f c' * dnC ss f q := fr_swap he'
        have a3 : upC ss f c' * dnC ss f q * dnC ss f c = upC ss f c' * dnC ss f c * dnC ss f q := fr_turn _ _ _
        omega
      have := hle (eq_trans_fr hc0 e he')
      omega
    · exact ⟨fun e => by unfold More at e; omega, fun _ => Int.le_refl _⟩
/-- one that is no better stays away; an equal one, if its cut is not lower -/
theorem Pk.stay {C : Int → Prop} {st a : Bs} {c : Int} (hl : 1 ≤ least) (h : Pk ss least f C st a) (ho : OkC ss least f c) (hm : ¬ More (upC ss f c) (dnC ss f c) a.up a.dn) (he : a.f = f → upC ss f c * a.dn = a.up * dnC ss f c → a.c ≤ c) : Pk ss least f (fun x => C x ∨ x = c) st a := by
  rcases h with ⟨rfl, h⟩ | ⟨q, hq, hoq, rfl, hmq, hb⟩
  · refine .inl ⟨rfl, fun x hx ho' => ?_⟩
    rcases hx with hx | rfl
    · exact h x hx ho'
    · exact hm
  · refine .inr ⟨q, .inl hq, hoq, rfl, hmq, fun x hx ho' => ?_⟩
    rcases hx with hx | rfl
    · exact hb x hx ho'
    · exact ⟨hm, fun e => he rfl e⟩
theorem stepB_ok {st : Bs} {c : Int} (ho : OkC ss least f c) : stepB ss least f st c = if st.up * dnC ss f c < upC ss f c * st.dn then atC ss f c else st := by
  unfold stepB tryB
  unfold OkC at ho
  rw [if_neg (by omega), if_neg (by omega)]
  rfl
theorem stepB_no {st : Bs} {c : Int} (ho : ¬ OkC ss least f c) : stepB ss least f st c = st := by
  unfold stepB tryB
  unfold OkC at ho
  split
  · rfl
  split
  · rfl
  · omega
/-- from the lowest cut on, only what is better is taken -/
theorem pk_rise (hl : 1 ≤ least) {st : Bs} (hd : 0 < st.dn) (hst : st.f ≠ f) : ∀ (cs : List Int) (C : Int → Prop) (a : Bs), Pk ss least f C st a → cs.Pairwise (· < ·) → (∀ c ∈ cs, ∀ x, C x → x < c) → Pk ss least f (fun x => C x ∨ x ∈ cs) st (cs.foldl (stepB ss least f) a) := by
  intro cs
  induction cs with
  | nil => intro C a h _ _; exact h.congr fun c _ => ⟨.inl, fun h => h.resolve_right (by simp)⟩
  | cons c r ih =>
    intro C a h hp hC
    rw [List.pairwise_cons] at hp
    have key : Pk ss least f (fun x => C x ∨ x = c) st (stepB ss least f a c) := by
      by_cases ho : OkC ss least f c
      · rw [stepB_ok ho]
        split
        · rename_i hm; exact h.take_ hl hd ho hm
        · rename_i hm
          refine h.stay hl ho hm fun haf _ => ?_
          rcases h with ⟨rfl, _⟩ | ⟨q, hq, _, rfl, _⟩
          · exact absurd haf hst
          · have := hC c (List.mem_cons_self ..) q hq
            show q ≤ c
            omega
      · rw [stepB_no ho]; exact h.skip ho
    have := ih (fun x => C x ∨ x = c) _ key hp.2 (fun x hx y hy => by
      rcases hy with hy | rfl
      · exact hC x (List.mem_cons_of_mem _ hx) y hy
      · exact hp.1 x hx)
    exact this.congr fun x _ => by simp [or_assoc]
theorem cells_at (ss : List Sm) (f : Nat) (c : Int) : c ∈ ss.map (cellS f) ↔ ∃ s ∈ ss, cellS f s = c := by simp [List.mem_map]
/-- the lowest of all cuts leaves none below -/
theorem cutsF_ok (hl : 1 ≤ least) {c : Int} (ho : OkC ss least f c) : c ∈ cutsF ss f ↔ c ∈ ss.map (cellS f) := by
  have hs := compactL_sorted (sortL_sorted (ss.map (cellS f)))
  have hmem : c ∈ compactL (sortL (ss.map (cellS f))) ↔ c ∈ ss.map (cellS f) := by rw [hs.2, (sortL_perm _).mem_iff]
  rw [← hmem]
  unfold cutsF
  have hall : ∀ x, x ∈ compactL (sortL (ss.map (cellS f))) ↔ x ∈ ss.map (cellS f) := fun x => by rw [hs.2, (sortL_perm _).mem_iff]
  cases hL : compactL (sortL (ss.map (cellS f))) with
  | nil => simp
  | cons y r =>
    rw [hL] at hs hall
    simp only [List.drop_one, List.tail_cons, List.mem_cons]
    refine ⟨.inr, fun h => h.resolve_left ?_⟩
    rintro rfl
    have hpw := (List.pairwise_cons.1 hs.1).1
    have h1 := ho.1
    obtain ⟨s, hsl⟩ : ∃ s, s ∈ lowS f c ss := by
      cases hz : lowS f c ss with
      | nil => rw [hz] at h1; simp at h1; omega
      | cons s q => exact ⟨s, List.mem_cons_self ..⟩
    obtain ⟨hm, hlt⟩ := lowS_mem hsl
    have := (hall (cellS f s)).2 (List.mem_map_of_mem hm)
    rcases List.mem_cons.1 this with e | e
    · omega
    · have := hpw _ e; omega
theorem bestF_pk (hl : 1 ≤ least) {st : Bs} (hd : 0 < st.dn) (hst : st.f ≠ f) : Pk ss least f (fun c => c ∈ ss.map (cellS f)) st (bestF ss least st f) := by
  have hs := compactL_sorted (sortL_sorted (ss.map (cellS f)))
  have := pk_rise (ss := ss) (f := f) hl hd hst (cutsF ss f) (fun _ => False) st (Pk.none_ st) (hs.1.sublist (List.drop_sublist _ _)) (fun _ _ _ h => h.elim)
  exact this.congr fun c ho => by simp only [false_or]; exact cutsF_ok hl ho
/-- the document's way: in whatever order the samples stand -/
def rstepB (ss : List Sm) (least f : Nat) (st : Bs) (s : Sm) : Bs :=
  if (lowS f (cellS f s) ss).length < least then st else if (highS f (cellS f s) ss).length < least then st else
  if st.up * dnC ss f (cellS f s) < upC ss f (cellS f s) * st.dn then atC ss f (cellS f s) else if 0 ≤ st.f ∧ upC ss f (cellS f s) * st.dn = st.up * dnC ss f (cellS f s) ∧ st.f = f ∧ cellS f s < st.c then atC ss f (cellS f s) else st
theorem pk_ref (hl : 1 ≤ least) {st : Bs} (hd : 0 < st.dn) (hst : st.f ≠ f) : ∀ (l : List Sm) (C : Int → Prop) (a : Bs), Pk ss least f C st a → Pk ss least f (fun x => C x ∨ x ∈ l.map (cellS f)) st (l.foldl (rstepB ss least f) a) := by
  intro l
  induction l with
  | nil => intro C a h; exact h.congr fun c _ => ⟨.inl, fun h => h.resolve_right (by simp)⟩
  | cons s r ih =>
    intro C a h
    have key : Pk ss least f (fun x => C x ∨ x = cellS f s) st (rstepB ss least f a s) := by
      unfold rstepB
      by_cases ho : OkC ss least f (cellS f s)
      · have ho' := ho
        unfold OkC at ho'
        rw [if_neg (by omega), if_neg (by omega)]
        split
        · rename_i hm; exact h.take_ hl hd ho hm
        · rename_i hm
          split
          · rename_i he; exact h.lower hl hd ho he.2.2.1 hst he.2.1 he.2.2.2
          · rename_i he
            refine h.stay hl ho hm fun haf heq => ?_
            rcases Int.lt_or_le (cellS f s) a.c with hlt | hle
            · exact absurd ⟨by omega, heq, haf, hlt⟩ he
            · exact hle
      · unfold OkC at ho
        split
        · exact h.skip ho
        split
        · exact h.skip ho
        · exact absurd ⟨by omega, by omega⟩ ho
    have := ih _ _ key
    exact this.congr fun x _ => by simp [or_assoc]
def rbestF (ss : List Sm) (least : Nat) (st : Bs) (f : Nat) : Bs := ss.foldl (rstepB ss least f) st
theorem rbestF_eq (hl : 1 ≤ least) {st : Bs} (hd : 0 < st.dn) (hst : st.f ≠ f) : rbestF ss least st f = bestF ss least st f := by
  have h1 := pk_ref (ss := ss) (f := f) hl hd hst ss (fun _ => False) st (Pk.none_ st)
  have h2 := h1.congr (D := fun c => c ∈ ss.map (cellS f)) fun c _ => by simp
  exact h2.one (bestF_pk hl hd hst)
end
theorem bestF_f {ss : List Sm} {n least f : Nat} {st : Bs} (hl : 1 ≤ least) (hd : 0 < st.dn) (hst : st.f < f) : (bestF ss least st f).f < (f + 1 : Int) ∧ 0 < (bestF ss least st f).dn := by
  rcases bestF_pk (ss := ss) (f := f) hl hd (by omega) with ⟨e, _⟩ | ⟨c, _, ho, e, _⟩
  · rw [e]; exact ⟨by omega, hd⟩
  · rw [e]; exact ⟨by show (f : Int) < f + 1; omega, ho.dn hl⟩
theorem rbestB_eq {ss : List Sm} {n least : Nat} (hs : SRight ss n) (hl : 1 ≤ least) : ∀ k, k ≤ n → (List.range k).foldl (rbestF ss least) (startB ss) = (List.range k).foldl (bestF ss least) (startB ss) ∧
    ((List.range k).foldl (bestF ss least) (startB ss)).f < k ∧ 0 < ((List.range k).foldl (bestF ss least) (startB ss)).dn := by
  intro k
  induction k with
  | zero => intro _; exact ⟨rfl, by show (-1 : Int) < ((0 : Nat) : Int); omega, by show (0 : Int) < (ss.length : Int); have := hs.pos; omega⟩
  | succ k ih =>
    intro hk
    obtain ⟨e, h1, h2⟩ := ih (by omega)
    rw [List.range_succ, List.foldl_append, List.foldl_append, e]
    have hb := bestF_f (ss := ss) (n := n) hl h2 h1
    refine ⟨?_, ?_, hb.2⟩
    · show rbestF ss least _ k = bestF ss least _ k
      exact rbestF_eq hl h2 (by omega)
    · show (bestF ss least _ k).f < ((k + 1 : Nat) : Int)
      have := hb.1
      omega
end Go.Proofs.Ytopncifebldklaa
/- The references of chapter 3: Cell, none, Row. Conditions: a slice that reads as a list. -/
namespace Go.Proofs.Ytopncifebldklaa
set_option linter.unusedVariables false
set_option linter.unusedSimpArgs false
open Go.RowKit

theorem rcell_any (n : Int) (w : World) : Calls Try.prog 40 #[.int .i64 n] w fun e w' => e = .returned (.bool (cellB n)) ∧ w = w' := by
  by_cases h1 : -1000000 ≤ n
  · by_cases h2 : n ≤ 1000000
    · go_enter Try.func40, Try.ntmps40
      go_wp2
      go_ret
      exact ⟨by rw [cellB_t.2 ⟨h1, h2⟩]; rfl, rfl⟩
    · go_enter Try.func40, Try.ntmps40
      go_wp2
      go_ret
      exact ⟨by rw [cellB_f.2 (by omega)]; rfl, rfl⟩
  · go_enter Try.func40, Try.ntmps40
    go_wp2
    go_ret
    exact ⟨by rw [cellB_f.2 (by omega)]; rfl, rfl⟩

theorem rnone_any (n : Int) (w : World) : Calls Try.prog 52 #[.int .i64 n] w fun e w' => e = .returned (.bool (n == -1125899906842624)) ∧ w = w' := by
  go_enter Try.func52, Try.ntmps52
  go_wp2
  go_ret
  exact ⟨rfl, rfl⟩

set_option maxRecDepth 100000 in
theorem rrow_any (A : Option Addr) (n c : Nat) (l : List Int) (w : World) (B : Nat) (ha : IReads w B A n l) (hn : n ≤ maxLen) :
    Calls Try.prog 28 #[.slice A n c] w fun e w' => e = .returned (.int .i64 (rowE l)) ∧ w = w' := by
  have hl := ha.len
  unfold maxLen at hn
  by_cases h8 : 8 < n
  · have HE : Hid (rowE l = 4) := hide (by unfold rowE; rw [if_pos (by omega)])
    clear hl
    go_enter Try.func28, Try.ntmps28
    go_wp2_with fail
    go_ret
    exact ⟨ret_int (unhide HE).symm, rfl⟩
  · have HL := hide hl
    clear hl
    go_enter Try.func28, Try.ntmps28
    go_wp2_with fail
    go_loop [3] (fun i => ∃ k : Nat, k ≤ n ∧ i = .int .i64 k ∧ Hid (∀ y ∈ l.take k, rowGood y = true)) (fun i => n - (intOf i).toNat)
    case atStart => exact ⟨0, Nat.zero_le _, rfl, hide (by simp)⟩
    case round =>
      obtain ⟨k, hk, rfl, HG⟩ := hrel
      by_cases hlt : k < n
      · obtain ⟨b, o, x, rfl, hb, hx, cx⟩ := ha.get hlt
        have HX := hide hx
        clear hx
        by_cases hc : cellB x = true
        · have HC := hide hc
          clear hc
          go_wp2_with fail
          refine (rcell_any _ _).mono ?_; rintro e w1 ⟨rfl, rfl⟩; rw [unhide HC]
          go_wp2_with fail
          refine (rnone_any _ _).mono ?_; rintro e w1 ⟨rfl, rfl⟩
          go_wp2_with fail
          go_round
          case rel => exact ⟨k + 1, by omega, by go_num, hide (all_next (unhide HX) (unhide HG) (by simp [rowGood, unhide HC]))⟩
          case measure => simp [intOf]; omega
        · have hc2 : cellB x = false := by simpa using hc
          have HC := hide hc2
          clear hc hc2
          by_cases hn2 : x = -1125899906842624
          · have q : (x == -1125899906842624) = true := by simpa using hn2
            have HN := hide q
            clear q hn2
            go_wp2_with fail
            refine (rcell_any _ _).mono ?_; rintro e w1 ⟨rfl, rfl⟩; rw [unhide HC]
            go_wp2_with fail
            refine (rnone_any _ _).mono ?_; rintro e w1 ⟨rfl, rfl⟩; rw [unhide HN]
            go_wp2_with fail
            go_round
            case rel => exact ⟨k + 1, by omega, by go_num, hide (all_next (unhide HX) (unhide HG) (by have := unhide HN; simp [rowGood, nilC] at this ⊢; exact .inl this))⟩
            case measure => simp [intOf]; omega
          · have q : (x == -1125899906842624) = false := by simpa using hn2
            have HN := hide q
            have HE : Hid (rowE l = 1) := hide (rowE_bad (unhide HX) (by simp [rowGood, nilC, unhide HC]; exact hn2) (by have := unhide HL; omega))
            clear q hn2
            go_wp2_with fail
            refine (rcell_any _ _).mono ?_; rintro e w1 ⟨rfl, rfl⟩; rw [unhide HC]
            go_wp2_with fail
            refine (rnone_any _ _).mono ?_; rintro e w1 ⟨rfl, rfl⟩; rw [unhide HN]
            go_wp2_with fail
            go_ret
            exact ⟨ret_int (unhide HE).symm, rfl⟩
      · have HE : Hid (rowE l = 0) := hide (by
          have h2 := unhide HG
          rw [List.take_of_length_le (by have := unhide HL; omega)] at h2
          exact rowE_good h2 (by have := unhide HL; omega))
        go_wp2_with fail
        go_ret
        exact ⟨ret_int (unhide HE).symm, rfl⟩
end Go.Proofs.Ytopncifebldklaa
/- What the document says of samples: Samples, sum, part. Conditions: samples that read as data. -/
namespace Go.Proofs.Ytopncifebldklaa
set_option linter.unusedVariables false
set_option linter.unusedSimpArgs false
open Go.RowKit

def RSampPost (ss : List Sm) (fe : Int) (w : World) (e : Ending) (w' : World) : Prop := e = .returned (.tuple #[.int .i64 ((sampC ss fe).1 : Nat), .int .i64 (sampE ss fe)]) ∧ ∃ q, w' = w.drewN q
theorem rsampPost_at {ss : List Sm} {fe : Int} {w : World} {k : Nat} {x : Int} (h : sampC ss fe = (k, x)) : RSampPost ss fe w = fun e w' => e = .returned (.tuple #[.int .i64 (k : Nat), .int .i64 x]) ∧ ∃ q, w' = w.drewN q := by
  funext e w'
  unfold RSampPost sampE
  rw [h]

/-- samples below a cut, or not -/
def selS (b : Bool) (f : Nat) (q : Int) (ss : List Sm) : List Sm := if b then lowS f q ss else highS f q ss
theorem selS_next {b : Bool} {f : Nat} {q : Int} {ss : List Sm} {k : Nat} {s : Sm} (h : ss[k]? = some s) : selS b f q (ss.take (k + 1)) = selS b f q (ss.take k) ++ if (decide (cellS f s < q) == b) = true then [s] else [] := by
  unfold selS
  cases b
  · rw [if_neg (by simp), if_neg (by simp), highS_next h]
    by_cases hc : cellS f s < q <;> simp [hc]
  · rw [if_pos rfl, if_pos rfl, lowS_next h]
    by_cases hc : cellS f s < q <;> simp [hc]
theorem selS_mem {b : Bool} {f : Nat} {q : Int} {ss : List Sm} {s : Sm} (h : s ∈ selS b f q ss) : s ∈ ss := by
  unfold selS at h
  cases b
  · exact (highS_mem (by simpa using h)).1
  · exact (lowS_mem (by simpa using h)).1
theorem selS_len (b : Bool) (f : Nat) (q : Int) (ss : List Sm) : (selS b f q ss).length ≤ ss.length := by
  unfold selS lowS highS
  cases b
  · exact List.length_filter_le _ _
  · exact List.length_filter_le _ _

def RPartPost (a : List Sm) (w : World) (e : Ending) (w' : World) : Prop :=
  ∃ A c, e = .returned (.slice A a.length c) ∧ MOwn w' w.heap.size (.slice A a.length c) a ∧ MReads w' w'.heap.size A a.length a ∧ Below w.heap.size w w'
end Go.Proofs.Ytopncifebldklaa
/- What the document says of samples: Split. Conditions: samples that read as data and are right. -/
namespace Go.Proofs.Ytopncifebldklaa
set_option linter.unusedVariables false
set_option linter.unusedSimpArgs false
open Go.RowKit

theorem MReads.drewN {w : World} {B n : Nat} {A : Option Addr} {ss : List Sm} (h : MReads w B A n ss) (q : Nat) : MReads (w.drewN q) B A n ss := ⟨h.1.drewN q, fun s hs => ⟨(h.2 s hs).reads.drewN q, (h.2 s hs).len⟩⟩
/-- bounds of what is put right -/
def Bd (b : Bs) : Prop := 0 < b.dn ∧ b.dn ≤ 900 ∧ 0 ≤ b.up ∧ b.up ≤ 1000000000000 ∧ -1 ≤ b.f
theorem Bd.start {ss : List Sm} {n : Nat} (hs : SRight ss n) : Bd (startB ss) := by
  obtain ⟨a, b, c, d, e, _⟩ := BsOk.start (least := 1) hs
  exact ⟨a, b, c, d, e⟩
theorem Bd.at_ {ss : List Sm} {n least f : Nat} {c : Int} (hs : SRight ss n) (hl : 1 ≤ least) (h : OkC ss least f c) : Bd (atC ss f c) := by
  have hp := parts_len f c ss
  have hm := hs.most
  have hu := upOf_le (a := lowS f c ss) (b := highS f c ss) (by omega) (fun s h => hs.tlo s (lowS_mem h).1) (fun s h => hs.thi s (lowS_mem h).1) (fun s h => hs.tlo s (highS_mem h).1) (fun s h => hs.thi s (highS_mem h).1)
  exact ⟨h.dn hl, prod_900 (by omega), hu.1, hu.2, by show (-1 : Int) ≤ (f : Int); omega⟩
theorem Bd.rstep {ss : List Sm} {n least f : Nat} {st : Bs} (hs : SRight ss n) (hl : 1 ≤ least) (h : Bd st) (s : Sm) : Bd (rstepB ss least f st s) := by
  unfold rstepB
  split
  · exact h
  split
  · exact h
  · have ho : OkC ss least f (cellS f s) := ⟨by omega, by omega⟩
    split
    · exact Bd.at_ hs hl ho
    split
    · exact Bd.at_ hs hl ho
    · exact h
theorem rbestF_next {ss : List Sm} {least f k : Nat} {s : Sm} {st : Bs} (h : ss[k]? = some s) : (ss.take (k + 1)).foldl (rstepB ss least f) st = rstepB ss least f ((ss.take k).foldl (rstepB ss least f) st) s := by
  rw [take_next h, List.foldl_append]; rfl
theorem rrange_next (ss : List Sm) (least k : Nat) (st : Bs) : (List.range (k + 1)).foldl (rbestF ss least) st = rbestF ss least ((List.range k).foldl (rbestF ss least) st) k := by
  rw [List.range_succ, List.foldl_append]; rfl
theorem sum_next0 {ss : List Sm} {k : Nat} {s : Sm} (h : ss[k]? = some s) : sumM (ss.take (k + 1)) = sumM (ss.take k) + s.t := sumM_next h
def ftB (b : Bs) : Int := if 0 ≤ b.f then b.f else 0
def fdB (b : Bs) : Bool := decide (0 ≤ b.f)
theorem ftB_some {b : Bs} (h : 0 ≤ b.f) : ftB b = b.f := if_pos h
theorem fdB_some {b : Bs} (h : 0 ≤ b.f) : fdB b = true := decide_eq_true h
theorem fdB_none {b : Bs} (h : ¬ 0 ≤ b.f) : fdB b = false := decide_eq_false h
def RSplitPost (ss : List Sm) (n least : Nat) (w : World) (e : Ending) (w' : World) : Prop :=
  e = .returned (.tuple #[.int .i64 (ftB (bestB ss n least)), .int .i64 (bestB ss n least).c, .bool (fdB (bestB ss n least))]) ∧ ∃ q, w' = w.drewN q

end Go.Proofs.Ytopncifebldklaa
/- The references of chapter 4: Depth, Tree, Ready, Left, Leaf. Conditions: a tree that reads as a list of nodes. -/
namespace Go.Proofs.Ytopncifebldklaa
set_option linter.unusedVariables false
set_option linter.unusedSimpArgs false
open Go.RowKit

theorem rdepth_any (A : Option Addr) (m d B : Nat) (t : List Nd) (hm : m ≤ 63) (hb : Behind t) : ∀ (k i : Nat) (w : World), m ≤ i + k → i < m → NReads w B A m t →
    Calls Try.prog 41 #[.slice A m d, .int .i64 i] w fun e w' => e = .returned (.int .i64 (dep t i)) ∧ w = w' := by
  intro k
  induction k with
  | zero => intro i w h1 h2; omega
  | succ k ih =>
    intro i w h1 h2 ht
    have hlt := ht.len
    obtain ⟨b, o, n, rfl, hbb, hn, g0, g1, g2, g3, g4, g5⟩ := ht.get h2
    have hda := dep_at hn (fun hf => (hb i n hn hf).1) (fun hf => (hb i n hn hf).2.2.1)
    by_cases hf : n.f = -1
    · rw [if_pos hf] at hda
      have HD := hide hda
      rw [hf] at g0
      clear hda hn hlt
      go_enter Try.func41, Try.ntmps41
      go_wp2_with fail
      go_ret
      exact ⟨ret_int (by rw [unhide HD]; rfl), rfl⟩
    · rw [if_neg hf] at hda
      obtain ⟨a1, a2, a3, a4⟩ := hb i n hn hf
      obtain ⟨ln, hln⟩ : ∃ ln : Nat, n.l = ln := ⟨n.l.toNat, by omega⟩
      obtain ⟨rn, hrn⟩ : ∃ rn : Nat, n.r = rn := ⟨n.r.toNat, by omega⟩
      rw [hln, hrn] at hda
      rw [hln] at a1 a2 g2
      rw [hrn] at a3 a4 g3
      have c1 := ih ln w (by omega) (by omega) ht
      have c2 := ih rn w (by omega) (by omega) ht
      have l1 := dep_le t ln
      have l2 := dep_le t rn
      simp only [Int.toNat_natCast] at hda
      generalize dep t ln = x at *
      generalize dep t rn = y at *
      have HD := hide hda
      have hq : (n.f == -1) = false := by simpa using hf
      clear hda hn hf ih
      by_cases hxy : x < y
      · go_enter Try.func41, Try.ntmps41
        go_wp2_with fail
        refine c1.mono ?_; rintro e w1 ⟨rfl, rfl⟩
        go_wp2_with fail
        refine c2.mono ?_; rintro e w1 ⟨rfl, rfl⟩
        clear c1 c2
        go_wp2_with fail
        go_ret
        exact ⟨ret_int (by rw [unhide HD]; omega), rfl⟩
      · go_enter Try.func41, Try.ntmps41
        go_wp2_with fail
        refine c1.mono ?_; rintro e w1 ⟨rfl, rfl⟩
        go_wp2_with fail
        refine c2.mono ?_; rintro e w1 ⟨rfl, rfl⟩
        clear c1 c2
        go_wp2_with fail
        go_ret
        exact ⟨ret_int (by rw [unhide HD]; omega), rfl⟩

end Go.Proofs.Ytopncifebldklaa
/- The reference of the walk to a leaf: orchref1.Leaf (the leaf, and the way). Conditions: a tree in which what is below stands behind; a row that has the cells it asks. -/
namespace Go.Proofs.Ytopncifebldklaa
set_option linter.unusedVariables false
set_option linter.unusedSimpArgs false
open Go.RowKit

def RLPost (t : List Nd) (row : List Int) (w : World) (e : Ending) (w' : World) : Prop :=
  ∃ v, e = .returned (.tuple #[.int .i64 (leafOf t row : Nat), v]) ∧ w'.ownsRow w.heap.size 3 1 v ((0 :: wayFrom t row t.length 0).length) ((0 :: wayFrom t row t.length 0).map (Value.int .i64)) ∧ Below w.heap.size w w'

end Go.Proofs.Ytopncifebldklaa
/- cut.Bin and cut.Merge: their contracts. Conditions: slices that read as lists. -/
namespace Go.Proofs.Ytopncifebldklaa
set_option linter.unusedVariables false
set_option linter.unusedSimpArgs false
open Go.RowKit

/-- of a list that rises: what stands at its bin, less one, is the greatest that is at most a number -/
theorem bin_rep {l : List Int} (h : l.Pairwise (· < ·)) (c : Int) : binN l c ≤ l.length ∧ (∀ (j : Nat) x, l[j]? = some x → (j < binN l c ↔ x ≤ c)) := by
  induction l with
  | nil => exact ⟨Nat.le_refl _, fun j x h => by simp at h⟩
  | cons a r ih =>
    rw [List.pairwise_cons] at h
    obtain ⟨h1, h2⟩ := ih h.2
    unfold binN at *
    rw [List.filter_cons]
    by_cases ha : a ≤ c
    · simp only [ha, decide_true, if_true, List.length_cons]
      refine ⟨by omega, fun j x hx => ?_⟩
      cases j with
      | zero => simp at hx; subst hx; simp [ha]
      | succ j => rw [← h2 j x (by simpa using hx)]; omega
    · have h0 : (r.filter fun x => decide (x ≤ c)) = [] := by
        rw [List.filter_eq_nil_iff]
        intro x hx
        have := h.1 x hx
        simp; omega
      simp only [ha, decide_false, Bool.false_eq_true, if_false, h0, List.length_nil]
      refine ⟨Nat.zero_le _, fun j x hx => ?_⟩
      constructor
      · intro hj; omega
      · intro hxc
        exfalso
        cases j with
        | zero => simp at hx; subst hx; exact ha hxc
        | succ j => have := h.1 x (List.mem_of_getElem? (by simpa using hx : r[j]? = some x)); omega
def binE (l : List Int) (x : Int) : Int := if cutE l = 0 then (if cellB x = true then 0 else 1) else cutE l
def binV (l : List Int) (x : Int) : Int := if binE l x = 0 then (binN l x : Int) else 0
def mergeE (a b : List Int) : Int := if cutE a = 0 then (if cutE b = 0 then (if 60 < (mergeV a b).length then 4 else 0) else cutE b) else cutE a
def mergeR (a b : List Int) : List Int := if mergeE a b = 0 then mergeV a b else []
def MergePost (a b : List Int) (w : World) (e : Ending) (w' : World) : Prop :=
  ∃ v, e = .returned (.tuple #[v, errV (mergeE a b)]) ∧ IOwn w' w.heap.size v (mergeR a b) ∧ Below w.heap.size w w'
theorem MergePost.fault {a b : List Int} {w w' : World} {k : Int} {ev : Value} (h : mergeE a b = k) (hk : k ≠ 0) (hv : ev = errV k) (hb : Below w.heap.size w w') : MergePost a b w (.returned (.tuple #[.slice none 0 0, ev])) w' :=
  ⟨_, by rw [h, hv], by unfold mergeR; rw [if_neg (by rw [h]; exact hk)]; exact IOwn.nil_ _ _, hb⟩

end Go.Proofs.Ytopncifebldklaa
/- limit.Steps. Conditions: as each lemma names. -/
namespace Go.Proofs.Ytopncifebldklaa
set_option linter.unusedVariables false
set_option linter.unusedSimpArgs false
open Go.RowKit

def cutsOf (t : List Nd) (fe : Int) : List Int := (t.filter fun n => n.f == fe).map Nd.c
def stepC (t : List Nd) (fe : Int) : List Int := compactL (sortL (cutsOf t fe))
def valOf (t : List Nd) (r : List Int) : Int := valAt t (leafOf t r)
def stepV (t : List Nd) (row : List Int) (f : Nat) (cs : List Int) : List Int := valOf t (row.set f (-1000001)) :: cs.map fun c => valOf t (row.set f c)
def stepsE (t : List Nd) (row : List Int) (fe : Int) : Int := if readyE t row = 0 then (if fe < 0 then 1 else if (row.length : Int) ≤ fe then 1 else 0) else readyE t row
theorem cutsOf_len (t : List Nd) (fe : Int) : (cutsOf t fe).length ≤ t.length := by unfold cutsOf; rw [List.length_map]; exact List.length_filter_le _ _
theorem cuts_hit {t : List Nd} {fe : Int} {k : Nat} {n : Nd} (h : t[k]? = some n) (hf : n.f = fe) : cutsOf (t.take (k + 1)) fe = cutsOf (t.take k) fe ++ [n.c] := by
  unfold cutsOf; rw [take_next h, List.filter_append, List.map_append]; simp [hf]
theorem cuts_miss {t : List Nd} {fe : Int} {k : Nat} {n : Nd} (h : t[k]? = some n) (hf : n.f ≠ fe) : cutsOf (t.take (k + 1)) fe = cutsOf (t.take k) fe := by
  unfold cutsOf; rw [take_next h, List.filter_append, List.map_append]; simp [hf]
/-- a row of ints of which one cell is written -/
theorem IReads.stored {w : World} {B n g o k : Nat} {l : List Int} (h : IReads w B (some ⟨g, o, none⟩) n l) (hk : k < n) (x : Int) : IReads (w.setCell ⟨g, o + k, none⟩ (.int .i64 x)) B (some ⟨g, o, none⟩) n (l.set k x) := by
  have hl := h.len
  obtain ⟨_, _, e, hb, hc⟩ := Reads.spot h (by omega) (by omega)
  cases e
  refine ⟨by simp [hl], fun _ => ⟨_, rfl, hb, fun j u hu => ?_⟩⟩
  have hj : j < n := by
    have := (List.getElem?_eq_some_iff.1 hu).1
    simpa [hl] using this
  have hadd : (⟨g, o, none⟩ : Addr).add j = ⟨g, o + j, none⟩ := by
    unfold Addr.add
    split
    · rename_i e; rw [e]; rfl
    · rfl
  rw [hadd]
  rw [List.getElem?_map, List.getElem?_set] at hu
  by_cases he : k = j
  · subst he
    rw [if_pos rfl, if_pos (by omega)] at hu
    have : Value.int .i64 x = u := by simpa using hu
    subst this
    obtain ⟨b, o', y, e2, _, _, hcy⟩ := h.get hk
    cases e2
    exact World.cell?_setCell_same' _ _ _ (by rw [hcy]; rfl)
  · rw [if_neg he] at hu
    rw [World.cell?_setCell_other _ _ _ _ (by intro e; injection e; omega)]
    exact hc j u (by rw [List.getElem?_map]; exact hu)

def StepsPost (t : List Nd) (row : List Int) (fe : Int) (w : World) (e : Ending) (w' : World) : Prop :=
  ∃ A1 n1 c1 A2 n2 c2 C V, e = .returned (.tuple #[.slice A1 n1 c1, .slice A2 n2 c2, errV (stepsE t row fe)]) ∧ IReads w' w'.heap.size A1 n1 C ∧ IReads w' w'.heap.size A2 n2 V ∧
    (stepsE t row fe = 0 → C = stepC t fe ∧ V = stepV t row fe.toNat (stepC t fe)) ∧ (stepsE t row fe ≠ 0 → n1 = 0 ∧ n2 = 0) ∧ Below w.heap.size w w'
theorem StepsPost.fault {t : List Nd} {row : List Int} {fe : Int} {w w' : World} (h : stepsE t row fe ≠ 0) (hb : Below w.heap.size w w') : StepsPost t row fe w (.returned (.tuple #[.slice none 0 0, .slice none 0 0, errV (stepsE t row fe)])) w' :=
  ⟨none, 0, 0, none, 0, 0, [], [], rfl, IReads.nil_, IReads.nil_, fun h' => absurd h' h, fun _ => ⟨rfl, rfl⟩, hb⟩

end Go.Proofs.Ytopncifebldklaa
/- The reference's Value of a row: what the leaf says to which it comes. Conditions: the tree is right, the row has as many cells as it has features. -/
namespace Go.Proofs.Ytopncifebldklaa
set_option linter.unusedVariables false
set_option linter.unusedSimpArgs false
open Go.RowKit

end Go.Proofs.Ytopncifebldklaa
