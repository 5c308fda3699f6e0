/- Part 19 of what LawBoostTells needs: GrowR, RefRow, GrowRef. Conditions: as each lemma names. -/
import Derived.Test.YtdpijhnbhopnbaaGreatDoorPkBoostTells11
import Derived.Test.YtdpijhnbhopnbaaGreatDoorPkBoostTells02
import Derived.Test.YtdpijhnbhopnbaaGreatDoorPkBoostTells12
/- Package grow in plain words: the best question is the best of all, by whatever order they are looked at. Conditions: none. -/
namespace Go.Proofs.YtdpijhnbhopnbaaGreatDoor
set_option linter.unusedVariables false
set_option linter.unusedSimpArgs false
open Go.RowKit

theorem mul_pos_cancel {a b d : Int} (hd : 0 < d) (h : a * d < b * d) : a < b := by
  rcases Int.lt_or_le a b with h' | h'
  · exact h'
  · have := Int.mul_le_mul_of_nonneg_right h' (Int.le_of_lt hd); omega
theorem mul_pos_cancel_le {a b d : Int} (hd : 0 < d) (h : a * d ≤ b * d) : a ≤ b := by
  rcases Int.lt_or_le b a with h' | h'
  · have := Int.mul_lt_mul_of_pos_right h' hd; omega
  · exact h'
/-- a fraction is more than another one -/
def More (u1 d1 u2 d2 : Int) : Prop := u2 * d1 < u1 * d2
theorem more_le_trans {u1 d1 u2 d2 u3 d3 : Int} (h1 : 0 < d1) (h2 : 0 < d2) (h3 : 0 < d3) (h : More u1 d1 u2 d2) (k : ¬ More u3 d3 u2 d2) : ¬ More u3 d3 u1 d1 := by
  unfold More at *
  intro e
  -- u2/d2 < u1/d1, u3/d3 ≤ u2/d2, u1/d1 < u3/d3
  have a : u2 * d1 * d3 < u1 * d2 * d3 := Int.mul_lt_mul_of_pos_right h h3
  have b : u3 * d2 * d1 ≤ u2 * d3 * d1 := Int.mul_le_mul_of_nonneg_right (by omega) (by omega)
  have c : u1 * d3 * d2 < u3 * d1 * d2 := Int.mul_lt_mul_of_pos_right e h2
  have e1 : u2 * d1 * d3 = u2 * d3 * d1 := by grind
  have e2 : u1 * d2 * d3 = u1 * d3 * d2 := by grind
  have e3 : u3 * d2 * d1 = u3 * d1 * d2 := by grind
  omega
theorem more_eq_trans {u1 d1 u2 d2 u3 d3 : Int} (h1 : 0 < d1) (h2 : 0 < d2) (h3 : 0 < d3) (h : More u1 d1 u2 d2) (k : u3 * d1 = u1 * d3) : More u3 d3 u2 d2 := by
  unfold More at *
  refine mul_pos_cancel (d := d1) h1 ?_
  have a : u2 * d1 * d3 < u1 * d2 * d3 := Int.mul_lt_mul_of_pos_right h h3
  have e1 : u2 * d3 * d1 = u2 * d1 * d3 := by grind
  have e2 : u3 * d2 * d1 = u1 * d2 * d3 := by grind
  omega
theorem more_of_more {u1 d1 u2 d2 u3 d3 : Int} (h1 : 0 < d1) (h2 : 0 < d2) (h3 : 0 < d3) (h : More u1 d1 u2 d2) (k : More u2 d2 u3 d3) : More u1 d1 u3 d3 := by
  unfold More at *
  refine mul_pos_cancel (d := d2) h2 ?_
  have a : u2 * d1 * d3 < u1 * d2 * d3 := Int.mul_lt_mul_of_pos_right h h3
  have b : u3 * d2 * d1 < u2 * d3 * d1 := Int.mul_lt_mul_of_pos_right k h1
  have e1 : u3 * d1 * d2 = u3 * d2 * d1 := by grind
  have e2 : u1 * d3 * d2 = u1 * d2 * d3 := by grind
  have e3 : u2 * d1 * d3 = u2 * d3 * d1 := by grind
  omega
theorem eq_trans_fr {u1 d1 u2 d2 u3 d3 : Int} (h2 : 0 < d2) (h : u1 * d2 = u2 * d1) (k : u2 * d3 = u3 * d2) : u1 * d3 = u3 * d1 := by
  have e : (u1 * d3) * d2 = (u3 * d1) * d2 := by grind
  exact Int.eq_of_mul_eq_mul_right (by omega) e
theorem fr_swap {uc dc uq dq dx : Int} (h : uc * dq = uq * dc) : uq * dx * dc = uc * dx * dq := by grind
theorem fr_turn (a b c : Int) : a * b * c = a * c * b := by grind
theorem not_more_eq {u1 d1 u2 d2 : Int} (h : ¬ More u1 d1 u2 d2) (k : ¬ More u2 d2 u1 d1) : u1 * d2 = u2 * d1 := by
  unfold More at *
  omega

section
variable (ss : List Sm) (least f : Nat)
def OkC (c : Int) : Prop := least ≤ (lowS f c ss).length ∧ least ≤ (highS f c ss).length
def upC (c : Int) : Int := upOf (lowS f c ss) (highS f c ss)
def dnC (c : Int) : Int := dnOf (lowS f c ss) (highS f c ss)
def atC (c : Int) : Bs := ⟨f, c, upC ss f c, dnC ss f c⟩
/-- what comes of the cuts C, from st -/
def Pk (C : Int → Prop) (st st' : Bs) : Prop :=
  (st' = st ∧ ∀ c, C c → OkC ss least f c → ¬ More (upC ss f c) (dnC ss f c) st.up st.dn) ∨
  ∃ c, C c ∧ OkC ss least f c ∧ st' = atC ss f c ∧ More (upC ss f c) (dnC ss f c) st.up st.dn ∧
    ∀ c', C c' → OkC ss least f c' → ¬ More (upC ss f c') (dnC ss f c') (upC ss f c) (dnC ss f c) ∧ (upC ss f c' * dnC ss f c = upC ss f c * dnC ss f c' → c ≤ c')
end
section
variable {ss : List Sm} {least f : Nat}
theorem OkC.dn {c : Int} (hl : 1 ≤ least) (h : OkC ss least f c) : 0 < dnC ss f c := by
  unfold OkC at h
  unfold dnC dnOf
  exact Int.mul_pos (by omega) (by omega)
theorem Pk.one {C : Int → Prop} {st a b : Bs} (h : Pk ss least f C st a) (k : Pk ss least f C st b) : a = b := by
  rcases h with ⟨rfl, h⟩ | ⟨c, hc, ho, rfl, hm, hb⟩
  · rcases k with ⟨rfl, k⟩ | ⟨c, hc, ho, rfl, hm, hb⟩
    · rfl
    · exact absurd hm (h c hc ho)
  · rcases k with ⟨rfl, k⟩ | ⟨c', hc', ho', rfl, hm', hb'⟩
    · exact absurd hm (k c hc ho)
    · obtain ⟨n1, e1⟩ := hb c' hc' ho'
      obtain ⟨n2, e2⟩ := hb' c hc ho
      have e := not_more_eq n1 n2
      have h1 := e1 e
      have h2 := e2 e.symm
      obtain rfl : c = c' := by omega
      rfl
theorem Pk.congr {C D : Int → Prop} {st a : Bs} (h : Pk ss least f C st a) (hCD : ∀ c, OkC ss least f c → (C c ↔ D c)) : Pk ss least f D st a := by
  rcases h with ⟨rfl, h⟩ | ⟨c, hc, ho, rfl, hm, hb⟩
  · exact .inl ⟨rfl, fun c hd ho => h c ((hCD c ho).2 hd) ho⟩
  · exact .inr ⟨c, (hCD c ho).1 hc, ho, rfl, hm, fun c' hd ho' => hb c' ((hCD c' ho').2 hd) ho'⟩
theorem Pk.none_ (st : Bs) : Pk ss least f (fun _ => False) st st := .inl ⟨rfl, fun _ h => h.elim⟩
theorem Pk.skip {C : Int → Prop} {st a : Bs} {c : Int} (h : Pk ss least f C st a) (ho : ¬ OkC ss least f c) : Pk ss least f (fun x => C x ∨ x = c) st a :=
  h.congr fun x hx => ⟨.inl, fun h => h.resolve_right fun e => ho (e ▸ hx)⟩
/-- the better one is taken; of equal ones only one with a lower cut -/
theorem Pk.take_ {C : Int → Prop} {st a : Bs} {c : Int} (hl : 1 ≤ least) (hd : 0 < st.dn) (h : Pk ss least f C st a) (ho : OkC ss least f c) (hm : More (upC ss f c) (dnC ss f c) a.up a.dn) : Pk ss least f (fun x => C x ∨ x = c) st (atC ss f c) := by
  have hc0 := ho.dn hl
  rcases h with ⟨rfl, h⟩ | ⟨q, hq, hoq, rfl, hmq, hb⟩
  · refine .inr ⟨c, .inr rfl, ho, rfl, hm, fun c' hc' ho' => ?_⟩
    rcases hc' with hc' | rfl
    · have hn := h c' hc' ho'
      refine ⟨more_le_trans hc0 hd (ho'.dn hl) hm hn, fun e => ?_⟩
      exact absurd (more_eq_trans hc0 hd (ho'.dn hl) hm e) hn
    · exact ⟨fun e => by unfold More at e; omega, fun _ => Int.le_refl _⟩
  · have hq0 := hoq.dn hl
    refine .inr ⟨c, .inr rfl, ho, rfl, more_of_more hc0 hq0 hd hm hmq, fun c' hc' ho' => ?_⟩
    rcases hc' with hc' | rfl
    · have hn := (hb c' hc' ho').1
      refine ⟨more_le_trans hc0 hq0 (ho'.dn hl) hm hn, fun e => ?_⟩
      exact absurd (more_eq_trans hc0 hq0 (ho'.dn hl) hm e) hn
    · exact ⟨fun e => by unfold More at e; omega, fun _ => Int.le_refl _⟩
/-- of equal ones the one with the lower cut is taken -/
theorem Pk.lower {C : Int → Prop} {st a : Bs} {c : Int} (hl : 1 ≤ least) (hd : 0 < st.dn) (h : Pk ss least f C st a) (ho : OkC ss least f c) (haf : a.f = f) (hst : st.f ≠ f) (he : upC ss f c * a.dn = a.up * dnC ss f c) (hc : c < a.c) : Pk ss least f (fun x => C x ∨ x = c) st (atC ss f c) := by
  have hc0 := ho.dn hl
  rcases h with ⟨rfl, h⟩ | ⟨q, hq, hoq, rfl, hmq, hb⟩
  · exact absurd haf hst
  · have hq0 := hoq.dn hl
    have he' : upC ss f c * dnC ss f q = upC ss f q * dnC ss f c := he
    have hcq : c < q := hc
    refine .inr ⟨c, .inr rfl, ho, rfl, more_eq_trans hq0 hd hc0 hmq he', fun c' hc' ho' => ?_⟩
    rcases hc' with hc' | rfl
    · obtain ⟨hn, hle⟩ := hb c' hc' ho'
      have h0' := ho'.dn hl
      refine ⟨fun e => hn ?_, fun e => ?_⟩
      · unfold More at e ⊢
        refine mul_pos_cancel (d := dnC ss f c) hc0 ?_
        have a1 : upC ss f c * dnC ss f c' * dnC ss f q < upC ss f c' * dnC ss f c * dnC ss f q := Int.mul_lt_mul_of_pos_right e hq0
        have a2 : upC ss f q * dnC ss f c' * dnC ss f c = upC ss f c * dnC ss f c' * dnC ss f q := fr_swap he'
        have a3 : upC ss f c' * dnC ss f q * dnC ss f c = upC ss f c' * dnC ss f c * dnC ss f q := fr_turn _ _ _
        omega
      have := hle (eq_trans_fr hc0 e he')
      omega
    · exact ⟨fun e => by unfold More at e; omega, fun _ => Int.le_refl _⟩
/-- one that is no better stays away; an equal one, if its cut is not lower -/
theorem Pk.stay {C : Int → Prop} {st a : Bs} {c : Int} (hl : 1 ≤ least) (h : Pk ss least f C st a) (ho : OkC ss least f c) (hm : ¬ More (upC ss f c) (dnC ss f c) a.up a.dn) (he : a.f = f → upC ss f c * a.dn = a.up * dnC ss f c → a.c ≤ c) : Pk ss least f (fun x => C x ∨ x = c) st a := by
  rcases h with ⟨rfl, h⟩ | ⟨q, hq, hoq, rfl, hmq, hb⟩
  · refine .inl ⟨rfl, fun x hx ho' => ?_⟩
    rcases hx with hx | rfl
    · exact h x hx ho'
    · exact hm
  · refine .inr ⟨q, .inl hq, hoq, rfl, hmq, fun x hx ho' => ?_⟩
    rcases hx with hx | rfl
    · exact hb x hx ho'
    · exact ⟨hm, fun e => he rfl e⟩
theorem stepB_ok {st : Bs} {c : Int} (ho : OkC ss least f c) : stepB ss least f st c = if st.up * dnC ss f c < upC ss f c * st.dn then atC ss f c else st := by
  unfold stepB tryB
  unfold OkC at ho
  rw [if_neg (by omega), if_neg (by omega)]
  rfl
theorem stepB_no {st : Bs} {c : Int} (ho : ¬ OkC ss least f c) : stepB ss least f st c = st := by
  unfold stepB tryB
  unfold OkC at ho
  split
  · rfl
  split
  · rfl
  · omega
/-- from the lowest cut on, only what is better is taken -/
theorem pk_rise (hl : 1 ≤ least) {st : Bs} (hd : 0 < st.dn) (hst : st.f ≠ f) : ∀ (cs : List Int) (C : Int → Prop) (a : Bs), Pk ss least f C st a → cs.Pairwise (· < ·) → (∀ c ∈ cs, ∀ x, C x → x < c) → Pk ss least f (fun x => C x ∨ x ∈ cs) st (cs.foldl (stepB ss least f) a) := by
  intro cs
  induction cs with
  | nil => intro C a h _ _; exact h.congr fun c _ => ⟨.inl, fun h => h.resolve_right (by simp)⟩
  | cons c r ih =>
    intro C a h hp hC
    rw [List.pairwise_cons] at hp
    have key : Pk ss least f (fun x => C x ∨ x = c) st (stepB ss least f a c) := by
      by_cases ho : OkC ss least f c
      · rw [stepB_ok ho]
        split
        · rename_i hm; exact h.take_ hl hd ho hm
        · rename_i hm
          refine h.stay hl ho hm fun haf _ => ?_
          rcases h with ⟨rfl, _⟩ | ⟨q, hq, _, rfl, _⟩
          · exact absurd haf hst
          · have := hC c (List.mem_cons_self ..) q hq
            show q ≤ c
            omega
      · rw [stepB_no ho]; exact h.skip ho
    have := ih (fun x => C x ∨ x = c) _ key hp.2 (fun x hx y hy => by
      rcases hy with hy | rfl
      · exact hC x (List.mem_cons_of_mem _ hx) y hy
      · exact hp.1 x hx)
    exact this.congr fun x _ => by simp [or_assoc]
theorem cells_at (ss : List Sm) (f : Nat) (c : Int) : c ∈ ss.map (cellS f) ↔ ∃ s ∈ ss, cellS f s = c := by simp [List.mem_map]
/-- the lowest of all cuts leaves none below -/
theorem cutsF_ok (hl : 1 ≤ least) {c : Int} (ho : OkC ss least f c) : c ∈ cutsF ss f ↔ c ∈ ss.map (cellS f) := by
  have hs := compactL_sorted (sortL_sorted (ss.map (cellS f)))
  have hmem : c ∈ compactL (sortL (ss.map (cellS f))) ↔ c ∈ ss.map (cellS f) := by rw [hs.2, (sortL_perm _).mem_iff]
  rw [← hmem]
  unfold cutsF
  have hall : ∀ x, x ∈ compactL (sortL (ss.map (cellS f))) ↔ x ∈ ss.map (cellS f) := fun x => by rw [hs.2, (sortL_perm _).mem_iff]
  cases hL : compactL (sortL (ss.map (cellS f))) with
  | nil => simp
  | cons y r =>
    rw [hL] at hs hall
    simp only [List.drop_one, List.tail_cons, List.mem_cons]
    refine ⟨.inr, fun h => h.resolve_left ?_⟩
    rintro rfl
    have hpw := (List.pairwise_cons.1 hs.1).1
    have h1 := ho.1
    obtain ⟨s, hsl⟩ : ∃ s, s ∈ lowS f c ss := by
      cases hz : lowS f c ss with
      | nil => rw [hz] at h1; simp at h1; omega
      | cons s q => exact ⟨s, List.mem_cons_self ..⟩
    obtain ⟨hm, hlt⟩ := lowS_mem hsl
    have := (hall (cellS f s)).2 (List.mem_map_of_mem hm)
    rcases List.mem_cons.1 this with e | e
    · omega
    · have := hpw _ e; omega
theorem bestF_pk (hl : 1 ≤ least) {st : Bs} (hd : 0 < st.dn) (hst : st.f ≠ f) : Pk ss least f (fun c => c ∈ ss.map (cellS f)) st (bestF ss least st f) := by
  have hs := compactL_sorted (sortL_sorted (ss.map (cellS f)))
  have := pk_rise (ss := ss) (f := f) hl hd hst (cutsF ss f) (fun _ => False) st (Pk.none_ st) (hs.1.sublist (List.drop_sublist _ _)) (fun _ _ _ h => h.elim)
  exact this.congr fun c ho => by simp only [false_or]; exact cutsF_ok hl ho
/-- the document's way: in whatever order the samples stand -/
def rstepB (ss : List Sm) (least f : Nat) (st : Bs) (s : Sm) : Bs :=
  if (lowS f (cellS f s) ss).length < least then st else if (highS f (cellS f s) ss).length < least then st else
  if st.up * dnC ss f (cellS f s) < upC ss f (cellS f s) * st.dn then atC ss f (cellS f s) else if 0 ≤ st.f ∧ upC ss f (cellS f s) * st.dn = st.up * dnC ss f (cellS f s) ∧ st.f = f ∧ cellS f s < st.c then atC ss f (cellS f s) else st
theorem pk_ref (hl : 1 ≤ least) {st : Bs} (hd : 0 < st.dn) (hst : st.f ≠ f) : ∀ (l : List Sm) (C : Int → Prop) (a : Bs), Pk ss least f C st a → Pk ss least f (fun x => C x ∨ x ∈ l.map (cellS f)) st (l.foldl (rstepB ss least f) a) := by
  intro l
  induction l with
  | nil => intro C a h; exact h.congr fun c _ => ⟨.inl, fun h => h.resolve_right (by simp)⟩
  | cons s r ih =>
    intro C a h
    have key : Pk ss least f (fun x => C x ∨ x = cellS f s) st (rstepB ss least f a s) := by
      unfold rstepB
      by_cases ho : OkC ss least f (cellS f s)
      · have ho' := ho
        unfold OkC at ho'
        rw [if_neg (by omega), if_neg (by omega)]
        split
        · rename_i hm; exact h.take_ hl hd ho hm
        · rename_i hm
          split
          · rename_i he; exact h.lower hl hd ho he.2.2.1 hst he.2.1 he.2.2.2
          · rename_i he
            refine h.stay hl ho hm fun haf heq => ?_
            rcases Int.lt_or_le (cellS f s) a.c with hlt | hle
            · exact absurd ⟨by omega, heq, haf, hlt⟩ he
            · exact hle
      · unfold OkC at ho
        split
        · exact h.skip ho
        split
        · exact h.skip ho
        · exact absurd ⟨by omega, by omega⟩ ho
    have := ih _ _ key
    exact this.congr fun x _ => by simp [or_assoc]
def rbestF (ss : List Sm) (least : Nat) (st : Bs) (f : Nat) : Bs := ss.foldl (rstepB ss least f) st
theorem rbestF_eq (hl : 1 ≤ least) {st : Bs} (hd : 0 < st.dn) (hst : st.f ≠ f) : rbestF ss least st f = bestF ss least st f := by
  have h1 := pk_ref (ss := ss) (f := f) hl hd hst ss (fun _ => False) st (Pk.none_ st)
  have h2 := h1.congr (D := fun c => c ∈ ss.map (cellS f)) fun c _ => by simp
  exact h2.one (bestF_pk hl hd hst)
end
theorem bestF_f {ss : List Sm} {n least f : Nat} {st : Bs} (hl : 1 ≤ least) (hd : 0 < st.dn) (hst : st.f < f) : (bestF ss least st f).f < (f + 1 : Int) ∧ 0 < (bestF ss least st f).dn := by
  rcases bestF_pk (ss := ss) (f := f) hl hd (by omega) with ⟨e, _⟩ | ⟨c, _, ho, e, _⟩
  · rw [e]; exact ⟨by omega, hd⟩
  · rw [e]; exact ⟨by show (f : Int) < f + 1; omega, ho.dn hl⟩
theorem rbestB_eq {ss : List Sm} {n least : Nat} (hs : SRight ss n) (hl : 1 ≤ least) : ∀ k, k ≤ n → (List.range k).foldl (rbestF ss least) (startB ss) = (List.range k).foldl (bestF ss least) (startB ss) ∧
    ((List.range k).foldl (bestF ss least) (startB ss)).f < k ∧ 0 < ((List.range k).foldl (bestF ss least) (startB ss)).dn := by
  intro k
  induction k with
  | zero => intro _; exact ⟨rfl, by show (-1 : Int) < ((0 : Nat) : Int); omega, by show (0 : Int) < (ss.length : Int); have := hs.pos; omega⟩
  | succ k ih =>
    intro hk
    obtain ⟨e, h1, h2⟩ := ih (by omega)
    rw [List.range_succ, List.foldl_append, List.foldl_append, e]
    have hb := bestF_f (ss := ss) (n := n) hl h2 h1
    refine ⟨?_, ?_, hb.2⟩
    · show rbestF ss least _ k = bestF ss least _ k
      exact rbestF_eq hl h2 (by omega)
    · show (bestF ss least _ k).f < ((k + 1 : Nat) : Int)
      have := hb.1
      omega
end Go.Proofs.YtdpijhnbhopnbaaGreatDoor
/- The references of chapter 3: Cell, none, Row. Conditions: a slice that reads as a list. -/
namespace Go.Proofs.YtdpijhnbhopnbaaGreatDoor
set_option linter.unusedVariables false
set_option linter.unusedSimpArgs false
open Go.RowKit

theorem rcell_any (n : Int) (w : World) : Calls Tryz.prog 33 #[.int .i64 n] w fun e w' => e = .returned (.bool (cellB n)) ∧ w = w' := by
  by_cases h1 : -1000000 ≤ n
  · by_cases h2 : n ≤ 1000000
    · go_enter Tryz.func33, Tryz.ntmps33
      go_wp2
      go_ret
      exact ⟨by rw [cellB_t.2 ⟨h1, h2⟩]; rfl, rfl⟩
    · go_enter Tryz.func33, Tryz.ntmps33
      go_wp2
      go_ret
      exact ⟨by rw [cellB_f.2 (by omega)]; rfl, rfl⟩
  · go_enter Tryz.func33, Tryz.ntmps33
    go_wp2
    go_ret
    exact ⟨by rw [cellB_f.2 (by omega)]; rfl, rfl⟩

theorem rnone_any (n : Int) (w : World) : Calls Tryz.prog 34 #[.int .i64 n] w fun e w' => e = .returned (.bool (n == -1125899906842624)) ∧ w = w' := by
  go_enter Tryz.func34, Tryz.ntmps34
  go_wp2
  go_ret
  exact ⟨rfl, rfl⟩

set_option maxRecDepth 100000 in
theorem rrow_any (A : Option Addr) (n c : Nat) (l : List Int) (w : World) (B : Nat) (ha : IReads w B A n l) (hn : n ≤ maxLen) :
    Calls Tryz.prog 16 #[.slice A n c] w fun e w' => e = .returned (.int .i64 (rowE l)) ∧ w = w' := by
  have hl := ha.len
  unfold maxLen at hn
  by_cases h8 : 8 < n
  · have HE : Hid (rowE l = 4) := hide (by unfold rowE; rw [if_pos (by omega)])
    clear hl
    go_enter Tryz.func16, Tryz.ntmps16
    go_wp2_with fail
    go_ret
    exact ⟨ret_int (unhide HE).symm, rfl⟩
  · have HL := hide hl
    clear hl
    go_enter Tryz.func16, Tryz.ntmps16
    go_wp2_with fail
    go_loop [3] (fun i => ∃ k : Nat, k ≤ n ∧ i = .int .i64 k ∧ Hid (∀ y ∈ l.take k, rowGood y = true)) (fun i => n - (intOf i).toNat)
    case atStart => exact ⟨0, Nat.zero_le _, rfl, hide (by simp)⟩
    case round =>
      obtain ⟨k, hk, rfl, HG⟩ := hrel
      by_cases hlt : k < n
      · obtain ⟨b, o, x, rfl, hb, hx, cx⟩ := ha.get hlt
        have HX := hide hx
        clear hx
        by_cases hc : cellB x = true
        · have HC := hide hc
          clear hc
          go_wp2_with fail
          refine (rcell_any _ _).mono ?_; rintro e w1 ⟨rfl, rfl⟩; rw [unhide HC]
          go_wp2_with fail
          refine (rnone_any _ _).mono ?_; rintro e w1 ⟨rfl, rfl⟩
          go_wp2_with fail
          go_round
          case rel => exact ⟨k + 1, by omega, by go_num, hide (all_next (unhide HX) (unhide HG) (by simp [rowGood, unhide HC]))⟩
          case measure => simp [intOf]; omega
        · have hc2 : cellB x = false := by simpa using hc
          have HC := hide hc2
          clear hc hc2
          by_cases hn2 : x = -1125899906842624
          · have q : (x == -1125899906842624) = true := by simpa using hn2
            have HN := hide q
            clear q hn2
            go_wp2_with fail
            refine (rcell_any _ _).mono ?_; rintro e w1 ⟨rfl, rfl⟩; rw [unhide HC]
            go_wp2_with fail
            refine (rnone_any _ _).mono ?_; rintro e w1 ⟨rfl, rfl⟩; rw [unhide HN]
            go_wp2_with fail
            go_round
            case rel => exact ⟨k + 1, by omega, by go_num, hide (all_next (unhide HX) (unhide HG) (by have := unhide HN; simp [rowGood, nilC] at this ⊢; exact .inl this))⟩
            case measure => simp [intOf]; omega
          · have q : (x == -1125899906842624) = false := by simpa using hn2
            have HN := hide q
            have HE : Hid (rowE l = 1) := hide (rowE_bad (unhide HX) (by simp [rowGood, nilC, unhide HC]; exact hn2) (by have := unhide HL; omega))
            clear q hn2
            go_wp2_with fail
            refine (rcell_any _ _).mono ?_; rintro e w1 ⟨rfl, rfl⟩; rw [unhide HC]
            go_wp2_with fail
            refine (rnone_any _ _).mono ?_; rintro e w1 ⟨rfl, rfl⟩; rw [unhide HN]
            go_wp2_with fail
            go_ret
            exact ⟨ret_int (unhide HE).symm, rfl⟩
      · have HE : Hid (rowE l = 0) := hide (by
          have h2 := unhide HG
          rw [List.take_of_length_le (by have := unhide HL; omega)] at h2
          exact rowE_good h2 (by have := unhide HL; omega))
        go_wp2_with fail
        go_ret
        exact ⟨ret_int (unhide HE).symm, rfl⟩
end Go.Proofs.YtdpijhnbhopnbaaGreatDoor
/- What the document says of samples: Samples, sum, part. Conditions: samples that read as data. -/
namespace Go.Proofs.YtdpijhnbhopnbaaGreatDoor
set_option linter.unusedVariables false
set_option linter.unusedSimpArgs false
open Go.RowKit

def RSampPost (ss : List Sm) (fe : Int) (w : World) (e : Ending) (w' : World) : Prop := e = .returned (.tuple #[.int .i64 ((sampC ss fe).1 : Nat), .int .i64 (sampE ss fe)]) ∧ ∃ q, w' = w.drewN q
theorem rsampPost_at {ss : List Sm} {fe : Int} {w : World} {k : Nat} {x : Int} (h : sampC ss fe = (k, x)) : RSampPost ss fe w = fun e w' => e = .returned (.tuple #[.int .i64 (k : Nat), .int .i64 x]) ∧ ∃ q, w' = w.drewN q := by
  funext e w'
  unfold RSampPost sampE
  rw [h]

set_option maxRecDepth 100000 in
set_option maxHeartbeats 4000000 in
theorem rsamples_any (A : Option Addr) (n c : Nat) (fe : Int) (ss : List Sm) (w : World) (h : MReads w w.heap.size A n ss) (hn : n ≤ maxLen) :
    Calls Tryz.prog 4 #[.slice A n c, .int .i64 fe] w (RSampPost ss fe w) := by
  have hlen := h.len
  unfold maxLen at hn
  by_cases h1 : 60 < n
  · rw [rsampPost_at (k := 0) (x := 4) (by unfold sampC; rw [if_pos (by omega)])]
    have d1 : decide (60 < n) = true := decide_eq_true h1
    have d1' : decide ((60 : Int) < (n : Int)) = true := decide_eq_true (by omega)
    clear hlen h1
    go_enter Tryz.func4, Tryz.ntmps4
    go_wp2_with fail
    go_ret2
    exact ⟨rfl, 0, rfl⟩
  have d1 : decide (60 < n) = false := decide_eq_false h1
  have d1' : decide ((60 : Int) < (n : Int)) = false := decide_eq_false (by omega)
  by_cases h2 : n = 0
  · rw [rsampPost_at (k := 0) (x := 5) (by unfold sampC; rw [if_neg (by omega), if_pos (by omega)])]
    have d2 : ((n : Int) == 0) = true := by simp [h2]
    clear hlen h1 h2
    go_enter Tryz.func4, Tryz.ntmps4
    go_wp2_with fail
    go_ret2
    exact ⟨rfl, 0, rfl⟩
  have d2 : ((n : Int) == 0) = false := by simp; omega
  by_cases h3 : fe < 0
  · rw [rsampPost_at (k := 0) (x := 1) (by unfold sampC; rw [if_neg (by omega), if_neg (by omega), if_pos h3])]
    have d3 : decide (fe < 0) = true := decide_eq_true h3
    clear hlen h1 h2
    go_enter Tryz.func4, Tryz.ntmps4
    go_wp2_with fail
    go_ret2
    exact ⟨rfl, 0, rfl⟩
  have d3 : decide (fe < 0) = false := decide_eq_false h3
  by_cases h4 : 8 < fe
  · rw [rsampPost_at (k := 0) (x := 1) (by unfold sampC; rw [if_neg (by omega), if_neg (by omega), if_neg h3, if_pos h4])]
    have d4 : decide (8 < fe) = true := decide_eq_true h4
    clear hlen h1 h2
    go_enter Tryz.func4, Tryz.ntmps4
    go_wp2_with fail
    go_ret2
    exact ⟨rfl, 0, rfl⟩
  have d4 : decide (8 < fe) = false := decide_eq_false h4
  have HE : Hid (sampC ss fe = badS fe 0 (ss.drop 0)) := hide (by unfold sampC; rw [if_neg (by omega), if_neg (by omega), if_neg h3, if_neg h4, List.drop_zero])
  have HL := hide hlen
  have hn60 : n ≤ 60 := by omega
  clear hlen h1 h2 h3 h4
  go_enter Tryz.func4, Tryz.ntmps4
  go_wp2_with fail
  clear d1 d1' d2 d3 d4
  go_loopw [6] (fun i wr => ∃ k q : Nat, k ≤ n ∧ i = .int .i64 k ∧ Hid (sampC ss fe = badS fe k (ss.drop k)) ∧ wr = w.drewN q) (fun i _ => n - (intOf i).toNat)
  case atStart => exact ⟨0, 0, Nat.zero_le _, rfl, HE, rfl⟩
  case round =>
    clear HE
    obtain ⟨k, q, hk, rfl, HE, rfl⟩ := hrel
    by_cases hlt : k < n
    · obtain ⟨b, o, s, rfl, _, hx, c0, c1, hok⟩ := h.get hlt
      have HD := hide (badS_drop (fe := fe) hx)
      obtain ⟨sA, sn, sc, sr, st⟩ := s
      have hrd := hok.reads
      have hsn := hok.len
      dsimp only at c0 c1 HD hrd hsn
      have hsl := hrd.len
      have hRC := hide (rrow_any sA sn sc sr (w.drewN q) _ (hrd.drewN q) hsn)
      unfold maxLen at hsn
      by_cases e0 : rowE sr = 0
      case neg =>
        have HZ : Hid (sampC ss fe = (k, rowE sr)) := hide (by
          have : oneE fe ⟨sA, sn, sc, sr, st⟩ = rowE sr := by unfold oneE; rw [if_neg e0]
          rw [unhide HE, unhide HD, this, if_neg e0])
        have hv : (rowE sr != 0) = true := by simpa using e0
        obtain ⟨er, her⟩ : ∃ er, er = rowE sr := ⟨_, rfl⟩
        rw [← her] at hv HZ hRC
        clear hx hok HE HD e0 her
        go_wp2_with fail
        refine (unhide hRC).mono ?_
        rintro e w2 ⟨rfl, rfl⟩
        clear hRC
        go_wp2_with fail
        go_ret2
        rw [rsampPost_at (unhide HZ)]
        exact ⟨rfl, q, rfl⟩
      rw [e0] at hRC
      by_cases e1 : st < -1000
      · have HZ : Hid (sampC ss fe = (k, 1)) := hide (by
          have : oneE fe ⟨sA, sn, sc, sr, st⟩ = 1 := by unfold oneE; rw [if_pos e0, if_pos e1]
          rw [unhide HE, unhide HD, this, if_neg (by decide)])
        have q1 : decide (st < -1000) = true := decide_eq_true e1
        clear hx hok HE HD e0 e1
        go_wp2_with fail
        refine (unhide hRC).mono ?_
        rintro e w2 ⟨rfl, rfl⟩
        clear hRC
        go_wp2_with fail
        go_ret2
        rw [rsampPost_at (unhide HZ)]
        exact ⟨rfl, q, rfl⟩
      have q1 : decide (st < -1000) = false := decide_eq_false e1
      by_cases e2 : 1000 < st
      · have HZ : Hid (sampC ss fe = (k, 1)) := hide (by
          have : oneE fe ⟨sA, sn, sc, sr, st⟩ = 1 := by unfold oneE; rw [if_pos e0, if_neg e1, if_pos e2]
          rw [unhide HE, unhide HD, this, if_neg (by decide)])
        have q2 : decide (1000 < st) = true := decide_eq_true e2
        clear hx hok HE HD e0 e1 e2
        go_wp2_with fail
        refine (unhide hRC).mono ?_
        rintro e w2 ⟨rfl, rfl⟩
        clear hRC
        go_wp2_with fail
        go_ret2
        rw [rsampPost_at (unhide HZ)]
        exact ⟨rfl, q, rfl⟩
      have q2 : decide (1000 < st) = false := decide_eq_false e2
      by_cases e3 : (sn : Int) = fe
      case neg =>
        have HZ : Hid (sampC ss fe = (k, 3)) := hide (by
          have : oneE fe ⟨sA, sn, sc, sr, st⟩ = 3 := by unfold oneE; rw [if_pos e0, if_neg e1, if_neg e2, if_neg (by dsimp only; rw [hsl]; exact e3)]
          rw [unhide HE, unhide HD, this, if_neg (by decide)])
        have q3 : ((sn : Int) != fe) = true := by simpa using e3
        clear hx hok HE HD e0 e1 e2 e3 hsl
        go_wp2_with fail
        refine (unhide hRC).mono ?_
        rintro e w2 ⟨rfl, rfl⟩
        clear hRC
        go_wp2_with fail
        go_ret2
        rw [rsampPost_at (unhide HZ)]
        exact ⟨rfl, q, rfl⟩
      subst e3
      have q3 : ((sn : Int) != (sn : Int)) = false := by simp
      have HZ5 : Hid (nilC ∈ sr → sampC ss sn = (k, 5)) := hide (fun e4 => by
          have : oneE sn ⟨sA, sn, sc, sr, st⟩ = 5 := by unfold oneE; rw [if_pos e0, if_neg e1, if_neg e2, if_pos (by dsimp only; rw [hsl]), if_pos e4]
          rw [unhide HE, unhide HD, this, if_neg (by decide)])
      have HZ0 : Hid (nilC ∉ sr → sampC ss sn = badS sn (k + 1) (ss.drop (k + 1))) := hide (fun e4 => by
          have : oneE sn ⟨sA, sn, sc, sr, st⟩ = 0 := by unfold oneE; rw [if_pos e0, if_neg e1, if_neg e2, if_pos (by dsimp only; rw [hsl]), if_neg e4]
          rw [unhide HE, unhide HD, this, if_pos rfl])
      have HSL := hide hsl
      clear hx hok HE HD e0 e1 e2 hsl
      go_wp2_with fail
      refine (unhide hRC).mono ?_
      rintro e w2 ⟨rfl, rfl⟩
      clear hRC
      go_wp2_with fail
      clear q1 q2 q3
      go_loopw [8] (fun i wr => ∃ j p : Nat, j ≤ sn ∧ i = .int .i64 j ∧ Hid (∀ x ∈ sr.take j, x ≠ nilC) ∧ wr = w.drewN p) (fun i _ => sn - (intOf i).toNat)
      case atStart => exact ⟨0, q, Nat.zero_le _, rfl, hide (by simp), rfl⟩
      case round =>
        obtain ⟨j, p, hj, rfl, HN, rfl⟩ := hrel
        by_cases hlj : j < sn
        · obtain ⟨rb, ro, x, rfl, hrb, hrx, crx⟩ := hrd.get hlj
          by_cases hxn : x = -1125899906842624
          · have HZ : Hid (sampC ss sn = (k, 5)) := hide (unhide HZ5 (by rw [show nilC = x from hxn.symm]; exact List.mem_of_getElem? hrx))
            subst hxn
            clear hrx HN HZ0
            go_wp2_with fail
            go_ret2
            rw [rsampPost_at (unhide HZ)]
            exact ⟨rfl, p, rfl⟩
          · have hxb : (x == -1125899906842624) = false := by simpa using hxn
            have HN2 : Hid (∀ y ∈ sr.take (j + 1), y ≠ nilC) := hide (all_next hrx (unhide HN) hxn)
            clear hrx HN hxn
            go_wp2_with fail
            go_roundw
            case rel => exact ⟨j + 1, p, by omega, by go_num, HN2, rfl⟩
            case measure => simp [intOf]; omega
        · obtain rfl : j = sn := by omega
          have HZ : Hid (sampC ss j = badS j (k + 1) (ss.drop (k + 1))) := hide (unhide HZ0 (fun hm => by
            have := unhide HN
            rw [List.take_of_length_le (by rw [unhide HSL]; exact Nat.le_refl _)] at this
            exact this _ hm rfl))
          go_wp2_with fail
          go_roundw
          case rel => exact ⟨k + 1, p, by omega, by go_num, HZ, rfl⟩
          case measure => simp [intOf]; omega
    · have HZ : Hid (sampC ss fe = (0, 0)) := hide (by rw [unhide HE, List.drop_eq_nil_of_le (by rw [unhide HL]; omega)]; rfl)
      go_wp2_with fail
      go_ret2
      rw [rsampPost_at (unhide HZ)]
      exact ⟨rfl, q, rfl⟩

/-- samples below a cut, or not -/
def selS (b : Bool) (f : Nat) (q : Int) (ss : List Sm) : List Sm := if b then lowS f q ss else highS f q ss
theorem selS_next {b : Bool} {f : Nat} {q : Int} {ss : List Sm} {k : Nat} {s : Sm} (h : ss[k]? = some s) : selS b f q (ss.take (k + 1)) = selS b f q (ss.take k) ++ if (decide (cellS f s < q) == b) = true then [s] else [] := by
  unfold selS
  cases b
  · rw [if_neg (by simp), if_neg (by simp), highS_next h]
    by_cases hc : cellS f s < q <;> simp [hc]
  · rw [if_pos rfl, if_pos rfl, lowS_next h]
    by_cases hc : cellS f s < q <;> simp [hc]
theorem selS_mem {b : Bool} {f : Nat} {q : Int} {ss : List Sm} {s : Sm} (h : s ∈ selS b f q ss) : s ∈ ss := by
  unfold selS at h
  cases b
  · exact (highS_mem (by simpa using h)).1
  · exact (lowS_mem (by simpa using h)).1
theorem selS_len (b : Bool) (f : Nat) (q : Int) (ss : List Sm) : (selS b f q ss).length ≤ ss.length := by
  unfold selS lowS highS
  cases b
  · exact List.length_filter_le _ _
  · exact List.length_filter_le _ _

set_option maxRecDepth 100000 in
set_option maxHeartbeats 4000000 in
theorem rsumM_any (b : Bool) (A : Option Addr) (n c f : Nat) (q : Int) (ss : List Sm) (w : World) (h : MReads w w.heap.size A n ss) (hn : n ≤ 60) (h1 : ∀ s ∈ ss, -1000 ≤ s.t) (h2 : ∀ s ∈ ss, s.t ≤ 1000) (hf : ∀ s ∈ ss, f < s.r.length) :
    Calls Tryz.prog 55 #[.slice A n c, .int .i64 f, .int .i64 q, .bool b] w fun e w' => e = .returned (.tuple #[.int .i64 (sumM (selS b f q ss)), .int .i64 ((selS b f q ss).length : Nat)]) ∧ ∃ p, w' = w.drewN p := by
  have hlen := h.len
  have HB : Hid (∀ k, k ≤ n → (-60000 ≤ sumM (selS b f q (ss.take k)) ∧ sumM (selS b f q (ss.take k)) ≤ 60000) ∧ (selS b f q (ss.take k)).length ≤ k) := hide fun k hk => by
    have hl : (selS b f q (ss.take k)).length ≤ k := Nat.le_trans (selS_len _ _ _ _) (by rw [List.length_take]; omega)
    exact ⟨sum_60 (by omega) (fun s hs => h1 s (List.mem_of_mem_take (selS_mem hs))) (fun s hs => h2 s (List.mem_of_mem_take (selS_mem hs))), hl⟩
  have HT : Hid (ss.take n = ss) := hide (List.take_of_length_le (by omega))
  have HL := hide hlen
  have HF := hide hf
  have H1 := hide h1
  have H2 := hide h2
  clear hlen h1 h2 hf
  go_enter Tryz.func55, Tryz.ntmps55
  go_wp2_with fail
  go_loopw [10, 11, 12] (fun s m i wr => ∃ k p : Nat, k ≤ n ∧ s = .int .i64 (sumM (selS b f q (ss.take k))) ∧ m = .int .i64 ((selS b f q (ss.take k)).length : Nat) ∧ i = .int .i64 k ∧ wr = w.drewN p) (fun _ _ i _ => n - (intOf i).toNat)
  case atStart => exact ⟨0, 0, Nat.zero_le _, by cases b <;> rfl, by cases b <;> rfl, rfl, rfl⟩
  case round =>
    obtain ⟨k, p, hk, rfl, rfl, rfl, rfl⟩ := hrel
    by_cases hlt : k < n
    · obtain ⟨bb, o, s, rfl, _, hx, c0, c1, hok⟩ := h.get hlt
      have HN := hide (selS_next (b := b) (f := f) (q := q) hx)
      obtain ⟨⟨b1, b2⟩, b3⟩ := unhide HB k hk
      obtain ⟨L, hL⟩ : ∃ L, L = selS b f q (ss.take k) := ⟨_, rfl⟩
      rw [← hL] at b1 b2 b3 HN ⊢
      have t1 := unhide H1 s (List.mem_of_getElem? hx)
      have t2 := unhide H2 s (List.mem_of_getElem? hx)
      have hfl := unhide HF s (List.mem_of_getElem? hx)
      have hrd := hok.reads
      have hl1 : s.n ≤ maxLen := hok.len
      obtain ⟨sA, sn, sc, sr, st⟩ := s
      dsimp only at c0 c1 HN t1 t2 hfl hrd hl1
      unfold maxLen at hl1
      rw [hrd.len] at hfl
      obtain ⟨rb, ro, x, rfl, hrb, hrx, crx⟩ := hrd.get hfl
      have HX : Hid (cellS f ⟨some ⟨rb, ro, none⟩, sn, sc, sr, st⟩ = x) := hide (by unfold cellS; rw [List.getD_eq_getElem?_getD, hrx]; rfl)
      rw [unhide HX] at HN
      have b3' : L.length ≤ 60 := by omega
      obtain ⟨S, hS⟩ : ∃ S, S = sumM L := ⟨_, rfl⟩
      obtain ⟨m, hm⟩ : ∃ m, m = L.length := ⟨_, rfl⟩
      rw [← hS] at b1 b2 ⊢
      rw [← hm] at b3' ⊢
      by_cases hd : (decide (x < q) == b) = true
      · have HS2 : Hid (sumM (selS b f q (ss.take (k + 1))) = S + st) := hide (by rw [unhide HN, if_pos hd, sumM_app, hS]; simp [sumM])
        have HM2 : Hid ((selS b f q (ss.take (k + 1))).length = m + 1) := hide (by rw [unhide HN, if_pos hd, List.length_append, hm]; rfl)
        clear hx hok hL HN HX hrd hrx hS hm b3
        go_wp2_with fail
        go_roundw
        case rel => exact ⟨k + 1, p, by omega, by rw [unhide HS2], by rw [unhide HM2]; go_num, by go_num, rfl⟩
        case measure => simp [intOf]; omega
      · have hd' : (decide (x < q) == b) = false := by simpa using hd
        have HS2 : Hid (sumM (selS b f q (ss.take (k + 1))) = S) := hide (by rw [unhide HN, if_neg hd, List.append_nil, hS])
        have HM2 : Hid ((selS b f q (ss.take (k + 1))).length = m) := hide (by rw [unhide HN, if_neg hd, List.append_nil, hm])
        clear hx hok hL HN HX hrd hrx hS hm b3 hd
        go_wp2_with fail
        go_roundw
        case rel => exact ⟨k + 1, p, by omega, by rw [unhide HS2], by rw [unhide HM2], by go_num, rfl⟩
        case measure => simp [intOf]; omega
    · obtain rfl : k = n := by omega
      rw [unhide HT]
      go_wp2_with fail
      go_ret2
      exact ⟨rfl, p, rfl⟩

def RPartPost (a : List Sm) (w : World) (e : Ending) (w' : World) : Prop :=
  ∃ A c, e = .returned (.slice A a.length c) ∧ MOwn w' w.heap.size (.slice A a.length c) a ∧ MReads w' w'.heap.size A a.length a ∧ Below w.heap.size w w'
set_option maxRecDepth 100000 in
set_option maxHeartbeats 4000000 in
theorem rpart_any (b : Bool) (A : Option Addr) (n c f : Nat) (q : Int) (ss : List Sm) (w : World) (h : MReads w w.heap.size A n ss) (hn : n ≤ 60) (hf : ∀ s ∈ ss, f < s.r.length) :
    Calls Tryz.prog 36 #[.slice A n c, .int .i64 f, .int .i64 q, .bool b] w (RPartPost (selS b f q ss) w) := by
  have hlen := h.len
  have HT : Hid (ss.take n = ss) := hide (List.take_of_length_le (by omega))
  have HF := hide hf
  have HL := hide hlen
  clear hlen hf
  go_enter Tryz.func36, Tryz.ntmps36
  go_wp2_with fail
  go_loopw [9, 10] (fun u i wr => ∃ k : Nat, k ≤ n ∧ i = .int .i64 k ∧ Hid (MOwn wr w.heap.size u (selS b f q (ss.take k))) ∧ Below w.heap.size w wr) (fun _ i _ => n - (intOf i).toNat)
  case atStart => exact ⟨0, Nat.zero_le _, rfl, hide (by cases b <;> exact MOwn.nil_ _ _), Below.refl _ _⟩
  case round =>
    obtain ⟨k, hk, rfl, HO, hbel⟩ := hrel
    have hsz := hbel.size
    by_cases hlt : k < n
    · obtain ⟨bb, o, s, rfl, _, hx, c0, c1, hok⟩ := (h.below hbel).get hlt
      have HN := hide (selS_next (b := b) (f := f) (q := q) hx)
      have hfl := unhide HF s (List.mem_of_getElem? hx)
      have hrd := hok.reads
      have hl1 : s.n ≤ maxLen := hok.len
      obtain ⟨sA, sn, sc, sr, st⟩ := s
      dsimp only at c0 c1 HN hfl hrd hl1
      unfold maxLen at hl1
      rw [hrd.len] at hfl
      obtain ⟨rb, ro, x, rfl, hrb, hrx, crx⟩ := hrd.get hfl
      have HX : Hid (cellS f ⟨some ⟨rb, ro, none⟩, sn, sc, sr, st⟩ = x) := hide (by unfold cellS; rw [List.getD_eq_getElem?_getD, hrx]; rfl)
      rw [unhide HX] at HN
      obtain ⟨L, hL⟩ : ∃ L, L = selS b f q (ss.take k) := ⟨_, rfl⟩
      have hal : L.length ≤ k := by rw [hL]; exact Nat.le_trans (selS_len _ _ _ _) (List.length_take_le _ _)
      rw [← hL] at HN HO
      have hO : wr.ownsRow w.heap.size 40 2 _ L.length (L.flatMap Sm.cells) := unhide HO
      clear hx hok hrd hrx hL HX HO
      by_cases hd : (decide (x < q) == b) = true
      · have HN2 : Hid (selS b f q (ss.take (k + 1)) = L ++ [⟨some ⟨rb, ro, none⟩, sn, sc, sr, st⟩]) := hide (by rw [unhide HN, if_pos hd])
        clear HN
        go_wp2_with (at_builtin; refine app_one elem_smp (.tmp 29) (.tmp 34) [.slice (some ⟨rb, ro, none⟩) sn sc, .int .i64 st] rfl rfl rfl hO rfl rfl rfl (smp_one _ _ _ _) (by omega) hsz ?_; intro v2 w2 hown2 hb2 _ _)
        go_wp2_with fail
        go_roundw
        case rel => exact ⟨k + 1, by omega, by go_num, hide (by rw [unhide HN2]; exact MOwn.app (s := ⟨some ⟨rb, ro, none⟩, sn, sc, sr, st⟩) hown2), hbel.trans hb2⟩
        case measure => simp [intOf] <;> omega
      · have hd' : (decide (x < q) == b) = false := by simpa using hd
        have HN2 : Hid (selS b f q (ss.take (k + 1)) = L) := hide (by rw [unhide HN, if_neg hd, List.append_nil])
        clear HN hd
        go_wp2_with fail
        go_roundw
        case rel => exact ⟨k + 1, by omega, by go_num, hide (by rw [unhide HN2]; exact hO), hbel⟩
        case measure => simp [intOf] <;> omega
    · obtain rfl : k = n := by omega
      rw [unhide HT] at HO
      obtain ⟨A1, d1, rfl, hr1, _⟩ := (unhide HO).slice
      go_wp2_with fail
      go_ret
      refine ⟨A1, d1, rfl, unhide HO, ⟨hr1, fun s hs => ?_⟩, hbel⟩
      exact ((h.2 s (selS_mem hs)).below hbel).more hbel.size
end Go.Proofs.YtdpijhnbhopnbaaGreatDoor
