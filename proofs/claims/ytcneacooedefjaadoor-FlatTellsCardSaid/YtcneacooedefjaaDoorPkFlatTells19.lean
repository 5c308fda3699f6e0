/- Part 19 of what LawFlatTells needs: RegG. Conditions: as each lemma names. -/
import Derived.Test.YtcneacooedefjaaDoorPkFlatTells18
import Derived.OrdersHeld
/- A region that draws its order, whose last operations store into what others of it load: an operation that only yields may be taken first as long as no store has come up. Conditions: as each lemma names. -/
namespace Go.Proofs.YtcneacooedefjaaDoor
set_option linter.unusedVariables false
set_option linter.unusedSimpArgs false
open Go.RowKit

/-- none of these has come up -/
def noneUp (D : List Nat) (listed : Array Bool) : Bool := D.all fun d => !listed.getD d true
/-- what waits for i, directly or through others of D -/
def waitsOn (md : Region.Mode) (ops : Array Oper) (i : Nat) (D : List Nat) : Bool :=
  D.all fun d => match ops[d]? with
    | some o => o.after.any fun e => Region.binds md e && (e.on == i || D.contains e.on)
    | none => false
section
variable {P : Program} {ops : Array Oper} {Q : Exit → Act → World → Prop} {md : Region.Mode} {S : World → Prop}
theorem noneUp_at {D : List Nat} {listed : Array Bool} (h : noneUp D listed = true) {d : Nat} (hd : d ∈ D) : listed.getD d true = false := by
  have := List.all_eq_true.1 h d hd
  simpa using this
theorem getD_tf {listed : Array Bool} {i : Nat} (h : listed.getD i true = false) : listed.getD i false = false := by
  rcases Nat.lt_or_ge i listed.size with hi | hi
  · simp [hi] at h ⊢; exact h
  · simp [Array.getElem?_eq_none hi] at h
theorem noneUp_step {D : List Nat} {listed : Array Bool} {i j : Nat} (hw : waitsOn md ops i D = true) (hi : listed.getD i true = false) (h : noneUp D listed = true) (hj : j ∈ Region.ready md ops listed) :
    noneUp D (listed.setIfInBounds j true) = true := by
  unfold noneUp
  rw [List.all_eq_true]
  intro d hd
  by_cases hjd : j = d
  · subst hjd
    exfalso
    obtain ⟨_, o, ho, hall⟩ := mem_ready.1 hj
    have h1 := List.all_eq_true.1 hw j hd
    rw [ho] at h1
    obtain ⟨e, he, h2⟩ := Array.any_eq_true'.1 h1
    rw [Bool.and_eq_true, Bool.or_eq_true] at h2
    have h3 := hall e he h2.1
    rcases h2.2 with h4 | h4
    · rw [beq_iff_eq] at h4
      rw [h4, getD_tf hi] at h3
      cases h3
    · rw [getD_tf (noneUp_at h (by simpa using h4))] at h3
      cases h3
  · rw [getD_set_ne true hjd, noneUp_at h hd]; rfl

/-- whatever order is picked from here on; S holds as long as none of st has come up -/
def wpAnyG (P : Program) (md : Region.Mode) (ops : Array Oper) (Q : Exit → Act → World → Prop) (S : World → Prop) (st : List Nat) : Nat → Array Bool → Act → World → Prop
  | 0, listed, a, w => Region.ready md ops listed = [] ∧ Q .normal a w
  | fuel + 1, listed, a, w =>
    (Region.ready md ops listed = [] → Q .normal a w) ∧
    ∀ i ∈ Region.ready md ops listed, wpOp P ops Q i (fun a' w' => (noneUp st (listed.setIfInBounds i true) = true → S w') ∧ wpAnyG P md ops Q S st fuel (listed.setIfInBounds i true) a' w') a w
theorem wpAny_of_G {st : List Nat} : ∀ (fuel : Nat) (listed : Array Bool) (a : Act) (w : World), wpAnyG P md ops Q S st fuel listed a w → wpAny P md ops Q fuel listed a w
  | 0, _, _, _, h => h
  | fuel + 1, _, _, _, h => ⟨h.1, fun i hi => wpOp_mono (fun a' w' h' => wpAny_of_G fuel _ a' w' h'.2) (h.2 i hi)⟩
theorem noneUp_back {st : List Nat} {listed : Array Bool} {i : Nat} (hi : i ∉ st) (h : noneUp st listed = true) : noneUp st (listed.setIfInBounds i true) = true := by
  unfold noneUp
  rw [List.all_eq_true]
  intro d hd
  rw [getD_set_ne true (show i ≠ d from fun e => hi (by rw [e]; exact hd)), noneUp_at h hd]; rfl
theorem noneUp_sub {D st : List Nat} {listed : Array Bool} (hs : ∀ d ∈ st, d ∈ D) (h : noneUp D listed = true) : noneUp st listed = true := by
  unfold noneUp
  rw [List.all_eq_true]
  intro d hd
  rw [noneUp_at h (hs d hd)]; rfl
theorem wpAnyG_first {st D : List Nat} {i : Nat} {oi : Oper} {v : Value} (hi : ops[i]? = some oi) (hsel : ∀ (j : Nat) (o : Oper) cs b, ops[j]? = some o → o.op ≠ .select cs b)
    (hQ : ∀ c a w, Q (.panic c) (a.put oi.dst v) w → Q (.panic c) a w) (hw : waitsOn md ops i D = true) (hsub : ∀ d ∈ st, d ∈ D) (hist : i ∉ st) :
    ∀ (fuel : Nat) (listed : Array Bool) (a : Act) (w : World),
      (∀ j oj, ops[j]? = some oj → j ≠ i → listed.getD j true = false → (∀ e ∈ oj.after, Region.binds md e = true → e.on ≠ i) → oi.apart ops oj = true) →
      i ∈ Region.ready md ops listed → YieldsIf P ops S oi v a → noneUp D listed = true → S w →
      wpAnyG P md ops Q S st fuel (listed.setIfInBounds i true) (a.put oi.dst v) w → wpAnyG P md ops Q S st (fuel + 1) listed a w := by
  intro fuel
  induction fuel with
  | zero =>
    intro listed a w _ hr hy hD hS H
    refine ⟨fun h => (by rw [h] at hr; cases hr), fun j hj => ?_⟩
    by_cases hji : j = i
    · subst hji; exact hy.wpOp hi hS ⟨fun _ => hS, H⟩
    · have hn := ready_mono hj hji
      rw [H.1] at hn
      cases hn
  | succ fuel ih =>
    intro listed a w hfree hr hy hD hS H
    refine ⟨fun h => (by rw [h] at hr; cases hr), fun j hj => ?_⟩
    by_cases hji : j = i
    · subst hji; exact hy.wpOp hi hS ⟨fun _ => hS, H⟩
    have hun := (mem_ready.1 hr).1
    have hD' := noneUp_step hw hun hD hj
    obtain ⟨hjun, oj, hoj, hall⟩ := mem_ready.1 hj
    have hnot : ∀ e ∈ oj.after, Region.binds md e = true → e.on ≠ i := fun e he hb heq => by
      have h1 := hall e he hb
      rw [heq, getD_tf hun] at h1
      cases h1
    have h2 := wpOp_putIf hoj (hfree j oj hoj hji hjun hnot) (fun cs b => hsel i oi cs b hi) (fun cs b => hsel j oj cs b hoj) hQ hy (H.2 j (ready_mono hj hji))
    refine wpOp_mono (fun a' w' h3 => ?_) h2
    have hcm : (listed.setIfInBounds i true).setIfInBounds j true = (listed.setIfInBounds j true).setIfInBounds i true := Array.setIfInBounds_comm _ _ (fun e => hji e.symm)
    have hS' : noneUp st (listed.setIfInBounds j true) = true → S w' := fun h => h3.2.1 (by rw [hcm]; exact noneUp_back hist h)
    have hS0 : S w' := hS' (noneUp_sub hsub hD')
    refine ⟨hS', ih (listed.setIfInBounds j true) a' w' (fun k ok hk hki hkun hno => ?_) (ready_mono hr (Ne.symm hji)) h3.1 hD' hS0 ?_⟩
    · refine hfree k ok hk hki ?_ hno
      by_cases hjk : j = k
      · subst hjk; exact hjun
      · rw [getD_set_ne true hjk] at hkun; exact hkun
    · rw [← hcm]
      exact h3.2.2

/-- what yields in whatever world may be taken first at any time -/
theorem wpAnyG_firstP {st : List Nat} {i : Nat} {oi : Oper} {v : Value} (hi : ops[i]? = some oi) (hsel : ∀ (j : Nat) (o : Oper) cs b, ops[j]? = some o → o.op ≠ .select cs b)
    (hQ : ∀ c a w, Q (.panic c) (a.put oi.dst v) w → Q (.panic c) a w) (hist : i ∉ st) :
    ∀ (fuel : Nat) (listed : Array Bool) (a : Act) (w : World),
      (∀ j oj, ops[j]? = some oj → j ≠ i → listed.getD j true = false → (∀ e ∈ oj.after, Region.binds md e = true → e.on ≠ i) → oi.apart ops oj = true) →
      i ∈ Region.ready md ops listed → Yields P ops oi v a → (noneUp st (listed.setIfInBounds i true) = true → S w) →
      wpAnyG P md ops Q S st fuel (listed.setIfInBounds i true) (a.put oi.dst v) w → wpAnyG P md ops Q S st (fuel + 1) listed a w := by
  intro fuel
  induction fuel with
  | zero =>
    intro listed a w _ hr hy hS H
    refine ⟨fun h => (by rw [h] at hr; cases hr), fun j hj => ?_⟩
    by_cases hji : j = i
    · subst hji; exact hy.wpOp hi ⟨hS, H⟩
    · have hn := ready_mono hj hji
      rw [H.1] at hn
      cases hn
  | succ fuel ih =>
    intro listed a w hfree hr hy hS H
    refine ⟨fun h => (by rw [h] at hr; cases hr), fun j hj => ?_⟩
    by_cases hji : j = i
    · subst hji; exact hy.wpOp hi ⟨hS, H⟩
    have hun := (mem_ready.1 hr).1
    obtain ⟨hjun, oj, hoj, hall⟩ := mem_ready.1 hj
    have hnot : ∀ e ∈ oj.after, Region.binds md e = true → e.on ≠ i := fun e he hb heq => by
      have h1 := hall e he hb
      rw [heq, getD_tf hun] at h1
      cases h1
    have h2 := wpOp_put hoj (hfree j oj hoj hji hjun hnot) (fun cs b => hsel i oi cs b hi) (fun cs b => hsel j oj cs b hoj) hQ hy (H.2 j (ready_mono hj hji))
    refine wpOp_mono (fun a' w' h3 => ?_) h2
    have hcm : (listed.setIfInBounds i true).setIfInBounds j true = (listed.setIfInBounds j true).setIfInBounds i true := Array.setIfInBounds_comm _ _ (fun e => hji e.symm)
    rw [hcm] at h3
    refine ⟨fun h => h3.2.1 (noneUp_back hist h), ih (listed.setIfInBounds j true) a' w' (fun k ok hk hki hkun hno => ?_) (ready_mono hr (Ne.symm hji)) h3.1 h3.2.1 h3.2.2⟩
    refine hfree k ok hk hki ?_ hno
    by_cases hjk : j = k
    · subst hjk; exact hjun
    · rw [getD_set_ne true hjk] at hkun; exact hkun
theorem wpAnyG_pure {st : List Nat} {i : Nat} {oi : Oper} {v : Value} {fuel : Nat} {listed : Array Bool} {a : Act} {w : World} (hi : ops[i]? = some oi)
    (hs : Region.noSelect ops = true) (hf : Region.free md ops listed i = true) (hr : (Region.ready md ops listed).contains i = true) (hist : st.contains i = false)
    (hQ : ∀ c a w, Q (.panic c) (a.put oi.dst v) w → Q (.panic c) a w) (hy : Yields P ops oi v a) (hS : S w)
    (h : wpAnyG P md ops Q S st fuel (listed.setIfInBounds i true) (a.put oi.dst v) w) : wpAnyG P md ops Q S st (fuel + 1) listed a w :=
  wpAnyG_firstP hi (Region.noSelect_spec hs) hQ (fun h => by rw [List.contains_iff_mem.2 h] at hist; cases hist) fuel listed a w (Region.free_spec hi hf) (by simpa using hr) hy (fun _ => hS) h

/-- take number i first -/
theorem wpAnyG_take {st : List Nat} (D : List Nat) {i : Nat} {oi : Oper} {v : Value} {fuel : Nat} {listed : Array Bool} {a : Act} {w : World} (hi : ops[i]? = some oi)
    (hs : Region.noSelect ops = true) (hf : Region.free md ops listed i = true) (hr : (Region.ready md ops listed).contains i = true)
    (hw : waitsOn md ops i D = true) (hD : noneUp D listed = true) (hsub : (st.all fun d => D.contains d) = true) (hist : st.contains i = false)
    (hQ : ∀ c a w, Q (.panic c) (a.put oi.dst v) w → Q (.panic c) a w) (hy : YieldsIf P ops S oi v a) (hS : S w)
    (h : wpAnyG P md ops Q S st fuel (listed.setIfInBounds i true) (a.put oi.dst v) w) : wpAnyG P md ops Q S st (fuel + 1) listed a w :=
  wpAnyG_first hi (Region.noSelect_spec hs) hQ hw (fun d hd => by simpa using List.all_eq_true.1 hsub d hd) (fun h => by rw [List.contains_iff_mem.2 h] at hist; cases hist) fuel listed a w (Region.free_spec hi hf) (by simpa using hr) hy hD hS h
/-- whichever may come up -/
theorem wpAnyG_all {st : List Nat} {rs : List Nat} {fuel : Nat} {listed : Array Bool} {a : Act} {w : World} (hr : Region.ready md ops listed = rs) (hne : rs ≠ [])
    (h : ∀ i ∈ rs, wpOp P ops Q i (fun a' w' => (noneUp st (listed.setIfInBounds i true) = true → S w') ∧ wpAnyG P md ops Q S st fuel (listed.setIfInBounds i true) a' w') a w) : wpAnyG P md ops Q S st (fuel + 1) listed a w :=
  ⟨fun h0 => absurd (hr ▸ h0) hne, hr ▸ h⟩
theorem wpAnyG_done {st : List Nat} {listed : Array Bool} {a : Act} {w : World} (hr : Region.ready md ops listed = []) (h : Q .normal a w) :
    ∀ fuel, wpAnyG P md ops Q S st fuel listed a w
  | 0 => ⟨hr, h⟩
  | _ + 1 => ⟨fun _ => h, by rw [hr]; simp⟩
theorem wp_region_G {st : List Nat} {id : Nat} {a : Act} {w : World} (hm : P.follows .mixedOrders = true)
    (h : wpAnyG P .any ops Q S st ops.size (Array.replicate ops.size false) a w.drew) : (Code.region id ops true).wp P Q a w :=
  wp_region_any hm (wpAny_of_G _ _ _ _ h)
end

/-! ### steps -/
def Ld (bs : List Bk) (w : World) : Prop := ∀ b ∈ bs, Blk w b.g b.t b.cs
theorem Bag.ld {w0 w : World} {base : Nat} {rs ps : List BRow} {bs : List Bk} (h : Bag w0 w base rs ps bs) : Ld bs w := fun b hb => (h.blk b hb).1
section
variable {P : Program} {ops : Array Oper} {Q : Exit → Act → World → Prop} {md : Region.Mode} {S : World → Prop}
theorem wpOp_at {i : Nat} {o : Oper} {K : Act → World → Prop} {a : Act} {w : World} (hi : ops[i]? = some o) (hg : o.guard = none) (h : o.wp P a w K Q) : wpOp P ops Q i K a w := by
  unfold wpOp
  rw [hi]
  have hw : Region.wanted o (yielded ops a.tmps) = true := by simp [Region.wanted, hg]
  simp only [hw, if_true]
  exact .inl h
theorem wpOp_step {i : Nat} {o : Oper} {K : Act → World → Prop} {a : Act} {w : World} (hi : ops[i]? = some o) (hg : o.guard = none) (h : ∀ K' : Act → World → Prop, (∀ a w, K a w → K' a w) → o.wp P a w K' Q) : wpOp P ops Q i K a w :=
  wpOp_at hi hg (h K fun _ _ h => h)
/-- one alone may come up -/
theorem wpAnyG_one {st : List Nat} (i : Nat) {o : Oper} {fuel : Nat} {listed : Array Bool} {a : Act} {w : World} (hr : Region.ready md ops listed = [i]) (hi : ops[i]? = some o) (hg : o.guard = none)
    (h : ∀ K' : Act → World → Prop, (∀ a' w', (noneUp st (listed.setIfInBounds i true) = true → S w') ∧ wpAnyG P md ops Q S st fuel (listed.setIfInBounds i true) a' w' → K' a' w') → o.wp P a w K' Q) : wpAnyG P md ops Q S st (fuel + 1) listed a w :=
  wpAnyG_all hr (by simp) fun j hj => by
    obtain rfl : j = i := by simpa using hj
    exact wpOp_step hi hg h
/-- from such a state on, whatever came before -/
theorem wpAnyG_have {st : List Nat} {fuel : Nat} {listed : Array Bool} {a : Act} {w : World} (I : Act → Act → World → Prop) (f' : Nat) (L' : Array Bool) (ht : ∀ a' w', I a a' w' → wpAnyG P md ops Q S st f' L' a' w')
    (hm : (∀ a' w', I a a' w' → wpAnyG P md ops Q S st f' L' a' w') → wpAnyG P md ops Q S st fuel listed a w) : wpAnyG P md ops Q S st fuel listed a w := hm ht
end
theorem noneUp_no {D : List Nat} {listed : Array Bool} (h : noneUp D listed = false) {p : Prop} : noneUp D listed = true → p := fun h' => by rw [h] at h'; cases h'
theorem wpAnyG_cast {P : Program} {ops : Array Oper} {Q : Exit → Act → World → Prop} {md : Region.Mode} {S : World → Prop} {st : List Nat} {fuel : Nat} {listed : Array Bool} {a : Act} {w : World} (L' : Array Bool) (he : listed = L') (h : wpAnyG P md ops Q S st fuel L' a w) : wpAnyG P md ops Q S st fuel listed a w := by rw [he]; exact h
theorem all_2 {p : Nat → Prop} {a b : Nat} (ha : p a) (hb : p b) : ∀ i ∈ [a, b], p i := fun i hi => by
  simp only [List.mem_cons, List.not_mem_nil, or_false] at hi
  rcases hi with rfl | rfl
  · exact ha
  · exact hb
theorem all_1 {p : Nat → Prop} {a : Nat} (ha : p a) : ∀ i ∈ [a], p i := fun i hi => by
  simp only [List.mem_cons, List.not_mem_nil, or_false] at hi
  subst hi
  exact ha
theorem all_3 {p : Nat → Prop} {a b c : Nat} (ha : p a) (hb : p b) (hc : p c) : ∀ i ∈ [a, b, c], p i := fun i hi => by
  simp only [List.mem_cons, List.not_mem_nil, or_false] at hi
  rcases hi with rfl | rfl | rfl
  · exact ha
  · exact hb
  · exact hc
end Go.Proofs.YtcneacooedefjaaDoor
