/- Chapter 14: what is written is read as it was, cut off it is not whole, what is read is written so (plain). Conditions: as each lemma names. -/
import Derived.Test.YtijgiieoinmjhaaDoorCodeP
namespace Go.Proofs.YtijgiieoinmjhaaDoor
set_option linter.unusedVariables false
set_option linter.unusedSimpArgs false

theorem encs_nil : encs [] = [] := rfl
theorem encs_cons (x : Int) (l : List Int) : encs (x :: l) = enc x ++ encs l := by simp [encs]
theorem encs_app (a b : List Int) : encs (a ++ b) = encs a ++ encs b := by simp [encs]

/-! ## what is read is written so -/
/-- from s to s' the numbers L are eaten -/
structure Eats (b : List Int) (s s' : Rd) (L : List Int) : Prop where
  bad : s.bad = 0
  bad' : s'.bad = 0
  nx : s'.nx = s.nx + (encs L).length
  eq : b.drop s.nx = encs L ++ b.drop s'.nx
theorem Eats.nil {b : List Int} {s : Rd} (h : s.bad = 0) : Eats b s s [] := ⟨h, h, rfl, rfl⟩
theorem Eats.trans {b : List Int} {s s' s'' : Rd} {L L' : List Int} (h : Eats b s s' L) (h' : Eats b s' s'' L') : Eats b s s'' (L ++ L') :=
  ⟨h.bad, h'.bad', by rw [h'.nx, h.nx, encs_app, List.length_append]; omega, by rw [h.eq, h'.eq, encs_app, List.append_assoc]⟩
theorem rdNum_ok {b : List Int} {s : Rd} (hb : Bys b) (h : (rdNum b s).2.bad = 0) : Eats b s (rdNum b s).2 [(rdNum b s).1] := by
  by_cases h0 : s.bad = 0
  · unfold rdNum at h ⊢
    rw [if_pos h0] at h ⊢
    obtain ⟨z, r, h1, h2⟩ := getV_ok (hb.drop s.nx) h
    have hg : getV (b.drop s.nx) = (z, (enc z).length, 0) := by rw [h2]; exact getV_enc h1 r
    refine ⟨h0, h, ?_, ?_⟩
    · show s.nx + _ = _
      rw [hg, encs_cons, encs_nil, List.append_nil]
    · show _ = _ ++ b.drop (s.nx + _)
      rw [hg, encs_cons, encs_nil, List.append_nil, ← List.drop_drop, h2]
      simp
  · rw [rdNum_bad h0] at h; exact absurd h h0
theorem rdMust_0 {ok : Bool} {e : Int} {s : Rd} (he : e ≠ 0) (h : (rdMust ok e s).bad = 0) : ok = true ∧ rdMust ok e s = s := by
  cases ok
  · by_cases h0 : s.bad = 0
    · rw [rdMust_no h0] at h; exact absurd h he
    · rw [rdMust_bad h0] at h; exact absurd h h0
  · exact ⟨rfl, rdMust_ok⟩
theorem rdMany_ok {b : List Int} {m : Int} {s : Rd} (hb : Bys b) (h : (rdMany b m s).2.bad = 0) : Eats b s (rdMany b m s).2 [(rdMany b m s).1] ∧ 1 ≤ (rdMany b m s).1 ∧ (rdMany b m s).1 ≤ m := by
  have h' : (rdMust (mayMany m (rdNum b s).1) 1 (rdNum b s).2).bad = 0 := h
  obtain ⟨h1, h2⟩ := rdMust_0 (by decide) h'
  have e1 : (rdMany b m s).1 = (rdNum b s).1 := by unfold rdMany; rw [if_pos h']
  have e2 : (rdMany b m s).2 = (rdNum b s).2 := h2
  rw [h2] at h'
  rw [e1, e2]
  have h3 : 1 ≤ (rdNum b s).1 ∧ (rdNum b s).1 ≤ m := by simpa [mayMany] using h1
  exact ⟨rdNum_ok hb h', h3⟩
theorem rdLess_ok {b : List Int} {s : Rd} (hb : Bys b) (h : (rdLess b s).2.bad = 0) : Eats b s (rdLess b s).2 [(rdLess b s).1] ∧ ((rdLess b s).1 = 0 ∨ (rdLess b s).1 = 1) := by
  have h' : (rdMust (mayLess (rdNum b s).1) 2 (rdNum b s).2).bad = 0 := h
  obtain ⟨h1, h2⟩ := rdMust_0 (by decide) h'
  have e1 : (rdLess b s).1 = (rdNum b s).1 := rfl
  have e2 : (rdLess b s).2 = (rdNum b s).2 := h2
  rw [h2] at h'
  rw [e1, e2]
  have h3 : (rdNum b s).1 = 0 ∨ (rdNum b s).1 = 1 := by simpa [mayLess] using h1
  exact ⟨rdNum_ok hb h', h3⟩
theorem rdAsk_ok {b : List Int} {f : Int} {s : Rd} (hb : Bys b) (hf : f ≠ -1) (h : (rdAsk b f s).2.bad = 0) : ∃ L, Eats b s (rdAsk b f s).2 L ∧ ndNums (rdAsk b f s).1 = f :: L := by
  unfold rdAsk at h ⊢
  dsimp only at h ⊢
  obtain ⟨h4, h5⟩ := rdLess_ok hb h
  have h3 := rdNum_ok hb h4.bad
  have h2 := rdNum_ok hb h3.bad
  have h1 := rdNum_ok hb h2.bad
  refine ⟨_, ((h1.trans h2).trans h3).trans h4, ?_⟩
  unfold ndNums
  rw [if_neg hf]
  generalize (rdLess b (rdNum b (rdNum b (rdNum b s).2).2).2).1 = z at h5 ⊢
  rcases h5 with rfl | rfl <;> rfl
theorem rdNode_ok {b : List Int} {s : Rd} (hb : Bys b) (h : (rdNode b s).2.bad = 0) : Eats b s (rdNode b s).2 (ndNums (rdNode b s).1) := by
  unfold rdNode at h ⊢
  by_cases hf : (rdNum b s).1 = -1
  · rw [if_pos hf] at h ⊢
    have h2 := rdNum_ok hb h
    have h1 := rdNum_ok hb h2.bad
    have := h1.trans h2
    rw [hf] at this
    exact this
  · rw [if_neg hf] at h ⊢
    obtain ⟨L, h2, h3⟩ := rdAsk_ok hb hf h
    have h1 := rdNum_ok hb h2.bad
    rw [h3]
    exact h1.trans h2
theorem rdNodes_ok {b : List Int} {s : Rd} (hb : Bys b) : ∀ k, (rdNodes b s k).2.bad = 0 → Eats b s (rdNodes b s k).2 ((rdNodes b s k).1.flatMap ndNums) ∧ (rdNodes b s k).1.length = k := by
  intro k
  induction k with
  | zero => intro h; exact ⟨.nil h, rfl⟩
  | succ k ih =>
    intro h
    have h2 := rdNode_ok hb (show (rdNode b (rdNodes b s k).2).2.bad = 0 from h)
    obtain ⟨h1, hl⟩ := ih h2.bad
    refine ⟨?_, by show (_ ++ [_]).length = _; rw [List.length_append, hl]; rfl⟩
    have := h1.trans h2
    show Eats b s (rdNode b (rdNodes b s k).2).2 ((_ ++ [_]).flatMap ndNums)
    rw [List.flatMap_append]
    simpa using this
theorem rdTree_ok {b : List Int} {s : Rd} (hb : Bys b) (h : (rdTree b s).2.bad = 0) : Eats b s (rdTree b s).2 (treeNums (rdTree b s).1) := by
  have h' : (rdNodes b (rdMany b 63 (rdNum b s).2).2 (rdMany b 63 (rdNum b s).2).1.toNat).2.bad = 0 := h
  obtain ⟨h3, hl⟩ := rdNodes_ok hb _ h'
  obtain ⟨h2, hp, _⟩ := rdMany_ok hb h3.bad
  have h1 := rdNum_ok hb h2.bad
  have := (h1.trans h2).trans h3
  have e : (((rdTree b s).1.2).length : Int) = (rdMany b 63 (rdNum b s).2).1 := by
    show ((rdNodes b _ _).1.length : Int) = _
    rw [hl]; omega
  unfold treeNums
  rw [e]
  exact this
theorem rdTrees_ok {b : List Int} {s : Rd} (hb : Bys b) : ∀ k, (rdTrees b s k).2.bad = 0 → Eats b s (rdTrees b s k).2 ((rdTrees b s k).1.flatMap treeNums) ∧ (rdTrees b s k).1.length = k := by
  intro k
  induction k with
  | zero => intro h; exact ⟨.nil h, rfl⟩
  | succ k ih =>
    intro h
    have h2 := rdTree_ok hb (show (rdTree b (rdTrees b s k).2).2.bad = 0 from h)
    obtain ⟨h1, hl⟩ := ih h2.bad
    refine ⟨?_, by show (_ ++ [_]).length = _; rw [List.length_append, hl]; rfl⟩
    have := h1.trans h2
    show Eats b s (rdTree b (rdTrees b s k).2).2 ((_ ++ [_]).flatMap treeNums)
    rw [List.flatMap_append]
    simpa using this
theorem rdT_ok {b : List Int} (hb : Bys b) (h : (rdT b).2.bad = 0) : Eats b rd0 (rdT b).2 (groveNums (rdF b).1 (rdW b).1 (rdT b).1) := by
  obtain ⟨h4, hl⟩ := rdTrees_ok (s := (rdM b).2) hb (rdM b).1.toNat h
  obtain ⟨h3, hp, _⟩ := rdMany_ok (m := 12) (s := (rdW b).2) hb h4.bad
  have h2 := rdNum_ok (s := (rdF b).2) hb h3.bad
  have h1 := rdNum_ok (s := rd0) hb h2.bad
  have := ((h1.trans h2).trans h3).trans h4
  have e : ((rdT b).1.length : Int) = (rdM b).1 := by
    show ((rdTrees b _ _).1.length : Int) = _
    rw [hl]
    have hp : 1 ≤ (rdM b).1 := hp
    omega
  unfold groveNums
  rw [e]
  exact this
theorem zip_back {α β : Type} : ∀ l : List (α × β), (l.map (·.1)).zip (l.map (·.2)) = l := by
  intro l
  induction l with
  | nil => rfl
  | cons x r ih => simp only [List.map_cons, List.zip_cons_cons, ih]
/-- what is read is written so -/
theorem enc_dec {b : List Int} (hb : Bys b) (h : (decE b).2 = 0) : decGE b = 0 ∧ encs (groveNums (rdF b).1 (rdW b).1 (rdT b).1) = b ∧ b.length ≤ 6000 := by
  unfold decE at h
  by_cases h1 : 6000 < b.length
  · rw [if_pos h1] at h; cases h
  rw [if_neg h1] at h
  by_cases h2 : (rdT b).2.bad = 0
  · rw [if_neg (not_not_intro h2)] at h
    by_cases h3 : (rdT b).2.nx = b.length
    · rw [if_neg (not_not_intro h3)] at h
      by_cases h4 : decGE b = 0
      · have := (rdT_ok hb h2).eq
        rw [h3, List.drop_length, List.append_nil] at this
        exact ⟨h4, this.symm, by omega⟩
      · rw [if_pos h4] at h; exact absurd h h4
    · rw [if_pos h3] at h; cases h
  · rw [if_pos h2] at h; exact absurd h h2

/-! ## what is written is read as it was; cut off it is not whole -/
/-- a reader of the first c bytes, at t of them all -/
def At (c t : Nat) (s : Rd) : Prop := (s.bad = 0 ∧ s.nx = t ∧ t ≤ c) ∨ (s.bad = 8 ∧ s.at_ ≤ c ∧ c < t)
theorem At.ne {c t : Nat} {s : Rd} (h : At c t s) (h8 : s.bad ≠ 0) : s.bad = 8 ∧ s.at_ ≤ c ∧ c < t := by
  rcases h with h | h
  · exact absurd h.1 h8
  · exact h
theorem At.far {c t t' : Nat} {s : Rd} (h : At c t s) (h8 : s.bad ≠ 0) (ht : t ≤ t') : At c t' s := by
  obtain ⟨h1, h2, h3⟩ := h.ne h8
  exact .inr ⟨h1, h2, by omega⟩
theorem rdNum_at {a : List Int} {c t : Nat} {z : Int} {s : Rd} (hz : In64 z) (r : List Int) (hd : a.drop t = enc z ++ r) (hs : At c t s) : At c (t + (enc z).length) (rdNum (a.take c) s).2 ∧ ((rdNum (a.take c) s).2.bad = 0 → (rdNum (a.take c) s).1 = z) := by
  rcases hs with ⟨h0, h1, ht⟩ | ⟨h8, h1, h2⟩
  · unfold rdNum
    rw [if_pos h0, h1, List.drop_take, hd]
    by_cases hc : (enc z).length ≤ c - t
    · rw [List.take_append, List.take_of_length_le hc, getV_enc hz]
      exact ⟨.inl ⟨rfl, rfl, by omega⟩, fun _ => rfl⟩
    · rw [List.take_append_of_le_length (by omega), getV_cut hz (by omega)]
      exact ⟨.inr ⟨rfl, ht, by omega⟩, fun h => absurd h (by show (8 : Int) ≠ 0; decide)⟩
  · have hb : s.bad ≠ 0 := by omega
    rw [rdNum_bad hb]
    exact ⟨.inr ⟨h8, h1, by omega⟩, fun h => absurd h hb⟩
theorem drop_to {a r : List Int} {t : Nat} {x : List Int} (h : a.drop t = x ++ r) : a.drop (t + x.length) = r := by
  rw [← List.drop_drop, h]; simp
theorem rdMany_at {a : List Int} {c t : Nat} {z m : Int} {s : Rd} (hz : In64 z) (h1 : 1 ≤ z) (hm : z ≤ m) (r : List Int) (hd : a.drop t = enc z ++ r) (hs : At c t s) : At c (t + (enc z).length) (rdMany (a.take c) m s).2 ∧ ((rdMany (a.take c) m s).2.bad = 0 → (rdMany (a.take c) m s).1 = z) := by
  obtain ⟨h2, h3⟩ := rdNum_at hz r hd hs
  unfold rdMany
  dsimp only
  by_cases h0 : (rdNum (a.take c) s).2.bad = 0
  · have e : mayMany m (rdNum (a.take c) s).1 = true := by rw [h3 h0]; unfold mayMany; exact decide_eq_true ⟨h1, hm⟩
    rw [e, rdMust_ok, if_pos h0]
    exact ⟨h2, h3⟩
  · rw [rdMust_bad h0, if_neg h0]
    exact ⟨h2, fun h => absurd h h0⟩
theorem rdLess_at {a : List Int} {c t : Nat} {z : Int} {s : Rd} (h1 : z = 0 ∨ z = 1) (r : List Int) (hd : a.drop t = enc z ++ r) (hs : At c t s) : At c (t + (enc z).length) (rdLess (a.take c) s).2 ∧ ((rdLess (a.take c) s).2.bad = 0 → (rdLess (a.take c) s).1 = z) := by
  obtain ⟨h2, h3⟩ := rdNum_at (by unfold In64; omega) r hd hs
  unfold rdLess
  dsimp only
  by_cases h0 : (rdNum (a.take c) s).2.bad = 0
  · have e : mayLess (rdNum (a.take c) s).1 = true := by rw [h3 h0]; unfold mayLess; exact decide_eq_true h1
    rw [e, rdMust_ok]
    exact ⟨h2, h3⟩
  · rw [rdMust_bad h0]
    exact ⟨h2, fun h => absurd h h0⟩
/-- a node as the bytes have it -/
structure NdGood (n : Nd) : Prop where
  f : In64 n.f
  c : In64 n.c
  l : In64 n.l
  r : In64 n.r
  v : In64 n.v
  leaf : n.f = -1 → n.c = 0 ∧ n.l = 0 ∧ n.r = 0 ∧ n.less = false
  ask : n.f ≠ -1 → n.v = 0
theorem NdGood.of {len i : Nat} {fe : Int} {n : Nd} (h : nodeE len i fe n = 0) (hl : len ≤ 63) (hf : fe ≤ 8) : NdGood n := by
  unfold nodeE at h
  by_cases hn : n.f = -1
  · rw [if_pos hn] at h
    by_cases h1 : n.v < -1000000
    · rw [if_pos h1] at h; cases h
    rw [if_neg h1] at h
    by_cases h2 : 1000000 < n.v
    · rw [if_pos h2] at h; cases h
    rw [if_neg h2] at h
    by_cases h3 : n.c = 0
    · rw [if_neg (not_not_intro h3)] at h
      by_cases h4 : n.l = 0
      · rw [if_neg (not_not_intro h4)] at h
        by_cases h5 : n.r = 0
        · rw [if_neg (not_not_intro h5)] at h
          by_cases h6 : n.less = true
          · rw [if_pos h6] at h; cases h
          · exact ⟨by rw [hn]; unfold In64; omega, by rw [h3]; unfold In64; omega, by rw [h4]; unfold In64; omega, by rw [h5]; unfold In64; omega, by unfold In64; omega, fun _ => ⟨h3, h4, h5, by simpa using h6⟩, fun h => absurd hn h⟩
        · rw [if_pos h5] at h; cases h
      · rw [if_pos h4] at h; cases h
    · rw [if_pos h3] at h; cases h
  · rw [if_neg hn] at h
    by_cases g1 : n.f < 0
    · rw [if_pos g1] at h; cases h
    rw [if_neg g1] at h
    by_cases g2 : fe ≤ n.f
    · rw [if_pos g2] at h; cases h
    rw [if_neg g2] at h
    by_cases g3 : n.c < -1000000
    · rw [if_pos g3] at h; cases h
    rw [if_neg g3] at h
    by_cases g4 : 1000000 < n.c
    · rw [if_pos g4] at h; cases h
    rw [if_neg g4] at h
    by_cases g5 : n.l ≤ i
    · rw [if_pos g5] at h; cases h
    rw [if_neg g5] at h
    by_cases g6 : len ≤ n.l
    · rw [if_pos g6] at h; cases h
    rw [if_neg g6] at h
    by_cases g7 : n.r ≤ i
    · rw [if_pos g7] at h; cases h
    rw [if_neg g7] at h
    by_cases g8 : len ≤ n.r
    · rw [if_pos g8] at h; cases h
    rw [if_neg g8] at h
    by_cases g9 : n.v = 0
    · exact ⟨by unfold In64; omega, by unfold In64; omega, by unfold In64; omega, by unfold In64; omega, by rw [g9]; unfold In64; omega, fun h => absurd h hn, fun _ => g9⟩
    · rw [if_pos g9] at h; cases h
theorem rdAsk_at {a : List Int} {c t : Nat} {n : Nd} {s : Rd} (hn : NdGood n) (hf : n.f ≠ -1) (r : List Int) (hd : a.drop t = encs [n.c, n.l, n.r, if n.less then 1 else 0] ++ r) (hs : At c t s) :
    At c (t + (encs [n.c, n.l, n.r, if n.less then 1 else 0]).length) (rdAsk (a.take c) n.f s).2 ∧ ((rdAsk (a.take c) n.f s).2.bad = 0 → (rdAsk (a.take c) n.f s).1 = n) := by
  simp only [encs_cons, encs_nil, List.append_nil, List.append_assoc] at hd
  obtain ⟨a1, b1⟩ := rdNum_at hn.c _ hd hs
  have hd := drop_to hd
  obtain ⟨a2, b2⟩ := rdNum_at hn.l _ hd a1
  have hd := drop_to hd
  obtain ⟨a3, b3⟩ := rdNum_at hn.r _ hd a2
  have hd := drop_to hd
  obtain ⟨a4, b4⟩ := rdLess_at (z := if n.less then 1 else 0) (by cases n.less <;> simp) _ hd a3
  have e : t + (encs [n.c, n.l, n.r, if n.less then 1 else 0]).length = t + (enc n.c).length + (enc n.l).length + (enc n.r).length + (enc (if n.less then 1 else 0)).length := by
    simp only [encs_cons, encs_nil, List.append_nil, List.length_append]; omega
  rw [e]
  refine ⟨a4, fun h => ?_⟩
  have h : (rdLess (a.take c) (rdNum (a.take c) (rdNum (a.take c) (rdNum (a.take c) s).2).2).2).2.bad = 0 := h
  have h3 : (rdNum (a.take c) (rdNum (a.take c) (rdNum (a.take c) s).2).2).2.bad = 0 := Classical.byContradiction fun h' => by rw [rdLess_bad h'] at h; exact h' h
  have h2 : (rdNum (a.take c) (rdNum (a.take c) s).2).2.bad = 0 := Classical.byContradiction fun h' => by rw [rdNum_bad h'] at h3; exact h' h3
  have h1 : (rdNum (a.take c) s).2.bad = 0 := Classical.byContradiction fun h' => by rw [rdNum_bad h'] at h2; exact h' h2
  unfold rdAsk
  rw [b1 h1, b2 h2, b3 h3, b4 h]
  have hv := hn.ask hf
  obtain ⟨nf, nc, nl, nr, ns, nv⟩ := n
  dsimp only at hv ⊢
  rw [hv]
  cases ns <;> rfl
theorem rdNode_at {a : List Int} {c t : Nat} {n : Nd} {s : Rd} (hn : NdGood n) (r : List Int) (hd : a.drop t = encs (ndNums n) ++ r) (hs : At c t s) :
    At c (t + (encs (ndNums n)).length) (rdNode (a.take c) s).2 ∧ ((rdNode (a.take c) s).2.bad = 0 → (rdNode (a.take c) s).1 = n) := by
  by_cases hb : (rdNum (a.take c) s).2.bad = 0
  · by_cases hf : n.f = -1
    · have e : ndNums n = [n.f, n.v] := by unfold ndNums; rw [if_pos hf]
      rw [e] at hd ⊢
      simp only [encs_cons, encs_nil, List.append_nil, List.append_assoc] at hd
      obtain ⟨a1, b1⟩ := rdNum_at hn.f _ hd hs
      have hd := drop_to hd
      obtain ⟨a2, b2⟩ := rdNum_at hn.v _ hd a1
      unfold rdNode
      rw [b1 hb, if_pos hf]
      have e : t + (encs [n.f, n.v]).length = t + (enc n.f).length + (enc n.v).length := by
        simp only [encs_cons, encs_nil, List.append_nil, List.length_append]; omega
      rw [e]
      refine ⟨a2, fun h => ?_⟩
      obtain ⟨l1, l2, l3, l4⟩ := hn.leaf hf
      rw [b2 h]
      obtain ⟨nf, nc, nl, nr, ns, nv⟩ := n
      dsimp only at hf l1 l2 l3 l4 ⊢
      rw [hf, l1, l2, l3, l4]
    · have e : ndNums n = n.f :: [n.c, n.l, n.r, if n.less then 1 else 0] := by unfold ndNums; rw [if_neg hf]
      rw [e] at hd ⊢
      rw [encs_cons, List.append_assoc] at hd
      obtain ⟨a1, b1⟩ := rdNum_at hn.f _ hd hs
      have hd := drop_to hd
      obtain ⟨a2, b2⟩ := rdAsk_at hn hf _ hd a1
      unfold rdNode
      rw [b1 hb, if_neg hf]
      rw [encs_cons, List.length_append, ← Nat.add_assoc]
      exact ⟨a2, b2⟩
  · have hz : ∃ r', a.drop t = enc n.f ++ r' := by
      rw [hd]
      unfold ndNums
      by_cases hf : n.f = -1
      · rw [if_pos hf, encs_cons, List.append_assoc]; exact ⟨_, rfl⟩
      · rw [if_neg hf, encs_cons, List.append_assoc]; exact ⟨_, rfl⟩
    obtain ⟨r', hz⟩ := hz
    obtain ⟨a1, b1⟩ := rdNum_at hn.f r' hz hs
    have hle : (enc n.f).length ≤ (encs (ndNums n)).length := by
      unfold ndNums
      by_cases hf : n.f = -1
      · rw [if_pos hf, encs_cons, List.length_append]; omega
      · rw [if_neg hf, encs_cons, List.length_append]; omega
    have h0 : (rdNum (a.take c) s).1 = 0 ∧ (rdNode (a.take c) s).2 = (rdNum (a.take c) s).2 := by
      have h0 : (rdNum (a.take c) s).1 = 0 := by
        unfold rdNum at hb ⊢
        by_cases hs0 : s.bad = 0
        · rw [if_pos hs0] at hb ⊢
          exact (getV_bad hb).1
        · rw [if_neg hs0]
      refine ⟨h0, ?_⟩
      unfold rdNode
      rw [h0, if_neg (by decide)]
      exact rdAsk_bad hb
    rw [h0.2]
    exact ⟨a1.far hb (by omega), fun h => absurd h hb⟩
theorem rdNodes_at {a : List Int} {c t : Nat} {l : List Nd} {s : Rd} (hl : ∀ n ∈ l, NdGood n) (r : List Int) (hd : a.drop t = encs (l.flatMap ndNums) ++ r) (hs : At c t s) : ∀ k, k ≤ l.length →
    At c (t + (encs ((l.take k).flatMap ndNums)).length) (rdNodes (a.take c) s k).2 ∧ ((rdNodes (a.take c) s k).2.bad = 0 → (rdNodes (a.take c) s k).1 = l.take k) := by
  intro k
  induction k with
  | zero => intro _; exact ⟨hs, fun _ => rfl⟩
  | succ k ih =>
    intro hk
    obtain ⟨h1, h2⟩ := ih (by omega)
    have hx : l[k]? = some l[k] := List.getElem?_eq_getElem (by omega)
    have e : l.take (k + 1) = l.take k ++ [l[k]] := by rw [List.take_add_one, hx]; rfl
    have e2 : l = l.take k ++ ([l[k]] ++ l.drop (k + 1)) := by
      rw [← List.append_assoc, ← e]; exact (List.take_append_drop _ _).symm
    have hd2 : a.drop (t + (encs ((l.take k).flatMap ndNums)).length) = encs (ndNums l[k]) ++ (encs ((l.drop (k + 1)).flatMap ndNums) ++ r) := by
      rw [← List.drop_drop, hd]
      have : encs (l.flatMap ndNums) = encs ((l.take k).flatMap ndNums) ++ (encs (ndNums l[k]) ++ encs ((l.drop (k + 1)).flatMap ndNums)) := by
        conv => lhs; rw [e2]
        rw [List.flatMap_append, List.flatMap_append, encs_app, encs_app]
        simp
      rw [this]
      simp
    obtain ⟨h3, h4⟩ := rdNode_at (hl _ (List.getElem_mem (by omega))) _ hd2 h1
    rw [e, List.flatMap_append, encs_app, List.length_append, ← Nat.add_assoc]
    have e3 : [l[k]].flatMap ndNums = ndNums l[k] := by simp
    rw [e3]
    refine ⟨h3, fun h => ?_⟩
    have h : (rdNode (a.take c) (rdNodes (a.take c) s k).2).2.bad = 0 := h
    have h5 : (rdNodes (a.take c) s k).2.bad = 0 := Classical.byContradiction fun h' => by rw [rdNode_bad h'] at h; exact h' h
    show (rdNodes (a.take c) s k).1 ++ [_] = _
    rw [h2 h5, h4 h]
structure TrGood (x : Int × List Nd) : Prop where
  w : In64 x.1
  pos : 1 ≤ x.2.length
  most : x.2.length ≤ 63
  nd : ∀ n ∈ x.2, NdGood n
theorem rdTree_at {a : List Int} {c t : Nat} {x : Int × List Nd} {s : Rd} (hx : TrGood x) (r : List Int) (hd : a.drop t = encs (treeNums x) ++ r) (hs : At c t s) :
    At c (t + (encs (treeNums x)).length) (rdTree (a.take c) s).2 ∧ ((rdTree (a.take c) s).2.bad = 0 → (rdTree (a.take c) s).1 = x) := by
  have e : encs (treeNums x) = enc x.1 ++ (enc (x.2.length : Int) ++ encs (x.2.flatMap ndNums)) := by
    unfold treeNums
    rw [encs_app, encs_cons, encs_cons, encs_nil, List.append_nil, List.append_assoc]
  rw [e, List.append_assoc, List.append_assoc] at hd
  have hp := hx.pos
  have hm := hx.most
  obtain ⟨a1, b1⟩ := rdNum_at hx.w _ hd hs
  have hd := drop_to hd
  obtain ⟨a2, b2⟩ := rdMany_at (m := 63) (by unfold In64; omega) (by omega) (by omega) _ hd a1
  have hd := drop_to hd
  rw [e, List.length_append, List.length_append, ← Nat.add_assoc, ← Nat.add_assoc]
  by_cases h2 : (rdMany (a.take c) 63 (rdNum (a.take c) s).2).2.bad = 0
  · have h1 : (rdNum (a.take c) s).2.bad = 0 := Classical.byContradiction fun h' => by rw [rdMany_bad h'] at h2; exact h' h2
    obtain ⟨a3, b3⟩ := rdNodes_at hx.nd _ hd a2 x.2.length (Nat.le_refl _)
    rw [List.take_length] at a3 b3
    unfold rdTree
    rw [b2 h2, Int.toNat_natCast]
    refine ⟨a3, fun h => ?_⟩
    dsimp only at h ⊢
    rw [b3 h, b1 h1]
  · have e2 : (rdTree (a.take c) s).2 = (rdMany (a.take c) 63 (rdNum (a.take c) s).2).2 := rdNodes_bad h2 _
    rw [e2]
    exact ⟨a2.far h2 (by omega), fun h => absurd h h2⟩
theorem rdTrees_at {a : List Int} {c t : Nat} {l : List (Int × List Nd)} {s : Rd} (hl : ∀ n ∈ l, TrGood n) (r : List Int) (hd : a.drop t = encs (l.flatMap treeNums) ++ r) (hs : At c t s) : ∀ k, k ≤ l.length →
    At c (t + (encs ((l.take k).flatMap treeNums)).length) (rdTrees (a.take c) s k).2 ∧ ((rdTrees (a.take c) s k).2.bad = 0 → (rdTrees (a.take c) s k).1 = l.take k) := by
  intro k
  induction k with
  | zero => intro _; exact ⟨hs, fun _ => rfl⟩
  | succ k ih =>
    intro hk
    obtain ⟨h1, h2⟩ := ih (by omega)
    have hx : l[k]? = some l[k] := List.getElem?_eq_getElem (by omega)
    have e : l.take (k + 1) = l.take k ++ [l[k]] := by rw [List.take_add_one, hx]; rfl
    have e2 : l = l.take k ++ ([l[k]] ++ l.drop (k + 1)) := by
      rw [← List.append_assoc, ← e]; exact (List.take_append_drop _ _).symm
    have hd2 : a.drop (t + (encs ((l.take k).flatMap treeNums)).length) = encs (treeNums l[k]) ++ (encs ((l.drop (k + 1)).flatMap treeNums) ++ r) := by
      rw [← List.drop_drop, hd]
      have : encs (l.flatMap treeNums) = encs ((l.take k).flatMap treeNums) ++ (encs (treeNums l[k]) ++ encs ((l.drop (k + 1)).flatMap treeNums)) := by
        conv => lhs; rw [e2]
        rw [List.flatMap_append, List.flatMap_append, encs_app, encs_app]
        simp
      rw [this]
      simp
    obtain ⟨h3, h4⟩ := rdTree_at (hl _ (List.getElem_mem (by omega))) _ hd2 h1
    rw [e, List.flatMap_append, encs_app, List.length_append, ← Nat.add_assoc]
    have e3 : [l[k]].flatMap treeNums = treeNums l[k] := by simp
    rw [e3]
    refine ⟨h3, fun h => ?_⟩
    have h : (rdTree (a.take c) (rdTrees (a.take c) s k).2).2.bad = 0 := h
    have h5 : (rdTrees (a.take c) s k).2.bad = 0 := Classical.byContradiction fun h' => by rw [rdTree_bad h'] at h; exact h' h
    show (rdTrees (a.take c) s k).1 ++ [_] = _
    rw [h2 h5, h4 h]
structure GvGood (f way : Int) (ts : List (Int × List Nd)) : Prop where
  f : In64 f
  way : In64 way
  pos : 1 ≤ ts.length
  most : ts.length ≤ 12
  ts : ∀ x ∈ ts, TrGood x
theorem rdT_at {f way : Int} {ts : List (Int × List Nd)} (hg : GvGood f way ts) (c : Nat) :
    At c (encs (groveNums f way ts)).length (rdT ((encs (groveNums f way ts)).take c)).2 ∧ ((rdT ((encs (groveNums f way ts)).take c)).2.bad = 0 → (rdF ((encs (groveNums f way ts)).take c)).1 = f ∧ (rdW ((encs (groveNums f way ts)).take c)).1 = way ∧ (rdT ((encs (groveNums f way ts)).take c)).1 = ts) := by
  have e : encs (groveNums f way ts) = enc f ++ (enc way ++ (enc (ts.length : Int) ++ encs (ts.flatMap treeNums))) := by
    unfold groveNums
    rw [encs_app, encs_cons, encs_cons, encs_cons, encs_nil, List.append_nil, List.append_assoc, List.append_assoc]
  obtain ⟨a, ha⟩ : ∃ a, a = encs (groveNums f way ts) := ⟨_, rfl⟩
  rw [← ha] at e ⊢
  have hlen : a.length = 0 + (enc f).length + (enc way).length + (enc (ts.length : Int)).length + (encs (ts.flatMap treeNums)).length := by rw [e]; simp only [List.length_append]; omega
  have hd : a.drop 0 = enc f ++ (enc way ++ (enc (ts.length : Int) ++ encs (ts.flatMap treeNums))) := e
  have hp := hg.pos
  have hm := hg.most
  have a0 : At c 0 rd0 := .inl ⟨rfl, rfl, Nat.zero_le _⟩
  obtain ⟨a1, b1⟩ := rdNum_at hg.f _ hd a0
  have hd := drop_to hd
  obtain ⟨a2, b2⟩ := rdNum_at hg.way _ hd a1
  have hd := drop_to hd
  obtain ⟨a3, b3⟩ := rdMany_at (m := 12) (by unfold In64; omega) (by omega) (by omega) _ hd a2
  have hd := drop_to hd
  rw [hlen]
  have hd : a.drop (0 + (enc f).length + (enc way).length + (enc (ts.length : Int)).length) = encs (ts.flatMap treeNums) ++ [] := by rw [hd, List.append_nil]
  by_cases h3 : (rdM (a.take c)).2.bad = 0
  · have h2 : (rdW (a.take c)).2.bad = 0 := Classical.byContradiction fun h' => by unfold rdM at h3; rw [rdMany_bad h'] at h3; exact h' h3
    have h1 : (rdF (a.take c)).2.bad = 0 := Classical.byContradiction fun h' => by unfold rdW at h2; rw [rdNum_bad h'] at h2; exact h' h2
    obtain ⟨a4, b4⟩ := rdTrees_at hg.ts _ hd a3 ts.length (Nat.le_refl _)
    rw [List.take_length] at a4 b4
    have e3 : (rdM (a.take c)).1 = ts.length := b3 h3
    have e4 : rdT (a.take c) = rdTrees (a.take c) (rdM (a.take c)).2 ts.length := by unfold rdT; rw [e3, Int.toNat_natCast]
    rw [e4]
    exact ⟨a4, fun h => ⟨b1 h1, b2 h2, b4 h⟩⟩
  · have e2 : (rdT (a.take c)).2 = (rdM (a.take c)).2 := rdTrees_bad h3 _
    rw [e2]
    exact ⟨At.far a3 h3 (by omega), fun h => absurd h h3⟩
theorem GRight.good {g : Gv} (h : GRight g) : GvGood g.f g.way g.pairs := by
  have h0 := h.f0; have h8 := h.f8; have w1 := h.way1; have w3 := h.way3; have hp := h.pos; have hm := h.most; have hw := h.wlen
  have hl : g.pairs.length = g.ts.length := by unfold Gv.pairs Gv.trees; rw [List.length_zip, List.length_map]; omega
  refine ⟨by unfold In64; omega, by unfold In64; omega, by omega, by omega, fun x hx => ?_⟩
  obtain ⟨x1, x2⟩ := x
  obtain ⟨q1, q2⟩ := List.of_mem_zip hx
  obtain ⟨t, ht, rfl⟩ := List.mem_map.1 q2
  obtain ⟨u1, u2⟩ := h.weights x1 q1
  have hr := right_of (h.trees t ht)
  have := hr.pos
  refine ⟨by unfold In64; dsimp only; omega, hr.pos, hr.most, fun n hn => ?_⟩
  obtain ⟨i, hi, rfl⟩ := List.getElem_of_mem hn
  exact NdGood.of (hr.node i _ (List.getElem?_eq_getElem hi)) hr.most hr.fe8
theorem Gv.pairs_fst {g : Gv} (h : GRight g) : g.pairs.map (·.1) = g.ws := by
  unfold Gv.pairs
  exact List.map_fst_zip (by rw [g.trees_len, h.wlen]; exact Nat.le_refl _)
theorem Gv.pairs_snd {g : Gv} (h : GRight g) : g.pairs.map (·.2) = g.trees := by
  unfold Gv.pairs
  exact List.map_snd_zip (by rw [g.trees_len, h.wlen]; exact Nat.le_refl _)
theorem Gv.enc0 {g : Gv} (h : g.encE = 0) : GRight g ∧ (encs g.nums).length ≤ 6000 := by
  unfold Gv.encE at h
  by_cases h1 : g.e = 0
  · rw [if_pos h1] at h
    by_cases h2 : 6000 < (encs g.nums).length
    · rw [if_pos h2] at h; cases h
    · exact ⟨groveE_right h1, by omega⟩
  · rw [if_neg h1] at h; exact absurd h h1
/-- what is written is read as it was -/
theorem dec_enc {g : Gv} (h : g.encE = 0) : decE (encs g.nums) = (0, 0) ∧ (rdF (encs g.nums)).1 = g.f ∧ (rdW (encs g.nums)).1 = g.way ∧ (rdT (encs g.nums)).1 = g.pairs := by
  obtain ⟨hr, hl⟩ := Gv.enc0 h
  obtain ⟨h1, h2⟩ := rdT_at hr.good (encs g.nums).length
  have e : (encs (groveNums g.f g.way g.pairs)).take (encs g.nums).length = encs g.nums := List.take_length
  rw [e] at h1 h2
  rcases h1 with ⟨q0, q1, _⟩ | ⟨_, _, q⟩
  · obtain ⟨r1, r2, r3⟩ := h2 q0
    refine ⟨?_, r1, r2, r3⟩
    have hge : decGE (encs g.nums) = 0 := by
      unfold decGE
      rw [r1, r2, r3, Gv.pairs_fst hr, Gv.pairs_snd hr]
      exact hr.e0
    unfold decE
    rw [if_neg (by omega), if_neg (not_not_intro q0), if_neg (not_not_intro (show _ = (encs g.nums).length from q1)), if_neg (not_not_intro hge)]
  · exact absurd q (Nat.lt_irrefl _)
/-- cut off it is not whole -/
theorem dec_cut {g : Gv} (h : g.encE = 0) {c : Nat} (hc : c < (encs g.nums).length) : (decE ((encs g.nums).take c)).2 = 8 ∧ (decE ((encs g.nums).take c)).1 ≤ c := by
  obtain ⟨hr, hl⟩ := Gv.enc0 h
  obtain ⟨h1, h2⟩ := rdT_at hr.good c
  have h1 : At c (encs g.nums).length (rdT ((encs g.nums).take c)).2 := h1
  rcases h1 with ⟨_, _, q⟩ | ⟨q0, q1, _⟩
  · omega
  · unfold decE
    rw [if_neg (by rw [List.length_take]; omega), if_pos (by rw [q0]; decide)]
    exact ⟨q0, q1⟩
theorem nd64 {n : Nd} (h : NdGood n) : ∀ x ∈ ndNums n, In64 x := by
  unfold ndNums
  intro x hx
  by_cases hf : n.f = -1
  · rw [if_pos hf] at hx
    simp at hx
    rcases hx with rfl | rfl
    · exact h.f
    · exact h.v
  · rw [if_neg hf] at hx
    simp at hx
    rcases hx with rfl | rfl | rfl | rfl | rfl
    · exact h.f
    · exact h.c
    · exact h.l
    · exact h.r
    · unfold In64; split <;> omega
theorem tree64 {x : Int × List Nd} (h : TrGood x) : ∀ y ∈ treeNums x, In64 y := by
  unfold treeNums
  intro y hy
  rcases List.mem_append.1 hy with hy | hy
  · simp at hy
    rcases hy with rfl | rfl
    · exact h.w
    · have := h.most; unfold In64; omega
  · obtain ⟨n, hn, hy⟩ := List.mem_flatMap.1 hy
    exact nd64 (h.nd n hn) y hy
theorem nums64 {f way : Int} {ts : List (Int × List Nd)} (h : GvGood f way ts) : ∀ y ∈ groveNums f way ts, In64 y := by
  unfold groveNums
  intro y hy
  rcases List.mem_append.1 hy with hy | hy
  · simp at hy
    rcases hy with rfl | rfl | rfl
    · exact h.f
    · exact h.way
    · have := h.most; unfold In64; omega
  · obtain ⟨n, hn, hy⟩ := List.mem_flatMap.1 hy
    exact tree64 (h.ts n hn) y hy
end Go.Proofs.YtijgiieoinmjhaaDoor
