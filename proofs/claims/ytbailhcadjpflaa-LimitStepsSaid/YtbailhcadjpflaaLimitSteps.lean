/- LimitSteps: the plain law and the walk. Conditions: arguments read as lists. -/
import Derived.Test.YtbailhcadjpflaaSteps
import Derived.Test.YtbailhcadjpflaaPathRegions
import Derived.Test.YtbailhcadjpflaaCutFiner
namespace Go.Proofs.Ytbailhcadjpflaa
set_option linter.unusedVariables false
set_option linter.unusedSimpArgs false
open Go.RowKit

theorem asks_len (fe : Int) (h : fe ≠ -1) : ∀ t : List Nd, (cutsOf t fe).length + nLeaf t ≤ t.length := by
  intro t
  induction t with
  | nil => exact Nat.le_refl _
  | cons n r ih =>
    have hn : nLeaf (n :: r) = (if n.f = -1 then 1 else 0) + nLeaf r := rfl
    rw [hn]
    unfold cutsOf at *
    rw [List.filter_cons]
    by_cases h1 : n.f = fe
    · have h2 : (n.f == fe) = true := by simpa using h1
      rw [h2, if_pos rfl, if_neg (by omega)]
      simp only [List.map_cons, List.length_cons] at ih ⊢
      omega
    · have h2 : (n.f == fe) = false := by simpa using h1
      rw [h2]
      simp only [Bool.false_eq_true, if_false, List.length_cons]
      split <;> omega
theorem cuts_mem {t : List Nd} {fe x : Int} : x ∈ cutsOf t fe ↔ ∃ n ∈ t, n.f = fe ∧ n.c = x := by
  unfold cutsOf
  rw [List.mem_map]
  constructor
  · rintro ⟨n, hn, rfl⟩
    obtain ⟨h1, h2⟩ := List.mem_filter.1 hn
    exact ⟨n, h1, by simpa using h2, rfl⟩
  · rintro ⟨n, hn, h1, h2⟩
    exact ⟨n, List.mem_filter.2 ⟨hn, by simpa using h1⟩, h2⟩
theorem stepC_spec (t : List Nd) (fe : Int) : (stepC t fe).Pairwise (· < ·) ∧ ∀ x, x ∈ stepC t fe ↔ ∃ n ∈ t, n.f = fe ∧ n.c = x := by
  unfold stepC
  obtain ⟨h1, h2⟩ := compactL_sorted (sortL_sorted (cutsOf t fe))
  exact ⟨h1, fun x => by rw [h2, (sortL_perm _).mem_iff, cuts_mem]⟩
theorem stepC_len {t : List Nd} {n : Nat} (hR : Right t n) (fe : Int) (h : fe ≠ -1) : (stepC t fe).length ≤ 31 := by
  have h1 := compactL_len (sortL (cutsOf t fe))
  rw [sortL_len] at h1
  have h2 := asks_len fe h t
  have h3 := hR.halves
  have h4 := hR.most
  unfold stepC
  omega
/-- of a list that rises: what stands at its bin, less one, is the greatest that is at most a number -/
theorem bin_rep {l : List Int} (h : l.Pairwise (· < ·)) (c : Int) : binN l c ≤ l.length ∧ (∀ (j : Nat) x, l[j]? = some x → (j < binN l c ↔ x ≤ c)) := by
  induction l with
  | nil => exact ⟨Nat.le_refl _, fun j x h => by simp at h⟩
  | cons a r ih =>
    rw [List.pairwise_cons] at h
    obtain ⟨h1, h2⟩ := ih h.2
    unfold binN at *
    rw [List.filter_cons]
    by_cases ha : a ≤ c
    · simp only [ha, decide_true, if_true, List.length_cons]
      refine ⟨by omega, fun j x hx => ?_⟩
      cases j with
      | zero => simp at hx; subst hx; simp [ha]
      | succ j => rw [← h2 j x (by simpa using hx)]; omega
    · have h0 : (r.filter fun x => decide (x ≤ c)) = [] := by
        rw [List.filter_eq_nil_iff]
        intro x hx
        have := h.1 x hx
        simp; omega
      simp only [ha, decide_false, Bool.false_eq_true, if_false, h0, List.length_nil]
      refine ⟨Nat.zero_le _, fun j x hx => ?_⟩
      constructor
      · intro hj; omega
      · intro hxc
        exfalso
        cases j with
        | zero => simp at hx; subst hx; exact ha hxc
        | succ j => have := h.1 x (List.mem_of_getElem? (by simpa using hx : r[j]? = some x)); omega
theorem leaf_same {t : List Nd} {r s : List Int} (h : ∀ (i : Nat) n, t[i]? = some n → n.f ≠ -1 → goes n (cellAt r n.f) = goes n (cellAt s n.f)) : ∀ (F i : Nat), leafFrom t r F i = leafFrom t s F i := by
  intro F
  induction F with
  | zero => intro i; rfl
  | succ F ih =>
    intro i
    cases hn : t[i]? with
    | none => simp only [leafFrom, hn]
    | some n =>
      by_cases hf : n.f = -1
      · rw [leafFrom_leaf hn hf, leafFrom_leaf hn hf]
      · rw [leafFrom_step hn hf, leafFrom_step hn hf]
        have : nextOf n (cellAt r n.f) = nextOf n (cellAt s n.f) := by unfold nextOf; rw [h i n hn hf]
        rw [this, ih]
theorem cellAt_self {r : List Int} {f : Nat} (h : f < r.length) (c : Int) : cellAt (r.set f c) (f : Int) = c := by
  unfold cellAt
  rw [Int.toNat_natCast, List.getD_eq_getElem?_getD, List.getElem?_set_self h]
  rfl
/-- what comes with a cell is what is told of its bin -/
theorem step_bin {t : List Nd} {row : List Int} {n f : Nat} (hR : Right t n) (hl : row.length = n) (hf : f < n) {c : Int} (hc : -1000000 ≤ c ∧ c ≤ 1000000) :
    (stepV t row f (stepC t f))[binN (stepC t f) c]? = some (valOf t (row.set f c)) := by
  obtain ⟨hs, hm⟩ := stepC_spec t f
  obtain ⟨h1, h2⟩ := bin_rep hs c
  have key : ∀ z : Int, z ≠ -1125899906842624 → (∀ x ∈ stepC t f, x ≤ z ↔ x ≤ c) → valOf t (row.set f z) = valOf t (row.set f c) := by
    intro z hz hx
    unfold valOf leafOf
    rw [leaf_same (r := row.set f z) (s := row.set f c)]
    intro i m hi hmf
    by_cases he : m.f = f
    · rw [he, cellAt_self (by omega), cellAt_self (by omega)]
      unfold goes
      rw [if_neg hz, if_neg (by omega)]
      have := hx m.c ((hm m.c).2 ⟨m, List.mem_of_getElem? hi, he, rfl⟩)
      rw [Bool.eq_iff_iff]; simp; omega
    · rw [cellAt_set (hR.asks i m hi hmf).1 he, cellAt_set (hR.asks i m hi hmf).1 he]
  have hcut : ∀ x ∈ stepC t f, -1000000 ≤ x ∧ x ≤ 1000000 := by
    intro x hx
    obtain ⟨m, hm1, hm2, rfl⟩ := (hm x).1 hx
    obtain ⟨i, hi⟩ := mem_at hm1
    rcases node_of (hR.node i m hi) with h3 | h3
    · omega
    · exact ⟨h3.2.2.1, h3.2.2.2.1⟩
  unfold stepV
  cases hb : binN (stepC t f) c with
  | zero =>
    rw [List.getElem?_cons_zero]
    congr 1
    refine key _ (by decide) (fun x hx => ?_)
    obtain ⟨j, hj⟩ := List.mem_iff_getElem?.1 hx
    have h3 := h2 j x hj
    rw [hb] at h3
    have := hcut x hx
    constructor
    · intro h; omega
    · intro h; have := h3.2 h; omega
  | succ b =>
    rw [List.getElem?_cons_succ, List.getElem?_map]
    have hbl : b < (stepC t f).length := by omega
    have hbx := List.getElem?_eq_getElem hbl
    rw [hbx]
    simp only [Option.map_some]
    congr 1
    have hbc := (h2 b _ hbx).1 (by omega)
    have hbi := hcut _ (List.mem_of_getElem? hbx)
    refine key _ (by omega) (fun x hx => ?_)
    obtain ⟨j, hj⟩ := List.mem_iff_getElem?.1 hx
    have h3 := h2 j x hj
    rw [hb] at h3
    constructor
    · intro h; omega
    · intro h
      have hjb := h3.2 h
      rcases Nat.lt_or_ge j b with h4 | h4
      · have := List.pairwise_iff_getElem.1 hs j b (by omega) hbl h4
        obtain ⟨hjl, hje⟩ := List.getElem?_eq_some_iff.1 hj
        rw [hje] at this; omega
      · obtain rfl : j = b := by omega
        rw [hbx] at hj; cases hj; exact Int.le_refl _
theorem step_fact : stepsE tree579 [0] 0 = 0 ∧ stepC tree579 0 = [5] ∧ stepV tree579 [0] 0 [5] = [7, 9] := by
  refine ⟨by decide, ?_, by decide⟩
  have h1 : cutsOf tree579 0 = [5] := by decide
  unfold stepC
  rw [h1, ← sortL_of (a := [5]) (List.Perm.refl _) (by simp)]
  rfl

set_option maxRecDepth 100000 in
set_option maxHeartbeats 4000000 in
theorem limitSteps_walk (A C : Option Addr) (m d k q : Nat) (t : List Nd) (row : List Int) (fe ce : Int) (w : World) (ht : NReads w w.heap.size A m t) (hr : IReads w w.heap.size C k row) (hm : m ≤ maxLen) (hk : k ≤ maxLen) (hC : C = none → q = 0) :
    Calls Try.prog 3 #[.slice A m d, .slice C k q, .int .i64 fe, .int .i64 ce] w fun e w' => e = .returned (.bool true) ∧ Below w.heap.size w w' := by
  obtain ⟨Z, hZ⟩ : ∃ Z, Z = Obj.cells #[.int .i64 0, .int .i64 5, .int .i64 1, .int .i64 2, .bool false, .int .i64 0, .int .i64 (-1), .int .i64 0, .int .i64 0, .int .i64 0, .bool false, .int .i64 7, .int .i64 (-1), .int .i64 0, .int .i64 0, .int .i64 0, .bool false, .int .i64 9] 25 := ⟨_, rfl⟩
  obtain ⟨Y, hY⟩ : ∃ Z, Z = Obj.cells #[.int .i64 0] 3 := ⟨_, rfl⟩
  have hT0 : NReads (w.alloc Z) (w.heap.size + 1) (some ⟨w.heap.size, 0, none⟩) 3 tree579 := by
    rw [hZ]; exact Reads.new_ w 6 3 (tree579.flatMap Nd.cells) 25 rfl
  have hs0 : ((w.alloc Z).alloc Y).heap.size = w.heap.size + 1 + 1 := by simp
  have hT1 : NReads ((w.alloc Z).alloc Y) (w.heap.size + 1 + 1) (some ⟨w.heap.size, 0, none⟩) 3 tree579 := (Reads.alloc hT0 (by simp) _).more (by omega)
  have hI1 : IReads ((w.alloc Z).alloc Y) (w.heap.size + 1 + 1) (some ⟨w.heap.size + 1, 0, none⟩) 1 [0] := by
    have h := Reads.new_ (w.alloc Z) 1 1 [.int .i64 0] 3 rfl
    rw [World.size_alloc] at h
    rw [hY]; exact h
  have hb0 : Below w.heap.size w ((w.alloc Z).alloc Y) := ((Below.refl _ _).alloc (Nat.le_refl _) _).alloc (by simp) _
  have HF := hide (Steps_any (some ⟨w.heap.size, 0, none⟩) (some ⟨w.heap.size + 1, 0, none⟩) 3 3 1 1 tree579 [0] 0 _ (by rw [hs0]; exact hT1) (by rw [hs0]; exact hI1) (by decide) (by decide) (by intro h; cases h))
  have HZ := hide hZ
  have HY := hide hY
  have HL := hide ht.len
  have HLR := hide hr.len
  clear hZ hY hT0 hT1 hI1
  go_enter Try.func3, Try.ntmps3
  go_wp2_with fail
  rw [← unhide HZ, ← unhide HY]
  refine (unhide HF).mono ?_
  rintro e w1 ⟨A1, n1, c1, A2, n2, c2, C1, V1, rfl, hr1, hr2, hok1, hno1, hb1⟩
  obtain ⟨hC1, hV1⟩ := hok1 step_fact.1
  have hC1' : C1 = [5] := hC1.trans step_fact.2.1
  have hV1' : V1 = [7, 9] := by rw [hV1, step_fact.2.1]; exact step_fact.2.2
  subst hC1' hV1'
  obtain rfl : n1 = 1 := hr1.len.symm
  obtain rfl : n2 = 2 := hr2.len.symm
  rw [step_fact.1, errV_0 rfl]
  clear HF HZ HY hok1 hno1 hC1 hV1 hs0
  generalize (w.alloc Z).alloc Y = W0 at *
  have hB1 : Below w.heap.size w w1 := hb0.trans (hb1.mono hb0.size)
  have hs1 := hB1.size
  obtain ⟨b1, o1, s1, rfl, _, hx1, e1⟩ := hr1.get (k := 0) (by omega)
  obtain ⟨b2, o2, s2, rfl, _, hx2, e2⟩ := hr2.get (k := 1) (by omega)
  cases hx1
  cases hx2
  rw [Nat.add_zero] at e1
  clear hb1 hb0 hr1 hr2
  go_wp2_with fail
  refine (Steps_any A C m d k q t row fe _ ((ht.below hB1).more hs1) ((hr.below hB1).more hs1) hm hk hC).mono ?_
  rintro e w2 ⟨A3, n3, c3, A4, n4, c4, CS, VS, rfl, hr3, hr4, hok, hno, hb2⟩
  have hB2 := hB1.trans (hb2.mono hs1)
  have hs2 := hB2.size
  clear hb2 hB1 hs1 e1 e2 hno
  by_cases h0 : stepsE t row fe = 0
  case neg =>
    have HE := hide (errV_1 h0)
    rw [unhide HE]
    clear h0 hok
    go_wp2_with fail
    go_ret
    exact ⟨rfl, hB2⟩
  obtain ⟨rfl, rfl⟩ := hok h0
  have hre : readyE t row = 0 := by
    unfold stepsE at h0
    by_cases h : readyE t row = 0
    · exact h
    · rw [if_neg h] at h0; exact absurd h0 h
  have hfe : 0 ≤ fe ∧ fe < k := by
    unfold stepsE at h0
    rw [if_pos hre, hr.len] at h0
    by_cases h1 : fe < 0
    · rw [if_pos h1] at h0; cases h0
    · rw [if_neg h1] at h0
      by_cases h2 : (k : Int) ≤ fe
      · rw [if_pos h2] at h0; cases h0
      · omega
  obtain ⟨f, rfl⟩ : ∃ f : Nat, fe = f := ⟨fe.toNat, by omega⟩
  have hfk : f < k := by omega
  obtain ⟨hrow0, hR, h8⟩ := readyE_right hre
  rw [hr.len] at hR h8
  obtain ⟨hs, hmem⟩ := stepC_spec t f
  have hlen31 := stepC_len hR f (by omega)
  have hcut : ∀ x ∈ stepC t f, cellB x = true := by
    intro x hx
    obtain ⟨y, hy1, hy2, rfl⟩ := (hmem x).1 hx
    obtain ⟨i, hi⟩ := mem_at hy1
    rcases node_of (hR.node i y hi) with h3 | h3
    · omega
    · exact cellB_t.2 ⟨h3.2.2.1, h3.2.2.2.1⟩
  have hce : cutE (stepC t f) = 0 := cutE_ok (by omega) hcut hs
  rw [errV_0 h0]
  obtain ⟨K, hK⟩ : ∃ K, K = (stepC t f).length := ⟨_, rfl⟩
  obtain rfl : n3 = K := by rw [hK]; exact hr3.len.symm
  have hn31 : n3 ≤ 31 := by rw [hK]; exact hlen31
  obtain rfl : n4 = n3 + 1 := by rw [hK]; have := hr4.len; unfold stepV at this; simpa using this.symm
  have hbinE : binE (stepC t f) ce = if cellB ce = true then 0 else 1 := by unfold binE; rw [if_pos hce]
  by_cases hcc : cellB ce = true
  · have hc := cellB_t.1 hcc
    have hbe : binE (stepC t f) ce = 0 := by rw [hbinE, if_pos hcc]
    have hbv : binV (stepC t f) ce = binN (stepC t f) ce := by unfold binV; rw [if_pos hbe]
    have hstep := step_bin hR hr.len hfk hc
    have hbl := (bin_rep hs ce).1
    obtain ⟨b, hb⟩ : ∃ b, b = binN (stepC t f) ce := ⟨_, rfl⟩
    rw [← hb] at hstep hbv hbl
    rw [Int.toNat_natCast] at hr4
    have hre2 := readyE_set (f := f) hre hc
    have hev : evalV t (row.set f ce) = valOf t (row.set f ce) := by unfold evalV; rw [if_pos hre2]; rfl
    obtain ⟨V, hV⟩ : ∃ V, V = valOf t (row.set f ce) := ⟨_, rfl⟩
    rw [← hV] at hstep hev
    rw [← hK] at hbl
    obtain ⟨b5, o5, y5, rfl, hbl5, hy5, e5⟩ := hr4.get (k := b) (by omega)
    rw [hstep] at hy5
    cases hy5
    have HBE := hide (errV_0 hbe)
    have HBV := hide hbv
    have HEV := hide hev
    have HRE := hide (errV_0 hre2)
    have hbB := bin_any A3 n3 c3 (stepC t f) ce w2 hr3 (by unfold maxLen; omega)
    have HBB := hide hbB
    clear hbB h0 hok hre hR hs hmem hcut hce hbinE hcc hbe hbv hstep hb hre2 hev hV hK hr4 hrow0
    go_wp2_with fail
    refine (unhide HBB).mono ?_
    rintro e w3 ⟨rfl, rfl⟩
    rw [unhide HBE, unhide HBV]
    clear HBB
    have hown0 := World.ownsRow_nil w2 w2.heap.size 3 1
    go_wp2_with (at_builtin; refine app_many elem_int (.tmp 79) (.tmp 80) rfl rfl rfl hown0 rfl (hr.below hB2) (ints_oneCell .i64 row) (by omega) (Nat.le_refl _) ?_; intro v5 w5 hown5 hb5 hgr5; clear hgr5; have hown6 : w5.ownsRow w2.heap.size 3 1 v5 k (row.map (Value.int .i64)) := (by simpa using hown5); obtain ⟨g, cap, rfl, hgb, hlt5⟩ := hown6.form (by omega); have ck := hown6.cellAt f (by omega); have fk := hown6.frozenAt f; have hrl := hr.len; have hek : (row.map (Value.int .i64))[f]? = some (.int .i64 (row.getD f 0)) := (by rw [List.getElem?_map, List.getD_eq_getElem?_getD, List.getElem?_eq_getElem (by omega)]; rfl); rw [hek] at ck; clear hek hrl hown5)
    have hB5 : Below w2.heap.size w2 (w5.setCell ⟨g, f, none⟩ (.int .i64 ce)) := hb5.setCell (p := ⟨g, f, none⟩) hgb (.int .i64 ce)
    have hb6 := hB2.trans (hB5.mono hs2)
    have hs6 := hb6.size
    have hst := (hown6.stored f (.int .i64 ce)).1
    have hi6 : IReads (w5.setCell ⟨g, f, none⟩ (.int .i64 ce)) (w5.setCell ⟨g, f, none⟩ (.int .i64 ce)).heap.size (some ⟨g, 0, none⟩) k (row.set f ce) := by
      have := Reads.of_own hst
      unfold IReads
      rwa [List.map_set]
    have e6 := (hB5.cell (p := ⟨b5, o5 + b, none⟩) hbl5).trans e5
    have hz6 := hB5.size
    clear hst hown6 ck fk hb5 e5
    refine (eval_any A (some ⟨g, 0, none⟩) m d k cap t (row.set f ce) _ (Reads.more (ht.below hb6) hs6) hi6 hm hk).mono ?_
    rintro e w7 ⟨rfl, hbe7⟩
    rw [unhide HEV, unhide HRE]
    have e7 := (hbe7.cell (p := ⟨b5, o5 + b, none⟩) (by show b5 < _; omega)).trans e6
    have hB7 := hb6.trans (hbe7.mono hs6)
    have hq : ((n3 : Int) + 1 == (n3 : Int) + 1) = true := by simp
    have hbn : b < n3 + 1 := by omega
    clear e6 hb6 hbe7 hs6 hi6 hB5 hz6 hB2 hs2 hbl5 hgb hlt5 hr3 ht hr hown0 hc hbl hC HL HLR hfe hlen31 h8
    go_wp2_with fail
    go_ret
    exact ⟨rfl, hB7⟩
  · have hcf : cellB ce = false := by simpa using hcc
    have hc := cellB_f.1 hcf
    have hbe : binE (stepC t f) ce = 1 := by rw [hbinE, if_neg hcc]
    have HBE := hide hbe
    have hbB := bin_any A3 n3 c3 (stepC t f) ce w2 hr3 (by unfold maxLen; omega)
    have HBB := hide hbB
    clear hbB h0 hok hre hR hs hmem hcut hce hbinE hcc hcf hbe hK hr4 hrow0
    rcases hc with hc | hc
    · have d1 : decide (ce < -1000000) = true := by simpa using hc
      go_wp2_with fail
      refine (unhide HBB).mono ?_
      rintro e w3 ⟨rfl, rfl⟩
      rw [unhide HBE, errV_1 (e := 1) (by decide)]
      go_wp2_with fail
      go_ret
      exact ⟨rfl, hB2⟩
    · have d1 : decide (ce < -1000000) = false := by simp; omega
      have d2 : decide (1000000 < ce) = true := by simpa using hc
      go_wp2_with fail
      refine (unhide HBB).mono ?_
      rintro e w3 ⟨rfl, rfl⟩
      rw [unhide HBE, errV_1 (e := 1) (by decide)]
      go_wp2_with fail
      go_ret
      exact ⟨rfl, hB2⟩
end Go.Proofs.Ytbailhcadjpflaa
