/- PathRegions: the plain law. Conditions: none beyond what each lemma names. -/
import Derived.Test.YtbailhcadjpflaaReach2
import Derived.Test.YtbailhcadjpflaaWitness
import Derived.Test.YtbailhcadjpflaaTreeHalves
namespace Go.Proofs.Ytbailhcadjpflaa
set_option linter.unusedVariables false
set_option linter.unusedSimpArgs false
open Go.RowKit

theorem inB_fix (x : Int) (s : Sp) : inB x (fixS s) = inB x s := by
  unfold fixS
  split
  · rfl
  · rename_i h
    unfold inB
    split
    · rfl
    · rw [Bool.eq_iff_iff]; simp; omega
theorem inSp_fix (r : List Int) (l : List Sp) : inSp r (l.map fixS) ↔ inSp r l := by
  unfold inSp
  rw [List.length_map]
  constructor
  · rintro ⟨h1, h2⟩
    exact ⟨h1, fun j x s hx hs => by rw [← inB_fix]; exact h2 j x _ hx (by rw [List.getElem?_map, hs]; rfl)⟩
  · rintro ⟨h1, h2⟩
    refine ⟨h1, fun j x s hx hs => ?_⟩
    rw [List.getElem?_map] at hs
    cases hl : l[j]? with
    | none => rw [hl] at hs; cases hs
    | some s0 =>
      rw [hl] at hs
      have : fixS s0 = s := by simpa using hs
      rw [← this, inB_fix]
      exact h2 j x s0 hx hl
theorem fits_in {r : List Int} {l : List Sp} (h : rowE r = 0) : (fitsE r l = 0 ↔ r.length = l.length) ∧ (fitsB r l = true ↔ inSp r l) := by
  have h1 : fitsE r l = 0 ↔ r.length = l.length := by
    unfold fitsE
    rw [if_pos h]
    by_cases hl : r.length = l.length
    · simp [hl]
    · simp [hl]
  refine ⟨h1, ?_⟩
  unfold fitsB inSp
  rw [Bool.and_eq_true, beq_iff_eq, h1, List.all_eq_true]
  refine and_congr_right fun hl => ?_
  constructor
  · intro ha j x s hx hs
    exact ha (x, s) (List.mem_of_getElem? (zip_at hx hs))
  · intro ha p hp
    obtain ⟨j, hj⟩ := List.mem_iff_getElem?.1 hp
    rw [List.getElem?_zip_eq_some] at hj
    exact ha j p.1 p.2 hj.1 hj.2
theorem row_cells {r : List Int} (h : rowE r = 0) : ∀ x ∈ r, x = -1125899906842624 ∨ (-1000000 ≤ x ∧ x ≤ 1000000) := by
  intro x hx
  unfold rowE at h
  by_cases h8 : 8 < r.length
  · rw [if_pos h8] at h; cases h
  · rw [if_neg h8] at h
    by_cases ha : r.all rowGood = true
    · have := List.all_eq_true.1 ha x hx
      unfold rowGood nilC at this
      rw [Bool.or_eq_true, beq_iff_eq] at this
      rcases this with h1 | h1
      · exact .inl h1
      · exact .inr (cellB_t.1 h1)
    · rw [if_neg ha] at h; cases h
theorem in_wide {r : List Int} (h : rowE r = 0) : inSp r (wideL r.length) := by
  refine ⟨by simp [wideL], fun j x s hx hs => ?_⟩
  have hs2 := List.eq_of_mem_replicate (List.mem_of_getElem? hs)
  subst hs2
  unfold inB wideS
  rcases row_cells h x (List.mem_of_getElem? hx) with h1 | ⟨h1, h2⟩
  · rw [if_pos h1]
  · rw [if_neg (by omega)]; simp; omega
/-- a row comes to just the leaf within whose spans it is -/
theorem reg_leaf {t : List Nd} {r : List Int} {n : Nat} (hR : Right t n) (hr : rowE r = 0) (hl : r.length = n) {i : Nat} {x : Nd} (hx : t[i]? = some x) (hf : x.f = -1) : inSp r (regL t n i) ↔ leafOf t r = i := by
  obtain ⟨_, hm⟩ := regL_is hR hx hf
  have hw : inSp r (wideL n) := by rw [← hl]; exact in_wide hr
  constructor
  · intro h
    exact (lv_to hR.asks r _ _ _ (wide_len n) _ hm h).2
  · intro h
    obtain ⟨p, hp, h1, h2⟩ := lv_of hR.asks hR.behind r t.length 0 (wideL n) (wide_len n) hR.pos (by omega) hw
    have := lv_one hR _ _ _ p hp _ hm (by rw [← h2]; exact h)
    subst this
    exact h1
theorem reach_mem {t : List Nd} {n : Nat} (hR : Right t n) {i : Nat} {x : Nd} (hx : t[i]? = some x) (hf : x.f = -1) : (i : Int) ∈ reachX (lv t t.length 0 (wideL n)) ↔ anyB (regL t n i) = true := by
  obtain ⟨_, hm⟩ := regL_is hR hx hf
  unfold reachX
  rw [List.mem_map]
  constructor
  · rintro ⟨p, hp, he⟩
    obtain ⟨h1, h2⟩ := List.mem_filter.1 hp
    have := lv_one hR _ _ _ p h1 _ hm (by dsimp only; omega)
    subst this
    exact h2
  · intro h
    exact ⟨_, List.mem_filter.2 ⟨hm, h⟩, rfl⟩
theorem high_side {l : List Sp} {n : Nd} {b : Bool} (h : ∀ s ∈ l, s.high ≤ 1000000) : ∀ s ∈ sideL l n b, s.high ≤ 1000000 := by
  unfold sideL
  split
  · exact h
  · rename_i s0 hs0
    intro s hs
    rcases List.mem_or_eq_of_mem_set hs with h1 | h1
    · exact h s h1
    · subst h1
      have := h s0 (List.mem_of_getElem? hs0)
      unfold sideS
      cases b <;> simp <;> omega
theorem lv_high {t : List Nd} : ∀ (k i : Nat) (l : List Sp), (∀ s ∈ l, s.high ≤ 1000000) → ∀ p ∈ lv t k i l, ∀ s ∈ p.2, s.high ≤ 1000000 := by
  intro k
  induction k with
  | zero => intro i l _ p hp; cases hp
  | succ k ih =>
    intro i l hl p hp
    cases hn : t[i]? with
    | none => simp only [lv, hn] at hp; cases hp
    | some x =>
      by_cases hf : x.f = -1
      · rw [lv_leaf hn hf] at hp
        simp at hp; subst hp
        exact hl
      · rw [lv_step hn hf] at hp
        rcases List.mem_append.1 hp with h | h
        · exact ih _ _ (high_side hl) p h
        · exact ih _ _ (high_side hl) p h
theorem wide_high (n : Nat) : ∀ s ∈ wideL n, s.high ≤ 1000000 := by
  intro s hs
  have := List.eq_of_mem_replicate hs
  subst this; decide
/-- spans that have something within cells -/
theorem spans_ok : ∀ {l : List Sp}, (∀ s ∈ l, -1000000 ≤ s.low ∧ s.low ≤ 1000000 ∧ -1000000 ≤ s.high ∧ s.high ≤ 1000000) → anyB l = true → spansF l = 0 := by
  intro l
  induction l with
  | nil => intro _ _; rfl
  | cons s r ih =>
    intro h ha
    unfold anyB at ha
    rw [List.all_cons, Bool.and_eq_true] at ha
    obtain ⟨h1, h2, h3, h4⟩ := h s (List.mem_cons_self)
    rw [spansF, cellB_t.2 ⟨h1, h2⟩, cellB_t.2 ⟨h3, h4⟩, ha.1]
    exact ih (fun s hs => h s (List.mem_cons_of_mem _ hs)) ha.2
theorem fix_cells {s : Sp} (h1 : -1000000 ≤ s.low) (h2 : s.high ≤ 1000000) : -1000000 ≤ (fixS s).low ∧ (fixS s).low ≤ 1000000 ∧ -1000000 ≤ (fixS s).high ∧ (fixS s).high ≤ 1000000 := by
  unfold fixS
  split
  · exact ⟨h1, by omega, by omega, h2⟩
  · exact ⟨by dsimp only; omega, by dsimp only; omega, by dsimp only; omega, by dsimp only; omega⟩
theorem pick_row {l : List Sp} (hl : l.length ≤ 8) (h : ∀ s ∈ l, -1000000 ≤ s.low ∧ s.low ≤ 1000000) : rowE (pickL l) = 0 := by
  refine rowE_good ?_ (by simpa [pickL] using hl)
  intro x hx
  obtain ⟨s, hs, rfl⟩ := List.mem_map.1 hx
  unfold pickS
  split
  · exact rowGood_cell (h s hs).1 (h s hs).2
  · exact rowGood_nil
theorem regL_len {t : List Nd} {n : Nat} (hR : Right t n) {i : Nat} {x : Nd} (hx : t[i]? = some x) (hf : x.f = -1) : (regL t n i).length = n := by
  have := lv_length _ _ _ _ (regL_is hR hx hf).2
  rw [wide_len] at this; exact this
/-- a leaf that is reached: a row for it -/
theorem wit_leaf {t : List Nd} {n : Nat} (hR : Right t n) (he : treeE t n = 0) {i : Nat} {x : Nd} (hx : t[i]? = some x) (hf : x.f = -1) (ha : anyB (regL t n i) = true) :
    spansE ((regL t n i).map fixS) = 0 ∧ readyE t (pickL ((regL t n i).map fixS)) = 0 ∧ leafOf t (pickL ((regL t n i).map fixS)) = i ∧ (pickL ((regL t n i).map fixS)).length = n := by
  have hlen := regL_len hR hx hf
  have hm := (regL_is hR hx hf).2
  have h8 := hR.fe8
  have hc : ∀ s ∈ (regL t n i).map fixS, -1000000 ≤ s.low ∧ s.low ≤ 1000000 ∧ -1000000 ≤ s.high ∧ s.high ≤ 1000000 := by
    intro s hs
    obtain ⟨s0, hs0, rfl⟩ := List.mem_map.1 hs
    exact fix_cells (lv_low _ _ _ (wide_low n) _ hm s0 hs0) (lv_high _ _ _ (wide_high n) _ hm s0 hs0)
  have hany : anyB ((regL t n i).map fixS) = true := by rw [fix_any]; exact ha
  have hpl : (pickL ((regL t n i).map fixS)).length = n := by simp [pickL, hlen]
  have hrow : rowE (pickL ((regL t n i).map fixS)) = 0 := pick_row (by rw [List.length_map, hlen]; omega) (fun s hs => ⟨(hc s hs).1, (hc s hs).2.1⟩)
  have hin := pick_in (wf_low (fun s hs => (hc s hs).1)) hany
  refine ⟨?_, ?_, ?_, hpl⟩
  · unfold spansE
    rw [if_neg (by rw [List.length_map, hlen]; omega)]
    exact spans_ok hc hany
  · unfold readyE
    rw [if_pos hrow, hpl]; exact he
  · exact (reg_leaf hR hrow hpl hx hf).1 ((inSp_fix _ _).1 hin)
abbrev tree579 : List Nd := [⟨0, 5, 1, 2, false, 0⟩, ⟨-1, 0, 0, 0, false, 7⟩, ⟨-1, 0, 0, 0, false, 9⟩]
theorem region_fact : regE tree579 1 2 = 0 ∧ (regL tree579 1 2).map fixS = [⟨5, 1000000, true⟩] := ⟨by decide, rfl⟩
theorem reach_len (t : List Nd) (n : Nat) (hR : Right t n) : (reachX (lv t t.length 0 (wideL n))).length ≤ 1024 := Nat.le_trans (reachX_len _) (lv_1024 hR _ _)

set_option maxRecDepth 100000 in
set_option maxHeartbeats 8000000 in
theorem pathRegions_walk (A C : Option Addr) (m d k q : Nat) (t : List Nd) (row : List Int) (w : World) (ht : NReads w w.heap.size A m t) (hr : IReads w w.heap.size C k row) (hm : m ≤ maxLen) (hk : k ≤ maxLen) :
    Calls Try.prog 5 #[.slice A m d, .slice C k q] w fun e w' => e = .returned (.bool true) ∧ Below w.heap.size w w' := by
  obtain ⟨Z, hZ⟩ : ∃ Z, Z = Obj.cells #[.int .i64 0, .int .i64 5, .int .i64 1, .int .i64 2, .bool false, .int .i64 0, .int .i64 (-1), .int .i64 0, .int .i64 0, .int .i64 0, .bool false, .int .i64 7, .int .i64 (-1), .int .i64 0, .int .i64 0, .int .i64 0, .bool false, .int .i64 9] 25 := ⟨_, rfl⟩
  have hT0 : NReads (w.alloc Z) (w.heap.size + 1) (some ⟨w.heap.size, 0, none⟩) 3 tree579 := by
    rw [hZ]; exact Reads.new_ w 6 3 (tree579.flatMap Nd.cells) 25 rfl
  have hs0 : (w.alloc Z).heap.size = w.heap.size + 1 := by simp
  have hb0 : Below w.heap.size w (w.alloc Z) := (Below.refl _ _).alloc (Nat.le_refl _) _
  have HF := hide (Region_any (some ⟨w.heap.size, 0, none⟩) 3 3 tree579 1 2 (w.alloc Z) (by rw [hs0]; exact hT0) (by decide))
  have HZ := hide hZ
  have HL := hide ht.len
  have HLR := hide hr.len
  clear hZ hT0
  go_enter Try.func5, Try.ntmps5
  go_wp2_with fail
  rw [← unhide HZ]
  refine (unhide HF).mono ?_
  rintro e w1 ⟨A1, n1, c1, l1, rfl, hr1, hok1, _, hb1⟩
  obtain ⟨hn1, hl1⟩ := hok1 region_fact.1
  have hl1' : l1 = [⟨5, 1000000, true⟩] := hl1.trans region_fact.2
  subst hl1'
  obtain rfl : n1 = 1 := by omega
  rw [region_fact.1, errV_0 rfl]
  clear HF HZ hok1 hl1 hn1
  generalize w.alloc Z = W0 at *
  have hB1 : Below w.heap.size w w1 := hb0.trans (hb1.mono hb0.size)
  have hs1 := hB1.size
  obtain ⟨b1, o1, s1, rfl, _, hx1, e0, e1, e2⟩ := hr1.get (k := 0) (by omega)
  cases hx1
  simp only [Nat.zero_mul, Nat.add_zero] at e0 e1 e2
  clear hb1 hb0 hr1
  go_wp2_with fail
  refine (leaf_any A C m d k q t row _ ((ht.below hB1).more hs1) ((hr.below hB1).more hs1) hm hk).mono ?_
  rintro e w2 ⟨rfl, hb2⟩
  have hB2 := hB1.trans (hb2.mono hs1)
  have hs2 := hB2.size
  clear hb2 hB1 hs1 e0 e1 e2
  by_cases h0 : readyE t row = 0
  · obtain ⟨hrow, hR, h8⟩ := readyE_right h0
    have hlv : leafV t row = leafOf t row := by unfold leafV; rw [if_pos h0]
    obtain ⟨at_, hat⟩ : ∃ a, a = leafOf t row := ⟨_, rfl⟩
    have hte : treeE t k = 0 := by unfold readyE at h0; rw [if_pos hrow, hr.len] at h0; exact h0
    rw [hr.len] at hR h8
    have hm63 : m ≤ 63 := by have := hR.most; rw [ht.len] at this; exact this
    rw [hlv, ← hat, errV_0 h0]
    have hev := errV_0 hte
    have HEV := hide hev
    have HR := hide hR
    have HROW := hide hrow
    have HTE := hide hte
    have HAT := hide hat
    have hatm : at_ < m := by
      obtain ⟨x, hx, _⟩ := leafOf_is (row := row) hR.behind hR.pos
      rw [← hat] at hx
      have := (List.getElem?_eq_some_iff.1 hx).1
      rw [ht.len] at this; exact this
    clear h0 hrow hR hlv hat hte hev
    go_wp2_with fail
    refine (Reach_any A m d t k _ ((ht.below hB2).more hs2) hm).mono ?_
    rintro e w3 ⟨v, rfl, ho3, hb3⟩
    rw [unhide HEV]
    have hB3 := hB2.trans (hb3.mono hs2)
    have hs3 := hB3.size
    clear hb3 hB2
    obtain ⟨RL, hRL⟩ : ∃ RL, RL = reachV t k := ⟨_, rfl⟩
    rw [← hRL] at ho3
    have HRL := hide hRL
    obtain ⟨A3, c3, rfl, hr3, hl3, _, _⟩ := ho3.slice_
    have hRLn : RL.length ≤ 1024 := by
      rw [hRL]; unfold reachV; rw [if_pos (unhide HTE), sortL_len, Int.toNat_natCast]; exact reach_len t k (unhide HR)
    clear hRL ho3
    go_wp2_with fail
    go_loopw [14, 15] (fun h i wr => ∃ j : Nat, j ≤ m ∧ i = .int .i64 j ∧ h = .bool (decide (at_ < j)) ∧ IReads wr w3.heap.size A3 RL.length RL ∧ Below w.heap.size w wr ∧ w3.heap.size ≤ wr.heap.size) (fun _ i _ => m - (intOf i).toNat)
    case atStart => exact ⟨0, Nat.zero_le _, rfl, by simp, hr3, hB3, Nat.le_refl _⟩
    case round =>
      obtain ⟨j, hj, rfl, rfl, hr4, hbel, hz4⟩ := hrel
      have hsz := hbel.size
      clear hr3 hB3
      by_cases hlt : j < m
      · obtain ⟨b, o, x, rfl, hbb, hx, g0, g1, g2, g3, g4, g5⟩ := (ht.below hbel).get hlt
        by_cases hf : x.f = -1
        · have hreg := reg_leaf (unhide HR) (unhide HROW) (unhide HLR) hx hf
          have hmem := reach_mem (unhide HR) hx hf
          have hwl := wit_leaf (unhide HR) (unhide HTE) hx hf
          have hrl := regL_len (unhide HR) hx hf
          have hrE : regE t k j = 0 := by unfold regE; rw [if_pos (unhide HTE), Int.toNat_natCast, hx]; simp [hf]
          rw [hf] at g0
          by_cases hany : anyB (regL t k j) = true
          · by_cases hja : at_ = j
            · have hbv : (regE t k j == 0 && anyB ((regL t k j).map fixS)) = true := by rw [hrE, fix_any, hany]; rfl
              have hfe : fitsE row ((regL t k j).map fixS) = 0 := (fits_in (unhide HROW)).1.2 (by rw [List.length_map, hrl]; exact unhide HLR)
              have hfb : fitsB row ((regL t k j).map fixS) = true := by rw [(fits_in (unhide HROW)).2, inSp_fix]; exact hreg.2 (by rw [← unhide HAT]; exact hja)
              have hmb : (j : Int) ∈ RL ↔ true = true := by
                rw [unhide HRL]; unfold reachV; rw [if_pos (unhide HTE), Int.toNat_natCast, (sortL_perm _).mem_iff, hmem, hany]
              have HREG := hide (Region_any (some ⟨b, o, none⟩) m d t k j wr ((ht.below hbel).more hsz) hm)
              have HEV2 := hide (errV_0 hrE)
              have HFE := hide (errV_0 hfe)
              have HFB := hide hfb
              have HBV := hide hbv
              have HRE := hide hrE
              have HMB := hide hmb
              have HRN := hide hrl
              have hja2 := hja.symm
              subst hja2
              have dja : ((j : Int) == (j : Int)) = true := by simp
              have hdl : decide (j < j) = false := by simp
              rw [hdl]
              obtain ⟨xf, xc, xl, xr, xs, xv⟩ := x
              simp only at hf g0 g1 g2 g3 g4 g5
              have HWL := hide (hwl hany)
              clear hx hf hreg hmem hwl hrl hrE hany hbv hfe hfb hmb
              go_wp2_with fail
              refine (unhide HREG).mono ?_
              rintro e w5 ⟨A5, n5, c5, l5, rfl, hr5, hok5, _, hb5⟩
              obtain ⟨hn5, hl5⟩ := hok5 (unhide HRE)
              obtain rfl : n5 = k := by omega
              have hl5' : l5 = (regL t n5 j).map fixS := by rw [hl5, Int.toNat_natCast, Int.toNat_natCast]
              subst hl5'
              rw [unhide HBV, unhide HEV2]
              have hB5 := hbel.trans (hb5.mono hsz)
              have hs5 := hB5.size
              have hzw := hb5.size
              have hr6 := hr4.below (hb5.mono hz4)
              clear hb5 hok5 hl5 hn5
              go_wp2_with fail
              refine (fits_any C A5 n5 q n5 c5 row _ _ ((hr.below hB5).more hs5) hr5 hk hk).mono ?_
              rintro e w6 ⟨rfl, hb6⟩
              rw [unhide HFB, unhide HFE]
              have hB6 := hB5.trans (hb6.mono hs5)
              have hs6 := hB6.size
              have hzw6 := hb6.size
              have hr7 := hr6.below (hb6.mono (by omega))
              have hr8 := (hr5.below hb6).more hzw6
              clear hb6 hr5 hr6 hB5 hs5
              go_wp2_with fail
              go_loop [21, 22] (fun h i => ∃ p : Nat, p ≤ RL.length ∧ i = .int .i64 p ∧ ∃ hb : Bool, h = .bool hb ∧ Hid (hb = decide ((j : Int) ∈ RL.take p))) (fun _ i => RL.length - (intOf i).toNat)
              case atStart => exact ⟨0, Nat.zero_le _, rfl, false, rfl, hide (by simp)⟩
              case round =>
                obtain ⟨p, hp, rfl, hb, rfl, HH⟩ := hrel
                by_cases hpl : p < RL.length
                · obtain ⟨b9, o9, y, hA9, _, hy, cy⟩ := hr7.get hpl
                  subst hA9
                  have HY := hide (take_next hy)
                  clear hy
                  cases hb with
                  | true =>
                    go_wp2_with fail
                    go_round
                    case rel => exact ⟨p + 1, by omega, by go_num, true, rfl, hide (by have := unhide HH; rw [unhide HY]; simp at this ⊢; exact .inl this)⟩
                    case measure => simp [intOf]; omega
                  | false =>
                    by_cases hyj : y = (j : Int)
                    · have hq : (y == (j : Int)) = true := by simpa using hyj
                      have HQ := hide hyj
                      clear hyj
                      go_wp2_with fail
                      go_round
                      case rel => exact ⟨p + 1, by omega, by go_num, true, by simp, hide (by rw [unhide HY, unhide HQ]; simp)⟩
                      case measure => simp [intOf]; omega
                    · have hq : (y == (j : Int)) = false := by simpa using hyj
                      have HQ := hide hyj
                      clear hyj
                      go_wp2_with fail
                      go_round
                      case rel => exact ⟨p + 1, by omega, by go_num, false, by simp, hide (by have h1 := unhide HH; have h2 := unhide HQ; rw [unhide HY]; simp at h1 ⊢; exact ⟨h1, fun e => h2 e.symm⟩)⟩
                      case measure => simp [intOf]; omega
                · have hbe : hb = true := by
                    have h1 := unhide HH
                    rw [List.take_of_length_le (by omega)] at h1
                    rw [h1, Bool.eq_iff_iff, decide_eq_true_eq]; have := unhide HMB; simpa using this
                  subst hbe
                  clear HH HMB
                  go_wp2_with fail
                  refine (Witness_any A5 n5 c5 w6.heap.size _ w6 hr8 (Nat.le_refl _) hk).mono ?_
                  rintro e w7 ⟨A7, c7, rfl, hr9, hb7⟩
                  obtain ⟨hw1, hw2, hw3, hw4⟩ := unhide HWL
                  have hwv : witV ((regL t n5 j).map fixS) = pickL ((regL t n5 j).map fixS) := by unfold witV; rw [if_pos hw1]
                  rw [hwv, hw4] at hr9
                  rw [hwv, hw4, errV_0 hw1]
                  have hlv2 : leafV t (pickL ((regL t n5 j).map fixS)) = j := by unfold leafV; rw [if_pos hw2, hw3]
                  have HLV2 := hide hlv2
                  have HW2 := hide (errV_0 hw2)
                  have hB7 := hB6.trans (hb7.mono hs6)
                  have hr10 := hr7.below (hb7.mono (by omega))
                  have hzw7 := hb7.size
                  clear hw1 hw2 hw3 hw4 hwv hlv2 hb7 hr7 hr8 hB6
                  go_wp2_with fail
                  refine (leaf_any (some ⟨b, o, none⟩) A7 m d n5 c7 t _ w7 ((ht.below hB7).more hB7.size) hr9 hm hk).mono ?_
                  rintro e w8 ⟨rfl, hb8⟩
                  rw [unhide HLV2, unhide HW2]
                  have hB8 := hB7.trans (hb8.mono hB7.size)
                  have hr11 := hr10.below (hb8.mono (by omega))
                  have hzw8 := hb8.size
                  go_wp2_with fail
                  go_roundw
                  case rel => exact ⟨j + 1, by omega, by go_num, by simp, hr11, hB8, by omega⟩
                  case measure => simp [intOf]; omega
            · by_cases hjl : at_ < j
              · have hbv : (regE t k j == 0 && anyB ((regL t k j).map fixS)) = true := by rw [hrE, fix_any, hany]; rfl
                have hfe : fitsE row ((regL t k j).map fixS) = 0 := (fits_in (unhide HROW)).1.2 (by rw [List.length_map, hrl]; exact unhide HLR)
                have hfb : fitsB row ((regL t k j).map fixS) = false := by rw [Bool.eq_false_iff]; intro h; exact hja (by rw [unhide HAT]; exact hreg.1 ((inSp_fix _ _).1 ((fits_in (unhide HROW)).2.1 h)))
                have hmb : (j : Int) ∈ RL ↔ true = true := by
                  rw [unhide HRL]; unfold reachV; rw [if_pos (unhide HTE), Int.toNat_natCast, (sortL_perm _).mem_iff, hmem, hany]
                have HREG := hide (Region_any (some ⟨b, o, none⟩) m d t k j wr ((ht.below hbel).more hsz) hm)
                have HEV2 := hide (errV_0 hrE)
                have HFE := hide (errV_0 hfe)
                have HFB := hide hfb
                have HBV := hide hbv
                have HRE := hide hrE
                have HMB := hide hmb
                have HRN := hide hrl
                have dja : ((j : Int) == (at_ : Int)) = false := by simp; omega
                have hdl : decide (at_ < j) = true := by simp; omega
                rw [hdl]
                obtain ⟨xf, xc, xl, xr, xs, xv⟩ := x
                simp only at hf g0 g1 g2 g3 g4 g5
                have HWL := hide (hwl hany)
                clear hx hf hreg hmem hwl hrl hrE hany hbv hfe hfb hmb
                go_wp2_with fail
                refine (unhide HREG).mono ?_
                rintro e w5 ⟨A5, n5, c5, l5, rfl, hr5, hok5, _, hb5⟩
                obtain ⟨hn5, hl5⟩ := hok5 (unhide HRE)
                obtain rfl : n5 = k := by omega
                have hl5' : l5 = (regL t n5 j).map fixS := by rw [hl5, Int.toNat_natCast, Int.toNat_natCast]
                subst hl5'
                rw [unhide HBV, unhide HEV2]
                have hB5 := hbel.trans (hb5.mono hsz)
                have hs5 := hB5.size
                have hzw := hb5.size
                have hr6 := hr4.below (hb5.mono hz4)
                clear hb5 hok5 hl5 hn5
                go_wp2_with fail
                refine (fits_any C A5 n5 q n5 c5 row _ _ ((hr.below hB5).more hs5) hr5 hk hk).mono ?_
                rintro e w6 ⟨rfl, hb6⟩
                rw [unhide HFB, unhide HFE]
                have hB6 := hB5.trans (hb6.mono hs5)
                have hs6 := hB6.size
                have hzw6 := hb6.size
                have hr7 := hr6.below (hb6.mono (by omega))
                have hr8 := (hr5.below hb6).more hzw6
                clear hb6 hr5 hr6 hB5 hs5
                go_wp2_with fail
                go_loop [21, 22] (fun h i => ∃ p : Nat, p ≤ RL.length ∧ i = .int .i64 p ∧ ∃ hb : Bool, h = .bool hb ∧ Hid (hb = decide ((j : Int) ∈ RL.take p))) (fun _ i => RL.length - (intOf i).toNat)
                case atStart => exact ⟨0, Nat.zero_le _, rfl, false, rfl, hide (by simp)⟩
                case round =>
                  obtain ⟨p, hp, rfl, hb, rfl, HH⟩ := hrel
                  by_cases hpl : p < RL.length
                  · obtain ⟨b9, o9, y, hA9, _, hy, cy⟩ := hr7.get hpl
                    subst hA9
                    have HY := hide (take_next hy)
                    clear hy
                    cases hb with
                    | true =>
                      go_wp2_with fail
                      go_round
                      case rel => exact ⟨p + 1, by omega, by go_num, true, rfl, hide (by have := unhide HH; rw [unhide HY]; simp at this ⊢; exact .inl this)⟩
                      case measure => simp [intOf]; omega
                    | false =>
                      by_cases hyj : y = (j : Int)
                      · have hq : (y == (j : Int)) = true := by simpa using hyj
                        have HQ := hide hyj
                        clear hyj
                        go_wp2_with fail
                        go_round
                        case rel => exact ⟨p + 1, by omega, by go_num, true, by simp, hide (by rw [unhide HY, unhide HQ]; simp)⟩
                        case measure => simp [intOf]; omega
                      · have hq : (y == (j : Int)) = false := by simpa using hyj
                        have HQ := hide hyj
                        clear hyj
                        go_wp2_with fail
                        go_round
                        case rel => exact ⟨p + 1, by omega, by go_num, false, by simp, hide (by have h1 := unhide HH; have h2 := unhide HQ; rw [unhide HY]; simp at h1 ⊢; exact ⟨h1, fun e => h2 e.symm⟩)⟩
                        case measure => simp [intOf]; omega
                  · have hbe : hb = true := by
                      have h1 := unhide HH
                      rw [List.take_of_length_le (by omega)] at h1
                      rw [h1, Bool.eq_iff_iff, decide_eq_true_eq]; have := unhide HMB; simpa using this
                    subst hbe
                    clear HH HMB
                    go_wp2_with fail
                    refine (Witness_any A5 n5 c5 w6.heap.size _ w6 hr8 (Nat.le_refl _) hk).mono ?_
                    rintro e w7 ⟨A7, c7, rfl, hr9, hb7⟩
                    obtain ⟨hw1, hw2, hw3, hw4⟩ := unhide HWL
                    have hwv : witV ((regL t n5 j).map fixS) = pickL ((regL t n5 j).map fixS) := by unfold witV; rw [if_pos hw1]
                    rw [hwv, hw4] at hr9
                    rw [hwv, hw4, errV_0 hw1]
                    have hlv2 : leafV t (pickL ((regL t n5 j).map fixS)) = j := by unfold leafV; rw [if_pos hw2, hw3]
                    have HLV2 := hide hlv2
                    have HW2 := hide (errV_0 hw2)
                    have hB7 := hB6.trans (hb7.mono hs6)
                    have hr10 := hr7.below (hb7.mono (by omega))
                    have hzw7 := hb7.size
                    clear hw1 hw2 hw3 hw4 hwv hlv2 hb7 hr7 hr8 hB6
                    go_wp2_with fail
                    refine (leaf_any (some ⟨b, o, none⟩) A7 m d n5 c7 t _ w7 ((ht.below hB7).more hB7.size) hr9 hm hk).mono ?_
                    rintro e w8 ⟨rfl, hb8⟩
                    rw [unhide HLV2, unhide HW2]
                    have hB8 := hB7.trans (hb8.mono hB7.size)
                    have hr11 := hr10.below (hb8.mono (by omega))
                    have hzw8 := hb8.size
                    go_wp2_with fail
                    go_roundw
                    case rel => exact ⟨j + 1, by omega, by go_num, by simp; omega, hr11, hB8, by omega⟩
                    case measure => simp [intOf]; omega
              · have hbv : (regE t k j == 0 && anyB ((regL t k j).map fixS)) = true := by rw [hrE, fix_any, hany]; rfl
                have hfe : fitsE row ((regL t k j).map fixS) = 0 := (fits_in (unhide HROW)).1.2 (by rw [List.length_map, hrl]; exact unhide HLR)
                have hfb : fitsB row ((regL t k j).map fixS) = false := by rw [Bool.eq_false_iff]; intro h; exact hja (by rw [unhide HAT]; exact hreg.1 ((inSp_fix _ _).1 ((fits_in (unhide HROW)).2.1 h)))
                have hmb : (j : Int) ∈ RL ↔ true = true := by
                  rw [unhide HRL]; unfold reachV; rw [if_pos (unhide HTE), Int.toNat_natCast, (sortL_perm _).mem_iff, hmem, hany]
                have HREG := hide (Region_any (some ⟨b, o, none⟩) m d t k j wr ((ht.below hbel).more hsz) hm)
                have HEV2 := hide (errV_0 hrE)
                have HFE := hide (errV_0 hfe)
                have HFB := hide hfb
                have HBV := hide hbv
                have HRE := hide hrE
                have HMB := hide hmb
                have HRN := hide hrl
                have dja : ((j : Int) == (at_ : Int)) = false := by simp; omega
                have hdl : decide (at_ < j) = false := by simp; omega
                rw [hdl]
                obtain ⟨xf, xc, xl, xr, xs, xv⟩ := x
                simp only at hf g0 g1 g2 g3 g4 g5
                have HWL := hide (hwl hany)
                clear hx hf hreg hmem hwl hrl hrE hany hbv hfe hfb hmb
                go_wp2_with fail
                refine (unhide HREG).mono ?_
                rintro e w5 ⟨A5, n5, c5, l5, rfl, hr5, hok5, _, hb5⟩
                obtain ⟨hn5, hl5⟩ := hok5 (unhide HRE)
                obtain rfl : n5 = k := by omega
                have hl5' : l5 = (regL t n5 j).map fixS := by rw [hl5, Int.toNat_natCast, Int.toNat_natCast]
                subst hl5'
                rw [unhide HBV, unhide HEV2]
                have hB5 := hbel.trans (hb5.mono hsz)
                have hs5 := hB5.size
                have hzw := hb5.size
                have hr6 := hr4.below (hb5.mono hz4)
                clear hb5 hok5 hl5 hn5
                go_wp2_with fail
                refine (fits_any C A5 n5 q n5 c5 row _ _ ((hr.below hB5).more hs5) hr5 hk hk).mono ?_
                rintro e w6 ⟨rfl, hb6⟩
                rw [unhide HFB, unhide HFE]
                have hB6 := hB5.trans (hb6.mono hs5)
                have hs6 := hB6.size
                have hzw6 := hb6.size
                have hr7 := hr6.below (hb6.mono (by omega))
                have hr8 := (hr5.below hb6).more hzw6
                clear hb6 hr5 hr6 hB5 hs5
                go_wp2_with fail
                go_loop [21, 22] (fun h i => ∃ p : Nat, p ≤ RL.length ∧ i = .int .i64 p ∧ ∃ hb : Bool, h = .bool hb ∧ Hid (hb = decide ((j : Int) ∈ RL.take p))) (fun _ i => RL.length - (intOf i).toNat)
                case atStart => exact ⟨0, Nat.zero_le _, rfl, false, rfl, hide (by simp)⟩
                case round =>
                  obtain ⟨p, hp, rfl, hb, rfl, HH⟩ := hrel
                  by_cases hpl : p < RL.length
                  · obtain ⟨b9, o9, y, hA9, _, hy, cy⟩ := hr7.get hpl
                    subst hA9
                    have HY := hide (take_next hy)
                    clear hy
                    cases hb with
                    | true =>
                      go_wp2_with fail
                      go_round
                      case rel => exact ⟨p + 1, by omega, by go_num, true, rfl, hide (by have := unhide HH; rw [unhide HY]; simp at this ⊢; exact .inl this)⟩
                      case measure => simp [intOf]; omega
                    | false =>
                      by_cases hyj : y = (j : Int)
                      · have hq : (y == (j : Int)) = true := by simpa using hyj
                        have HQ := hide hyj
                        clear hyj
                        go_wp2_with fail
                        go_round
                        case rel => exact ⟨p + 1, by omega, by go_num, true, by simp, hide (by rw [unhide HY, unhide HQ]; simp)⟩
                        case measure => simp [intOf]; omega
                      · have hq : (y == (j : Int)) = false := by simpa using hyj
                        have HQ := hide hyj
                        clear hyj
                        go_wp2_with fail
                        go_round
                        case rel => exact ⟨p + 1, by omega, by go_num, false, by simp, hide (by have h1 := unhide HH; have h2 := unhide HQ; rw [unhide HY]; simp at h1 ⊢; exact ⟨h1, fun e => h2 e.symm⟩)⟩
                        case measure => simp [intOf]; omega
                  · have hbe : hb = true := by
                      have h1 := unhide HH
                      rw [List.take_of_length_le (by omega)] at h1
                      rw [h1, Bool.eq_iff_iff, decide_eq_true_eq]; have := unhide HMB; simpa using this
                    subst hbe
                    clear HH HMB
                    go_wp2_with fail
                    refine (Witness_any A5 n5 c5 w6.heap.size _ w6 hr8 (Nat.le_refl _) hk).mono ?_
                    rintro e w7 ⟨A7, c7, rfl, hr9, hb7⟩
                    obtain ⟨hw1, hw2, hw3, hw4⟩ := unhide HWL
                    have hwv : witV ((regL t n5 j).map fixS) = pickL ((regL t n5 j).map fixS) := by unfold witV; rw [if_pos hw1]
                    rw [hwv, hw4] at hr9
                    rw [hwv, hw4, errV_0 hw1]
                    have hlv2 : leafV t (pickL ((regL t n5 j).map fixS)) = j := by unfold leafV; rw [if_pos hw2, hw3]
                    have HLV2 := hide hlv2
                    have HW2 := hide (errV_0 hw2)
                    have hB7 := hB6.trans (hb7.mono hs6)
                    have hr10 := hr7.below (hb7.mono (by omega))
                    have hzw7 := hb7.size
                    clear hw1 hw2 hw3 hw4 hwv hlv2 hb7 hr7 hr8 hB6
                    go_wp2_with fail
                    refine (leaf_any (some ⟨b, o, none⟩) A7 m d n5 c7 t _ w7 ((ht.below hB7).more hB7.size) hr9 hm hk).mono ?_
                    rintro e w8 ⟨rfl, hb8⟩
                    rw [unhide HLV2, unhide HW2]
                    have hB8 := hB7.trans (hb8.mono hB7.size)
                    have hr11 := hr10.below (hb8.mono (by omega))
                    have hzw8 := hb8.size
                    go_wp2_with fail
                    go_roundw
                    case rel => exact ⟨j + 1, by omega, by go_num, by simp; omega, hr11, hB8, by omega⟩
                    case measure => simp [intOf]; omega
          · have hany : anyB (regL t k j) = false := by simpa using hany
            have hja : ¬ at_ = j := fun h => by
              have := inSp_any (hreg.2 (by rw [← unhide HAT]; exact h)) (fun _ _ => trivial)
              rw [this] at hany; cases hany
            by_cases hjl : at_ < j
            · have hbv : (regE t k j == 0 && anyB ((regL t k j).map fixS)) = false := by rw [hrE, fix_any, hany]; rfl
              have hfe : fitsE row ((regL t k j).map fixS) = 0 := (fits_in (unhide HROW)).1.2 (by rw [List.length_map, hrl]; exact unhide HLR)
              have hfb : fitsB row ((regL t k j).map fixS) = false := by rw [Bool.eq_false_iff]; intro h; exact hja (by rw [unhide HAT]; exact hreg.1 ((inSp_fix _ _).1 ((fits_in (unhide HROW)).2.1 h)))
              have hmb : (j : Int) ∈ RL ↔ false = true := by
                rw [unhide HRL]; unfold reachV; rw [if_pos (unhide HTE), Int.toNat_natCast, (sortL_perm _).mem_iff, hmem, hany]
              have HREG := hide (Region_any (some ⟨b, o, none⟩) m d t k j wr ((ht.below hbel).more hsz) hm)
              have HEV2 := hide (errV_0 hrE)
              have HFE := hide (errV_0 hfe)
              have HFB := hide hfb
              have HBV := hide hbv
              have HRE := hide hrE
              have HMB := hide hmb
              have HRN := hide hrl
              have dja : ((j : Int) == (at_ : Int)) = false := by simp; omega
              have hdl : decide (at_ < j) = true := by simp; omega
              rw [hdl]
              obtain ⟨xf, xc, xl, xr, xs, xv⟩ := x
              simp only at hf g0 g1 g2 g3 g4 g5
              clear hx hf hreg hmem hwl hrl hrE hany hbv hfe hfb hmb
              go_wp2_with fail
              refine (unhide HREG).mono ?_
              rintro e w5 ⟨A5, n5, c5, l5, rfl, hr5, hok5, _, hb5⟩
              obtain ⟨hn5, hl5⟩ := hok5 (unhide HRE)
              obtain rfl : n5 = k := by omega
              have hl5' : l5 = (regL t n5 j).map fixS := by rw [hl5, Int.toNat_natCast, Int.toNat_natCast]
              subst hl5'
              rw [unhide HBV, unhide HEV2]
              have hB5 := hbel.trans (hb5.mono hsz)
              have hs5 := hB5.size
              have hzw := hb5.size
              have hr6 := hr4.below (hb5.mono hz4)
              clear hb5 hok5 hl5 hn5
              go_wp2_with fail
              refine (fits_any C A5 n5 q n5 c5 row _ _ ((hr.below hB5).more hs5) hr5 hk hk).mono ?_
              rintro e w6 ⟨rfl, hb6⟩
              rw [unhide HFB, unhide HFE]
              have hB6 := hB5.trans (hb6.mono hs5)
              have hs6 := hB6.size
              have hzw6 := hb6.size
              have hr7 := hr6.below (hb6.mono (by omega))
              have hr8 := (hr5.below hb6).more hzw6
              clear hb6 hr5 hr6 hB5 hs5
              go_wp2_with fail
              go_loop [21, 22] (fun h i => ∃ p : Nat, p ≤ RL.length ∧ i = .int .i64 p ∧ ∃ hb : Bool, h = .bool hb ∧ Hid (hb = decide ((j : Int) ∈ RL.take p))) (fun _ i => RL.length - (intOf i).toNat)
              case atStart => exact ⟨0, Nat.zero_le _, rfl, false, rfl, hide (by simp)⟩
              case round =>
                obtain ⟨p, hp, rfl, hb, rfl, HH⟩ := hrel
                by_cases hpl : p < RL.length
                · obtain ⟨b9, o9, y, hA9, _, hy, cy⟩ := hr7.get hpl
                  subst hA9
                  have HY := hide (take_next hy)
                  clear hy
                  cases hb with
                  | true =>
                    go_wp2_with fail
                    go_round
                    case rel => exact ⟨p + 1, by omega, by go_num, true, rfl, hide (by have := unhide HH; rw [unhide HY]; simp at this ⊢; exact .inl this)⟩
                    case measure => simp [intOf]; omega
                  | false =>
                    by_cases hyj : y = (j : Int)
                    · have hq : (y == (j : Int)) = true := by simpa using hyj
                      have HQ := hide hyj
                      clear hyj
                      go_wp2_with fail
                      go_round
                      case rel => exact ⟨p + 1, by omega, by go_num, true, by simp, hide (by rw [unhide HY, unhide HQ]; simp)⟩
                      case measure => simp [intOf]; omega
                    · have hq : (y == (j : Int)) = false := by simpa using hyj
                      have HQ := hide hyj
                      clear hyj
                      go_wp2_with fail
                      go_round
                      case rel => exact ⟨p + 1, by omega, by go_num, false, by simp, hide (by have h1 := unhide HH; have h2 := unhide HQ; rw [unhide HY]; simp at h1 ⊢; exact ⟨h1, fun e => h2 e.symm⟩)⟩
                      case measure => simp [intOf]; omega
                · have hbe : hb = false := by
                    have h1 := unhide HH
                    rw [List.take_of_length_le (by omega)] at h1
                    rw [h1, Bool.eq_iff_iff, decide_eq_true_eq]; have := unhide HMB; simpa using this
                  subst hbe
                  clear HH HMB
                  go_wp2_with fail
                  go_roundw
                  case rel => exact ⟨j + 1, by omega, by go_num, by simp; omega, hr7, hB6, by omega⟩
                  case measure => simp [intOf]; omega
            · have hbv : (regE t k j == 0 && anyB ((regL t k j).map fixS)) = false := by rw [hrE, fix_any, hany]; rfl
              have hfe : fitsE row ((regL t k j).map fixS) = 0 := (fits_in (unhide HROW)).1.2 (by rw [List.length_map, hrl]; exact unhide HLR)
              have hfb : fitsB row ((regL t k j).map fixS) = false := by rw [Bool.eq_false_iff]; intro h; exact hja (by rw [unhide HAT]; exact hreg.1 ((inSp_fix _ _).1 ((fits_in (unhide HROW)).2.1 h)))
              have hmb : (j : Int) ∈ RL ↔ false = true := by
                rw [unhide HRL]; unfold reachV; rw [if_pos (unhide HTE), Int.toNat_natCast, (sortL_perm _).mem_iff, hmem, hany]
              have HREG := hide (Region_any (some ⟨b, o, none⟩) m d t k j wr ((ht.below hbel).more hsz) hm)
              have HEV2 := hide (errV_0 hrE)
              have HFE := hide (errV_0 hfe)
              have HFB := hide hfb
              have HBV := hide hbv
              have HRE := hide hrE
              have HMB := hide hmb
              have HRN := hide hrl
              have dja : ((j : Int) == (at_ : Int)) = false := by simp; omega
              have hdl : decide (at_ < j) = false := by simp; omega
              rw [hdl]
              obtain ⟨xf, xc, xl, xr, xs, xv⟩ := x
              simp only at hf g0 g1 g2 g3 g4 g5
              clear hx hf hreg hmem hwl hrl hrE hany hbv hfe hfb hmb
              go_wp2_with fail
              refine (unhide HREG).mono ?_
              rintro e w5 ⟨A5, n5, c5, l5, rfl, hr5, hok5, _, hb5⟩
              obtain ⟨hn5, hl5⟩ := hok5 (unhide HRE)
              obtain rfl : n5 = k := by omega
              have hl5' : l5 = (regL t n5 j).map fixS := by rw [hl5, Int.toNat_natCast, Int.toNat_natCast]
              subst hl5'
              rw [unhide HBV, unhide HEV2]
              have hB5 := hbel.trans (hb5.mono hsz)
              have hs5 := hB5.size
              have hzw := hb5.size
              have hr6 := hr4.below (hb5.mono hz4)
              clear hb5 hok5 hl5 hn5
              go_wp2_with fail
              refine (fits_any C A5 n5 q n5 c5 row _ _ ((hr.below hB5).more hs5) hr5 hk hk).mono ?_
              rintro e w6 ⟨rfl, hb6⟩
              rw [unhide HFB, unhide HFE]
              have hB6 := hB5.trans (hb6.mono hs5)
              have hs6 := hB6.size
              have hzw6 := hb6.size
              have hr7 := hr6.below (hb6.mono (by omega))
              have hr8 := (hr5.below hb6).more hzw6
              clear hb6 hr5 hr6 hB5 hs5
              go_wp2_with fail
              go_loop [21, 22] (fun h i => ∃ p : Nat, p ≤ RL.length ∧ i = .int .i64 p ∧ ∃ hb : Bool, h = .bool hb ∧ Hid (hb = decide ((j : Int) ∈ RL.take p))) (fun _ i => RL.length - (intOf i).toNat)
              case atStart => exact ⟨0, Nat.zero_le _, rfl, false, rfl, hide (by simp)⟩
              case round =>
                obtain ⟨p, hp, rfl, hb, rfl, HH⟩ := hrel
                by_cases hpl : p < RL.length
                · obtain ⟨b9, o9, y, hA9, _, hy, cy⟩ := hr7.get hpl
                  subst hA9
                  have HY := hide (take_next hy)
                  clear hy
                  cases hb with
                  | true =>
                    go_wp2_with fail
                    go_round
                    case rel => exact ⟨p + 1, by omega, by go_num, true, rfl, hide (by have := unhide HH; rw [unhide HY]; simp at this ⊢; exact .inl this)⟩
                    case measure => simp [intOf]; omega
                  | false =>
                    by_cases hyj : y = (j : Int)
                    · have hq : (y == (j : Int)) = true := by simpa using hyj
                      have HQ := hide hyj
                      clear hyj
                      go_wp2_with fail
                      go_round
                      case rel => exact ⟨p + 1, by omega, by go_num, true, by simp, hide (by rw [unhide HY, unhide HQ]; simp)⟩
                      case measure => simp [intOf]; omega
                    · have hq : (y == (j : Int)) = false := by simpa using hyj
                      have HQ := hide hyj
                      clear hyj
                      go_wp2_with fail
                      go_round
                      case rel => exact ⟨p + 1, by omega, by go_num, false, by simp, hide (by have h1 := unhide HH; have h2 := unhide HQ; rw [unhide HY]; simp at h1 ⊢; exact ⟨h1, fun e => h2 e.symm⟩)⟩
                      case measure => simp [intOf]; omega
                · have hbe : hb = false := by
                    have h1 := unhide HH
                    rw [List.take_of_length_le (by omega)] at h1
                    rw [h1, Bool.eq_iff_iff, decide_eq_true_eq]; have := unhide HMB; simpa using this
                  subst hbe
                  clear HH HMB
                  go_wp2_with fail
                  go_roundw
                  case rel => exact ⟨j + 1, by omega, by go_num, by simp; omega, hr7, hB6, by omega⟩
                  case measure => simp [intOf]; omega
        · have hnf : (x.f != -1) = true := by simpa using hf
          have hdj : decide (at_ < j + 1) = decide (at_ < j) := by
            rw [Bool.eq_iff_iff]; simp
            obtain ⟨y, hy, hyf⟩ := leafOf_is (row := row) (unhide HR).behind (unhide HR).pos
            rw [← unhide HAT] at hy
            have hne : at_ ≠ j := fun h => by
              subst h
              rw [hx] at hy
              cases hy
              exact hf hyf
            omega
          have HDJ := hide hdj
          obtain ⟨xf, xc, xl, xr, xs, xv⟩ := x
          simp only at g0 g1 g2 g3 g4 g5 hnf
          clear hx hf hdj
          go_wp2_with fail
          go_roundw
          case rel => exact ⟨j + 1, by omega, by go_num, by rw [unhide HDJ], hr4, hbel, hz4⟩
          case measure => simp [intOf]; omega
      · obtain rfl : j = m := by omega
        have hd : decide (at_ < j) = true := by simpa using hatm
        rw [hd]
        go_wp2_with fail
        go_ret
        exact ⟨rfl, hbel⟩
  · have HE := hide (errV_1 h0)
    rw [unhide HE]
    clear h0
    go_wp2_with fail
    go_ret
    exact ⟨rfl, hB2⟩
end Go.Proofs.Ytbailhcadjpflaa
