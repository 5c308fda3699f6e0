/- DifferTells: the plain law and the walk. Conditions: arguments read as lists; the variable errors.errorType holds the handle of error. -/
import Derived.Test.YtefkjpcgcgofgaaDoorKin2
import Derived.Test.YtefkjpcgcgofgaaDoorKinUp
import Derived.Test.YtefkjpcgcgofgaaDoorRefTree2
import Derived.Test.YtefkjpcgcgofgaaDoorTold2
namespace Go.Proofs.YtefkjpcgcgofgaaDoor
set_option linter.unusedVariables false
set_option linter.unusedSimpArgs false
open Go.RowKit

theorem pairsL_some {a b : List Nd} {n : Nat} (ha : Right a n) (hb : Right b n) {r : List Int} (hr : inSp r (wideL n)) (hv : valAt a (leafOf a r) ≠ valAt b (leafOf b r)) : pairsL a b n ≠ [] := by
  obtain ⟨p, hp, h7, h8⟩ := lv_of ha.asks ha.behind r a.length 0 (wideL n) (wide_len n) ha.pos (by omega) hr
  have hpl : p.2.length = n := by rw [lv_length _ _ _ p hp, wide_len]
  obtain ⟨q, hq, h9, h10⟩ := lv_of hb.asks hb.behind r b.length 0 p.2 hpl hb.pos (by omega) h7
  intro he
  unfold pairsL at he
  rw [List.flatMap_eq_nil_iff] at he
  have h1 := he p hp
  unfold pairsAt at h1
  rw [if_pos (inSp_any h7 (fun _ _ => trivial)), List.map_eq_nil_iff, List.filter_eq_nil_iff] at h1
  have h2 := h1 q hq
  unfold meets at h2
  rw [Bool.and_eq_true, bne_iff_ne] at h2
  refine h2 ⟨inSp_any h9 (fun _ _ => trivial), ?_⟩
  rw [← h8, ← h10]
  exact hv
theorem wide_row {n : Nat} (hn : n ≤ 8) {r : List Int} (h : inSp r (wideL n)) : rowE r = 0 ∧ r.length = n := by
  have hl : r.length = n := by rw [h.1, wide_len]
  refine ⟨?_, hl⟩
  unfold rowE
  rw [if_neg (by omega), if_pos]
  rw [List.all_eq_true]
  intro x hx
  obtain ⟨j, hj⟩ := List.getElem?_of_mem hx
  have hjl : j < n := by rw [← hl]; exact (List.getElem?_eq_some_iff.1 hj).1
  have hs : (wideL n)[j]? = some wideS := by unfold wideL; rw [List.getElem?_replicate, if_pos hjl]
  have h1 := h.2 j x wideS hj hs
  unfold rowGood nilC
  unfold inB wideS at h1
  by_cases hx0 : x = -1125899906842624
  · subst hx0; rfl
  · rw [if_neg hx0] at h1
    simp at h1
    rw [Bool.or_eq_true]
    exact .inr (cellB_t.2 ⟨h1.1, h1.2⟩)
theorem pairsL_head {a b : List Nd} {n : Nat} (ha : Right a n) (hb : Right b n) (h : pairsL a b n ≠ []) :
    inSp (headL (pairsL a b n)) (wideL n) ∧ valAt a (leafOf a (headL (pairsL a b n))) ≠ valAt b (leafOf b (headL (pairsL a b n))) := by
  obtain ⟨l0, rest, e⟩ : ∃ l0 rest, pairsL a b n = l0 :: rest := by
    cases hp : pairsL a b n with
    | nil => exact absurd hp h
    | cons x y => exact ⟨x, y, rfl⟩
  have hm : l0 ∈ pairsL a b n := by rw [e]; exact List.mem_cons_self ..
  rw [e]
  show inSp (pickL l0) _ ∧ _
  unfold pairsL at hm
  obtain ⟨p, hp, hl0⟩ := List.mem_flatMap.1 hm
  unfold pairsAt at hl0
  split at hl0
  · obtain ⟨q, hq, rfl⟩ := List.mem_map.1 hl0
    obtain ⟨hq1, hq2⟩ := List.mem_filter.1 hq
    unfold meets at hq2
    rw [Bool.and_eq_true, bne_iff_ne] at hq2
    have hpl : p.2.length = n := by rw [lv_length _ _ _ p hp, wide_len]
    have hlow := lv_low a.length 0 (wideL n) (wide_low n) p hp
    have hr := pick_in (wf_low (lv_low b.length 0 p.2 hlow q hq1)) hq2.1
    obtain ⟨h3, h4⟩ := lv_to hb.asks _ _ _ _ hpl q hq1 hr
    obtain ⟨h5, h6⟩ := lv_to ha.asks _ _ _ _ (wide_len n) p hp h3
    refine ⟨h5, ?_⟩
    show valAt a (leafOf a (pickL q.2)) ≠ valAt b (leafOf b (pickL q.2))
    unfold leafOf
    rw [h4, h6]
    exact hq2.2
  · cases hl0
theorem pairsL_pruned {a : List Nd} {n : Nat} (ha : Right a n) : pairsL a (prunedV a n) n = [] := by
  by_cases h : pairsL a (prunedV a n) n = []
  · exact h
  · obtain ⟨h1, h2⟩ := pairsL_head ha (ha.pruned n) h
    exact absurd (ha.prunedValue h1).symm h2

theorem xy_fact : treesE [⟨-1, 0, 0, 0, false, 7⟩] [⟨0, 5, 1, 2, false, 0⟩, ⟨-1, 0, 0, 0, false, 7⟩, ⟨-1, 0, 0, 0, false, 9⟩] 1 = 0 ∧ headL (pairsL [⟨-1, 0, 0, 0, false, 7⟩] [⟨0, 5, 1, 2, false, 0⟩, ⟨-1, 0, 0, 0, false, 7⟩, ⟨-1, 0, 0, 0, false, 9⟩] 1) = [5] := ⟨by decide, by kernel_rfl⟩
theorem ready_row {t : List Nd} {r : List Int} {n : Nat} (h : treeE t n = 0) (hl : r.length = n) : readyE t r = rowE r := by
  unfold readyE
  by_cases h1 : rowE r = 0
  · rw [if_pos h1, hl, h, h1]
  · rw [if_neg h1]
theorem evalV_at {t : List Nd} {r : List Int} (h : readyE t r = 0) : evalV t r = valAt t (leafOf t r) := by unfold evalV; rw [if_pos h]
theorem evalV_no {t : List Nd} {r : List Int} (h : readyE t r ≠ 0) : evalV t r = 0 := by unfold evalV; rw [if_neg h]

set_option maxRecDepth 100000 in
set_option maxHeartbeats 8000000 in
theorem differTells_walk (A C D : Option Addr) (m d m' d' k q : Nat) (a b : List Nd) (fe : Int) (row : List Int) (w : World) (hg : ErrT w) (ha : NReads w w.heap.size A m a) (hb : NReads w w.heap.size C m' b) (hr : IReads w w.heap.size D k row) (hm : m ≤ maxLen) (hm' : m' ≤ maxLen) (hk : k ≤ maxLen) :
    Calls Tryd.prog 4 #[.slice A m d, .slice C m' d', .int .i64 fe, .slice D k q] w fun e w' => e = .returned (.bool true) ∧ Below w.heap.size w w' := by
  obtain ⟨Z7, hZ7⟩ : ∃ Z, Z = Obj.cells #[.int .i64 (-1), .int .i64 0, .int .i64 0, .int .i64 0, .bool false, .int .i64 7] 43 := ⟨_, rfl⟩
  obtain ⟨Z9, hZ9⟩ : ∃ Z, Z = Obj.cells #[.int .i64 0, .int .i64 5, .int .i64 1, .int .i64 2, .bool false, .int .i64 0, .int .i64 (-1), .int .i64 0, .int .i64 0, .int .i64 0, .bool false, .int .i64 7, .int .i64 (-1), .int .i64 0, .int .i64 0, .int .i64 0, .bool false, .int .i64 9] 43 := ⟨_, rfl⟩
  have hT7 : NReads (w.alloc Z7) (w.heap.size + 1) (some ⟨w.heap.size, 0, none⟩) 1 [⟨-1, 0, 0, 0, false, 7⟩] := by
    rw [hZ7]; exact Reads.new_ w 6 1 (([⟨-1, 0, 0, 0, false, 7⟩] : List Nd).flatMap Nd.cells) 43 rfl
  have hT9 : NReads ((w.alloc Z7).alloc Z9) (w.heap.size + 1 + 1) (some ⟨w.heap.size + 1, 0, none⟩) 3 [⟨0, 5, 1, 2, false, 0⟩, ⟨-1, 0, 0, 0, false, 7⟩, ⟨-1, 0, 0, 0, false, 9⟩] := by
    have h := Reads.new_ (w.alloc Z7) 6 3 (([⟨0, 5, 1, 2, false, 0⟩, ⟨-1, 0, 0, 0, false, 7⟩, ⟨-1, 0, 0, 0, false, 9⟩] : List Nd).flatMap Nd.cells) 43 rfl
    rw [World.size_alloc] at h
    rw [hZ9]; exact h
  have hT7' : NReads ((w.alloc Z7).alloc Z9) (w.heap.size + 1 + 1) (some ⟨w.heap.size, 0, none⟩) 1 [⟨-1, 0, 0, 0, false, 7⟩] := (Reads.alloc hT7 (by simp) _).more (by omega)
  have hs0 : ((w.alloc Z7).alloc Z9).heap.size = w.heap.size + 1 + 1 := by simp
  have hb0 : Below w.heap.size w ((w.alloc Z7).alloc Z9) := ((Below.refl _ _).alloc (Nat.le_refl _) _).alloc (by simp) _
  have HF := hide (Trees_any (some ⟨w.heap.size, 0, none⟩) (some ⟨w.heap.size + 1, 0, none⟩) 1 1 3 3 _ _ 1 _ (by rw [hs0]; exact hT7') (by rw [hs0]; exact hT9) (by decide) (by decide))
  have HZ7 := hide hZ7
  have HZ9 := hide hZ9
  have HRL := hide hr.len
  clear hZ7 hZ9 hT7 hT9 hT7'
  go_enter Tryd.func4, Tryd.ntmps4
  go_wp2_with fail
  rw [← unhide HZ7, ← unhide HZ9]
  refine (unhide HF).mono ?_
  rintro e w1 ⟨A1, n1, c1, l1, rfl, hi1, hc1, hy1, _, hb1⟩
  obtain ⟨hl1, hn1⟩ := hy1 xy_fact.1
  rw [show ((1 : Int)).toNat = 1 from rfl, xy_fact.2] at hl1
  obtain rfl : n1 = 1 := by omega
  subst hl1
  rw [xy_fact.1, errV_0 rfl]
  obtain ⟨b1, o1, x, rfl, _, hx, q5⟩ := hi1.get (k := 0) (by omega)
  simp at hx
  subst hx
  have q5' : w1.cell? ⟨b1, o1, none⟩ = some (.int .i64 5) := by simpa using q5
  clear HF HZ7 HZ9 q5 hi1 hc1 hn1 hy1
  generalize (w.alloc Z7).alloc Z9 = W0 at *
  have hB1 : Below w.heap.size w w1 := hb0.trans (hb1.mono hb0.size)
  clear hb1 hb0 hs0
  have hs1 := hB1.size
  go_wp2_with fail
  refine (Trees_any A C m d m' d' a b fe w1 ((ha.below hB1).more hs1) ((hb.below hB1).more hs1) hm hm').mono ?_
  rintro e w2 ⟨A2, n2, c2, l2, rfl, hi2, hc2, hy2, hz2, hb2⟩
  have hB2 := hB1.trans (hb2.mono hs1)
  have hs2 := hB2.size
  have HY := hide hy2
  clear hb2 hB1 hs1 q5' hy2 hz2
  go_wp2_with fail
  refine (rtree_any A m d fe a w2 ((ha.below hB2).more hs2) hm).mono ?_
  rintro e w3 ⟨rfl, hb3⟩
  have hB3 := hB2.trans (hb3.mono hs2)
  have hs3 := hB3.size
  have hi3 : IReads w3 w3.heap.size A2 n2 l2 := (hi2.below hb3).more hb3.size
  rw [show (treeC a fe).2 = treeE a fe from rfl]
  clear hb3 hB2 hs2 hi2
  by_cases ea : treeE a fe = 0
  · rw [ea]
    go_wp2_with fail
    refine (rtree_any C m' d' fe b w3 ((hb.below hB3).more hs3) hm').mono ?_
    rintro e w4 ⟨rfl, hb4⟩
    have hB4 := hB3.trans (hb4.mono hs3)
    have hs4 := hB4.size
    have hi4 : IReads w4 w4.heap.size A2 n2 l2 := (hi3.below hb4).more hb4.size
    have hg4 := hg.below hB4 hg.lt
    rw [show (treeC b fe).2 = treeE b fe from rfl]
    clear hb4 hB3 hs3 hi3
    by_cases eb : treeE b fe = 0
    · have hra := right_of ea
      have hrb := right_of eb
      obtain ⟨n, rfl⟩ : ∃ n : Nat, fe = n := ⟨fe.toNat, by have := hra.fe0; omega⟩
      have hn8 : n ≤ 8 := by have := hra.fe8; omega
      have hE : bothE a b n = 0 := by unfold bothE; rw [if_pos ea]; exact eb
      have hTE : treesE a b n = if pairsL a b n = [] then 5 else 0 := by unfold treesE; rw [if_pos hE, Int.toNat_natCast]
      rw [eb]
      by_cases hp : pairsL a b n = []
      · have hT5 : treesE a b n = 5 := by rw [hTE, if_pos hp]
        have hpr : prunedR a n = prunedV a n := by unfold prunedR; rw [if_pos ea]; rfl
        have hs5 : treesE a (prunedV a n) n = 5 := by
          unfold treesE bothE
          rw [if_pos ea, treeE_right (hra.pruned n), if_pos rfl, Int.toNat_natCast, if_pos (pairsL_pruned hra)]
        have HEV : Hid (k = n → rowE row = 0 → readyE a row = 0 ∧ readyE b row = 0 ∧ evalV a row = evalV b row) := hide (fun hkn h0 => by
          have hl : row.length = n := (unhide HRL).trans hkn
          have r1 : readyE a row = 0 := by rw [ready_row ea hl, h0]
          have r2 : readyE b row = 0 := by rw [ready_row eb hl, h0]
          refine ⟨r1, r2, ?_⟩
          rw [evalV_at r1, evalV_at r2]
          by_cases hv : valAt a (leafOf a row) = valAt b (leafOf b row)
          · exact hv
          · exact absurd hp (pairsL_some hra hrb (by rw [← hl]; exact in_wideP h0) hv))
        have HEN : Hid (k = n → rowE row ≠ 0 → readyE a row = rowE row ∧ readyE b row = rowE row ∧ evalV a row = 0 ∧ evalV b row = 0) := hide (fun hkn h0 => by
          have hl : row.length = n := (unhide HRL).trans hkn
          have r1 : readyE a row = rowE row := ready_row ea hl
          have r2 : readyE b row = rowE row := ready_row eb hl
          exact ⟨r1, r2, evalV_no (by rw [r1]; exact h0), evalV_no (by rw [r2]; exact h0)⟩)
        have HV5 : Hid (errV (treesE a b n) = errV 5) := hide (by rw [hT5])
        have HN5 : Hid (errV 5 = .iface 70 (.int .i64 5)) := hide (errV_1 (by decide))
        have HPR := hide hpr
        have HS5 := hide hs5
        have HEA := hide ea
        rw [unhide HV5, unhide HN5]
        clear hE hTE hp hT5 hpr hs5 ea eb hra hrb HV5 HY
        go_wp2_with fail
        rw [← unhide HN5]
        refine (error_any 5 5 _ hg4).mono ?_
        rintro e w5 ⟨rfl, hb5⟩
        rw [beq_self_eq_true]
        have hB5 := hB4.trans (hb5.mono hs4)
        have hs5 := hB5.size
        clear hb5 hB4 hs4 hi4 hg4
        go_wp2_with fail
        refine (pruneTree_any A m d n a w5 ((ha.below hB5).more hs5) hm).mono ?_
        rintro e w6 ⟨v6, rfl, ho6, hb6⟩
        rw [unhide HEA, errV_0 rfl]
        rw [unhide HPR] at ho6
        obtain ⟨A6, c6, rfl, hr6, _⟩ := ho6.slice
        have hB6 := hB5.trans (hb6.mono hs5)
        have hs6 := hB6.size
        have hpl : (prunedV a n).length ≤ maxLen := by have := (right_of (unhide HEA)).prunedLen n; unfold maxLen; omega
        clear ho6 hb6 hB5 hs5
        go_wp2_with fail
        refine (Trees_any A A6 m d (prunedV a n).length c6 a (prunedV a n) n w6 ((ha.below hB6).more hs6) hr6 hm hpl).mono ?_
        rintro e w7 ⟨A7, n7, c7, l7, rfl, _, _, _, _, hb7⟩
        rw [unhide HS5]
        have hB7 := hB6.trans (hb7.mono hs6)
        have hs7 := hB7.size
        have hg7 := hg.below hB7 hg.lt
        clear hr6 hpl hb7 hB6 hs6
        go_wp2_with fail
        refine (error_any 5 5 _ hg7).mono ?_
        rintro e w8 ⟨rfl, hb8⟩
        rw [beq_self_eq_true]
        have hB8 := hB7.trans (hb8.mono hs7)
        have hs8 := hB8.size
        clear hb8 hB7 hs7 hg7
        go_wp2_with fail
        refine (eval_any A D m d k q a row w8 ((ha.below hB8).more hs8) ((hr.below hB8).more hs8) hm hk).mono ?_
        rintro e w9 ⟨rfl, hb9⟩
        have hB9 := hB8.trans (hb9.mono hs8)
        have hs9 := hB9.size
        clear hb9 hB8 hs8
        go_wp2_with fail
        refine (eval_any C D m' d' k q b row w9 ((hb.below hB9).more hs9) ((hr.below hB9).more hs9) hm' hk).mono ?_
        rintro e w10 ⟨rfl, hb10⟩
        have hB10 := hB9.trans (hb10.mono hs9)
        clear hb10 hB9 hs9
        by_cases hkn : k = n
        · by_cases h0 : rowE row = 0
          · obtain ⟨r1, r2, r3⟩ := unhide HEV hkn h0
            subst hkn
            rw [r1, r2, r3, errV_0 rfl]
            clear r1 r2 r3 h0
            go_wp2_with fail
            go_quiet (fail)
            go_wp2_with fail
            go_ret
            exact ⟨rfl, below_drewN hB10 _⟩
          · obtain ⟨r1, r2, r3, r4⟩ := unhide HEN hkn h0
            have hv := errV_1 h0
            subst hkn
            rw [r1, r2, r3, r4, hv]
            clear r1 r2 r3 r4 h0 hv
            go_wp2_with fail
            go_quiet (fail)
            go_wp2_with fail
            go_ret
            exact ⟨rfl, below_drewN hB10 _⟩
        · have f1 : ((k : Int) != (n : Int)) = true := by simpa using fun h : (k : Int) = n => hkn (by omega)
          have f2 : (k != n) = true := by simpa using hkn
          have f3 : ((k : Int) == (n : Int)) = false := by simpa using fun h : (k : Int) = n => hkn (by omega)
          by_cases h1 : readyE a row = 0 <;> by_cases h2 : readyE b row = 0
          all_goals
            first | rw [h1, errV_0 rfl] | rw [errV_1 h1]
            first | rw [h2, errV_0 rfl] | rw [errV_1 h2] | skip
            clear h1 h2 hkn
            go_wp2_with fail
            go_quiet (fail)
            go_wp2_with fail
            go_ret
            exact ⟨rfl, below_drewN hB10 _⟩
      · have hT0 : treesE a b n = 0 := by rw [hTE, if_neg hp]
        obtain ⟨hl2, hn2⟩ := unhide HY hT0
        rw [Int.toNat_natCast] at hl2
        obtain rfl : n2 = n := by omega
        obtain ⟨hw, hv⟩ := pairsL_head hra hrb hp
        rw [← hl2] at hw hv
        obtain ⟨hrow, hlen⟩ := wide_row hn8 hw
        have r1 : readyE a l2 = 0 := by rw [ready_row ea hlen, hrow]
        have r2 : readyE b l2 = 0 := by rw [ready_row eb hlen, hrow]
        rw [← evalV_at r1, ← evalV_at r2] at hv
        have HV := hide hv
        have HR1 := hide r1
        have HR2 := hide r2
        have fv : (evalV a l2 != evalV b l2) = true := by simpa using hv
        rw [hT0, errV_0 rfl]
        clear hE hTE hp hT0 hl2 hw hv hrow hlen r1 r2 ea eb hra hrb HY hn2
        go_wp2_with fail
        refine (eval_any A A2 m d n2 c2 a l2 w4 ((ha.below hB4).more hs4) hi4 hm (by unfold maxLen; omega)).mono ?_
        rintro e w5 ⟨rfl, hb5⟩
        rw [unhide HR1, errV_0 rfl]
        have hB5 := hB4.trans (hb5.mono hs4)
        have hs5 := hB5.size
        have hi5 : IReads w5 w5.heap.size A2 n2 l2 := (hi4.below hb5).more hb5.size
        clear hb5 hB4 hs4 hi4 hg4
        go_wp2_with fail
        refine (eval_any C A2 m' d' n2 c2 b l2 w5 ((hb.below hB5).more hs5) hi5 hm' (by unfold maxLen; omega)).mono ?_
        rintro e w6 ⟨rfl, hb6⟩
        rw [unhide HR2, errV_0 rfl]
        have hB6 := hB5.trans (hb6.mono hs5)
        go_wp2_with fail
        go_ret
        exact ⟨rfl, hB6⟩
    · have heb : (treeE b fe != 0) = true := by simpa using eb
      have HT : Hid (treesE a b fe = treeE b fe) := hide (by unfold treesE bothE; rw [if_pos ea, if_neg eb])
      rw [unhide HT]
      clear ea eb
      go_wp2_with fail
      refine (error_any _ _ _ hg4).mono ?_
      rintro e w5 ⟨rfl, hb5⟩
      rw [beq_self_eq_true]
      go_wp2_with fail
      go_ret
      exact ⟨rfl, hB4.trans (hb5.mono hs4)⟩
  · have hea : (treeE a fe != 0) = true := by simpa using ea
    have hea0 : (treeE a fe == 0) = false := by simpa using ea
    have hg3 := hg.below hB3 hg.lt
    have HT : Hid (treesE a b fe = treeE a fe) := hide (by unfold treesE bothE; rw [if_neg ea, if_neg ea])
    rw [unhide HT]
    clear ea
    go_wp2_with fail
    refine (error_any _ _ _ hg3).mono ?_
    rintro e w5 ⟨rfl, hb5⟩
    rw [beq_self_eq_true]
    go_wp2_with fail
    go_ret
    exact ⟨rfl, hB3.trans (hb5.mono hs3)⟩
end Go.Proofs.YtefkjpcgcgofgaaDoor
