/- PruneSame: the walk of the law's function. Conditions: the tree's argument reads as a list of nodes, the row as a list of ints. -/
import Derived.Test.YtefkjpcgcgofgaaKin2
import Derived.Test.YtefkjpcgcgofgaaKinUp
import Derived.Test.YtefkjpcgcgofgaaReach2
import Derived.Test.YtefkjpcgcgofgaaSameNd
namespace Go.Proofs.Ytefkjpcgcgofgaa
set_option linter.unusedVariables false
set_option linter.unusedSimpArgs false
open Go.RowKit

theorem nodeE_wider {len i : Nat} {fe fe' : Int} {n : Nd} (h : nodeE len i fe n = 0) (hf : fe ≤ fe') : nodeE len i fe' n = 0 := by
  have h1 := node_of h
  unfold nodeE at h ⊢
  by_cases hl : n.f = -1
  · rw [if_pos hl] at h ⊢; exact h
  · rw [if_neg hl] at h ⊢
    rcases h1 with h1 | h1
    · exact absurd h1.1 hl
    · rw [if_neg (by omega), if_neg (by omega)] at h ⊢
      exact h
theorem Right.wider {t : List Nd} {fe fe' : Int} (h : Right t fe) (h1 : fe ≤ fe') (h2 : fe' ≤ 8) : Right t fe' :=
  ⟨h.pos, h.most, by have := h.fe0; omega, h2, fun i n hn => nodeE_wider (h.node i n hn) h1, h.one, h.deep⟩
theorem two7 : treeE [⟨0, 5, 1, 2, false, 0⟩, ⟨-1, 0, 0, 0, false, 7⟩, ⟨-1, 0, 0, 0, false, 7⟩] 1 = 0 ∧ prunedR [⟨0, 5, 1, 2, false, 0⟩, ⟨-1, 0, 0, 0, false, 7⟩, ⟨-1, 0, 0, 0, false, 7⟩] 1 = [⟨-1, 0, 0, 0, false, 7⟩] := ⟨by decide, by kernel_rfl⟩

/-- what the law asks of a tree that is right -/
structure SameLaw (t : List Nd) (n : Nat) (row : List Int) (P S : List Nd) : Prop where
  t0 : treeE t n = 0
  tP : treeE P n = 0
  tP8 : treeE P 8 = 0
  tS : treeE S n = 0
  pR : prunedR t n = P
  again : prunedR P n = P
  sR : sortedR t n = S
  sL : S.length = t.length
  pL : P.length ≤ t.length
  p1 : 1 ≤ P.length
  rL : reachV P n = leavesV P
  kids : ∀ (i : Nat) x, P[i]? = some x → x.f ≠ -1 → x.l = (i : Int) + 1 ∧ ∃ r a b, x.r = ((r : Nat) : Int) ∧ P[i + 1]? = some a ∧ P[r]? = some b ∧ ¬ (a.f = -1 ∧ b.f = -1 ∧ a.v = b.v)
  vP : rowE row = 0 → evalV P row = evalV t row
  vS : rowE row = 0 → evalV S row = evalV t row
theorem sameLaw {t : List Nd} {n : Nat} {row : List Int} (hn : row.length = n) (h : treeE t n = 0) : SameLaw t n row (prunedV t n) (sortedV t) := by
  have hR := right_of h
  have hP := hR.pruned n
  have hS := hR.sorted
  have e8 : (n : Int) ≤ 8 := hR.fe8
  have hP8 := hP.wider e8 (by omega)
  refine ⟨h, treeE_right hP, treeE_right hP8, treeE_right hS, ?_, ?_, ?_, ?_, hR.prunedLess n, hP.pos, ?_, fun i x hx hf => hR.prunedSides hx hf, fun hr => ?_, fun hr => ?_⟩
  · unfold prunedR; rw [if_pos h]; rfl
  · unfold prunedR; rw [if_pos (treeE_right hP)]; exact hR.prunedTwice n
  · unfold sortedR; rw [if_pos h]
  · unfold sortedV; rw [layK_len]; exact hR.sortedLen
  · rw [hR.prunedReach]; unfold leavesV; rw [if_pos (treeE_right hP8)]
  · unfold evalV readyE
    rw [if_pos hr, if_pos hr, hn, if_pos (treeE_right hP), if_pos h]
    exact hR.prunedValue (by rw [← hn]; exact in_wideP hr)
  · unfold evalV readyE
    rw [if_pos hr, if_pos hr, hn, if_pos (treeE_right hS), if_pos h]
    exact hR.sortedValue row

set_option maxRecDepth 100000 in
set_option maxHeartbeats 4000000 in
theorem pruneSame_walk (A C : Option Addr) (m d k q : Nat) (t : List Nd) (row : List Int) (w : World) (ht : NReads w w.heap.size A m t) (hr : IReads w w.heap.size C k row) (hm : m ≤ maxLen) (hk : k ≤ maxLen) :
    Calls Try.prog 4 #[.slice A m d, .slice C k q] w fun e w' => e = .returned (.bool true) ∧ Below w.heap.size w w' := by
  obtain ⟨Z, hZ⟩ : ∃ Z, Z = Obj.cells #[.int .i64 0, .int .i64 5, .int .i64 1, .int .i64 2, .bool false, .int .i64 0, .int .i64 (-1), .int .i64 0, .int .i64 0, .int .i64 0, .bool false, .int .i64 7, .int .i64 (-1), .int .i64 0, .int .i64 0, .int .i64 0, .bool false, .int .i64 7] 30 := ⟨_, rfl⟩
  have hT0 : NReads (w.alloc Z) (w.heap.size + 1) (some ⟨w.heap.size, 0, none⟩) 3 [⟨0, 5, 1, 2, false, 0⟩, ⟨-1, 0, 0, 0, false, 7⟩, ⟨-1, 0, 0, 0, false, 7⟩] := by
    rw [hZ]; exact Reads.new_ w 6 3 (([⟨0, 5, 1, 2, false, 0⟩, ⟨-1, 0, 0, 0, false, 7⟩, ⟨-1, 0, 0, 0, false, 7⟩] : List Nd).flatMap Nd.cells) 30 rfl
  have hs0 : (w.alloc Z).heap.size = w.heap.size + 1 := World.size_alloc _ _
  have hb0 : Below w.heap.size w (w.alloc Z) := (Below.refl _ _).alloc (Nat.le_refl _) _
  have HF := hide (pruneTree_any (some ⟨w.heap.size, 0, none⟩) 3 3 1 _ _ (by rw [hs0]; exact hT0) (by decide))
  have HZ := hide hZ
  have hml := ht.len
  have hrl := hr.len
  have HML := hide hml
  have HRL := hide hrl
  clear hZ hT0 hml hrl
  go_enter Try.func4, Try.ntmps4
  go_wp2_with fail
  rw [← unhide HZ]
  refine (unhide HF).mono ?_
  rintro e w1 ⟨v1, rfl, ho1, hb1⟩
  rw [two7.1, errV_0 rfl]
  rw [two7.2] at ho1
  obtain ⟨A1, c1, rfl, hr1, _⟩ := ho1.slice
  obtain ⟨b, o, x, rfl, _, hx, _, _, _, _, _, q5⟩ := hr1.get (k := 0) (by simp)
  simp at hx
  subst hx
  have q5' : w1.cell? ⟨b, o + 5, none⟩ = some (.int .i64 7) := by simpa using q5
  have e1 : ([⟨-1, 0, 0, 0, false, 7⟩] : List Nd).length = 1 := rfl
  rw [e1]
  clear HF HZ q5 e1 ho1 hr1
  generalize w.alloc Z = W0 at *
  have hB1 : Below w.heap.size w w1 := hb0.trans (hb1.mono hb0.size)
  clear hb1 hb0 hs0
  have hs1 := hB1.size
  go_wp2_with fail
  refine (pruneTree_any A m d k t w1 ((ht.below hB1).more hs1) hm).mono ?_
  rintro e w2 ⟨v2, rfl, ho2, hb2⟩
  have hB2 := hB1.trans (hb2.mono hs1)
  have hs2 := hB2.size
  clear q5' hB1 hs1 hb2
  by_cases h0 : treeE t k = 0
  · have hL := sameLaw (unhide HRL) h0
    rw [h0, errV_0 rfl]
    rw [hL.pR] at ho2
    have HL := hide hL
    have hp1 := hL.p1
    have hpm := hL.pL
    rw [unhide HML] at hpm
    have hm63 : m ≤ 63 := by have := (right_of h0).most; have := unhide HML; omega
    have hk8 : k ≤ 8 := by have := (right_of h0).fe8; omega
    clear hL h0
    generalize prunedV t k = P at *
    generalize sortedV t = S at *
    obtain ⟨A2, c2, rfl, hr2, _⟩ := ho2.slice
    obtain ⟨np, hnp⟩ : ∃ np, np = P.length := ⟨_, rfl⟩
    rw [← hnp] at hr2 hp1 hpm ⊢
    have HNP := hide hnp
    clear ho2 hnp
    go_wp2_with fail
    refine (pruneSort_any A m d k t w2 ((ht.below hB2).more hs2) hm).mono ?_
    rintro e w3 ⟨v3, rfl, ho3, hb3⟩
    have hB3 := hB2.trans (hb3.mono hs2)
    have hr3 := (hr2.below hb3).more hb3.size
    have hs3 := hB3.size
    rw [(unhide HL).sR] at ho3
    obtain ⟨A3, c3, rfl, hS3, _⟩ := ho3.slice
    rw [(unhide HL).sL, unhide HML] at hS3 ⊢
    have HE : Hid (errV (treeE t k) = .nilIface) := hide (errV_0 (unhide HL).t0)
    rw [unhide HE]
    clear hr2 ho3 hb3 hB2 hs2 HE
    go_wp2_with fail
    refine (pruneTree_any A2 np c2 k P w3 hr3 (by unfold maxLen; omega)).mono ?_
    rintro e w4 ⟨v4, rfl, ho4, hb4⟩
    have hB4 := hB3.trans (hb4.mono hs3)
    have hr4 := (hr3.below hb4).more hb4.size
    have hS4 := (hS3.below hb4).more hb4.size
    have hs4 := hB4.size
    rw [(unhide HL).again] at ho4
    rw [(unhide HL).tP, errV_0 rfl]
    obtain ⟨A4, c4, rfl, hq4, _⟩ := ho4.slice
    rw [← unhide HNP] at hq4 ⊢
    clear hr3 hS3 ho4 hb4 hB3 hs3
    go_wp2_with fail
    refine (sameNodes_any A4 A2 np c4 c2 P w4 _ _ hq4 hr4 (by unfold maxLen; omega)).mono ?_
    rintro e w5 ⟨rfl, q5, rfl⟩
    have hr5 := Reads.drewN hr4 q5
    have hS5 := Reads.drewN hS4 q5
    have hB5 := below_drewN hB4 q5
    have hs5 := hB5.size
    clear hr4 hS4 hq4 hB4 hs4
    go_wp2_with fail
    refine (Reach_any A2 np c2 P k _ hr5 (by unfold maxLen; omega)).mono ?_
    rintro e w6 ⟨v6, rfl, ho6, hb6⟩
    rw [(unhide HL).tP, errV_0 rfl]
    have hB6 := hB5.trans (hb6.mono hs5)
    have hr6 : NReads w6 w6.heap.size A2 np P := (Reads.below hr5 hb6).more hb6.size
    have hS6 : NReads w6 w6.heap.size A3 m S := (Reads.below hS5 hb6).more hb6.size
    have hs6 := hB6.size
    obtain ⟨A6, c6, rfl, hi6, hl6, _⟩ := ho6.slice_
    clear hr5 hS5 ho6 hb6 hB5 hs5
    go_wp2_with fail
    refine (Leaves_any A2 np c2 P w6 hr6 (by unfold maxLen; omega)).mono ?_
    rintro e w7 ⟨v7, rfl, ho7, hb7⟩
    rw [(unhide HL).tP8, errV_0 rfl]
    have hB7 := hB6.trans (hb7.mono hs6)
    have hr7 : NReads w7 w7.heap.size A2 np P := (Reads.below hr6 hb7).more hb7.size
    have hS7 : NReads w7 w7.heap.size A3 m S := (Reads.below hS6 hb7).more hb7.size
    have hs7 := hB7.size
    have hi7 : IReads w7 w7.heap.size A6 (reachV P k).length (reachV P k) := (Reads.below hi6 hb7).more hb7.size
    obtain ⟨A7, c7, rfl, hj7, hl7, _⟩ := own_slice ho7
    have hj7' : IReads w7 w7.heap.size A7 (leavesV P).length (leavesV P) := hj7
    clear hr6 hS6 ho7 hb7 hB6 hs6 hi6 hj7
    have HEQ := hide (unhide HL).rL
    go_wp2_with fail
    refine (ints_any A6 A7 _ _ c6 c7 _ _ w7 _ _ hi7 hj7' hl6 hl7).mono ?_
    rintro e w8 ⟨rfl, q8, rfl⟩
    rw [unhide HEQ, beq_self_eq_true]
    have hr8 : NReads (w7.drewN q8) (w7.drewN q8).heap.size A2 np P := Reads.drewN hr7 q8
    have hS8 : NReads (w7.drewN q8) (w7.drewN q8).heap.size A3 m S := Reads.drewN hS7 q8
    have hB8 := below_drewN hB7 q8
    clear hr7 hS7 hB7 hs7 hi7 hj7' hl6 hl7 HEQ
    generalize w7.drewN q8 = W8 at *
    have hs8 := hB8.size
    go_wp2_with fail
    go_loopw [19] (fun i wr => ∃ j : Nat, j ≤ np ∧ i = .int .i64 j ∧ Below W8.heap.size W8 wr) (fun i _ => np - (intOf i).toNat)
    case atStart => exact ⟨0, Nat.zero_le _, rfl, Below.refl _ _⟩
    case round =>
      obtain ⟨j, hj, rfl, hbel⟩ := hrel
      have hsr := hbel.size
      have hr9 : NReads wr wr.heap.size A2 np P := (hr8.below hbel).more hsr
      have hS9 : NReads wr wr.heap.size A3 m S := (hS8.below hbel).more hsr
      by_cases hlt : j < np
      · obtain ⟨b1, o1, x, rfl, hbb1, hx, x0, x1, x2, x3, x4, x5⟩ := hr9.get hlt
        by_cases hf : x.f = -1
        · have hfb : (x.f == -1) = true := by simpa using hf
          clear hf hx
          go_wp2_with fail
          go_roundw
          case rel => exact ⟨j + 1, by omega, by go_num, hbel⟩
          case measure => simp [intOf]; omega
        · have hfb : (x.f == -1) = false := by simpa using hf
          obtain ⟨hl, rr, a, b', hrr, ha, hb', hno⟩ := (unhide HL).kids j x hx hf
          have hja : j + 1 < np := by have := (List.getElem?_eq_some_iff.1 ha).1; have := unhide HNP; omega
          have hjb : rr < np := by have := (List.getElem?_eq_some_iff.1 hb').1; have := unhide HNP; omega
          obtain ⟨b2, o2, a', e2, hbb2, ha', a0, a1, a2, a3, a4, a5⟩ := hr9.get hja
          obtain ⟨b3, o3, b'', e3, hbb3, hb'', z0, z1, z2, z3, z4, z5⟩ := hr9.get hjb
          cases e2
          cases e3
          rw [ha] at ha'; cases ha'
          rw [hb'] at hb''; cases hb''
          rw [hl] at x2
          rw [hrr] at x3
          have hx2 : wr.cell? ⟨b1, o1 + j * 6 + 2, none⟩ = some (.int .i64 ((j + 1 : Nat) : Int)) := by rw [x2]; rfl
          clear hx ha hb' hf hl hrr x2 hr9 hS9
          by_cases ga : a.f = -1
          · have fa : (a.f == -1) = true := by simpa using ga
            by_cases gb : b'.f = -1
            · have fb : (b'.f == -1) = true := by simpa using gb
              have fv : (a.v == b'.v) = false := by simpa using fun h => hno ⟨ga, gb, h⟩
              clear hno ga gb
              go_wp2_with fail
              go_roundw
              case rel => exact ⟨j + 1, by omega, by go_num, (hbel.alloc hsr _).alloc (by rw [World.size_alloc]; omega) _⟩
              case measure => simp [intOf]; omega
            · have fb : (b'.f == -1) = false := by simpa using gb
              clear hno ga gb
              go_wp2_with fail
              go_roundw
              case rel => exact ⟨j + 1, by omega, by go_num, (hbel.alloc hsr _).alloc (by rw [World.size_alloc]; omega) _⟩
              case measure => simp [intOf]; omega
          · have fa : (a.f == -1) = false := by simpa using ga
            clear hno ga
            go_wp2_with fail
            go_roundw
            case rel => exact ⟨j + 1, by omega, by go_num, (hbel.alloc hsr _).alloc (by rw [World.size_alloc]; omega) _⟩
            case measure => simp [intOf]; omega
      · go_wp2_with fail
        refine (eval_any A C m d k q t row wr ((ht.below (hB8.trans (hbel.mono hs8))).more (by omega)) ((hr.below (hB8.trans (hbel.mono hs8))).more (by omega)) hm hk).mono ?_
        rintro e w9 ⟨rfl, hb9⟩
        have hB9 := (hB8.trans (hbel.mono hs8)).trans (hb9.mono (by omega))
        have hs9 := hB9.size
        have hr10 : NReads w9 w9.heap.size A2 np P := (hr9.below hb9).more hb9.size
        have hS10 : NReads w9 w9.heap.size A3 m S := (hS9.below hb9).more hb9.size
        by_cases hre : rowE row = 0
        · have hvP := (unhide HL).vP hre
          have hvS := (unhide HL).vS hre
          have rt : readyE t row = 0 := by unfold readyE; rw [if_pos hre, unhide HRL]; exact (unhide HL).t0
          have rP : readyE P row = 0 := by unfold readyE; rw [if_pos hre, unhide HRL]; exact (unhide HL).tP
          have rS : readyE S row = 0 := by unfold readyE; rw [if_pos hre, unhide HRL]; exact (unhide HL).tS
          rw [rt, errV_0 rfl]
          have HVP := hide hvP
          have HVS := hide hvS
          have HRP := hide rP
          have HRS := hide rS
          clear hre hvP hvS rt rP rS hr8 hS8 hr9 hS9
          generalize evalV t row = V at *
          go_wp2_with fail
          refine (eval_any A2 C np c2 k q P row w9 hr10 ((hr.below hB9).more hs9) (by unfold maxLen; omega) hk).mono ?_
          rintro e w10 ⟨rfl, hb10⟩
          have hB10 := hB9.trans (hb10.mono hs9)
          have hs10 := hB10.size
          have hS11 : NReads w10 w10.heap.size A3 m S := (hS10.below hb10).more hb10.size
          rw [unhide HRP, unhide HVP, errV_0 rfl]
          go_wp2_with fail
          refine (eval_any A3 C m c3 k q S row w10 hS11 ((hr.below hB10).more hs10) hm hk).mono ?_
          rintro e w11 ⟨rfl, hb11⟩
          rw [unhide HRS, unhide HVS, errV_0 rfl]
          go_wp2_with fail
          go_ret
          exact ⟨rfl, hB10.trans (hb11.mono hs10)⟩
        · have rt : readyE t row = rowE row := by unfold readyE; rw [if_neg hre]
          have HV := hide (errV_1 hre)
          rw [rt, unhide HV]
          clear rt hre
          go_wp2_with fail
          refine (rowCheck_any C k q row w9 _ ((hr.below hB9).more hs9) hk).mono ?_
          rintro e w10 ⟨rfl, rfl⟩
          rw [unhide HV]
          go_wp2_with fail
          go_ret
          exact ⟨rfl, hB9⟩
  · rw [errV_1 h0]
    clear h0
    go_wp2_with fail
    go_ret
    exact ⟨rfl, hB2⟩
end Go.Proofs.Ytefkjpcgcgofgaa
