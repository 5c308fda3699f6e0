/- TreeDeep: the walk of the law's function. Conditions: arguments read as lists. -/
import Derived.Test.YtliacpdbeghmlaaPath
namespace Go.Proofs.Ytliacpdbeghmlaa
set_option linter.unusedVariables false
set_option linter.unusedSimpArgs false
open Go.RowKit

def tree3 (a b : Int) : List Nd := [⟨0, 0, 1, 2, false, 0⟩, ⟨-1, 0, 0, 0, false, a⟩, ⟨-1, 0, 0, 0, false, b⟩]
theorem tree3_right : treeE (tree3 0 0) 8 = 0 := by decide
theorem tree3_depth : depthV (tree3 0 0) = 1 := by decide

theorem fact_depth (w : World) : Calls Try.prog 24 #[.slice (some ⟨w.heap.size, 0, none⟩) 3 3]
    (w.alloc (.cells #[.int .i64 0, .int .i64 0, .int .i64 1, .int .i64 2, .bool false, .int .i64 0, .int .i64 (-1), .int .i64 0, .int .i64 0, .int .i64 0, .bool false, .int .i64 0, .int .i64 (-1), .int .i64 0, .int .i64 0, .int .i64 0, .bool false, .int .i64 0] 57))
    fun e w' => e = .returned (.tuple #[.int .i64 1, .nilIface]) ∧ Below w.heap.size w w' := by
  have h1 := Reads.new_ w 6 3 ((tree3 0 0).flatMap Nd.cells) 57 rfl
  have hs : (w.alloc (.cells ((tree3 0 0).flatMap Nd.cells).toArray 57)).heap.size = w.heap.size + 1 := World.size_alloc _ _
  have := Depth_any (some ⟨w.heap.size, 0, none⟩) 3 3 (tree3 0 0) _ (by rw [hs]; exact h1) (by decide)
  refine Calls.mono this fun e w' ⟨he, hb⟩ => ⟨?_, ?_⟩
  · rw [he, tree3_right, tree3_depth]; rfl
  · rw [hs] at hb
    exact ((Below.refl w.heap.size w).alloc (Nat.le_refl _) _).trans (hb.mono (by omega))

theorem pow_step {k x : Nat} (h : x = 2 ^ k) : x * 2 = 2 ^ (k + 1) := by rw [h, Nat.pow_succ]
theorem pow_le10 {k : Nat} (h : k ≤ 10) : 2 ^ k ≤ 1024 := Nat.le_trans (Nat.pow_le_pow_right (by omega) h) (by decide)

set_option maxRecDepth 100000 in
set_option maxHeartbeats 2000000 in
theorem treeDeep_walk (A : Option Addr) (m c : Nat) (t : List Nd) (C : Option Addr) (k q : Nat) (row : List Int) (w : World)
    (ht : NReads w w.heap.size A m t) (hr : IReads w w.heap.size C k row) (hm : m ≤ maxLen) (hk : k ≤ maxLen) :
    Calls Try.prog 7 #[.slice A m c, .slice C k q] w fun e w' => e = .returned (.bool true) ∧ Below w.heap.size w w' := by
  by_cases h0 : treeE t 8 = 0
  · have hR := right_of h0
    have hb := hR.bounds
    have hd10 := hR.deep
    have HE : Hid (depthV t = dep t 0) := hide (by unfold depthV; rw [if_pos h0])
    have HLV : Hid ((leavesV t).length = nLeaf t) := hide (by unfold leavesV; rw [if_pos h0, leavesFrom_count])
    have hv := errV_0 h0
    have HV := hide hv
    have HP : Hid ((pathV t row).length ≤ dep t 0 + 1) := hide (by
      unfold pathV
      split
      · have := wayFrom_len (row := row) hR.behind t.length 0 hR.pos
        rw [List.length_cons]; omega
      · simp)
    obtain ⟨D, hD⟩ : ∃ D, D = dep t 0 := ⟨_, rfl⟩
    obtain ⟨L, hLn⟩ : ∃ L, L = nLeaf t := ⟨_, rfl⟩
    rw [← hD] at hb hd10 HE HP
    rw [← hLn] at hb HLV
    have hL63 : L ≤ 63 := by have := hR.halves; have := hR.most; omega
    obtain ⟨hb1, hb2⟩ := hb
    have HB2 := hide hb2
    clear h0 hR hD hLn hb2
    go_enter Try.func7, Try.ntmps7
    go_wp2_with fail
    refine (fact_depth w).mono ?_
    rintro e w1 ⟨rfl, hbe1⟩
    have hs1 := hbe1.size
    go_wp2_with fail
    refine (Depth_any A m c t _ (Reads.more (ht.below hbe1) hs1) hm).mono ?_
    rintro e w2 ⟨rfl, hbe2⟩
    rw [unhide HE, unhide HV]
    have hbw2 := hbe1.trans (hbe2.mono hs1)
    have hs2 := hbw2.size
    clear hv
    go_wp2_with fail
    refine (Leaves_any A m c t _ (Reads.more (ht.below hbw2) hs2) hm).mono ?_
    rintro e w3 ⟨v, rfl, hown, hbe3⟩
    rw [unhide HV]
    obtain ⟨vA, vc, rfl, _, _, _⟩ := own_slice hown
    rw [unhide HLV]
    have hbw3 := hbw2.trans (hbe3.mono hs2)
    have hs3 := hbw3.size
    clear hown
    go_wp2_with fail
    go_loop [9, 10] (fun x i => ∃ k x' : Nat, k ≤ D ∧ i = .int .i64 k ∧ x = .int .i64 x' ∧ x' ≤ 1024 ∧ Hid (x' = 2 ^ k)) (fun _ i => D - (intOf i).toNat)
    case atStart => exact ⟨0, 1, Nat.zero_le _, rfl, rfl, by omega, hide rfl⟩
    case round =>
      obtain ⟨i, x, hi, rfl, rfl, hx, HX⟩ := hrel
      by_cases hlt : i < D
      · have hx2 : x * 2 ≤ 1024 := by rw [pow_step (unhide HX)]; exact pow_le10 (by omega)
        go_wp2_with fail
        go_round
        case rel => exact ⟨i + 1, x * 2, by omega, by go_num, by go_num, hx2, hide (pow_step (unhide HX))⟩
        case measure => simp [intOf] <;> omega
      · obtain rfl : i = D := by omega
        have hLx : L ≤ x := by rw [unhide HX]; exact unhide HB2
        go_wp2_with fail
        refine (path_any A C m c k q t row _ (Reads.more (ht.below hbw3) hs3) ((hr.below hbw3).more hs3) hm hk).mono ?_
        rintro e w4 ⟨p, rfl, hown4, hbe4⟩
        obtain ⟨pA, pc, rfl, _, _, _⟩ := own_slice hown4
        have hbw4 := hbw3.trans (hbe4.mono hs3)
        obtain ⟨pl, hpl⟩ : ∃ pl, pl = (pathV t row).length := ⟨_, rfl⟩
        have hpb := unhide HP
        rw [← hpl] at hpb ⊢
        have q : decide ((pl : Int) ≤ (i : Int) + 1) = true := by simp; omega
        clear hown4 hpl
        by_cases hre : readyE t row = 0
        · rw [errV_0 hre]
          clear hre
          go_wp2_with fail
          go_ret
          exact ⟨rfl, hbw4⟩
        · rw [errV_1 hre]
          clear hre
          go_wp2_with fail
          go_ret
          exact ⟨rfl, hbw4⟩
  · have hv := errV_1 h0
    clear h0
    go_enter Try.func7, Try.ntmps7
    go_wp2_with fail
    refine (fact_depth w).mono ?_
    rintro e w1 ⟨rfl, hbe1⟩
    have hs1 := hbe1.size
    go_wp2_with fail
    refine (Depth_any A m c t _ (Reads.more (ht.below hbe1) hs1) hm).mono ?_
    rintro e w2 ⟨rfl, hbe2⟩
    rw [hv]
    clear hv
    go_wp2_with fail
    go_ret
    exact ⟨rfl, hbe1.trans (hbe2.mono hs1)⟩
end Go.Proofs.Ytliacpdbeghmlaa
