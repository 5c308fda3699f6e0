/- TreeTells: the walk. Conditions: the tree and the row read as lists; the variable errors.errorType holds the handle of error. -/
import Derived.Test.YtliacpdbeghmlaaDoorRefTree2
import Derived.Test.YtliacpdbeghmlaaDoorRefLeaf
import Derived.Test.YtliacpdbeghmlaaDoorTold2
import Derived.Deep.DeepCutAuto
namespace Go.Proofs.YtliacpdbeghmlaaDoor
set_option linter.unusedVariables false
set_option linter.unusedSimpArgs false
open Go.RowKit

theorem at_val {t : List Nd} {i : Nat} {n : Nd} (h : t[i]? = some n) : valAt t i = n.v := by unfold valAt; rw [h]

set_option maxRecDepth 100000 in
set_option maxHeartbeats 8000000 in
theorem treeTells_walk (A C : Option Addr) (m d k q : Nat) (t : List Nd) (fe : Int) (row : List Int) (w : World) (hg : ErrT w) (ht : NReads w w.heap.size A m t) (hr : IReads w w.heap.size C k row) (hm : m ≤ maxLen) (hk : k ≤ maxLen) :
    Calls Tryd.prog 3 #[.slice A m d, .int .i64 fe, .slice C k q] w fun e w' => e = .returned (.bool true) ∧ Below w.heap.size w w' := by
  have hlen := ht.len
  have hlr := hr.len
  have HL := hide hlen
  have HR := hide hlr
  clear hlen hlr
  go_enter Tryd.func3, Tryd.ntmps3
  go_wp2_with fail
  refine (rtree_any A m d fe t _ ht hm).mono ?_
  rintro e w1 ⟨rfl, hb1⟩
  have z1 := hb1.size
  have hg1 := hg.below hb1 hg.lt
  go_wp2_with fail
  refine (check_any A m d fe t _ ((ht.below hb1).more z1) hm).mono ?_
  rintro e w2 ⟨rfl, hb2⟩
  have b2 := hb1.trans (hb2.mono z1)
  have z2 := b2.size
  have hg2 := hg.below b2 hg.lt
  clear hb2
  go_wp2_with fail
  refine (error_any _ _ _ hg2).mono ?_
  rintro e w3 ⟨rfl, hb3⟩
  rw [show (treeE t fe == (treeC t fe).2) = true from beq_self_eq_true _]
  have b3 := b2.trans (hb3.mono z2)
  have z3 := b3.size
  have hg3 := hg.below b3 hg.lt
  clear hb3
  go_wp2_with fail
  refine (rtree_any A m d 8 t _ ((ht.below b3).more z3) hm).mono ?_
  rintro e w4 ⟨rfl, hb4⟩
  have b4 := b3.trans (hb4.mono z3)
  have z4 := b4.size
  have hg4 := hg.below b4 hg.lt
  clear hb4
  have HE8 := hide (show (treeC t 8).2 = treeE t 8 from rfl)
  rw [unhide HE8]
  go_upto_if 54 with (fail)
  go_cut [12, 13] (fun s12 s13 wx => s12 = .int .i64 (depthV t) ∧ wx.ownsRow w.heap.size 3 1 s13 (leavesV t).length ((leavesV t).map (Value.int .i64)) ∧ Below w.heap.size w wx)
  case first =>
    by_cases h0 : treeE t 8 = 0
    · have hR := right_of h0
      have b1' := hR.pos
      have b2' := hR.most
      have HB := hide hR.behind
      have HE : Hid (leavesV t = leavesFrom 0 t) := hide (by unfold leavesV; rw [if_pos h0])
      have HD : Hid (depthV t = dep t 0) := hide (by unfold depthV; rw [if_pos h0])
      rw [unhide HL] at b1' b2'
      have hb : (treeE t 8 == 0) = true := by simpa using h0
      clear h0 hR
      go_wp2_with fail
      refine (rdepth_any A m d w.heap.size t b2' (unhide HB) m 0 _ (by omega) b1' (ht.below b4)).mono ?_
      rintro e w5 ⟨rfl, rfl⟩
      go_wp2_with fail
      go_loopw [13, 14] (fun v i wr => ∃ (k : Nat) (l : List Int), k ≤ m ∧ i = .int .i64 k ∧ l.length ≤ k ∧ Hid (l ++ leavesFrom k (t.drop k) = leavesFrom 0 t) ∧ wr.ownsRow w.heap.size 3 1 v l.length (l.map (Value.int .i64)) ∧ Below w.heap.size w wr) (fun _ i _ => m - (intOf i).toNat)
      case atStart => exact ⟨0, [], Nat.zero_le _, rfl, Nat.le_refl _, hide (by simp), World.ownsRow_nil _ _ _ _, b4⟩
      case round =>
        obtain ⟨k, l, hk, rfl, hlk, HG, hown, hbel⟩ := hrel
        have hsz := hbel.size
        by_cases hlt : k < m
        · obtain ⟨b, o, n, rfl, hbb, hn, g0, g1, g2, g3, g4, g5⟩ := (ht.below hbel).get hlt
          by_cases hf : n.f = -1
          · have HN : Hid ((l ++ [(k : Int)]) ++ leavesFrom (k + 1) (t.drop (k + 1)) = leavesFrom 0 t) := hide (by rw [← unhide HG, leaves_hit hn hf]; simp)
            have hk9 : l.length < 1000000000 := by omega
            obtain ⟨nf, nc, nl, nr, nless, nv⟩ := n
            simp only at hf g0 g1 g2 g3 g4 g5
            subst hf
            clear hn
            go_wp2_with (at_builtin; refine app_one elem_int (.tmp 69) (.tmp 71) [.int .i64 (k : Int)] rfl rfl rfl hown rfl rfl rfl (ints_oneCell .i64 [(k : Int)]) hk9 hsz ?_; intro v' w2 hown2 hb2 _ _)
            have hown3 : w2.ownsRow w.heap.size 3 1 v' (l ++ [(k : Int)]).length ((l ++ [(k : Int)]).map (Value.int .i64)) := by simpa using hown2
            clear hown2
            go_wp2_with fail
            go_roundw
            case rel => exact ⟨k + 1, l ++ [(k : Int)], by omega, by go_num, by simp; omega, HN, hown3, hbel.trans hb2⟩
            case measure => simp [intOf] <;> omega
          · have HN : Hid (l ++ leavesFrom (k + 1) (t.drop (k + 1)) = leavesFrom 0 t) := hide (by rw [← unhide HG, leaves_miss hn hf])
            have q : (n.f == -1) = false := by simpa using hf
            clear hn
            go_wp2_with fail
            go_roundw
            case rel => exact ⟨k + 1, l, by omega, by go_num, by omega, HN, hown, hbel⟩
            case measure => simp [intOf] <;> omega
        · obtain rfl : k = m := by omega
          have hgg := unhide HG
          rw [List.drop_of_length_le (by have := unhide HL; omega), leavesFrom, List.append_nil, ← unhide HE] at hgg
          rw [hgg] at hown
          clear HG hgg
          go_wp2_with fail
          go_meet
          case rel => exact ⟨by rw [unhide HD], hown, hbel⟩
    · have hb : (treeE t 8 == 0) = false := by simpa using h0
      have HE : Hid (leavesV t = []) := hide (by unfold leavesV; rw [if_neg h0])
      have HD : Hid (depthV t = 0) := hide (by unfold depthV; rw [if_neg h0])
      clear h0
      go_wp2_with fail
      go_meet
      case rel => exact ⟨by rw [unhide HD], by rw [unhide HE]; exact World.ownsRow_nil _ _ _ _, b4⟩
  case rest =>
    obtain ⟨rfl, hown, b5⟩ := hcut
    obtain ⟨A9, c9, hu9, hr9, hn9, hc9⟩ := own_slice hown
    subst hu9
    have z5 := b5.size
    have hg5 := hg.below b5 hg.lt
    go_wp2_with fail
    refine (Depth_any A m d t _ ((ht.below b5).more z5) hm).mono ?_
    rintro e w6 ⟨rfl, hb6⟩
    have b6 := b5.trans (hb6.mono z5)
    have z6 := b6.size
    have hg6 := hg.below b6 hg.lt
    have hr9' := (Reads.below hr9 hb6).more hb6.size
    clear hb6 hr9
    go_wp2_with fail
    refine (error_any _ _ _ hg6).mono ?_
    rintro e w7 ⟨rfl, hb7⟩
    rw [beq_self_eq_true]
    have b7 := b6.trans (hb7.mono z6)
    have z7 := b7.size
    have hg7 := hg.below b7 hg.lt
    have hr9 := (Reads.below hr9' hb7).more hb7.size
    clear hb7 hr9'
    go_wp2_with fail
    refine (Leaves_any A m d t _ ((ht.below b7).more z7) hm).mono ?_
    rintro e w8 ⟨v8, rfl, hown8, hb8⟩
    obtain ⟨A8, c8, rfl, hr8, hn8, hc8⟩ := own_slice hown8
    have b8 := b7.trans (hb8.mono z7)
    have z8 := b8.size
    have hg8 := hg.below b8 hg.lt
    have hr9' := (Reads.below hr9 hb8).more hb8.size
    clear hb8 hr9 hown8
    go_wp2_with fail
    refine (error_any _ _ _ hg8).mono ?_
    rintro e w9 ⟨rfl, hb9⟩
    rw [beq_self_eq_true]
    have b9 := b8.trans (hb9.mono z8)
    have z9 := b9.size
    have hr9 := (Reads.below hr9' hb9).more hb9.size
    have hr8' := (Reads.below hr8 hb9).more hb9.size
    clear hb9 hr9' hr8
    go_wp2_with fail
    refine (ints_any _ _ _ _ _ _ (leavesV t) (leavesV t) _ _ _ hr8' hr9 hn8 hn9).mono ?_
    rintro e w10 ⟨rfl, q10, rfl⟩
    rw [beq_self_eq_true]
    have b10 : Below w.heap.size w (w9.drewN q10) := ⟨b9.os, b9.tape, b9.output, b9.size, b9.block⟩
    have z10 := b10.size
    have hg10 := hg.below b10 hg.lt
    clear hr9 hr8' b9
    generalize w9.drewN q10 = w10 at *
    go_wp2_with fail
    refine (rready_any A C m d k q t row _ ((ht.below b10).more z10) ((hr.below b10).more z10) hm hk).mono ?_
    rintro e w11 ⟨rfl, hb11⟩
    have b11 := b10.trans (hb11.mono z10)
    have z11 := b11.size
    clear hb11
    go_upto_if 96 with (fail)
    go_cut [20, 21] (fun s20 s21 wx => s20 = .int .i64 (leafV t row) ∧ s21 = .int .i64 (evalV t row) ∧ Below w.heap.size w wx)
    case first =>
      by_cases h0 : readyE t row = 0
      · obtain ⟨_, hR, h8⟩ := readyE_right h0
        have b1' := hR.pos
        have b2' := hR.most
        have HB := hide hR.behind
        have HA := hide hR.asks
        rw [unhide HR] at h8 HA
        rw [unhide HL] at b1' b2'
        have HLV : Hid (leafV t row = leafOf t row) := hide (by unfold leafV; rw [if_pos h0])
        have HEV : Hid (evalV t row = valAt t (leafOf t row)) := hide (by unfold evalV; rw [if_pos h0])
        have hlt : leafOf t row < m := by rw [← unhide HL]; exact leafFrom_lt hR.behind _ _ hR.pos
        have hb : (readyE t row == 0) = true := by simpa using h0
        clear h0 hR
        go_wp2_with fail
        refine (rleaf_any A C m d k q t row _ ((ht.below b11).more z11) ((hr.below b11).more z11) b1' b2' h8 (unhide HB) (unhide HA)).mono ?_
        rintro e w12 ⟨v12, rfl, _, hb12⟩
        have b12 := b11.trans (hb12.mono z11)
        clear hb12
        generalize leafOf t row = lf at *
        obtain ⟨b, o, n, rfl, hbb, hn, g0, g1, g2, g3, g4, g5⟩ := (ht.below b12).get hlt
        have HV := hide (at_val hn)
        clear hn
        go_wp2_with fail
        go_meet
        case rel => exact ⟨by rw [unhide HLV], by rw [unhide HEV, unhide HV], b12⟩
      · have hb : (readyE t row == 0) = false := by simpa using h0
        have HLV : Hid (leafV t row = 0) := hide (by unfold leafV; rw [if_neg h0])
        have HEV : Hid (evalV t row = 0) := hide (by unfold evalV; rw [if_neg h0])
        clear h0
        go_wp2_with fail
        go_meet
        case rel => exact ⟨by rw [unhide HLV], by rw [unhide HEV], b11⟩
    case rest =>
      obtain ⟨rfl, rfl, b12⟩ := hcut
      have z12 := b12.size
      go_wp2_with fail
      refine (leaf_any A C m d k q t row _ ((ht.below b12).more z12) ((hr.below b12).more z12) hm hk).mono ?_
      rintro e w13 ⟨rfl, hb13⟩
      have b13 := b12.trans (hb13.mono z12)
      have z13 := b13.size
      have hg13 := hg.below b13 hg.lt
      clear hb13
      go_wp2_with fail
      refine (error_any _ _ _ hg13).mono ?_
      rintro e w14 ⟨rfl, hb14⟩
      rw [beq_self_eq_true]
      have b14 := b13.trans (hb14.mono z13)
      have z14 := b14.size
      clear hb14
      go_wp2_with fail
      refine (eval_any A C m d k q t row _ ((ht.below b14).more z14) ((hr.below b14).more z14) hm hk).mono ?_
      rintro e w15 ⟨rfl, hb15⟩
      have b15 := b14.trans (hb15.mono z14)
      have z15 := b15.size
      have hg15 := hg.below b15 hg.lt
      clear hb15
      go_wp2_with fail
      refine (error_any _ _ _ hg15).mono ?_
      rintro e w16 ⟨rfl, hb16⟩
      rw [beq_self_eq_true]
      have b16 := b15.trans (hb16.mono z15)
      clear hb16
      go_wp2_with fail
      go_ret
      exact ⟨rfl, b16⟩
end Go.Proofs.YtliacpdbeghmlaaDoor
