/- Part 28 of what LawLimitTells needs: REnds, RefTree. Conditions: as each lemma names. -/
import Derived.Test.YtafaedhjlmkamaaGreatDoorPkLimitTells25
import Derived.Test.YtafaedhjlmkamaaGreatDoorPkLimitTells27
import Derived.Test.YtafaedhjlmkamaaGreatDoorPkLimitTells05
import Derived.BigGuardPart
/- The reference's Ends: what is told within spans, leaf by leaf in the order of the nodes. Conditions: the tree is right, the spans as many as it has features. -/
namespace Go.Proofs.YtafaedhjlmkamaaGreatDoor
set_option linter.unusedVariables false
set_option linter.unusedSimpArgs false
open Go.RowKit

def REndsPost (en : En) (w : World) (e : Ending) (w' : World) : Prop :=
  ∃ A1 n1 c1 A2 n2 c2, e = .returned (.tuple #[.int .i64 en.low, .int .i64 en.high, .slice A1 n1 c1, .slice A2 n2 c2]) ∧ IReads w' w'.heap.size A1 n1 en.least ∧ IReads w' w'.heap.size A2 n2 en.most ∧ n1 ≤ 8 ∧ n2 ≤ 8 ∧ Below w.heap.size w w'
theorem enTo_none {t : List Nd} {ro : Nat → Option (List Sp)} {k : Nat} {E : En} (hE : E = enTo t ro k) (h : ro k = none) : E = enTo t ro (k + 1) := by rw [enTo_next, ← hE]; unfold enStep; rw [h]
theorem enTo_some {t : List Nd} {ro : Nat → Option (List Sp)} {k : Nat} {lo hi : Int} {ls ms : List Int} {so : Bool} {M : List Sp} {v : Int} (hE : (⟨lo, hi, ls, ms, so⟩ : En) = enTo t ro k) (h : ro k = some M) (hv : valAt t k = v) :
    enTo t ro (k + 1) = ⟨if (!so || decide (v < lo)) = true then v else lo, if (!so || decide (hi < v)) = true then v else hi, if (!so || decide (v < lo)) = true then pickL M else ls, if (!so || decide (hi < v)) = true then pickL M else ms, true⟩ := by
  rw [enTo_next, ← hE]; unfold enStep; rw [h, hv]

set_option maxRecDepth 100000 in
set_option maxHeartbeats 8000000 in
theorem rends_any (A C : Option Addr) (m d n c : Nat) (t : List Nd) (l : List Sp) (hR : Right t n) (w : World) (ht : NReads w w.heap.size A m t) (hl : SReads w w.heap.size C n l) :
    Calls Tryz.prog 6 #[.slice A m d, .slice C n c] w (REndsPost (enTo t (roM t n l) t.length) w) := by
  have HLt := hide ht.len
  have HLl := hide hl.len
  have hm : m ≤ 63 := by have := hR.most; have := unhide HLt; omega
  have hn8 : n ≤ 8 := by have := hR.fe8; omega
  have HRT := hide hR
  clear hR
  go_enter Tryz.func6, Tryz.ntmps6
  go_wp2_with fail
  go_loopw [8, 9, 10, 11, 12, 13] (fun v8 v9 v10 v11 v12 i wr => ∃ (k : Nat) (E : En) (A1 : Option Addr) (n1 c1 : Nat) (A2 : Option Addr) (n2 c2 : Nat), k ≤ m ∧ i = .int .i64 k ∧ Hid (E = enTo t (roM t n l) k) ∧ v8 = .int .i64 E.low ∧ v9 = .int .i64 E.high ∧ v10 = .slice A1 n1 c1 ∧ v11 = .slice A2 n2 c2 ∧ v12 = .bool E.some ∧ Hid (IReads wr wr.heap.size A1 n1 E.least) ∧ Hid (IReads wr wr.heap.size A2 n2 E.most) ∧ n1 ≤ 8 ∧ n2 ≤ 8 ∧ Below w.heap.size w wr) (fun _ _ _ _ _ i _ => m - (intOf i).toNat)
  case atStart => exact ⟨0, en0, none, 0, 0, none, 0, 0, Nat.zero_le _, rfl, hide rfl, rfl, rfl, rfl, rfl, rfl, hide IReads.nil_, hide IReads.nil_, by omega, by omega, Below.refl _ _⟩
  case round =>
    obtain ⟨k, E, A1, n1, c1, A2, n2, c2, hk, rfl, HE, rfl, rfl, rfl, rfl, rfl, H1, H2, q1, q2, hbel⟩ := hrel
    obtain ⟨lo, hi, ls, ms, so⟩ := E
    dsimp only at HE H1 H2 ⊢
    have hsz := hbel.size
    by_cases hlt : k < m
    · obtain ⟨b1, o1, x, rfl, hb1, hx, x0, x1, x2, x3, x4, x5⟩ := (ht.below hbel).get hlt
      have hxl : k < t.length := (List.getElem?_eq_some_iff.1 hx).1
      have hb1' : b1 < wr.heap.size := by omega
      have vx := valAt_of hx
      by_cases hfx : x.f = -1
      · have HLB : Hid (isLeafB t k = true) := hide (isLeafB_t.2 ⟨x, hx, hfx⟩)
        have f1 : (x.f != -1) = false := by simp [hfx]
        have HV := hide vx
        clear hx hfx vx
        go_wp2_with fail
        refine (rregion_any (some ⟨b1, o1, none⟩) m d n k t (unhide HRT) hxl _ ((ht.below hbel).more hsz)).mono ?_
        rintro e w1 ⟨v1, rfl, ho1, hw1⟩
        have hB1 := hbel.trans (hw1.mono hsz)
        have hs1 := hB1.size
        obtain ⟨R1, d1, rfl, hr1, _, _⟩ := own_slice ho1
        have I1 := hide (((unhide H1).below hw1).more hw1.size)
        have I2 := hide (((unhide H2).below hw1).more hw1.size)
        have y5 := (hw1.cell (p := ⟨b1, o1 + k * 6 + 5, none⟩) hb1').trans x5
        have hb2' : b1 < w1.heap.size := Nat.lt_of_lt_of_le hb1' hw1.size
        clear ho1 hw1 H1 H2 x0 x1 x2 x3 x4 x5 hbel hsz
        go_wp2_with fail
        refine (rmeet_any R1 C n d1 c _ _ _ _ w1 hr1 ((hl.below hB1).more hs1) (Nat.le_refl _) (Nat.le_refl _) (by omega)).mono ?_
        rintro e w2 ⟨v2, rfl, ho2, hw2⟩
        have hB2 := hB1.trans (hw2.mono hs1)
        have hs2 := hB2.size
        obtain ⟨R2, d2, rfl, hr2, _, _⟩ := own_slice ho2
        have hr2' : SReads w2 w2.heap.size R2 n (meetAt t n l k) := hr2
        have J1 := hide (((unhide I1).below hw2).more hw2.size)
        have J2 := hide (((unhide I2).below hw2).more hw2.size)
        have z5 := (hw2.cell (p := ⟨b1, o1 + k * 6 + 5, none⟩) hb2').trans y5
        have hb3' : b1 < w2.heap.size := Nat.lt_of_lt_of_le hb2' hw2.size
        clear ho2 hw2 I1 I2 y5 hr1 hr2 hB1 hs1
        go_wp2_with fail
        refine (rany_any R2 n d2 _ _ w2 hr2' (by unfold maxLen; omega)).mono ?_
        rintro e w3 ⟨rfl, q3, hw3⟩
        obtain ⟨M, hM⟩ : ∃ M, M = meetAt t n l k := ⟨_, rfl⟩
        rw [← hM] at hr2'
        rw [← hM]
        have HM := hide hM
        clear hM
        have hb3 : Below w2.heap.size w2 w3 := by rw [hw3]; exact below_drewN (Below.refl _ _) _
        have hB3 := hB2.trans (hb3.mono hs2)
        have hs3 := hB3.size
        have K1 := hide (((unhide J1).below hb3).more hb3.size)
        have K2 := hide (((unhide J2).below hb3).more hb3.size)
        have g5 := (hb3.cell (p := ⟨b1, o1 + k * 6 + 5, none⟩) hb3').trans z5
        have hr3 : SReads w3 w3.heap.size R2 n M := (Reads.below hr2' hb3).more hb3.size
        have hb4' : b1 < w3.heap.size := Nat.lt_of_lt_of_le hb3' hb3.size
        clear J1 J2 z5 hr2' hB2 hs2 hb3 hw3 hb3' hb2'
        by_cases hany : anyB M = true
        · have HS : Hid (roM t n l k = some M) := hide (by rw [roM_leaf (unhide HLB), ← unhide HM, if_pos hany])
          have HN := hide (enTo_some (unhide HE) (unhide HS) (unhide HV))
          rw [hany]
          have hgv : ∃ v, v = x.v := ⟨_, rfl⟩
          obtain ⟨v, hv⟩ := hgv
          rw [← hv] at g5 HN
          clear hany HE HS HM HV HLB hv f1
          cases so
          · have HX := hide ((unhide HN).trans rfl : enTo t (roM t n l) (k + 1) = ⟨v, v, pickL M, pickL M, true⟩)
            clear HN
            go_wp2_with fail
            refine (rpick_any R2 n d2 _ _ w3 hr3 (Nat.le_refl _) (by omega)).mono ?_
            rintro e w4 ⟨p4, rfl, ho4, hw4⟩
            obtain ⟨P4, pc4, rfl, hp4, _, _⟩ := own_slice ho4
            have hB4 := hB3.trans (hw4.mono hs3)
            have hs4 := hB4.size
            have N1_4 := hide (((unhide K1).below hw4).more hw4.size)
            have N2_4 := hide (((unhide K2).below hw4).more hw4.size)
            have g5_4 := (hw4.cell (p := ⟨b1, o1 + k * 6 + 5, none⟩) hb4').trans g5
            have hb_4 : b1 < w4.heap.size := Nat.lt_of_lt_of_le hb4' hw4.size
            have hr_4 : SReads w4 w4.heap.size R2 n M := (Reads.below hr3 hw4).more hw4.size
            have HP4 : Hid (IReads w4 w4.heap.size P4 n (pickL M)) := hide hp4
            clear ho4 hw4 hp4 hr3 g5 hB3
            go_wp2_with fail
            refine (rpick_any R2 n d2 _ _ w4 hr_4 (Nat.le_refl _) (by omega)).mono ?_
            rintro e w5 ⟨p5, rfl, ho5, hw5⟩
            obtain ⟨P5, pc5, rfl, hp5, _, _⟩ := own_slice ho5
            have hB5 := hB4.trans (hw5.mono hs4)
            have hs5 := hB5.size
            have N1_5 := hide (((unhide HP4).below hw5).more hw5.size)
            have N2_5 := hide (((unhide N2_4).below hw5).more hw5.size)
            have g5_5 := (hw5.cell (p := ⟨b1, o1 + k * 6 + 5, none⟩) hb_4).trans g5_4
            have hb_5 : b1 < w5.heap.size := Nat.lt_of_lt_of_le hb_4 hw5.size
            have hr_5 : SReads w5 w5.heap.size R2 n M := (Reads.below hr_4 hw5).more hw5.size
            have HP5 : Hid (IReads w5 w5.heap.size P5 n (pickL M)) := hide hp5
            clear ho5 hw5 hp5 hr_4 g5_4 hB4
            go_wp2_with fail
            go_roundw
            case rel => exact ⟨k + 1, _, P4, n, pc4, P5, n, pc5, by omega, by go_num, hide (unhide HX).symm, rfl, rfl, rfl, rfl, rfl, N1_5, HP5, by omega, by omega, hB5⟩
            case measure => simp [intOf]; omega
          · by_cases hl1 : v < lo
            · by_cases hh1 : hi < v
              · have dl : decide (v < lo) = true := by simpa using hl1
                have dh : decide (hi < v) = true := by simpa using hh1
                have HX := hide ((unhide HN).trans (by rw [dl, dh]; rfl) : enTo t (roM t n l) (k + 1) = ⟨v, v, pickL M, pickL M, true⟩)
                clear HN hl1 hh1
                go_wp2_with fail
                refine (rpick_any R2 n d2 _ _ w3 hr3 (Nat.le_refl _) (by omega)).mono ?_
                rintro e w4 ⟨p4, rfl, ho4, hw4⟩
                obtain ⟨P4, pc4, rfl, hp4, _, _⟩ := own_slice ho4
                have hB4 := hB3.trans (hw4.mono hs3)
                have hs4 := hB4.size
                have N1_4 := hide (((unhide K1).below hw4).more hw4.size)
                have N2_4 := hide (((unhide K2).below hw4).more hw4.size)
                have g5_4 := (hw4.cell (p := ⟨b1, o1 + k * 6 + 5, none⟩) hb4').trans g5
                have hb_4 : b1 < w4.heap.size := Nat.lt_of_lt_of_le hb4' hw4.size
                have hr_4 : SReads w4 w4.heap.size R2 n M := (Reads.below hr3 hw4).more hw4.size
                have HP4 : Hid (IReads w4 w4.heap.size P4 n (pickL M)) := hide hp4
                clear ho4 hw4 hp4 hr3 g5 hB3
                go_wp2_with fail
                refine (rpick_any R2 n d2 _ _ w4 hr_4 (Nat.le_refl _) (by omega)).mono ?_
                rintro e w5 ⟨p5, rfl, ho5, hw5⟩
                obtain ⟨P5, pc5, rfl, hp5, _, _⟩ := own_slice ho5
                have hB5 := hB4.trans (hw5.mono hs4)
                have hs5 := hB5.size
                have N1_5 := hide (((unhide HP4).below hw5).more hw5.size)
                have N2_5 := hide (((unhide N2_4).below hw5).more hw5.size)
                have g5_5 := (hw5.cell (p := ⟨b1, o1 + k * 6 + 5, none⟩) hb_4).trans g5_4
                have hb_5 : b1 < w5.heap.size := Nat.lt_of_lt_of_le hb_4 hw5.size
                have hr_5 : SReads w5 w5.heap.size R2 n M := (Reads.below hr_4 hw5).more hw5.size
                have HP5 : Hid (IReads w5 w5.heap.size P5 n (pickL M)) := hide hp5
                clear ho5 hw5 hp5 hr_4 g5_4 hB4
                go_wp2_with fail
                go_roundw
                case rel => exact ⟨k + 1, _, P4, n, pc4, P5, n, pc5, by omega, by go_num, hide (unhide HX).symm, rfl, rfl, rfl, rfl, rfl, N1_5, HP5, by omega, by omega, hB5⟩
                case measure => simp [intOf]; omega
              · have dl : decide (v < lo) = true := by simpa using hl1
                have dh : decide (hi < v) = false := by simpa using hh1
                have HX := hide ((unhide HN).trans (by rw [dl, dh]; rfl) : enTo t (roM t n l) (k + 1) = ⟨v, hi, pickL M, ms, true⟩)
                clear HN hl1 hh1
                go_wp2_with fail
                refine (rpick_any R2 n d2 _ _ w3 hr3 (Nat.le_refl _) (by omega)).mono ?_
                rintro e w4 ⟨p4, rfl, ho4, hw4⟩
                obtain ⟨P4, pc4, rfl, hp4, _, _⟩ := own_slice ho4
                have hB4 := hB3.trans (hw4.mono hs3)
                have hs4 := hB4.size
                have N1_4 := hide (((unhide K1).below hw4).more hw4.size)
                have N2_4 := hide (((unhide K2).below hw4).more hw4.size)
                have g5_4 := (hw4.cell (p := ⟨b1, o1 + k * 6 + 5, none⟩) hb4').trans g5
                have hb_4 : b1 < w4.heap.size := Nat.lt_of_lt_of_le hb4' hw4.size
                have hr_4 : SReads w4 w4.heap.size R2 n M := (Reads.below hr3 hw4).more hw4.size
                have HP4 : Hid (IReads w4 w4.heap.size P4 n (pickL M)) := hide hp4
                clear ho4 hw4 hp4 hr3 g5 hB3
                go_wp2_with fail
                go_roundw
                case rel => exact ⟨k + 1, _, P4, n, pc4, A2, n2, c2, by omega, by go_num, hide (unhide HX).symm, rfl, rfl, rfl, rfl, rfl, HP4, N2_4, by omega, by omega, hB4⟩
                case measure => simp [intOf]; omega
            · by_cases hh1 : hi < v
              · have dl : decide (v < lo) = false := by simpa using hl1
                have dh : decide (hi < v) = true := by simpa using hh1
                have HX := hide ((unhide HN).trans (by rw [dl, dh]; rfl) : enTo t (roM t n l) (k + 1) = ⟨lo, v, ls, pickL M, true⟩)
                clear HN hl1 hh1
                go_wp2_with fail
                refine (rpick_any R2 n d2 _ _ w3 hr3 (Nat.le_refl _) (by omega)).mono ?_
                rintro e w4 ⟨p4, rfl, ho4, hw4⟩
                obtain ⟨P4, pc4, rfl, hp4, _, _⟩ := own_slice ho4
                have hB4 := hB3.trans (hw4.mono hs3)
                have hs4 := hB4.size
                have N1_4 := hide (((unhide K1).below hw4).more hw4.size)
                have N2_4 := hide (((unhide K2).below hw4).more hw4.size)
                have g5_4 := (hw4.cell (p := ⟨b1, o1 + k * 6 + 5, none⟩) hb4').trans g5
                have hb_4 : b1 < w4.heap.size := Nat.lt_of_lt_of_le hb4' hw4.size
                have hr_4 : SReads w4 w4.heap.size R2 n M := (Reads.below hr3 hw4).more hw4.size
                have HP4 : Hid (IReads w4 w4.heap.size P4 n (pickL M)) := hide hp4
                clear ho4 hw4 hp4 hr3 g5 hB3
                go_wp2_with fail
                go_roundw
                case rel => exact ⟨k + 1, _, A1, n1, c1, P4, n, pc4, by omega, by go_num, hide (unhide HX).symm, rfl, rfl, rfl, rfl, rfl, N1_4, HP4, by omega, by omega, hB4⟩
                case measure => simp [intOf]; omega
              · have dl : decide (v < lo) = false := by simpa using hl1
                have dh : decide (hi < v) = false := by simpa using hh1
                have HX := hide ((unhide HN).trans (by rw [dl, dh]; rfl) : enTo t (roM t n l) (k + 1) = ⟨lo, hi, ls, ms, true⟩)
                clear HN hl1 hh1
                go_wp2_with fail
                go_roundw
                case rel => exact ⟨k + 1, _, A1, n1, c1, A2, n2, c2, by omega, by go_num, hide (unhide HX).symm, rfl, rfl, rfl, rfl, rfl, K1, K2, by omega, by omega, hB3⟩
                case measure => simp [intOf]; omega
        · have hany' : anyB M = false := by simpa using hany
          have HS : Hid (roM t n l k = none) := hide (by rw [roM_leaf (unhide HLB), ← unhide HM, if_neg hany])
          have HN := hide (enTo_none (unhide HE) (unhide HS))
          rw [hany']
          clear hany hany' HE HS HM HLB f1 hr3 g5
          go_wp2_with fail
          go_roundw
          case rel => exact ⟨k + 1, _, A1, n1, c1, A2, n2, c2, by omega, by go_num, HN, rfl, rfl, rfl, rfl, rfl, K1, K2, q1, q2, hB3⟩
          case measure => simp [intOf]; omega
      · have HN := hide (enTo_none (unhide HE) (roM_not (n := n) (l := l) (by unfold isLeafB; rw [hx]; simp [hfx])))
        have f1 : (x.f != -1) = true := by simpa using hfx
        clear hx vx hfx HE
        go_wp2_with fail
        go_roundw
        case rel => exact ⟨k + 1, _, A1, n1, c1, A2, n2, c2, by omega, by go_num, HN, rfl, rfl, rfl, rfl, rfl, H1, H2, q1, q2, hbel⟩
        case measure => simp [intOf]; omega
    · obtain rfl : k = m := by omega
      have HX : Hid ((⟨lo, hi, ls, ms, so⟩ : En) = enTo t (roM t n l) t.length) := hide (by rw [unhide HLt]; exact unhide HE)
      clear HE
      go_wp2_with fail
      ((try simp only [Exit.inBlock, Exit.then]); refine bodyPost_ret (results_tmp4 rfl _ _ _) rfl ?_)
      rw [← unhide HX]
      exact ⟨A1, n1, c1, A2, n2, c2, rfl, unhide H1, unhide H2, q1, q2, hbel⟩
end Go.Proofs.YtafaedhjlmkamaaGreatDoor
/- The references of chapter 4: Depth, Tree, Ready, Left, Leaf. Conditions: a tree that reads as a list of nodes. -/
namespace Go.Proofs.YtafaedhjlmkamaaGreatDoor
set_option linter.unusedVariables false
set_option linter.unusedSimpArgs false
open Go.RowKit

theorem rdepth_any (A : Option Addr) (m d B : Nat) (t : List Nd) (hm : m ≤ 63) (hb : Behind t) : ∀ (k i : Nat) (w : World), m ≤ i + k → i < m → NReads w B A m t →
    Calls Tryz.prog 19 #[.slice A m d, .int .i64 i] w fun e w' => e = .returned (.int .i64 (dep t i)) ∧ w = w' := by
  intro k
  induction k with
  | zero => intro i w h1 h2; omega
  | succ k ih =>
    intro i w h1 h2 ht
    have hlt := ht.len
    obtain ⟨b, o, n, rfl, hbb, hn, g0, g1, g2, g3, g4, g5⟩ := ht.get h2
    have hda := dep_at hn (fun hf => (hb i n hn hf).1) (fun hf => (hb i n hn hf).2.2.1)
    by_cases hf : n.f = -1
    · rw [if_pos hf] at hda
      have HD := hide hda
      rw [hf] at g0
      clear hda hn hlt
      go_enter Tryz.func19, Tryz.ntmps19
      go_wp2_with fail
      go_ret
      exact ⟨ret_int (by rw [unhide HD]; rfl), rfl⟩
    · rw [if_neg hf] at hda
      obtain ⟨a1, a2, a3, a4⟩ := hb i n hn hf
      obtain ⟨ln, hln⟩ : ∃ ln : Nat, n.l = ln := ⟨n.l.toNat, by omega⟩
      obtain ⟨rn, hrn⟩ : ∃ rn : Nat, n.r = rn := ⟨n.r.toNat, by omega⟩
      rw [hln, hrn] at hda
      rw [hln] at a1 a2 g2
      rw [hrn] at a3 a4 g3
      have c1 := ih ln w (by omega) (by omega) ht
      have c2 := ih rn w (by omega) (by omega) ht
      have l1 := dep_le t ln
      have l2 := dep_le t rn
      simp only [Int.toNat_natCast] at hda
      generalize dep t ln = x at *
      generalize dep t rn = y at *
      have HD := hide hda
      have hq : (n.f == -1) = false := by simpa using hf
      clear hda hn hf ih
      by_cases hxy : x < y
      · go_enter Tryz.func19, Tryz.ntmps19
        go_wp2_with fail
        refine c1.mono ?_; rintro e w1 ⟨rfl, rfl⟩
        go_wp2_with fail
        refine c2.mono ?_; rintro e w1 ⟨rfl, rfl⟩
        clear c1 c2
        go_wp2_with fail
        go_ret
        exact ⟨ret_int (by rw [unhide HD]; omega), rfl⟩
      · go_enter Tryz.func19, Tryz.ntmps19
        go_wp2_with fail
        refine c1.mono ?_; rintro e w1 ⟨rfl, rfl⟩
        go_wp2_with fail
        refine c2.mono ?_; rintro e w1 ⟨rfl, rfl⟩
        clear c1 c2
        go_wp2_with fail
        go_ret
        exact ⟨ret_int (by rw [unhide HD]; omega), rfl⟩

theorem rleft_any (f c l r v x : Int) (less : Bool) (w : World) :
    Calls Tryz.prog 52 #[.agg #[.int .i64 f, .int .i64 c, .int .i64 l, .int .i64 r, .bool less, .int .i64 v], .int .i64 x] w fun e w' => e = .returned (.bool (if x = -1125899906842624 then less else decide (x < c))) ∧ Below w.heap.size w w' := by
  by_cases hx : x = -1125899906842624
  · subst hx
    go_enter Tryz.func52, Tryz.ntmps52
    go_wp2_with fail
    refine (rnone_any _ _).mono ?_; rintro e w1 ⟨rfl, rfl⟩
    go_wp2_with fail
    go_ret
    exact ⟨rfl, by go_grown⟩
  · have q : (x == -1125899906842624) = false := by simpa using hx
    have HX := hide hx
    clear hx
    go_enter Tryz.func52, Tryz.ntmps52
    go_wp2_with fail
    refine (rnone_any _ _).mono ?_; rintro e w1 ⟨rfl, rfl⟩; rw [q]
    go_wp2_with fail
    go_ret
    exact ⟨ret_bool (by first | rw [if_neg (unhide HX)] | rfl), by go_grown⟩
end Go.Proofs.YtafaedhjlmkamaaGreatDoor
