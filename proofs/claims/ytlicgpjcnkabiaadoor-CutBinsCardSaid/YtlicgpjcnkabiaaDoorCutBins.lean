/- CutBins: the walk. Conditions: three slices that read as lists, and the handle that errors need. -/
import Derived.Test.YtlicgpjcnkabiaaDoorRefCut
import Derived.Test.YtlicgpjcnkabiaaDoorCutFiner
import Derived.Test.YtlicgpjcnkabiaaDoorTold2
import Derived.Deep.DeepCutAuto
import Derived.Deep.CutRange
namespace Go.Proofs.YtlicgpjcnkabiaaDoor
set_option linter.unusedVariables false
set_option linter.unusedSimpArgs false
open Go.RowKit


def uptoL (s : List Int) (k : Nat) : List Int := Lib.compactUpTo s.toArray k
theorem uptoL_zero (s : List Int) : uptoL s 0 = [] := by simp [uptoL, Lib.compactUpTo]
theorem uptoL_len (s : List Int) : ∀ k, (uptoL s k).length ≤ k := by
  intro k
  unfold uptoL Lib.compactUpTo
  rw [List.length_map]
  exact Nat.le_trans (List.length_filter_le _ _) (by simp)
theorem uptoL_first {s : List Int} {x : Int} (h : s[0]? = some x) : uptoL s 1 = [x] := by
  have := Lib.compactUpTo_succ s.toArray 0
  unfold uptoL
  rw [this]
  cases s with
  | nil => cases h
  | cons y r => simp at h; subst h; simp [Lib.compactUpTo, Lib.keeps]
theorem get_bang {s : List Int} {k : Nat} {x : Int} (h : s[k]? = some x) : s.toArray[k]! = x := by
  obtain ⟨hk, e⟩ := List.getElem?_eq_some_iff.1 h
  simp [hk, e]
theorem uptoL_take {s : List Int} {k : Nat} {x y : Int} (hx : s[k + 1]? = some x) (hy : s[k]? = some y) (h : x ≠ y) : uptoL s (k + 1 + 1) = uptoL s (k + 1) ++ [x] := by
  unfold uptoL
  rw [Lib.compactUpTo_succ, if_pos (Lib.keeps_pos (by rw [get_bang hx, Nat.add_sub_cancel, get_bang hy]; exact h)), get_bang hx]
theorem uptoL_skip {s : List Int} {k : Nat} {x y : Int} (hx : s[k + 1]? = some x) (hy : s[k]? = some y) (h : x = y) : uptoL s (k + 1 + 1) = uptoL s (k + 1) := by
  unfold uptoL
  rw [Lib.compactUpTo_succ, Lib.keeps_neg (by omega) (by rw [get_bang hx, Nat.add_sub_cancel, get_bang hy]; exact h)]
  simp
theorem uptoL_all (s : List Int) : uptoL s s.length = compactL s := rfl

theorem cutsE_bad {l : List Int} {many : Int} (h1 : many < 1 ∨ 60 < many) : cutsE l many = 1 := by
  unfold cutsE
  by_cases h : many < 1
  · rw [if_pos h]
  · rw [if_neg h, if_pos (by omega)]
def endLoV (l : List Int) (b : Int) : Int := if endsE l b = 0 then endLo l b.toNat else 0
def endHiV (l : List Int) (b : Int) : Int := if endsE l b = 0 then endHi l b.toNat else 0
theorem ends2_any (A : Option Addr) (n c : Nat) (l : List Int) (b : Int) (w : World) (hr : IReads w w.heap.size A n l) (hn : n ≤ maxLen) :
    Calls Tryd.prog 20 #[.slice A n c, .int .i64 b] w fun e w' => e = .returned (.tuple #[.int .i64 (endLoV l b), .int .i64 (endHiV l b), errV (endsE l b)]) ∧ w = w' :=
  ends_any A n c 0 l b w hr hn
def firstE2 (a b : List Int) : Int := if cutE a = 0 then cutE b else cutE a
theorem firstE2_0 {a b : List Int} (h : firstE2 a b = 0) : cutE a = 0 ∧ cutE b = 0 := by
  unfold firstE2 at h
  by_cases h0 : cutE a = 0
  · rw [if_pos h0] at h; exact ⟨h0, h⟩
  · rw [if_neg h0] at h; exact absurd h h0
theorem countE_0 {a l : List Int} (h : countE a l = 0) : cutE a = 0 ∧ valuesE l = 0 := by
  unfold countE at h
  by_cases h0 : cutE a = 0
  · rw [if_pos h0] at h; exact ⟨h0, h⟩
  · rw [if_neg h0] at h; exact absurd h h0
theorem mergeE_bad {a b : List Int} (h : firstE2 a b ≠ 0) : mergeE a b = firstE2 a b := by
  unfold mergeE firstE2
  unfold firstE2 at h
  by_cases h0 : cutE a = 0
  · rw [if_pos h0] at h ⊢
    rw [if_neg h, if_pos h0]
  · rw [if_neg h0, if_neg h0]
theorem mergeE_good {a b : List Int} (h : firstE2 a b = 0) : mergeE a b = if 60 < (mergeV a b).length then 4 else 0 := by
  obtain ⟨h1, h2⟩ := firstE2_0 h
  unfold mergeE
  rw [if_pos h1, if_pos h2]
theorem binE_bad {a : List Int} {x : Int} (h : (cutE a == 0 && !cellB x) = true) : binE a x = 1 := by
  rw [Bool.and_eq_true, beq_iff_eq, Bool.not_eq_true'] at h
  unfold binE; rw [if_pos h.1, h.2]; rfl
theorem binE_ok {a : List Int} {x : Int} (h : (cutE a == 0 && !cellB x) = false) : binE a x = cutE a := by
  unfold binE
  by_cases h0 : cutE a = 0
  · rw [if_pos h0]
    have : cellB x = true := by simpa [h0] using h
    rw [if_pos this, h0]
  · rw [if_neg h0]
theorem binE_0 {a : List Int} {x : Int} (h : binE a x = 0) : cutE a = 0 := by
  unfold binE at h
  by_cases h0 : cutE a = 0
  · exact h0
  · rw [if_neg h0] at h; exact absurd h h0
theorem endsE_bad {a : List Int} {x : Int} (h : (cutE a == 0 && (decide (x < 0) || decide ((a.length : Int) < x))) = true) : endsE a x = 1 := by
  rw [Bool.and_eq_true, beq_iff_eq, Bool.or_eq_true, decide_eq_true_eq, decide_eq_true_eq] at h
  unfold endsE; rw [if_pos h.1]
  by_cases h1 : x < 0
  · rw [if_pos h1]
  · rw [if_neg h1, if_pos (by omega)]
theorem endsE_ok {a : List Int} {x : Int} (h : (cutE a == 0 && (decide (x < 0) || decide ((a.length : Int) < x))) = false) : endsE a x = cutE a := by
  unfold endsE
  by_cases h0 : cutE a = 0
  · rw [if_pos h0]
    have h' : ¬ x < 0 ∧ ¬ (a.length : Int) < x := by simpa [h0] using h
    rw [if_neg h'.1, if_neg h'.2, h0]
  · rw [if_neg h0]
theorem endsE_0 {a : List Int} {x : Int} (h : endsE a x = 0) : cutE a = 0 ∧ ∃ j : Nat, x = j ∧ j ≤ a.length := by
  unfold endsE at h
  by_cases h0 : cutE a = 0
  · rw [if_pos h0] at h
    by_cases h1 : x < 0
    · rw [if_pos h1] at h; cases h
    · rw [if_neg h1] at h
      by_cases h2 : (a.length : Int) < x
      · rw [if_pos h2] at h; cases h
      · exact ⟨h0, x.toNat, by omega, by omega⟩
  · rw [if_neg h0] at h; exact absurd h h0
set_option maxRecDepth 100000 in
set_option maxHeartbeats 8000000 in
theorem cutBins_walk (A C D : Option Addr) (n m p c d g : Nat) (a b l : List Int) (many x bin : Int) (w : World) (hg : ErrT w) (ha : IReads w w.heap.size A n a) (hb : IReads w w.heap.size C m b) (hl : IReads w w.heap.size D p l) (hn : n ≤ maxLen) (hm : m ≤ maxLen) (hp : p ≤ maxLen) :
    Calls Tryd.prog 3 #[.slice A n c, .slice C m d, .slice D p g, .int .i64 many, .int .i64 x, .int .i64 bin] w fun e w' => e = .returned (.bool true) ∧ Below w.heap.size w w' := by
  have HLA := hide ha.len
  have HLB := hide hb.len
  have HLL := hide hl.len
  go_enter Tryd.func3, Tryd.ntmps3
  go_wp2_with fail
  refine (rcuts_any A n c a _ _ ha hn).mono ?_
  rintro e w1 ⟨rfl, q1, rfl⟩
  have b1 := below_drewN (Below.refl w.heap.size w) q1
  have z1 := b1.size
  have hg1 := hg.below b1 hg.lt
  generalize w.drewN q1 = w1 at *
  go_wp2_with fail
  refine (cutCheck_any A n c a _ _ (ha.below b1) hn).mono ?_
  rintro e w2 ⟨rfl, rfl⟩
  go_wp2_with fail
  refine (error_any _ _ _ hg1).mono ?_
  rintro e w2 ⟨rfl, hb2⟩
  rw [beq_self_eq_true]
  have b2 := b1.trans (hb2.mono z1)
  have z2 := b2.size
  clear hb2
  go_wp2_with fail
  refine (rvals_any D p g l _ _ (hl.below b2) hp).mono ?_
  rintro e w3 ⟨rfl, rfl⟩
  go_upto_region 5 with (fail)
  go_cut [57] from 56 to 57 (fun s57 wx => s57 = .bool (decide (many < 1 ∨ 60 < many)) ∧ wx = w2)
  case first =>
    by_cases h1 : many < 1
    · have d1 : decide (many < 1) = true := decide_eq_true h1
      go_wp2_with fail
      go_meet
      case rel => exact ⟨by rw [decide_eq_true (Or.inl h1)], rfl⟩
    · have d1 : decide (many < 1) = false := decide_eq_false h1
      by_cases h2 : 60 < many
      · have d2 : decide (60 < many) = true := decide_eq_true h2
        go_wp2_with fail
        go_meet
        case rel => exact ⟨by rw [decide_eq_true (Or.inr h2)], rfl⟩
      · have d2 : decide (60 < many) = false := decide_eq_false h2
        go_wp2_with fail
        go_meet
        case rel => exact ⟨by rw [decide_eq_false (by omega)], rfl⟩
  case rest =>
    obtain ⟨rfl, rfl⟩ := hcut
    go_upto_if 57 with (fail)
    go_cut [16] from 56 to 57 (fun s16 wx => s16 = .int .i64 (if many < 1 ∨ 60 < many then 1 else 0) ∧ wx = wc)
    case first =>
      by_cases h1 : many < 1 ∨ 60 < many
      · have d1 := hide (decide_eq_true h1)
        rw [unhide d1]
        go_wp2_with fail
        go_meet
        case rel => exact ⟨by rw [if_pos h1], rfl⟩
      · have d1 := hide (decide_eq_false h1)
        rw [unhide d1]
        go_wp2_with fail
        go_meet
        case rel => exact ⟨by rw [if_neg h1], rfl⟩
    case rest =>
      obtain ⟨rfl, rfl⟩ := hcut
      go_upto_if 59 with (fail)
      go_cut [16] from 56 to 59 (fun s16 wx => s16 = .int .i64 (cutsE l many) ∧ wx = wc)
      case first =>
        by_cases h1 : many < 1 ∨ 60 < many
        · have HE : Hid (cutsE l many = 1) := hide (cutsE_bad h1)
          rw [if_pos h1]
          go_wp2_with fail
          go_meet
          case rel => exact ⟨by rw [unhide HE], rfl⟩
        · have HE : Hid (cutsE l many = valuesE l) := hide (by unfold cutsE; rw [if_neg (by omega), if_neg (by omega)])
          rw [if_neg h1]
          go_wp2_with fail
          go_meet
          case rel => exact ⟨by rw [unhide HE], rfl⟩
      case rest =>
        obtain ⟨rfl, rfl⟩ := hcut
        go_upto_if 62 with (fail)
        go_cut [17] from 56 to 64 (fun s17 wx => IOwn wx w.heap.size s17 (cutsV l many) ∧ Below w.heap.size w wx)
        case first =>
          by_cases h0 : cutsE l many = 0
          · have hb : (cutsE l many == 0) = true := by simpa using h0
            have hmn : 1 ≤ many ∧ many ≤ 60 ∧ valuesE l = 0 := by
              unfold cutsE at h0
              by_cases h1 : many < 1
              · rw [if_pos h1] at h0; cases h0
              · rw [if_neg h1] at h0
                by_cases h2 : 60 < many
                · rw [if_pos h2] at h0; cases h0
                · rw [if_neg h2] at h0; exact ⟨by omega, by omega, h0⟩
            have HV : Hid (cutsV l many = cutsS (sortL l) many.toNat) := hide (by unfold cutsV; rw [if_pos h0])
            have hp0 : p ≤ 1000 := by have := (values_cells hmn.2.2).2; rw [unhide HLL] at this; exact this
            obtain ⟨mn, rfl⟩ : ∃ k : Nat, many = k := ⟨many.toNat, by omega⟩
            rw [Int.toNat_natCast] at HV
            have hk1 : 1 ≤ mn := by omega
            have hk2 : mn ≤ 60 := by omega
            clear hmn h0
            go_wp2_with fail
            refine (rcutsOf_any D p g l mn _ ((hl.below b2).more z2) hp0 hk1 hk2).mono ?_
            rintro e w3 ⟨v3, rfl, ho3, hb3⟩
            have b3 := b2.trans (hb3.mono z2)
            have ho3' : IOwn w3 w.heap.size v3 (cutsV l mn) := by rw [unhide HV]; exact IOwn.low ho3 z2
            clear hb3 ho3
            go_wp2_with fail
            go_meet
            case rel => exact ⟨ho3', b3⟩
          · have hb : (cutsE l many == 0) = false := by simpa using h0
            have HV : Hid (cutsV l many = []) := hide (by unfold cutsV; rw [if_neg h0])
            clear h0
            go_wp2_with fail
            go_meet
            case rel => exact ⟨by rw [unhide HV]; exact IOwn.nil_ _ _, b2⟩
        case rest =>
          obtain ⟨ho3, b3⟩ := hcut
          clear b1 z1 hg1 b2 z2
          obtain ⟨A3, c3, rfl, hr3, hn3, _, _⟩ := ho3.slice_
          clear ho3
          have z3 := b3.size
          go_wp2_with fail
          refine (cuts_any D p g l many _ ((hl.below b3).more z3) hp).mono ?_
          rintro e w4 ⟨v4, rfl, ho4, hb4⟩
          obtain ⟨A4, c4, rfl, hr4, hn4, _, _⟩ := ho4.slice_
          have b4 := b3.trans (hb4.mono z3)
          have z4 := b4.size
          have hg4 := hg.below b4 hg.lt
          have hr3' := (Reads.below hr3 hb4).more hb4.size
          clear hb4 hr3 b3 z3 ho4
          go_wp2_with fail
          refine (error_any _ _ _ hg4).mono ?_
          rintro e w5 ⟨rfl, hb5⟩
          rw [beq_self_eq_true]
          have b5 := b4.trans (hb5.mono z4)
          have z5 := b5.size
          have hr3 := (Reads.below hr3' hb5).more hb5.size
          have hr4' := (Reads.below hr4 hb5).more hb5.size
          clear hb5 hr3' hr4 b4 z4 hg4
          go_wp2_with fail
          refine (ints_any _ _ _ _ _ _ (cutsV l many) (cutsV l many) _ _ _ hr4' hr3 hn3 hn3).mono ?_
          rintro e w6 ⟨rfl, q6, rfl⟩
          rw [beq_self_eq_true]
          have b6 := below_drewN b5 q6
          have z6 := b6.size
          have hg6 := hg.below b6 hg.lt
          clear hr3 hr4' b5 z5
          generalize w5.drewN q6 = w6 at *
          go_wp2_with fail
          refine (rcell2_any x _).mono ?_
          rintro e w7 ⟨rfl, rfl⟩
          go_upto_region 17 with (fail)
          go_cut [86] from 82 to 86 (fun s86 wx => s86 = .bool (cutE a == 0 && !cellB x) ∧ wx = w6)
          case first =>
            cases hE : (cutE a == 0)
            · go_wp2_with fail
              go_meet
              case rel => exact ⟨by rw [hE]; rfl, rfl⟩
            · go_wp2_with fail
              go_meet
              case rel => exact ⟨by rw [hE]; rfl, rfl⟩
          case rest =>
            obtain ⟨rfl, rfl⟩ := hcut
            go_upto_if 86 with (fail)
            go_cut [16] from 82 to 86 (fun s16 wx => s16 = .int .i64 (binE a x) ∧ wx = wc)
            case first =>
              cases hB : (cutE a == 0 && !cellB x)
              · have HE := hide (binE_ok hB)
                go_wp2_with fail
                go_meet
                case rel => exact ⟨by rw [unhide HE], rfl⟩
              · have HE := hide (binE_bad hB)
                go_wp2_with fail
                go_meet
                case rel => exact ⟨by rw [unhide HE], rfl⟩
            case rest =>
              obtain ⟨rfl, rfl⟩ := hcut
              go_upto_if 88 with (fail)
              go_cut [23] from 82 to 88 (fun s23 wx => s23 = .int .i64 (binV a x) ∧ wx = wc)
              case first =>
                by_cases h0 : binE a x = 0
                · have hb : (binE a x == 0) = true := by simpa using h0
                  have HV : Hid (binV a x = binN a x) := hide (by unfold binV; rw [if_pos h0])
                  have hn60 : n ≤ 100000 := by have := (cutE_rises (binE_0 h0)).2.2; rw [unhide HLA] at this; omega
                  clear h0
                  go_wp2_with fail
                  refine (rbin_any A n c a x _ _ (ha.below b6) hn60).mono ?_
                  rintro e w8 ⟨rfl, rfl⟩
                  go_wp2_with fail
                  go_meet
                  case rel => exact ⟨by rw [unhide HV], rfl⟩
                · have hb : (binE a x == 0) = false := by simpa using h0
                  have HV : Hid (binV a x = 0) := hide (by unfold binV; rw [if_neg h0])
                  clear h0
                  go_wp2_with fail
                  go_meet
                  case rel => exact ⟨by rw [unhide HV], rfl⟩
              case rest =>
                obtain ⟨rfl, rfl⟩ := hcut
                go_wp2_with fail
                refine (bin_any A n c a x _ ((ha.below b6).more z6) hn).mono ?_
                rintro e w8 ⟨rfl, rfl⟩
                go_wp2_with fail
                refine (error_any _ _ _ hg6).mono ?_
                rintro e w9 ⟨rfl, hb9⟩
                rw [beq_self_eq_true]
                have b9 := b6.trans (hb9.mono z6)
                have z9 := b9.size
                have hg9 := hg.below b9 hg.lt
                clear hb9 b6 z6 hg6
                have hvv : (binV a x != binV a x) = false := by simp
                go_upto_region 27 with (fail)
                go_cut [132] from 119 to 132 (fun s132 wx => s132 = .bool (cutE a == 0 && (decide (bin < 0) || decide ((n : Int) < bin))) ∧ wx = w9)
                case first =>
                  cases hE : (cutE a == 0)
                  · go_wp2_with fail
                    go_meet
                    case rel => exact ⟨by rw [hE]; rfl, rfl⟩
                  · by_cases h1 : bin < 0
                    · have d1 : decide (bin < 0) = true := decide_eq_true h1
                      go_wp2_with fail
                      go_meet
                      case rel => exact ⟨by rw [hE, d1]; rfl, rfl⟩
                    · have d1 : decide (bin < 0) = false := decide_eq_false h1
                      go_wp2_with fail
                      go_meet
                      case rel => exact ⟨by rw [hE, d1]; rfl, rfl⟩
                case rest =>
                  obtain ⟨rfl, rfl⟩ := hcut
                  go_upto_if 132 with (fail)
                  go_cut [16] from 119 to 132 (fun s16 wx => s16 = .int .i64 (endsE a bin) ∧ wx = wc)
                  case first =>
                    cases hB : (cutE a == 0 && (decide (bin < 0) || decide ((n : Int) < bin)))
                    · have HE := hide (endsE_ok (a := a) (x := bin) (by rw [unhide HLA]; exact hB))
                      go_wp2_with fail
                      go_meet
                      case rel => exact ⟨by rw [unhide HE], rfl⟩
                    · have HE := hide (endsE_bad (a := a) (x := bin) (by rw [unhide HLA]; exact hB))
                      go_wp2_with fail
                      go_meet
                      case rel => exact ⟨by rw [unhide HE], rfl⟩
                  case rest =>
                    obtain ⟨rfl, rfl⟩ := hcut
                    go_upto_if 134 with (fail)
                    go_cut [26, 27] from 119 to 134 (fun s26 s27 wx => s26 = .int .i64 (endLoV a bin) ∧ s27 = .int .i64 (endHiV a bin) ∧ wx = wc)
                    case first =>
                      by_cases h0 : endsE a bin = 0
                      · have hb : (endsE a bin == 0) = true := by simpa using h0
                        obtain ⟨hc0, j, rfl, hj⟩ := endsE_0 h0
                        have h60 := (cutE_rises hc0).2.2
                        have hcl := (cutE_rises hc0).2.1
                        rw [unhide HLA] at hj h60
                        have HI := hide (show endLoV a j = endLo a j by unfold endLoV; rw [if_pos h0]; rfl)
                        have HJ := hide (show endHiV a j = endHi a j by unfold endHiV; rw [if_pos h0]; rfl)
                        have HCL := hide hcl
                        clear h0 hc0 hcl
                        rcases Nat.eq_zero_or_pos j with rfl | hj0
                        · have HLo : Hid (endLo a 0 = -1000000) := hide rfl
                          rcases Nat.eq_zero_or_pos n with hn0 | hn0
                          · have HHi : Hid (endHi a 0 = 1000000) := hide (by unfold endHi; rw [if_neg (by rw [unhide HLA]; omega)])
                            have d2 : decide ((0 : Int) < (n : Int)) = false := decide_eq_false (by omega)
                            have d3 : decide (0 < n) = false := decide_eq_false (by omega)
                            go_wp2_with fail
                            go_meet
                            case rel => exact ⟨by rw [unhide HI, unhide HLo], by rw [unhide HJ, unhide HHi], rfl⟩
                          · obtain ⟨b', o', y, rfl, _, hy, cy⟩ := (ha.below b9).get hn0
                            have HHi : Hid (endHi a 0 = y - 1) := hide (by unfold endHi; rw [if_pos (by rw [unhide HLA]; omega), List.getD_eq_getElem?_getD, hy]; rfl)
                            have hyc := cellB_t.1 (unhide HCL y (List.mem_of_getElem? hy))
                            rw [Nat.add_zero] at cy
                            have d2 : decide ((0 : Int) < (n : Int)) = true := decide_eq_true (by omega)
                            have d3 : decide (0 < n) = true := decide_eq_true (by omega)
                            clear hy
                            go_wp2_with fail
                            go_meet
                            case rel => exact ⟨by rw [unhide HI, unhide HLo], by rw [unhide HJ, unhide HHi], rfl⟩
                        · obtain ⟨i, rfl⟩ : ∃ i, j = i + 1 := ⟨j - 1, by omega⟩
                          obtain ⟨b', o', y, rfl, _, hy, cy⟩ := (ha.below b9).get (k := i) (by omega)
                          have HLo : Hid (endLo a (i + 1) = y) := hide (by unfold endLo; rw [if_neg (by omega), Nat.add_sub_cancel, List.getD_eq_getElem?_getD, hy]; rfl)
                          have d1 : decide ((0 : Int) < (i : Int) + 1) = true := decide_eq_true (by omega)
                          clear hy
                          by_cases hjn : i + 1 < n
                          · obtain ⟨_, _, z, e, _, hz, cz⟩ := (ha.below b9).get hjn
                            cases e
                            have HHi : Hid (endHi a (i + 1) = z - 1) := hide (by unfold endHi; rw [if_pos (by rw [unhide HLA]; exact hjn), List.getD_eq_getElem?_getD, hz]; rfl)
                            have hzc := cellB_t.1 (unhide HCL z (List.mem_of_getElem? hz))
                            have d2 : decide ((i : Int) + 1 < (n : Int)) = true := decide_eq_true (by omega)
                            clear hz
                            go_wp2_with fail
                            go_meet
                            case rel => exact ⟨by rw [unhide HI, unhide HLo], by rw [unhide HJ, unhide HHi], rfl⟩
                          · have HHi : Hid (endHi a (i + 1) = 1000000) := hide (by unfold endHi; rw [if_neg (by rw [unhide HLA]; exact hjn)])
                            have d2 : decide ((i : Int) + 1 < (n : Int)) = false := decide_eq_false (by omega)
                            go_wp2_with fail
                            go_meet
                            case rel => exact ⟨by rw [unhide HI, unhide HLo], by rw [unhide HJ, unhide HHi], rfl⟩
                      · have hb : (endsE a bin == 0) = false := by simpa using h0
                        have HI := hide (show endLoV a bin = 0 by unfold endLoV; rw [if_neg h0])
                        have HJ := hide (show endHiV a bin = 0 by unfold endHiV; rw [if_neg h0])
                        clear h0
                        go_wp2_with fail
                        go_meet
                        case rel => exact ⟨by rw [unhide HI], by rw [unhide HJ], rfl⟩
                    case rest =>
                      obtain ⟨rfl, rfl, rfl⟩ := hcut
                      go_wp2_with fail
                      refine (ends2_any A n c a bin _ ((ha.below b9).more z9) hn).mono ?_
                      rintro e w10 ⟨rfl, rfl⟩
                      go_wp2_with fail
                      refine (error_any _ _ _ hg9).mono ?_
                      rintro e w10 ⟨rfl, hb10⟩
                      rw [beq_self_eq_true]
                      have b10 := b9.trans (hb10.mono z9)
                      have z10 := b10.size
                      clear hb10 b9 z9 hg9
                      go_upto_if 163 with (fail)
                      go_cut [16] from 152 to 163 (fun s16 wx => s16 = .int .i64 (countE a l) ∧ wx = w10)
                      case first =>
                        by_cases h0 : cutE a = 0
                        · have hb : (cutE a == 0) = true := by simpa using h0
                          have HE : Hid (countE a l = valuesE l) := hide (by unfold countE; rw [if_pos h0])
                          clear h0
                          go_wp2_with fail
                          go_meet
                          case rel => exact ⟨by rw [unhide HE], rfl⟩
                        · have hb : (cutE a == 0) = false := by simpa using h0
                          have HE : Hid (countE a l = cutE a) := hide (by unfold countE; rw [if_neg h0])
                          clear h0
                          go_wp2_with fail
                          go_meet
                          case rel => exact ⟨by rw [unhide HE], rfl⟩
                      case rest =>
                        obtain ⟨rfl, rfl⟩ := hcut
                        go_upto_if 166 with (fail)
                        go_cut [31] from 160 to 166 (fun s31 wx => IOwn wx w.heap.size s31 (countO a l) ∧ Below w.heap.size w wx)
                        case first =>
                          by_cases h0 : countE a l = 0
                          · have hb : (countE a l == 0) = true := by simpa using h0
                            obtain ⟨hc0, hv0⟩ := countE_0 h0
                            have hn60 : n ≤ 60 := by have := (cutE_rises hc0).2.2; rw [unhide HLA] at this; exact this
                            have hp1000 : p ≤ 1000 := by have := (values_cells hv0).2; rw [unhide HLL] at this; exact this
                            have HB : Hid (∀ x, binN a x < n + 1) := hide (fun x => by
                              have : binN a x ≤ a.length := List.length_filter_le _ _
                              rw [unhide HLA] at this; omega)
                            have HE := hide h0
                            have hmk := run_make_row' (P := Tryd.prog) 22 3 (.int .i64 0) 8 Tryd.underlying22 elem_int_info2 rfl .i64 .i64 (n + 1) (by omega) (by omega)
                            simp only [Int.natCast_add, Int.natCast_one, Int.cast_ofNat_Int] at hmk
                            have hb0 : Below wc.heap.size wc (wc.alloc (.cells (madeCells #[.int .i64 0] (n + 1)) 3)) := (Below.refl _ _).alloc (Nat.le_refl _) _
                            clear h0 hc0 hv0
                            rw [hb]
                            clear hb
                            go_wp2_with fail
                            go_loopw [32] (fun i wr => ∃ k : Nat, k ≤ p ∧ i = .int .i64 k ∧ wr.rowIs wc.heap.size 3 (n + 1) (cntRow a (l.take k)) ∧ Below wc.heap.size wc wr) (fun i _ => p - (intOf i).toNat)
                            case atStart => exact ⟨0, Nat.zero_le _, rfl, (World.rowIs_made wc (.int .i64 0) (n + 1) 3).congr (fun j hj => by simp [cntRow]), hb0⟩
                            case round =>
                              obtain ⟨k, hk, rfl, hrow, hbel⟩ := hrel
                              have hsz := hbel.size
                              clear hmk hb0
                              by_cases hlt : k < p
                              · obtain ⟨b', o', y, rfl, _, hy, cy⟩ := (((hl.below b10).more z10).below hbel).get hlt
                                have HS := hide (cntRow_set (cs := a) hy hrow)
                                have hj := unhide HB y
                                have hc0 := hrow.cell hj
                                have hf0 := hrow.frozen (binN a y)
                                obtain ⟨j, hje⟩ : ∃ j, j = binN a y := ⟨_, rfl⟩
                                have HJ := hide hje
                                rw [← hje] at hj hc0 hf0
                                unfold cntRow at hc0
                                obtain ⟨q, hq⟩ : ∃ q, q = ((l.take k).filter fun z => binN a z == j).length := ⟨_, rfl⟩
                                rw [← hq] at hc0
                                have hq9 : q ≤ p := by
                                  rw [hq]
                                  have h1 := List.length_filter_le (fun z => binN a z == j) (l.take k)
                                  have h2 : (l.take k).length ≤ k := List.length_take_le _ _
                                  omega
                                have HS2 : Hid ((wr.setCell ⟨wc.heap.size, j, none⟩ (.int .i64 ((q : Int) + 1))).rowIs wc.heap.size 3 (n + 1) (cntRow a (l.take (k + 1)))) := hide (by rw [hq, hje]; exact unhide HS)
                                clear hy hje hq HS
                                go_wp2_with fail
                                refine (rbin_any A n c a y _ _ (((ha.below b10).more z10).below hbel) (by omega)).mono ?_
                                rintro e w12 ⟨rfl, rfl⟩
                                rw [← unhide HJ]
                                go_wp2_with fail
                                go_roundw
                                case rel => exact ⟨k + 1, by omega, by go_num, unhide HS2, hbel.setCell (p := ⟨wc.heap.size, j, none⟩) (Nat.le_refl _) _⟩
                                case measure => simp [intOf]; omega
                              · obtain rfl : k = p := by omega
                                rw [List.take_of_length_le (by rw [unhide HLL]; exact Nat.le_refl _)] at hrow
                                have ho := row_own hrow (Nat.le_refl _) (by unfold maxLen; omega)
                                have HO : Hid (IOwn wr wc.heap.size (.slice (some ⟨wc.heap.size, 0, none⟩) (n + 1) (n + 1)) (countO a l)) := hide (by
                                  unfold countO countV
                                  rw [unhide HE, if_pos rfl, unhide HLA]
                                  exact ho)
                                clear ho hrow
                                go_wp2_with fail
                                go_meet
                                case rel => exact ⟨IOwn.low (unhide HO) z10, b10.trans (hbel.mono z10)⟩
                          · have hb : (countE a l == 0) = false := by simpa using h0
                            have HV : Hid (countO a l = []) := hide (by unfold countO; rw [if_neg h0])
                            clear h0
                            go_wp2_with fail
                            go_meet
                            case rel => exact ⟨by rw [unhide HV]; exact IOwn.nil_ _ _, b10⟩
                        case rest =>
                          obtain ⟨ho3, b3⟩ := hcut
                          clear b10 z10
                          obtain ⟨A5, c5, rfl, hr3, hn3', _, _⟩ := ho3.slice_
                          clear ho3
                          have z3 := b3.size
                          go_wp2_with fail
                          refine (count_any A D n c p g a l _ ((ha.below b3).more z3) ((hl.below b3).more z3) hn hp).mono ?_
                          rintro e w4 ⟨v4, rfl, ho4, hb4⟩
                          obtain ⟨A6, c6, rfl, hr4, hn4', _, _⟩ := ho4.slice_
                          have b4 := b3.trans (hb4.mono z3)
                          have z4 := b4.size
                          have hg4 := hg.below b4 hg.lt
                          have hr3' := (Reads.below hr3 hb4).more hb4.size
                          clear hb4 hr3 b3 z3 ho4
                          go_wp2_with fail
                          refine (error_any _ _ _ hg4).mono ?_
                          rintro e w5 ⟨rfl, hb5⟩
                          rw [beq_self_eq_true]
                          have b5 := b4.trans (hb5.mono z4)
                          have z5 := b5.size
                          have hr3 := (Reads.below hr3' hb5).more hb5.size
                          have hr4' := (Reads.below hr4 hb5).more hb5.size
                          clear hb5 hr3' hr4 b4 z4 hg4
                          go_wp2_with fail
                          refine (ints_any _ _ _ _ _ _ (countO a l) (countO a l) _ _ _ hr4' hr3 hn3' hn3').mono ?_
                          rintro e w6 ⟨rfl, q6, rfl⟩
                          rw [beq_self_eq_true]
                          have b6 := below_drewN b5 q6
                          have z6 := b6.size
                          clear hr3 hr4' b5 z5
                          generalize w5.drewN q6 = w6 at *
                          go_upto_if 205 with (fail)
                          go_cut [16] from 194 to 205 (fun s16 wx => s16 = .int .i64 (firstE2 a b) ∧ Below w.heap.size w wx)
                          case first =>
                            by_cases h0 : cutE a = 0
                            · have hb : (cutE a == 0) = true := by simpa using h0
                              have HE : Hid (firstE2 a b = cutE b) := hide (by unfold firstE2; rw [if_pos h0])
                              clear h0
                              go_wp2_with fail
                              refine (rcuts_any C m d b _ _ (‹IReads w w.heap.size C m b›.below b6) hm).mono ?_
                              rintro e w7 ⟨rfl, q7, rfl⟩
                              go_wp2_with fail
                              go_meet
                              case rel => exact ⟨by rw [unhide HE], below_drewN b6 q7⟩
                            · have hb : (cutE a == 0) = false := by simpa using h0
                              have HE : Hid (firstE2 a b = cutE a) := hide (by unfold firstE2; rw [if_neg h0])
                              clear h0
                              go_wp2_with fail
                              go_meet
                              case rel => exact ⟨by rw [unhide HE], b6⟩
                          case rest =>
                            obtain ⟨rfl, b7⟩ := hcut
                            clear b6 z6
                            have z7 := b7.size
                            go_upto_if 209 with (fail)
                            go_cut [16, 37] from 203 to 209 (fun s16 s37 wx => s16 = .int .i64 (mergeE a b) ∧ IOwn wx w.heap.size s37 (mergeR a b) ∧ Below w.heap.size w wx)
                            case first =>
                              by_cases h0 : firstE2 a b = 0
                              case neg =>
                                have hb : (firstE2 a b == 0) = false := by simpa using h0
                                have HE := hide (mergeE_bad h0)
                                have HV : Hid (mergeR a b = []) := hide (by unfold mergeR; rw [if_neg (by rw [unhide HE]; exact h0)])
                                clear h0
                                go_wp2_with fail
                                go_meet
                                case rel => exact ⟨by rw [unhide HE], by rw [unhide HV]; exact IOwn.nil_ _ _, b7⟩
                              have hb' : (firstE2 a b == 0) = true := by simpa using h0
                              obtain ⟨hca, hcb⟩ := firstE2_0 h0
                              have hn60 : n ≤ 60 := by have := (cutE_rises hca).2.2; rw [unhide HLA] at this; exact this
                              have hm60 : m ≤ 60 := by have := (cutE_rises hcb).2.2; rw [unhide HLB] at this; exact this
                              have HE := hide (mergeE_good h0)
                              have H0 := hide h0
                              have hra : IReads wc wc.heap.size A n a := (ha.below b7).more z7
                              have hrb : IReads wc wc.heap.size C m b := (‹IReads w w.heap.size C m b›.below b7).more z7
                              have hown0 : IOwn wc wc.heap.size (.slice none 0 0) [] := IOwn.nil_ _ _
                              clear h0 hca hcb
                              have hsum : ([] : List Int).length + n < 1000000000 := by simp; omega
                              go_upto_region 61 with (at_builtin; refine app_many elem_int (.tmp 210) (.tmp 211) rfl rfl rfl hown0 rfl hra (ints_one a) hsum (Nat.le_refl _) ?_; intro v w1 hown1 hb1 _)
                              have hownA : IOwn w1 wc.heap.size v a := by unfold IOwn; rw [unhide HLA]; simpa using hown1
                              have hla60 : a.length ≤ 60 := by rw [unhide HLA]; exact hn60
                              have hrb1 := (hrb.below hb1).more hb1.size
                              have hs1 := hb1.size
                              clear hown1 hown0 hsum
                              have hsum2 : a.length + m < 1000000000 := by omega
                              go_wp2_with (at_builtin; refine app_many elem_int (.tmp 213) (.tmp 214) rfl rfl rfl hownA rfl hrb1 (ints_one b) hsum2 hs1 ?_; intro v2 w2' hown2 hb2 _)
                              have hownB : IOwn w2' wc.heap.size v2 (a ++ b) := IOwn.app (w := w2') (by rw [unhide HLB]; exact hown2)
                              clear hown2 hownA hrb1 hrb hra
                              have hbb := hb1.trans (hb2.mono (Nat.le_refl _))
                              have hss := hbb.size
                              clear hb1 hb2 hs1
                              obtain ⟨A9, c9, rfl, hr9, _, _, _⟩ := hownB.slice_
                              clear hownB
                              have hlab : (a ++ b).length = n + m := by rw [List.length_append, unhide HLA, unhide HLB]
                              rw [hlab] at hr9 ⊢
                              have hso := hide (rsorted_any A9 (n + m) c9 (a ++ b) w2' hr9 (by omega))
                              have HLAB := hide hlab
                              clear hlab
                              go_wp2_with fail
                              refine (unhide hso).mono ?_
                              rintro e w3 ⟨v3, rfl, ho3, hb3⟩
                              clear hso hr9
                              have hbc := hbb.trans (hb3.mono hss)
                              have hsc := hbc.size
                              obtain ⟨S, hS⟩ : ∃ S, S = sortL (a ++ b) := ⟨_, rfl⟩
                              rw [← hS] at ho3
                              obtain ⟨N, hN⟩ : ∃ N, N = n + m := ⟨_, rfl⟩
                              have hSn : S.length = N := by rw [hS, sortL_len, hN]; exact unhide HLAB
                              have HS := hide hS
                              obtain ⟨A2, c2, rfl, hr2, _, _, _⟩ := ho3.slice_
                              rw [hSn] at hr2 ⊢
                              have HSN := hide hSn
                              have hN120 : N ≤ 120 := by omega
                              clear hS hSn ho3 hb3 hbb hss hN
                              go_wp2_with fail
                              clear hb'
                              go_loopw [37, 40] (fun v i wr => ∃ k : Nat, k ≤ N ∧ i = .int .i64 k ∧ wr.ownsRow w3.heap.size 3 1 v (uptoL S k).length ((uptoL S k).map (Value.int .i64)) ∧ Below w3.heap.size w3 wr) (fun _ i _ => N - (intOf i).toNat)
                              case atStart => exact ⟨0, Nat.zero_le _, rfl, by rw [uptoL_zero]; exact World.ownsRow_nil _ _ _ _, Below.refl _ _⟩
                              case round =>
                                obtain ⟨k, hk, rfl, hown, hbel⟩ := hrel
                                have hsz := hbel.size
                                by_cases hlt : k < N
                                · rcases Nat.eq_zero_or_pos k with rfl | hk0
                                  · obtain ⟨b', o', y, rfl, hbl, hy, cy⟩ := (hr2.below hbel).get hlt
                                    have HT := hide (uptoL_first hy)
                                    have hbl' : b' < wr.heap.size := Nat.lt_of_lt_of_le hbl hsz
                                    have HO0 := hide (uptoL_zero S)
                                    rw [unhide HO0] at hown
                                    rw [Nat.add_zero] at cy
                                    clear hy
                                    go_wp2_with fail
                                    go_quiet (fail)
                                    have bq := below_drewN (Below.refl wr.heap.size wr) nq
                                    have cq := (bq.cell (p := ⟨b', o', none⟩) hbl').trans cy
                                    have hownq : IOwn (wr.drewN nq) w3.heap.size _ [] := IOwn.below hown bq (Nat.le_refl _)
                                    have hsq : w3.heap.size ≤ (wr.drewN nq).heap.size := Nat.le_trans hsz bq.size
                                    have hbq := hbel.trans (bq.mono hsz)
                                    generalize wr.drewN nq = wq at *
                                    go_wp2_with (at_builtin; refine app_one elem_int (.tmp 238) (.tmp 243) [.int .i64 y] rfl rfl rfl hownq rfl rfl rfl (ints_oneCell .i64 [y]) (by simp) hsq ?_; intro v' w4 hown4 hb4 hne4 _)
                                    go_roundw
                                    case rel => exact ⟨1, by omega, by go_num, by rw [unhide HT]; exact hown4, hbq.trans hb4⟩
                                    case measure => simp [intOf]; omega
                                  · obtain ⟨j, rfl⟩ : ∃ j, k = j + 1 := ⟨k - 1, by omega⟩
                                    obtain ⟨b', o', y, rfl, hbl, hy, cy⟩ := (hr2.below hbel).get hlt
                                    obtain ⟨_, _, z, e', _, hz, cz⟩ := (hr2.below hbel).get (k := j) (by omega)
                                    cases e'
                                    have hbl' : b' < wr.heap.size := Nat.lt_of_lt_of_le hbl hsz
                                    have e1 : (((j : Int) + 1) == 0) = false := by rw [beq_eq_false_iff_ne]; omega
                                    have hlen := uptoL_len S (j + 1)
                                    by_cases hyz : y = z
                                    · have HT := hide (uptoL_skip hy hz hyz)
                                      have d1 : (y != z) = false := by simpa using hyz
                                      clear hy hz hyz
                                      go_wp2_with fail
                                      go_quiet (fail)
                                      have bq := below_drewN (Below.refl wr.heap.size wr) nq
                                      have hownq : IOwn (wr.drewN nq) w3.heap.size _ (uptoL S (j + 1)) := IOwn.below hown bq (Nat.le_refl _)
                                      have hbq := hbel.trans (bq.mono hsz)
                                      go_wp2_with fail
                                      go_roundw
                                      case rel => exact ⟨j + 1 + 1, by omega, by go_num, by rw [unhide HT]; exact hownq, hbq⟩
                                      case measure => simp [intOf]; omega
                                    · have HT := hide (uptoL_take hy hz hyz)
                                      have d1 : (y != z) = true := by simpa using hyz
                                      obtain ⟨O, hO⟩ : ∃ O, O = uptoL S (j + 1) := ⟨_, rfl⟩
                                      rw [← hO] at hown hlen HT
                                      clear hy hz hyz hO
                                      go_wp2_with fail
                                      go_quiet (fail)
                                      have bq := below_drewN (Below.refl wr.heap.size wr) nq
                                      have cq := (bq.cell (p := ⟨b', o' + (j + 1), none⟩) hbl').trans cy
                                      have hownq : IOwn (wr.drewN nq) w3.heap.size _ O := IOwn.below hown bq (Nat.le_refl _)
                                      have hsq : w3.heap.size ≤ (wr.drewN nq).heap.size := Nat.le_trans hsz bq.size
                                      have hbq := hbel.trans (bq.mono hsz)
                                      generalize wr.drewN nq = wq at *
                                      have hO9 : O.length < 1000000000 := by omega
                                      go_wp2_with (at_builtin; refine app_one elem_int (.tmp 238) (.tmp 243) [.int .i64 y] rfl rfl rfl hownq rfl rfl rfl (ints_oneCell .i64 [y]) hO9 hsq ?_; intro v' w4 hown4 hb4 hne4 _)
                                      go_roundw
                                      case rel => exact ⟨j + 1 + 1, by omega, by go_num, by rw [unhide HT, List.length_append, List.map_append]; exact hown4, hbq.trans hb4⟩
                                      case measure => simp [intOf]; omega
                                · obtain rfl : k = N := by omega
                                  have hfin : uptoL S k = mergeV a b := by
                                    have := uptoL_all S
                                    rw [unhide HSN] at this
                                    rw [this, unhide HS]; rfl
                                  rw [hfin] at hown
                                  have hlen : (mergeV a b).length ≤ 120 := by have := uptoL_len S k; rw [hfin] at this; omega
                                  clear hfin
                                  have hbw := b7.trans ((hbc.trans (hbel.mono hsc)).mono z7)
                                  obtain ⟨F, hF⟩ : ∃ F, F = mergeV a b := ⟨_, rfl⟩
                                  rw [← hF] at hown hlen
                                  have HF := hide hF
                                  clear hF
                                  obtain ⟨Af, cf, hvf, _, _, _⟩ := own_slice hown
                                  subst hvf
                                  by_cases h60 : 60 < F.length
                                  · have HM : Hid (mergeE a b = 4) := hide (by rw [unhide HE, ← unhide HF, if_pos h60])
                                    have HR : Hid (mergeR a b = []) := hide (by unfold mergeR; rw [if_neg (by rw [unhide HM]; decide)])
                                    have d1 : decide (60 < F.length) = true := decide_eq_true h60
                                    have d2 : decide ((60 : Int) < (F.length : Int)) = true := decide_eq_true (by omega)
                                    go_wp2_with fail
                                    go_meet
                                    case rel => exact ⟨by rw [unhide HM], by rw [unhide HR]; exact IOwn.nil_ _ _, hbw⟩
                                  · have HM : Hid (mergeE a b = 0) := hide (by rw [unhide HE, ← unhide HF, if_neg h60])
                                    have HR : Hid (mergeR a b = F) := hide (by unfold mergeR; rw [if_pos (unhide HM)]; exact (unhide HF).symm)
                                    have d1 : decide (60 < F.length) = false := decide_eq_false h60
                                    have d2 : decide ((60 : Int) < (F.length : Int)) = false := decide_eq_false (by omega)
                                    go_wp2_with fail
                                    go_meet
                                    case rel => exact ⟨by rw [unhide HM, unhide H0], by rw [unhide HR]; exact IOwn.low hown (Nat.le_trans z7 hsc), hbw⟩
                            case rest =>
                              obtain ⟨rfl, ho3, b3⟩ := hcut
                              clear b7 z7
                              obtain ⟨A7, c7, rfl, hr3, hn3', _, _⟩ := ho3.slice_
                              clear ho3
                              have z3 := b3.size
                              go_wp2_with fail
                              refine (merge_any A C n m c d a b _ ((ha.below b3).more z3) ((‹IReads w w.heap.size C m b›.below b3).more z3) hn hm).mono ?_
                              rintro e w4 ⟨v4, rfl, ho4, hb4⟩
                              obtain ⟨A8, c8, rfl, hr4, hn4', _, _⟩ := ho4.slice_
                              have b4 := b3.trans (hb4.mono z3)
                              have z4 := b4.size
                              have hg4 := hg.below b4 hg.lt
                              have hr3' := (Reads.below hr3 hb4).more hb4.size
                              clear hb4 hr3 b3 z3 ho4
                              go_wp2_with fail
                              refine (error_any _ _ _ hg4).mono ?_
                              rintro e w5 ⟨rfl, hb5⟩
                              rw [beq_self_eq_true]
                              have b5 := b4.trans (hb5.mono z4)
                              have hr3 := (Reads.below hr3' hb5).more hb5.size
                              have hr4' := (Reads.below hr4 hb5).more hb5.size
                              clear hb5 hr3' hr4 b4 z4 hg4
                              go_wp2_with fail
                              refine (ints_any _ _ _ _ _ _ (mergeR a b) (mergeR a b) _ _ _ hr4' hr3 hn3' hn3').mono ?_
                              rintro e w6 ⟨rfl, q6, rfl⟩
                              rw [beq_self_eq_true]
                              have b6 := below_drewN b5 q6
                              clear hr3 hr4' b5
                              have e1 : (endLoV a bin == endLoV a bin) = true := beq_self_eq_true _
                              have e2 : (endHiV a bin == endHiV a bin) = true := beq_self_eq_true _
                              go_wp2_with fail
                              go_ret
                              exact ⟨rfl, b6⟩
end Go.Proofs.YtlicgpjcnkabiaaDoor
