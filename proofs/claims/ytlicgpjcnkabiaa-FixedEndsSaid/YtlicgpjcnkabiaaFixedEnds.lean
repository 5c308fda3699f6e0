/- FixedEnds: the walk. Conditions: the list reads as a list of ints. -/
import Derived.Test.YtlicgpjcnkabiaaFixed2
import Derived.Test.YtlicgpjcnkabiaaFixEndsMath
import Derived.Deep.LoopGhost
import Derived.Deep.DeepCutAuto
namespace Go.Proofs.Ytlicgpjcnkabiaa
set_option linter.unusedVariables false
set_option linter.unusedSimpArgs false
open Go.RowKit

theorem le_next {F : List Int} {k : Nat} {y lo hi lo' hi' : Int} (h : F[k]? = some y) (hb : ∀ x ∈ F.take k, lo ≤ x ∧ x ≤ hi) (h1 : lo' ≤ y) (h2 : y ≤ hi') (h3 : 0 < k → lo' ≤ lo ∧ hi ≤ hi') : ∀ x ∈ F.take (k + 1), lo' ≤ x ∧ x ≤ hi' := by
  intro x hx
  rw [take_next h] at hx
  rcases List.mem_append.1 hx with hx | hx
  · have hk : 0 < k := by
      rcases Nat.eq_zero_or_pos k with h0 | h0
      · subst h0; simp at hx
      · exact h0
    have := hb x hx; have := h3 hk; omega
  · obtain rfl := List.mem_singleton.1 hx; exact ⟨h1, h2⟩
theorem round_id {a b : Int} (ha1 : -1000000 < a) (ha2 : a < 1000000) (hb1 : 0 < b) (hb2 : b < 1000000) : roundV a b = (2 * a + b) / (2 * b) := by
  unfold roundV
  rw [fitV_id (n := a) (by omega) (by omega), fitV_id (n := b) (by omega) (by omega), if_neg (by omega), if_neg (by omega)]

set_option maxRecDepth 100000 in
set_option maxHeartbeats 8000000 in
theorem fixedEnds_walk (a b : Int) (A : Option Addr) (n c : Nat) (l : List Int) (w : World) (hr : IReads w w.heap.size A n l) (hn : n ≤ maxLen) (hc : n ≤ c) (hcm : c ≤ maxLen) (hA : A = none → c = 0) :
    Calls Try.prog 5 #[.int .i64 a, .int .i64 b, .slice A n c] w fun e w' => e = .returned (.bool true) ∧ Below w.heap.size w w' := by
  have hl := hr.len
  have HL := hide hl
  clear hl
  have hnn := hn
  have hcc := hcm
  unfold maxLen at hn hcm
  have k1 := add_any2 a b
  have k2 := add_any2 b a
  have k3 := mul_any a b
  have k4 := mul_any b a
  rw [addV_comm b a] at k2
  rw [mulV_comm b a] at k4
  have s1 : -1099511627776 ≤ addV a b ∧ addV a b ≤ 1099511627776 := fitV_le _
  have p1 : -1099511627776 ≤ mulV a b ∧ mulV a b ≤ 1099511627776 := fitV_le _
  have t1 := totalV_le l
  have kt := total_any A n c w.heap.size l w hr hnn
  generalize addV a b = sm at *
  generalize mulV a b = pm at *
  generalize totalV l = tm at *
  go_enter Try.func5, Try.ntmps5
  go_wp2_with fail
  refine (mul_any _ _ _).mono ?_; rintro e w1 ⟨rfl, rfl⟩
  rw [show mulV 3 5 = 15 by decide]
  go_wp2_with fail
  refine (round_any _ _ _).mono ?_; rintro e w1 ⟨rfl, rfl⟩
  rw [show roundV 7 2 = 4 by decide]
  go_wp2_with fail
  refine (round_any _ _ _).mono ?_; rintro e w1 ⟨rfl, rfl⟩
  rw [show roundV (-7) 2 = -3 by decide]
  go_wp2_with fail
  refine (k1 _).mono ?_; rintro e w1 ⟨rfl, rfl⟩
  go_wp2_with fail
  refine (k3 _).mono ?_; rintro e w1 ⟨rfl, rfl⟩
  go_wp2_with fail
  refine kt.mono ?_; rintro e w1 ⟨rfl, rfl⟩
  go_wp2_with fail
  refine (k2 _).mono ?_; rintro e w1 ⟨rfl, rfl⟩
  go_wp2_with fail
  refine (k4 _).mono ?_; rintro e w1 ⟨rfl, rfl⟩
  go_upto_region 9 with (fail)
  go_cut [98] (fun s98 wx => s98 = .bool (decide (-1000000 < a ∧ a < 1000000 ∧ 0 < b ∧ b < 1000000)) ∧ wx = w)
  case first =>
    by_cases h1 : -1000000 < a
    case neg =>
      have q : decide (-1000000 < a) = false := by simpa using h1
      go_wp2_with fail
      go_meet
      case rel => exact ⟨congrArg Value.bool (by symm; rw [decide_eq_false_iff_not]; omega), rfl⟩
    by_cases h2 : a < 1000000
    case neg =>
      have q : decide (a < 1000000) = false := by simpa using h2
      go_wp2_with fail
      go_meet
      case rel => exact ⟨congrArg Value.bool (by symm; rw [decide_eq_false_iff_not]; omega), rfl⟩
    by_cases h3 : 0 < b
    case neg =>
      have q : decide (0 < b) = false := by simpa using h3
      go_wp2_with fail
      go_meet
      case rel => exact ⟨congrArg Value.bool (by symm; rw [decide_eq_false_iff_not]; omega), rfl⟩
    by_cases h4 : b < 1000000
    case neg =>
      have q : decide (b < 1000000) = false := by simpa using h4
      go_wp2_with fail
      go_meet
      case rel => exact ⟨congrArg Value.bool (by symm; rw [decide_eq_false_iff_not]; omega), rfl⟩
    go_wp2_with fail
    go_meet
    case rel => exact ⟨congrArg Value.bool (by symm; rw [decide_eq_true_iff]; omega), rfl⟩
  case rest =>
    obtain ⟨rfl, rfl⟩ := hcut
    go_upto_if 98 with (fail)
    go_cut [11, 12] (fun _ _ wx => wx = wc)
    case first =>
      by_cases hin : -1000000 < a ∧ a < 1000000 ∧ 0 < b ∧ b < 1000000
      · have q : decide (-1000000 < a ∧ a < 1000000 ∧ 0 < b ∧ b < 1000000) = true := decide_eq_true hin
        obtain ⟨h1, h2, h3, h4⟩ := hin
        have kr := round_any a b
        rw [round_id h1 h2 h3 h4] at kr
        obtain ⟨n1, _, n2⟩ := round_near (x := a) h3
        have n3 := ediv_in (a := 2 * a + b) (b := 2 * b) (n := 4000000) (by omega) (by omega) (by omega) (by omega)
        generalize (2 * a + b) / (2 * b) = rv at *
        rw [q]
        go_wp2_with fail
        refine (kr _).mono ?_; rintro e w1 ⟨rfl, rfl⟩
        go_wp2_with fail
        go_meet
        case rel => rfl
      · have q : decide (-1000000 < a ∧ a < 1000000 ∧ 0 < b ∧ b < 1000000) = false := decide_eq_false hin
        rw [q]
        go_wp2_with fail
        go_meet
        case rel => rfl
    case rest =>
      obtain rfl := hcut
      generalize decide (-1000000 < a ∧ a < 1000000 ∧ 0 < b ∧ b < 1000000) = bin at *
      by_cases h0 : n = 0
      · subst h0
        go_wp2_with fail
        go_ret
        exact ⟨rfl, Below.refl _ _⟩
      by_cases hlen : 1000 < n
      · have q0 : ((n : Int) == 0) = false := by simpa using h0
        go_wp2_with fail
        go_ret
        exact ⟨rfl, Below.refl _ _⟩
      have hn1 : n ≤ 1000 := by omega
      have hp : 0 < n := by omega
      have q0 : ((n : Int) == 0) = false := by simpa using h0
      clear hlen h0
      obtain ⟨F, hF⟩ : ∃ F, F = l.map fitV := ⟨_, rfl⟩
      have hfv : firstV l = F := by unfold firstV; rw [hF, List.take_of_length_le (by have := unhide HL; omega)]
      have hFl : F.length = n := by rw [hF, List.length_map]; exact unhide HL
      have hmv : meanV l = sumL F / F.length := by unfold meanV; rw [hfv, if_neg (by omega)]
      have hmd : medianV l = (sortL F).getD (F.length / 2) 0 := by unfold medianV; rw [hfv, if_neg (by omega)]
      have hhalf := half_below (F := F) (by omega)
      obtain ⟨mv, hmv2⟩ : ∃ mv, mv = meanV l := ⟨_, rfl⟩
      obtain ⟨md, hmd2⟩ : ∃ md, md = medianV l := ⟨_, rfl⟩
      rw [← hmd, ← hmd2] at hhalf
      have MB := hide (fun lo hi h => mean_between (F := F) (lo := lo) (hi := hi) (by omega) h)
      rw [← hmv, ← hmv2] at MB
      have MH := hide hhalf
      have MV := hide hmv2.symm
      have MD := hide hmd2.symm
      have HF := hide hF
      have HFl := hide hFl
      clear hmv hmd hmv2 hmd2 hhalf hF hFl hfv
      go_wp2_with fail
      refine (mean_any A n c _ _ hr hnn hc hcc hA).mono ?_; rintro e w2 ⟨rfl, hb2⟩
      rw [unhide MV]
      go_wp2_with fail
      have hsz2 := hb2.size
      refine (median_any A n c _ _ ((hr.below hb2).more hsz2) hnn hc hcc hA).mono ?_; rintro e w3 ⟨rfl, hb3⟩
      rw [unhide MD]
      have hsz3 := hb3.size
      have hbel := hb2.trans (hb3.mono hsz2)
      have hr3 := (hr.below hbel)
      clear hb2 hb3 hr kt k1 k2 k3 k4
      go_wp2_with fail
      go_loopg [15, 16, 17, 18, 19, 20] n (fun g s15 s16 s17 s18 s19 s20 wr => ∃ (k c1 c2 : Nat) (bI : Bool) (lo hi : Int), k ≤ n ∧ n - k ≤ g ∧ s20 = .int .i64 k ∧ s15 = .int .i64 c1 ∧ Hid (c1 = cntLt md (F.take k)) ∧ c1 ≤ k ∧ s16 = .int .i64 c2 ∧ Hid (c2 = cntGt md (F.take k)) ∧ c2 ≤ k ∧ s17 = .bool bI ∧ Hid (md ∈ F.take k → bI = true) ∧ s18 = .int .i64 lo ∧ s19 = .int .i64 hi ∧ Hid (∀ x ∈ F.take k, lo ≤ x ∧ x ≤ hi) ∧ wr = w3)
      case atStart => exact ⟨0, 0, 0, false, 0, 0, Nat.zero_le _, Nat.le_refl _, rfl, rfl, hide rfl, Nat.le_refl _, rfl, hide rfl, Nat.le_refl _, rfl, hide (by simp), rfl, rfl, hide (by simp), rfl⟩
      case round =>
        obtain ⟨k, c1, c2, bI, lo, hi, hk, hgk, rfl, rfl, HC1, hc1, rfl, HC2, hc2, rfl, HI, rfl, rfl, HB, rfl⟩ := hrel
        by_cases hlt : k < n
        · obtain ⟨bk, o, x, rfl, hb, hx, cx⟩ := hr3.get hlt
          have hFx : F[k]? = some (fitV x) := by rw [unhide HF, List.getElem?_map, hx]; rfl
          have HFX := hide hFx
          have HFV := hide (show fitV x = if 1099511627776 < x then 1099511627776 else if x < -1099511627776 then -1099511627776 else x from rfl)
          clear hx hFx
          obtain ⟨z0, hz0⟩ : ∃ z, fitV x = z := ⟨_, rfl⟩
          rw [hz0] at HFX HFV
          have HZ := hide hz0
          clear hz0
          by_cases hk0 : k = 0
          · have hk1 : k < 1 := by omega
            have q1 : ((k : Int) == 0) = true := by simpa using hk0
            clear hk0
            go_upto_if 141 with (fail)
            go_cut [21] (fun s21 wx => ∃ y : Int, s21 = .int .i64 y ∧ y = (if 1099511627776 < x then 1099511627776 else x) ∧ wx = wr)
            case first =>
              (go_wp2_with fail) <;> (go_meet; case rel => exact ⟨_, rfl, by omega, rfl⟩)
            case rest =>
              obtain ⟨y, rfl, hy, rfl⟩ := hcut
              have HY := hide hy
              clear hy
              go_upto_if 146 with (fail)
              go_cut [21] (fun s21 wx => s21 = .int .i64 z0 ∧ wx = wc)
              case first =>
                (go_wp2_with fail) <;> (go_meet; case rel => exact ⟨congrArg (Value.int .i64) (by have h1 := unhide HY; have h2 := unhide HFV; omega), rfl⟩)
              case rest =>
                obtain ⟨rfl, rfl⟩ := hcut
                clear HY
                go_upto_if 155 with (fail)
                go_cut [18] (fun s18 wx => ∃ lo' : Int, s18 = .int .i64 lo' ∧ lo' ≤ z0 ∧ (0 < k → lo' ≤ lo) ∧ wx = wc)
                case first => (go_wp2_with fail) <;> (go_meet; case rel => exact ⟨_, rfl, by omega, by omega, rfl⟩)
                case rest =>
                  obtain ⟨lo', rfl, hlo1, hlo2, rfl⟩ := hcut
                  have HLO := hide hlo2
                  clear hlo2
                  go_upto_if 163 with (fail)
                  go_cut [19] (fun s19 wx => ∃ hi' : Int, s19 = .int .i64 hi' ∧ z0 ≤ hi' ∧ (0 < k → hi ≤ hi') ∧ wx = wc)
                  case first => (go_wp2_with fail) <;> (go_meet; case rel => exact ⟨_, rfl, by omega, by omega, rfl⟩)
                  case rest =>
                    obtain ⟨hi', rfl, hhi1, hhi2, rfl⟩ := hcut
                    have HHI := hide hhi2
                    clear hhi2
                    go_upto_region 35 with (fail)
                    go_cut [17] (fun s17 wx => ∃ bJ : Bool, s17 = .bool bJ ∧ (md ∈ F.take (k + 1) → bJ = true) ∧ wx = wc)
                    case first =>
                      have hin1 := unhide HI
                      have htk := take_next (unhide HFX)
                      have hmm : md ∈ F.take (k + 1) → bI = true ∨ z0 = md := by
                        rw [htk]; intro h
                        rcases List.mem_append.1 h with h | h
                        · exact .inl (hin1 h)
                        · exact .inr (List.mem_singleton.1 h).symm
                      have HMM := hide hmm
                      clear hin1 htk hmm
                      cases bI
                      · by_cases hzm : z0 = md
                        · have q2 : (z0 == md) = true := by simpa using hzm
                          clear hzm
                          go_wp2_with fail
                          go_meet
                          case rel => exact ⟨true, rfl, fun _ => rfl, rfl⟩
                        · have q2 : (z0 == md) = false := by simpa using hzm
                          have HZM := hide hzm
                          clear hzm
                          go_wp2_with fail
                          go_meet
                          case rel => exact ⟨false, rfl, fun h => by rcases unhide HMM h with h | h; exact h; exact absurd h (unhide HZM), rfl⟩
                      · go_wp2_with fail
                        go_meet
                        case rel => exact ⟨true, rfl, fun _ => rfl, rfl⟩
                    case rest =>
                      obtain ⟨bJ, rfl, hJ, rfl⟩ := hcut
                      have HJ := hide hJ
                      clear hJ HI
                      go_upto_if 173 with (fail)
                      go_cut [15] (fun s15 wx => ∃ d1 : Nat, s15 = .int .i64 d1 ∧ d1 = c1 + (if z0 < md then 1 else 0) ∧ wx = wc)
                      case first => (go_wp2_with fail) <;> (go_meet; case rel => (first | exact ⟨c1 + 1, by go_num, by rw [if_pos (by omega)], rfl⟩ | exact ⟨c1, rfl, by rw [if_neg (by omega), Nat.add_zero], rfl⟩))
                      case rest =>
                        obtain ⟨d1, rfl, hd1, rfl⟩ := hcut
                        have HD1 := hide hd1
                        have hd1' : d1 ≤ k + 1 := by split at hd1 <;> omega
                        clear hd1
                        go_wp2_with fail
                        all_goals
                          go_roundg (n - (k + 1))
                          case measure => omega
                          case rel =>
                            first
                              | exact ⟨k + 1, d1, c2 + 1, bJ, lo', hi', by omega, Nat.le_refl _, by go_num, rfl, hide (by rw [unhide HD1, unhide HC1, cntLt_next (unhide HFX)]), hd1', by go_num, hide (by rw [unhide HC2, cntGt_next (unhide HFX), if_pos (by omega)]), by omega, rfl, HJ, rfl, rfl, hide (le_next (unhide HFX) (unhide HB) hlo1 hhi1 (fun h => ⟨unhide HLO h, unhide HHI h⟩)), rfl⟩
                              | exact ⟨k + 1, d1, c2, bJ, lo', hi', by omega, Nat.le_refl _, by go_num, rfl, hide (by rw [unhide HD1, unhide HC1, cntLt_next (unhide HFX)]), hd1', rfl, hide (by rw [unhide HC2, cntGt_next (unhide HFX), if_neg (by omega), Nat.add_zero]), by omega, rfl, HJ, rfl, rfl, hide (le_next (unhide HFX) (unhide HB) hlo1 hhi1 (fun h => ⟨unhide HLO h, unhide HHI h⟩)), rfl⟩
          · have hk1 : 0 < k := by omega
            have q1 : ((k : Int) == 0) = false := by simpa using hk0
            clear hk0
            go_upto_if 141 with (fail)
            go_cut [21] (fun s21 wx => ∃ y : Int, s21 = .int .i64 y ∧ y = (if 1099511627776 < x then 1099511627776 else x) ∧ wx = wr)
            case first =>
              (go_wp2_with fail) <;> (go_meet; case rel => exact ⟨_, rfl, by omega, rfl⟩)
            case rest =>
              obtain ⟨y, rfl, hy, rfl⟩ := hcut
              have HY := hide hy
              clear hy
              go_upto_if 146 with (fail)
              go_cut [21] (fun s21 wx => s21 = .int .i64 z0 ∧ wx = wc)
              case first =>
                (go_wp2_with fail) <;> (go_meet; case rel => exact ⟨congrArg (Value.int .i64) (by have h1 := unhide HY; have h2 := unhide HFV; omega), rfl⟩)
              case rest =>
                obtain ⟨rfl, rfl⟩ := hcut
                clear HY
                go_upto_if 155 with (fail)
                go_cut [18] (fun s18 wx => ∃ lo' : Int, s18 = .int .i64 lo' ∧ lo' ≤ z0 ∧ (0 < k → lo' ≤ lo) ∧ wx = wc)
                case first => (go_wp2_with fail) <;> (go_meet; case rel => exact ⟨_, rfl, by omega, by omega, rfl⟩)
                case rest =>
                  obtain ⟨lo', rfl, hlo1, hlo2, rfl⟩ := hcut
                  have HLO := hide hlo2
                  clear hlo2
                  go_upto_if 163 with (fail)
                  go_cut [19] (fun s19 wx => ∃ hi' : Int, s19 = .int .i64 hi' ∧ z0 ≤ hi' ∧ (0 < k → hi ≤ hi') ∧ wx = wc)
                  case first => (go_wp2_with fail) <;> (go_meet; case rel => exact ⟨_, rfl, by omega, by omega, rfl⟩)
                  case rest =>
                    obtain ⟨hi', rfl, hhi1, hhi2, rfl⟩ := hcut
                    have HHI := hide hhi2
                    clear hhi2
                    go_upto_region 35 with (fail)
                    go_cut [17] (fun s17 wx => ∃ bJ : Bool, s17 = .bool bJ ∧ (md ∈ F.take (k + 1) → bJ = true) ∧ wx = wc)
                    case first =>
                      have hin1 := unhide HI
                      have htk := take_next (unhide HFX)
                      have hmm : md ∈ F.take (k + 1) → bI = true ∨ z0 = md := by
                        rw [htk]; intro h
                        rcases List.mem_append.1 h with h | h
                        · exact .inl (hin1 h)
                        · exact .inr (List.mem_singleton.1 h).symm
                      have HMM := hide hmm
                      clear hin1 htk hmm
                      cases bI
                      · by_cases hzm : z0 = md
                        · have q2 : (z0 == md) = true := by simpa using hzm
                          clear hzm
                          go_wp2_with fail
                          go_meet
                          case rel => exact ⟨true, rfl, fun _ => rfl, rfl⟩
                        · have q2 : (z0 == md) = false := by simpa using hzm
                          have HZM := hide hzm
                          clear hzm
                          go_wp2_with fail
                          go_meet
                          case rel => exact ⟨false, rfl, fun h => by rcases unhide HMM h with h | h; exact h; exact absurd h (unhide HZM), rfl⟩
                      · go_wp2_with fail
                        go_meet
                        case rel => exact ⟨true, rfl, fun _ => rfl, rfl⟩
                    case rest =>
                      obtain ⟨bJ, rfl, hJ, rfl⟩ := hcut
                      have HJ := hide hJ
                      clear hJ HI
                      go_upto_if 173 with (fail)
                      go_cut [15] (fun s15 wx => ∃ d1 : Nat, s15 = .int .i64 d1 ∧ d1 = c1 + (if z0 < md then 1 else 0) ∧ wx = wc)
                      case first => (go_wp2_with fail) <;> (go_meet; case rel => (first | exact ⟨c1 + 1, by go_num, by rw [if_pos (by omega)], rfl⟩ | exact ⟨c1, rfl, by rw [if_neg (by omega), Nat.add_zero], rfl⟩))
                      case rest =>
                        obtain ⟨d1, rfl, hd1, rfl⟩ := hcut
                        have HD1 := hide hd1
                        have hd1' : d1 ≤ k + 1 := by split at hd1 <;> omega
                        clear hd1
                        go_wp2_with fail
                        all_goals
                          go_roundg (n - (k + 1))
                          case measure => omega
                          case rel =>
                            first
                              | exact ⟨k + 1, d1, c2 + 1, bJ, lo', hi', by omega, Nat.le_refl _, by go_num, rfl, hide (by rw [unhide HD1, unhide HC1, cntLt_next (unhide HFX)]), hd1', by go_num, hide (by rw [unhide HC2, cntGt_next (unhide HFX), if_pos (by omega)]), by omega, rfl, HJ, rfl, rfl, hide (le_next (unhide HFX) (unhide HB) hlo1 hhi1 (fun h => ⟨unhide HLO h, unhide HHI h⟩)), rfl⟩
                              | exact ⟨k + 1, d1, c2, bJ, lo', hi', by omega, Nat.le_refl _, by go_num, rfl, hide (by rw [unhide HD1, unhide HC1, cntLt_next (unhide HFX)]), hd1', rfl, hide (by rw [unhide HC2, cntGt_next (unhide HFX), if_neg (by omega), Nat.add_zero]), by omega, rfl, HJ, rfl, rfl, hide (le_next (unhide HFX) (unhide HB) hlo1 hhi1 (fun h => ⟨unhide HLO h, unhide HHI h⟩)), rfl⟩
        · obtain rfl : k = n := by omega
          have htk : F.take k = F := List.take_of_length_le (by have := unhide HFl; omega)
          have hb1 := unhide HB
          have hi1 := unhide HI
          have e1 := unhide HC1
          have e2 := unhide HC2
          rw [htk] at hb1 hi1 e1 e2
          obtain ⟨m1, m2⟩ := unhide MB lo hi hb1
          obtain ⟨h1', h2', h3'⟩ := unhide MH
          rw [← e1, unhide HFl] at h1'
          rw [← e2, unhide HFl] at h2'
          have hbI := hi1 h3'
          subst hbI
          clear htk hb1 hi1 e1 e2 h3' HB HI HC1 HC2
          go_wp2_with fail
          go_ret
          exact ⟨ret_bool (decide_eq_true (by omega)), hbel⟩
end Go.Proofs.Ytlicgpjcnkabiaa
