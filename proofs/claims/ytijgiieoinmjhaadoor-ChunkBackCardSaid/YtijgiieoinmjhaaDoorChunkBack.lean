/- ChunkBack: the walk. Conditions: arguments read as lists, and the handle that errors need. -/
import Derived.Test.YtijgiieoinmjhaaDoorChunkBackQ
import Derived.Test.YtijgiieoinmjhaaDoorTold2
import Derived.Laws.BytesArg
import Derived.Laws.BytesString
import Derived.Deep.DeepCutAuto
import Derived.Deep.CutRange
namespace Go.Proofs.YtijgiieoinmjhaaDoor
set_option linter.unusedVariables false
set_option linter.unusedSimpArgs false
open Go.RowKit

theorem calls_nameC {P : Program} {f : FuncId} {xs : Array Value} {W : World} {Q : Ending → World → Prop} (h : ∀ X, X = W → Calls P f xs X Q) : Calls P f xs W Q := h W rfl
theorem wp_nameC {P : Program} {c : Code} {Q : Exit → Act → World → Prop} {a : Act} {W : World} (h : ∀ X, X = W → Code.wp P c Q a X) : Code.wp P c Q a W := h W rfl
theorem fact_sums : (ptOf [1, 2, 3] 2 0).size = 2 ∧ (ptOf [1, 2, 3] 2 1).size = 1 ∧ (ptOf [1, 2, 3] 2 0).sum = 6792 ∧ (ptOf [1, 2, 3] 2 1).sum = 221 := ⟨by decide, by decide, by decide, by decide⟩
theorem bool_info : (Tryd.prog.info? 4).map (fun i => (i.zero, i.size, i.bytes)) = some (some (.bool false), 1, 1) := by kernel_rfl

set_option maxRecDepth 100000 in
set_option maxHeartbeats 16000000 in
theorem chunkBack_walk (A : Option Addr) (n c : Nat) (l : List Int) (sz : Int) (C : Option Addr) (no oc : Nat) (order : List Int) (at_ tt : Int) (w : World) (he : ErrT w) (hr : BReads w w.heap.size A n l) (hn : n ≤ maxLen) (hnc : n ≤ c) (hby : ∀ x ∈ l, 0 ≤ x ∧ x < 256)
    (ho : IReads w w.heap.size C no order) (hno : no ≤ 4611686018427387904) (hto : 0 ≤ tt ∧ tt < 256) :
    Calls Tryd.prog 3 #[.slice A n c, .int .i64 sz, .slice C no oc, .int .i64 at_, .int .u8 tt] w fun e w' => e = .returned (.bool true) ∧ Below w.heap.size w w' := by
  have cPl : Hid (∀ W, Below w.heap.size w W → Calls Tryd.prog 9 #[.slice A n c, .int .i64 sz] W (PlanPost W.heap.size n l sz W)) := hide (fun W hB => plan_any A n c w.heap.size l sz W (Reads.below hr hB) hB.size hn hnc hby)
  have hll := hr.len
  go_enter Tryd.func3, Tryd.ntmps3
  go_wp2_with fail
  refine calls_nameC fun X hX => ?_
  have hB0 : Below w.heap.size w X := by rw [hX]; exact (Below.refl _ _).alloc (Nat.le_refl _) _
  have h0 : BReads X X.heap.size (some ⟨w.heap.size, 0, none⟩) 3 [1, 2, 3] := by
    have h := Reads.new_ w 1 3 [.int .u8 1, .int .u8 2, .int .u8 3] 5 rfl
    rw [hX, World.size_alloc]
    exact h
  clear hX
  refine (plan_any (some ⟨w.heap.size, 0, none⟩) 3 3 X.heap.size [1, 2, 3] 2 X h0 (Nat.le_refl _) (by decide) (by decide) (by decide)).mono ?_
  rintro e w1 ⟨v1, rfl, _, hE2, hb1⟩
  have e0 : planE 3 2 = 0 := by decide
  obtain ⟨k0, a1, a2, hown⟩ := hE2 e0
  have hk0 : k0 = 2 := by
    have e2 : (2 : Int).toNat = 2 := rfl
    rw [e2] at a1 a2
    omega
  subst hk0
  have e2 : (2 : Int).toNat = 2 := rfl
  rw [e2] at hown
  obtain ⟨p1, p2⟩ := ptsOf_pcs (n := 3) (s := 2) [1, 2, 3] (by decide) 2 (by decide)
  rw [p1, p2] at hown
  obtain ⟨v1A, v1c, rfl, hv1, _, _⟩ := own_slice hown
  have hp1 : PReads w1 w1.heap.size v1A 2 (ptsL [1, 2, 3] 2 2) := hv1
  obtain ⟨b1, o1, x1, rfl, _, hx1, c10, c11⟩ := hp1.get (k := 0) (by decide)
  obtain ⟨_, _, x2, hAe, _, hx2, c20, c21⟩ := hp1.get (k := 1) (by decide)
  cases hAe
  rw [ptsL_at (by decide)] at hx1 hx2
  injection hx1 with hx1
  injection hx2 with hx2
  subst hx1
  subst hx2
  rw [fact_sums.1] at c10
  rw [fact_sums.2.2.1] at c11
  rw [fact_sums.2.1] at c20
  rw [fact_sums.2.2.2] at c21
  rw [errV_0 e0]
  have hB1 := hB0.trans (hb1.mono hB0.size)
  have f1 : ((6792 : Int) == 221) = false := by decide
  clear hE2 hown hv1 hp1 h0 hB0 hb1 a1 a2 p1 p2
  go_wp2_with fail
  go_quiet (fail)
  go_wp2_with fail
  refine (unhide cPl _ (below_drewN hB1 _)).mono ?_
  rintro e w2 ⟨v2, rfl, hP1, hP2, hb2⟩
  have hB2 := (below_drewN hB1 nq).trans (hb2.mono (below_drewN hB1 nq).size)
  clear cPl c10 c11 c20 c21 f1
  by_cases hE : planE n sz = 0
  case neg =>
    rw [hP1 hE, errV_1 hE]
    clear hP1 hP2 hE
    go_wp2_with fail
    go_ret
    exact ⟨rfl, hB2⟩
  obtain ⟨g1, g2, g3, g4⟩ : n ≤ 6000 ∧ 1 ≤ sz ∧ sz ≤ 6000 ∧ (n : Int) ≤ 100 * sz := by
    unfold planE at hE
    by_cases q1 : 6000 < n
    · rw [if_pos q1] at hE; cases hE
    · rw [if_neg q1] at hE
      by_cases q2 : sz < 1
      · rw [if_pos q2] at hE; cases hE
      · rw [if_neg q2] at hE
        by_cases q3 : 6000 < sz
        · rw [if_pos q3] at hE; cases hE
        · rw [if_neg q3] at hE
          by_cases q4 : 100 * sz < n
          · rw [if_pos q4] at hE; cases hE
          · omega
  obtain ⟨s, rfl⟩ : ∃ s : Nat, sz = s := ⟨sz.toNat, by omega⟩
  have hs1 : 1 ≤ s := by omega
  obtain ⟨k, hk1, hk2, hown⟩ := hP2 hE
  rw [Int.toNat_natCast] at hk1 hk2 hown
  obtain ⟨p1, p2⟩ := ptsOf_pcs l hs1 k hk2
  rw [p1, p2] at hown
  have hvA : ∃ vA vc, v2 = .slice vA k vc ∧ PReads w2 w2.heap.size vA k (ptsL l s k) ∧ (vA = none → vc = 0) := by
    obtain ⟨vA, vc, e, hv, _, _⟩ := own_slice hown
    refine ⟨vA, vc, e, hv, fun h => ?_⟩
    rcases hown.2 with ⟨e2, _⟩ | ⟨_, _, _, e2, _⟩
    · rw [e] at e2; injection e2
    · rw [e] at e2; injection e2 with e3 _ _; rw [h] at e3; cases e3
  obtain ⟨vA, vc, rfl, hv, hvn⟩ := hvA
  have hk100 := few hs1 hk2 (by omega : n ≤ 100 * s)
  have hOK := pts_ok hll hs1 (by omega) g1 hk2 hk100
  rw [errV_0 hE]
  have cNew := hide (new_any vA k vc w2.heap.size (ptsL l s k) w2 hv (Nat.le_refl _) (by unfold maxLen; omega) hvn hOK)
  have HK1 := hide hk1
  have HLL := hide hll
  have HK2 := hide hk2
  have HV := hide hv
  clear hP1 hP2 hE hown p1 p2 hOK hv hvn hk1 hk2 hll g4
  go_wp2_with fail
  refine (unhide cNew).mono ?_
  rintro e w3 ⟨g, b, A', c', D, rfl, hF, hbge, hgge, hb3⟩
  rw [ptsL_len] at hF
  have hB3 := hb3
  have hz3 := hb3.size
  have hmk := run_make_row' (P := Tryd.prog) 34 4 (.bool false) 1 Tryd.underlying34 bool_info rfl .i64 .i64 k (by omega) (by omega)
  clear cNew
  go_wp2_with fail
  refine wp_nameC fun W4 hW4 => ?_
  have hb4 : Below w3.heap.size w3 W4 := by rw [hW4]; exact (Below.refl _ _).alloc (Nat.le_refl _) _
  have hI : CbInv l s k g b w3.heap.size A' c' no 0 W4 := by
    have h : Blk (w3.alloc (.cells (madeCells #[.bool false] k) 4)) w3.heap.size 4 (madeCells #[.bool false] k) := Blk.new _ _ _
    rw [← hW4] at h
    refine CbInv.first (w2 := w2) (hF.below hb4 (Nat.le_refl _)) h ?_
    unfold seenC
    rw [List.map_replicate, ← toList_madeCells_one]
    rfl
  have hBW4 : Below w2.heap.size w2 W4 := hB3.trans (hb4.mono hz3)
  have hsb : w2.heap.size ≤ w3.heap.size := hz3
  clear hW4 hmk hF hb3 hb4 hB3
  have hlo := ho.len
  have HLO := hide hlo
  clear hlo
  go_wp2_with fail
  go_loopw [18] (fun tv wr => ∃ T : Nat, T ≤ no + k ∧ tv = .int .i64 T ∧ CbInv l s k g b w3.heap.size A' c' no T wr ∧ Below w2.heap.size w2 wr) (fun tv _ => no + k - (intOf tv).toNat)
  case atStart => exact ⟨0, Nat.zero_le _, rfl, hI, hBW4⟩
  case round =>
    obtain ⟨T, hT, rfl, hI', hbel⟩ := hrel
    have hsz := hbel.size
    clear hI
    have hBwr := hB2.trans (hbel.mono hB2.size)
    by_cases hlt : T < no + k
    · go_upto_if 96 with (fail)
      go_cut [19] (fun z wx => ∃ Z : Int, z = .int .i64 Z ∧ (∀ j, j < k → j + no = T → Z = j) ∧ wx = wr)
      case first =>
        by_cases hTo : T < no
        · obtain ⟨bo, oo, x, rfl, hbo, hx, cx⟩ := (ho.below hBwr).get hTo
          go_wp2_with fail
          go_meet
          exact ⟨x, rfl, fun j _ h => by omega, rfl⟩
        · go_wp2_with fail
          go_meet
          exact ⟨(T : Int) - no, rfl, fun j _ h => by omega, rfl⟩
      case rest =>
        obtain ⟨Z, rfl, hZ, rfl⟩ := hcut
        have HZ := hide hZ
        clear hZ
        by_cases hZ0 : Z < 0
        · have d0 : decide (Z < 0) = true := by simpa using hZ0
          go_wp2_with fail
          go_roundw
          case rel => exact ⟨T + 1, by omega, by go_num, hI'.skip (fun j h1 h2 => by have := unhide HZ j h1 h2; omega), hbel⟩
          case measure => simp [intOf] <;> omega
        by_cases hZk : (k : Int) ≤ Z
        · have d0 : decide (Z < 0) = false := by simpa using hZ0
          have d1 : decide ((k : Int) ≤ Z) = true := by simpa using hZk
          go_wp2_with fail
          go_roundw
          case rel => exact ⟨T + 1, by omega, by go_num, hI'.skip (fun j h1 h2 => by have := unhide HZ j h1 h2; omega), hbel⟩
          case measure => simp [intOf] <;> omega
        obtain ⟨i, rfl⟩ : ∃ i : Nat, Z = i := ⟨Z.toNat, by omega⟩
        have hik : i < k := by omega
        have d0 : decide ((i : Int) < 0) = false := by simp
        have d1 : decide ((k : Int) ≤ (i : Int)) = false := by simp; omega
        clear hZ0 hZk
        have hkn : i * s < n := by
          rcases unhide HK2 with h | h
          · omega
          · exact Nat.lt_of_le_of_lt (Nat.mul_le_mul_right s (by omega)) h
        obtain ⟨F, hF⟩ : ∃ F : Nat, F = i * s := ⟨_, rfl⟩
        have hFi : (i : Int) * (s : Int) = (F : Int) := by rw [hF]; exact_mod_cast rfl
        obtain ⟨bA, oA, hAe, _⟩ := Reads.spot hr (by omega) (by omega)
        have hpc : BReads wc w.heap.size (some ⟨bA, oA + F, none⟩) (min s (n - F)) (piece l s i) := by
          rw [hF]
          exact reads_piece (by rw [← hAe]; exact Reads.below hr hBwr) hkn hs1
        obtain ⟨m, hm⟩ : ∃ m, m = min s (n - F) := ⟨_, rfl⟩
        rw [← hm] at hpc
        obtain ⟨bp, op, xp, hvA, _, hxp, cp0, cp1⟩ := ((unhide HV).below hbel).get hik
        rw [ptsL_at hik] at hxp
        injection hxp with hxp
        subst hxp
        have hml : (piece l s i).length = m := by have := hpc.len; exact this
        have hsz0 : (ptOf l s i).size = m := by unfold ptOf; rw [hml]
        rw [hsz0] at cp0
        have hm1 : 1 ≤ m := by omega
        have hmn : F + m ≤ n := by omega
        have hm6 : m ≤ 6000 := by omega
        have hFc : F < c := by omega
        have hpcW := Reads.more hpc hBwr.size
        clear hm hF hkn hsz0
        subst hvA
        subst hAe
        go_upto_region 20 with (fail)
        rw [show F + m - F = m by omega]
        obtain ⟨cc, hcc⟩ : ∃ cc, c - F = cc := ⟨_, rfl⟩
        rw [hcc]
        have hcm : m ≤ cc := by omega
        clear hcc hr hFi
        go_cut [137] (fun v wx => ∃ WB : Bool, v = .bool WB ∧ (WB = true → ∃ (a : Nat) (x : Int), at_ = a ∧ (piece l s i)[a]? = some x ∧ x ≠ tt) ∧ wx = wc)
        case first =>
          by_cases q0 : 0 ≤ at_
          case neg =>
            have b0 : decide (0 ≤ at_) = false := by simpa using q0
            go_wp2_with fail
            go_meet
            exact ⟨false, rfl, fun h => (by cases h), rfl⟩
          by_cases q1 : at_ < m
          case neg =>
            have b0 : decide (0 ≤ at_) = true := by simpa using q0
            have b1 : decide (at_ < (m : Int)) = false := by simpa using q1
            go_wp2_with fail
            go_meet
            exact ⟨false, rfl, fun h => (by cases h), rfl⟩
          obtain ⟨a, rfl⟩ : ∃ a : Nat, at_ = a := ⟨at_.toNat, by omega⟩
          have b0 : decide (0 ≤ (a : Int)) = true := by simp
          have b1 : decide ((a : Int) < (m : Int)) = true := by simp; omega
          obtain ⟨by_, oy, y, hye, _, hy, cy⟩ := BReads.get hpcW (by omega : a < m)
          cases hye
          by_cases q2 : y = tt
          · have b2 : (y != tt) = false := by simpa using q2
            clear q2
            go_wp2_with fail
            go_meet
            exact ⟨_, rfl, fun h => (by first | (rw [b2] at h; cases h) | cases h), rfl⟩
          · have b2 : (y != tt) = true := by simpa using q2
            go_wp2_with fail
            go_meet
            exact ⟨_, rfl, fun _ => ⟨a, y, rfl, hy, q2⟩, rfl⟩
        case rest =>
          obtain ⟨WB, rfl, hWB, rfl⟩ := hcut
          go_upto_if 137 with (fail)
          go_cut [22, 23, 24, 25] (fun _ _ _ _ wx => CbInv l s k g b w3.heap.size A' c' no T wx ∧ Below wc.heap.size wc wx)
          case first =>
            cases WB with
            | false =>
              go_wp2_with fail
              go_meet
              exact ⟨hI', Below.refl _ _⟩
            | true =>
              obtain ⟨a, x, rfl, hax, hne⟩ := hWB rfl
              have hown0 := World.ownsRow_nil wc wc.heap.size 5 1
              have h1 := ints_oneCell .u8 (piece l s i)
              have hlt9 : 0 + m < 1000000000 := by omega
              have ham : a < m := by have := (List.getElem?_eq_some_iff.1 hax).1; omega
              have hamB : decide ((a : Int) < (m : Int)) = true := by simp; omega
              clear hWB hpc cp0 cp1
              go_wp2_with (at_builtin; refine app_many elem_byte (.tmp 138) (.tmp 139) rfl rfl rfl hown0 rfl hpcW h1 hlt9 (Nat.le_refl _) ?_; intro v2 w5 hown5 hb5 _; rw [Nat.zero_add, List.nil_append] at hown5; obtain ⟨g5, cap5, hv5, hg5, hl5⟩ := hown5.form (Nat.lt_of_lt_of_le Nat.zero_lt_one hm1); subst hv5; have c5 := hown5.cellAt a (by omega); have f5 := hown5.frozenAt a)
              obtain ⟨hst5, _⟩ := hown5.stored a (.int .u8 tt)
              rw [← List.map_set] at hst5
              have hq : BReads (w5.setCell ⟨g5, a, none⟩ (.int .u8 tt)) (w5.setCell ⟨g5, a, none⟩ (.int .u8 tt)).heap.size (some ⟨g5, 0, none⟩) m ((piece l s i).set a tt) := Reads.of_own hst5
              have hB6 := hb5.setCell (p := ⟨g5, a, none⟩) hg5 (.int .u8 tt)
              clear hst5 hown5 c5 f5 hb5 hl5 hown0 h1 hamB
              generalize w5.setCell ⟨g5, a, none⟩ (.int .u8 tt) = W6 at *
              refine (wrong_step (some ⟨g5, 0, none⟩) m cap5 _ (hI'.below hB6 (Nat.le_refl _)) hik rfl hq hm6 hby hax hto hne).mono ?_
              rintro e w7 ⟨rfl, hb7⟩
              have hB7 := hB6.trans (hb7.mono hB6.size)
              have he7 := he.below (hBwr.trans (hB7.mono hBwr.size)) he.lt
              clear hB6 hb7 hq
              go_wp2_with fail
              refine (error_any 3 3 w7 he7).mono ?_
              rintro e w8 ⟨rfl, hb8⟩
              rw [show ((3 : Int) == 3) = true from rfl]
              have hB8 := hB7.trans (hb8.mono hB7.size)
              clear hB7 hb8 he7
              go_wp2_with fail
              go_meet
              exact ⟨hI'.below hB8 (Nat.le_refl _), hB8⟩
              trace_state
              done
          case rest =>
            obtain ⟨hI2, hbc⟩ := hcut
            have hpc2 := (Reads.below hpcW hbc).more hbc.size
            have hst := hide (put_step (some ⟨bA, oA + F, none⟩) m cc w2.heap.size hI2 hik hpc2 hm6 hby (fun e => by cases e) (fun j h1 h2 => by have := unhide HZ j h1 h2; omega) hbge (Nat.le_trans hsz hbc.size))
            have hB7 := hbel.trans (hbc.mono hsz)
            clear hI' hbel hI2 hbc hpc2 hpcW hpc hBwr cp0 cp1
            go_wp2_with fail
            refine (unhide hst).mono ?_
            rintro e w7 ⟨is, rfl, c7, f7, hI7, hb7⟩
            have hB8 := (hB7.trans hb7).setCell (p := ⟨w3.heap.size, i, none⟩) hsb (.bool true)
            clear hst hB7 hb7
            cases is with
            | true =>
              go_wp2_with fail
              go_roundw
              case rel => exact ⟨T + 1, by omega, by go_num, hI7, hB8⟩
              case measure => simp [intOf] <;> omega
            | false =>
              go_wp2_with fail
              go_roundw
              case rel => exact ⟨T + 1, by omega, by go_num, hI7, hB8⟩
              case measure => simp [intOf] <;> omega
    · obtain ⟨S, D', hF', hth, hlk, hbs⟩ := hI'.all (by omega)
      have hbl := hbs (by rw [unhide HLL]; exact unhide HK1)
      clear hbs hI' 
      go_wp2_with fail
      refine (bytes_all g b _ S A' c' _ D' _ hF' hth).mono ?_
      rintro e w5 ⟨v5, rfl, hown5, hb5⟩
      rw [hbl] at hown5
      obtain ⟨bA5, bc5, rfl, hr5, _, _⟩ := own_slice hown5
      go_wp2_with fail
      refine (lacks_any g b _ S A' c' _ D' _ (hF'.below hb5 (Nat.le_refl _))).mono ?_
      rintro e w6 ⟨v6, rfl, hlk6, hb6⟩
      rw [hlk] at hlk6
      obtain ⟨lA6, lc6, rfl, hr6, _, _⟩ := own_slice hlk6
      have hm6 := hr6.1
      have hr5' : BReads w6 w5.heap.size bA5 l.length l := Reads.below hr5 hb6
      have hr' : BReads w6 w.heap.size A n l := Reads.below hr (hBwr.trans ((hb5.mono hBwr.size).trans (hb6.mono (Nat.le_trans hBwr.size hb5.size))))
      have q1 := conv_bytes (c := bc5) hr5'
      have q2 := conv_bytes (c := c) hr'
      have hB6 := hBwr.trans ((hb5.mono hBwr.size).trans (hb6.mono (Nat.le_trans hBwr.size hb5.size)))
      clear hr5 hr6 hlk6 hown5 hF' hth hlk hbl hr5' hr'
      go_wp2_with fail
      go_ret
      exact ⟨by simp, hB6⟩
end Go.Proofs.YtijgiieoinmjhaaDoor
