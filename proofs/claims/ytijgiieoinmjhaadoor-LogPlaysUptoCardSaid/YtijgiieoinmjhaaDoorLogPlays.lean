/- LogPlays: the walk. Conditions: arguments read as data; their texts are not too long; the handle that errors need. -/
import Derived.Test.YtijgiieoinmjhaaDoorSameC
import Derived.Test.YtijgiieoinmjhaaDoorRLog3
import Derived.Test.YtijgiieoinmjhaaDoorNsRows
import Derived.Test.YtijgiieoinmjhaaDoorTold2
import Derived.Laws.BytesArg
import Derived.Laws.BytesString
import Derived.Deep.DeepCutAuto
import Derived.Deep.CutRange
import Derived.Deep.CutBlock
namespace Go.Proofs.YtijgiieoinmjhaaDoor
set_option linter.unusedVariables false
set_option linter.unusedSimpArgs false
open Go.RowKit Go.Maps

theorem LgS.blk {w : World} {g q : Nat} {S : LS} (h : LgS w g S q) : ∃ cs, Blk w g 101 cs := by
  obtain ⟨_, _, A, n, c, hi⟩ := h
  exact ⟨_, hi.blk⟩
theorem RlS.blk {w : World} {m B0 : Nat} {S : LS} (h : RlS w m B0 S) : B0 ≤ m ∧ ∃ cs, Blk w m 66 cs := by
  obtain ⟨_, _, vC, rs, A, n, c, hi, _⟩ := h
  exact ⟨hi.hB, _, hi.blk⟩
/-- both logs, in one state -/
structure Both (w : World) (g m B0 : Nat) (S : LS) (q : Nat) : Prop where
  l : LgS w g S q
  r : RlS w m B0 S
  hg : B0 ≤ g
theorem Both.below {w w' : World} {g m B0 B q : Nat} {S : LS} (h : Both w g m B0 S q) (hb : Below B w w') (hB : w.heap.size ≤ B) : Both w' g m B0 S q := ⟨h.l.below hb hB, h.r.below hb hB, h.hg⟩
/-- the reference while the log changes -/
theorem Both.r1 {w w' : World} {g m B0 q : Nat} {S : LS} (h : Both w g m B0 S q) (hc : Chg g w w') : RlS w' m B0 S := by
  obtain ⟨cs, hb⟩ := h.l.blk
  exact h.r.chg hb (by decide) (by decide) (by decide) hc h.hg
/-- the log while the reference changes -/
theorem Both.l1 {w w' : World} {g m B0 q : Nat} {S : LS} (h : Both w g m B0 S q) (hc : ChgR m B0 w w') : LgS w' g S q := by
  obtain ⟨_, cs, hb⟩ := h.r.blk
  exact h.l.chgR (t := 66) hb hc
theorem LgS.next {w w' : World} {g m B0 q : Nat} {S S' : LS} (h : LgS w g S q) (hr : RlS w m B0 S') (hc : ChgR m B0 w w') : LgS w' g S q := by
  obtain ⟨_, cs, hb⟩ := hr.blk
  exact h.chgR (t := 66) hb hc
theorem RlS.fail_ {w : World} {m B0 : Nat} {S : LS} (h : RlS w m B0 S) (z z' : Int) (hz : z ≤ 9223372036854775807) (hz' : z' = max (-1) z) : RlS (w.setCell ⟨m, 4, none⟩ (.int .i64 z')) m B0 (S.fail z) := by
  subst hz'
  obtain ⟨h1, h2, vC, rs, A, n, c, h3, h4⟩ := h
  have h5 := h3.set4 (max (-1) z)
  refine ⟨⟨h1.good, h1.tail, h1.safe, h1.len⟩, by show max (-1) z ≤ _; omega, vC, rs, A, n, c, ?_, h4⟩
  have e : max (-1) (S.fail z).left = max (-1) z := by show max (-1) (max (-1) z) = _; omega
  rw [e]
  exact h5
theorem crash_clip {S : LS} (h : LsOk S) (z z' : Int) (hz : z' = min z 1000000) : S.crash z' = S.crash z := by
  have hb := h.bslen
  have hk : S.kept z' = S.kept z := by
    unfold LS.kept
    omega
  unfold LS.crash
  rw [hk]
theorem NsOk.at64 {w : World} {B k : Nat} {r : Ns} (h : NsOk .i64 w B r) (hk : k < r.n) : ∃ b o, r.A = some ⟨b, o, none⟩ ∧ b < B ∧ ∃ x, In64 x ∧ w.cell? ⟨b, o + k, none⟩ = some (Value.int .i64 x) := by
  obtain ⟨b, o, e, hb, hc⟩ := h.reads.spot (by omega) (by omega)
  have hl : r.l.length = r.n := by have := h.reads.1; simpa using this
  have hx : r.l[k]? = some r.l[k] := List.getElem?_eq_getElem (by omega)
  have hw := h.wf _ (List.getElem_mem (l := r.l) (n := k) (by omega))
  refine ⟨b, o, e, hb, r.l[k], ?_, hc k _ (by rw [List.getElem?_map, hx]; rfl)⟩
  simp [Lit.wf, IntKind.min, IntKind.max, IntKind.bits, IntKind.signed] at hw
  unfold In64
  omega
theorem RlS.next {w w' : World} {g m B0 q : Nat} {S S' : LS} (h : RlS w m B0 S') (hl : LgS w g S q) (hc : Chg g w w') (hg : B0 ≤ g) : RlS w' m B0 S' := by
  obtain ⟨cs, hb⟩ := hl.blk
  exact h.chg hb (by decide) (by decide) (by decide) hc hg
def zeroC : Cv := ⟨⟨0, 0, 0, ⟨#[]⟩, 0, 0, []⟩, none, 0, 0⟩
theorem zeroC_ok (w : World) (B : Nat) : CvArg w B zeroC := ⟨⟨Reads.none_, Nat.zero_le _, Nat.le_refl _, fun _ => rfl⟩, by unfold Nums64 In64; decide, by decide, by decide, fun x hx => nomatch hx⟩

set_option maxRecDepth 100000 in
set_option maxHeartbeats 16000000 in
theorem logPlays_walk (A : Option Addr) (n ca : Nat) (rs : List Cv) (C : Option Addr) (ns cc : Nat) (ts : List Ns) (w : World) (he : ErrT w) (hr : CsReads w w.heap.size A n rs) (hn : n ≤ maxLen) (hs : NsReads .i64 w w.heap.size C ns ts) (hns : ns ≤ maxLen) :
    Calls Tryd.prog 6 #[.slice A n ca, .slice C ns cc] w fun e w' => e = .returned (.bool true) ∧ Below w.heap.size w w' := by
  unfold maxLen at hn hns
  go_enter Tryd.func6, Tryd.ntmps6
  go_wp2_with fail
  refine (lognew_any w).mono ?_
  rintro e w1 ⟨rfl, hL1, hb1, hz1⟩
  obtain ⟨m, hm⟩ : ∃ m, m = w1.heap.size := ⟨_, rfl⟩
  obtain ⟨W, hW⟩ : ∃ W, W = w1.alloc (.cells #[.slice none 0 0, .slice none 0 0, .int .i64 0, .int .i64 0, .int .i64 (-1), .bool false] 66) := ⟨_, rfl⟩
  have hbm : Blk W m 66 #[.slice none 0 0, .slice none 0 0, .int .i64 0, .int .i64 0, .int .i64 (-1), .bool false] := by rw [hW, hm]; exact Blk.new _ _ _
  have hb2 : Below w1.heap.size w1 W := by rw [hW]; exact (Below.refl _ _).alloc (Nat.le_refl _) _
  have hB0 : Below w.heap.size w W := hb1.trans (hb2.mono hb1.size)
  have hR1 : RlS W m w.heap.size ⟨[], [], 0, -1, false⟩ := ⟨LsOk.start, by decide, .slice none 0 0, [], none, 0, 0, ⟨hbm, ⟨by simp, .inl ⟨rfl, rfl⟩⟩, fun r hr => (nomatch hr), Reads.none_, Nat.le_refl _, fun _ => rfl, BTyp.none_ _, by rw [hm]; exact hb1.size⟩, rfl⟩
  have hS1 : Both W w.heap.size m w.heap.size ⟨[], [], 0, -1, false⟩ 1 := ⟨hL1.below hb2 (Nat.le_refl _), hR1, Nat.le_refl _⟩
  obtain ⟨g, hg⟩ : ∃ g, g = w.heap.size := ⟨_, rfl⟩
  clear hL1 hb1 hz1 hR1 hb2
  go_wp2_with fail
  rw [← hW, ← hm]
  have hS1 : Both W g m w.heap.size ⟨[], [], 0, -1, false⟩ 1 := by rw [hg]; exact hS1
  rw [← hg]
  have hgw : w.heap.size ≤ g := by omega
  clear hW hm hbm
  clear hg
  go_wp2_with fail
  go_loopw [7] (fun iv wr => ∃ (k : Nat) (S : LS), k ≤ 40 ∧ iv = .int .i64 k ∧ Both wr g m w.heap.size S (k + 1) ∧ Below w.heap.size w wr) (fun iv _ => 40 - (intOf iv).toNat)
  case atStart => exact ⟨0, _, by omega, rfl, hS1, hB0⟩
  case round =>
    clear hS1 hB0
    obtain ⟨k, S, hk, rfl, hS, hbel⟩ := hrel
    obtain ⟨wo, hwo⟩ : ∃ wo, wo = wr := ⟨_, rfl⟩
    subst hwo
    have hsz := hbel.size
    by_cases hlt : k < ns ∧ k < 40
    · obtain ⟨g1, g2⟩ := hlt
      obtain ⟨bC, oC, st, hC, hbC, hx, cst, ost⟩ := (hs.below hbel).get g1
      subst hC
      obtain ⟨b8, hb8⟩ : ∃ b8, b8 = wo.heap.size := ⟨_, rfl⟩
      obtain ⟨W8, hW8⟩ : ∃ W8, W8 = wo.alloc (.cells #[.int .i64 0, .int .i64 0] 67) := ⟨_, rfl⟩
      have h8 : Blk W8 b8 67 #[.int .i64 0, .int .i64 0] := by rw [hW8, hb8]; exact Blk.new _ _ _
      have hbW : Below wo.heap.size wo W8 := by rw [hW8]; exact (Below.refl _ _).alloc (Nat.le_refl _) _
      go_wp2_with fail
      rw [← hW8, ← hb8]
      have hb8g : wo.heap.size ≤ b8 := by omega
      clear hW8 hb8
      go_loopw [9] (fun iv wr => ∃ (j : Nat) (z0 z1 : Int), j ≤ 2 ∧ iv = .int .i64 j ∧ In64 z0 ∧ In64 z1 ∧ Blk wr b8 67 #[.int .i64 z0, .int .i64 z1] ∧ Below wo.heap.size wo wr) (fun iv _ => 2 - (intOf iv).toNat)
      case atStart => exact ⟨0, 0, 0, by omega, rfl, by unfold In64; decide, by unfold In64; decide, h8, hbW⟩
      case round =>
        clear h8 hbW
        obtain ⟨j, z0, z1, hj, rfl, i0, i1, hb, hbj⟩ := hrel
        have c0 := hb.cell 0
        have c1 := hb.cell 1
        have f0 := hb.frozen 0
        have f1 := hb.frozen 1
        simp at c0 c1
        have hst := ost.below (hbj.mono hsz)
        have cst' := (hbj.cell (p := ⟨bC, oC + k, none⟩) (by show bC < _; omega)).trans cst
        obtain ⟨sA, sn, sc, sl⟩ := st
        dsimp only at cst'
        by_cases hjl : j < sn ∧ j < 2
        · skip
          --{
          obtain ⟨q1, q2⟩ := hjl
          obtain ⟨b, o, hbo, _, x, hx64, cx⟩ := hst.at64 q1
          dsimp only at hbo
          subst hbo
          clear hst
          have cj : wr.cell? ⟨b8, j, none⟩ = some (.int .i64 (if j = 0 then z0 else z1)) := by
            rcases (by omega : j = 0 ∨ j = 1) with rfl | rfl
            · exact c0
            · exact c1
          have fj := hb.frozen j
          have hset : ∃ y0 y1, In64 y0 ∧ In64 y1 ∧ Blk (wr.setCell ⟨b8, j, none⟩ (.int .i64 x)) b8 67 #[.int .i64 y0, .int .i64 y1] := by
            have h1 := hb.set_ j (.int .i64 x)
            rcases (by omega : j = 0 ∨ j = 1) with rfl | rfl
            · exact ⟨x, z1, hx64, i1, by simpa using h1⟩
            · exact ⟨z0, x, i0, hx64, by simpa using h1⟩
          have hbn := hbj.setCell (p := ⟨b8, j, none⟩) hb8g (.int .i64 x)
          clear c0 c1 f0 f1
          go_wp2_with fail
          go_roundw
          case rel =>
            obtain ⟨y0, y1, u0, u1, u2⟩ := hset
            exact ⟨j + 1, y0, y1, by omega, by go_num, u0, u1, u2, hbn⟩
          case measure => simp [intOf]; omega
          --}
        · clear hst cst hx ost
          have hSj := hS.below hbj (Nat.le_refl _)
          have hBj := hbel.trans (hbj.mono hsz)
          have hb8g := Nat.le_trans hsz hb8g
          clear hS hbel hbj
          obtain ⟨wi, hwi⟩ : ∃ wi, wi = wr := ⟨_, rfl⟩
          subst hwi
          go_upto_region 8 with (fail)
          go_cut [38] (fun v wx => v = .bool false ∧ wx = wi)
          case first =>
            by_cases hj1 : j < sn
            · go_wp2_with fail
              go_meet
              exact ⟨by simp; omega, rfl⟩
            · go_wp2_with fail
              go_meet
              exact ⟨rfl, rfl⟩
          case rest =>
          obtain ⟨rfl, hwx⟩ := hcut
          have hwx := hwx.symm
          subst hwx
          clear cst'
          go_upto_block 4 with (fail)
          go_cut [10] (fun v wx => v = .bool true ∧ ∃ S', Both wx g m w.heap.size S' (k + 2) ∧ Below w.heap.size w wx)
          case first =>
            go_upto_if 63 with (fail)
            go_cut [63] (fun v wx => v = .bool (decide (0 ≤ z0 ∧ z0 ≤ 3)) ∧ wx = wi)
            case first =>
              --{
              by_cases a0 : z0 = 0
              · have d0 : (z0 == 0) = true := by simpa using a0
                subst a0
                go_wp2_with fail
                go_meet
                exact ⟨rfl, rfl⟩
              have d0 : (z0 == 0) = false := by simpa using a0
              by_cases a1 : z0 = 1
              · have d1 : (z0 == 1) = true := by simpa using a1
                subst a1
                go_wp2_with fail
                go_meet
                exact ⟨rfl, rfl⟩
              have d1 : (z0 == 1) = false := by simpa using a1
              by_cases a2 : z0 = 2
              · have d2 : (z0 == 2) = true := by simpa using a2
                subst a2
                go_wp2_with fail
                go_meet
                exact ⟨rfl, rfl⟩
              have d2 : (z0 == 2) = false := by simpa using a2
              have d3 : (z0 == 3) = decide (0 ≤ z0 ∧ z0 ≤ 3) := by
                by_cases a3 : z0 = 3
                · subst a3; rfl
                · have : ¬ (0 ≤ z0 ∧ z0 ≤ 3) := by omega
                  simp [a3, this]
              obtain ⟨b3, hb3⟩ : ∃ b3, b3 = decide (0 ≤ z0 ∧ z0 ≤ 3) := ⟨_, rfl⟩
              rw [← hb3] at d3
              have HB3 := hide hb3
              clear hb3 a0 a1 a2
              cases b3
              all_goals
                go_wp2_with fail
                go_meet
                exact ⟨by rw [← unhide HB3], rfl⟩
              --}
            case rest =>
              obtain ⟨rfl, hwx⟩ := hcut
              have hwx := hwx.symm
              subst hwx
              by_cases a0 : 0 ≤ z0 ∧ z0 ≤ 3
              · have d0 : decide (0 ≤ z0 ∧ z0 ≤ 3) = true := by simpa using a0
                rw [d0]
                clear a0 d0
                obtain ⟨W, hW⟩ : ∃ W, W = wi.alloc (.cells #[.int .i64 0, .int .i64 0, .int .i64 0, .string ⟨#[]⟩, .int .i64 0, .int .i64 0, .slice none 0 0] 53) := ⟨_, rfl⟩
                obtain ⟨b11, hb11⟩ : ∃ b11, b11 = wi.heap.size := ⟨_, rfl⟩
                have hbc : Blk W b11 53 #[.int .i64 0, .int .i64 0, .int .i64 0, .string ⟨#[]⟩, .int .i64 0, .int .i64 0, .slice none 0 0] := by rw [hW, hb11]; exact Blk.new _ _ _
                have hbW : Below wi.heap.size wi W := by rw [hW]; exact (Below.refl _ _).alloc (Nat.le_refl _) _
                have hSW := hSj.below hbW (Nat.le_refl _)
                have hBW := hBj.trans (hbW.mono hBj.size)
                have c1' := (hb.below hbW hb.lt).cell 1
                simp at c1'
                have hwb : w.heap.size ≤ b11 := by rw [hb11]; exact hBj.size
                go_upto_region 23 with (fail)
                rw [← hW, ← hb11]
                have hb11g : wi.heap.size ≤ b11 := by omega
                clear hW hb11
                go_cut [77] (fun v wx => v = .bool (decide (0 ≤ z1 ∧ z1 < n)) ∧ wx = W)
                case first =>
                  by_cases a1 : 0 ≤ z1
                  · by_cases a2 : z1 < n
                    · have d1 : decide (0 ≤ z1) = true := by simpa using a1
                      have d2 : decide (z1 < (n : Int)) = true := by simpa using a2
                      go_wp2_with fail
                      go_meet
                      exact ⟨by simp [a1, a2], rfl⟩
                    · have d1 : decide (0 ≤ z1) = true := by simpa using a1
                      have d2 : decide (z1 < (n : Int)) = false := by simpa using a2
                      go_wp2_with fail
                      go_meet
                      exact ⟨by simp [a1, a2], rfl⟩
                  · have d1 : decide (0 ≤ z1) = false := by simpa using a1
                    go_wp2_with fail
                    go_meet
                    exact ⟨by simp; omega, rfl⟩
                case rest =>
                obtain ⟨rfl, hwx⟩ := hcut
                have hwx := hwx.symm
                subst hwx
                go_upto_if 77 with (fail)
                go_cut [] (fun wx => ∃ r : Cv, CvArg wx w.heap.size r ∧ Blk wx b11 53 #[.int .i64 r.c.what, .int .i64 r.c.ses, .int .i64 r.c.seq, .string r.c.name, .int .i64 r.c.num, .int .i64 r.c.share, .slice r.A r.n r.cap] ∧ Both wx g m w.heap.size S (k + 1) ∧ Below w.heap.size w wx)
                case first =>
                  by_cases a1 : 0 ≤ z1 ∧ z1 < n
                  · have d1 : decide (0 ≤ z1 ∧ z1 < (n : Int)) = true := by simpa using a1
                    rw [d1]
                    clear d1
                    obtain ⟨i, rfl⟩ : ∃ i : Nat, z1 = i := ⟨z1.toNat, by omega⟩
                    have hin : i < n := by omega
                    clear a1
                    obtain ⟨bA, oA, r, hA, hbA, hx, hra, d0, d1, d2, d3, d4, d5, d6⟩ := (hr.below hBW).get hin
                    have hX := hbc.set7_ (.int .i64 r.c.what) (.int .i64 r.c.ses) (.int .i64 r.c.seq) (.string r.c.name) (.int .i64 r.c.num) (.int .i64 r.c.share) (.slice r.A r.n r.cap)
                    have hXB := below_set7 hbW (g := b11) hb11g (.int .i64 r.c.what) (.int .i64 r.c.ses) (.int .i64 r.c.seq) (.string r.c.name) (.int .i64 r.c.num) (.int .i64 r.c.share) (.slice r.A r.n r.cap)
                    have hXw := below_set7 (Below.refl w.heap.size W) (g := b11) hwb (.int .i64 r.c.what) (.int .i64 r.c.ses) (.int .i64 r.c.seq) (.string r.c.name) (.int .i64 r.c.num) (.int .i64 r.c.share) (.slice r.A r.n r.cap)
                    obtain ⟨c0, c1, c2, c3, c4, c5, c6⟩ := hbc.cells7
                    have f0 := hbc.frozen 0; have f1 := hbc.frozen 1; have f2 := hbc.frozen 2; have f3 := hbc.frozen 3; have f4 := hbc.frozen 4; have f5 := hbc.frozen 5; have f6 := hbc.frozen 6
                    subst hA
                    go_wp2_with fail
                    go_meet
                    exact ⟨r, hra.below hXw, hX, hSj.below hXB (Nat.le_refl _), hBj.trans (hXB.mono hBj.size)⟩
                  · have d1 : decide (0 ≤ z1 ∧ z1 < (n : Int)) = false := by simpa using a1
                    rw [d1]
                    clear d1 a1
                    go_wp2_with fail
                    go_meet
                    exact ⟨zeroC, zeroC_ok _ _, hbc, hSW, hBW⟩
                case rest =>
                obtain ⟨r, hcr, hbr, hSr, hBr⟩ := hcut
                obtain ⟨w5, hw5⟩ : ∃ w5, w5 = wc := ⟨_, rfl⟩
                subst hw5
                have hd5 : Below w5.heap.size w5 w5.drew := (Below.refl _ _).drew
                have hSd := hSr.below hd5 (Nat.le_refl _)
                have hBd := hBr.trans (hd5.mono hBr.size)
                have hcd := hcr.below (hd5.mono hBr.size)
                have hbd := hbr.below hd5 hbr.lt
                obtain ⟨E, hE⟩ : ∃ E, E = S.appE r.c := ⟨_, rfl⟩
                obtain ⟨S1, hS1⟩ : ∃ S1, S1 = S.app r.c := ⟨_, rfl⟩
                have HA : Hid (Calls Tryd.prog 24 #[.pointer (some ⟨g, 0, none⟩), .agg #[.int .i64 r.c.what, .int .i64 r.c.ses, .int .i64 r.c.seq, .string r.c.name, .int .i64 r.c.num, .int .i64 r.c.share, .slice r.A r.n r.cap]] w5.drew fun e w' => e = .returned (errV E) ∧ LgS w' g S1 (k + 1 + 1) ∧ Chg g w5.drew w') := hide (by
                  rw [hE, hS1]
                  exact append_any g (k + 1) S r w5.drew hSd.l (by omega) (hcd.ok.more (Nat.le_trans hBr.size hd5.size)) hcd.num hcd.name hcd.many hcd.by_)
                have HR : Hid (∀ W, RlS W m w.heap.size S → CvArg W w.heap.size r → Calls Tryd.prog 30 #[.pointer (some ⟨m, 0, none⟩), .agg #[.int .i64 r.c.what, .int .i64 r.c.ses, .int .i64 r.c.seq, .string r.c.name, .int .i64 r.c.num, .int .i64 r.c.share, .slice r.A r.n r.cap]] W fun e w' => e = .returned (.int .i64 E) ∧ RlS w' m w.heap.size S1 ∧ ChgR m w.heap.size W w') := hide (fun W h1 h2 => by
                  rw [hE, hS1]
                  exact rappend_any m w.heap.size S r W h1 h2)
                have HX : Hid (∀ x1, Chg g w5.drew x1 → RlS x1 m w.heap.size S ∧ CvArg x1 w.heap.size r ∧ Blk x1 b11 53 #[.int .i64 r.c.what, .int .i64 r.c.ses, .int .i64 r.c.seq, .string r.c.name, .int .i64 r.c.num, .int .i64 r.c.share, .slice r.A r.n r.cap] ∧ Below w.heap.size w x1) := hide (fun x1 hc => by
                  obtain ⟨cs, hgb⟩ := hSd.l.blk
                  have hB1 := hc.below hgw hBd.size
                  exact ⟨hSd.r1 hc, hcd.below hB1, hbd.chg hc (Blk.ne_ hbd hgb (by decide)), hBd.trans hB1⟩)
                have HY : Hid (∀ x1 x2, LgS x1 g S1 (k + 1 + 1) → RlS x2 m w.heap.size S1 → RlS x1 m w.heap.size S → Below w.heap.size w x1 → ChgR m w.heap.size x1 x2 → Both x2 g m w.heap.size S1 (k + 2) ∧ Below w.heap.size w x2) := hide (fun x1 x2 h1 h2 h3 h4 h5 => ⟨⟨h1.next h3 h5, h2, hgw⟩, h4.trans (h5.below (Nat.le_refl _) h3.blk.1 h4.size)⟩)
                obtain ⟨c0, c1, c2, c3, c4, c5, c6⟩ := hbr.cells7
                clear hE hS1 hSd hBd hcd hbd hd5 hcr hbr hSr hBr
                go_upto_region 25 with (fail)
                go_region_with (first
                  | (go_at_call 24
                     refine (unhide HA).mono ?_
                     rintro e x1 ⟨rfl, hL1, hc1⟩
                     obtain ⟨hR1, hC1, hK1, hB1⟩ := unhide HX x1 hc1
                     obtain ⟨e0, e1, e2, e3, e4, e5, e6⟩ := hK1.cells7
                     clear hK1 hc1)
                  | (go_at_call 30
                     refine (unhide HR x1 hR1 hC1).mono ?_
                     rintro e x2 ⟨rfl, hR2, hc2⟩
                     obtain ⟨hS2, hB2⟩ := unhide HY x1 x2 hL1 hR2 hR1 hB1 hc2
                     clear hL1 hR2 hR1 hB1 hC1 hc2)
                  | (go_at_call 12
                     refine (error_any E E x2 (he.below hB2 he.lt)).mono ?_
                     rintro e x3 ⟨rfl, hb3⟩
                     rw [beq_self_eq_true]))
                all_goals
                  go_wp2_with fail
                  go_meet
                  exact ⟨rfl, S1, hS2.below hb3 (Nat.le_refl _), hB2.trans (hb3.mono hB2.size)⟩
              · have d0 : decide (0 ≤ z0 ∧ z0 ≤ 3) = false := by simpa using a0
                rw [d0]
                clear a0 d0
                go_upto_if 90 with (fail)
                go_cut [90] (fun v wx => v = .bool (decide (z0 = 4 ∨ z0 = 5)) ∧ wx = wi)
                case first =>
                  --{
                  by_cases a0 : z0 = 4
                  · have d0 : (z0 == 4) = true := by simpa using a0
                    subst a0
                    go_wp2_with fail
                    go_meet
                    exact ⟨rfl, rfl⟩
                  have d0 : (z0 == 4) = false := by simpa using a0
                  have d3 : (z0 == 5) = decide (z0 = 4 ∨ z0 = 5) := by
                    by_cases a3 : z0 = 5
                    · subst a3; rfl
                    · simp [a0, a3]
                  obtain ⟨b3, hb3⟩ : ∃ b3, b3 = decide (z0 = 4 ∨ z0 = 5) := ⟨_, rfl⟩
                  rw [← hb3] at d3
                  have HB3 := hide hb3
                  clear hb3 a0
                  cases b3
                  all_goals
                    go_wp2_with fail
                    go_meet
                    exact ⟨by rw [← unhide HB3], rfl⟩
                  --}
                case rest =>
                obtain ⟨rfl, hwx⟩ := hcut
                have hwx := hwx.symm
                subst hwx
                have hmB := hSj.r.blk.1
                by_cases a0 : z0 = 4 ∨ z0 = 5
                · have d0 : decide (z0 = 4 ∨ z0 = 5) = true := by simpa using a0
                  rw [d0]
                  clear a0 d0
                  have s1 := hide (sync_any g (k + 1) S wi hSj.l (by omega))
                  obtain ⟨E, hE⟩ : ∃ E, E = S.syncE := ⟨_, rfl⟩
                  rw [← hE] at s1
                  have HE := hide hE
                  clear hE
                  go_wp2_with fail
                  refine (unhide s1).mono ?_
                  rintro e x1 ⟨rfl, hL1, hc1⟩
                  have hR1 := hSj.r1 hc1
                  have hB1 := hBj.trans (hc1.below (by omega) hBj.size)
                  have s2 := hide (rsync_any m w.heap.size S x1 hR1)
                  rw [← unhide HE] at s2
                  clear s1
                  go_wp2_with fail
                  refine (unhide s2).mono ?_
                  rintro e x2 ⟨rfl, hR2, hc2⟩
                  have hL2 := hL1.next hR1 (ChgR.of_chg hc2)
                  have hB2 := hB1.trans (hc2.below hmB hB1.size)
                  have s3 := hide (error_any E E x2 (he.below hB2 he.lt))
                  clear s2
                  go_wp2_with fail
                  refine (unhide s3).mono ?_
                  rintro e x3 ⟨rfl, hb3⟩
                  rw [beq_self_eq_true]
                  clear s3
                  go_wp2_with fail
                  go_meet
                  exact ⟨rfl, S.sync, ⟨hL2.below hb3 (Nat.le_refl _), hR2.below hb3 (Nat.le_refl _), hgw⟩, hB2.trans (hb3.mono hB2.size)⟩
                · have d0 : decide (z0 = 4 ∨ z0 = 5) = false := by simpa using a0
                  rw [d0]
                  clear a0 d0
                  have hne : b8 ≠ m := by
                    obtain ⟨_, cs, hbm⟩ := hSj.r.blk
                    exact Blk.ne_ hb hbm (by decide)
                  have hz9 : z1 ≤ 9223372036854775807 := by have := i1.2; omega
                  have hz0 : -9223372036854775808 ≤ z1 := i1.1
                  by_cases a6 : z0 = 6
                  · have d6 : (z0 == 6) = true := by simpa using a6
                    clear a6
                    have HF : Hid (∀ z', z' = max (-1) z1 → Calls Tryd.prog 23 #[.pointer (some ⟨g, 0, none⟩), .int .i64 z1] (wi.setCell ⟨m, 4, none⟩ (.int .i64 z')) fun e w' => e = .returned (.tuple #[]) ∧ Both w' g m w.heap.size (S.fail z1) (k + 2) ∧ Below w.heap.size w w') := hide (fun z' hz' => by
                      have hR := hSj.r.fail_ z1 z' hz9 hz'
                      have hcR : ChgR m w.heap.size wi (wi.setCell ⟨m, 4, none⟩ (.int .i64 z')) := (ChgR.refl m w.heap.size wi).set_ 4 _
                      have hL := hSj.l1 hcR
                      have hB := hBj.trans (hcR.below (Nat.le_refl _) hmB hBj.size)
                      refine (fail_any g (k + 1) S z1 _ hL (by omega) hz9).mono ?_
                      rintro e w' ⟨rfl, hL2, hc⟩
                      exact ⟨rfl, ⟨hL2.more (by omega), hR.next hL hc hgw, hgw⟩, hB.trans (hc.below hgw hB.size)⟩)
                    have m4 : wi.cell? ⟨m, 4, none⟩ = some (.int .i64 (max (-1) S.left)) ∧ wi.frozen? ⟨m, 4, none⟩ = false := by
                      obtain ⟨_, _, vC, rs', A', n', c', hi, _⟩ := hSj.r
                      exact ⟨hi.cells.2.2.2.2.1, hi.blk.frozen 4⟩
                    obtain ⟨m4, fm4⟩ := m4
                    by_cases hz : z1 < -1
                    · have dz : decide (z1 < -1) = true := by simpa using hz
                      have HF := hide (unhide HF (-1) (by omega))
                      clear hz
                      go_wp2_with fail
                      refine (unhide HF).mono ?_
                      rintro e w' ⟨rfl, hS2, hB2⟩
                      go_wp2_with fail
                      go_meet
                      exact ⟨rfl, _, hS2, hB2⟩
                    · have dz : decide (z1 < -1) = false := by simpa using hz
                      have HF := hide (unhide HF z1 (by omega))
                      clear hz
                      go_wp2_with fail
                      refine (unhide HF).mono ?_
                      rintro e w' ⟨rfl, hS2, hB2⟩
                      go_wp2_with fail
                      go_meet
                      exact ⟨rfl, _, hS2, hB2⟩
                  · have d6 : (z0 == 6) = false := by simpa using a6
                    clear a6
                    have HC : Hid (∀ z', z' = min z1 1000000 → Calls Tryd.prog 32 #[.pointer (some ⟨m, 0, none⟩), .int .i64 z'] wi fun e w1 => e = .returned (.tuple #[]) ∧ w1.cell? ⟨b8, 1, none⟩ = some (.int .i64 z1) ∧ Hid (Calls Tryd.prog 29 #[.pointer (some ⟨g, 0, none⟩), .int .i64 z1] w1 fun e w' => e = .returned (.tuple #[]) ∧ Both w' g m w.heap.size (S.crash z1) (k + 2) ∧ Below w.heap.size w w')) := hide (fun z' hz' => by
                      refine (rcrash_any m w.heap.size S z' wi hSj.r (by omega) (by omega)).mono ?_
                      rintro e w1 ⟨rfl, hR1, hc1⟩
                      rw [crash_clip hSj.r.1 z1 z' hz'] at hR1
                      have hL1 := hSj.l1 (ChgR.of_chg hc1)
                      have hB1 := hBj.trans (hc1.below hmB hBj.size)
                      refine ⟨rfl, by simpa using (hb.chg hc1 hne).cell 1, hide ?_⟩
                      refine (crash_any g (k + 1) S z1 w1 hL1 (by omega)).mono ?_
                      rintro e w2 ⟨rfl, hL2, hc2⟩
                      exact ⟨rfl, ⟨hL2.more (by omega), hR1.next hL1 hc2 hgw, hgw⟩, hB1.trans (hc2.below hgw hB1.size)⟩)
                    by_cases hz : 1000000 < z1
                    · have dz : decide (1000000 < z1) = true := by simpa using hz
                      have HC := hide (unhide HC 1000000 (by omega))
                      clear hz
                      go_wp2_with fail
                      refine (unhide HC).mono ?_
                      rintro e w1 ⟨rfl, q1, HD⟩
                      clear c0 c1 f0 f1
                      go_wp2_with fail
                      refine (unhide HD).mono ?_
                      rintro e w' ⟨rfl, hS2, hB2⟩
                      go_wp2_with fail
                      go_meet
                      exact ⟨rfl, _, hS2, hB2⟩
                    · have dz : decide (1000000 < z1) = false := by simpa using hz
                      have HC := hide (unhide HC z1 (by omega))
                      clear hz
                      go_wp2_with fail
                      refine (unhide HC).mono ?_
                      rintro e w1 ⟨rfl, q1, HD⟩
                      clear c0 c1 f0 f1
                      go_wp2_with fail
                      refine (unhide HD).mono ?_
                      rintro e w' ⟨rfl, hS2, hB2⟩
                      go_wp2_with fail
                      go_meet
                      exact ⟨rfl, _, hS2, hB2⟩
          case rest =>
            obtain ⟨rfl, S2, hS2, hB2⟩ := hcut
            obtain ⟨w6, hw6⟩ : ∃ w6, w6 = wc := ⟨_, rfl⟩
            subst hw6
            clear hSj hBj hb c0 c1 f0 f1 i0 i1
            go_upto_region 35 with (fail)
            go_cut [14] (fun v wx => v = .bool true ∧ Both wx g m w.heap.size S2 (k + 2) ∧ Below w.heap.size w wx)
            case first =>
              have hd6 : Below w6.heap.size w6 w6.drew := (Below.refl _ _).drew
              have hSd := hS2.below hd6 (Nat.le_refl _)
              have HL := hide (logcalls_any g _ S2 w6.drew hSd.l)
              obtain ⟨_, _, vC, rs2, A2, n2, c2, hi, hmap⟩ := hSd.r
              obtain ⟨vA, vc, rfl, hrd, hln, _⟩ := own_slice2 hi.calls
              have m0 : w6.cell? ⟨m, 0, none⟩ = some (.slice vA rs2.length vc) := hi.cells.1
              have hml : m < w6.drew.heap.size := hi.blk.lt
              have hBw : w.heap.size ≤ w6.drew.heap.size := Nat.le_trans hB2.size hd6.size
              have HX : Hid (∀ v1 rs1 x1, rs1.map Cv.c = S2.cs → CvRow x1 w6.drew.heap.size v1 rs1 → Below w6.drew.heap.size w6.drew x1 → ∃ A1 c1, v1 = .slice A1 rs2.length c1 ∧ x1.cell? ⟨m, 0, none⟩ = some (.slice vA rs2.length vc) ∧ Hid (Calls Tryd.prog 33 #[.slice A1 rs2.length c1, .slice vA rs2.length vc] x1 fun e w' => e = .returned (.bool true) ∧ Both w' g m w.heap.size S2 (k + 2) ∧ Below w.heap.size w w')) := hide (fun v1 rs1 x1 h1 h2 h3 => by
                obtain ⟨A1, c1, rfl, hr1, _, _⟩ := own_slice2 h2.1
                have hl : rs1.length = rs2.length := by rw [← List.length_map (f := Cv.c), h1, ← hmap, List.length_map]
                rw [hl] at hr1
                refine ⟨A1, c1, by rw [hl], (h3.cell (p := ⟨m, 0, none⟩) hml).trans m0, hide ?_⟩
                refine (sameCalls_any A1 vA rs2.length c1 vc rs1 rs2 x1 ⟨hr1, fun r hr => (h2.2 r hr).1⟩ ⟨(hrd.below h3).more h3.size, fun r hr => (((hi.cv r hr).ok.below (h3.mono hBw)).more (Nat.le_trans hBw h3.size))⟩ (h1.trans hmap.symm) hln).mono ?_
                rintro e w' ⟨rfl, hb'⟩
                have hb6 := hd6.trans ((h3.mono hd6.size).trans (hb'.mono (Nat.le_trans hd6.size h3.size)))
                exact ⟨rfl, hS2.below hb6 (Nat.le_refl _), hB2.trans (hb6.mono hB2.size)⟩)
              clear hrd hi hmap hln hSd hS2 hB2 hd6
              go_region_with (first
                | (go_at_call 25
                   refine (unhide HL).mono ?_
                   rintro e x1 ⟨v1, rs1, rfl, hm1, ho1, hb1⟩
                   obtain ⟨A1, c1, rfl, m1, HS⟩ := unhide HX v1 rs1 x1 hm1 ho1 hb1
                   clear hm1 ho1 hb1)
                | (go_at_call 33
                   refine (unhide HS).mono ?_
                   rintro e x2 ⟨rfl, hS3, hB3⟩))
              all_goals
                go_wp2_with fail
                go_meet
                exact ⟨rfl, hS3, hB3⟩
            case rest =>
            obtain ⟨rfl, hS3, hB3⟩ := hcut
            obtain ⟨w7, hw7⟩ : ∃ w7, w7 = wc := ⟨_, rfl⟩
            subst hw7
            clear hS2 hB2
            go_upto_region 36 with (fail)
            go_cut [144] (fun v wx => v = .bool false ∧ Both wx g m w.heap.size S2 (k + 2) ∧ Below w.heap.size w wx)
            case first =>
              have hd7 : Below w7.heap.size w7 w7.drew := (Below.refl _ _).drew
              have hSd := hS3.below hd7 (Nat.le_refl _)
              have HL := hide (logbytes_any g _ S2 w7.drew hSd.l)
              obtain ⟨_, _, vC, rs2, A2, n2, c2, hi, hmap⟩ := hSd.r
              have m1 : w7.cell? ⟨m, 1, none⟩ = some (.slice A2 n2 c2) := hi.cells.2.1
              have m3 : w7.cell? ⟨m, 3, none⟩ = some (.int .i64 (S2.safe : Int)) := hi.cells.2.2.2.1
              have hml : m < w7.drew.heap.size := hi.blk.lt
              have hbr := hi.reads
              have q0 := conv_bytes (c := c2) hbr
              have ei : ((S2.safe : Int) != (S2.safe : Int)) = false := by simp
              have HX : Hid (∀ v1 x1, x1.ownsRow w7.drew.heap.size 5 1 v1 S2.bs.length (S2.bs.map (Value.int .u8)) → Below w7.drew.heap.size w7.drew x1 → ∃ A1 n1 c1, v1 = .slice A1 n1 c1 ∧ x1.cell? ⟨m, 1, none⟩ = some (.slice A2 n2 c2) ∧ x1.cell? ⟨m, 3, none⟩ = some (.int .i64 (S2.safe : Int)) ∧
                  (convert 22 9 (.slice A1 n1 c1)).run Tryd.prog x1 = .ok (.string (strOfNums S2.bs)) x1 ∧ (convert 22 9 (.slice A2 n2 c2)).run Tryd.prog x1 = .ok (.string (strOfNums S2.bs)) x1 ∧
                  Both x1 g m w.heap.size S2 (k + 2) ∧ Below w.heap.size w x1 ∧ Hid (Calls Tryd.prog 28 #[.pointer (some ⟨g, 0, none⟩)] x1 fun e w' => e = .returned (.int .i64 (S2.safe : Int)) ∧ x1 = w')) := hide (fun v1 x1 h1 h2 => by
                obtain ⟨A1, c1, rfl, hr1, _, _⟩ := own_slice2 h1
                have hb7 := hd7.trans (h2.mono hd7.size)
                have hS7 := hS3.below hb7 (Nat.le_refl _)
                exact ⟨A1, _, c1, rfl, (h2.cell (p := ⟨m, 1, none⟩) hml).trans m1, (h2.cell (p := ⟨m, 3, none⟩) hml).trans m3, conv_bytes hr1, conv_bytes (Reads.below hbr h2), hS7, hB3.trans (hb7.mono hB3.size), hide (logsafe_any g _ S2 x1 hS7.l)⟩)
              clear hi hmap hSd hS3 hB3 hd7 hbr
              refine wp_region_held_drew (S := (fun w' => w'.cell? ⟨m, 1, none⟩ = some (.slice A2 n2 c2) ∧ w'.cell? ⟨m, 3, none⟩ = some (.int .i64 (S2.safe : Int)) ∧ (convert 22 9 (.slice A2 n2 c2)).run Tryd.prog w' = .ok (.string (strOfNums S2.bs)) w')) (by kernel_rfl) ⟨m1, m3, q0⟩ (fun hHeld => ?_)
              refine wpAnyH_take (i := 0) (oi := ⟨some 119, _, _, _, _, _⟩) (v := .bool true) rfl (by kernel_rfl) (by kernel_rfl) (by kernel_rfl) (fun _ _ _ h => h) (Or.inl ⟨by rfl, fun w hSw => ?_⟩) (by assumption) ?_
              · dsimp only at hSw
                go_simp
              try simp only [Act.put, List.setIfInBounds_toArray, List.set_cons_zero, List.set_cons_succ]
              refine wpAnyH_take (i := 1) (oi := ⟨some 120, _, _, _, _, _⟩) (v := .bool false) rfl (by kernel_rfl) (by kernel_rfl) (by kernel_rfl) (fun _ _ _ h => h) (Or.inl ⟨by rfl, fun w hSw => ?_⟩) (by assumption) ?_
              · dsimp only at hSw
                go_simp
              try simp only [Act.put, List.setIfInBounds_toArray, List.set_cons_zero, List.set_cons_succ]
              refine wpAnyH_take (i := 2) (oi := ⟨some 121, _, _, _, _, _⟩) (v := .bool false) rfl (by kernel_rfl) (by kernel_rfl) (by kernel_rfl) (fun _ _ _ h => h) (Or.inl ⟨by rfl, fun w hSw => ?_⟩) (by assumption) ?_
              · dsimp only at hSw
                go_simp
              try simp only [Act.put, List.setIfInBounds_toArray, List.set_cons_zero, List.set_cons_succ]
              refine wpAnyH_take (i := 3) (oi := ⟨some 122, _, _, _, _, _⟩) (v := .bool true) rfl (by kernel_rfl) (by kernel_rfl) (by kernel_rfl) (fun _ _ _ h => h) (Or.inl ⟨by rfl, fun w hSw => ?_⟩) (by assumption) ?_
              · dsimp only at hSw
                go_simp
              try simp only [Act.put, List.setIfInBounds_toArray, List.set_cons_zero, List.set_cons_succ]
              refine wpAnyH_take (i := 4) (oi := ⟨some 123, _, _, _, _, _⟩) (v := .bool false) rfl (by kernel_rfl) (by kernel_rfl) (by kernel_rfl) (fun _ _ _ h => h) (Or.inl ⟨by rfl, fun w hSw => ?_⟩) (by assumption) ?_
              · dsimp only at hSw
                go_simp
              try simp only [Act.put, List.setIfInBounds_toArray, List.set_cons_zero, List.set_cons_succ]
              refine wpAnyH_take (i := 5) (oi := ⟨some 124, _, _, _, _, _⟩) (v := .bool false) rfl (by kernel_rfl) (by kernel_rfl) (by kernel_rfl) (fun _ _ _ h => h) (Or.inl ⟨by rfl, fun w hSw => ?_⟩) (by assumption) ?_
              · dsimp only at hSw
                go_simp
              try simp only [Act.put, List.setIfInBounds_toArray, List.set_cons_zero, List.set_cons_succ]
              refine wpAnyH_take (i := 6) (oi := ⟨some 125, _, _, _, _, _⟩) (v := .bool false) rfl (by kernel_rfl) (by kernel_rfl) (by kernel_rfl) (fun _ _ _ h => h) (Or.inl ⟨by rfl, fun w hSw => ?_⟩) (by assumption) ?_
              · dsimp only at hSw
                go_simp
              try simp only [Act.put, List.setIfInBounds_toArray, List.set_cons_zero, List.set_cons_succ]
              refine wpAnyH_take (i := 7) (oi := ⟨some 126, _, _, _, _, _⟩) (v := .pointer (some ⟨g, 0, none⟩)) rfl (by kernel_rfl) (by kernel_rfl) (by kernel_rfl) (fun _ _ _ h => h) (Or.inl ⟨by rfl, fun w hSw => ?_⟩) (by assumption) ?_
              · dsimp only at hSw
                go_simp
              try simp only [Act.put, List.setIfInBounds_toArray, List.set_cons_zero, List.set_cons_succ]
              refine wpAnyH_take (i := 10) (oi := ⟨some 129, _, _, _, _, _⟩) (v := .pointer (some ⟨m, 0, none⟩)) rfl (by kernel_rfl) (by kernel_rfl) (by kernel_rfl) (fun _ _ _ h => h) (Or.inl ⟨by rfl, fun w hSw => ?_⟩) (by assumption) ?_
              · dsimp only at hSw
                go_simp
              try simp only [Act.put, List.setIfInBounds_toArray, List.set_cons_zero, List.set_cons_succ]
              refine wpAnyH_take (i := 11) (oi := ⟨some 130, _, _, _, _, _⟩) (v := .pointer (some ⟨m, 0, none⟩)) rfl (by kernel_rfl) (by kernel_rfl) (by kernel_rfl) (fun _ _ _ h => h) (Or.inl ⟨by rfl, fun w hSw => ?_⟩) (by assumption) ?_
              · dsimp only at hSw
                go_simp
              try simp only [Act.put, List.setIfInBounds_toArray, List.set_cons_zero, List.set_cons_succ]
              refine wpAnyH_take (i := 12) (oi := ⟨some 131, _, _, _, _, _⟩) (v := .pointer (some ⟨m, 1, none⟩)) rfl (by kernel_rfl) (by kernel_rfl) (by kernel_rfl) (fun _ _ _ h => h) (Or.inl ⟨by rfl, fun w hSw => ?_⟩) (by assumption) ?_
              · dsimp only at hSw
                go_simp
              try simp only [Act.put, List.setIfInBounds_toArray, List.set_cons_zero, List.set_cons_succ]
              refine wpAnyH_take (i := 13) (oi := ⟨some 132, _, _, _, _, _⟩) (v := .slice A2 n2 c2) rfl (by kernel_rfl) (by kernel_rfl) (by kernel_rfl) (fun _ _ _ h => h) (Or.inl ⟨by rfl, fun w hSw => ?_⟩) (by assumption) ?_
              · dsimp only at hSw
                go_simp
              try simp only [Act.put, List.setIfInBounds_toArray, List.set_cons_zero, List.set_cons_succ]
              refine wpAnyH_take (i := 14) (oi := ⟨some 133, _, _, _, _, _⟩) (v := .string (strOfNums S2.bs)) rfl (by kernel_rfl) (by kernel_rfl) (by kernel_rfl) (fun _ _ _ h => h) (Or.inl ⟨by rfl, fun w hSw => ?_⟩) (by assumption) ?_
              · dsimp only at hSw
                go_simp
              try simp only [Act.put, List.setIfInBounds_toArray, List.set_cons_zero, List.set_cons_succ]
              refine wpAnyH_ready (rs := [8]) (by kernel_rfl) (by simp) ?_
              refine AllReadyH.cons rfl (fun K hK => ?_) AllReadyH.nil
              rw [if_pos (by rfl)]
              go_simp
              go_at_call 26
              refine (unhide HL).mono ?_
              rintro e x1 ⟨v1, rfl, ho1, hb1⟩
              obtain ⟨A1, n1, c1, rfl, p1, p3, q1, q2, hS4, hB4, HS⟩ := unhide HX v1 x1 ho1 hb1
              clear ho1 hb1 hHeld
              refine hK.out _ _ ⟨p1, p3, q2⟩ (fun hHeld => ?_)
              clear hK K
              try simp only [Act.put, List.setIfInBounds_toArray, List.set_cons_zero, List.set_cons_succ]
              refine wpAnyH_ready (rs := [9]) (by kernel_rfl) (by simp) ?_
              refine AllReadyH.cons rfl (fun K hK => ?_) AllReadyH.nil
              go_simp
              refine hK.out _ _ ⟨p1, p3, q2⟩ (fun hHeld2 => ?_)
              clear hK K hHeld2
              try simp only [Act.put, List.setIfInBounds_toArray, List.set_cons_zero, List.set_cons_succ]
              refine wpAnyH_take (i := 15) (oi := ⟨some 134, _, _, _, _, _⟩) (v := .bool false) rfl (by kernel_rfl) (by kernel_rfl) (by kernel_rfl) (fun _ _ _ h => h) (Or.inl ⟨by rfl, fun w hSw => ?_⟩) (by assumption) ?_
              · dsimp only at hSw
                go_simp
              try simp only [Act.put, List.setIfInBounds_toArray, List.set_cons_zero, List.set_cons_succ]
              refine wpAnyH_take (i := 16) (oi := ⟨some 135, _, _, _, _, _⟩) (v := .bool false) rfl (by kernel_rfl) (by kernel_rfl) (by kernel_rfl) (fun _ _ _ h => h) (Or.inl ⟨by rfl, fun w hSw => ?_⟩) (by assumption) ?_
              · dsimp only at hSw
                go_simp
              try simp only [Act.put, List.setIfInBounds_toArray, List.set_cons_zero, List.set_cons_succ]
              refine wpAnyH_take (i := 17) (oi := ⟨some 136, _, _, _, _, _⟩) (v := .bool false) rfl (by kernel_rfl) (by kernel_rfl) (by kernel_rfl) (fun _ _ _ h => h) (Or.inl ⟨by rfl, fun w hSw => ?_⟩) (by assumption) ?_
              · dsimp only at hSw
                go_simp
              try simp only [Act.put, List.setIfInBounds_toArray, List.set_cons_zero, List.set_cons_succ]
              refine wpAnyH_take (i := 18) (oi := ⟨some 137, _, _, _, _, _⟩) (v := .pointer (some ⟨g, 0, none⟩)) rfl (by kernel_rfl) (by kernel_rfl) (by kernel_rfl) (fun _ _ _ h => h) (Or.inl ⟨by rfl, fun w hSw => ?_⟩) (by assumption) ?_
              · dsimp only at hSw
                go_simp
              try simp only [Act.put, List.setIfInBounds_toArray, List.set_cons_zero, List.set_cons_succ]
              refine wpAnyH_take (i := 20) (oi := ⟨some 139, _, _, _, _, _⟩) (v := .pointer (some ⟨m, 0, none⟩)) rfl (by kernel_rfl) (by kernel_rfl) (by kernel_rfl) (fun _ _ _ h => h) (Or.inl ⟨by rfl, fun w hSw => ?_⟩) (by assumption) ?_
              · dsimp only at hSw
                go_simp
              try simp only [Act.put, List.setIfInBounds_toArray, List.set_cons_zero, List.set_cons_succ]
              refine wpAnyH_take (i := 21) (oi := ⟨some 140, _, _, _, _, _⟩) (v := .pointer (some ⟨m, 0, none⟩)) rfl (by kernel_rfl) (by kernel_rfl) (by kernel_rfl) (fun _ _ _ h => h) (Or.inl ⟨by rfl, fun w hSw => ?_⟩) (by assumption) ?_
              · dsimp only at hSw
                go_simp
              try simp only [Act.put, List.setIfInBounds_toArray, List.set_cons_zero, List.set_cons_succ]
              refine wpAnyH_take (i := 22) (oi := ⟨some 141, _, _, _, _, _⟩) (v := .pointer (some ⟨m, 3, none⟩)) rfl (by kernel_rfl) (by kernel_rfl) (by kernel_rfl) (fun _ _ _ h => h) (Or.inl ⟨by rfl, fun w hSw => ?_⟩) (by assumption) ?_
              · dsimp only at hSw
                go_simp
              try simp only [Act.put, List.setIfInBounds_toArray, List.set_cons_zero, List.set_cons_succ]
              refine wpAnyH_take (i := 23) (oi := ⟨some 142, _, _, _, _, _⟩) (v := .int .i64 (S2.safe : Int)) rfl (by kernel_rfl) (by kernel_rfl) (by kernel_rfl) (fun _ _ _ h => h) (Or.inl ⟨by rfl, fun w hSw => ?_⟩) (by assumption) ?_
              · dsimp only at hSw
                go_simp
              try simp only [Act.put, List.setIfInBounds_toArray, List.set_cons_zero, List.set_cons_succ]
              refine wpAnyH_ready (rs := [19]) (by kernel_rfl) (by simp) ?_
              refine AllReadyH.cons rfl (fun K hK => ?_) AllReadyH.nil
              rw [if_pos (by rfl)]
              go_simp
              go_at_call 28
              refine (unhide HS).mono ?_
              rintro e x2 ⟨rfl, rfl⟩
              refine hK.out _ _ ⟨p1, p3, q2⟩ (fun hHeld2 => ?_)
              clear hK K hHeld2
              try simp only [Act.put, List.setIfInBounds_toArray, List.set_cons_zero, List.set_cons_succ]
              refine wpAnyH_take (i := 24) (oi := ⟨some 143, _, _, _, _, _⟩) (v := .bool false) rfl (by kernel_rfl) (by kernel_rfl) (by kernel_rfl) (fun _ _ _ h => h) (Or.inl ⟨by rfl, fun w hSw => ?_⟩) (by assumption) ?_
              · dsimp only at hSw
                go_simp
              try simp only [Act.put, List.setIfInBounds_toArray, List.set_cons_zero, List.set_cons_succ]
              refine wpAnyH_take (i := 25) (oi := ⟨some 144, _, _, _, _, _⟩) (v := .bool false) rfl (by kernel_rfl) (by kernel_rfl) (by kernel_rfl) (fun _ _ _ h => h) (Or.inl ⟨by rfl, fun w hSw => ?_⟩) (by assumption) ?_
              · dsimp only at hSw
                go_simp
              try simp only [Act.put, List.setIfInBounds_toArray, List.set_cons_zero, List.set_cons_succ]
              refine wpAnyH_done (by kernel_rfl) ?_ _
              go_wp2_with fail
              go_meet
              exact ⟨rfl, hS4, hB4⟩
            case rest =>
            obtain ⟨rfl, hS4, hB4⟩ := hcut
            go_wp2_with fail
            go_roundw
            case rel => exact ⟨k + 1, S2, by omega, by go_num, hS4, hB4⟩
            case measure => simp [intOf]; omega
    · by_cases h1 : k < ns
      · have d1 : decide ((k : Int) < 40) = false := by simp; omega
        go_wp2_with fail
        go_ret
        exact ⟨rfl, hbel⟩
      · go_wp2_with fail
        go_ret
        exact ⟨rfl, hbel⟩
end Go.Proofs.YtijgiieoinmjhaaDoor
