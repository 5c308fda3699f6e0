/- The reference's log: Append. Conditions: as each lemma names. -/
import Derived.Test.YtijgiieoinmjhaaDoorRLog2
import Derived.Deep.DeepCutAuto
import Derived.Deep.RegionLaw
namespace Go.Proofs.YtijgiieoinmjhaaDoor
set_option linter.unusedVariables false
set_option linter.unusedSimpArgs false
open Go.RowKit

/-- a call is put behind the calls -/
theorem RlIs.putC {w w6 : World} {m B0 n c wh sf : Nat} {vC v6 : Value} {rs : List Cv} {A : Option Addr} {bs : List Int} {lf : Int} {st : Bool} {o : Obj} {r : Cv} (h : RlIs w m B0 vC rs A n c bs wh sf lf st) (o6 : w6.ownsRow B0 53 7 v6 (rs.length + 1) (rs.flatMap Cv.cells ++ r.cells)) (g6 : (w.alloc o).drew.grownBy w6 vC.ownBlock) (hr : CvArg w B0 r) :
    RlIs (w6.setCell ⟨m, 0, none⟩ v6) m B0 v6 (rs ++ [r]) A n c bs wh sf lf st ∧ ChgR m B0 w (w6.setCell ⟨m, 0, none⟩ v6) ∧ Blk w6 m 66 #[vC, .slice A n c, .int .i64 (wh : Int), .int .i64 (sf : Int), .int .i64 lf, .bool st] := by
  have hml := h.blk.lt
  have hne := own_blk_ne h.calls h.blk (by decide)
  have hb6 : Blk w6 m 66 #[vC, .slice A n c, .int .i64 (wh : Int), .int .i64 (sf : Int), .int .i64 lf, .bool st] := (Blk.drew (h.blk.alloc o)).grown g6 (fun e => hne e.symm)
  have hs6 := g6.size
  rw [show (w.alloc o).drew.heap.size = w.heap.size + 1 from World.size_alloc w o] at hs6
  have hk : ∀ b, b < w.heap.size → some b ≠ vC.ownBlock → w6.heap[b]? = w.heap[b]? := fun b hb hn => (g6.block b (by show b < (w.alloc o).heap.size; rw [World.size_alloc]; omega) hn).trans (Below.heap_alloc w o b hb)
  have hbel : Below B0 w w6 := ⟨g6.os, g6.tape, g6.output, by omega, fun b hb => hk b (by have := h.hB; omega) (fun e => by have := own_block_ge h.calls b e.symm; omega)⟩
  have hAo := h.typ.ne_own h.calls (by decide)
  have hA := h.typ.ne h.blk (by decide)
  have ht6 : BTyp w6 A := h.typ.keep fun a e => hk _ (h.typ.lt a e) (fun e2 => hAo a e e2.symm)
  have hr6 : BReads w6 w6.heap.size A n bs := ⟨h.reads.1, fun hn => by
    obtain ⟨ad, e, hb, hc⟩ := h.reads.2 hn
    exact ⟨ad, e, by omega, fun j u hu => (World.cell?_of_block (by rw [block_of_add]; exact hk _ hb (fun e2 => hAo ad e e2.symm))).trans (hc j u hu)⟩⟩
  have hc := (Chg.refl m w6).set_ 0 v6
  have hz : (w6.setCell ⟨m, 0, none⟩ v6).heap.size = w6.heap.size := by simp [World.setCell]
  have hbel2 : Below B0 w (w6.setCell ⟨m, 0, none⟩ v6) := hbel.setCell (p := ⟨m, 0, none⟩) h.hB v6
  refine ⟨⟨?_, ⟨?_, ?_⟩, fun x hx => ?_, ?_, h.cap, h.nil, ht6.chg hc hA, h.hB⟩, ⟨hbel2.os, hbel2.tape, hbel2.output, hbel2.size, fun b hb hbm hbc => ?_⟩, hb6⟩
  · have := hb6.set_ 0 v6
    simpa [List.setIfInBounds_toArray] using this
  · have := o6.1
    rw [List.length_append, List.flatMap_append]
    simpa using this
  · rcases o6.2 with hn | ⟨k, cap, cur, hv, hk2, hh, rest⟩
    · exact absurd hn.2 (by omega)
    · refine .inr ⟨k, cap, cur, by simpa using hv, hk2, ?_, by simpa using rest⟩
      refine (hc.block k (Array.getElem?_eq_some_iff.1 hh).1 (fun e => ?_)).trans hh
      subst e
      exact not_call hb6 (by decide) _ _ hh
  · rcases List.mem_append.1 hx with h1 | h1
    · exact (h.cv x h1).below hbel2
    · rw [List.mem_singleton.1 h1]; exact hr.below hbel2
  · rw [hz]; exact hc.reads hr6 (Nat.le_refl _) hA
  · refine (hc.block b (by omega) hbm).trans (hk b hb (fun e => ?_))
    rcases hbc with h1 | h1
    · have := own_block_ge h.calls b e.symm; omega
    · rcases h.calls.2 with ⟨hv, _⟩ | ⟨k, cap, cur, hv, _, hh, _⟩
      · rw [hv] at e; simp [Value.ownBlock] at e
      · rw [hv] at e
        simp [Value.ownBlock] at e
        subst e
        exact h1 _ _ hh

set_option maxRecDepth 100000 in
set_option maxHeartbeats 8000000 in
theorem rappend_any (m B0 : Nat) (S : LS) (r : Cv) (w : World) (h : RlS w m B0 S) (hr : CvArg w B0 r) :
    Calls Tryd.prog 30 #[.pointer (some ⟨m, 0, none⟩), r.val] w fun e w' => e = .returned (.int .i64 (S.appE r.c)) ∧ RlS w' m B0 (S.app r.c) ∧ ChgR m B0 w w' := by
  obtain ⟨W, hW⟩ : ∃ W, W = w.alloc (.cells #[.int .i64 r.c.what, .int .i64 r.c.ses, .int .i64 r.c.seq, .string r.c.name, .int .i64 r.c.num, .int .i64 r.c.share, .slice r.A r.n r.cap] 53) := ⟨_, rfl⟩
  have hb1 : Blk W w.heap.size 53 #[.int .i64 r.c.what, .int .i64 r.c.ses, .int .i64 r.c.seq, .string r.c.name, .int .i64 r.c.num, .int .i64 r.c.share, .slice r.A r.n r.cap] := by rw [hW]; exact Blk.new _ _ _
  have hbW : Below w.heap.size w W := by rw [hW]; exact (Below.refl _ _).alloc (Nat.le_refl _) _
  have hm0 : B0 ≤ m ∧ m < w.heap.size := by obtain ⟨_, _, _, _, _, _, _, hi, _⟩ := h; exact ⟨hi.hB, hi.blk.lt⟩
  have hrW : CvArg W B0 r := hr.below (hbW.mono (by omega))
  have hok := h.1
  have hS := h.below hbW (Nat.le_refl _)
  have hok2 := hok.app_ r.c hr.by_
  have hbl := hr.ok.blen
  have hcR : ChgR m B0 w W := ChgR.of_below hbW
  obtain ⟨c, A0, n0, cap0⟩ := r
  have hn1 := hr.name
  have hn2 := hr.many
  have hby := hr.by_
  dsimp only at hb1 hn1 hn2 hok2 hbl hW hby
  obtain ⟨_, hl, vC, rs, A, n, cp, hi, hmap⟩ := hS
  have HOK := hide hok; have HOK2 := hide hok2; have HBL := hide hbl; have HBY := hide hby; have HRW := hide hrW
  have hWs := hbW.size
  have HR0 := hide hr
  clear h hr hrW hok hok2 hbl hby hbW
  simp only [Cv.val]
  go_enter Tryd.func30, Tryd.ntmps30
  go_upto_region 1 with (fail)
  rw [← hW]
  clear hW
  obtain ⟨c0, c1, c2, c3, c4, c5, c6⟩ := hb1.cells7
  obtain ⟨e0, e1, e2, e3, e4, e5⟩ := hi.cells
  go_wp2_with fail
  refine (rtime_any c.ses _).mono ?_
  rintro e wt ⟨rfl, rfl⟩
  obtain ⟨b0, hb0⟩ : ∃ b0, b0 = timeB c.ses := ⟨_, rfl⟩
  rw [← hb0]
  have HB0 := hide hb0
  clear hb0
  go_wp2_with fail
  refine (rtime_any c.seq _).mono ?_
  rintro e wt ⟨rfl, rfl⟩
  obtain ⟨b1, hb1'⟩ : ∃ b1, b1 = timeB c.seq := ⟨_, rfl⟩
  rw [← hb1']
  have HB1 := hide hb1'
  clear hb1'
  go_wp2_with fail
  refine (rtime_any c.num _).mono ?_
  rintro e wt ⟨rfl, rfl⟩
  obtain ⟨b2, hb2⟩ : ∃ b2, b2 = timeB c.num := ⟨_, rfl⟩
  rw [← hb2]
  have HB2 := hide hb2
  clear hb2
  go_wp2_with fail
  refine (rtime_any c.share _).mono ?_
  rintro e wt ⟨rfl, rfl⟩
  obtain ⟨b3, hb3⟩ : ∃ b3, b3 = timeB c.share := ⟨_, rfl⟩
  rw [← hb3]
  have HB3 := hide hb3
  clear hb3
  go_upto_region 5 with (fail)
  go_cut [48] (fun v wx => v = .bool (!decide (valC c)) ∧ wx = W)
  case first =>
    --{
    by_cases a1 : c.what < 1
    · have hv : Hid (¬ valC c) := hide (fun h => by have := h.1.1; omega)
      have d1 : decide (c.what < 1) = true := by simpa using a1
      go_wp2_with fail
      go_meet
      exact ⟨by simp [unhide hv], rfl⟩
    have d1 : decide (c.what < 1) = false := by simpa using a1
    by_cases a2 : 4 < c.what
    · have hv : Hid (¬ valC c) := hide (fun h => by have := h.1.2; omega)
      have d2 : decide (4 < c.what) = true := by simpa using a2
      go_wp2_with fail
      go_meet
      exact ⟨by simp [unhide hv], rfl⟩
    have d2 : decide (4 < c.what) = false := by simpa using a2
    cases b0 with
    | false =>
      have hv : Hid (¬ valC c) := hide (fun h => by have := timeB_t.2 h.2.1; rw [← unhide HB0] at this; cases this)
      go_wp2_with fail
      go_meet
      exact ⟨by simp [unhide hv], rfl⟩
    | true =>
    cases b1 with
    | false =>
      have hv : Hid (¬ valC c) := hide (fun h => by have := timeB_t.2 h.2.2.1; rw [← unhide HB1] at this; cases this)
      go_wp2_with fail
      go_meet
      exact ⟨by simp [unhide hv], rfl⟩
    | true =>
    cases b2 with
    | false =>
      have hv : Hid (¬ valC c) := hide (fun h => by have := timeB_t.2 h.2.2.2.1; rw [← unhide HB2] at this; cases this)
      go_wp2_with fail
      go_meet
      exact ⟨by simp [unhide hv], rfl⟩
    | true =>
    cases b3 with
    | false =>
      have hv : Hid (¬ valC c) := hide (fun h => by have := timeB_t.2 h.2.2.2.2; rw [← unhide HB3] at this; cases this)
      go_wp2_with fail
      go_meet
      exact ⟨by simp [unhide hv], rfl⟩
    | true =>
      have hv : Hid (valC c) := hide ⟨⟨by omega, by omega⟩, timeB_t.1 (unhide HB0).symm, timeB_t.1 (unhide HB1).symm, timeB_t.1 (unhide HB2).symm, timeB_t.1 (unhide HB3).symm⟩
      go_wp2_with fail
      go_meet
      exact ⟨by simp [unhide hv], rfl⟩
    --}
  case rest =>
    obtain ⟨rfl, rfl⟩ := hcut
    clear HB0 HB1 HB2 HB3
    by_cases hv : valC c
    case neg =>
      --{
      have HE : Hid (S.appE c = 1) := hide (by unfold LS.appE; rw [if_neg hv])
      have HS : Hid (S.app c = S) := hide (by unfold LS.app; rw [if_neg (fun h => hv h.1)])
      have hvB : (!decide (valC c)) = true := by simp [hv]
      rw [hvB]
      go_wp2_with fail
      go_ret
      exact ⟨by rw [unhide HE]; rfl, by rw [unhide HS]; exact ⟨unhide HOK, hl, vC, rs, A, n, cp, hi, hmap⟩, hcR⟩
      --}
    have hvB : (!decide (valC c)) = false := by simp [hv]
    rw [hvB]
    clear hvB
    have HV := hide hv
    clear hv
    have hrW := unhide HRW
    have sr := hide (rrec_any ⟨c, A0, n0, cap0⟩ wc (hrW.ok.more (by omega)) hrW.num hn1 hn2)
    clear hrW
    go_wp2_with fail
    refine (unhide sr).mono ?_
    clear sr
    rintro e w2 ⟨v1, rfl, hown1, hb2⟩
    obtain ⟨vA, vc, hv1, hrv2, _, hvcc, hvn, hvb⟩ := own_slice2 hown1
    subst hv1
    have hvt : BTyp w2 vA := BTyp.of_own hown1
    have hi2 := hi.below hb2 (Nat.le_refl _)
    have hb2w := hb1.below hb2 hb1.lt
    have hcR2 := hcR.trans (ChgR.of_below hb2)
    have hz2 := hb2.size
    obtain ⟨a, ha⟩ : ∃ a, a = (recs S.cs).length := ⟨_, rfl⟩
    have hnl := BReads.len hi2.reads
    have han : a ≤ n := by
      rw [← hnl, ha]
      unfold LS.bs
      rw [List.length_append]
      omega
    have ha1 : a ≤ 100000 := by rw [ha]; exact (unhide HOK).len
    obtain ⟨L, hL⟩ : ∃ L, L = (recB c).length := ⟨_, rfl⟩
    rw [← ha] at hi2
    rw [← hL]
    rw [← hL] at hrv2 hvcc
    have HA := hide ha; have HL := hide hL; have HMAP := hide hmap
    have htk : S.bs.take a = recs S.cs := by rw [ha]; unfold LS.bs; simp
    clear hi hb2 ha hL hown1 c0 c1 c2 c3 c4 c5 c6 e0 e1 e2 e3 e4 e5 hb1 hcR hmap hnl
    obtain ⟨c0, c1, c2, c3, c4, c5, c6⟩ := hb2w.cells7
    obtain ⟨e0, e1, e2, e3, e4, e5⟩ := hi2.cells
    have hL9 : L ≤ 10000000 := by
      rw [unhide HL]; unfold recB bodyB
      simp only [List.length_append, nmL_len]
      have h1 := (enc_len (((encs c.nums).length + c.name.size + c.bytes.length : Nat) : Int)).2
      have h2 := encs_len c.nums
      have h3 : c.nums.length = 6 := rfl
      have := unhide HBL
      omega
    go_upto_region 8 with (fail)
    go_cut [70] (fun v wx => v = .bool (decide (fullC S.cs c)) ∧ wx = w2)
    case first =>
      --{
      by_cases b1 : 100 < c.name.size
      · have hf : Hid (fullC S.cs c) := hide (.inl b1)
        go_wp2_with fail
        go_meet
        exact ⟨by simp [unhide hf], rfl⟩
      by_cases b2 : 6000 < n0
      · have hf : Hid (fullC S.cs c) := hide (.inr (.inl (by rw [unhide HBL]; exact b2)))
        go_wp2_with fail
        go_meet
        exact ⟨by simp [unhide hf], rfl⟩
      by_cases b3 : 100000 < a + L
      · have hf : Hid (fullC S.cs c) := hide (.inr (.inr (by rw [← unhide HA, ← unhide HL]; exact b3)))
        have d3 : decide (100000 < (a : Int) + (L : Int)) = true := by simp; omega
        go_wp2_with fail
        go_meet
        exact ⟨by simp [unhide hf], rfl⟩
      · have hf : Hid (¬ fullC S.cs c) := hide (fun h => by
          unfold fullC at h
          rw [← unhide HA, ← unhide HL, unhide HBL] at h
          omega)
        have d3 : decide (100000 < (a : Int) + (L : Int)) = false := by simp; omega
        go_wp2_with fail
        go_meet
        exact ⟨by simp [unhide hf] <;> omega, rfl⟩
      --}
    case rest =>
      obtain ⟨rfl, rfl⟩ := hcut
      by_cases hf : fullC S.cs c
      case pos =>
        --{
        have HE : Hid (S.appE c = 4) := hide (by unfold LS.appE; rw [if_pos (unhide HV), if_pos hf])
        have HS : Hid (S.app c = S) := hide (by unfold LS.app; rw [if_neg (fun h => h.2.1 hf)])
        have hfB : decide (fullC S.cs c) = true := by simp [hf]
        rw [hfB]
        go_wp2_with fail
        go_ret
        exact ⟨by rw [unhide HE]; rfl, by rw [unhide HS]; exact ⟨unhide HOK, hl, vC, rs, A, n, cp, by rw [← unhide HA]; exact hi2, unhide HMAP⟩, hcR2⟩
        --}
      have hfB : decide (fullC S.cs c) = false := by simp [hf]
      rw [hfB]
      clear hfB
      have HF := hide hf
      clear hf
      cases hst : S.st with
      | true =>
        --{
        have HE : Hid (S.appE c = 9) := hide (by unfold LS.appE; rw [if_pos (unhide HV), if_neg (unhide HF), if_pos hst])
        have HS : Hid (S.app c = S) := hide (by unfold LS.app; rw [if_neg (fun h => by rw [hst] at h; exact absurd h.2.2 (by decide))])
        rw [hst] at e5
        go_wp2_with fail
        go_ret
        exact ⟨by rw [unhide HE]; rfl, by rw [unhide HS]; exact ⟨unhide HOK, hl, vC, rs, A, n, cp, by rw [← unhide HA]; exact hi2, unhide HMAP⟩, hcR2⟩
        --}
      | false =>
        rw [hst] at e5 hi2
        have HST := hide hst
        clear hst
        obtain ⟨w3, hw3⟩ : ∃ w3, w3 = wc := ⟨_, rfl⟩
        subst hw3
        have hi3 := hi2.cutB han
        rw [htk] at hi3
        have hc3 := (Chg.refl m w3).set_ 1 (.slice A a cp)
        have f1 := hi2.blk.frozen 1
        have hacp : a ≤ cp := Nat.le_trans han hi2.cap
        have hrv3 : BReads (w3.setCell ⟨m, 1, none⟩ (.slice A a cp)) w3.heap.size vA L (recB c) := hc3.reads hrv2 (Nat.le_refl _) (hvt.ne hi2.blk (by decide))
        have hvt3 := hvt.chg hc3 (hvt.ne hi2.blk (by decide))
        have hb3w := hb2w.chg hc3 (by omega)
        have hcR3 := hcR2.set_ 1 (.slice A a cp)
        have hz3 : (w3.setCell ⟨m, 1, none⟩ (.slice A a cp)).heap.size = w3.heap.size := by simp [World.setCell]
        go_upto_region 12 with (fail)
        go_region
        all_goals
          obtain ⟨X, hX⟩ : ∃ X, X = w3.setCell ⟨m, 1, none⟩ (.slice A a cp) := ⟨_, rfl⟩
          rw [← hX] at hi3 hrv3 hvt3 hb3w hcR3 hz3 ⊢
          have hi4 : RlIs X.drew m B0 vC rs A a cp (recs S.cs) a S.safe (max (-1) S.left) false := hi3.below ((Below.refl X.heap.size X).drew) (Nat.le_refl _)
          have hrv4 : BReads X.drew X.heap.size vA L (recB c) := by rw [hz3]; exact hrv3
          have hvt4 : BTyp X.drew vA := hvt3
          have hb4w : Blk X.drew w.heap.size 53 #[.int .i64 c.what, .int .i64 c.ses, .int .i64 c.seq, .string c.name, .int .i64 c.num, .int .i64 c.share, .slice A0 n0 cap0] := hb3w
          have hcR4 := hcR3.drew
          have hz4 : X.drew.heap.size = X.heap.size := rfl
          clear hX hi3 hrv3 hvt3 hb3w hcR3 hi2 hc3 hrv2 hvt hb2w hcR2 f1 c0 c1 c2 c3 c4 c5 c6 e0 e1 e2 e3 e4 e5
          rw [← hz4] at hrv4
          generalize X.drew = w4 at *
          obtain ⟨e0, e1, e2, e3, e4, e5⟩ := hi4.cells
          go_upto_region 13 with (fail)
          go_cut [95] (fun v wx => v = .bool (decide (a < S.safe)) ∧ ∃ k, wx = w4.drewN k)
          case first =>
            go_wp2_with fail
            go_quiet (fail)
            go_wp2_with fail
            go_meet
            exact ⟨by simp, _, rfl⟩
          case rest =>
            obtain ⟨rfl, k4, rfl⟩ := hcut
            have hi5 := hi4.below (below_drewN (Below.refl w4.heap.size w4) k4) (Nat.le_refl _)
            have hrv5 := Reads.drewN hrv4 k4
            have hvt5 : BTyp (w4.drewN k4) vA := hvt4
            have hb5w : Blk (w4.drewN k4) w.heap.size 53 #[.int .i64 c.what, .int .i64 c.ses, .int .i64 c.seq, .string c.name, .int .i64 c.num, .int .i64 c.share, .slice A0 n0 cap0] := hb4w
            have hcR5 := hcR4.trans (ChgR.of_chg ((Chg.refl m w4).drewN k4))
            have hz5 : (w4.drewN k4).heap.size = w4.heap.size := rfl
            rw [← hz5] at hrv5
            clear hi4 hrv4 hvt4 hb4w hcR4 e0 e1 e2 e3 e4 e5
            generalize w4.drewN k4 = w5 at *
            obtain ⟨e0, e1, e2, e3, e4, e5⟩ := hi5.cells
            have f3 := hi5.blk.frozen 3
            go_upto_if 95 with (fail)
            go_cut [94] (fun _ wx => RlIs wx m B0 vC rs A a cp (recs S.cs) a (min S.safe a) (max (-1) S.left) false ∧ Chg m w5 wx)
            case first =>
              by_cases hsa : a < S.safe
              · have d0 : decide (a < S.safe) = true := by simpa using hsa
                have hi6 := hi5.set3 a
                have hc6 := (Chg.refl m w5).set_ 3 (.int .i64 (a : Int))
                have hm6 : Hid (min S.safe a = a) := hide (Nat.min_eq_right (by omega))
                go_wp2_with fail
                go_meet
                exact ⟨by rw [unhide hm6]; exact hi6, hc6⟩
              · have d0 : decide (a < S.safe) = false := by simpa using hsa
                have hm6 : Hid (min S.safe a = S.safe) := hide (Nat.min_eq_left (by omega))
                go_wp2_with fail
                go_meet
                exact ⟨by rw [unhide hm6]; exact hi5, Chg.refl _ _⟩
            case rest =>
              obtain ⟨hi6, hc6⟩ := hcut
              have hrv6 : BReads wc w5.heap.size vA L (recB c) := hc6.reads hrv5 (Nat.le_refl _) (hvt5.ne hi5.blk (by decide))
              have hvt6 := hvt5.chg hc6 (hvt5.ne hi5.blk (by decide))
              have hb6w := hb5w.chg hc6 (by omega)
              have hcR6 := hcR5.trans (ChgR.of_chg hc6)
              have hz6 := hc6.size
              clear hi5 hrv5 hvt5 hb5w hcR5 e0 e1 e2 e3 e4 e5 f3
              obtain ⟨sf, hsf⟩ : ∃ sf, sf = min S.safe a := ⟨_, rfl⟩
              rw [← hsf] at hi6
              have HSF := hide hsf
              have hst := hide (rstep_any m B0 vC rs A a cp (recs S.cs) a sf S.left false wc hi6 hl)
              have hpos := recB_pos c
              rw [← unhide HL] at hpos
              have hLm : a + L ≤ 100000 := by
                have := unhide HF
                unfold fullC at this
                rw [← unhide HA, ← unhide HL] at this
                omega
              clear hsf
              by_cases h0 : S.left = 0
              · skip
                --{
                rw [show (false || decide (S.left = 0)) = true by simp [h0]] at hst
                have HE : Hid (S.appE c = 9) := hide (by unfold LS.appE; rw [if_pos (unhide HV), if_neg (unhide HF), if_neg (by rw [unhide HST]; decide), if_pos h0])
                have HS : Hid (S.app c = ⟨S.cs, (recB c).take (L / 2), sf, S.left - 1, true⟩) := hide (by unfold LS.app; rw [if_pos ⟨unhide HV, unhide HF, unhide HST⟩, if_pos h0, unhide HSF, unhide HL, unhide HA])
                clear h0
                go_wp2_with fail
                refine (unhide hst).mono ?_
                rintro e w7 ⟨rfl, hi7, hc7⟩
                have hvm := hvt6.ne hi6.blk (by decide)
                have hrv7 : BReads w7 w5.heap.size vA L (recB c) := hc7.reads hrv6 hz6 hvm
                have hcR7 := hcR6.trans (ChgR.of_chg hc7)
                have hz7 := hc7.size
                clear hst hi6 hrv6 hvt6 hb6w hc7 hc6 hcR6
                obtain ⟨H, hH⟩ : ∃ H, H = L / 2 := ⟨_, rfl⟩
                have hHL : H ≤ L := by omega
                have hH0 : 0 < H := by omega
                have hHi : (L : Int) / 2 = (H : Int) := by omega
                have hHw : IntKind.i64.wrap (H : Int) = (H : Int) := by rw [IntKind.wrap_i64]; omega
                have hHc : H ≤ vc := by omega
                rw [← hH] at HS
                have hrh : BReads w7 w5.heap.size vA H ((recB c).take H) := by
                  have := Reads.short hrv7 hHL
                  rw [Nat.mul_one, ← List.map_take] at this
                  exact this
                clear hH hrv7
                obtain ⟨e0, e1, e2, e3, e4, e5⟩ := hi7.cells
                have hcap7 := hi7.cap
                have hrl7 : (recs S.cs).length = a := BReads.len hi7.reads
                have hrd7 := hi7.reads
                have hown0 := World.ownsRow_nil w7 w7.heap.size 5 1
                have ho1 := ints_oneCell .u8 (recs S.cs)
                have ho2 := ints_oneCell .u8 ((recB c).take H)
                have hlt1 : 0 + a < 1000000000 := by omega
                have hlt2 : 0 + a + H < 1000000000 := by omega
                go_upto_region 22 with (first
                  | (at_builtin; refine app_many elem_byte (.tmp 110) (.tmp 114) rfl rfl rfl hown0 rfl hrd7 ho1 hlt1 (Nat.le_refl _) ?_; intro v8 w8 o8 b8 _; have hrh8 := Reads.below hrh (b8.mono (by omega)); have z8 := b8.size)
                  | (at_builtin; refine app_many elem_byte (.tmp 117) (.tmp 120) rfl rfl rfl o8 rfl hrh8 ho2 hlt2 z8 ?_; intro v9 w9 o9 b9 _; obtain ⟨A9, c9, hv9, hr9, _, hc9, hn9, _⟩ := own_slice2 o9; subst hv9; have hi9 := hi7.below (b8.trans b9) (Nat.le_refl _); have e19 := hi9.blk.cell 1; simp at e19; have f19 := hi9.blk.frozen 1))
                rw [List.nil_append, ← List.map_append, Nat.zero_add] at o9 hr9
                rw [Nat.zero_add] at hc9
                have hp := hi9.putB hr9 hc9 hn9 (BTyp.of_own o9)
                have hcF := (hcR7.trans (ChgR.of_below (b8.trans b9))).set_ 1 (.slice A9 (a + H) c9)
                clear e0 e1 e2 e3 e4 e5 e19 f19 o8 o9 hr9 hi9 hi7 hrh hrh8
                go_wp2_with fail
                go_ret
                exact ⟨by rw [unhide HE]; rfl, by
                  have h2 := unhide HOK2
                  rw [unhide HS] at h2 ⊢
                  exact ⟨h2, by show S.left - 1 ≤ 9223372036854775807; omega, vC, rs, A9, a + H, c9, by show RlIs _ m B0 vC rs A9 (a + H) c9 (recs S.cs ++ (recB c).take H) (recs S.cs).length sf (max (-1) (S.left - 1)) true; rw [← unhide HA]; exact hp, unhide HMAP⟩, hcF⟩
                --}
              · rw [show (false || decide (S.left = 0)) = false by simp [h0]] at hst
                have HE : Hid (S.appE c = 0) := hide (by unfold LS.appE; rw [if_pos (unhide HV), if_neg (unhide HF), if_neg (by rw [unhide HST]; decide), if_neg h0])
                have HS : Hid (S.app c = ⟨S.cs ++ [c], [], sf, S.left - 1, false⟩) := hide (by unfold LS.app; rw [if_pos ⟨unhide HV, unhide HF, unhide HST⟩, if_neg h0, unhide HSF, unhide HA])
                clear h0
                go_wp2_with fail
                refine (unhide hst).mono ?_
                rintro e w7 ⟨rfl, hi7, hc7⟩
                have hvm := hvt6.ne hi6.blk (by decide)
                have hrv7 : BReads w7 w5.heap.size vA L (recB c) := hc7.reads hrv6 hz6 hvm
                have hcR7 := hcR6.trans (ChgR.of_chg hc7)
                have hz7 := hc7.size
                have hb7w := hb6w.chg hc7 (by omega)
                clear hst hi6 hrv6 hvt6 hb6w hc7 hc6 hcR6
                obtain ⟨e0, e1, e2, e3, e4, e5⟩ := hi7.cells
                have hcap7 := hi7.cap
                have hrl7 : (recs S.cs).length = a := BReads.len hi7.reads
                have hrd7 := hi7.reads
                have hown0 := World.ownsRow_nil w7 w7.heap.size 5 1
                have ho1 := ints_oneCell .u8 (recs S.cs)
                have ho2 := ints_oneCell .u8 (recB c)
                have hlt1 : 0 + a < 1000000000 := by omega
                have hlt2 : 0 + a + L < 1000000000 := by omega
                go_upto_region 24 with (first
                  | (at_builtin; refine app_many elem_byte (.tmp 110) (.tmp 114) rfl rfl rfl hown0 rfl hrd7 ho1 hlt1 (Nat.le_refl _) ?_; intro v8 w8 o8 b8 _; have hrh8 := Reads.below hrv7 (b8.mono (by omega)); have z8 := b8.size)
                  | (at_builtin; refine app_many elem_byte (.tmp 117) (.tmp 120) rfl rfl rfl o8 rfl hrh8 ho2 hlt2 z8 ?_; intro v9 w9 o9 b9 _; obtain ⟨A9, c9, hv9, hr9, _, hc9, hn9, _⟩ := own_slice2 o9; subst hv9; have hi9 := hi7.below (b8.trans b9) (Nat.le_refl _); have e19 := hi9.blk.cell 1; simp at e19; have f19 := hi9.blk.frozen 1))
                rw [List.nil_append, ← List.map_append, Nat.zero_add] at o9 hr9
                rw [Nat.zero_add] at hc9
                have hp := hi9.putB hr9 hc9 hn9 (BTyp.of_own o9)
                have hb9w := hb7w.below (b8.trans b9) hb7w.lt
                have hb10w := hb9w.far (p := ⟨m, 1, none⟩) (by dsimp only; omega) (.slice A9 (a + L) c9)
                have hcF := (hcR7.trans (ChgR.of_below (b8.trans b9))).set_ 1 (.slice A9 (a + L) c9)
                clear e0 e1 e2 e3 e4 e5 e19 f19 o8 o9 hr9 hi9 hi7 hrv7 hrh8 hb9w hb7w hrd7
                generalize w9.setCell ⟨m, 1, none⟩ (.slice A9 (a + L) c9) = w10 at *
                obtain ⟨e0, e1, e2, e3, e4, e5⟩ := hp.cells
                have f2 := hp.blk.frozen 2
                have hp2 := hp.set2 (a + L)
                have hb11w := hb10w.far (p := ⟨m, 2, none⟩) (by dsimp only; omega) (.int .i64 ((a + L : Nat) : Int))
                have hcF2 := hcF.set_ 2 (.int .i64 ((a + L : Nat) : Int))
                have hcv := (unhide HR0).below (hcF2.below (Nat.le_refl _) hm0.1 (by omega))
                have hcc : ((a + L : Nat) : Int) = (a : Int) + (L : Int) := Int.natCast_add a L
                go_upto_region 25 with (fail)
                obtain ⟨w11, hw11⟩ : ∃ X, X = w10.setCell ⟨m, 2, none⟩ (.int .i64 ((a : Int) + (L : Int))) := ⟨_, rfl⟩
                rw [hcc, ← hw11] at hp2 hb11w hcF2 hcv
                rw [← hw11]
                clear hw11 hp e0 e1 e2 e3 e4 e5 f2 hb10w hcF hcc
                obtain ⟨e0, e1, e2, e3, e4, e5⟩ := hp2.cells
                obtain ⟨c0, c1, c2, c3, c4, c5, c6⟩ := hb11w.cells7
                obtain ⟨i0, hi0, hz0, hs0, hby0⟩ := info_parts elem_call.info
                have hw10 := elem_call.wide
                obtain ⟨vCA, vCc, hvC, _, _, _⟩ := own_slice hp2.calls
                subst hvC
                have hrl : rs.length ≤ 100000 := by
                  have h1 := congrArg List.length (unhide HMAP)
                  rw [List.length_map] at h1
                  have h2 := recs_many S.cs
                  have h3 := (unhide HOK).len
                  omega
                have kA := cell_alloc e0 hp2.blk.lt
                have hnew := hide (Reads.new_ w11 7 1 [.int .i64 c.what, .int .i64 c.ses, .int .i64 c.seq, .string c.name, .int .i64 c.num, .int .i64 c.share, .slice A0 n0 cap0] 53 rfl)
                have hoa := hide (hp2.calls.alloc (.cells #[.int .i64 c.what, .int .i64 c.ses, .int .i64 c.seq, .string c.name, .int .i64 c.num, .int .i64 c.share, .slice A0 n0 cap0] 53))
                have hBw : B0 ≤ (w11.alloc (.cells #[.int .i64 c.what, .int .i64 c.ses, .int .i64 c.seq, .string c.name, .int .i64 c.num, .int .i64 c.share, .slice A0 n0 cap0] 53)).heap.size := by rw [World.size_alloc]; have := hp2.hB; have := hp2.blk.lt; omega
                have HC1 := hide (cells_one ⟨c, A0, n0, cap0⟩)
                go_region_law (refine step_append_any _ rfl (.tmp 137) (.tmp 139) 51 rfl B0 53 i0 _ 7 80 elem_call.und hi0 hz0 hs0 hby0 elem_call.zs elem_call.pos (.slice vCA rs.length vCc) rs.length _ rfl (unhide hoa) _ _ 1 1 _ rfl (unhide hnew) (unhide HC1) (by unfold maxLen; omega) (by omega) hBw ?_
                               intro v12 w12 o12 g12 _
                               obtain ⟨hP, hcP, hb12⟩ := hp2.putC (r := ⟨c, A0, n0, cap0⟩) o12 g12 hcv
                               have e012 := hb12.cell 0
                               have f012 := hb12.frozen 0
                               simp at e012
                               obtain ⟨A12, c12, hv12, _, _, _⟩ := own_slice o12
                               subst hv12)
                all_goals
                  have hcZ := hcF2.trans hcP
                  clear o12 g12 hb12 e012 f012 e0 e1 e2 e3 e4 e5 c0 c1 c2 c3 c4 c5 c6 hoa hnew HC1 hp2 hb11w
                  go_wp2_with fail
                  go_ret
                  exact ⟨by rw [unhide HE]; rfl, by
                    have h2 := unhide HOK2
                    rw [unhide HS] at h2 ⊢
                    exact ⟨h2, by show S.left - 1 ≤ 9223372036854775807; omega, _, rs ++ [⟨c, A0, n0, cap0⟩], A9, a + L, c9, by show RlIs _ m B0 _ (rs ++ [⟨c, A0, n0, cap0⟩]) A9 (a + L) c9 (recs (S.cs ++ [c]) ++ []) (recs (S.cs ++ [c])).length sf (max (-1) (S.left - 1)) false; rw [List.append_nil, recs_app, List.length_append, ← unhide HA, ← unhide HL]; exact hP, by rw [List.map_append, unhide HMAP]; rfl⟩, hcZ⟩
end Go.Proofs.YtijgiieoinmjhaaDoor
