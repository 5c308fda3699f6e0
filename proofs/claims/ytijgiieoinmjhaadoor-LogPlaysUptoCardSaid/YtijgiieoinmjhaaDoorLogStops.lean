/- LogStops: the walk. Conditions: arguments read as data; their texts are not too long; the handle that errors need. -/
import Derived.Test.YtijgiieoinmjhaaDoorLog3
import Derived.Test.YtijgiieoinmjhaaDoorTold2
import Derived.Deep.DeepCutAuto
import Derived.Deep.CutRange
namespace Go.Proofs.YtijgiieoinmjhaaDoor
set_option linter.unusedVariables false
set_option linter.unusedSimpArgs false
open Go.RowKit

/-- a call that an argument holds -/
structure CvArg (w : World) (B : Nat) (r : Cv) : Prop where
  ok : CvOk w B r
  num : Nums64 r.c
  name : r.c.name.size ≤ 2000000
  many : r.n ≤ 2000000
  by_ : ∀ x ∈ r.c.bytes, 0 ≤ x ∧ x < 256
theorem CvArg.below {w w' : World} {B : Nat} {r : Cv} (h : CvArg w B r) (hb : Below B w w') : CvArg w' B r := ⟨h.ok.below hb, h.num, h.name, h.many, h.by_⟩
def CsReads (w : World) (B : Nat) (A : Option Addr) (n : Nat) (rs : List Cv) : Prop := Reads w B 7 A n (rs.flatMap Cv.cells) ∧ ∀ r ∈ rs, CvArg w B r
theorem CsReads.below {w w' : World} {B n : Nat} {A : Option Addr} {rs : List Cv} (h : CsReads w B A n rs) (hb : Below B w w') : CsReads w' B A n rs := ⟨h.1.below hb, fun r hr => (h.2 r hr).below hb⟩
theorem cvs_len (rs : List Cv) : (rs.flatMap Cv.cells).length = rs.length * 7 := flatMap_len Cv.cells 7 (fun _ => rfl) rs
theorem CsReads.len {w : World} {B n : Nat} {A : Option Addr} {rs : List Cv} (h : CsReads w B A n rs) : rs.length = n := by
  have := h.1.1
  rw [cvs_len] at this
  omega
theorem CsReads.get {w : World} {B n : Nat} {A : Option Addr} {rs : List Cv} (h : CsReads w B A n rs) {k : Nat} (hk : k < n) : ∃ b o r, A = some ⟨b, o, none⟩ ∧ b < B ∧ rs[k]? = some r ∧ CvArg w B r ∧
    w.cell? ⟨b, o + k * 7, none⟩ = some (.int .i64 r.c.what) ∧ w.cell? ⟨b, o + k * 7 + 1, none⟩ = some (.int .i64 r.c.ses) ∧ w.cell? ⟨b, o + k * 7 + 2, none⟩ = some (.int .i64 r.c.seq) ∧ w.cell? ⟨b, o + k * 7 + 3, none⟩ = some (.string r.c.name) ∧
    w.cell? ⟨b, o + k * 7 + 4, none⟩ = some (.int .i64 r.c.num) ∧ w.cell? ⟨b, o + k * 7 + 5, none⟩ = some (.int .i64 r.c.share) ∧ w.cell? ⟨b, o + k * 7 + 6, none⟩ = some (.slice r.A r.n r.cap) := by
  obtain ⟨b, o, e, hb, hc⟩ := h.1.spot (by omega) (by omega)
  have hl := h.len
  have hr : rs[k]? = some rs[k] := List.getElem?_eq_getElem (by omega)
  have key : ∀ j u, j < 7 → (Cv.cells rs[k])[j]? = some u → w.cell? ⟨b, o + k * 7 + j, none⟩ = some u := by
    intro j u hj hu
    have h2 := flatMap_at Cv.cells 7 (fun _ => rfl) rs k j _ hr hj
    rw [hu] at h2
    have := hc _ _ h2
    rw [Nat.add_assoc]
    exact this
  exact ⟨b, o, rs[k], e, hb, hr, h.2 _ (List.getElem_mem _), key 0 _ (by omega) rfl, key 1 _ (by omega) rfl, key 2 _ (by omega) rfl, key 3 _ (by omega) rfl, key 4 _ (by omega) rfl, key 5 _ (by omega) rfl, key 6 _ (by omega) rfl⟩
def factC : Cv := ⟨⟨4, 0, 1, ⟨#[97]⟩, 0, 0, []⟩, none, 0, 0⟩
theorem factC_ok (w : World) (B : Nat) : CvArg w B factC := ⟨⟨Reads.none_, Nat.zero_le _, Nat.le_refl _, fun _ => rfl⟩, by unfold Nums64 In64; decide, by decide, by decide, fun x hx => nomatch hx⟩

/-- what Append answers, and what it does to the steps -/
theorem app_ways (S : LS) (c : Cl) : ((S.appE c = 1 ∨ S.appE c = 4) ∧ S.app c = S) ∨ (S.appE c = (if (S.st || decide (S.left = 0)) = true then 9 else 0) ∧ (S.app c).st = (S.st || decide (S.left = 0)) ∧ ((S.app c).st = false → (S.app c).left = S.left - 1)) := by
  unfold LS.appE LS.app
  by_cases h1 : valC c
  · by_cases h2 : fullC S.cs c
    · refine .inl ⟨.inr (by rw [if_pos h1, if_pos h2]), by rw [if_neg (fun h => h.2.1 h2)]⟩
    · refine .inr ?_
      rw [if_pos h1, if_neg h2]
      cases hs : S.st with
      | true => simp [hs]
      | false =>
        by_cases h0 : S.left = 0
        · simp [h0, h1, h2]
        · simp [h0, h1, h2]
  · refine .inl ⟨.inl (by rw [if_neg h1]), by rw [if_neg (fun h => h1 h.1)]⟩
theorem sync_ways (S : LS) : S.syncE = (if (S.st || decide (S.left = 0)) = true then 9 else 0) ∧ S.sync.st = (S.st || decide (S.left = 0)) ∧ (S.sync.st = false → S.sync.left = S.left - 1) := by
  unfold LS.syncE LS.sync
  cases hs : S.st with
  | true => simp [hs]
  | false => by_cases h0 : S.left = 0 <;> simp [h0]
/-- is it the step at which it stops? -/
theorem stop_at {F af : Int} {t : Nat} {l : Int} (hF : F = max (-1) af) (hl : l = F - t) : l = 0 ↔ 0 ≤ af ∧ (t : Int) = af := by omega

set_option maxRecDepth 100000 in
set_option maxHeartbeats 16000000 in
theorem logStops_walk (A : Option Addr) (n ca : Nat) (rs : List Cv) (af keep : Int) (w : World) (he : ErrT w) (hr : CsReads w w.heap.size A n rs) (hn : n ≤ maxLen) (haf : af ≤ 9223372036854775807) :
    Calls Tryd.prog 5 #[.slice A n ca, .int .i64 af, .int .i64 keep] w fun e w' => e = .returned (.bool true) ∧ Below w.heap.size w w' := by
  unfold maxLen at hn
  obtain ⟨W, hW⟩ : ∃ W, W = w.alloc (.cells #[.int .i64 4, .int .i64 0, .int .i64 1, .string ⟨#[97]⟩, .int .i64 0, .int .i64 0, .slice none 0 0] 53) := ⟨_, rfl⟩
  have hb1 : Blk W w.heap.size 53 #[.int .i64 4, .int .i64 0, .int .i64 1, .string ⟨#[97]⟩, .int .i64 0, .int .i64 0, .slice none 0 0] := by rw [hW]; exact Blk.new _ _ _
  have hbW : Below w.heap.size w W := by rw [hW]; exact (Below.refl _ _).alloc (Nat.le_refl _) _
  go_enter Tryd.func5, Tryd.ntmps5
  go_wp2_with fail
  rw [← hW]
  clear hW
  refine (lognew_any W).mono ?_
  rintro e w1 ⟨rfl, hS1, hbb1, hz1⟩
  have hB1 := hbW.trans (hbb1.mono hbW.size)
  have hb11 := hb1.below hbb1 hb1.lt
  obtain ⟨g, hg⟩ : ∃ g, g = W.heap.size := ⟨_, rfl⟩
  rw [← hg] at hS1 ⊢
  have hgw : w.heap.size ≤ g := by rw [hg]; exact hbW.size
  have hgb : w.heap.size ≠ g := by have := hb1.lt; omega
  clear hb1 hbW hbb1 hz1 hg
  have s2 := hide (fail_any g 1 _ 0 w1 hS1 (by omega) (by decide))
  go_wp2_with fail
  refine (unhide s2).mono ?_
  rintro e w2 ⟨rfl, hS2, hc2⟩
  have hB2 := hB1.trans (hc2.below hgw hB1.size)
  have hb12 := hb11.chg hc2 hgb
  obtain ⟨c0, c1, c2, c3, c4, c5, c6⟩ := hb12.cells7
  have fk := factC_ok w2 w2.heap.size
  have s3 := hide (append_any g 1 _ factC w2 hS2 (by omega) fk.ok fk.num fk.name fk.many fk.by_)
  clear s2 hS1 hc2 hb11 fk
  have hE3 : LS.appE (LS.fail ⟨[], [], 0, -1, false⟩ 0) factC.c = 9 := by decide
  rw [hE3] at s3
  have htl : (LS.app (LS.fail ⟨[], [], 0, -1, false⟩ 0) factC.c).cs = [] := by decide
  have htb : 0 < (LS.app (LS.fail ⟨[], [], 0, -1, false⟩ 0) factC.c).bs.length := by decide
  generalize LS.app (LS.fail ⟨[], [], 0, -1, false⟩ 0) factC.c = S3 at *
  go_wp2_with fail
  refine (unhide s3).mono ?_
  rintro e w3 ⟨rfl, hS3, hc3⟩
  have hB3 := hB2.trans (hc3.below hgw hB2.size)
  have s4 := hide (error_any 9 9 w3 (he.below hB3 he.lt))
  clear s3 hS2 hc3 c0 c1 c2 c3 c4 c5 c6 hb12
  go_wp2_with fail
  refine (unhide s4).mono ?_
  rintro e w4 ⟨rfl, hb4⟩
  rw [show ((9 : Int) == 9) = true from rfl]
  have hB4 := hB3.trans (hb4.mono hB3.size)
  have hS4 := hS3.below hb4 (Nat.le_refl _)
  have s5 := hide (logcalls_any g _ S3 w4 hS4)
  rw [htl] at s5
  clear s4 hS3 hb4 htl
  go_wp2_with fail
  refine (unhide s5).mono ?_
  rintro e w5 ⟨v5, rs5, rfl, hm5, ho5, hb5⟩
  have hrs5 : rs5 = [] := by simpa using hm5
  subst hrs5
  obtain ⟨A5, c5, hv5, _, _, _⟩ := own_slice ho5.1
  subst hv5
  have hB5 := hB4.trans (hb5.mono hB4.size)
  have hS5 := hS4.below hb5 (Nat.le_refl _)
  have s6 := hide (logbytes_any g _ S3 w5 hS5)
  clear s5 hS4 hb5 ho5 hm5
  rw [show (([] : List Cv).length) = 0 from rfl]
  go_wp2_with fail
  refine (unhide s6).mono ?_
  rintro e w6 ⟨v6, rfl, ho6, hb6⟩
  obtain ⟨A6, c6, hv6, _, _, _⟩ := own_slice ho6
  subst hv6
  have hB6 := hB5.trans (hb6.mono hB5.size)
  obtain ⟨k6, hk6⟩ : ∃ k6, k6 = S3.bs.length := ⟨_, rfl⟩
  rw [← hk6] at htb ⊢
  have hk0 : ((k6 : Int) == 0) = false := by simp; omega
  clear s6 hS5 hb6 ho6 hk6
  go_wp2_with fail
  refine (lognew_any w6).mono ?_
  rintro e w7 ⟨rfl, hS7, hb7, hz7⟩
  have hB7 := hB6.trans (hb7.mono hB6.size)
  obtain ⟨b, hb⟩ : ∃ b, b = w6.heap.size := ⟨_, rfl⟩
  rw [← hb] at hS7 ⊢
  have hbw : w.heap.size ≤ b := by rw [hb]; exact hB6.size
  clear hb7 hz7 hb hk0 htb
  have s8 := hide (fail_any b 1 _ af w7 hS7 (by omega) haf)
  go_wp2_with fail
  refine (unhide s8).mono ?_
  rintro e w8 ⟨rfl, hS8, hc8⟩
  have hB8 := hB7.trans (hc8.below hbw hB7.size)
  obtain ⟨F, hF⟩ : ∃ F, F = max (-1) af := ⟨_, rfl⟩
  have hS8' : LgS w8 b ⟨[], [], 0, F, false⟩ 1 := by rw [hF]; exact hS8
  clear s8 hS7 hc8 hB1 hB2 hB3 hB4 hB5 hB6 hB7 hS8
  have HF := hide hF
  clear hF
  go_wp2_with fail
  go_loopw [12, 13, 14] (fun sv tv iv wr => ∃ (T t q : Nat) (S : LS), T ≤ 16 ∧ t ≤ 2 * T ∧ q ≤ 2 * T + 1 ∧ iv = .int .i64 T ∧ tv = .int .i64 t ∧ sv = .bool S.st ∧ (S.st = false → S.left = F - t) ∧ LgS wr b S q ∧ Below w.heap.size w wr) (fun _ _ iv _ => 16 - (intOf iv).toNat)
  case atStart => exact ⟨0, 0, 1, _, by omega, by omega, by omega, rfl, rfl, rfl, fun _ => by show F = F - 0; omega, hS8', hB8⟩
  case round =>
    clear hS8' hB8
    obtain ⟨T, t, q, S, hT, ht, hq, rfl, rfl, rfl, hLf, hS, hbel⟩ := hrel
    have hsz := hbel.size
    by_cases hlt : T < n ∧ T < 16
    · obtain ⟨g1, g2⟩ := hlt
      obtain ⟨bA, oA, r, rfl, hbA, hx, hra, d0, d1, d2, d3, d4, d5, d6⟩ := (hr.below hbel).get g1
      have ok1 : CvOk wr wr.heap.size r := (hra.ok).more hsz
      have s9 := hide (append_any b q S r wr hS (by omega) ok1 hra.num hra.name hra.many hra.by_)
      obtain ⟨rc, rA, rn, rcap⟩ := r
      dsimp only at d0 d1 d2 d3 d4 d5 d6
      simp only [Cv.val] at s9
      clear hx ok1
      go_wp2_with fail
      refine (unhide s9).mono ?_
      rintro e w9 ⟨rfl, hS9, hc9⟩
      have hB9 := (hbel.trans (hc9.below hbw hsz))
      have hways := app_ways S rc
      obtain ⟨E, hE⟩ : ∃ E, E = S.appE rc := ⟨_, rfl⟩
      obtain ⟨S9, hS9e⟩ : ∃ S9, S9 = S.app rc := ⟨_, rfl⟩
      rw [← hE, ← hS9e] at hways
      rw [← hE]
      rw [← hS9e] at hS9
      have s10 := hide (error_any E 9 w9 (he.below hB9 he.lt))
      clear s9 hS hE hS9e hc9 d0 d1 d2 d3 d4 d5 d6 hra
      go_wp2_with fail
      refine (unhide s10).mono ?_
      rintro e w10 ⟨rfl, hb10⟩
      have hB10 := hB9.trans (hb10.mono hB9.size)
      have hS10 := hS9.below hb10 (Nat.le_refl _)
      clear s10 hS9 hb10 hB9
      rcases hways with ⟨hE14, rfl⟩ | ⟨hEe, hst9, hl9⟩
      · --{
        have e1 : (E == 9) = false := by rcases hE14 with h | h <;> rw [h] <;> rfl
        have e2 : E ≠ 0 := by rcases hE14 with h | h <;> rw [h] <;> decide
        rw [e1, errV_1 e2]
        clear e1 e2 hE14
        go_wp2_with fail
        go_roundw
        case rel => exact ⟨T + 1, t, q + 1, S9, by omega, by omega, by omega, by go_num, rfl, rfl, hLf, hS10, hB10⟩
        case measure => simp [intOf]; omega
        --}
      · obtain ⟨LB, hLB⟩ : ∃ LB, LB = (S.st || decide (S.left = 0)) := ⟨_, rfl⟩
        rw [← hLB] at hEe hst9
        have hE9 : (E == 9) = LB := by rw [hEe]; cases LB <;> rfl
        rw [hE9]
        clear hE9
        obtain ⟨sb, hsb⟩ : ∃ sb, sb = S.st := ⟨_, rfl⟩
        rw [← hsb] at hLf hLB ⊢
        have hL9 : Hid (sb = false → S9.st = false → S9.left = F - ((t + 1 : Nat) : Int)) := hide (fun h1 h2 => by have := hLf h1; have := hl9 h2; omega)
        have HLB : Hid (sb = true → LB = true) := hide (fun h => by rw [hLB, h]; rfl)
        have HLB2 : Hid (sb = false → (LB = true ↔ 0 ≤ af ∧ (t : Int) = af)) := hide (fun h => by
          rw [hLB, h, ← stop_at (unhide HF) (hLf h)]
          simp)
        have HE := hide hEe; have HST := hide hst9
        clear hLf hLB hsb hEe hst9 hl9
        obtain ⟨w11, hw11⟩ : ∃ w11, w11 = w10 := ⟨_, rfl⟩
        subst hw11
        go_upto_region 17 with (fail)
        go_cut [15, 70] (fun ev v wx => ev = errV E ∧ v = .bool false ∧ wx = w11)
        case first =>
          cases LB with
          | true =>
            have e3 : Hid (errV E = .iface 89 (.int .i64 9)) := hide (by rw [unhide HE]; rfl)
            rw [unhide e3]
            go_wp2_with fail
            go_meet
            exact ⟨(unhide e3).symm, rfl, rfl⟩
          | false =>
            have e3 : Hid (errV E = .nilIface) := hide (by rw [unhide HE]; rfl)
            rw [unhide e3]
            go_wp2_with fail
            go_meet
            exact ⟨(unhide e3).symm, rfl, rfl⟩
        case rest =>
          obtain ⟨rfl, rfl, rfl⟩ := hcut
          obtain ⟨w11, hw11⟩ : ∃ w11, w11 = wc := ⟨_, rfl⟩
          subst hw11
          go_upto_region 18 with (fail)
          go_cut [82] (fun v wx => v = .bool false ∧ wx = w11)
          case first =>
            cases sb with
            | true =>
              have e3 : LB = true := unhide HLB rfl
              clear HLB2
              subst e3
              go_wp2_with fail
              go_meet
              exact ⟨rfl, rfl⟩
            | false =>
              by_cases q1 : 0 ≤ af
              case neg =>
                have e3 : LB = false := by
                  cases LB with
                  | false => rfl
                  | true => exact absurd ((unhide HLB2 rfl).1 rfl).1 q1
                subst e3
                have d0 : decide (0 ≤ af) = false := by simpa using q1
                go_wp2_with fail
                go_meet
                exact ⟨rfl, rfl⟩
              have d0 : decide (0 ≤ af) = true := by simpa using q1
              by_cases q2 : (t : Int) = af
              · have e3 : LB = true := (unhide HLB2 rfl).2 ⟨q1, q2⟩
                subst e3
                have d1 : ((t : Int) == af) = true := by simpa using q2
                clear q2
                go_wp2_with fail
                go_meet
                exact ⟨rfl, rfl⟩
              · have e3 : LB = false := by
                  cases LB with
                  | false => rfl
                  | true => exact absurd ((unhide HLB2 rfl).1 rfl).2 q2
                subst e3
                have d1 : ((t : Int) == af) = false := by simpa using q2
                clear q2
                go_wp2_with fail
                go_meet
                exact ⟨rfl, rfl⟩
          case rest =>
            obtain ⟨rfl, rfl⟩ := hcut
            obtain ⟨w11, hw11⟩ : ∃ w11, w11 = wc := ⟨_, rfl⟩
            subst hw11
            have HM9 : Hid (LB = false → S9.left = F - ((t + 1 : Nat) : Int)) := hide (fun h => by
              have hs0 : sb = false := by
                cases hsb : sb with
                | false => rfl
                | true => rw [unhide HLB hsb] at h; exact h
              exact unhide hL9 hs0 (by rw [unhide HST]; exact h))
            go_upto_region 20 with (fail)
            go_cut [12] (fun v wx => v = .bool LB ∧ wx = w11)
            case first =>
              cases sb with
              | true =>
                have e3 : LB = true := unhide HLB rfl
                clear HLB2
                subst e3
                go_wp2_with fail
                go_meet
                exact ⟨rfl, rfl⟩
              | false =>
                go_wp2_with fail
                go_meet
                exact ⟨rfl, rfl⟩
            case rest =>
              obtain ⟨rfl, rfl⟩ := hcut
              clear HLB HLB2 hL9
              have s12 := hide (sync_any b (q + 1) S9 wc hS10 (by omega))
              have hsw := sync_ways S9
              obtain ⟨E2, hE2⟩ : ∃ E2, E2 = S9.syncE := ⟨_, rfl⟩
              obtain ⟨S12, hS12⟩ : ∃ S12, S12 = S9.sync := ⟨_, rfl⟩
              rw [← hE2, ← hS12] at hsw s12
              have hsz10 := hB10.size
              have HSW := hide hsw
              clear hE2 hS12 hsw
              go_wp2_with fail
              refine (unhide s12).mono ?_
              rintro e w12 ⟨rfl, hS12', hc12⟩
              have hB12 := hB10.trans (hc12.below hbw hsz10)
              have s13 := hide (error_any E2 9 w12 (he.below hB12 he.lt))
              clear s12 hc12 hS10 hB10
              go_wp2_with fail
              refine (unhide s13).mono ?_
              rintro e w13 ⟨rfl, hb13⟩
              have hB13 := hB12.trans (hb13.mono hB12.size)
              have hS13 := hS12'.below hb13 (Nat.le_refl _)
              clear s13 hS12' hb13 hB12
              obtain ⟨hE2e, hst12, hl12⟩ := unhide HSW
              obtain ⟨LC, hLC⟩ : ∃ LC, LC = (S9.st || decide (S9.left = 0)) := ⟨_, rfl⟩
              rw [← hLC] at hE2e hst12
              have hE29 : (E2 == 9) = LC := by rw [hE2e]; cases LC <;> rfl
              rw [hE29]
              clear hE29
              rw [unhide HST] at hLC
              have hLD : Hid (LC = false → S12.left = F - ((t + 1 + 1 : Nat) : Int)) := hide (fun h => by
                have h1 : LB = false := by
                  cases hlb : LB with
                  | false => rfl
                  | true => rw [hLC, hlb] at h; exact absurd h (by simp)
                have h2 := unhide HM9 h1
                have h3 := hl12 (by rw [hst12]; exact h)
                omega)
              have HLC : Hid (LB = true → LC = true) := hide (fun h => by rw [hLC, h]; rfl)
              have HLC2 : Hid (LB = false → (LC = true ↔ 0 ≤ af ∧ ((t + 1 : Nat) : Int) = af)) := hide (fun h => by
                rw [hLC, h, ← stop_at (unhide HF) (unhide HM9 h)]
                simp)
              have HST2 := hide hst12
              clear hLC hE2e hst12 hl12
              obtain ⟨w14, hw14⟩ : ∃ w14, w14 = w13 := ⟨_, rfl⟩
              subst hw14
              go_upto_region 24 with (fail)
              go_cut [104] (fun v wx => v = .bool false ∧ wx = w14)
              case first =>
                cases LB with
                | true =>
                  have e3 : LC = true := unhide HLC rfl
                  clear HLC2
                  subst e3
                  go_wp2_with fail
                  go_meet
                  exact ⟨rfl, rfl⟩
                | false =>
                  by_cases q1 : 0 ≤ af
                  case neg =>
                    have e3 : LC = false := by
                      cases LC with
                      | false => rfl
                      | true => exact absurd ((unhide HLC2 rfl).1 rfl).1 q1
                    subst e3
                    have d0 : decide (0 ≤ af) = false := by simpa using q1
                    go_wp2_with fail
                    go_meet
                    exact ⟨rfl, rfl⟩
                  have d0 : decide (0 ≤ af) = true := by simpa using q1
                  by_cases q2 : (t : Int) + 1 = af
                  · have e3 : LC = true := (unhide HLC2 rfl).2 ⟨q1, by omega⟩
                    subst e3
                    have d1 : ((t : Int) + 1 == af) = true := by simpa using q2
                    clear q2
                    go_wp2_with fail
                    go_meet
                    exact ⟨rfl, rfl⟩
                  · have e3 : LC = false := by
                      cases LC with
                      | false => rfl
                      | true => exact absurd ((unhide HLC2 rfl).1 rfl).2 (by omega)
                    subst e3
                    have d1 : ((t : Int) + 1 == af) = false := by simpa using q2
                    clear q2
                    go_wp2_with fail
                    go_meet
                    exact ⟨rfl, rfl⟩
              case rest =>
                obtain ⟨rfl, rfl⟩ := hcut
                obtain ⟨w14, hw14⟩ : ∃ w14, w14 = wc := ⟨_, rfl⟩
                subst hw14
                go_upto_region 26 with (fail)
                go_cut [12] (fun v wx => v = .bool LC ∧ wx = w14)
                case first =>
                  cases LB with
                  | true =>
                    have e3 : LC = true := unhide HLC rfl
                    clear HLC2
                    subst e3
                    go_wp2_with fail
                    go_meet
                    exact ⟨rfl, rfl⟩
                  | false =>
                    go_wp2_with fail
                    go_meet
                    exact ⟨rfl, rfl⟩
                case rest =>
                  obtain ⟨rfl, rfl⟩ := hcut
                  clear HLC HLC2
                  go_wp2_with fail
                  go_roundw
                  case rel => exact ⟨T + 1, t + 1 + 1, q + 1 + 1, S12, by omega, by omega, by omega, by go_num, by go_num, by rw [unhide HST2], fun h => unhide hLD (by rw [← unhide HST2]; exact h), hS13, hB13⟩
                  case measure => simp [intOf]; omega
    · clear hr
      have hSm := hS.more (q' := 40) (by omega)
      clear hS
      obtain ⟨w20, hw20⟩ : ∃ w20, w20 = wr := ⟨_, rfl⟩
      subst hw20
      go_upto_region 13 with (fail)
      go_cut [54] (fun v wx => v = .bool false ∧ wx = w20)
      case first =>
        by_cases g1 : T < n
        · have g2 : ¬ T < 16 := fun h => hlt ⟨g1, h⟩
          clear hlt
          go_wp2_with fail
          go_meet
          exact ⟨congrArg Value.bool (by simp; omega), rfl⟩
        · clear hlt
          go_wp2_with fail
          go_meet
          exact ⟨rfl, rfl⟩
      case rest =>
        obtain ⟨rfl, rfl⟩ := hcut
        have s20 := hide (logsafe_any b 40 S wc hSm)
        have s21 := hide (crash_any b 40 S keep wc hSm (by omega))
        have hE0 : (S.crash keep).syncE = 0 := rfl
        have h23 : (S.crash keep).sync.safe = (S.crash keep).sync.bs.length := rfl
        have h24 : S.safe ≤ (S.crash keep).sync.safe := by
          show S.safe ≤ (S.crash keep).bs.length
          rw [LS.crash_bs hSm.1, List.length_take]
          have := LS.kept_le hSm.1 keep
          omega
        obtain ⟨z0, hz0⟩ : ∃ z0, z0 = S.safe := ⟨_, rfl⟩
        rw [← hz0] at s20 h24
        clear hlt hSm hz0 hLf
        go_wp2_with fail
        refine (unhide s20).mono ?_
        rintro e w21 ⟨rfl, rfl⟩
        go_wp2_with fail
        refine (unhide s21).mono ?_
        rintro e w22 ⟨rfl, hS22, hc22⟩
        have hB22 := hbel.trans (hc22.below hbw hsz)
        have s22 := hide (sync_any b 40 (S.crash keep) w22 hS22 (by omega))
        rw [hE0] at s22
        generalize (S.crash keep).sync = S23 at *
        clear s20 s21 hS22 hc22 hE0
        go_wp2_with fail
        refine (unhide s22).mono ?_
        rintro e w23 ⟨rfl, hS23, hc23⟩
        rw [errV_0 rfl]
        have hB23 := hB22.trans (hc23.below hbw hB22.size)
        have s23 := hide (logsafe_any b (40 + 1) S23 w23 hS23)
        have s24 := hide (logbytes_any b (40 + 1) S23 w23 hS23)
        obtain ⟨z1, hz1⟩ : ∃ z1, z1 = S23.safe := ⟨_, rfl⟩
        rw [← hz1] at s23 h23 h24
        rw [← h23] at s24
        have hge : z0 ≤ z1 := h24
        have HZ1 := hide hz1
        clear hz1 h23 h24 s22 hc23 hB22 hbel
        go_wp2_with fail
        refine (unhide s23).mono ?_
        rintro e w24 ⟨rfl, rfl⟩
        go_wp2_with fail
        refine (unhide s24).mono ?_
        rintro e w25 ⟨v25, rfl, ho25, hb25⟩
        obtain ⟨A25, c25, hv25, _, _, _⟩ := own_slice ho25
        subst hv25
        have hB25 := hB23.trans (hb25.mono hB23.size)
        have hS25 := hS23.below hb25 (Nat.le_refl _)
        have s25 := hide (logsafe_any b (40 + 1) S23 w25 hS25)
        rw [← unhide HZ1] at s25
        clear hS23 hS25 ho25 hb25 s23 s24 hB23
        go_wp2_with fail
        refine (unhide s25).mono ?_
        rintro e w26 ⟨rfl, rfl⟩
        go_wp2_with fail
        go_ret
        exact ⟨by simp [hge], hB25⟩
end Go.Proofs.YtijgiieoinmjhaaDoor
