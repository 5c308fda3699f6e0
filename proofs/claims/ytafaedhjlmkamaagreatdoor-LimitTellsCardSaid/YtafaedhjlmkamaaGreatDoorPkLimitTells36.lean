/- Part 36 of what LawLimitTells needs: LimitTells. Conditions: as each lemma names. -/
import Derived.Test.YtafaedhjlmkamaaGreatDoorPkLimitTells20
import Derived.Test.YtafaedhjlmkamaaGreatDoorPkLimitTells28
import Derived.Test.YtafaedhjlmkamaaGreatDoorPkLimitTells30
import Derived.Test.YtafaedhjlmkamaaGreatDoorPkLimitTells34
import Derived.Test.YtafaedhjlmkamaaGreatDoorPkLimitTells35
/- LimitTells: the walk. Conditions: arguments read as data, and the handle that errors need. -/
namespace Go.Proofs.YtafaedhjlmkamaaGreatDoor
set_option linter.unusedVariables false
set_option linter.unusedSimpArgs false
open Go.RowKit

structure OneBox (w : World) (f way : Int) (Aw : Option Addr) (nw cw : Nat) (At : Option Addr) (nt ct : Nat) (wx : World) : Prop where
  below : Below w.heap.size w wx
  size : w.heap.size + 1 ≤ wx.heap.size
  a : Blk wx w.heap.size 27 #[.int .i64 f, .int .i64 way, .slice Aw nw cw, .slice At nt ct]
section
variable {w wx wy : World} {f way : Int} {Aw : Option Addr} {nw cw : Nat} {At : Option Addr} {nt ct : Nat}
theorem OneBox.next (h : OneBox w f way Aw nw cw At nt ct wx) (hb : Below wx.heap.size wx wy) : OneBox w f way Aw nw cw At nt ct wy :=
  ⟨h.below.trans (hb.mono (by have := h.size; omega)), Nat.le_trans h.size hb.size, h.a.below hb (by have := h.size; omega)⟩
theorem OneBox.cells (h : OneBox w f way Aw nw cw At nt ct wx) :
    wx.cell? ⟨w.heap.size, 0, none⟩ = some (.int .i64 f) ∧ wx.cell? ⟨w.heap.size, 1, none⟩ = some (.int .i64 way) ∧ wx.cell? ⟨w.heap.size, 2, none⟩ = some (.slice Aw nw cw) ∧ wx.cell? ⟨w.heap.size, 3, none⟩ = some (.slice At nt ct) := h.a.cells4
end
/-- a slice that reads as a short list -/
def EnSl (V : List Int) (v : Value) (w : World) : Prop := ∃ A n c, v = .slice A n c ∧ IReads w w.heap.size A n V ∧ n ≤ 100
theorem EnSl.below {V : List Int} {v : Value} {w w' : World} (h : EnSl V v w) (hb : Below w.heap.size w w') : EnSl V v w' := by
  obtain ⟨A, n, c, rfl, hr, hn⟩ := h
  exact ⟨A, n, c, rfl, (hr.below hb).more hb.size, hn⟩
theorem EnSl.nil_ (w : World) : EnSl [] (.slice none 0 0) w := ⟨none, 0, 0, rfl, IReads.nil_, by omega⟩
def stepCS (t : List Nd) (r : List Int) (fe : Int) : List Int := if stepsE t r fe = 0 then stepC t fe else []
def stepVS (t : List Nd) (r : List Int) (fe : Int) : List Int := if stepsE t r fe = 0 then stepV t r fe.toNat (stepC t fe) else []
theorem treeC_2 (t : List Nd) (fe : Int) : (treeC t fe).2 = treeE t fe := rfl
theorem limV_len {t : List Nd} {l : List Sp} (h : limitE t l = 0) : limV t l = endsV t l := by unfold limV; rw [if_pos h]

set_option maxRecDepth 100000 in
theorem rends_lim (A C : Option Addr) (m d n c : Nat) (t : List Nd) (l : List Sp) (hR : Right t n) (hs : spansE l = 0) (w : World) (ht : NReads w w.heap.size A m t) (hl : SReads w w.heap.size C n l) :
    Calls Tryz.prog 6 #[.slice A m d, .slice C n c] w (REndsPost (endsV t l) w) := by
  rw [← ends_ref hR hl.len (spans_wide hs)]
  exact rends_any A C m d n c t l hR w ht hl

set_option maxRecDepth 100000 in
set_option maxHeartbeats 16000000 in
theorem limitTells_walk (A C : Option Addr) (m d n c : Nat) (t : List Nd) (l : List Sp) (g : Gv) (O : Option Addr) (p pc : Nat) (o : List Sp) (D : Option Addr) (k q : Nat) (r : List Int) (fe : Int) (w : World) (he : ErrT w)
    (ht : NReads w w.heap.size A m t) (hl : SReads w w.heap.size C n l) (hg : GReads w w.heap.size g) (ho : SReads w w.heap.size O p o) (hr : IReads w w.heap.size D k r) (hm : m ≤ maxLen) (hn : n ≤ maxLen) (hp : p ≤ maxLen) (hk : k ≤ maxLen)
    (hC : C = none → c = 0) (hO : O = none → pc = 0) (hD : D = none → q = 0) :
    Calls Tryz.prog 3 #[.slice A m d, .slice C n c, g.val, .slice O p pc, .slice D k q, .int .i64 fe] w fun e w' => e = .returned (.bool true) ∧ Below w.heap.size w w' := by
  have cSp : Hid (∀ W, Below w.heap.size w W → Calls Tryz.prog 4 #[.slice C n c] W fun e w' => e = .returned (.int .i64 (spansE l)) ∧ ∃ q, w' = W.drewN q) := hide (fun W hB => rspans_any C n c _ l W (hl.below hB) hn)
  have cTr : Hid (∀ W, Below w.heap.size w W → Calls Tryz.prog 5 #[.slice A m d, .int .i64 n] W (RTPost t n W)) := hide (fun W hB => rtree_any A m d n t W ((ht.below hB).more hB.size) hm)
  have cEn : Hid (∀ W, limitE t l = 0 → Below w.heap.size w W → Calls Tryz.prog 6 #[.slice A m d, .slice C n c] W (REndsPost (limV t l) W)) := hide (fun W h0 hB => by
    obtain ⟨h1, h2⟩ := limitE_0 h0
    rw [limV_len h0]
    rw [hl.len] at h2
    exact rends_lim A C m d n c t l h2 h1 W ((ht.below hB).more hB.size) ((hl.below hB).more hB.size))
  have cLT : Hid (∀ W, Below w.heap.size w W → Calls Tryz.prog 7 #[.slice A m d, .slice C n c] W fun e w' => e = .returned (.tuple #[.int .i64 (limV t l).low, .int .i64 (limV t l).high, errV (limitE t l)]) ∧ Below W.heap.size W w') := hide (fun W hB => limTree_any A C m d n c t l W ((ht.below hB).more hB.size) ((hl.below hB).more hB.size) hm hn hC)
  have cLR : Hid (∀ W, Below w.heap.size w W → Calls Tryz.prog 9 #[.slice A m d, .slice C n c] W (LRowsPost t l W)) := hide (fun W hB => limRows_any A C m d n c t l W ((ht.below hB).more hB.size) ((hl.below hB).more hB.size) hm hn hC)
  have cRG : Hid (∀ W, Below w.heap.size w W → Calls Tryz.prog 11 #[g.val] W fun e w' => e = .returned (.int .i64 g.e) ∧ Below W.heap.size W w') := hide (fun W hB => rgrove_any g W ((hg.below hB).more hB.size))
  have cSo : Hid (∀ W, Below w.heap.size w W → Calls Tryz.prog 4 #[.slice O p pc] W fun e w' => e = .returned (.int .i64 (spansE o)) ∧ ∃ q, w' = W.drewN q) := hide (fun W hB => rspans_any O p pc _ o W (ho.below hB) hp)
  have cLG : Hid (∀ W, Below w.heap.size w W → Calls Tryz.prog 13 #[g.val, .slice O p pc] W fun e w' => e = .returned (.tuple #[.int .i64 (limGV g o).1, .int .i64 (limGV g o).2, errV (limGE g o)]) ∧ Below W.heap.size W w') := hide (fun W hB => limGrove_any g O p pc o W ((hg.below hB).more hB.size) ((ho.below hB).more hB.size) hp hO)
  have cRR : Hid (∀ W, Below w.heap.size w W → Calls Tryz.prog 14 #[.slice A m d, .slice D k q] W fun e w' => e = .returned (.int .i64 (readyE t r)) ∧ Below W.heap.size W w') := hide (fun W hB => rready_any A D m d k q t r W ((ht.below hB).more hB.size) ((hr.below hB).more hB.size) hm hk)
  have cSt : Hid (∀ W, Below w.heap.size w W → Calls Tryz.prog 17 #[.slice A m d, .slice D k q, .int .i64 fe] W (StepsPost t r fe W)) := hide (fun W hB => Steps_any A D m d k q t r fe W ((ht.below hB).more hB.size) ((hr.below hB).more hB.size) hm hk hD)
  have cRB : Hid (∀ W v6 v7, limGE g o = 0 → Below w.heap.size w W → IOwn W w.heap.size v6 (g.ts.map fun t => (endsV t.l o).low) → IOwn W w.heap.size v7 (g.ts.map fun t => (endsV t.l o).high) →
      Calls Tryz.prog 12 #[g.val, v6, v7] W fun e w' => e = .returned (.tuple #[.int .i64 (limGV g o).1, .int .i64 (limGV g o).2]) ∧ Below W.heap.size W w') := hide (fun W v6 v7 h0 hb o6 o7 => by
    obtain ⟨A6, d6, rfl, r6, _, _, _⟩ := o6.slice_
    obtain ⟨A7, d7, rfl, r7, _, _, _⟩ := o7.slice_
    have hE : g.e = 0 := by
      unfold limGE at h0
      by_cases h : g.e = 0
      · exact h
      · rw [if_neg h] at h0; exact absurd h0 h
    have hG := groveE_right hE
    have e1 := hg.ws.len
    have e2 := hG.wlen
    have e3 := hG.most
    have e4 := hG.pos
    have hV : limGV g o = betwV g.way g.ws (g.ts.map fun t => (endsV t.l o).low) (g.ts.map fun t => (endsV t.l o).high) := by unfold limGV; rw [if_pos h0]
    rw [hV]
    refine rbetween_any g A6 A7 _ d6 _ d7 _ _ W ((hg.ws.below hb).more hb.size) r6 r7 (by simp; omega) (by simp; omega) (by omega) (by omega) hG.weights ?_ ?_
    · intro x hx
      obtain ⟨t, ht, rfl⟩ := List.mem_map.1 hx
      exact (endsV_in (right_of (hG.trees t ht)) o).1
    · intro x hx
      obtain ⟨t, ht, rfl⟩ := List.mem_map.1 hx
      exact (endsV_in (right_of (hG.trees t ht)) o).2)
  have HL3 : Hid (limitE t l = if spansE l = 0 then treeE t n else spansE l) := hide (by unfold limitE; rw [hl.len])
  have HG3 : Hid (limGE g o = if g.e = 0 then (if (p : Int) = g.f then spansE o else 3) else g.e) := hide (by unfold limGE; rw [ho.len])
  have HV3 : Hid (limGE g o ≠ 0 → limGV g o = (0, 0)) := hide (fun h => by unfold limGV; rw [if_neg h])
  have HT3 : Hid (limGE g o = 0 → ∀ x ∈ g.ts, Right x.l p ∧ spansE o = 0) := hide (fun h0 x hx => by
    have h1 := h0
    unfold limGE at h1
    by_cases h : g.e = 0
    · rw [if_pos h] at h1
      by_cases hf : (o.length : Int) = g.f
      · rw [if_pos hf] at h1
        have := right_of ((groveE_right h).trees x hx)
        rw [← hf, ho.len] at this
        exact ⟨this, h1⟩
      · rw [if_neg hf] at h1; cases h1
    · rw [if_neg h] at h1; exact absurd h1 h)
  have HP3 : Hid (limGE g o = 0 → g.ts.length ≤ 12) := hide (fun h0 => by
    unfold limGE at h0
    by_cases h : g.e = 0
    · exact (groveE_right h).most
    · rw [if_neg h] at h0; exact absurd h0 h)
  have HS3 : Hid (stepsE t r fe = if readyE t r = 0 then (if fe < 0 then 1 else if (k : Int) ≤ fe then 1 else 0) else readyE t r) := hide (by unfold stepsE; rw [hr.len])
  have HRd : Hid (readyE t r = 0 → Right t k) := hide (fun h => by have := (readyE_right h).2.1; rwa [hr.len] at this)
  have HLt := hide ht.len
  have HLr := hide hr.len
  obtain ⟨G, hGdef⟩ : ∃ G, G = g := ⟨_, rfl⟩
  have HG := hide hg
  rw [← hGdef] at cRG cLG cRB HG HG3 HV3 HT3 HP3
  obtain ⟨f, way, Aw, nw, cw, ws, At, nt, ct, ts⟩ := g
  have eG : G.val = .agg #[.int .i64 f, .int .i64 way, .slice Aw nw cw, .slice At nt ct] := by rw [hGdef]; rfl
  have eF : G.f = f := by rw [hGdef]
  have eTS : G.ts = ts := by rw [hGdef]
  rw [eG] at cRG cLG cRB
  rw [eF] at HG3
  rw [eTS] at cRB HT3 HP3
  have htr := hg.ts
  have hnt := hg.nt
  dsimp only at htr hnt
  unfold maxLen at hnt
  have HNT := hide htr.len
  clear hg eG eF eTS hGdef
  simp only [Gv.val]
  obtain ⟨W, hW, bg, hWs, hb0⟩ := gbox w f way Aw nw cw At nt ct
  have S0 : OneBox w f way Aw nw cw At nt ct W := ⟨hb0, by omega, bg⟩
  clear bg hWs hb0
  go_enter Tryz.func3, Tryz.ntmps3
  go_wp2_with fail
  rw [← hW]
  clear hW
  refine (unhide cSp W S0.below).mono ?_
  rintro e w1 ⟨rfl, q1, hw1⟩
  have S1 := S0.next (wy := w1) (by rw [hw1]; exact below_drewN (Below.refl _ _) _)
  clear S0 hw1
  obtain ⟨EL, hEL⟩ : ∃ E, E = limitE t l := ⟨_, rfl⟩
  have HEL := hide hEL
  go_upto_if 52 with (fail)
  go_cut [13] from 50 to 58 (fun s13 wx => s13 = .int .i64 EL ∧ OneBox w f way Aw nw cw At nt ct wx)
  case first =>
    by_cases h0 : spansE l = 0
    · have hb : (spansE l == 0) = true := by simpa using h0
      have H1 : Hid (EL = treeE t n) := hide (by rw [unhide HEL, unhide HL3, if_pos h0])
      rw [hb]
      clear h0 hb hEL
      go_wp2_with fail
      refine (unhide cTr _ S1.below).mono ?_
      rintro e w2 ⟨rfl, hb2⟩
      have S2 := S1.next hb2
      clear S1 hb2
      go_wp2_with fail
      go_meet
      case rel => exact ⟨by rw [unhide H1, treeC_2], S2⟩
    · have hb : (spansE l == 0) = false := by simpa using h0
      have H1 : Hid (EL = spansE l) := hide (by rw [unhide HEL, unhide HL3, if_neg h0])
      rw [hb]
      clear h0 hb hEL
      go_wp2_with fail
      go_meet
      case rel => exact ⟨by rw [unhide H1], S1⟩
  case rest =>
    obtain ⟨rfl, S2⟩ := hcut
    clear S1 cSp cTr
    obtain ⟨V, hV⟩ : ∃ V, V = limV t l := ⟨_, rfl⟩
    have HV : Hid (EL ≠ 0 → V = en0) := hide (fun h => by rw [hV]; unfold limV; rw [if_neg (by rw [← hEL]; exact h)])
    unfold LRowsPost at cLR
    rw [← hV] at cEn cLT cLR
    rw [← hEL] at cEn cLT cLR
    clear hEL hV
    go_upto_if 61 with (fail)
    go_cut [14, 15, 16, 17] from 59 to 69 (fun s14 s15 s16 s17 wx => s14 = .int .i64 V.low ∧ s15 = .int .i64 V.high ∧ EnSl V.least s16 wx ∧ EnSl V.most s17 wx ∧ OneBox w f way Aw nw cw At nt ct wx)
    case first =>
      by_cases h0 : EL = 0
      · have hb : (EL == 0) = true := by simpa using h0
        have hc := hide (unhide cEn _ h0 S2.below)
        rw [hb]
        clear h0 hb
        go_wp2_with fail
        refine (unhide hc).mono ?_
        rintro e w2 ⟨A1, n1, c1, A2, n2, c2, rfl, h1, h2, z1, z2, hb2⟩
        have S3 := S2.next hb2
        have E1 : EnSl V.least (.slice A1 n1 c1) w2 := ⟨_, _, _, rfl, h1, by omega⟩
        have E2 : EnSl V.most (.slice A2 n2 c2) w2 := ⟨_, _, _, rfl, h2, by omega⟩
        clear hc S2 hb2 h1 h2
        go_wp2_with fail
        go_meet
        case rel => exact ⟨rfl, rfl, E1, E2, S3⟩
      · have hb : (EL == 0) = false := by simpa using h0
        have HE := hide (unhide HV h0)
        rw [hb]
        clear h0 hb
        go_wp2_with fail
        go_meet
        case rel => exact ⟨by rw [unhide HE]; rfl, by rw [unhide HE]; rfl, by rw [unhide HE]; exact EnSl.nil_ _, by rw [unhide HE]; exact EnSl.nil_ _, S2⟩
    case rest =>
      obtain ⟨rfl, rfl, E1, E2, S3⟩ := hcut
      clear S2 cEn HV
      go_wp2_with fail
      refine (unhide cLT _ S3.below).mono ?_
      rintro e w4 ⟨rfl, hb4⟩
      have S4 := S3.next hb4
      have E1' := E1.below hb4
      have E2' := E2.below hb4
      clear S3 hb4 E1 E2 cLT
      go_wp2_with fail
      refine (error_any _ _ _ (he.below S4.below he.lt)).mono ?_
      rintro e w5 ⟨rfl, hb5⟩
      rw [beq_self_eq_true]
      have S5 := S4.next hb5
      have E1 := E1'.below hb5
      have E2 := E2'.below hb5
      clear S4 hb5 E1' E2'
      go_wp2_with fail
      refine (unhide cLR _ S5.below).mono ?_
      rintro e w6 ⟨A1, n1, c1, A2, n2, c2, rfl, h1, h2, _, _, _, _, hb6⟩
      have S6 := S5.next hb6
      have E1' := E1.below hb6
      have E2' := E2.below hb6
      clear S5 hb6 E1 E2 cLR
      go_wp2_with fail
      refine (error_any _ _ _ (he.below S6.below he.lt)).mono ?_
      rintro e w7 ⟨rfl, hb7⟩
      rw [beq_self_eq_true]
      have S7 := S6.next hb7
      obtain ⟨A3, n3, c3, rfl, r3, m3⟩ := E1'.below hb7
      obtain ⟨A4, n4, c4, rfl, r4, m4⟩ := E2'.below hb7
      have r1 := (h1.below hb7).more hb7.size
      have r2 := (h2.below hb7).more hb7.size
      have m1 : n1 ≤ 100 := by have e1 := r1.len; have e2 := r3.len; omega
      have m2 : n2 ≤ 100 := by have e1 := r2.len; have e2 := r4.len; omega
      clear S6 hb7 E1' E2' h1 h2
      go_wp2_with fail
      refine (ints_any _ _ _ _ _ _ V.least V.least _ _ _ r1 r3 (by unfold maxLen; omega) (by unfold maxLen; omega)).mono ?_
      rintro e w8 ⟨rfl, q8, rfl⟩
      rw [beq_self_eq_true]
      have S8 := S7.next (below_drewN (Below.refl _ w7) q8)
      have r2' := r2.drewN q8
      have r4' := r4.drewN q8
      clear S7 r1 r3 r2 r4
      generalize w7.drewN q8 = w8 at *
      go_wp2_with fail
      refine (ints_any _ _ _ _ _ _ V.most V.most _ _ _ r2' r4' (by unfold maxLen; omega) (by unfold maxLen; omega)).mono ?_
      rintro e w9 ⟨rfl, q9, rfl⟩
      rw [beq_self_eq_true]
      have S9 := S8.next (below_drewN (Below.refl _ w8) q9)
      clear S8 r2' r4'
      generalize w8.drewN q9 = w9 at *
      obtain ⟨lo, hlo⟩ : ∃ x, x = V.low := ⟨_, rfl⟩
      obtain ⟨hi, hhi⟩ : ∃ x, x = V.high := ⟨_, rfl⟩
      rw [← hlo, ← hhi]
      have e1 : (lo != lo) = false := by simp
      have e2 : (hi != hi) = false := by simp
      obtain ⟨x0, x1, x2, x3⟩ := S9.cells
      clear hlo hhi
      go_wp2_with fail
      clear e1 e2
      refine (unhide cRG _ S9.below).mono ?_
      rintro e w10 ⟨rfl, hb10⟩
      have S10 := S9.next hb10
      clear S9 hb10 x0 x1 x2 x3 cRG
      obtain ⟨GE, hGE⟩ : ∃ E, E = G.e := ⟨_, rfl⟩
      rw [← hGE] at HG3 ⊢
      clear hGE
      obtain ⟨x0, x1, x2, x3⟩ := S10.cells
      go_upto_region 18 with (fail)
      obtain ⟨b1, hb1⟩ : ∃ b, b = (GE == 0 && ((p : Int) != f)) := ⟨_, rfl⟩
      have HB1 := hide hb1
      clear hb1
      go_cut [130] from 119 to 130 (fun s wx => s = .bool b1 ∧ wx = w10)
      case first =>
        cases hA : (GE == 0)
        · have HQ : Hid (b1 = false) := hide (by rw [unhide HB1, hA]; rfl)
          go_wp2_with fail
          go_meet
          case rel => exact ⟨by rw [unhide HQ], rfl⟩
        · have HQ : Hid (b1 = ((p : Int) != f)) := hide (by rw [unhide HB1, hA]; rfl)
          go_wp2_with fail
          go_meet
          case rel => exact ⟨by rw [unhide HQ], rfl⟩
      case rest =>
        obtain ⟨rfl, rfl⟩ := hcut
        go_upto_if 130 with (fail)
        obtain ⟨E2, hE2⟩ : ∃ E, E = if b1 = true then 3 else GE := ⟨_, rfl⟩
        have HE2 := hide hE2
        clear hE2
        go_cut [13] from 119 to 131 (fun s13 wx => s13 = .int .i64 E2 ∧ wx = wc)
        case first =>
          cases b1
          · have HQ : Hid (E2 = GE) := hide (by rw [unhide HE2]; rfl)
            go_wp2_with fail
            go_meet
            case rel => exact ⟨by rw [unhide HQ], rfl⟩
          · have HQ : Hid (E2 = 3) := hide (by rw [unhide HE2]; rfl)
            go_wp2_with fail
            go_meet
            case rel => exact ⟨by rw [unhide HQ], rfl⟩
        case rest =>
          obtain ⟨rfl, rfl⟩ := hcut
          clear x0 x1 x2 x3
          obtain ⟨E3, hE3⟩ : ∃ E, E = limGE G o := ⟨_, rfl⟩
          have HE3 : Hid (E3 = if E2 = 0 then spansE o else E2) := hide (by
            rw [hE3, unhide HG3, unhide HE2, unhide HB1]
            by_cases hA : GE = 0
            · by_cases hB : (p : Int) = f <;> simp [hA, hB]
            · have : (GE == 0) = false := by simpa using hA
              simp [hA, this])
          rw [← hE3] at cRB cLG HV3 HT3 HP3
          clear hE3 HG3 HE2 HB1
          go_upto_if 132 with (fail)
          go_cut [13] from 131 to 134 (fun s13 wx => s13 = .int .i64 E3 ∧ OneBox w f way Aw nw cw At nt ct wx)
          case first =>
            by_cases h0 : E2 = 0
            · have hb : (E2 == 0) = true := by simpa using h0
              have H1 : Hid (E3 = spansE o) := hide (by rw [unhide HE3, if_pos h0])
              rw [hb]
              clear h0 hb
              go_wp2_with fail
              refine (unhide cSo _ S10.below).mono ?_
              rintro e w11 ⟨rfl, q11, rfl⟩
              have S11 := S10.next (below_drewN (Below.refl _ _) q11)
              clear S10
              go_wp2_with fail
              go_meet
              case rel => exact ⟨by rw [unhide H1], S11⟩
            · have hb : (E2 == 0) = false := by simpa using h0
              have H1 : Hid (E3 = E2) := hide (by rw [unhide HE3, if_neg h0])
              rw [hb]
              clear h0 hb
              go_wp2_with fail
              go_meet
              case rel => exact ⟨by rw [unhide H1], S10⟩
          case rest =>
            obtain ⟨rfl, S11⟩ := hcut
            clear S10 HE3 cSo
            obtain ⟨GV, hGV⟩ : ∃ GV, GV = limGV G o := ⟨_, rfl⟩
            rw [← hGV] at cRB cLG HV3
            clear hGV
            go_upto_if 136 with (fail)
            go_cut [14, 15] from 135 to 170 (fun s14 s15 wx => s14 = .int .i64 GV.1 ∧ s15 = .int .i64 GV.2 ∧ OneBox w f way Aw nw cw At nt ct wx)
            case first =>
              by_cases h0 : E3 = 0
              case neg =>
                have hb : (E3 == 0) = false := by simpa using h0
                have H1 := hide (unhide HV3 h0)
                rw [hb]
                clear h0 hb
                go_wp2_with fail
                go_meet
                case rel => exact ⟨by rw [unhide H1], by rw [unhide H1], S11⟩
              have hb : (E3 == 0) = true := by simpa using h0
              have hT := hide (unhide HT3 h0)
              have hP := unhide HP3 h0
              rw [unhide HNT] at hP
              have cB := hide (fun W v6 v7 hB o6 o7 => unhide cRB W v6 v7 h0 hB o6 o7)
              rw [hb]
              clear h0 hb
              go_wp2_with fail
              go_loopw [27, 28, 29] (fun v6 v7 i wr => ∃ j : Nat, j ≤ nt ∧ i = .int .i64 j ∧ wr.ownsRow (w.heap.size + 1) 3 1 v6 j (((ts.map fun t => (endsV t.l o).low).take j).map (Value.int .i64)) ∧
                  wr.ownsRow (w.heap.size + 1) 3 1 v7 j (((ts.map fun t => (endsV t.l o).high).take j).map (Value.int .i64)) ∧ Apart v6 v7 ∧ OneBox w f way Aw nw cw At nt ct wr) (fun _ _ i _ => nt - (Lib.intOf i).toNat)
              case atStart => exact ⟨0, Nat.zero_le _, rfl, World.ownsRow_nil _ _ _ _, World.ownsRow_nil _ _ _ _, Apart.nil_ _ _ _, S11⟩
              case round =>
                clear S11
                obtain ⟨j, hj, rfl, own6, own7, hap, SR⟩ := hrel
                obtain ⟨x0, x1, x2, x3⟩ := SR.cells
                clear x0 x1 x2
                by_cases hlt : j < nt
                · obtain ⟨b, o', T, rfl, _, hx, hcx, hok⟩ := (htr.below SR.below).get hlt
                  obtain ⟨hRt, hso⟩ := unhide hT T (List.mem_of_getElem? hx)
                  have H6 : Hid ((ts.map fun t => (endsV t.l o).low).take (j + 1) = (ts.map fun t => (endsV t.l o).low).take j ++ [(endsV T.l o).low]) := hide (take_next (by rw [List.getElem?_map, hx]; rfl))
                  have H7 : Hid ((ts.map fun t => (endsV t.l o).high).take (j + 1) = (ts.map fun t => (endsV t.l o).high).take j ++ [(endsV T.l o).high]) := hide (take_next (by rw [List.getElem?_map, hx]; rfl))
                  have hrr := hok.reads
                  obtain ⟨tA, tn, tc, tl⟩ := T
                  dsimp only at hcx hrr H6 H7 hRt
                  have hc := hide (rends_lim tA O tn tc p pc tl o hRt hso wr (hrr.more SR.below.size) ((ho.below SR.below).more SR.below.size))
                  obtain ⟨EN, hEN⟩ : ∃ E, E = endsV tl o := ⟨_, rfl⟩
                  rw [← hEN] at H6 H7 hc
                  clear hEN hx hok hRt hso
                  go_wp2_with fail
                  refine (unhide hc).mono ?_
                  rintro e w3 ⟨A1, n1, c1, A2, n2, c2, rfl, h1, h2, z1, z2, hb3⟩
                  have SR1 := SR.next hb3
                  have o6 := own_below own6 hb3
                  have o7 := own_below own7 hb3
                  have hs3 := SR1.size
                  have hj9 : j < 1000000000 := by omega
                  obtain ⟨elo, ehi, els, ems, eso⟩ := EN
                  dsimp only at H6 H7 ⊢
                  clear h1 h2 hb3 own6 own7 SR x3 hc hcx hrr
                  go_upto_region 31 with (at_builtin; refine app_one2 elem_int (.tmp 156) (.tmp 158) [.int .i64 elo] rfl rfl rfl o6 rfl rfl rfl (ints_oneCell .i64 [elo]) hj9 hs3 ?_; intro v6' w4 o6'' hb4 hg4 hn4)
                  obtain ⟨o7'', hap'⟩ := own_aside o7 o6 hap.symm hg4 hn4
                  have SR3 : OneBox w f way Aw nw cw (some ⟨b, o', none⟩) nt ct w4 := ⟨SR1.below.trans (hb4.mono (by omega)), by have := hb4.size; omega, SR1.a.below hb4 (by omega)⟩
                  have hs4 := SR3.size
                  clear o6 o7 hap hg4 hn4 hb4 SR1 hs3
                  go_wp2_with (at_builtin; refine app_one2 elem_int (.tmp 160) (.tmp 162) [.int .i64 ehi] rfl rfl rfl o7'' rfl rfl rfl (ints_oneCell .i64 [ehi]) hj9 hs4 ?_; intro v7' w5 o7x hb5 hg5 hn5)
                  obtain ⟨o6x', hap2⟩ := own_aside o6'' o7'' hap'.symm hg5 hn5
                  have SR4 : OneBox w f way Aw nw cw (some ⟨b, o', none⟩) nt ct w5 := ⟨SR3.below.trans (hb5.mono (by omega)), by have := hb5.size; omega, SR3.a.below hb5 (by omega)⟩
                  clear SR3 o6'' o7'' hap' hg5 hn5 hb5
                  go_wp2_with fail
                  go_roundw
                  case rel => exact ⟨j + 1, by omega, by go_num, by rw [unhide H6, List.map_append]; exact o6x', by rw [unhide H7, List.map_append]; exact o7x, hap2, SR4⟩
                  case measure => simp [Lib.intOf]; omega
                · obtain rfl : j = nt := by omega
                  rw [List.take_of_length_le (by rw [List.length_map, unhide HNT]; exact Nat.le_refl _)] at own6 own7
                  have o6 : IOwn wr w.heap.size u27 (ts.map fun t => (endsV t.l o).low) := by
                    have := own_low own6 (show w.heap.size ≤ w.heap.size + 1 by omega)
                    unfold IOwn; rw [List.length_map, unhide HNT]; exact this
                  have o7 : IOwn wr w.heap.size u28 (ts.map fun t => (endsV t.l o).high) := by
                    have := own_low own7 (show w.heap.size ≤ w.heap.size + 1 by omega)
                    unfold IOwn; rw [List.length_map, unhide HNT]; exact this
                  have hcon := hide (unhide cB wr u27 u28 SR.below o6 o7)
                  clear own6 own7 o6 o7 x3 cB
                  obtain ⟨x0, x1, x2, x3⟩ := SR.cells
                  go_wp2_with fail
                  refine (unhide hcon).mono ?_
                  rintro e w5 ⟨rfl, hb5⟩
                  have SR2 := SR.next hb5
                  clear hcon SR hb5 x0 x1 x2 x3
                  go_wp2_with fail
                  go_meet
                  case rel => exact ⟨rfl, rfl, SR2⟩
            case rest =>
              obtain ⟨rfl, rfl, S12⟩ := hcut
              clear S11 cRB HV3 HT3 HP3
              obtain ⟨x0, x1, x2, x3⟩ := S12.cells
              go_wp2_with fail
              refine (unhide cLG _ S12.below).mono ?_
              rintro e w13 ⟨rfl, hb13⟩
              have S13 := S12.next hb13
              clear S12 hb13 x0 x1 x2 x3 cLG
              obtain ⟨g1, g2⟩ := GV
              dsimp only
              go_wp2_with fail
              refine (error_any _ _ _ (he.below S13.below he.lt)).mono ?_
              rintro e w14 ⟨rfl, hb14⟩
              rw [beq_self_eq_true]
              have B14 := (S13.next hb14).below
              clear S13 hb14
              have e1 : (g1 != g1) = false := by simp
              have e2 : (g2 != g2) = false := by simp
              go_wp2_with fail
              clear e1 e2
              refine (unhide cRR _ B14).mono ?_
              rintro e w15 ⟨rfl, hb15⟩
              have B15 := B14.trans (hb15.mono B14.size)
              clear B14 hb15 cRR
              obtain ⟨RE, hRE⟩ : ∃ E, E = readyE t r := ⟨_, rfl⟩
              rw [← hRE] at HS3 HRd ⊢
              clear hRE
              obtain ⟨b2, hb2⟩ : ∃ b, b = (RE == 0 && (decide (fe < 0) || decide ((k : Int) ≤ fe))) := ⟨_, rfl⟩
              have HB2 := hide hb2
              clear hb2
              go_upto_region 38 with (fail)
              go_cut [207] from 192 to 207 (fun s wx => s = .bool b2 ∧ wx = w15)
              case first =>
                cases hA : (RE == 0)
                · have HQ : Hid (b2 = false) := hide (by rw [unhide HB2, hA]; rfl)
                  go_wp2_with fail
                  go_meet
                  case rel => exact ⟨by rw [unhide HQ], rfl⟩
                · cases hB : decide (fe < 0)
                  · have HQ : Hid (b2 = decide ((k : Int) ≤ fe)) := hide (by rw [unhide HB2, hA, hB]; rfl)
                    go_wp2_with fail
                    go_meet
                    case rel => exact ⟨by rw [unhide HQ], rfl⟩
                  · have HQ : Hid (b2 = true) := hide (by rw [unhide HB2, hA, hB]; rfl)
                    go_wp2_with fail
                    go_meet
                    case rel => exact ⟨by rw [unhide HQ], rfl⟩
              case rest =>
                obtain ⟨rfl, rfl⟩ := hcut
                go_upto_if 207 with (fail)
                obtain ⟨ES, hES⟩ : ∃ E, E = stepsE t r fe := ⟨_, rfl⟩
                have HES : Hid (ES = if b2 = true then 1 else RE) := hide (by
                  rw [hES, unhide HS3, unhide HB2]
                  by_cases hA : RE = 0
                  · by_cases hB : fe < 0
                    · simp [hA, hB]
                    · by_cases hC : (k : Int) ≤ fe <;> simp [hA, hB, hC]
                  · have : (RE == 0) = false := by simpa using hA
                    simp [hA, this])
                have HOK : Hid (ES = 0 → Right t k ∧ 0 ≤ fe ∧ fe < k) := hide (fun h => by
                  rw [hES, unhide HS3] at h
                  by_cases hA : RE = 0
                  · rw [if_pos hA] at h
                    by_cases hB : fe < 0
                    · rw [if_pos hB] at h; cases h
                    · rw [if_neg hB] at h
                      by_cases hC : (k : Int) ≤ fe
                      · rw [if_pos hC] at h; cases h
                      · exact ⟨unhide HRd hA, by omega, by omega⟩
                  · rw [if_neg hA] at h; exact absurd h hA)
                have HEQ := hide hES
                clear hES HS3 HRd HB2
                go_cut [13] from 192 to 208 (fun s13 wx => s13 = .int .i64 ES ∧ wx = wc)
                case first =>
                  cases b2
                  · have HQ : Hid (ES = RE) := hide (by rw [unhide HES]; rfl)
                    go_wp2_with fail
                    go_meet
                    case rel => exact ⟨by rw [unhide HQ], rfl⟩
                  · have HQ : Hid (ES = 1) := hide (by rw [unhide HES]; rfl)
                    go_wp2_with fail
                    go_meet
                    case rel => exact ⟨by rw [unhide HQ], rfl⟩
                case rest =>
                  obtain ⟨rfl, rfl⟩ := hcut
                  clear HES
                  go_upto_if 209 with (fail)
                  go_cut [35, 36] from 208 to 294 (fun s35 s36 wx => EnSl (stepCS t r fe) s35 wx ∧ EnSl (stepVS t r fe) s36 wx ∧ Below w.heap.size w wx)
                  case first =>
                    by_cases h0 : ES = 0
                    case neg =>
                      have hb : (ES == 0) = false := by simpa using h0
                      have H1 : Hid (stepCS t r fe = []) := hide (by unfold stepCS; rw [if_neg (by rw [← unhide HEQ]; exact h0)])
                      have H2 : Hid (stepVS t r fe = []) := hide (by unfold stepVS; rw [if_neg (by rw [← unhide HEQ]; exact h0)])
                      rw [hb]
                      clear h0 hb
                      go_wp2_with fail
                      go_meet
                      case rel => exact ⟨by rw [unhide H1]; exact EnSl.nil_ _, by rw [unhide H2]; exact EnSl.nil_ _, B15⟩
                    have hb : (ES == 0) = true := by simpa using h0
                    obtain ⟨hR, h1, h2⟩ := unhide HOK h0
                    obtain ⟨ff, rfl⟩ : ∃ ff : Nat, fe = ff := ⟨fe.toNat, by omega⟩
                    have HCS : Hid (stepCS t r ff = stepC t ff) := hide (by unfold stepCS; rw [if_pos (by rw [← unhide HEQ]; exact h0)])
                    have HVS : Hid (stepVS t r ff = valOf t (r.set ff (-2000000)) :: (stepC t ff).map fun c => valOf t (r.set ff c)) := hide (by
                      unfold stepVS
                      rw [if_pos (by rw [← unhide HEQ]; exact h0), Int.toNat_natCast, stepV_low hR (unhide HLr) (by omega)])
                    have hm63 : m ≤ 63 := by have := hR.most; have := unhide HLt; omega
                    have hfk : ff < k := by omega
                    have hk8 : k ≤ 8 := by have := hR.fe8; omega
                    have HR := hide hR
                    rw [hb]
                    clear h0 hb h1 h2 hR HOK HEQ cSt
                    obtain ⟨W0, hW0⟩ : ∃ W, W = wc := ⟨_, rfl⟩
                    subst hW0
                    have hz15 := B15.size
                    go_wp2_with fail
                    go_loopw [37, 38] (fun v i wr => ∃ j : Nat, j ≤ m ∧ i = .int .i64 j ∧ IOwn wr W0.heap.size v (cutsOf (t.take j) ff) ∧ Below W0.heap.size W0 wr) (fun _ i _ => m - (Lib.intOf i).toNat)
                    case atStart => exact ⟨0, Nat.zero_le _, rfl, by simpa [cutsOf] using IOwn.nil_ _ _, Below.refl _ _⟩
                    case round =>
                      obtain ⟨j, hj, rfl, hown, hbel⟩ := hrel
                      have hsz := hbel.size
                      have hBw := B15.trans (hbel.mono hz15)
                      by_cases hlt : j < m
                      · obtain ⟨b, o1, x, rfl, hbb, hx, y0, y1, y2, y3, y4, y5⟩ := (ht.below hBw).get hlt
                        have hcl := cutsOf_len (t.take j) ff
                        have hj63 : (t.take j).length ≤ j := List.length_take_le _ _
                        have hk9 : (cutsOf (t.take j) ff).length < 1000000000 := by omega
                        by_cases hf : x.f = ff
                        · have HY := hide (cuts_hit hx hf)
                          obtain ⟨xf, xc, xl, xr, xs, xv⟩ := x
                          simp only at hf y0 y1 y2 y3 y4 y5 HY
                          subst hf
                          have dq : ((ff : Int) == (ff : Int)) = true := by simp
                          clear hx
                          go_wp2_with (at_builtin; refine app_one elem_int (.tmp 223) (.tmp 229) [.int .i64 xc] rfl rfl rfl hown rfl rfl rfl (ints_oneCell .i64 [xc]) hk9 hsz ?_; intro v' w2 hown2 hb2 hne _)
                          have hown3 : IOwn w2 W0.heap.size v' (cutsOf (t.take (j + 1)) ff) := by rw [unhide HY]; unfold IOwn; rw [List.length_append, List.map_append]; exact hown2
                          clear hown2
                          go_wp2_with fail
                          go_roundw
                          case rel => exact ⟨j + 1, by omega, by go_num, hown3, hbel.trans hb2⟩
                          case measure => simp [Lib.intOf] <;> omega
                        · have HY := hide (cuts_miss hx hf)
                          have dq : (x.f == (ff : Int)) = false := by simpa using hf
                          obtain ⟨xf, xc, xl, xr, xs, xv⟩ := x
                          simp only at y0 y1 y2 y3 y4 y5 HY dq
                          clear hx hf
                          go_wp2_with fail
                          go_roundw
                          case rel => exact ⟨j + 1, by omega, by go_num, by rw [unhide HY]; exact hown, hbel⟩
                          case measure => simp [Lib.intOf] <;> omega
                      · obtain rfl : j = m := by omega
                        have hcl := cutsOf_len t ff
                        rw [List.take_of_length_le (by rw [unhide HLt]; exact Nat.le_refl _)] at hown
                        have hcl63 : (cutsOf t ff).length ≤ 63 := by rw [unhide HLt] at hcl; omega
                        clear hcl
                        obtain ⟨A9, c9, rfl, hr9, hm9, _, _⟩ := hown.slice_
                        obtain ⟨L, hL⟩ : ∃ L, L = cutsOf t ff := ⟨_, rfl⟩
                        rw [← hL] at hr9 hcl63 ⊢
                        have hsl := sortL_len L
                        obtain ⟨N, hN⟩ : ∃ N, N = L.length := ⟨_, rfl⟩
                        rw [← hN] at hr9 hcl63 hsl ⊢
                        have hso := hide (rsorted_any A9 N c9 L wr hr9 (by omega))
                        have HSC : Hid (compactL (sortL L) = stepC t ff) := hide (by rw [hL]; rfl)
                        clear hown hr9 hm9 hL hN hbel hsz
                        go_wp2_with fail
                        refine (unhide hso).mono ?_
                        rintro e w3 ⟨v3, rfl, ho3, hb3⟩
                        have B3 := hBw.trans (hb3.mono hBw.size)
                        have hz3 := B3.size
                        obtain ⟨S, hS⟩ : ∃ S, S = sortL L := ⟨_, rfl⟩
                        rw [← hS] at ho3 HSC hsl
                        obtain ⟨A2, c2, rfl, hr2, _, _, _⟩ := ho3.slice_
                        rw [hsl] at hr2 ⊢
                        have HSN := hide hsl
                        clear hso hS hsl ho3 hb3 hBw
                        go_wp2_with fail
                        go_loopw [35, 39] (fun v i wr => ∃ kk : Nat, kk ≤ N ∧ i = .int .i64 kk ∧ wr.ownsRow w3.heap.size 3 1 v (uptoL S kk).length ((uptoL S kk).map (Value.int .i64)) ∧ Below w3.heap.size w3 wr) (fun _ i _ => N - (Lib.intOf i).toNat)
                        case atStart => exact ⟨0, Nat.zero_le _, rfl, by rw [uptoL_zero]; exact World.ownsRow_nil _ _ _ _, Below.refl _ _⟩
                        case round =>
                          obtain ⟨kk, hkk, rfl, hown, hbel⟩ := hrel
                          have hsz := hbel.size
                          by_cases hlt : kk < N
                          · rcases Nat.eq_zero_or_pos kk with rfl | hk0
                            · obtain ⟨b', o', y, rfl, hbl, hy, cy⟩ := (hr2.below hbel).get hlt
                              have HT := hide (uptoL_first hy)
                              have hbl' : b' < wr.heap.size := Nat.lt_of_lt_of_le hbl hsz
                              have HO0 := hide (uptoL_zero S)
                              rw [unhide HO0] at hown
                              rw [Nat.add_zero] at cy
                              clear hy
                              go_wp2_with fail
                              go_quiet (fail)
                              have bq := below_drewN (Below.refl wr.heap.size wr) nq
                              have cq := (bq.cell (p := ⟨b', o', none⟩) hbl').trans cy
                              have hownq : IOwn (wr.drewN nq) w3.heap.size _ [] := IOwn.below hown bq (Nat.le_refl _)
                              have hsq : w3.heap.size ≤ (wr.drewN nq).heap.size := Nat.le_trans hsz bq.size
                              have hbq := hbel.trans (bq.mono hsz)
                              generalize wr.drewN nq = wq at *
                              go_wp2_with (at_builtin; refine app_one elem_int (.tmp 253) (.tmp 258) [.int .i64 y] rfl rfl rfl hownq rfl rfl rfl (ints_oneCell .i64 [y]) (by simp) hsq ?_; intro v' w4 hown4 hb4 hne4 _)
                              go_roundw
                              case rel => exact ⟨1, by omega, by go_num, by rw [unhide HT]; exact hown4, hbq.trans hb4⟩
                              case measure => simp [Lib.intOf]; omega
                            · obtain ⟨jj, rfl⟩ : ∃ jj, kk = jj + 1 := ⟨kk - 1, by omega⟩
                              obtain ⟨b', o', y, rfl, hbl, hy, cy⟩ := (hr2.below hbel).get hlt
                              obtain ⟨_, _, z, e', _, hz, cz⟩ := (hr2.below hbel).get (k := jj) (by omega)
                              cases e'
                              have hbl' : b' < wr.heap.size := Nat.lt_of_lt_of_le hbl hsz
                              have e1 : (((jj : Int) + 1) == 0) = false := by rw [beq_eq_false_iff_ne]; omega
                              have hlen := uptoL_len S (jj + 1)
                              by_cases hyz : y = z
                              · have HT := hide (uptoL_skip hy hz hyz)
                                have d1 : (y != z) = false := by simpa using hyz
                                clear hy hz hyz
                                go_wp2_with fail
                                go_quiet (fail)
                                have bq := below_drewN (Below.refl wr.heap.size wr) nq
                                have hownq : IOwn (wr.drewN nq) w3.heap.size _ (uptoL S (jj + 1)) := IOwn.below hown bq (Nat.le_refl _)
                                have hbq := hbel.trans (bq.mono hsz)
                                go_wp2_with fail
                                go_roundw
                                case rel => exact ⟨jj + 1 + 1, by omega, by go_num, by rw [unhide HT]; exact hownq, hbq⟩
                                case measure => simp [Lib.intOf]; omega
                              · have HT := hide (uptoL_take hy hz hyz)
                                have d1 : (y != z) = true := by simpa using hyz
                                obtain ⟨U, hU⟩ : ∃ U, U = uptoL S (jj + 1) := ⟨_, rfl⟩
                                rw [← hU] at hown hlen HT
                                clear hy hz hyz hU
                                go_wp2_with fail
                                go_quiet (fail)
                                have bq := below_drewN (Below.refl wr.heap.size wr) nq
                                have cq := (bq.cell (p := ⟨b', o' + (jj + 1), none⟩) hbl').trans cy
                                have hownq : IOwn (wr.drewN nq) w3.heap.size _ U := IOwn.below hown bq (Nat.le_refl _)
                                have hsq : w3.heap.size ≤ (wr.drewN nq).heap.size := Nat.le_trans hsz bq.size
                                have hbq := hbel.trans (bq.mono hsz)
                                generalize wr.drewN nq = wq at *
                                have hO9 : U.length < 1000000000 := by omega
                                go_wp2_with (at_builtin; refine app_one elem_int (.tmp 253) (.tmp 258) [.int .i64 y] rfl rfl rfl hownq rfl rfl rfl (ints_oneCell .i64 [y]) hO9 hsq ?_; intro v' w4 hown4 hb4 hne4 _)
                                go_roundw
                                case rel => exact ⟨jj + 1 + 1, by omega, by go_num, by rw [unhide HT, List.length_append, List.map_append]; exact hown4, hbq.trans hb4⟩
                                case measure => simp [Lib.intOf]; omega
                          · obtain rfl : kk = N := by omega
                            have hfin : uptoL S kk = stepC t ff := by
                              have := uptoL_all S
                              rw [unhide HSN] at this
                              rw [this, unhide HSC]
                            have hlen := uptoL_len S kk
                            rw [hfin] at hown hlen
                            obtain ⟨CS, hCS⟩ : ∃ CS, CS = stepC t ff := ⟨_, rfl⟩
                            rw [← hCS] at hown hlen HCS HVS
                            have BD := B3.trans (hbel.mono hz3)
                            have hzD := BD.size
                            obtain ⟨A5, c5, rfl, hr5, _, _⟩ := own_slice hown
                            obtain ⟨wd, hwd⟩ : ∃ W, W = wr := ⟨_, rfl⟩
                            subst hwd
                            have hc5 : IReads wd wd.heap.size A5 CS.length CS := hr5
                            have hrD := (hr.below BD).more hzD
                            have hnil := World.ownsRow_nil wd wd.heap.size 3 1
                            clear hfin hown hbel hCS hr5 hr2 B3 hz3 hlt hsz
                            go_upto_region 56 with (at_builtin; refine app_many elem_int (.tmp 260) (.tmp 261) rfl rfl rfl hnil rfl hrD (ints_one r) (by omega) (Nat.le_refl _) ?_; intro v4 w4 ho4 hb4 hg4)
                            rw [Nat.zero_add, List.nil_append] at ho4
                            have B4 := BD.trans (hb4.mono hzD)
                            have hr4 := hc5.below hb4
                            have hz4 := hb4.size
                            rcases ho4.2 with ⟨_, h0⟩ | ⟨g, cap, cur, rfl, hg, hblk, hcap, _⟩
                            · omega
                            have hrw : IReads w4 w4.heap.size (some ⟨g, 0, none⟩) k r := Reads.of_own ho4
                            have hbk : Blk w4 g 3 cur := hblk
                            have hgl := hbk.lt
                            clear ho4 hblk hb4 hg4 hrD hnil hc5 BD
                            obtain ⟨_, _, y, e, _, _, cy⟩ := hrw.get hfk
                            cases e
                            rw [Nat.zero_add] at cy
                            have fy := hbk.frozen ff
                            have hrw2 := hrw.stored hfk (-2000000)
                            rw [Nat.zero_add] at hrw2
                            have hbk2 := hbk.set_ ff (.int .i64 (-2000000))
                            have hB5 := B4.setCell (p := ⟨g, ff, none⟩) (by show w.heap.size ≤ g; omega) (.int .i64 (-2000000))
                            have hr5 := Reads.setCell hr4 (p := ⟨g, ff, none⟩) hg (.int .i64 (-2000000))
                            have hs5 : (w4.setCell ⟨g, ff, none⟩ (.int .i64 (-2000000))).heap.size = w4.heap.size := by simp [World.setCell]
                            have hR5 : IReads (w4.setCell ⟨g, ff, none⟩ (.int .i64 (-2000000))) w4.heap.size (some ⟨g, 0, none⟩) k (r.set ff (-2000000)) := hrw2
                            have hz5 : w4.heap.size ≤ (w4.setCell ⟨g, ff, none⟩ (.int .i64 (-2000000))).heap.size := by rw [hs5]; exact Nat.le_refl _
                            clear hrw hrw2 hr4 hbk B4
                            go_wp2_with fail
                            clear cy fy
                            generalize w4.setCell ⟨g, ff, none⟩ (.int .i64 (-2000000)) = W5 at *
                            have hs6 := hB5.size
                            refine (rvalue_any A (some ⟨g, 0, none⟩) j d k cap t (r.set ff (-2000000)) W5 ((ht.below hB5).more hs6) (hR5.more hz5) (unhide HR)).mono ?_
                            rintro e w6 ⟨rfl, hb6⟩
                            have hB6 := hB5.trans (hb6.mono hs6)
                            have hR6 := hR5.below (hb6.mono hz5)
                            have hr6 := hr5.below (hb6.mono (by omega))
                            have hbk6 := hbk2.below hb6 (by omega)
                            have hz6 := Nat.le_trans hz5 hb6.size
                            obtain ⟨v0, hv0⟩ : ∃ v0, v0 = valOf t (r.set ff (-2000000)) := ⟨_, rfl⟩
                            rw [← hv0] at HVS ⊢
                            have hnil := World.ownsRow_nil w6 w6.heap.size 3 1
                            clear hv0 hb6 hR5 hr5 hbk2 hB5 hs6 hz5 hs5
                            go_wp2_with (at_builtin; refine app_one elem_int (.tmp 269) (.tmp 271) [.int .i64 v0] rfl rfl rfl hnil rfl rfl rfl (ints_oneCell .i64 [v0]) (by omega) (Nat.le_refl _) ?_; intro v7 w7 ho7 hb7 hne7 _)
                            have hB7 := hB6.trans (hb7.mono hB6.size)
                            have hR7 := hR6.below (hb7.mono hz6)
                            have hr7 := hr6.below (hb7.mono (by omega))
                            have hk7 := hbk6.below hb7 (by omega)
                            have hz7 := hb7.size
                            have ho7' : w7.ownsRow w6.heap.size 3 1 v7 1 ([v0].map (Value.int .i64)) := ho7
                            clear hnil ho7 hb7 hne7 hB6 hR6 hr6 hbk6
                            go_wp2_with fail
                            go_loopw [36, 42] (fun v i wr => ∃ pp : Nat, pp ≤ CS.length ∧ i = .int .i64 pp ∧ (∃ z, IReads wr w4.heap.size (some ⟨g, 0, none⟩) k (r.set ff z)) ∧ (∃ cs, Blk wr g 3 cs) ∧ IReads wr wd.heap.size A5 CS.length CS ∧ wr.ownsRow w6.heap.size 3 1 v (pp + 1) ((v0 :: (CS.take pp).map fun c => valOf t (r.set ff c)).map (Value.int .i64)) ∧ w6.heap.size ≤ wr.heap.size ∧ Below w.heap.size w wr) (fun _ i _ => CS.length - (Lib.intOf i).toNat)
                            case atStart => exact ⟨0, Nat.zero_le _, rfl, ⟨_, hR7⟩, ⟨_, hk7⟩, hr7, ho7', by omega, hB7⟩
                            case round =>
                              obtain ⟨pp, hp, rfl, ⟨z, hRz⟩, ⟨cs, hbk⟩, hCS, hown, hzr, hbel⟩ := hrel
                              have hsz := hbel.size
                              obtain ⟨A9, c9, rfl, hr9, _, _⟩ := own_slice hown
                              clear ho7' hR7 hr7 hk7 hB7
                              by_cases hlt : pp < CS.length
                              · obtain ⟨b9, o9, c, rfl, hb9, hxc, cc⟩ := hCS.get hlt
                                obtain ⟨_, _, y, e, _, _, cy⟩ := hRz.get hfk
                                cases e
                                rw [Nat.zero_add] at cy
                                have fy := hbk.frozen ff
                                have hRc := hRz.stored hfk c
                                rw [Nat.zero_add, List.set_set] at hRc
                                have hbkc := hbk.set_ ff (.int .i64 c)
                                have hBc := hbel.setCell (p := ⟨g, ff, none⟩) (by show w.heap.size ≤ g; omega) (.int .i64 c)
                                have hCc : IReads (wr.setCell ⟨g, ff, none⟩ (.int .i64 c)) wd.heap.size (some ⟨b9, o9, none⟩) CS.length CS := Reads.setCell hCS (p := ⟨g, ff, none⟩) hg (.int .i64 c)
                                have hoc := ownsRow_setCell_below hown (a := ⟨g, ff, none⟩) (by show g < w6.heap.size; omega) (.int .i64 c)
                                have hzc : (wr.setCell ⟨g, ff, none⟩ (.int .i64 c)).heap.size = wr.heap.size := by simp [World.setCell]
                                have HXC := hide (take_next hxc)
                                have hRd : IReads (wr.setCell ⟨g, ff, none⟩ (.int .i64 c)) w4.heap.size (some ⟨g, 0, none⟩) k (r.set ff c) := hRc
                                clear hRc hxc hCS hRz hbk hown hbel
                                go_wp2_with fail
                                clear cc cy fy
                                generalize wr.setCell ⟨g, ff, none⟩ (.int .i64 c) = Wc at *
                                have hsc := hBc.size
                                refine (rvalue_any A (some ⟨g, 0, none⟩) j d k cap t (r.set ff c) Wc ((ht.below hBc).more hsc) (hRd.more (by omega)) (unhide HR)).mono ?_
                                rintro e w8 ⟨rfl, hb8⟩
                                have hB8 := hBc.trans (hb8.mono hsc)
                                have hR8 := hRd.below (hb8.mono (by omega))
                                have hC8 := hCc.below (hb8.mono (by omega))
                                have hk8 := hbkc.below hb8 (by omega)
                                have ho8 := own_below hoc hb8
                                have hz8 := hb8.size
                                obtain ⟨v1, hv1⟩ : ∃ v1, v1 = valOf t (r.set ff c) := ⟨_, rfl⟩
                                rw [← hv1]
                                have HSV : Hid ((v0 :: (CS.take (pp + 1)).map fun c => valOf t (r.set ff c)) = (v0 :: (CS.take pp).map fun c => valOf t (r.set ff c)) ++ [v1]) := hide (by rw [unhide HXC, List.map_append, hv1]; rfl)
                                have hp9 : pp + 1 < 1000000000 := by omega
                                have hbs8 : w6.heap.size ≤ w8.heap.size := by omega
                                clear hv1 hb8 hRd hCc hbkc hoc hBc hsc
                                go_wp2_with (at_builtin; refine app_one elem_int (.tmp 289) (.tmp 291) [.int .i64 v1] rfl rfl rfl ho8 rfl rfl rfl (ints_oneCell .i64 [v1]) hp9 hbs8 ?_; intro v' w9 hown9 hb9' hne9 _)
                                have hown10 : w9.ownsRow w6.heap.size 3 1 v' (pp + 1 + 1) ((v0 :: (CS.take (pp + 1)).map fun c => valOf t (r.set ff c)).map (Value.int .i64)) := by rw [unhide HSV, List.map_append]; exact hown9
                                have hB9 := hB8.trans (hb9'.mono (by have := hB8.size; omega))
                                have hR9 := hR8.below (hb9'.mono (by omega))
                                have hC9 := hC8.below (hb9'.mono (by omega))
                                have hk9 := hk8.below hb9' (by omega)
                                have hz9 := hb9'.size
                                clear hown9 hb9'
                                go_wp2_with fail
                                go_roundw
                                case rel => exact ⟨pp + 1, by omega, by go_num, ⟨_, hR9⟩, ⟨_, hk9⟩, hC9, hown10, by omega, hB9⟩
                                case measure => simp [Lib.intOf]; omega
                              · obtain rfl : pp = CS.length := by omega
                                rw [List.take_length] at hown hr9
                                go_wp2_with fail
                                go_meet
                                case rel => exact ⟨⟨A5, CS.length, c5, rfl, by rw [unhide HCS]; exact hCS.more (by omega), by omega⟩, ⟨A9, CS.length + 1, c9, rfl, by rw [unhide HVS]; exact hr9, by omega⟩, hbel⟩
                  case rest =>
                    obtain ⟨⟨A5, n5, c5, rfl, r5, m5⟩, ⟨A6, n6, c6, rfl, r6, m6⟩, B16⟩ := hcut
                    clear B15 HOK
                    go_wp2_with fail
                    refine (unhide cSt _ B16).mono ?_
                    rintro e w17 ⟨A7, n7, c7, A8, n8, c8, C7, C8, rfl, r7, r8, hok, hno, hb17⟩
                    have B17 := B16.trans (hb17.mono B16.size)
                    have r5' := (r5.below hb17).more hb17.size
                    have r6' := (r6.below hb17).more hb17.size
                    have hC7 : C7 = stepCS t r fe ∧ C8 = stepVS t r fe := by
                      unfold stepCS stepVS
                      by_cases h : stepsE t r fe = 0
                      · rw [if_pos h, if_pos h]; exact hok h
                      · rw [if_neg h, if_neg h]
                        obtain ⟨z1, z2⟩ := hno h
                        have l1 := r7.len
                        have l2 := r8.len
                        exact ⟨List.length_eq_zero_iff.1 (by omega), List.length_eq_zero_iff.1 (by omega)⟩
                    obtain ⟨rfl, rfl⟩ := hC7
                    have m7 : n7 ≤ 100 := by have e1 := r7.len; have e2 := r5.len; omega
                    have m8 : n8 ≤ 100 := by have e1 := r8.len; have e2 := r6.len; omega
                    rw [← unhide HEQ]
                    clear hok hno hb17 B16 r5 r6 cSt
                    go_wp2_with fail
                    refine (error_any _ _ _ (he.below B17 he.lt)).mono ?_
                    rintro e w18 ⟨rfl, hb18⟩
                    rw [beq_self_eq_true]
                    have B18 := B17.trans (hb18.mono B17.size)
                    have r5 := (r5'.below hb18).more hb18.size
                    have r6 := (r6'.below hb18).more hb18.size
                    have r7' := (r7.below hb18).more hb18.size
                    have r8' := (r8.below hb18).more hb18.size
                    clear B17 hb18 r5' r6' r7 r8
                    go_wp2_with fail
                    refine (ints_any _ _ _ _ _ _ (stepCS t r fe) (stepCS t r fe) _ _ _ r7' r5 (by unfold maxLen; omega) (by unfold maxLen; omega)).mono ?_
                    rintro e w19 ⟨rfl, q19, rfl⟩
                    rw [beq_self_eq_true]
                    have r6' := r6.drewN q19
                    have r8 := r8'.drewN q19
                    have B19 := below_drewN B18 q19
                    clear r5 r6 r7' r8' B18
                    generalize w18.drewN q19 = w19 at *
                    go_wp2_with fail
                    refine (ints_any _ _ _ _ _ _ (stepVS t r fe) (stepVS t r fe) _ _ _ r8 r6' (by unfold maxLen; omega) (by unfold maxLen; omega)).mono ?_
                    rintro e w20 ⟨rfl, q20, rfl⟩
                    rw [beq_self_eq_true]
                    have B20 := below_drewN B19 q20
                    clear r8 r6' B19
                    generalize w19.drewN q20 = w20 at *
                    go_wp2_with fail
                    go_ret
                    exact ⟨rfl, B20⟩
end Go.Proofs.YtafaedhjlmkamaaGreatDoor
