/- Part 41 of what LawFlatTells needs: FlatTells. Conditions: as each lemma names. -/
import Derived.Test.YtcneacooedefjaaDoorPkFlatTells40
/- FlatTells: the walk. Conditions: arguments read as data; the variable errors.errorType holds the handle of error. -/
namespace Go.Proofs.YtcneacooedefjaaDoor
set_option linter.unusedVariables false
set_option linter.unusedSimpArgs false
open Go.RowKit

theorem calls_nameF {P : Program} {f : FuncId} {xs : Array Value} {W : World} {Q : Ending → World → Prop} (h : ∀ X, X = W → Calls P f xs X Q) : Calls P f xs W Q := h W rfl

set_option maxRecDepth 100000 in
set_option maxHeartbeats 16000000 in
theorem flatTells_walk (g : Gv) (C : Option Addr) (n q : Nat) (rs : List Ns) (w : World) (he : ErrT w) (hg : GReads w w.heap.size g) (hr : NsReads .i64 w w.heap.size C n rs) (hn : n ≤ maxLen) :
    Calls Tryd.prog 4 #[g.val, .slice C n q] w fun e w' => e = .returned (.bool true) ∧ Below w.heap.size w w' := by
  have hrl := hr.len
  unfold maxLen at hn
  obtain ⟨rl, hrl0⟩ : ∃ rl, rl = rs.map Ns.l := ⟨_, rfl⟩
  have HRL := hide hrl0
  have HLEN : Hid (rl.length = n) := hide (by rw [hrl0, List.length_map]; exact hrl)
  obtain ⟨W, hW, bx, hWs, hb0⟩ := gbox w g.f g.way g.Aw g.nw g.cw g.At g.nt g.ct
  have cNew := hide (fun (X : World) (hB : Below w.heap.size w X) => fnew_any g X ((hg.below hB).more hB.size))
  have cRG := hide (fun (X : World) (hB : Below w.heap.size w X) => rgrove_any g X ((hg.below hB).more hB.size))
  have cEr := hide (fun (a b : Int) (X : World) (hB : Below w.heap.size w X) => error_any a b X (he.below hB he.lt))
  have cSt := hide (fun (X : World) (A : Option Addr) (k c : Nat) (r : List Int) (hB : Below w.heap.size w X) (h : IReads X X.heap.size A k r) (hk : k ≤ maxLen) => rstand_any g A k c r X ((hg.below hB).more hB.size) h hk)
  have cEv := hide (fun (X : World) (A : Option Addr) (k c : Nat) (r : List Int) (hB : Below w.heap.size w X) (h : IReads X X.heap.size A k r) (hk : k ≤ maxLen) => geval_any g A k c r X ((hg.below hB).more hB.size) h hk)
  have hgt : TReads w w.heap.size g.At g.nt g.ts := hg.ts
  have hgw : IReads w w.heap.size g.Aw g.nw g.ws := hg.ws
  have hnw := hg.nw
  have hnt := hg.nt
  have hnil := hg.nilw
  unfold maxLen at hnt
  clear hrl hrl0 he
  obtain ⟨G, hGd⟩ : ∃ G, G = g := ⟨_, rfl⟩
  have hGv : Hid (G.val = g.val) := hide (by rw [hGd])
  have HG : Hid (G.f = g.f ∧ G.way = g.way ∧ G.ws = g.ws ∧ G.trees = g.ts.map Tr.l) := hide (by rw [hGd]; exact ⟨rfl, rfl, rfl, rfl⟩)
  rw [← hGd] at cNew cRG cSt cEv
  rw [unhide hGv] at cNew cRG cSt cEv
  clear hGd hGv hg
  obtain ⟨f, way, Aw, nw, cw, ws, At, nt, ct, ts⟩ := g
  simp only [Gv.val] at cNew cRG cSt cEv ⊢
  dsimp only at hW bx hgt hgw hnw hnt hnil HG
  go_enter Tryd.func4, Tryd.ntmps4
  go_upto_region 1 with (fail)
  rw [← hW]
  clear hW
  go_wp2_with fail
  obtain ⟨X, hX, hgX, hbX⟩ := one_reads W (w.heap.size + 1) hWs
  rw [← hX]
  clear hX
  have hzX := hbX.size
  have bx0 := bx.below hbX (by omega)
  have hB0 := hb0.trans (hbX.mono (by omega))
  refine (fnewG_any _ X (one_e _ _ _) hgX).mono ?_
  rintro e w1 ⟨gO, rfl, hO1, hb1⟩
  have hz1 := hb1.size
  have bx1 := bx0.below hb1 (by omega)
  have hB1 := hB0.trans (hb1.mono (by omega))
  have hOe := hide (fEval_any gO _ none 0 0 [] w1 hO1 IReads.nil_ (Nat.zero_le _))
  rw [one_val, one_stand, errV_0 rfl] at hOe
  clear hbX bx bx0 hB0 hb0 hgX
  go_wp2_with fail
  refine (unhide hOe).mono ?_
  rintro e w2 ⟨rfl, hb2⟩
  have hz2 := hb2.size
  have bx2 := bx1.below hb2 (by omega)
  have hB2 := hB1.trans (hb2.mono (by omega))
  have hOs := hide (fsize_any gO _ w2 (hO1.below hb2))
  rw [one_size] at hOs
  clear hOe bx1 hB1 hO1 hb1
  go_wp2_with fail
  refine (unhide hOs).mono ?_
  rintro e w3 ⟨rfl, rfl⟩
  have c0 := bx2.cell 0
  have c1 := bx2.cell 1
  have c2 := bx2.cell 2
  have c3 := bx2.cell 3
  simp at c0 c1 c2 c3
  clear hOs
  by_cases h0 : G.e = 0
  case neg =>
    have hn : Hid (Calls Tryd.prog 5 #[.agg #[.int .i64 f, .int .i64 way, .slice Aw nw cw, .slice At nt ct]] w2 fun e w' => e = .returned (.tuple #[.pointer none, errV G.e]) ∧ Below w2.heap.size w2 w') := hide ((unhide cNew w2 hB2).mono (fun e w' h => by
      rcases h with h | h
      · exact h.2
      · exact absurd h.1 h0))
    have hv := errV_1 h0
    have HV := hide hv
    have hz : (G.e != 0) = true := by simpa using h0
    have hEr := hide (fun (X : World) (hB : Below w.heap.size w X) => unhide cEr G.e G.e X hB)
    obtain ⟨E, hE⟩ : ∃ E, E = G.e := ⟨_, rfl⟩
    rw [← hE] at hn hv hz cRG hEr
    rw [hv] at hn hEr
    rw [show (E == E) = true by simp] at hEr
    clear hE h0 hv HV cNew cEr cSt cEv hgt hgw hnil
    go_wp2_with fail
    refine (unhide hn).mono ?_
    rintro e w4 ⟨rfl, hb4⟩
    have bx4 := bx2.below hb4 (by omega)
    have hB4 := hB2.trans (hb4.mono (by omega))
    have d0 := bx4.cell 0
    have d1 := bx4.cell 1
    have d2 := bx4.cell 2
    have d3 := bx4.cell 3
    simp at d0 d1 d2 d3
    have hz4 := hb4.size
    clear c0 c1 c2 c3 bx2 hn
    go_wp2_with fail
    refine (unhide cRG w4 hB4).mono ?_
    rintro e w5 ⟨rfl, hb5⟩
    have bx5 := bx4.below hb5 (by omega)
    have hB5 := hB4.trans (hb5.mono (by omega))
    clear d0 d1 d2 d3 bx4
    go_wp2_with fail
    refine (unhide hEr w5 hB5).mono ?_
    rintro e w6 ⟨rfl, hb6⟩
    have bx6 := bx5.below hb6 (by have := hb5.size; omega)
    have hB6 := hB5.trans (hb6.mono (by have := hb5.size; omega))
    have d0 := bx6.cell 0
    have d1 := bx6.cell 1
    have d2 := bx6.cell 2
    have d3 := bx6.cell 3
    simp at d0 d1 d2 d3
    clear bx5
    go_wp2_with fail
    refine (unhide cRG w6 hB6).mono ?_
    rintro e w7 ⟨rfl, hb7⟩
    have hB7 := hB6.trans (hb7.mono (by have := hb5.size; have := hb6.size; omega))
    go_wp2_with fail
    go_ret
    exact ⟨rfl, hB7⟩
  have cN := hide ((unhide cNew w2 hB2).mono (R' := fun e w' => ∃ gF, e = .returned (.tuple #[.pointer (some ⟨gF, 0, none⟩), .nilIface]) ∧ FlG w' gF G ∧ Below w2.heap.size w2 w') (fun e w' h => by
    rcases h with h | ⟨_, gF, h1, h2, _, h3⟩
    · exact absurd h0 h.1
    · exact ⟨gF, h1, ⟨h0, h2⟩, h3⟩))
  have HE0 := hide h0
  clear cNew cRG h0
  go_wp2_with fail
  refine (unhide cN).mono ?_
  rintro e w4 ⟨gF, rfl, hF4, hb4⟩
  have bx4 := bx2.below hb4 (by omega)
  have hB4 := hB2.trans (hb4.mono (by omega))
  have hz4 := hb4.size
  have cFE := hide (fun (X : World) (A : Option Addr) (k c : Nat) (r : List Int) (hB : Below w4.heap.size w4 X) (h : IReads X X.heap.size A k r) (hk : k ≤ maxLen) => fEval_any gF G A k c r X (hF4.below hB) h hk)
  have cMa := hide (fun (X : World) (hB : Below w4.heap.size w4 X) (hn : n ≤ 30) => fmany_any gF G C n q rs X (hF4.below hB) (NsReads.more (hr.below (hB4.trans (hB.mono (by omega)))) (hB4.trans (hB.mono (by omega))).size) hn)
  have cGr := hide (fun (X : World) (hB : Below w4.heap.size w4 X) => fgroveG_any G gF X (hF4.below hB))
  have cSz := hide (fun (X : World) (hB : Below w4.heap.size w4 X) => fsize_any gF G X (hF4.below hB))
  rw [← unhide HRL] at cMa
  have hrr := hide (hr.below hB4)
  clear c0 c1 c2 c3 cN hF4 bx2 hr
  go_wp2_with fail
  go_loopw [12, 13, 14] (fun v12 v13 v14 wr => ∃ j : Nat, j ≤ n ∧ j ≤ 30 ∧ v14 = .int .i64 j ∧ v13 = .int .i64 (manyE G (rl.take j)) ∧ wr.ownsRow w4.heap.size 3 1 v12 j (((manyV G rl).take j).map (Value.int .i64)) ∧ Below w4.heap.size w4 wr) (fun _ _ v14 _ => 31 - (Lib.intOf v14).toNat)
  case atStart => exact ⟨0, Nat.zero_le _, Nat.zero_le _, rfl, rfl, World.ownsRow_nil _ _ _ _, Below.refl _ _⟩
  case round =>
    obtain ⟨j, hj, hj30, rfl, rfl, hown, hbel⟩ := hrel
    have hsz := hbel.size
    have bxr := bx4.below hbel (by omega)
    have hBr := hB4.trans (hbel.mono (by omega))
    have c0 := bxr.cell 0
    have c1 := bxr.cell 1
    have c2 := bxr.cell 2
    have c3 := bxr.cell 3
    simp at c0 c1 c2 c3
    obtain ⟨F, hF0⟩ : ∃ F, F = manyE G (rl.take j) := ⟨_, rfl⟩
    rw [← hF0]
    have HF := hide hF0
    clear hF0
    by_cases hlj : j < n
    · by_cases hl30 : j < 30
      · obtain ⟨b, o, r, rfl, hbb, hx, hc, hok⟩ := ((unhide hrr).below (hbel.mono (by omega))).get hlj
        obtain ⟨rA, rn, rc, rlst⟩ := r
        have hxl : rl[j]? = some rlst := by rw [unhide HRL, List.getElem?_map, hx]; rfl
        have hE := hide (unhide cFE wr rA rn rc rlst hbel (hok.reads.more (by omega)) hok.len)
        have hrd := hide (fun (X : World) (hB : Below wr.heap.size wr X) => (show IReads X X.heap.size rA rn rlst from (hok.reads.below (hB.mono (by omega))).more (by have := hB.size; omega)))
        have hrn := hok.len
        have HV : Hid ((manyV G rl).take (j + 1) = (manyV G rl).take j ++ [gevalV G rlst]) := hide (take_next (by unfold manyV; rw [List.getElem?_map, hxl]; rfl))
        have HM : Hid (manyE G (rl.take (j + 1)) = if F = 0 then standE G rlst else F) := hide (by rw [manyE_take hxl, unhide HF])
        dsimp only at hc
        have hgl : b < wr.heap.size := by omega
        have hS := hide (fun (X : World) (hB : Below w.heap.size w X) (h : IReads X X.heap.size rA rn rlst) => unhide cSt X rA rn rc rlst hB h hrn)
        have hG := hide (fun (X : World) (hB : Below w.heap.size w X) (h : IReads X X.heap.size rA rn rlst) => unhide cEv X rA rn rc rlst hB h hrn)
        obtain ⟨V, hV⟩ : ∃ V, V = gevalV G rlst := ⟨_, rfl⟩
        obtain ⟨E, hEe⟩ : ∃ E, E = standE G rlst := ⟨_, rfl⟩
        rw [← hV, ← hEe] at hE hG
        rw [← hV] at HV
        rw [← hEe] at HM hS
        have hVV : (V != V) = false := by simp
        have hEr := hide (fun (X : World) (hB : Below w.heap.size w X) => unhide cEr E E X hB)
        rw [show (E == E) = true by simp] at hEr
        have hj9 : j < 1000000000 := by omega
        clear hx hxl hok hV hEe
        --{
        by_cases hE0 : E = 0
        · subst hE0
          rw [errV_0 rfl] at hE hG hEr
          have HM2 : Hid (manyE G (rl.take (j + 1)) = F) := hide (by
            rw [unhide HM]
            by_cases h : F = 0
            · rw [if_pos h, h]
            · rw [if_neg h])
          go_wp2_with fail
          refine (unhide hE).mono ?_
          rintro e w5 ⟨rfl, hb5⟩
          have hz5 := hb5.size
          have bx5 := bxr.below hb5 (by omega)
          have hB5 := hBr.trans (hb5.mono (by omega))
          have hL5 := hbel.trans (hb5.mono (by omega))
          have ho5 := own_under hown hb5
          have hc5 := (hb5.cell (p := ⟨b, o + j, none⟩) hgl).trans hc
          have d0 := bx5.cell 0
          have d1 := bx5.cell 1
          have d2 := bx5.cell 2
          have d3 := bx5.cell 3
          simp at d0 d1 d2 d3
          have hS5 := hide (unhide hS w5.drew hB5.drew (Reads.drew (unhide hrd w5 hb5)))
          clear c0 c1 c2 c3 hc hown hE hS
          go_wp2_with fail
          go_still_tail 5, (by kernel_rfl)
          go_wp2_with fail
          refine (unhide hS5).mono ?_
          rintro e w6 ⟨rfl, hb6⟩
          have hb6 : Below w5.heap.size w5 w6 := ((Below.refl _ _).drew).trans hb6
          have hz6 := hb6.size
          have bx6 := bx5.below hb6 (by omega)
          have hB6 := hB5.trans (hb6.mono (by omega))
          have hL6 := hL5.trans (hb6.mono (by omega))
          have ho6 := own_under ho5 hb6
          have hc6 := (hb6.cell (p := ⟨b, o + j, none⟩) (by show b < _; omega)).trans hc5
          have e0 := bx6.cell 0
          have e1 := bx6.cell 1
          have e2 := bx6.cell 2
          have e3 := bx6.cell 3
          simp at e0 e1 e2 e3
          have hG6 := hide (unhide hG w6.drew hB6.drew (Reads.drew (unhide hrd w6 (hb5.trans (hb6.mono (by omega))))))
          have q1 : (0 : Int) ≤ (j : Int) := by omega
          have q2 : (j : Int) < (n : Int) := by omega
          have f0 : w6.drew.cell? ⟨w.heap.size, 0, none⟩ = some (.int .i64 f) := e0
          have f1 : w6.drew.cell? ⟨w.heap.size, 1, none⟩ = some (.int .i64 way) := e1
          have f2 : w6.drew.cell? ⟨w.heap.size, 2, none⟩ = some (.slice Aw nw cw) := e2
          have f3 : w6.drew.cell? ⟨w.heap.size, 3, none⟩ = some (.slice At nt ct) := e3
          have f4 : w6.drew.cell? ⟨b, o + j, none⟩ = some (.slice rA rn rc) := hc6
          have hw6 : w.heap.size < w6.heap.size := by omega
          have hb6' : b < w6.heap.size := by omega
          clear d0 d1 d2 d3 hc5 ho5 hS5 hG
          go_upto_region 18 with (fail)
          go_region_held3 (fun w' => w'.cell? ⟨w.heap.size, 0, none⟩ = some (.int .i64 f) ∧ w'.cell? ⟨w.heap.size, 1, none⟩ = some (.int .i64 way) ∧ w'.cell? ⟨w.heap.size, 2, none⟩ = some (.slice Aw nw cw) ∧ w'.cell? ⟨w.heap.size, 3, none⟩ = some (.slice At nt ct) ∧ w'.cell? ⟨b, o + j, none⟩ = some (.slice rA rn rc))
            ((refine ⟨?_, ?_, ?_, ?_, ?_⟩ <;> with_reducible assumption))
            ((go_at_call 15
              (with_reducible refine (unhide hG6).mono ?_)
              rintro e w7 ⟨rfl, hb7'⟩
              have hb7 : Below w6.heap.size w6 w7 := ((Below.refl _ _).drew).trans hb7'
              have n0 : w7.cell? ⟨w.heap.size, 0, none⟩ = some (.int .i64 f) := (hb7.cell (p := ⟨w.heap.size, 0, none⟩) hw6).trans e0
              have n1 : w7.cell? ⟨w.heap.size, 1, none⟩ = some (.int .i64 way) := (hb7.cell (p := ⟨w.heap.size, 1, none⟩) hw6).trans e1
              have n2 : w7.cell? ⟨w.heap.size, 2, none⟩ = some (.slice Aw nw cw) := (hb7.cell (p := ⟨w.heap.size, 2, none⟩) hw6).trans e2
              have n3 : w7.cell? ⟨w.heap.size, 3, none⟩ = some (.slice At nt ct) := (hb7.cell (p := ⟨w.heap.size, 3, none⟩) hw6).trans e3
              have n4 : w7.cell? ⟨b, o + j, none⟩ = some (.slice rA rn rc) := (hb7.cell (p := ⟨b, o + j, none⟩) hb6').trans hc6))
          have hz7 := hb7.size
          have hB7 := hB6.trans (hb7.mono (by omega))
          have hL7 := hL6.trans (hb7.mono (by omega))
          have ho7 := own_under ho6 hb7
          clear e0 e1 e2 e3 f0 f1 f2 f3 f4 hc6 ho6 hG6 bx6 bx5 n0 n1 n2 n3 n4 hb7'
          go_wp2_with fail
          refine (unhide hEr w7 hB7).mono ?_
          rintro e w8 ⟨rfl, hb8⟩
          have hz8 := hb8.size
          have hL8 := hL7.trans (hb8.mono (by omega))
          have ho8 := own_under ho7 hb8
          have hs8 := hL8.size
          clear hEr ho7 hB7 hB6 hB5
          go_wp2_with (at_builtin; refine app_one elem_int (.tmp 132) (.tmp 134) [.int .i64 V] rfl rfl rfl ho8 rfl rfl rfl (ints_oneCell .i64 [V]) hj9 hs8 ?_; intro v' w9 hown9 hb9 _ _)
          have hO : Hid (w9.ownsRow w4.heap.size 3 1 v' (j + 1) (((manyV G rl).take (j + 1)).map (Value.int .i64))) := hide (by rw [unhide HV, List.map_append]; exact hown9)
          clear hown9 ho8
          go_wp2_with fail
          go_roundw
          case rel => exact ⟨j + 1, by omega, by omega, by go_num, by rw [unhide HM2], unhide hO, hL8.trans hb9⟩
          case measure => simp [Lib.intOf]; omega
        · have hv := errV_1 hE0
          rw [hv] at hE hG hEr
          have hEn : (E != 0) = true := by simpa using hE0
          have hEq : (E == 0) = false := by simpa using hE0
          have HM2 : Hid (F = 0 → manyE G (rl.take (j + 1)) = E) := hide (fun h => by rw [unhide HM, if_pos h])
          have HM3 : Hid (¬ F = 0 → manyE G (rl.take (j + 1)) = F) := hide (fun h => by rw [unhide HM, if_neg h])
          clear hv hE0 HM
          go_wp2_with fail
          refine (unhide hE).mono ?_
          rintro e w5 ⟨rfl, hb5⟩
          have hz5 := hb5.size
          have bx5 := bxr.below hb5 (by omega)
          have hB5 := hBr.trans (hb5.mono (by omega))
          have hL5 := hbel.trans (hb5.mono (by omega))
          have ho5 := own_under hown hb5
          have hc5 := (hb5.cell (p := ⟨b, o + j, none⟩) hgl).trans hc
          have d0 := bx5.cell 0
          have d1 := bx5.cell 1
          have d2 := bx5.cell 2
          have d3 := bx5.cell 3
          simp at d0 d1 d2 d3
          have hS5 := hide (unhide hS w5.drew hB5.drew (Reads.drew (unhide hrd w5 hb5)))
          clear c0 c1 c2 c3 hc hown hE hS
          go_wp2_with fail
          go_still_tail 5, (by kernel_rfl)
          go_wp2_with fail
          refine (unhide hS5).mono ?_
          rintro e w6 ⟨rfl, hb6⟩
          have hb6 : Below w5.heap.size w5 w6 := ((Below.refl _ _).drew).trans hb6
          have hz6 := hb6.size
          have bx6 := bx5.below hb6 (by omega)
          have hB6 := hB5.trans (hb6.mono (by omega))
          have hL6 := hL5.trans (hb6.mono (by omega))
          have ho6 := own_under ho5 hb6
          have hc6 := (hb6.cell (p := ⟨b, o + j, none⟩) (by show b < _; omega)).trans hc5
          have e0 := bx6.cell 0
          have e1 := bx6.cell 1
          have e2 := bx6.cell 2
          have e3 := bx6.cell 3
          simp at e0 e1 e2 e3
          have hG6 := hide (unhide hG w6.drew hB6.drew (Reads.drew (unhide hrd w6 (hb5.trans (hb6.mono (by omega))))))
          have q1 : (0 : Int) ≤ (j : Int) := by omega
          have q2 : (j : Int) < (n : Int) := by omega
          have f0 : w6.drew.cell? ⟨w.heap.size, 0, none⟩ = some (.int .i64 f) := e0
          have f1 : w6.drew.cell? ⟨w.heap.size, 1, none⟩ = some (.int .i64 way) := e1
          have f2 : w6.drew.cell? ⟨w.heap.size, 2, none⟩ = some (.slice Aw nw cw) := e2
          have f3 : w6.drew.cell? ⟨w.heap.size, 3, none⟩ = some (.slice At nt ct) := e3
          have f4 : w6.drew.cell? ⟨b, o + j, none⟩ = some (.slice rA rn rc) := hc6
          have hw6 : w.heap.size < w6.heap.size := by omega
          have hb6' : b < w6.heap.size := by omega
          clear d0 d1 d2 d3 hc5 ho5 hS5 hG
          go_upto_region 18 with (fail)
          go_region_held3 (fun w' => w'.cell? ⟨w.heap.size, 0, none⟩ = some (.int .i64 f) ∧ w'.cell? ⟨w.heap.size, 1, none⟩ = some (.int .i64 way) ∧ w'.cell? ⟨w.heap.size, 2, none⟩ = some (.slice Aw nw cw) ∧ w'.cell? ⟨w.heap.size, 3, none⟩ = some (.slice At nt ct) ∧ w'.cell? ⟨b, o + j, none⟩ = some (.slice rA rn rc))
            ((refine ⟨?_, ?_, ?_, ?_, ?_⟩ <;> with_reducible assumption))
            ((go_at_call 15
              (with_reducible refine (unhide hG6).mono ?_)
              rintro e w7 ⟨rfl, hb7'⟩
              have hb7 : Below w6.heap.size w6 w7 := ((Below.refl _ _).drew).trans hb7'
              have n0 : w7.cell? ⟨w.heap.size, 0, none⟩ = some (.int .i64 f) := (hb7.cell (p := ⟨w.heap.size, 0, none⟩) hw6).trans e0
              have n1 : w7.cell? ⟨w.heap.size, 1, none⟩ = some (.int .i64 way) := (hb7.cell (p := ⟨w.heap.size, 1, none⟩) hw6).trans e1
              have n2 : w7.cell? ⟨w.heap.size, 2, none⟩ = some (.slice Aw nw cw) := (hb7.cell (p := ⟨w.heap.size, 2, none⟩) hw6).trans e2
              have n3 : w7.cell? ⟨w.heap.size, 3, none⟩ = some (.slice At nt ct) := (hb7.cell (p := ⟨w.heap.size, 3, none⟩) hw6).trans e3
              have n4 : w7.cell? ⟨b, o + j, none⟩ = some (.slice rA rn rc) := (hb7.cell (p := ⟨b, o + j, none⟩) hb6').trans hc6))
          have hz7 := hb7.size
          have hB7 := hB6.trans (hb7.mono (by omega))
          have hL7 := hL6.trans (hb7.mono (by omega))
          have ho7 := own_under ho6 hb7
          clear e0 e1 e2 e3 f0 f1 f2 f3 f4 hc6 ho6 hG6 bx6 bx5 n0 n1 n2 n3 n4 hb7'
          go_wp2_with fail
          refine (unhide hEr w7 hB7).mono ?_
          rintro e w8 ⟨rfl, hb8⟩
          have hz8 := hb8.size
          have hL8 := hL7.trans (hb8.mono (by omega))
          have ho8 := own_under ho7 hb8
          have hs8 := hL8.size
          clear hEr ho7 hB7 hB6 hB5
          by_cases hF0 : F = 0
          · have hFq : (F == 0) = true := by simpa using hF0
            have HM4 := hide (unhide HM2 hF0)
            clear HM2 HM3 hF0
            go_wp2_with (at_builtin; refine app_one elem_int (.tmp 132) (.tmp 134) [.int .i64 V] rfl rfl rfl ho8 rfl rfl rfl (ints_oneCell .i64 [V]) hj9 hs8 ?_; intro v' w9 hown9 hb9 _ _)
            have hO : Hid (w9.ownsRow w4.heap.size 3 1 v' (j + 1) (((manyV G rl).take (j + 1)).map (Value.int .i64))) := hide (by rw [unhide HV, List.map_append]; exact hown9)
            clear hown9 ho8
            go_wp2_with fail
            go_roundw
            case rel => exact ⟨j + 1, by omega, by omega, by go_num, by rw [unhide HM4], unhide hO, hL8.trans hb9⟩
            case measure => simp [Lib.intOf]; omega
          · have hFq : (F == 0) = false := by simpa using hF0
            have HM4 := hide (unhide HM3 hF0)
            clear HM2 HM3 hF0
            go_wp2_with (at_builtin; refine app_one elem_int (.tmp 132) (.tmp 134) [.int .i64 V] rfl rfl rfl ho8 rfl rfl rfl (ints_oneCell .i64 [V]) hj9 hs8 ?_; intro v' w9 hown9 hb9 _ _)
            have hO : Hid (w9.ownsRow w4.heap.size 3 1 v' (j + 1) (((manyV G rl).take (j + 1)).map (Value.int .i64))) := hide (by rw [unhide HV, List.map_append]; exact hown9)
            clear hown9 ho8
            go_wp2_with fail
            go_roundw
            case rel => exact ⟨j + 1, by omega, by omega, by go_num, by rw [unhide HM4], unhide hO, hL8.trans hb9⟩
            case measure => simp [Lib.intOf]; omega
        --}
      · obtain rfl : j = 30 := by omega
        have hn30 : (30 : Int) < (n : Int) := by omega
        clear c0 c1 c2 c3
        go_wp2_with fail
        go_ret
        exact ⟨rfl, hBr⟩
    · obtain rfl : j = n := by omega
      have hFm : F = manyE G rl := by rw [unhide HF, List.take_of_length_le (by rw [unhide HLEN]; exact Nat.le_refl _)]
      have ho := hown
      rw [List.take_of_length_le (by unfold manyV; rw [List.length_map, unhide HLEN]; exact Nat.le_refl _)] at ho
      obtain ⟨L, hL⟩ : ∃ L, L = if F = 0 then manyV G rl else [] := ⟨_, rfl⟩
      have hM := hide ((unhide cMa wr hbel hj30).mono (R' := fun e w' => ∃ A n c, e = .returned (.tuple #[.slice A n c, errV F]) ∧ IReads w' w'.heap.size A n L ∧ n ≤ maxLen ∧ Below wr.heap.size wr w') (fun e w' h => by
        obtain ⟨A, n, c, h1, h2, h3, h4⟩ := h
        rw [← hFm] at h1 h2
        rw [← hL] at h2
        exact ⟨A, n, c, h1, h2, h3, h4⟩))
      have hEF := hide (fun (X : World) (hB : Below w.heap.size w X) => unhide cEr F F X hB)
      rw [show (F == F) = true by simp] at hEF
      have HLz : Hid (F = 0 → L = manyV G rl) := hide (fun h => by rw [hL, if_pos h])
      have HLn : Hid (¬ F = 0 → L = []) := hide (fun h => by rw [hL, if_neg h])
      clear hFm hL hown cMa cEr cSt cEv cFE HF c0 c1 c2 c3
      go_wp2_with fail
      refine (unhide hM).mono ?_
      rintro e w5 ⟨Am, nm, cm, rfl, hrm, hnm, hb5⟩
      have hz5 := hb5.size
      have bx5 := bxr.below hb5 (by omega)
      have hB5 := hBr.trans (hb5.mono (by omega))
      have hL5 := hbel.trans (hb5.mono (by omega))
      have ho5 := own_under ho hb5
      clear hM ho bxr
      go_wp2_with fail
      refine (unhide hEF w5 hB5).mono ?_
      rintro e w6 ⟨rfl, hb6⟩
      have hz6 := hb6.size
      have bx6 := bx5.below hb6 (by omega)
      have hB6 := hB5.trans (hb6.mono (by omega))
      have hL6 := hL5.trans (hb6.mono (by omega))
      have ho6 := own_under ho5 hb6
      have hrm6 := (hrm.below hb6).more hz6
      clear hEF bx5 ho5 hrm hB5 hL5 hbel hBr
      go_upto_if 149 with (fail)
      go_cut [12] (fun s12 wx => ∃ (A' : Option Addr) (m' c' : Nat), s12 = .slice A' m' c' ∧ IReads wx wx.heap.size A' m' L ∧ m' ≤ maxLen ∧ wx = w6)
      case first =>
        by_cases hF0 : F = 0
        · have hFq : (F != 0) = false := by simpa using hF0
          have hl := unhide HLz hF0
          obtain ⟨Ao, co, hv12, hro, hno, _⟩ := own_slice ho6
          have hro' := hide (show IReads w6 w6.heap.size Ao j L from by rw [hl]; exact hro)
          subst hv12
          clear hF0 hl hro
          go_wp2_with fail
          go_meet
          exact ⟨Ao, j, co, rfl, unhide hro', hno, rfl⟩
        · have hFq : (F != 0) = true := by simpa using hF0
          have hl := hide (unhide HLn hF0)
          clear hF0
          go_wp2_with fail
          go_meet
          exact ⟨none, 0, 0, rfl, by rw [unhide hl]; exact IReads.nil_, Nat.zero_le _, rfl⟩
      case rest =>
        obtain ⟨A', m', c', rfl, hr2, hm2, hwx⟩ := hcut
        subst hwx
        have hi := hide (ints_any Am A' nm m' cm c' L L _ _ _ hrm6 hr2 hnm hm2)
        rw [show (L == L) = true by simp] at hi
        clear ho6 hrm6 hr2 HLz HLn
        go_wp2_with fail
        refine (unhide hi).mono ?_
        rintro e w7 ⟨rfl, q9, hq9⟩
        have hB7 : Below w.heap.size w w7 := by rw [hq9]; exact below_drewN hB6 q9
        have hL7 : Below w4.heap.size w4 w7 := by rw [hq9]; exact below_drewN hL6 q9
        have bx7 : Blk w7 w.heap.size 25 #[.int .i64 f, .int .i64 way, .slice Aw nw cw, .slice At nt ct] := by rw [hq9]; exact bx6.drewN q9
        clear hi hq9 hB6 hL6 bx6
        have hz7 := hL7.size
        have d0 := bx7.cell 0
        have d1 := bx7.cell 1
        have d2 := bx7.cell 2
        have d3 := bx7.cell 3
        simp only [List.getElem?_toArray, List.getElem?_cons_zero, List.getElem?_cons_succ] at d0 d1 d2 d3
        have a0 := cell_alloc d0 bx7.lt
        have a1 := cell_alloc d1 bx7.lt
        have a2 := cell_alloc d2 bx7.lt
        have hBg := ((Bag.mk0 w7).nil1 42 1).box_ 25 #[.int .i64 f, .int .i64 way, .slice Aw nw cw, .slice none 0 0]
        have hLB : LBag w7 (w7.alloc (.cells #[.int .i64 f, .int .i64 way, .slice Aw nw cw, .slice none 0 0] 25)) w7.heap.size w7.heap.size f way Aw nw cw none 0 0 [] := ⟨[], (fun r hr => by cases hr), hBg⟩
        have HLB := hide hLB
        have hG0 := groveE_right (unhide HE0)
        have HR : Hid (∀ t ∈ G.trees, Right t G.f) := hide (fun t ht => by
          obtain ⟨r, hr, rfl⟩ := List.mem_map.1 ht
          exact right_of (hG0.trees r hr))
        have hgt7 := hgt.below hB7
        have HNT : Hid (G.trees.length = nt) := hide (by rw [(unhide HG).2.2.2, List.length_map]; exact hgt.len)
        have hnt12 : nt ≤ 12 := by
          have h1 := hG0.most
          have h2 := unhide HNT
          rw [Gv.trees_len] at h2
          omega
        clear hBg hLB hG0
        go_upto_region 37 with (fail)
        refine wp_nameA fun X hX => ?_
        rw [← hX] at HLB
        have hbX : Below w7.heap.size w7 X := by rw [hX]; exact (Below.refl _ _).alloc (Nat.le_refl _) _
        have hzX : w7.heap.size < X.heap.size := by rw [hX]; simp
        clear hX d0 d1 d2 a0 a1 a2
        have HPL := hide (flPre_le (unhide HR))
        go_wp2_with fail
        go_loopw [25, 27] (fun v25 v27 wr => ∃ (j : Nat) (At9 : Option Addr) (ct9 : Nat) (trs : List Tr), j ≤ nt ∧ v27 = .int .i64 j ∧ v25 = .int .i64 ((flPre G.trees j : Nat) : Int) ∧ LBag w7 wr w7.heap.size w7.heap.size f way Aw nw cw At9 j ct9 trs ∧ trs.map Tr.l = (G.trees.take j).map flatT) (fun _ v27 _ => nt - (Lib.intOf v27).toNat)
        case atStart => exact ⟨0, none, 0, [], Nat.zero_le _, rfl, rfl, unhide HLB, rfl⟩
        case round =>
          clear hbX hzX HLB
          obtain ⟨j, At9, ct9, trs, hj, rfl, rfl, ⟨kr, hk1, hB⟩, htrs⟩ := hrel
          have HTRS := hide htrs
          have HK1 := hide hk1
          have hbel := hB.bel
          have hlow := hB.low
          have bxr := bx7.below hbel bx7.lt
          have c3 := bxr.cell 3
          simp only [List.getElem?_toArray, List.getElem?_cons_zero, List.getElem?_cons_succ] at c3
          clear htrs hk1
          by_cases hlj : j < nt
          · obtain ⟨b, o, r, rfl, hbb, hx, hc, hok⟩ := (hgt7.below (hbel.mono (by omega))).get hlj
            obtain ⟨rA, rn, rc, rl9⟩ := r
            have ht : G.trees[j]? = some rl9 := by rw [(unhide HG).2.2.2, List.getElem?_map, hx]; rfl
            have hRt := unhide HR rl9 (List.mem_of_getElem? ht)
            have hps := flPre_succ ht hRt
            have hln := hok.reads.len
            dsimp only at hln hc
            rw [hln] at hps
            obtain ⟨P, hP⟩ : ∃ P, P = flPre G.trees j := ⟨_, rfl⟩
            rw [← hP] at hps ⊢
            have hP12 : P ≤ 63 * 12 := by
              have := unhide HPL j
              omega
            have hrn63 : rn ≤ 63 := by have := hRt.most; omega
            have hlv := hide (levels_any rA rn rc rl9 G.f wr (hok.reads.more (by omega)) hRt)
            have HPS := hide hps
            have HT := hide ht
            clear hx ht hRt hln hok hps hP
            go_wp2_with fail
            refine (unhide hlv).mono ?_
            rintro e w8 ⟨A8, c8, rfl, ho8, hb8⟩
            have hBn := hB.addNew hb8 ho8
            have hBp := hBn.push_ 42 1 1 [.slice A8 rl9.length c8] rfl (by unfold maxLen; omega)
            have g3 := ((hBn.blk _ (List.mem_cons_self ..)).1.cell 3)
            simp only [List.getElem?_toArray, List.getElem?_cons_zero, List.getElem?_cons_succ] at g3
            have hj9 : j + 1 < 1000000000 := by omega
            clear hB ho8 hbel c3 bxr
            go_wp2_with (at_builtin; refine wpList_append_bag elem_trees hBp rfl (.tmp 184) (.tmp 186) rfl 1 rfl rfl (List.mem_cons_self ..) rfl (by intro u hu; simp at hu; subst hu; rfl) hj9 ?_; intro A9 c9 w9 hB9; have g9 := ((hB9.blk _ (List.mem_cons_self ..)).1.cell 3); have f9 := ((hB9.blk _ (List.mem_cons_self ..)).1.frozen 3); simp only [List.getElem?_toArray, List.getElem?_cons_zero, List.getElem?_cons_succ] at g9)
            have hGn := lbag_next (r := ⟨A8, rl9.length, c8, flatT rl9⟩) (unhide HK1) hB9
            have HGN := hide hGn
            clear hGn hB9 hBn hBp g9 f9 g3
            go_wp2_with fail
            go_roundw
            case rel =>
              refine ⟨j + 1, A9, c9, trs ++ [⟨A8, rl9.length, c8, flatT rl9⟩], by omega, by go_num, by rw [unhide HPS]; go_num, unhide HGN, ?_⟩
              rw [List.map_append, unhide HTRS, take_next (unhide HT), List.map_append]
              rfl
            case measure => simp [Lib.intOf]; omega
          · obtain rfl : j = nt := by omega
            have hLr := lbag_reads ⟨kr, unhide HK1, hB⟩ (hgw.below hB7) (by omega) hnw hnil
            have hlt := unhide HTRS
            rw [List.take_of_length_le (by rw [unhide HNT]; exact Nat.le_refl _)] at hlt
            have hP : flPre G.trees j = (flL G.trees).length := by unfold flPre; rw [List.take_of_length_le (by rw [unhide HNT]; exact Nat.le_refl _)]
            rw [hP]
            have hbw : Below w4.heap.size w4 wr := hL7.trans (hbel.mono (by omega))
            have hGr := hide (unhide cGr wr.drew hbw.drew)
            have hSm := hide (fun (a : Gv) (Y : World) (hY : Below wr.heap.size wr Y) (ha : GReads Y Y.heap.size a) (e1 : a.f = G.f) (e2 : a.way = G.way) (e3 : a.ws = G.ws) (e4 : a.trees = G.trees.map flatT) =>
              show Calls Tryd.prog 8 #[a.val, .agg #[.int .i64 f, .int .i64 way, .slice Aw nw cw, .slice At9 j ct9]] Y fun e w' => e = .returned (.bool true) ∧ Below Y.heap.size Y w' from
              sameGrove_any a ⟨f, way, Aw, nw, cw, ws, At9, j, ct9, trs⟩ Y ha ((hLr.below hY).more hY.size) (by rw [e1, (unhide HG).1]) (by rw [e2, (unhide HG).2.1]) (by rw [e3, (unhide HG).2.2.1]) (by rw [e4, ← hlt]; rfl))
            have hck := hide (fun (a : Gv) (Y : World) (ha : GReads Y Y.heap.size a) (e1 : a.f = G.f) (e2 : a.way = G.way) (e3 : a.ws = G.ws) (e4 : a.trees = G.trees.map flatT) =>
              show Calls Tryd.prog 6 #[a.val] Y fun e w' => e = .returned .nilIface ∧ Below Y.heap.size Y w' from by
                have h1 := gcheck_any a Y ha
                rw [(flat_right (groveE_right (unhide HE0)) (groveE_right (unhide HE0)).wlen e1 e2 e3 e4).e0, errV_0 rfl] at h1
                exact h1)
            have bL := (hB.blk _ (List.mem_cons_self ..)).1
            have m0 := bL.drew.cell 0
            have m1 := bL.drew.cell 1
            have m2 := bL.drew.cell 2
            have m3 := bL.drew.cell 3
            have l0 := bL.cell 0
            have l1 := bL.cell 1
            have l2 := bL.cell 2
            have l3 := bL.cell 3
            simp only [List.getElem?_toArray, List.getElem?_cons_zero, List.getElem?_cons_succ] at m0 m1 m2 m3 l0 l1 l2 l3
            have hbl := bL.lt
            have hbe7 := hbel
            clear hLr hlt hP hB hbel
            go_upto_region 43 with (fail)
            go_region_held3 (fun w' => w'.cell? ⟨w7.heap.size, 0, none⟩ = some (.int .i64 f) ∧ w'.cell? ⟨w7.heap.size, 1, none⟩ = some (.int .i64 way) ∧ w'.cell? ⟨w7.heap.size, 2, none⟩ = some (.slice Aw nw cw) ∧ w'.cell? ⟨w7.heap.size, 3, none⟩ = some (.slice At9 j ct9))
              ((refine ⟨?_, ?_, ?_, ?_⟩ <;> with_reducible assumption))
              (first
                | (go_at_call 8
                   (with_reducible refine (unhide hSma).mono ?_)
                   rintro e w9 ⟨rfl, hb9⟩
                   have o0 : w9.cell? ⟨w7.heap.size, 0, none⟩ = some (.int .i64 f) := (hb9.cell (p := ⟨w7.heap.size, 0, none⟩) hbl8).trans n0
                   have o1 : w9.cell? ⟨w7.heap.size, 1, none⟩ = some (.int .i64 way) := (hb9.cell (p := ⟨w7.heap.size, 1, none⟩) hbl8).trans n1
                   have o2 : w9.cell? ⟨w7.heap.size, 2, none⟩ = some (.slice Aw nw cw) := (hb9.cell (p := ⟨w7.heap.size, 2, none⟩) hbl8).trans n2
                   have o3 : w9.cell? ⟨w7.heap.size, 3, none⟩ = some (.slice At9 j ct9) := (hb9.cell (p := ⟨w7.heap.size, 3, none⟩) hbl8).trans n3)
                | (go_at_call 7
                   (with_reducible refine (unhide hGr).mono ?_)
                   rintro e w8 ⟨a, rfl, e1, e2, e3, e4, ha, hb8'⟩
                   have hb8 : Below wr.heap.size wr w8 := ((Below.refl _ _).drew).trans hb8'
                   have n0 : w8.cell? ⟨w7.heap.size, 0, none⟩ = some (.int .i64 f) := (hb8.cell (p := ⟨w7.heap.size, 0, none⟩) hbl).trans l0
                   have n1 : w8.cell? ⟨w7.heap.size, 1, none⟩ = some (.int .i64 way) := (hb8.cell (p := ⟨w7.heap.size, 1, none⟩) hbl).trans l1
                   have n2 : w8.cell? ⟨w7.heap.size, 2, none⟩ = some (.slice Aw nw cw) := (hb8.cell (p := ⟨w7.heap.size, 2, none⟩) hbl).trans l2
                   have n3 : w8.cell? ⟨w7.heap.size, 3, none⟩ = some (.slice At9 j ct9) := (hb8.cell (p := ⟨w7.heap.size, 3, none⟩) hbl).trans l3
                   have hbl8 := Nat.lt_of_lt_of_le hbl hb8.size
                   have hSma := hide (unhide hSm a w8 hb8 ha e1 e2 e3 e4)
                   clear e1 e2 e3 e4))
            have hb89 := hb8.trans (hb9.mono hb8.size)
            have hbw9 := hbw.trans (hb89.mono (by omega))
            have hB9 := hB7.trans ((hbe7.trans (hb89.mono (by omega))).mono (by omega))
            have hz9 := hb9.size
            have hz8 := hb8.size
            have hS9 := hide (unhide cSz w9 hbw9)
            have hG9 := hide (unhide cGr w9 hbw9)
            obtain ⟨M, hM⟩ : ∃ M, M = (flL G.trees).length := ⟨_, rfl⟩
            rw [← hM] at hS9 ⊢
            clear hM l0 l1 l2 l3 m0 m1 m2 m3 n0 n1 n2 n3 o0 o1 o2 o3 cSz cGr hSm hSma hGr hb8'
            go_wp2_with fail
            refine (unhide hS9).mono ?_
            rintro e w10 ⟨rfl, rfl⟩
            go_wp2_with fail
            refine (unhide hG9).mono ?_
            rintro e w11 ⟨a', rfl, e1, e2, e3, e4, ha', hb11⟩
            have hc11 := hide (unhide hck a' w11 ha' e1 e2 e3 e4)
            clear e1 e2 e3 e4 hG9 hck
            go_wp2_with fail
            refine (unhide hc11).mono ?_
            rintro e w12 ⟨rfl, hb12⟩
            go_wp2_with fail
            go_ret
            exact ⟨rfl, hB9.trans ((hb11.trans (hb12.mono hb11.size)).mono (by omega))⟩
end Go.Proofs.YtcneacooedefjaaDoor
