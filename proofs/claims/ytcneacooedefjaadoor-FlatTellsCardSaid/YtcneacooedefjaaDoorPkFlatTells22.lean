/- Part 22 of what LawFlatTells needs: FlatAdd. Conditions: as each lemma names. -/
import Derived.Test.YtcneacooedefjaaDoorPkFlatTells17
import Derived.Test.YtcneacooedefjaaDoorPkFlatTells19
import Derived.Test.YtcneacooedefjaaDoorPkFlatTells21
import Derived.Deep.DeepCutAuto
import Derived.Deep.CutRange
/- flat.add: a tree is laid behind what lies, level by level. Conditions: a tree that is right and reads as data; a flat one that is the call's own. -/
namespace Go.Proofs.YtcneacooedefjaaDoor
set_option linter.unusedVariables false
set_option linter.unusedSimpArgs false
open Go.RowKit

theorem elem_bool : Elem Tryd.prog 53 4 (.bool false) 1 1 := ⟨Tryd.underlying53, by kernel_rfl, rfl, by omega, by omega⟩
def cF (n : Nd) : Value := .int .i64 n.f
def cC (n : Nd) : Value := .int .i64 n.c
def cL (n : Nd) : Value := .int .i64 n.l
def cB (n : Nd) : Value := .bool n.less
def cV (n : Nd) : Value := .int .i64 n.v
def cN (p : Nat) : Value := .int .i64 (p : Int)
/-- a node as it lies in the rows, with b nodes ahead of its tree -/
def fsh (b : Nat) (n : Nd) : Nd := ⟨n.f, n.c, if n.f = -1 then 0 else (b : Int) + n.l, 0, n.less, n.v⟩
def rowsF (A4 A5 A6 A7 A8 : Option Addr) (n c4 c5 c6 c7 c8 : Nat) (L : List Nd) (rs : List BRow) : List BRow :=
  ⟨3, 1, .slice A4 n c4, n, L.map cF⟩ :: ⟨3, 1, .slice A5 n c5, n, L.map cC⟩ :: ⟨3, 1, .slice A6 n c6, n, L.map cL⟩ :: ⟨4, 1, .slice A7 n c7, n, L.map cB⟩ :: ⟨3, 1, .slice A8 n c8, n, L.map cV⟩ :: rs
def cellsF (f way : Int) (Aw : Option Addr) (nw cw : Nat) (Ar : Option Addr) (nr cr : Nat) (A4 A5 A6 A7 A8 : Option Addr) (n c4 c5 c6 c7 c8 : Nat) : Array Value :=
  #[.int .i64 f, .int .i64 way, .slice Aw nw cw, .slice Ar nr cr, .slice A4 n c4, .slice A5 n c5, .slice A6 n c6, .slice A7 n c7, .slice A8 n c8]
/-- a flat one in memory: of the call's own -/
def FBag (w0 w : World) (base g : Nat) (f way : Int) (Aw : Option Addr) (nw cw : Nat) (Ar : Option Addr) (nr cr : Nat) (rl : List Value) (L : List Nd) : Prop :=
  ∃ A4 A5 A6 A7 A8 c4 c5 c6 c7 c8, Bag w0 w base (rowsF A4 A5 A6 A7 A8 L.length c4 c5 c6 c7 c8 L [⟨3, 1, .slice Ar nr cr, nr, rl⟩]) [] [⟨g, 55, cellsF f way Aw nw cw Ar nr cr A4 A5 A6 A7 A8 L.length c4 c5 c6 c7 c8⟩]

theorem fadd_conv {w0 w : World} {base g : Nat} {f way : Int} {Aw : Option Addr} {nw cw : Nat} {Ar : Option Addr} {nr cr : Nat} {lv r : BRow} {A4 A5 A6 A7 A8 : Option Addr} {n c4 c5 c6 c7 c8 : Nat} {L : List Nd} {nf nc nl nr0 nv : Int} {nb : Bool}
    (h : Bag w0 w base [lv, ⟨3, 1, .slice A4 n c4, n, L.map cF ++ [.int .i64 nf]⟩, ⟨3, 1, .slice A5 n c5, n, L.map cC ++ [.int .i64 nc]⟩, ⟨3, 1, .slice A6 n c6, n, L.map cL ++ [.int .i64 nl]⟩, ⟨4, 1, .slice A7 n c7, n, L.map cB ++ [.bool nb]⟩, ⟨3, 1, .slice A8 n c8, n, L.map cV ++ [.int .i64 nv]⟩, r] []
      [⟨g, 55, #[.int .i64 f, .int .i64 way, .slice Aw nw cw, .slice Ar nr cr, .slice A4 n c4, .slice A5 n c5, .slice A6 n c6, .slice A7 n c7, .slice A8 n c8]⟩]) :
    Bag w0 w base (lv :: rowsF A4 A5 A6 A7 A8 n c4 c5 c6 c7 c8 (L ++ [⟨nf, nc, nl, nr0, nb, nv⟩]) [r]) [] [⟨g, 55, cellsF f way Aw nw cw Ar nr cr A4 A5 A6 A7 A8 n c4 c5 c6 c7 c8⟩] := by
  simp only [rowsF, cellsF, List.map_append, List.map_cons, List.map_nil, cF, cC, cL, cB, cV]
  exact h

set_option maxRecDepth 100000 in
set_option maxHeartbeats 8000000 in
theorem fadd_any (g : Nat) (f way : Int) (Aw : Option Addr) (nw cw : Nat) (Ar : Option Addr) (nr cr : Nat) (rl : List Value) (L0 : List Nd) (A : Option Addr) (n c B : Nat) (t : List Nd) (fe : Int) (w0 w : World) (base : Nat)
    (hF : FBag w0 w base g f way Aw nw cw Ar nr cr rl L0) (hT : NReads w0 B A n t) (hBb : B ≤ base) (hR : Right t fe) (hN : L0.length ≤ 10000) :
    Calls Tryd.prog 20 #[.pointer (some ⟨g, 0, none⟩), .slice A n c] w fun e w' => (∃ v, e = .returned v) ∧ FBag w0 w' base g f way Aw nw cw Ar nr cr rl (L0 ++ (flatT t).map (fsh L0.length)) := by
  obtain ⟨A4, A5, A6, A7, A8, c4, c5, c6, c7, c8, hB⟩ := hF
  obtain ⟨N, hNl⟩ : ∃ N, N = L0.length := ⟨_, rfl⟩
  rw [← hNl] at hB hN
  have htn := hT.len
  have hmost := hR.most
  have HTN := hide htn
  have HNL := hide hNl
  have HR := hide hR
  have kc := (hB.blk _ (List.mem_cons_self ..)).1.cell 4
  simp only [cellsF, List.getElem?_toArray, List.getElem?_cons_zero, List.getElem?_cons_succ] at kc
  have hB0 := ((hB.push 3 1 1 [.int .i64 0] rfl (by unfold maxLen; omega) rfl).take _ (List.mem_cons_self ..))
  have hst0 := FlSt.start hR
  have hnm : n ≤ 63 := by omega
  clear htn hNl hmost hR hB
  go_enter Tryd.func20, Tryd.ntmps20
  go_wp2_with fail
  clear kc
  go_loopw [5, 6] (fun v5 v6 wr => ∃ (i m : Nat) (lev : List Nat) (done : List Nd) (Al A4 A5 A6 A7 A8 : Option Addr) (cl c4 c5 c6 c7 c8 : Nat), v5 = .slice Al m cl ∧ v6 = .int .i64 i ∧ lev.length = m ∧ FlSt t i lev done ∧
      Bag w0 wr base (⟨3, 1, .slice Al m cl, m, lev.map cN⟩ :: rowsF A4 A5 A6 A7 A8 (N + i) c4 c5 c6 c7 c8 (L0 ++ done.map (fsh N)) [⟨3, 1, .slice Ar nr cr, nr, rl⟩]) [] [⟨g, 55, cellsF f way Aw nw cw Ar nr cr A4 A5 A6 A7 A8 (N + i) c4 c5 c6 c7 c8⟩]) (fun _ v6 _ => 64 - (Lib.intOf v6).toNat)
  case atStart => exact ⟨0, 1, [0], [], _, A4, A5, A6, A7, A8, 1, c4, c5, c6, c7, c8, rfl, rfl, rfl, hst0, by simpa [cN] using hB0⟩
  case round =>
    clear hst0 hB0
    obtain ⟨i, m, lev, done, Al, A4, A5, A6, A7, A8, cl, c4, c5, c6, c7, c8, rfl, rfl, hlm, hst, hB⟩ := hrel
    have hbd := hst.bound (unhide HR)
    have him := hst.1
    have hdl := hst.2.1
    rw [hlm] at hbd him
    have hm63 : m ≤ 63 := by omega
    obtain ⟨L, hL⟩ : ∃ L, L = L0 ++ done.map (fsh N) := ⟨_, rfl⟩
    rw [← hL] at hB
    have HL := hide hL
    have HLM := hide hlm
    have HST := hide hst
    clear hL hlm hst hbd hdl
    by_cases hlt : i < m
    · obtain ⟨p, hp⟩ : ∃ p, lev[i]? = some p := ⟨lev[i]'(by rw [unhide HLM]; exact hlt), List.getElem?_eq_getElem _⟩
      have hpt : p < t.length := (unhide HST).2.2.1 p (List.mem_of_getElem? hp)
      rw [unhide HTN] at hpt
      obtain ⟨bl, ol, rfl, _, hcl⟩ := Reads.spot (Reads.of_own (hB.own _ (List.mem_cons_self ..))) (show 0 < m by omega) Nat.zero_lt_one
      have kl := hcl i (cN p) (by rw [List.getElem?_map, hp]; rfl)
      simp only [cN] at kl
      obtain ⟨bt, ot, x, rfl, hbt, hx, k0, k1, k2, k3, k4, k5⟩ := (hT.below (hB.bel.mono hBb)).get hpt
      obtain ⟨nf, nc, nl, nr0, nb, nv⟩ := x
      dsimp only at k0 k1 k2 k3 k4 k5
      have HX := hide hx
      have HP := hide hp
      clear hp hx hcl
      have hBb1 := hB.box 41 #[.int .i64 nf, .int .i64 nc, .int .i64 nl, .int .i64 nr0, .bool nb, .int .i64 nv] rfl
      go_upto_if 30 with (fail)
      go_cut [5, 8] (fun s5 s8 wx => ∃ (m' : Nat) (lev' : List Nat) (Al' : Option Addr) (cl' : Nat) (left : Int) (x' : Nd), s5 = .slice Al' m' cl' ∧ s8 = .int .i64 left ∧ lev'.length = m' ∧ FlSt t (i + 1) lev' (done ++ [x']) ∧ fsh N x' = ⟨nf, nc, left, 0, nb, nv⟩ ∧
        Bag w0 wx base (⟨3, 1, .slice Al' m' cl', m', lev'.map cN⟩ :: rowsF A4 A5 A6 A7 A8 (N + i) c4 c5 c6 c7 c8 L [⟨3, 1, .slice Ar nr cr, nr, rl⟩]) [] [⟨wr.heap.size, 41, #[.int .i64 nf, .int .i64 nc, .int .i64 nl, .int .i64 nr0, .bool nb, .int .i64 nv]⟩, ⟨g, 55, cellsF f way Aw nw cw Ar nr cr A4 A5 A6 A7 A8 (N + i) c4 c5 c6 c7 c8⟩])
      case first =>
        by_cases hf : nf = -1
        · obtain ⟨hs1, -⟩ := (unhide HST).step (unhide HR) (unhide HP) (unhide HX)
          have hst1 := hs1 hf
          have hst2 := hide hst1
          have hx1 : Hid (fsh N ⟨nf, nc, nl, nr0, nb, nv⟩ = ⟨nf, nc, 0, 0, nb, nv⟩) := hide (by unfold fsh; rw [if_pos hf])
          have hbf : (nf != -1) = false := by simp [hf]
          have HLM2 := HLM
          clear hs1 hst1 hf
          go_wp2_with fail
          go_meet
          exact ⟨m, lev, _, cl, 0, _, rfl, rfl, unhide HLM, unhide hst2, unhide hx1, hBb1⟩
        · obtain ⟨-, hs1⟩ := (unhide HST).step (unhide HR) (unhide HP) (unhide HX)
          obtain ⟨hst1, g1, g2, g3, g4⟩ := hs1 hf
          rw [unhide HLM] at hst1
          rw [unhide HTN] at g2 g4
          dsimp only at g1 g2 g3 g4 hst1
          have hst2 := hide hst1
          have hx1 : Hid (fsh N ⟨nf, nc, (m : Int), ((m + 1 : Nat) : Int), nb, nv⟩ = ⟨nf, nc, (N : Int) + m, 0, nb, nv⟩) := hide (by unfold fsh; rw [if_neg hf])
          have hbf : (nf != -1) = true := by simp [hf]
          have hll : Hid ((lev ++ [nl.toNat, nr0.toNat]).length = m + 2) := hide (by rw [List.length_append, unhide HLM]; rfl)
          have hcc : Hid ((lev ++ [nl.toNat, nr0.toNat]).map cN = lev.map cN ++ [.int .i64 nl, .int .i64 nr0]) := hide (by rw [List.map_append]; simp only [List.map_cons, List.map_nil, cN]; rw [Int.toNat_of_nonneg (by omega), Int.toNat_of_nonneg (by omega)])
          have hBb2 := hBb1.push 3 1 2 [.int .i64 nl, .int .i64 nr0] rfl (by unfold maxLen; omega) rfl
          rw [World.size_alloc] at hBb2
          clear hs1 hst1 hf
          go_wp2_with (at_builtin; refine wpList_append_bag elem_int hBb2 rfl (.tmp 35) (.tmp 40) rfl 0 rfl rfl (List.mem_cons_self ..) rfl (by intro u hu; simp at hu; rcases hu with rfl | rfl <;> rfl) (by omega) ?_; intro Al' cl' w' hB3)
          have hB4 := hB3.forget
          go_meet
          exact ⟨m + 2, _, Al', cl', _, _, rfl, rfl, unhide hll, unhide hst2, unhide hx1, by rw [unhide hcc]; exact hB4⟩
      case rest =>
        obtain ⟨m', lev', Al', cl', left, x', rfl, rfl, hlm2, hst2, hx2, hBX⟩ := hcut
        have HLM2 := hide hlm2
        have HST2 := hide hst2
        have HX2 := hide hx2
        obtain ⟨gn, hgn⟩ : ∃ gn, gn = wr.heap.size := ⟨_, rfl⟩
        rw [← hgn] at hBX ⊢
        clear hlm2 hst2 hx2 hB hBb1 kl k0 k1 k2 k3 k4 k5 hgn
        simp only [rowsF, cellsF] at hBX
        go_upto_region 10 with (fail)
        refine wp_region_G (st := [20, 23]) (S := Ld [⟨gn, 41, #[.int .i64 nf, .int .i64 nc, .int .i64 nl, .int .i64 nr0, .bool nb, .int .i64 nv]⟩, ⟨g, 55, #[.int .i64 f, .int .i64 way, .slice Aw nw cw, .slice Ar nr cr, .slice A4 (N + i) c4, .slice A5 (N + i) c5, .slice A6 (N + i) c6, .slice A7 (N + i) c7, .slice A8 (N + i) c8]⟩]) (by kernel_rfl) ?_
        have hBd := (hBX).drew
        have hld := hBd.ld
        refine wpAnyG_cast #[false, false, false, false, false, false, false, false, false, false, false, false, false, false, false, false, false, false, false, false, false, false, false, false] (by kernel_rfl) ?_
        refine wpAnyG_pure (i := 0) (oi := ⟨some 42, _, _, _, _, _⟩) (v := .pointer (some ⟨g, 0, none⟩)) rfl (by kernel_rfl) (by kernel_rfl) (by kernel_rfl) (by kernel_rfl) (fun _ _ _ h => h) (Or.inl ⟨by rfl, fun w => ?_⟩) hld ?_
        · go_simp
        try simp only [Act.put, List.setIfInBounds_toArray, List.set_cons_zero, List.set_cons_succ]
        refine wpAnyG_cast #[true, false, false, false, false, false, false, false, false, false, false, false, false, false, false, false, false, false, false, false, false, false, false, false] (by kernel_rfl) ?_
        refine wpAnyG_pure (i := 1) (oi := ⟨some 43, _, _, _, _, _⟩) (v := .pointer (some ⟨g, 0, none⟩)) rfl (by kernel_rfl) (by kernel_rfl) (by kernel_rfl) (by kernel_rfl) (fun _ _ _ h => h) (Or.inl ⟨by rfl, fun w => ?_⟩) hld ?_
        · go_simp
        try simp only [Act.put, List.setIfInBounds_toArray, List.set_cons_zero, List.set_cons_succ]
        refine wpAnyG_cast #[true, true, false, false, false, false, false, false, false, false, false, false, false, false, false, false, false, false, false, false, false, false, false, false] (by kernel_rfl) ?_
        refine wpAnyG_pure (i := 2) (oi := ⟨some 44, _, _, _, _, _⟩) (v := .pointer (some ⟨g, 0, none⟩)) rfl (by kernel_rfl) (by kernel_rfl) (by kernel_rfl) (by kernel_rfl) (fun _ _ _ h => h) (Or.inl ⟨by rfl, fun w => ?_⟩) hld ?_
        · go_simp
        try simp only [Act.put, List.setIfInBounds_toArray, List.set_cons_zero, List.set_cons_succ]
        refine wpAnyG_cast #[true, true, true, false, false, false, false, false, false, false, false, false, false, false, false, false, false, false, false, false, false, false, false, false] (by kernel_rfl) ?_
        refine wpAnyG_pure (i := 3) (oi := ⟨some 45, _, _, _, _, _⟩) (v := .pointer (some ⟨g, 0, none⟩)) rfl (by kernel_rfl) (by kernel_rfl) (by kernel_rfl) (by kernel_rfl) (fun _ _ _ h => h) (Or.inl ⟨by rfl, fun w => ?_⟩) hld ?_
        · go_simp
        try simp only [Act.put, List.setIfInBounds_toArray, List.set_cons_zero, List.set_cons_succ]
        refine wpAnyG_cast #[true, true, true, true, false, false, false, false, false, false, false, false, false, false, false, false, false, false, false, false, false, false, false, false] (by kernel_rfl) ?_
        refine wpAnyG_pure (i := 4) (oi := ⟨some 46, _, _, _, _, _⟩) (v := .pointer (some ⟨g, 4, none⟩)) rfl (by kernel_rfl) (by kernel_rfl) (by kernel_rfl) (by kernel_rfl) (fun _ _ _ h => h) (Or.inl ⟨by rfl, fun w => ?_⟩) hld ?_
        · go_simp
        try simp only [Act.put, List.setIfInBounds_toArray, List.set_cons_zero, List.set_cons_succ]
        refine wpAnyG_cast #[true, true, true, true, true, false, false, false, false, false, false, false, false, false, false, false, false, false, false, false, false, false, false, false] (by kernel_rfl) ?_
        refine wpAnyG_take [9, 17, 18, 19, 20, 21, 22, 23] (i := 5) (oi := ⟨some 47, _, _, _, _, _⟩) (v := .slice A4 (N + i) c4) rfl (by kernel_rfl) (by kernel_rfl) (by kernel_rfl) (by kernel_rfl) (by kernel_rfl) (by kernel_rfl) (by kernel_rfl) (fun _ _ _ h => h) (Or.inl ⟨by rfl, fun w hSw => ?_⟩) hld ?_
        · have kx := (hSw _ (List.mem_cons_of_mem _ (List.mem_cons_self ..))).cell 4
          simp only [List.getElem?_toArray, List.getElem?_cons_zero, List.getElem?_cons_succ] at kx
          go_simp
        try simp only [Act.put, List.setIfInBounds_toArray, List.set_cons_zero, List.set_cons_succ]
        refine wpAnyG_cast #[true, true, true, true, true, true, false, false, false, false, false, false, false, false, false, false, false, false, false, false, false, false, false, false] (by kernel_rfl) ?_
        refine wpAnyG_pure (i := 6) (oi := ⟨some 48, _, _, _, _, _⟩) (v := .pointer (some ⟨gn, 0, none⟩)) rfl (by kernel_rfl) (by kernel_rfl) (by kernel_rfl) (by kernel_rfl) (fun _ _ _ h => h) (Or.inl ⟨by rfl, fun w => ?_⟩) hld ?_
        · go_simp
        try simp only [Act.put, List.setIfInBounds_toArray, List.set_cons_zero, List.set_cons_succ]
        refine wpAnyG_cast #[true, true, true, true, true, true, true, false, false, false, false, false, false, false, false, false, false, false, false, false, false, false, false, false] (by kernel_rfl) ?_
        refine wpAnyG_take [8, 9, 17, 18, 19, 20, 21, 22, 23] (i := 7) (oi := ⟨some 49, _, _, _, _, _⟩) (v := .int .i64 nf) rfl (by kernel_rfl) (by kernel_rfl) (by kernel_rfl) (by kernel_rfl) (by kernel_rfl) (by kernel_rfl) (by kernel_rfl) (fun _ _ _ h => h) (Or.inl ⟨by rfl, fun w hSw => ?_⟩) hld ?_
        · have kx := (hSw _ (List.mem_cons_self ..)).cell 0
          simp only [List.getElem?_toArray, List.getElem?_cons_zero, List.getElem?_cons_succ] at kx
          go_simp
        try simp only [Act.put, List.setIfInBounds_toArray, List.set_cons_zero, List.set_cons_succ]
        refine wpAnyG_cast #[true, true, true, true, true, true, true, true, false, false, false, false, false, false, false, false, false, false, false, false, false, false, false, false] (by kernel_rfl) ?_
        refine wpAnyG_pure (i := 10) (oi := ⟨some 52, _, _, _, _, _⟩) (v := .pointer (some ⟨g, 0, none⟩)) rfl (by kernel_rfl) (by kernel_rfl) (by kernel_rfl) (by kernel_rfl) (fun _ _ _ h => h) (Or.inl ⟨by rfl, fun w => ?_⟩) hld ?_
        · go_simp
        try simp only [Act.put, List.setIfInBounds_toArray, List.set_cons_zero, List.set_cons_succ]
        refine wpAnyG_cast #[true, true, true, true, true, true, true, true, false, false, true, false, false, false, false, false, false, false, false, false, false, false, false, false] (by kernel_rfl) ?_
        refine wpAnyG_pure (i := 11) (oi := ⟨some 53, _, _, _, _, _⟩) (v := .pointer (some ⟨g, 0, none⟩)) rfl (by kernel_rfl) (by kernel_rfl) (by kernel_rfl) (by kernel_rfl) (fun _ _ _ h => h) (Or.inl ⟨by rfl, fun w => ?_⟩) hld ?_
        · go_simp
        try simp only [Act.put, List.setIfInBounds_toArray, List.set_cons_zero, List.set_cons_succ]
        refine wpAnyG_cast #[true, true, true, true, true, true, true, true, false, false, true, true, false, false, false, false, false, false, false, false, false, false, false, false] (by kernel_rfl) ?_
        refine wpAnyG_pure (i := 12) (oi := ⟨some 54, _, _, _, _, _⟩) (v := .pointer (some ⟨g, 5, none⟩)) rfl (by kernel_rfl) (by kernel_rfl) (by kernel_rfl) (by kernel_rfl) (fun _ _ _ h => h) (Or.inl ⟨by rfl, fun w => ?_⟩) hld ?_
        · go_simp
        try simp only [Act.put, List.setIfInBounds_toArray, List.set_cons_zero, List.set_cons_succ]
        refine wpAnyG_cast #[true, true, true, true, true, true, true, true, false, false, true, true, true, false, false, false, false, false, false, false, false, false, false, false] (by kernel_rfl) ?_
        refine wpAnyG_take [17, 18, 19, 20, 21, 22, 23] (i := 13) (oi := ⟨some 55, _, _, _, _, _⟩) (v := .slice A5 (N + i) c5) rfl (by kernel_rfl) (by kernel_rfl) (by kernel_rfl) (by kernel_rfl) (by kernel_rfl) (by kernel_rfl) (by kernel_rfl) (fun _ _ _ h => h) (Or.inl ⟨by rfl, fun w hSw => ?_⟩) hld ?_
        · have kx := (hSw _ (List.mem_cons_of_mem _ (List.mem_cons_self ..))).cell 5
          simp only [List.getElem?_toArray, List.getElem?_cons_zero, List.getElem?_cons_succ] at kx
          go_simp
        try simp only [Act.put, List.setIfInBounds_toArray, List.set_cons_zero, List.set_cons_succ]
        refine wpAnyG_cast #[true, true, true, true, true, true, true, true, false, false, true, true, true, true, false, false, false, false, false, false, false, false, false, false] (by kernel_rfl) ?_
        refine wpAnyG_pure (i := 14) (oi := ⟨some 56, _, _, _, _, _⟩) (v := .pointer (some ⟨gn, 1, none⟩)) rfl (by kernel_rfl) (by kernel_rfl) (by kernel_rfl) (by kernel_rfl) (fun _ _ _ h => h) (Or.inl ⟨by rfl, fun w => ?_⟩) hld ?_
        · go_simp
        try simp only [Act.put, List.setIfInBounds_toArray, List.set_cons_zero, List.set_cons_succ]
        refine wpAnyG_cast #[true, true, true, true, true, true, true, true, false, false, true, true, true, true, true, false, false, false, false, false, false, false, false, false] (by kernel_rfl) ?_
        refine wpAnyG_take [16, 17, 18, 19, 20, 21, 22, 23] (i := 15) (oi := ⟨some 57, _, _, _, _, _⟩) (v := .int .i64 nc) rfl (by kernel_rfl) (by kernel_rfl) (by kernel_rfl) (by kernel_rfl) (by kernel_rfl) (by kernel_rfl) (by kernel_rfl) (fun _ _ _ h => h) (Or.inl ⟨by rfl, fun w hSw => ?_⟩) hld ?_
        · have kx := (hSw _ (List.mem_cons_self ..)).cell 1
          simp only [List.getElem?_toArray, List.getElem?_cons_zero, List.getElem?_cons_succ] at kx
          go_simp
        try simp only [Act.put, List.setIfInBounds_toArray, List.set_cons_zero, List.set_cons_succ]
        refine wpAnyG_cast #[true, true, true, true, true, true, true, true, false, false, true, true, true, true, true, true, false, false, false, false, false, false, false, false] (by kernel_rfl) ?_
        clear hld
        refine wpAnyG_have (fun a a' w' => ∃ (g0 : Nat) (Ax0 : Option Addr) (cx0 : Nat) (g1 : Nat) (Ax1 : Option Addr) (cx1 : Nat) (ps : List BRow), a' = ((((a.put (some 50) (.slice (some ⟨g0, 0, none⟩) 1 1)).put (some 51) (.slice Ax0 (N + i + 1) cx0)).put (some 58) (.slice (some ⟨g1, 0, none⟩) 1 1)).put (some 59) (.slice Ax1 (N + i + 1) cx1)) ∧ Bag w0 w' base [⟨3, 1, .slice Al' m' cl', m', lev'.map cN⟩, ⟨3, 1, .slice Ax0 (N + i + 1) cx0, N + i + 1, L.map cF ++ [.int .i64 nf]⟩, ⟨3, 1, .slice Ax1 (N + i + 1) cx1, N + i + 1, L.map cC ++ [.int .i64 nc]⟩, ⟨3, 1, .slice A6 (N + i) c6, N + i, L.map cL⟩, ⟨4, 1, .slice A7 (N + i) c7, N + i, L.map cB⟩, ⟨3, 1, .slice A8 (N + i) c8, N + i, L.map cV⟩, ⟨3, 1, .slice Ar nr cr, nr, rl⟩] ps [⟨gn, 41, #[.int .i64 nf, .int .i64 nc, .int .i64 nl, .int .i64 nr0, .bool nb, .int .i64 nv]⟩, ⟨g, 55, #[.int .i64 f, .int .i64 way, .slice Aw nw cw, .slice Ar nr cr, .slice A4 (N + i) c4, .slice A5 (N + i) c5, .slice A6 (N + i) c6, .slice A7 (N + i) c7, .slice A8 (N + i) c8]⟩]) 6 #[true, true, true, true, true, true, true, true, true, true, true, true, true, true, true, true, true, true, false, false, false, false, false, false] ?_ (fun G2_01 => ?_)
        rotate_left
        refine wpAnyG_have (fun a a' w' => ∃ (g0 : Nat) (Ax0 : Option Addr) (cx0 : Nat) (g1 : Nat) (ps : List BRow), a' = (((a.put (some 50) (.slice (some ⟨g0, 0, none⟩) 1 1)).put (some 51) (.slice Ax0 (N + i + 1) cx0)).put (some 58) (.slice (some ⟨g1, 0, none⟩) 1 1)) ∧ (⟨3, 1, .slice (some ⟨g1, 0, none⟩) 1 1, 1, [.int .i64 nc]⟩ : BRow) ∈ ps ∧ Bag w0 w' base [⟨3, 1, .slice Al' m' cl', m', lev'.map cN⟩, ⟨3, 1, .slice Ax0 (N + i + 1) cx0, N + i + 1, L.map cF ++ [.int .i64 nf]⟩, ⟨3, 1, .slice A5 (N + i) c5, N + i, L.map cC⟩, ⟨3, 1, .slice A6 (N + i) c6, N + i, L.map cL⟩, ⟨4, 1, .slice A7 (N + i) c7, N + i, L.map cB⟩, ⟨3, 1, .slice A8 (N + i) c8, N + i, L.map cV⟩, ⟨3, 1, .slice Ar nr cr, nr, rl⟩] ps [⟨gn, 41, #[.int .i64 nf, .int .i64 nc, .int .i64 nl, .int .i64 nr0, .bool nb, .int .i64 nv]⟩, ⟨g, 55, #[.int .i64 f, .int .i64 way, .slice Aw nw cw, .slice Ar nr cr, .slice A4 (N + i) c4, .slice A5 (N + i) c5, .slice A6 (N + i) c6, .slice A7 (N + i) c7, .slice A8 (N + i) c8]⟩]) 7 #[true, true, true, true, true, true, true, true, true, true, true, true, true, true, true, true, true, false, false, false, false, false, false, false] ?_ (fun G1_01 => ?_)
        · rintro a' w' ⟨g0, Ax0, cx0, g1, ps, rfl, q1, hBs⟩
          try simp only [Act.put, List.setIfInBounds_toArray, List.set_cons_zero, List.set_cons_succ]
          refine wpAnyG_all (rs := [17]) (by kernel_rfl) (by simp) (all_1 ?_)
          · refine wpOp_at (o := ⟨some 59, _, _, _, _, _⟩) rfl rfl ?_
            refine wp_append_bag elem_int hBs (.tmp 55) (.tmp 58) rfl 2 rfl rfl q1 rfl (by intro u hu; simp at hu; subst hu; rfl) (by omega) ?_
            intro Ax1 cx1 w' hBn
            refine ⟨fun _ => hBn.ld, ?_⟩
            refine wpAnyG_cast #[true, true, true, true, true, true, true, true, true, true, true, true, true, true, true, true, true, true, false, false, false, false, false, false] (by kernel_rfl) ?_
            exact G2_01 _ _ ⟨g0, Ax0, cx0, g1, Ax1, cx1, _, rfl, hBn⟩
        refine wpAnyG_have (fun a a' w' => ∃ (g0 : Nat) (g1 : Nat) (ps : List BRow), a' = ((a.put (some 50) (.slice (some ⟨g0, 0, none⟩) 1 1)).put (some 58) (.slice (some ⟨g1, 0, none⟩) 1 1)) ∧ (⟨3, 1, .slice (some ⟨g0, 0, none⟩) 1 1, 1, [.int .i64 nf]⟩ : BRow) ∈ ps ∧ (⟨3, 1, .slice (some ⟨g1, 0, none⟩) 1 1, 1, [.int .i64 nc]⟩ : BRow) ∈ ps ∧ Bag w0 w' base [⟨3, 1, .slice Al' m' cl', m', lev'.map cN⟩, ⟨3, 1, .slice A4 (N + i) c4, N + i, L.map cF⟩, ⟨3, 1, .slice A5 (N + i) c5, N + i, L.map cC⟩, ⟨3, 1, .slice A6 (N + i) c6, N + i, L.map cL⟩, ⟨4, 1, .slice A7 (N + i) c7, N + i, L.map cB⟩, ⟨3, 1, .slice A8 (N + i) c8, N + i, L.map cV⟩, ⟨3, 1, .slice Ar nr cr, nr, rl⟩] ps [⟨gn, 41, #[.int .i64 nf, .int .i64 nc, .int .i64 nl, .int .i64 nr0, .bool nb, .int .i64 nv]⟩, ⟨g, 55, #[.int .i64 f, .int .i64 way, .slice Aw nw cw, .slice Ar nr cr, .slice A4 (N + i) c4, .slice A5 (N + i) c5, .slice A6 (N + i) c6, .slice A7 (N + i) c7, .slice A8 (N + i) c8]⟩]) 8 #[true, true, true, true, true, true, true, true, true, false, true, true, true, true, true, true, true, false, false, false, false, false, false, false] ?_ (fun G0_01 => ?_)
        · rintro a' w' ⟨g0, g1, ps, rfl, q0, q1, hBs⟩
          try simp only [Act.put, List.setIfInBounds_toArray, List.set_cons_zero, List.set_cons_succ]
          refine wpAnyG_all (rs := [9]) (by kernel_rfl) (by simp) (all_1 ?_)
          · refine wpOp_at (o := ⟨some 51, _, _, _, _, _⟩) rfl rfl ?_
            refine wp_append_bag elem_int hBs (.tmp 47) (.tmp 50) rfl 1 rfl rfl q0 rfl (by intro u hu; simp at hu; subst hu; rfl) (by omega) ?_
            intro Ax0 cx0 w' hBn
            refine ⟨fun _ => hBn.ld, ?_⟩
            refine wpAnyG_cast #[true, true, true, true, true, true, true, true, true, true, true, true, true, true, true, true, true, false, false, false, false, false, false, false] (by kernel_rfl) ?_
            exact G1_01 _ _ ⟨g0, Ax0, cx0, g1, _, rfl, q1, hBn⟩
        refine wpAnyG_have (fun a a' w' => ∃ (g0 : Nat) (Ax0 : Option Addr) (cx0 : Nat) (ps : List BRow), a' = ((a.put (some 50) (.slice (some ⟨g0, 0, none⟩) 1 1)).put (some 51) (.slice Ax0 (N + i + 1) cx0)) ∧ Bag w0 w' base [⟨3, 1, .slice Al' m' cl', m', lev'.map cN⟩, ⟨3, 1, .slice Ax0 (N + i + 1) cx0, N + i + 1, L.map cF ++ [.int .i64 nf]⟩, ⟨3, 1, .slice A5 (N + i) c5, N + i, L.map cC⟩, ⟨3, 1, .slice A6 (N + i) c6, N + i, L.map cL⟩, ⟨4, 1, .slice A7 (N + i) c7, N + i, L.map cB⟩, ⟨3, 1, .slice A8 (N + i) c8, N + i, L.map cV⟩, ⟨3, 1, .slice Ar nr cr, nr, rl⟩] ps [⟨gn, 41, #[.int .i64 nf, .int .i64 nc, .int .i64 nl, .int .i64 nr0, .bool nb, .int .i64 nv]⟩, ⟨g, 55, #[.int .i64 f, .int .i64 way, .slice Aw nw cw, .slice Ar nr cr, .slice A4 (N + i) c4, .slice A5 (N + i) c5, .slice A6 (N + i) c6, .slice A7 (N + i) c7, .slice A8 (N + i) c8]⟩]) 8 #[true, true, true, true, true, true, true, true, true, true, true, true, true, true, true, true, false, false, false, false, false, false, false, false] ?_ (fun G1_0 => ?_)
        · rintro a' w' ⟨g0, Ax0, cx0, ps, rfl, hBs⟩
          try simp only [Act.put, List.setIfInBounds_toArray, List.set_cons_zero, List.set_cons_succ]
          refine wpAnyG_all (rs := [16]) (by kernel_rfl) (by simp) (all_1 ?_)
          · refine wpOp_step (o := ⟨some 58, _, _, _, _, _⟩) rfl rfl (fun K hK => ?_)
            go_simp
            have hBn := hBs.push 3 1 1 [.int .i64 nc] rfl (by unfold maxLen; omega) rfl
            refine hK _ _ ⟨fun _ => hBn.ld, ?_⟩
            refine wpAnyG_cast #[true, true, true, true, true, true, true, true, true, true, true, true, true, true, true, true, true, false, false, false, false, false, false, false] (by kernel_rfl) ?_
            exact G1_01 _ _ ⟨g0, Ax0, cx0, _, _, rfl, List.mem_cons_self .., hBn⟩
        refine wpAnyG_have (fun a a' w' => ∃ (g0 : Nat) (ps : List BRow), a' = (a.put (some 50) (.slice (some ⟨g0, 0, none⟩) 1 1)) ∧ (⟨3, 1, .slice (some ⟨g0, 0, none⟩) 1 1, 1, [.int .i64 nf]⟩ : BRow) ∈ ps ∧ Bag w0 w' base [⟨3, 1, .slice Al' m' cl', m', lev'.map cN⟩, ⟨3, 1, .slice A4 (N + i) c4, N + i, L.map cF⟩, ⟨3, 1, .slice A5 (N + i) c5, N + i, L.map cC⟩, ⟨3, 1, .slice A6 (N + i) c6, N + i, L.map cL⟩, ⟨4, 1, .slice A7 (N + i) c7, N + i, L.map cB⟩, ⟨3, 1, .slice A8 (N + i) c8, N + i, L.map cV⟩, ⟨3, 1, .slice Ar nr cr, nr, rl⟩] ps [⟨gn, 41, #[.int .i64 nf, .int .i64 nc, .int .i64 nl, .int .i64 nr0, .bool nb, .int .i64 nv]⟩, ⟨g, 55, #[.int .i64 f, .int .i64 way, .slice Aw nw cw, .slice Ar nr cr, .slice A4 (N + i) c4, .slice A5 (N + i) c5, .slice A6 (N + i) c6, .slice A7 (N + i) c7, .slice A8 (N + i) c8]⟩]) 9 #[true, true, true, true, true, true, true, true, true, false, true, true, true, true, true, true, false, false, false, false, false, false, false, false] ?_ (fun G0_0 => ?_)
        · rintro a' w' ⟨g0, ps, rfl, q0, hBs⟩
          try simp only [Act.put, List.setIfInBounds_toArray, List.set_cons_zero, List.set_cons_succ]
          refine wpAnyG_all (rs := [9, 16]) (by kernel_rfl) (by simp) (all_2 ?_ ?_)
          · refine wpOp_at (o := ⟨some 51, _, _, _, _, _⟩) rfl rfl ?_
            refine wp_append_bag elem_int hBs (.tmp 47) (.tmp 50) rfl 1 rfl rfl q0 rfl (by intro u hu; simp at hu; subst hu; rfl) (by omega) ?_
            intro Ax0 cx0 w' hBn
            refine ⟨fun _ => hBn.ld, ?_⟩
            refine wpAnyG_cast #[true, true, true, true, true, true, true, true, true, true, true, true, true, true, true, true, false, false, false, false, false, false, false, false] (by kernel_rfl) ?_
            exact G1_0 _ _ ⟨g0, Ax0, cx0, _, rfl, hBn⟩
          · refine wpOp_step (o := ⟨some 58, _, _, _, _, _⟩) rfl rfl (fun K hK => ?_)
            go_simp
            have hBn := hBs.push 3 1 1 [.int .i64 nc] rfl (by unfold maxLen; omega) rfl
            refine hK _ _ ⟨fun _ => hBn.ld, ?_⟩
            refine wpAnyG_cast #[true, true, true, true, true, true, true, true, true, false, true, true, true, true, true, true, true, false, false, false, false, false, false, false] (by kernel_rfl) ?_
            exact G0_01 _ _ ⟨g0, _, _, rfl, List.mem_cons_of_mem _ q0, List.mem_cons_self .., hBn⟩
        refine wpAnyG_have (fun a a' w' => ∃ (g1 : Nat) (ps : List BRow), a' = (a.put (some 58) (.slice (some ⟨g1, 0, none⟩) 1 1)) ∧ (⟨3, 1, .slice (some ⟨g1, 0, none⟩) 1 1, 1, [.int .i64 nc]⟩ : BRow) ∈ ps ∧ Bag w0 w' base [⟨3, 1, .slice Al' m' cl', m', lev'.map cN⟩, ⟨3, 1, .slice A4 (N + i) c4, N + i, L.map cF⟩, ⟨3, 1, .slice A5 (N + i) c5, N + i, L.map cC⟩, ⟨3, 1, .slice A6 (N + i) c6, N + i, L.map cL⟩, ⟨4, 1, .slice A7 (N + i) c7, N + i, L.map cB⟩, ⟨3, 1, .slice A8 (N + i) c8, N + i, L.map cV⟩, ⟨3, 1, .slice Ar nr cr, nr, rl⟩] ps [⟨gn, 41, #[.int .i64 nf, .int .i64 nc, .int .i64 nl, .int .i64 nr0, .bool nb, .int .i64 nv]⟩, ⟨g, 55, #[.int .i64 f, .int .i64 way, .slice Aw nw cw, .slice Ar nr cr, .slice A4 (N + i) c4, .slice A5 (N + i) c5, .slice A6 (N + i) c6, .slice A7 (N + i) c7, .slice A8 (N + i) c8]⟩]) 9 #[true, true, true, true, true, true, true, true, false, false, true, true, true, true, true, true, true, false, false, false, false, false, false, false] ?_ (fun G0_1 => ?_)
        · rintro a' w' ⟨g1, ps, rfl, q1, hBs⟩
          try simp only [Act.put, List.setIfInBounds_toArray, List.set_cons_zero, List.set_cons_succ]
          refine wpAnyG_all (rs := [8]) (by kernel_rfl) (by simp) (all_1 ?_)
          · refine wpOp_step (o := ⟨some 50, _, _, _, _, _⟩) rfl rfl (fun K hK => ?_)
            go_simp
            have hBn := hBs.push 3 1 1 [.int .i64 nf] rfl (by unfold maxLen; omega) rfl
            refine hK _ _ ⟨fun _ => hBn.ld, ?_⟩
            refine wpAnyG_cast #[true, true, true, true, true, true, true, true, true, false, true, true, true, true, true, true, true, false, false, false, false, false, false, false] (by kernel_rfl) ?_
            exact G0_01 _ _ ⟨_, g1, _, rfl, List.mem_cons_self .., List.mem_cons_of_mem _ q1, hBn⟩
        try simp only [Act.put, List.setIfInBounds_toArray, List.set_cons_zero, List.set_cons_succ]
        refine wpAnyG_all (rs := [8, 16]) (by kernel_rfl) (by simp) (all_2 ?_ ?_)
        · refine wpOp_step (o := ⟨some 50, _, _, _, _, _⟩) rfl rfl (fun K hK => ?_)
          go_simp
          have hBn := hBd.push 3 1 1 [.int .i64 nf] rfl (by unfold maxLen; omega) rfl
          refine hK _ _ ⟨fun _ => hBn.ld, ?_⟩
          refine wpAnyG_cast #[true, true, true, true, true, true, true, true, true, false, true, true, true, true, true, true, false, false, false, false, false, false, false, false] (by kernel_rfl) ?_
          exact G0_0 _ _ ⟨_, _, rfl, List.mem_cons_self .., hBn⟩
        · refine wpOp_step (o := ⟨some 58, _, _, _, _, _⟩) rfl rfl (fun K hK => ?_)
          go_simp
          have hBn := hBd.push 3 1 1 [.int .i64 nc] rfl (by unfold maxLen; omega) rfl
          refine hK _ _ ⟨fun _ => hBn.ld, ?_⟩
          refine wpAnyG_cast #[true, true, true, true, true, true, true, true, false, false, true, true, true, true, true, true, true, false, false, false, false, false, false, false] (by kernel_rfl) ?_
          exact G0_1 _ _ ⟨_, _, rfl, List.mem_cons_self .., hBn⟩
        rintro a' w' ⟨g0, Ax0, cx0, g1, Ax1, cx1, ps, rfl, hBs⟩
        try simp only [Act.put, List.setIfInBounds_toArray, List.set_cons_zero, List.set_cons_succ]
        refine wpAnyG_one 18 (o := ⟨some 60, _, _, _, _, _⟩) (by kernel_rfl) rfl rfl (fun K hK => ?_)
        go_simp
        refine hK _ _ ⟨fun _ => (hBs).ld, ?_⟩
        clear hK K
        try simp only [Act.put, List.setIfInBounds_toArray, List.set_cons_zero, List.set_cons_succ]
        refine wpAnyG_cast #[true, true, true, true, true, true, true, true, true, true, true, true, true, true, true, true, true, true, true, false, false, false, false, false] (by kernel_rfl) ?_
        refine wpAnyG_one 19 (o := ⟨some 61, _, _, _, _, _⟩) (by kernel_rfl) rfl rfl (fun K hK => ?_)
        go_simp
        refine hK _ _ ⟨fun _ => (hBs).ld, ?_⟩
        clear hK K
        try simp only [Act.put, List.setIfInBounds_toArray, List.set_cons_zero, List.set_cons_succ]
        refine wpAnyG_cast #[true, true, true, true, true, true, true, true, true, true, true, true, true, true, true, true, true, true, true, true, false, false, false, false] (by kernel_rfl) ?_
        have kc := ((hBs).blk _ (List.mem_cons_of_mem _ (List.mem_cons_self ..))).1.cell 4
        have kf := ((hBs).blk _ (List.mem_cons_of_mem _ (List.mem_cons_self ..))).1.frozen 4
        simp only [List.getElem?_toArray, List.getElem?_cons_zero, List.getElem?_cons_succ] at kc
        refine wpAnyG_one 20 (o := ⟨none, _, _, _, _, _⟩) (by kernel_rfl) rfl rfl (fun K hK => ?_)
        go_simp
        have hBt0 : Bag w0 (_ : World) base [⟨3, 1, .slice Al' m' cl', m', lev'.map cN⟩, ⟨3, 1, .slice Ax0 (N + i + 1) cx0, N + i + 1, L.map cF ++ [.int .i64 nf]⟩, ⟨3, 1, .slice Ax1 (N + i + 1) cx1, N + i + 1, L.map cC ++ [.int .i64 nc]⟩, ⟨3, 1, .slice A6 (N + i) c6, N + i, L.map cL⟩, ⟨4, 1, .slice A7 (N + i) c7, N + i, L.map cB⟩, ⟨3, 1, .slice A8 (N + i) c8, N + i, L.map cV⟩, ⟨3, 1, .slice Ar nr cr, nr, rl⟩] ps [⟨gn, 41, #[.int .i64 nf, .int .i64 nc, .int .i64 nl, .int .i64 nr0, .bool nb, .int .i64 nv]⟩, ⟨g, 55, #[.int .i64 f, .int .i64 way, .slice Aw nw cw, .slice Ar nr cr, .slice Ax0 (N + i + 1) cx0, .slice A5 (N + i) c5, .slice A6 (N + i) c6, .slice A7 (N + i) c7, .slice A8 (N + i) c8]⟩] := (hBs).store 1 4 (.slice Ax0 (N + i + 1) cx0) rfl
        clear kc kf
        refine hK _ _ ⟨noneUp_no (by kernel_rfl), ?_⟩
        clear hK K
        try simp only [Act.put, List.setIfInBounds_toArray, List.set_cons_zero, List.set_cons_succ]
        refine wpAnyG_cast #[true, true, true, true, true, true, true, true, true, true, true, true, true, true, true, true, true, true, true, true, true, false, false, false] (by kernel_rfl) ?_
        refine wpAnyG_one 21 (o := ⟨some 62, _, _, _, _, _⟩) (by kernel_rfl) rfl rfl (fun K hK => ?_)
        go_simp
        refine hK _ _ ⟨noneUp_no (by kernel_rfl), ?_⟩
        clear hK K
        try simp only [Act.put, List.setIfInBounds_toArray, List.set_cons_zero, List.set_cons_succ]
        refine wpAnyG_cast #[true, true, true, true, true, true, true, true, true, true, true, true, true, true, true, true, true, true, true, true, true, true, false, false] (by kernel_rfl) ?_
        refine wpAnyG_one 22 (o := ⟨some 63, _, _, _, _, _⟩) (by kernel_rfl) rfl rfl (fun K hK => ?_)
        go_simp
        refine hK _ _ ⟨noneUp_no (by kernel_rfl), ?_⟩
        clear hK K
        try simp only [Act.put, List.setIfInBounds_toArray, List.set_cons_zero, List.set_cons_succ]
        refine wpAnyG_cast #[true, true, true, true, true, true, true, true, true, true, true, true, true, true, true, true, true, true, true, true, true, true, true, false] (by kernel_rfl) ?_
        have kc := ((hBt0).blk _ (List.mem_cons_of_mem _ (List.mem_cons_self ..))).1.cell 5
        have kf := ((hBt0).blk _ (List.mem_cons_of_mem _ (List.mem_cons_self ..))).1.frozen 5
        simp only [List.getElem?_toArray, List.getElem?_cons_zero, List.getElem?_cons_succ] at kc
        refine wpAnyG_one 23 (o := ⟨none, _, _, _, _, _⟩) (by kernel_rfl) rfl rfl (fun K hK => ?_)
        go_simp
        have hBt1 : Bag w0 (_ : World) base [⟨3, 1, .slice Al' m' cl', m', lev'.map cN⟩, ⟨3, 1, .slice Ax0 (N + i + 1) cx0, N + i + 1, L.map cF ++ [.int .i64 nf]⟩, ⟨3, 1, .slice Ax1 (N + i + 1) cx1, N + i + 1, L.map cC ++ [.int .i64 nc]⟩, ⟨3, 1, .slice A6 (N + i) c6, N + i, L.map cL⟩, ⟨4, 1, .slice A7 (N + i) c7, N + i, L.map cB⟩, ⟨3, 1, .slice A8 (N + i) c8, N + i, L.map cV⟩, ⟨3, 1, .slice Ar nr cr, nr, rl⟩] ps [⟨gn, 41, #[.int .i64 nf, .int .i64 nc, .int .i64 nl, .int .i64 nr0, .bool nb, .int .i64 nv]⟩, ⟨g, 55, #[.int .i64 f, .int .i64 way, .slice Aw nw cw, .slice Ar nr cr, .slice Ax0 (N + i + 1) cx0, .slice Ax1 (N + i + 1) cx1, .slice A6 (N + i) c6, .slice A7 (N + i) c7, .slice A8 (N + i) c8]⟩] := (hBt0).store 1 5 (.slice Ax1 (N + i + 1) cx1) rfl
        clear kc kf
        refine hK _ _ ⟨noneUp_no (by kernel_rfl), ?_⟩
        clear hK K
        try simp only [Act.put, List.setIfInBounds_toArray, List.set_cons_zero, List.set_cons_succ]
        refine wpAnyG_cast #[true, true, true, true, true, true, true, true, true, true, true, true, true, true, true, true, true, true, true, true, true, true, true, true] (by kernel_rfl) ?_
        refine wpAnyG_done (by kernel_rfl) ?_ _
        have hBz := hBt1.forget
        go_upto_region 11 with (fail)
        refine wp_bag hBz (fun X hBY => ?_)
        clear hBz hBt0 hBt1 hBs hBX hBd
        refine wp_region_G (st := [28, 31, 34]) (S := Ld [⟨gn, 41, #[.int .i64 nf, .int .i64 nc, .int .i64 nl, .int .i64 nr0, .bool nb, .int .i64 nv]⟩, ⟨g, 55, #[.int .i64 f, .int .i64 way, .slice Aw nw cw, .slice Ar nr cr, .slice Ax0 (N + i + 1) cx0, .slice Ax1 (N + i + 1) cx1, .slice A6 (N + i) c6, .slice A7 (N + i) c7, .slice A8 (N + i) c8]⟩]) (by kernel_rfl) ?_
        have hBd := (hBY).drew
        have hld := hBd.ld
        refine wpAnyG_cast #[false, false, false, false, false, false, false, false, false, false, false, false, false, false, false, false, false, false, false, false, false, false, false, false, false, false, false, false, false, false, false, false, false, false, false] (by kernel_rfl) ?_
        refine wpAnyG_pure (i := 0) (oi := ⟨some 64, _, _, _, _, _⟩) (v := .pointer (some ⟨g, 0, none⟩)) rfl (by kernel_rfl) (by kernel_rfl) (by kernel_rfl) (by kernel_rfl) (fun _ _ _ h => h) (Or.inl ⟨by rfl, fun w => ?_⟩) hld ?_
        · go_simp
        try simp only [Act.put, List.setIfInBounds_toArray, List.set_cons_zero, List.set_cons_succ]
        refine wpAnyG_cast #[true, false, false, false, false, false, false, false, false, false, false, false, false, false, false, false, false, false, false, false, false, false, false, false, false, false, false, false, false, false, false, false, false, false, false] (by kernel_rfl) ?_
        refine wpAnyG_pure (i := 1) (oi := ⟨some 65, _, _, _, _, _⟩) (v := .pointer (some ⟨g, 0, none⟩)) rfl (by kernel_rfl) (by kernel_rfl) (by kernel_rfl) (by kernel_rfl) (fun _ _ _ h => h) (Or.inl ⟨by rfl, fun w => ?_⟩) hld ?_
        · go_simp
        try simp only [Act.put, List.setIfInBounds_toArray, List.set_cons_zero, List.set_cons_succ]
        refine wpAnyG_cast #[true, true, false, false, false, false, false, false, false, false, false, false, false, false, false, false, false, false, false, false, false, false, false, false, false, false, false, false, false, false, false, false, false, false, false] (by kernel_rfl) ?_
        refine wpAnyG_pure (i := 2) (oi := ⟨some 66, _, _, _, _, _⟩) (v := .pointer (some ⟨g, 0, none⟩)) rfl (by kernel_rfl) (by kernel_rfl) (by kernel_rfl) (by kernel_rfl) (fun _ _ _ h => h) (Or.inl ⟨by rfl, fun w => ?_⟩) hld ?_
        · go_simp
        try simp only [Act.put, List.setIfInBounds_toArray, List.set_cons_zero, List.set_cons_succ]
        refine wpAnyG_cast #[true, true, true, false, false, false, false, false, false, false, false, false, false, false, false, false, false, false, false, false, false, false, false, false, false, false, false, false, false, false, false, false, false, false, false] (by kernel_rfl) ?_
        refine wpAnyG_pure (i := 3) (oi := ⟨some 67, _, _, _, _, _⟩) (v := .pointer (some ⟨g, 0, none⟩)) rfl (by kernel_rfl) (by kernel_rfl) (by kernel_rfl) (by kernel_rfl) (fun _ _ _ h => h) (Or.inl ⟨by rfl, fun w => ?_⟩) hld ?_
        · go_simp
        try simp only [Act.put, List.setIfInBounds_toArray, List.set_cons_zero, List.set_cons_succ]
        refine wpAnyG_cast #[true, true, true, true, false, false, false, false, false, false, false, false, false, false, false, false, false, false, false, false, false, false, false, false, false, false, false, false, false, false, false, false, false, false, false] (by kernel_rfl) ?_
        refine wpAnyG_pure (i := 4) (oi := ⟨some 68, _, _, _, _, _⟩) (v := .pointer (some ⟨g, 0, none⟩)) rfl (by kernel_rfl) (by kernel_rfl) (by kernel_rfl) (by kernel_rfl) (fun _ _ _ h => h) (Or.inl ⟨by rfl, fun w => ?_⟩) hld ?_
        · go_simp
        try simp only [Act.put, List.setIfInBounds_toArray, List.set_cons_zero, List.set_cons_succ]
        refine wpAnyG_cast #[true, true, true, true, true, false, false, false, false, false, false, false, false, false, false, false, false, false, false, false, false, false, false, false, false, false, false, false, false, false, false, false, false, false, false] (by kernel_rfl) ?_
        refine wpAnyG_pure (i := 5) (oi := ⟨some 69, _, _, _, _, _⟩) (v := .pointer (some ⟨g, 6, none⟩)) rfl (by kernel_rfl) (by kernel_rfl) (by kernel_rfl) (by kernel_rfl) (fun _ _ _ h => h) (Or.inl ⟨by rfl, fun w => ?_⟩) hld ?_
        · go_simp
        try simp only [Act.put, List.setIfInBounds_toArray, List.set_cons_zero, List.set_cons_succ]
        refine wpAnyG_cast #[true, true, true, true, true, true, false, false, false, false, false, false, false, false, false, false, false, false, false, false, false, false, false, false, false, false, false, false, false, false, false, false, false, false, false] (by kernel_rfl) ?_
        refine wpAnyG_take [9, 17, 25, 26, 27, 28, 29, 30, 31, 32, 33, 34] (i := 6) (oi := ⟨some 70, _, _, _, _, _⟩) (v := .slice A6 (N + i) c6) rfl (by kernel_rfl) (by kernel_rfl) (by kernel_rfl) (by kernel_rfl) (by kernel_rfl) (by kernel_rfl) (by kernel_rfl) (fun _ _ _ h => h) (Or.inl ⟨by rfl, fun w hSw => ?_⟩) hld ?_
        · have kx := (hSw _ (List.mem_cons_of_mem _ (List.mem_cons_self ..))).cell 6
          simp only [List.getElem?_toArray, List.getElem?_cons_zero, List.getElem?_cons_succ] at kx
          go_simp
        try simp only [Act.put, List.setIfInBounds_toArray, List.set_cons_zero, List.set_cons_succ]
        refine wpAnyG_cast #[true, true, true, true, true, true, true, false, false, false, false, false, false, false, false, false, false, false, false, false, false, false, false, false, false, false, false, false, false, false, false, false, false, false, false] (by kernel_rfl) ?_
        refine wpAnyG_pure (i := 7) (oi := ⟨some 71, _, _, _, _, _⟩) (v := .int .i64 left) rfl (by kernel_rfl) (by kernel_rfl) (by kernel_rfl) (by kernel_rfl) (fun _ _ _ h => h) (Or.inl ⟨by rfl, fun w => ?_⟩) hld ?_
        · go_simp
        try simp only [Act.put, List.setIfInBounds_toArray, List.set_cons_zero, List.set_cons_succ]
        refine wpAnyG_cast #[true, true, true, true, true, true, true, true, false, false, false, false, false, false, false, false, false, false, false, false, false, false, false, false, false, false, false, false, false, false, false, false, false, false, false] (by kernel_rfl) ?_
        refine wpAnyG_pure (i := 10) (oi := ⟨some 74, _, _, _, _, _⟩) (v := .pointer (some ⟨g, 0, none⟩)) rfl (by kernel_rfl) (by kernel_rfl) (by kernel_rfl) (by kernel_rfl) (fun _ _ _ h => h) (Or.inl ⟨by rfl, fun w => ?_⟩) hld ?_
        · go_simp
        try simp only [Act.put, List.setIfInBounds_toArray, List.set_cons_zero, List.set_cons_succ]
        refine wpAnyG_cast #[true, true, true, true, true, true, true, true, false, false, true, false, false, false, false, false, false, false, false, false, false, false, false, false, false, false, false, false, false, false, false, false, false, false, false] (by kernel_rfl) ?_
        refine wpAnyG_pure (i := 11) (oi := ⟨some 75, _, _, _, _, _⟩) (v := .pointer (some ⟨g, 0, none⟩)) rfl (by kernel_rfl) (by kernel_rfl) (by kernel_rfl) (by kernel_rfl) (fun _ _ _ h => h) (Or.inl ⟨by rfl, fun w => ?_⟩) hld ?_
        · go_simp
        try simp only [Act.put, List.setIfInBounds_toArray, List.set_cons_zero, List.set_cons_succ]
        refine wpAnyG_cast #[true, true, true, true, true, true, true, true, false, false, true, true, false, false, false, false, false, false, false, false, false, false, false, false, false, false, false, false, false, false, false, false, false, false, false] (by kernel_rfl) ?_
        refine wpAnyG_pure (i := 12) (oi := ⟨some 76, _, _, _, _, _⟩) (v := .pointer (some ⟨g, 7, none⟩)) rfl (by kernel_rfl) (by kernel_rfl) (by kernel_rfl) (by kernel_rfl) (fun _ _ _ h => h) (Or.inl ⟨by rfl, fun w => ?_⟩) hld ?_
        · go_simp
        try simp only [Act.put, List.setIfInBounds_toArray, List.set_cons_zero, List.set_cons_succ]
        refine wpAnyG_cast #[true, true, true, true, true, true, true, true, false, false, true, true, true, false, false, false, false, false, false, false, false, false, false, false, false, false, false, false, false, false, false, false, false, false, false] (by kernel_rfl) ?_
        refine wpAnyG_take [17, 25, 26, 27, 28, 29, 30, 31, 32, 33, 34] (i := 13) (oi := ⟨some 77, _, _, _, _, _⟩) (v := .slice A7 (N + i) c7) rfl (by kernel_rfl) (by kernel_rfl) (by kernel_rfl) (by kernel_rfl) (by kernel_rfl) (by kernel_rfl) (by kernel_rfl) (fun _ _ _ h => h) (Or.inl ⟨by rfl, fun w hSw => ?_⟩) hld ?_
        · have kx := (hSw _ (List.mem_cons_of_mem _ (List.mem_cons_self ..))).cell 7
          simp only [List.getElem?_toArray, List.getElem?_cons_zero, List.getElem?_cons_succ] at kx
          go_simp
        try simp only [Act.put, List.setIfInBounds_toArray, List.set_cons_zero, List.set_cons_succ]
        refine wpAnyG_cast #[true, true, true, true, true, true, true, true, false, false, true, true, true, true, false, false, false, false, false, false, false, false, false, false, false, false, false, false, false, false, false, false, false, false, false] (by kernel_rfl) ?_
        refine wpAnyG_pure (i := 14) (oi := ⟨some 78, _, _, _, _, _⟩) (v := .pointer (some ⟨gn, 4, none⟩)) rfl (by kernel_rfl) (by kernel_rfl) (by kernel_rfl) (by kernel_rfl) (fun _ _ _ h => h) (Or.inl ⟨by rfl, fun w => ?_⟩) hld ?_
        · go_simp
        try simp only [Act.put, List.setIfInBounds_toArray, List.set_cons_zero, List.set_cons_succ]
        refine wpAnyG_cast #[true, true, true, true, true, true, true, true, false, false, true, true, true, true, true, false, false, false, false, false, false, false, false, false, false, false, false, false, false, false, false, false, false, false, false] (by kernel_rfl) ?_
        refine wpAnyG_take [16, 17, 25, 26, 27, 28, 29, 30, 31, 32, 33, 34] (i := 15) (oi := ⟨some 79, _, _, _, _, _⟩) (v := .bool nb) rfl (by kernel_rfl) (by kernel_rfl) (by kernel_rfl) (by kernel_rfl) (by kernel_rfl) (by kernel_rfl) (by kernel_rfl) (fun _ _ _ h => h) (Or.inl ⟨by rfl, fun w hSw => ?_⟩) hld ?_
        · have kx := (hSw _ (List.mem_cons_self ..)).cell 4
          simp only [List.getElem?_toArray, List.getElem?_cons_zero, List.getElem?_cons_succ] at kx
          go_simp
        try simp only [Act.put, List.setIfInBounds_toArray, List.set_cons_zero, List.set_cons_succ]
        refine wpAnyG_cast #[true, true, true, true, true, true, true, true, false, false, true, true, true, true, true, true, false, false, false, false, false, false, false, false, false, false, false, false, false, false, false, false, false, false, false] (by kernel_rfl) ?_
        refine wpAnyG_pure (i := 18) (oi := ⟨some 82, _, _, _, _, _⟩) (v := .pointer (some ⟨g, 0, none⟩)) rfl (by kernel_rfl) (by kernel_rfl) (by kernel_rfl) (by kernel_rfl) (fun _ _ _ h => h) (Or.inl ⟨by rfl, fun w => ?_⟩) hld ?_
        · go_simp
        try simp only [Act.put, List.setIfInBounds_toArray, List.set_cons_zero, List.set_cons_succ]
        refine wpAnyG_cast #[true, true, true, true, true, true, true, true, false, false, true, true, true, true, true, true, false, false, true, false, false, false, false, false, false, false, false, false, false, false, false, false, false, false, false] (by kernel_rfl) ?_
        refine wpAnyG_pure (i := 19) (oi := ⟨some 83, _, _, _, _, _⟩) (v := .pointer (some ⟨g, 0, none⟩)) rfl (by kernel_rfl) (by kernel_rfl) (by kernel_rfl) (by kernel_rfl) (fun _ _ _ h => h) (Or.inl ⟨by rfl, fun w => ?_⟩) hld ?_
        · go_simp
        try simp only [Act.put, List.setIfInBounds_toArray, List.set_cons_zero, List.set_cons_succ]
        refine wpAnyG_cast #[true, true, true, true, true, true, true, true, false, false, true, true, true, true, true, true, false, false, true, true, false, false, false, false, false, false, false, false, false, false, false, false, false, false, false] (by kernel_rfl) ?_
        refine wpAnyG_pure (i := 20) (oi := ⟨some 84, _, _, _, _, _⟩) (v := .pointer (some ⟨g, 8, none⟩)) rfl (by kernel_rfl) (by kernel_rfl) (by kernel_rfl) (by kernel_rfl) (fun _ _ _ h => h) (Or.inl ⟨by rfl, fun w => ?_⟩) hld ?_
        · go_simp
        try simp only [Act.put, List.setIfInBounds_toArray, List.set_cons_zero, List.set_cons_succ]
        refine wpAnyG_cast #[true, true, true, true, true, true, true, true, false, false, true, true, true, true, true, true, false, false, true, true, true, false, false, false, false, false, false, false, false, false, false, false, false, false, false] (by kernel_rfl) ?_
        refine wpAnyG_take [25, 26, 27, 28, 29, 30, 31, 32, 33, 34] (i := 21) (oi := ⟨some 85, _, _, _, _, _⟩) (v := .slice A8 (N + i) c8) rfl (by kernel_rfl) (by kernel_rfl) (by kernel_rfl) (by kernel_rfl) (by kernel_rfl) (by kernel_rfl) (by kernel_rfl) (fun _ _ _ h => h) (Or.inl ⟨by rfl, fun w hSw => ?_⟩) hld ?_
        · have kx := (hSw _ (List.mem_cons_of_mem _ (List.mem_cons_self ..))).cell 8
          simp only [List.getElem?_toArray, List.getElem?_cons_zero, List.getElem?_cons_succ] at kx
          go_simp
        try simp only [Act.put, List.setIfInBounds_toArray, List.set_cons_zero, List.set_cons_succ]
        refine wpAnyG_cast #[true, true, true, true, true, true, true, true, false, false, true, true, true, true, true, true, false, false, true, true, true, true, false, false, false, false, false, false, false, false, false, false, false, false, false] (by kernel_rfl) ?_
        refine wpAnyG_pure (i := 22) (oi := ⟨some 86, _, _, _, _, _⟩) (v := .pointer (some ⟨gn, 5, none⟩)) rfl (by kernel_rfl) (by kernel_rfl) (by kernel_rfl) (by kernel_rfl) (fun _ _ _ h => h) (Or.inl ⟨by rfl, fun w => ?_⟩) hld ?_
        · go_simp
        try simp only [Act.put, List.setIfInBounds_toArray, List.set_cons_zero, List.set_cons_succ]
        refine wpAnyG_cast #[true, true, true, true, true, true, true, true, false, false, true, true, true, true, true, true, false, false, true, true, true, true, true, false, false, false, false, false, false, false, false, false, false, false, false] (by kernel_rfl) ?_
        refine wpAnyG_take [24, 25, 26, 27, 28, 29, 30, 31, 32, 33, 34] (i := 23) (oi := ⟨some 87, _, _, _, _, _⟩) (v := .int .i64 nv) rfl (by kernel_rfl) (by kernel_rfl) (by kernel_rfl) (by kernel_rfl) (by kernel_rfl) (by kernel_rfl) (by kernel_rfl) (fun _ _ _ h => h) (Or.inl ⟨by rfl, fun w hSw => ?_⟩) hld ?_
        · have kx := (hSw _ (List.mem_cons_self ..)).cell 5
          simp only [List.getElem?_toArray, List.getElem?_cons_zero, List.getElem?_cons_succ] at kx
          go_simp
        try simp only [Act.put, List.setIfInBounds_toArray, List.set_cons_zero, List.set_cons_succ]
        refine wpAnyG_cast #[true, true, true, true, true, true, true, true, false, false, true, true, true, true, true, true, false, false, true, true, true, true, true, true, false, false, false, false, false, false, false, false, false, false, false] (by kernel_rfl) ?_
        clear hld
        refine wpAnyG_have (fun a a' w' => ∃ (g0 : Nat) (Ay0 : Option Addr) (cy0 : Nat) (g1 : Nat) (Ay1 : Option Addr) (cy1 : Nat) (g2 : Nat) (Ay2 : Option Addr) (cy2 : Nat) (ps : List BRow), a' = ((((((a.put (some 72) (.slice (some ⟨g0, 0, none⟩) 1 1)).put (some 73) (.slice Ay0 (N + i + 1) cy0)).put (some 80) (.slice (some ⟨g1, 0, none⟩) 1 1)).put (some 81) (.slice Ay1 (N + i + 1) cy1)).put (some 88) (.slice (some ⟨g2, 0, none⟩) 1 1)).put (some 89) (.slice Ay2 (N + i + 1) cy2)) ∧ Bag w0 w' base [⟨3, 1, .slice Al' m' cl', m', lev'.map cN⟩, ⟨3, 1, .slice Ax0 (N + i + 1) cx0, N + i + 1, L.map cF ++ [.int .i64 nf]⟩, ⟨3, 1, .slice Ax1 (N + i + 1) cx1, N + i + 1, L.map cC ++ [.int .i64 nc]⟩, ⟨3, 1, .slice Ay0 (N + i + 1) cy0, N + i + 1, L.map cL ++ [.int .i64 left]⟩, ⟨4, 1, .slice Ay1 (N + i + 1) cy1, N + i + 1, L.map cB ++ [.bool nb]⟩, ⟨3, 1, .slice Ay2 (N + i + 1) cy2, N + i + 1, L.map cV ++ [.int .i64 nv]⟩, ⟨3, 1, .slice Ar nr cr, nr, rl⟩] ps [⟨gn, 41, #[.int .i64 nf, .int .i64 nc, .int .i64 nl, .int .i64 nr0, .bool nb, .int .i64 nv]⟩, ⟨g, 55, #[.int .i64 f, .int .i64 way, .slice Aw nw cw, .slice Ar nr cr, .slice Ax0 (N + i + 1) cx0, .slice Ax1 (N + i + 1) cx1, .slice A6 (N + i) c6, .slice A7 (N + i) c7, .slice A8 (N + i) c8]⟩]) 9 #[true, true, true, true, true, true, true, true, true, true, true, true, true, true, true, true, true, true, true, true, true, true, true, true, true, true, false, false, false, false, false, false, false, false, false] ?_ (fun G3_012 => ?_)
        rotate_left
        refine wpAnyG_have (fun a a' w' => ∃ (g0 : Nat) (Ay0 : Option Addr) (cy0 : Nat) (g1 : Nat) (Ay1 : Option Addr) (cy1 : Nat) (g2 : Nat) (ps : List BRow), a' = (((((a.put (some 72) (.slice (some ⟨g0, 0, none⟩) 1 1)).put (some 73) (.slice Ay0 (N + i + 1) cy0)).put (some 80) (.slice (some ⟨g1, 0, none⟩) 1 1)).put (some 81) (.slice Ay1 (N + i + 1) cy1)).put (some 88) (.slice (some ⟨g2, 0, none⟩) 1 1)) ∧ (⟨3, 1, .slice (some ⟨g2, 0, none⟩) 1 1, 1, [.int .i64 nv]⟩ : BRow) ∈ ps ∧ Bag w0 w' base [⟨3, 1, .slice Al' m' cl', m', lev'.map cN⟩, ⟨3, 1, .slice Ax0 (N + i + 1) cx0, N + i + 1, L.map cF ++ [.int .i64 nf]⟩, ⟨3, 1, .slice Ax1 (N + i + 1) cx1, N + i + 1, L.map cC ++ [.int .i64 nc]⟩, ⟨3, 1, .slice Ay0 (N + i + 1) cy0, N + i + 1, L.map cL ++ [.int .i64 left]⟩, ⟨4, 1, .slice Ay1 (N + i + 1) cy1, N + i + 1, L.map cB ++ [.bool nb]⟩, ⟨3, 1, .slice A8 (N + i) c8, N + i, L.map cV⟩, ⟨3, 1, .slice Ar nr cr, nr, rl⟩] ps [⟨gn, 41, #[.int .i64 nf, .int .i64 nc, .int .i64 nl, .int .i64 nr0, .bool nb, .int .i64 nv]⟩, ⟨g, 55, #[.int .i64 f, .int .i64 way, .slice Aw nw cw, .slice Ar nr cr, .slice Ax0 (N + i + 1) cx0, .slice Ax1 (N + i + 1) cx1, .slice A6 (N + i) c6, .slice A7 (N + i) c7, .slice A8 (N + i) c8]⟩]) 10 #[true, true, true, true, true, true, true, true, true, true, true, true, true, true, true, true, true, true, true, true, true, true, true, true, true, false, false, false, false, false, false, false, false, false, false] ?_ (fun G2_012 => ?_)
        · rintro a' w' ⟨g0, Ay0, cy0, g1, Ay1, cy1, g2, ps, rfl, q2, hBs⟩
          try simp only [Act.put, List.setIfInBounds_toArray, List.set_cons_zero, List.set_cons_succ]
          refine wpAnyG_all (rs := [25]) (by kernel_rfl) (by simp) (all_1 ?_)
          · refine wpOp_at (o := ⟨some 89, _, _, _, _, _⟩) rfl rfl ?_
            refine wp_append_bag elem_int hBs (.tmp 85) (.tmp 88) rfl 5 rfl rfl q2 rfl (by intro u hu; simp at hu; subst hu; rfl) (by omega) ?_
            intro Ay2 cy2 w' hBn
            refine ⟨fun _ => hBn.ld, ?_⟩
            refine wpAnyG_cast #[true, true, true, true, true, true, true, true, true, true, true, true, true, true, true, true, true, true, true, true, true, true, true, true, true, true, false, false, false, false, false, false, false, false, false] (by kernel_rfl) ?_
            exact G3_012 _ _ ⟨g0, Ay0, cy0, g1, Ay1, cy1, g2, Ay2, cy2, _, rfl, hBn⟩
        refine wpAnyG_have (fun a a' w' => ∃ (g0 : Nat) (Ay0 : Option Addr) (cy0 : Nat) (g1 : Nat) (g2 : Nat) (ps : List BRow), a' = ((((a.put (some 72) (.slice (some ⟨g0, 0, none⟩) 1 1)).put (some 73) (.slice Ay0 (N + i + 1) cy0)).put (some 80) (.slice (some ⟨g1, 0, none⟩) 1 1)).put (some 88) (.slice (some ⟨g2, 0, none⟩) 1 1)) ∧ (⟨4, 1, .slice (some ⟨g1, 0, none⟩) 1 1, 1, [.bool nb]⟩ : BRow) ∈ ps ∧ (⟨3, 1, .slice (some ⟨g2, 0, none⟩) 1 1, 1, [.int .i64 nv]⟩ : BRow) ∈ ps ∧ Bag w0 w' base [⟨3, 1, .slice Al' m' cl', m', lev'.map cN⟩, ⟨3, 1, .slice Ax0 (N + i + 1) cx0, N + i + 1, L.map cF ++ [.int .i64 nf]⟩, ⟨3, 1, .slice Ax1 (N + i + 1) cx1, N + i + 1, L.map cC ++ [.int .i64 nc]⟩, ⟨3, 1, .slice Ay0 (N + i + 1) cy0, N + i + 1, L.map cL ++ [.int .i64 left]⟩, ⟨4, 1, .slice A7 (N + i) c7, N + i, L.map cB⟩, ⟨3, 1, .slice A8 (N + i) c8, N + i, L.map cV⟩, ⟨3, 1, .slice Ar nr cr, nr, rl⟩] ps [⟨gn, 41, #[.int .i64 nf, .int .i64 nc, .int .i64 nl, .int .i64 nr0, .bool nb, .int .i64 nv]⟩, ⟨g, 55, #[.int .i64 f, .int .i64 way, .slice Aw nw cw, .slice Ar nr cr, .slice Ax0 (N + i + 1) cx0, .slice Ax1 (N + i + 1) cx1, .slice A6 (N + i) c6, .slice A7 (N + i) c7, .slice A8 (N + i) c8]⟩]) 11 #[true, true, true, true, true, true, true, true, true, true, true, true, true, true, true, true, true, false, true, true, true, true, true, true, true, false, false, false, false, false, false, false, false, false, false] ?_ (fun G1_012 => ?_)
        · rintro a' w' ⟨g0, Ay0, cy0, g1, g2, ps, rfl, q1, q2, hBs⟩
          try simp only [Act.put, List.setIfInBounds_toArray, List.set_cons_zero, List.set_cons_succ]
          refine wpAnyG_all (rs := [17]) (by kernel_rfl) (by simp) (all_1 ?_)
          · refine wpOp_at (o := ⟨some 81, _, _, _, _, _⟩) rfl rfl ?_
            refine wp_append_bag elem_bool hBs (.tmp 77) (.tmp 80) rfl 4 rfl rfl q1 rfl (by intro u hu; simp at hu; subst hu; rfl) (by omega) ?_
            intro Ay1 cy1 w' hBn
            refine ⟨fun _ => hBn.ld, ?_⟩
            refine wpAnyG_cast #[true, true, true, true, true, true, true, true, true, true, true, true, true, true, true, true, true, true, true, true, true, true, true, true, true, false, false, false, false, false, false, false, false, false, false] (by kernel_rfl) ?_
            exact G2_012 _ _ ⟨g0, Ay0, cy0, g1, Ay1, cy1, g2, _, rfl, q2, hBn⟩
        refine wpAnyG_have (fun a a' w' => ∃ (g0 : Nat) (Ay0 : Option Addr) (cy0 : Nat) (g1 : Nat) (Ay1 : Option Addr) (cy1 : Nat) (ps : List BRow), a' = ((((a.put (some 72) (.slice (some ⟨g0, 0, none⟩) 1 1)).put (some 73) (.slice Ay0 (N + i + 1) cy0)).put (some 80) (.slice (some ⟨g1, 0, none⟩) 1 1)).put (some 81) (.slice Ay1 (N + i + 1) cy1)) ∧ Bag w0 w' base [⟨3, 1, .slice Al' m' cl', m', lev'.map cN⟩, ⟨3, 1, .slice Ax0 (N + i + 1) cx0, N + i + 1, L.map cF ++ [.int .i64 nf]⟩, ⟨3, 1, .slice Ax1 (N + i + 1) cx1, N + i + 1, L.map cC ++ [.int .i64 nc]⟩, ⟨3, 1, .slice Ay0 (N + i + 1) cy0, N + i + 1, L.map cL ++ [.int .i64 left]⟩, ⟨4, 1, .slice Ay1 (N + i + 1) cy1, N + i + 1, L.map cB ++ [.bool nb]⟩, ⟨3, 1, .slice A8 (N + i) c8, N + i, L.map cV⟩, ⟨3, 1, .slice Ar nr cr, nr, rl⟩] ps [⟨gn, 41, #[.int .i64 nf, .int .i64 nc, .int .i64 nl, .int .i64 nr0, .bool nb, .int .i64 nv]⟩, ⟨g, 55, #[.int .i64 f, .int .i64 way, .slice Aw nw cw, .slice Ar nr cr, .slice Ax0 (N + i + 1) cx0, .slice Ax1 (N + i + 1) cx1, .slice A6 (N + i) c6, .slice A7 (N + i) c7, .slice A8 (N + i) c8]⟩]) 11 #[true, true, true, true, true, true, true, true, true, true, true, true, true, true, true, true, true, true, true, true, true, true, true, true, false, false, false, false, false, false, false, false, false, false, false] ?_ (fun G2_01 => ?_)
        · rintro a' w' ⟨g0, Ay0, cy0, g1, Ay1, cy1, ps, rfl, hBs⟩
          try simp only [Act.put, List.setIfInBounds_toArray, List.set_cons_zero, List.set_cons_succ]
          refine wpAnyG_all (rs := [24]) (by kernel_rfl) (by simp) (all_1 ?_)
          · refine wpOp_step (o := ⟨some 88, _, _, _, _, _⟩) rfl rfl (fun K hK => ?_)
            go_simp
            have hBn := hBs.push 3 1 1 [.int .i64 nv] rfl (by unfold maxLen; omega) rfl
            refine hK _ _ ⟨fun _ => hBn.ld, ?_⟩
            refine wpAnyG_cast #[true, true, true, true, true, true, true, true, true, true, true, true, true, true, true, true, true, true, true, true, true, true, true, true, true, false, false, false, false, false, false, false, false, false, false] (by kernel_rfl) ?_
            exact G2_012 _ _ ⟨g0, Ay0, cy0, g1, Ay1, cy1, _, _, rfl, List.mem_cons_self .., hBn⟩
        refine wpAnyG_have (fun a a' w' => ∃ (g0 : Nat) (g1 : Nat) (g2 : Nat) (ps : List BRow), a' = (((a.put (some 72) (.slice (some ⟨g0, 0, none⟩) 1 1)).put (some 80) (.slice (some ⟨g1, 0, none⟩) 1 1)).put (some 88) (.slice (some ⟨g2, 0, none⟩) 1 1)) ∧ (⟨3, 1, .slice (some ⟨g0, 0, none⟩) 1 1, 1, [.int .i64 left]⟩ : BRow) ∈ ps ∧ (⟨4, 1, .slice (some ⟨g1, 0, none⟩) 1 1, 1, [.bool nb]⟩ : BRow) ∈ ps ∧ (⟨3, 1, .slice (some ⟨g2, 0, none⟩) 1 1, 1, [.int .i64 nv]⟩ : BRow) ∈ ps ∧ Bag w0 w' base [⟨3, 1, .slice Al' m' cl', m', lev'.map cN⟩, ⟨3, 1, .slice Ax0 (N + i + 1) cx0, N + i + 1, L.map cF ++ [.int .i64 nf]⟩, ⟨3, 1, .slice Ax1 (N + i + 1) cx1, N + i + 1, L.map cC ++ [.int .i64 nc]⟩, ⟨3, 1, .slice A6 (N + i) c6, N + i, L.map cL⟩, ⟨4, 1, .slice A7 (N + i) c7, N + i, L.map cB⟩, ⟨3, 1, .slice A8 (N + i) c8, N + i, L.map cV⟩, ⟨3, 1, .slice Ar nr cr, nr, rl⟩] ps [⟨gn, 41, #[.int .i64 nf, .int .i64 nc, .int .i64 nl, .int .i64 nr0, .bool nb, .int .i64 nv]⟩, ⟨g, 55, #[.int .i64 f, .int .i64 way, .slice Aw nw cw, .slice Ar nr cr, .slice Ax0 (N + i + 1) cx0, .slice Ax1 (N + i + 1) cx1, .slice A6 (N + i) c6, .slice A7 (N + i) c7, .slice A8 (N + i) c8]⟩]) 12 #[true, true, true, true, true, true, true, true, true, false, true, true, true, true, true, true, true, false, true, true, true, true, true, true, true, false, false, false, false, false, false, false, false, false, false] ?_ (fun G0_012 => ?_)
        · rintro a' w' ⟨g0, g1, g2, ps, rfl, q0, q1, q2, hBs⟩
          try simp only [Act.put, List.setIfInBounds_toArray, List.set_cons_zero, List.set_cons_succ]
          refine wpAnyG_all (rs := [9]) (by kernel_rfl) (by simp) (all_1 ?_)
          · refine wpOp_at (o := ⟨some 73, _, _, _, _, _⟩) rfl rfl ?_
            refine wp_append_bag elem_int hBs (.tmp 70) (.tmp 72) rfl 3 rfl rfl q0 rfl (by intro u hu; simp at hu; subst hu; rfl) (by omega) ?_
            intro Ay0 cy0 w' hBn
            refine ⟨fun _ => hBn.ld, ?_⟩
            refine wpAnyG_cast #[true, true, true, true, true, true, true, true, true, true, true, true, true, true, true, true, true, false, true, true, true, true, true, true, true, false, false, false, false, false, false, false, false, false, false] (by kernel_rfl) ?_
            exact G1_012 _ _ ⟨g0, Ay0, cy0, g1, g2, _, rfl, q1, q2, hBn⟩
        refine wpAnyG_have (fun a a' w' => ∃ (g0 : Nat) (Ay0 : Option Addr) (cy0 : Nat) (g1 : Nat) (ps : List BRow), a' = (((a.put (some 72) (.slice (some ⟨g0, 0, none⟩) 1 1)).put (some 73) (.slice Ay0 (N + i + 1) cy0)).put (some 80) (.slice (some ⟨g1, 0, none⟩) 1 1)) ∧ (⟨4, 1, .slice (some ⟨g1, 0, none⟩) 1 1, 1, [.bool nb]⟩ : BRow) ∈ ps ∧ Bag w0 w' base [⟨3, 1, .slice Al' m' cl', m', lev'.map cN⟩, ⟨3, 1, .slice Ax0 (N + i + 1) cx0, N + i + 1, L.map cF ++ [.int .i64 nf]⟩, ⟨3, 1, .slice Ax1 (N + i + 1) cx1, N + i + 1, L.map cC ++ [.int .i64 nc]⟩, ⟨3, 1, .slice Ay0 (N + i + 1) cy0, N + i + 1, L.map cL ++ [.int .i64 left]⟩, ⟨4, 1, .slice A7 (N + i) c7, N + i, L.map cB⟩, ⟨3, 1, .slice A8 (N + i) c8, N + i, L.map cV⟩, ⟨3, 1, .slice Ar nr cr, nr, rl⟩] ps [⟨gn, 41, #[.int .i64 nf, .int .i64 nc, .int .i64 nl, .int .i64 nr0, .bool nb, .int .i64 nv]⟩, ⟨g, 55, #[.int .i64 f, .int .i64 way, .slice Aw nw cw, .slice Ar nr cr, .slice Ax0 (N + i + 1) cx0, .slice Ax1 (N + i + 1) cx1, .slice A6 (N + i) c6, .slice A7 (N + i) c7, .slice A8 (N + i) c8]⟩]) 12 #[true, true, true, true, true, true, true, true, true, true, true, true, true, true, true, true, true, false, true, true, true, true, true, true, false, false, false, false, false, false, false, false, false, false, false] ?_ (fun G1_01 => ?_)
        · rintro a' w' ⟨g0, Ay0, cy0, g1, ps, rfl, q1, hBs⟩
          try simp only [Act.put, List.setIfInBounds_toArray, List.set_cons_zero, List.set_cons_succ]
          refine wpAnyG_all (rs := [17, 24]) (by kernel_rfl) (by simp) (all_2 ?_ ?_)
          · refine wpOp_at (o := ⟨some 81, _, _, _, _, _⟩) rfl rfl ?_
            refine wp_append_bag elem_bool hBs (.tmp 77) (.tmp 80) rfl 4 rfl rfl q1 rfl (by intro u hu; simp at hu; subst hu; rfl) (by omega) ?_
            intro Ay1 cy1 w' hBn
            refine ⟨fun _ => hBn.ld, ?_⟩
            refine wpAnyG_cast #[true, true, true, true, true, true, true, true, true, true, true, true, true, true, true, true, true, true, true, true, true, true, true, true, false, false, false, false, false, false, false, false, false, false, false] (by kernel_rfl) ?_
            exact G2_01 _ _ ⟨g0, Ay0, cy0, g1, Ay1, cy1, _, rfl, hBn⟩
          · refine wpOp_step (o := ⟨some 88, _, _, _, _, _⟩) rfl rfl (fun K hK => ?_)
            go_simp
            have hBn := hBs.push 3 1 1 [.int .i64 nv] rfl (by unfold maxLen; omega) rfl
            refine hK _ _ ⟨fun _ => hBn.ld, ?_⟩
            refine wpAnyG_cast #[true, true, true, true, true, true, true, true, true, true, true, true, true, true, true, true, true, false, true, true, true, true, true, true, true, false, false, false, false, false, false, false, false, false, false] (by kernel_rfl) ?_
            exact G1_012 _ _ ⟨g0, Ay0, cy0, g1, _, _, rfl, List.mem_cons_of_mem _ q1, List.mem_cons_self .., hBn⟩
        refine wpAnyG_have (fun a a' w' => ∃ (g0 : Nat) (Ay0 : Option Addr) (cy0 : Nat) (g2 : Nat) (ps : List BRow), a' = (((a.put (some 72) (.slice (some ⟨g0, 0, none⟩) 1 1)).put (some 73) (.slice Ay0 (N + i + 1) cy0)).put (some 88) (.slice (some ⟨g2, 0, none⟩) 1 1)) ∧ (⟨3, 1, .slice (some ⟨g2, 0, none⟩) 1 1, 1, [.int .i64 nv]⟩ : BRow) ∈ ps ∧ Bag w0 w' base [⟨3, 1, .slice Al' m' cl', m', lev'.map cN⟩, ⟨3, 1, .slice Ax0 (N + i + 1) cx0, N + i + 1, L.map cF ++ [.int .i64 nf]⟩, ⟨3, 1, .slice Ax1 (N + i + 1) cx1, N + i + 1, L.map cC ++ [.int .i64 nc]⟩, ⟨3, 1, .slice Ay0 (N + i + 1) cy0, N + i + 1, L.map cL ++ [.int .i64 left]⟩, ⟨4, 1, .slice A7 (N + i) c7, N + i, L.map cB⟩, ⟨3, 1, .slice A8 (N + i) c8, N + i, L.map cV⟩, ⟨3, 1, .slice Ar nr cr, nr, rl⟩] ps [⟨gn, 41, #[.int .i64 nf, .int .i64 nc, .int .i64 nl, .int .i64 nr0, .bool nb, .int .i64 nv]⟩, ⟨g, 55, #[.int .i64 f, .int .i64 way, .slice Aw nw cw, .slice Ar nr cr, .slice Ax0 (N + i + 1) cx0, .slice Ax1 (N + i + 1) cx1, .slice A6 (N + i) c6, .slice A7 (N + i) c7, .slice A8 (N + i) c8]⟩]) 12 #[true, true, true, true, true, true, true, true, true, true, true, true, true, true, true, true, false, false, true, true, true, true, true, true, true, false, false, false, false, false, false, false, false, false, false] ?_ (fun G1_02 => ?_)
        · rintro a' w' ⟨g0, Ay0, cy0, g2, ps, rfl, q2, hBs⟩
          try simp only [Act.put, List.setIfInBounds_toArray, List.set_cons_zero, List.set_cons_succ]
          refine wpAnyG_all (rs := [16]) (by kernel_rfl) (by simp) (all_1 ?_)
          · refine wpOp_step (o := ⟨some 80, _, _, _, _, _⟩) rfl rfl (fun K hK => ?_)
            go_simp
            have hBn := hBs.push 4 1 1 [.bool nb] rfl (by unfold maxLen; omega) rfl
            refine hK _ _ ⟨fun _ => hBn.ld, ?_⟩
            refine wpAnyG_cast #[true, true, true, true, true, true, true, true, true, true, true, true, true, true, true, true, true, false, true, true, true, true, true, true, true, false, false, false, false, false, false, false, false, false, false] (by kernel_rfl) ?_
            exact G1_012 _ _ ⟨g0, Ay0, cy0, _, g2, _, rfl, List.mem_cons_self .., List.mem_cons_of_mem _ q2, hBn⟩
        refine wpAnyG_have (fun a a' w' => ∃ (g0 : Nat) (g1 : Nat) (ps : List BRow), a' = ((a.put (some 72) (.slice (some ⟨g0, 0, none⟩) 1 1)).put (some 80) (.slice (some ⟨g1, 0, none⟩) 1 1)) ∧ (⟨3, 1, .slice (some ⟨g0, 0, none⟩) 1 1, 1, [.int .i64 left]⟩ : BRow) ∈ ps ∧ (⟨4, 1, .slice (some ⟨g1, 0, none⟩) 1 1, 1, [.bool nb]⟩ : BRow) ∈ ps ∧ Bag w0 w' base [⟨3, 1, .slice Al' m' cl', m', lev'.map cN⟩, ⟨3, 1, .slice Ax0 (N + i + 1) cx0, N + i + 1, L.map cF ++ [.int .i64 nf]⟩, ⟨3, 1, .slice Ax1 (N + i + 1) cx1, N + i + 1, L.map cC ++ [.int .i64 nc]⟩, ⟨3, 1, .slice A6 (N + i) c6, N + i, L.map cL⟩, ⟨4, 1, .slice A7 (N + i) c7, N + i, L.map cB⟩, ⟨3, 1, .slice A8 (N + i) c8, N + i, L.map cV⟩, ⟨3, 1, .slice Ar nr cr, nr, rl⟩] ps [⟨gn, 41, #[.int .i64 nf, .int .i64 nc, .int .i64 nl, .int .i64 nr0, .bool nb, .int .i64 nv]⟩, ⟨g, 55, #[.int .i64 f, .int .i64 way, .slice Aw nw cw, .slice Ar nr cr, .slice Ax0 (N + i + 1) cx0, .slice Ax1 (N + i + 1) cx1, .slice A6 (N + i) c6, .slice A7 (N + i) c7, .slice A8 (N + i) c8]⟩]) 13 #[true, true, true, true, true, true, true, true, true, false, true, true, true, true, true, true, true, false, true, true, true, true, true, true, false, false, false, false, false, false, false, false, false, false, false] ?_ (fun G0_01 => ?_)
        · rintro a' w' ⟨g0, g1, ps, rfl, q0, q1, hBs⟩
          try simp only [Act.put, List.setIfInBounds_toArray, List.set_cons_zero, List.set_cons_succ]
          refine wpAnyG_all (rs := [9, 24]) (by kernel_rfl) (by simp) (all_2 ?_ ?_)
          · refine wpOp_at (o := ⟨some 73, _, _, _, _, _⟩) rfl rfl ?_
            refine wp_append_bag elem_int hBs (.tmp 70) (.tmp 72) rfl 3 rfl rfl q0 rfl (by intro u hu; simp at hu; subst hu; rfl) (by omega) ?_
            intro Ay0 cy0 w' hBn
            refine ⟨fun _ => hBn.ld, ?_⟩
            refine wpAnyG_cast #[true, true, true, true, true, true, true, true, true, true, true, true, true, true, true, true, true, false, true, true, true, true, true, true, false, false, false, false, false, false, false, false, false, false, false] (by kernel_rfl) ?_
            exact G1_01 _ _ ⟨g0, Ay0, cy0, g1, _, rfl, q1, hBn⟩
          · refine wpOp_step (o := ⟨some 88, _, _, _, _, _⟩) rfl rfl (fun K hK => ?_)
            go_simp
            have hBn := hBs.push 3 1 1 [.int .i64 nv] rfl (by unfold maxLen; omega) rfl
            refine hK _ _ ⟨fun _ => hBn.ld, ?_⟩
            refine wpAnyG_cast #[true, true, true, true, true, true, true, true, true, false, true, true, true, true, true, true, true, false, true, true, true, true, true, true, true, false, false, false, false, false, false, false, false, false, false] (by kernel_rfl) ?_
            exact G0_012 _ _ ⟨g0, g1, _, _, rfl, List.mem_cons_of_mem _ q0, List.mem_cons_of_mem _ q1, List.mem_cons_self .., hBn⟩
        refine wpAnyG_have (fun a a' w' => ∃ (g0 : Nat) (g2 : Nat) (ps : List BRow), a' = ((a.put (some 72) (.slice (some ⟨g0, 0, none⟩) 1 1)).put (some 88) (.slice (some ⟨g2, 0, none⟩) 1 1)) ∧ (⟨3, 1, .slice (some ⟨g0, 0, none⟩) 1 1, 1, [.int .i64 left]⟩ : BRow) ∈ ps ∧ (⟨3, 1, .slice (some ⟨g2, 0, none⟩) 1 1, 1, [.int .i64 nv]⟩ : BRow) ∈ ps ∧ Bag w0 w' base [⟨3, 1, .slice Al' m' cl', m', lev'.map cN⟩, ⟨3, 1, .slice Ax0 (N + i + 1) cx0, N + i + 1, L.map cF ++ [.int .i64 nf]⟩, ⟨3, 1, .slice Ax1 (N + i + 1) cx1, N + i + 1, L.map cC ++ [.int .i64 nc]⟩, ⟨3, 1, .slice A6 (N + i) c6, N + i, L.map cL⟩, ⟨4, 1, .slice A7 (N + i) c7, N + i, L.map cB⟩, ⟨3, 1, .slice A8 (N + i) c8, N + i, L.map cV⟩, ⟨3, 1, .slice Ar nr cr, nr, rl⟩] ps [⟨gn, 41, #[.int .i64 nf, .int .i64 nc, .int .i64 nl, .int .i64 nr0, .bool nb, .int .i64 nv]⟩, ⟨g, 55, #[.int .i64 f, .int .i64 way, .slice Aw nw cw, .slice Ar nr cr, .slice Ax0 (N + i + 1) cx0, .slice Ax1 (N + i + 1) cx1, .slice A6 (N + i) c6, .slice A7 (N + i) c7, .slice A8 (N + i) c8]⟩]) 13 #[true, true, true, true, true, true, true, true, true, false, true, true, true, true, true, true, false, false, true, true, true, true, true, true, true, false, false, false, false, false, false, false, false, false, false] ?_ (fun G0_02 => ?_)
        · rintro a' w' ⟨g0, g2, ps, rfl, q0, q2, hBs⟩
          try simp only [Act.put, List.setIfInBounds_toArray, List.set_cons_zero, List.set_cons_succ]
          refine wpAnyG_all (rs := [9, 16]) (by kernel_rfl) (by simp) (all_2 ?_ ?_)
          · refine wpOp_at (o := ⟨some 73, _, _, _, _, _⟩) rfl rfl ?_
            refine wp_append_bag elem_int hBs (.tmp 70) (.tmp 72) rfl 3 rfl rfl q0 rfl (by intro u hu; simp at hu; subst hu; rfl) (by omega) ?_
            intro Ay0 cy0 w' hBn
            refine ⟨fun _ => hBn.ld, ?_⟩
            refine wpAnyG_cast #[true, true, true, true, true, true, true, true, true, true, true, true, true, true, true, true, false, false, true, true, true, true, true, true, true, false, false, false, false, false, false, false, false, false, false] (by kernel_rfl) ?_
            exact G1_02 _ _ ⟨g0, Ay0, cy0, g2, _, rfl, q2, hBn⟩
          · refine wpOp_step (o := ⟨some 80, _, _, _, _, _⟩) rfl rfl (fun K hK => ?_)
            go_simp
            have hBn := hBs.push 4 1 1 [.bool nb] rfl (by unfold maxLen; omega) rfl
            refine hK _ _ ⟨fun _ => hBn.ld, ?_⟩
            refine wpAnyG_cast #[true, true, true, true, true, true, true, true, true, false, true, true, true, true, true, true, true, false, true, true, true, true, true, true, true, false, false, false, false, false, false, false, false, false, false] (by kernel_rfl) ?_
            exact G0_012 _ _ ⟨g0, _, g2, _, rfl, List.mem_cons_of_mem _ q0, List.mem_cons_self .., List.mem_cons_of_mem _ q2, hBn⟩
        refine wpAnyG_have (fun a a' w' => ∃ (g1 : Nat) (g2 : Nat) (ps : List BRow), a' = ((a.put (some 80) (.slice (some ⟨g1, 0, none⟩) 1 1)).put (some 88) (.slice (some ⟨g2, 0, none⟩) 1 1)) ∧ (⟨4, 1, .slice (some ⟨g1, 0, none⟩) 1 1, 1, [.bool nb]⟩ : BRow) ∈ ps ∧ (⟨3, 1, .slice (some ⟨g2, 0, none⟩) 1 1, 1, [.int .i64 nv]⟩ : BRow) ∈ ps ∧ Bag w0 w' base [⟨3, 1, .slice Al' m' cl', m', lev'.map cN⟩, ⟨3, 1, .slice Ax0 (N + i + 1) cx0, N + i + 1, L.map cF ++ [.int .i64 nf]⟩, ⟨3, 1, .slice Ax1 (N + i + 1) cx1, N + i + 1, L.map cC ++ [.int .i64 nc]⟩, ⟨3, 1, .slice A6 (N + i) c6, N + i, L.map cL⟩, ⟨4, 1, .slice A7 (N + i) c7, N + i, L.map cB⟩, ⟨3, 1, .slice A8 (N + i) c8, N + i, L.map cV⟩, ⟨3, 1, .slice Ar nr cr, nr, rl⟩] ps [⟨gn, 41, #[.int .i64 nf, .int .i64 nc, .int .i64 nl, .int .i64 nr0, .bool nb, .int .i64 nv]⟩, ⟨g, 55, #[.int .i64 f, .int .i64 way, .slice Aw nw cw, .slice Ar nr cr, .slice Ax0 (N + i + 1) cx0, .slice Ax1 (N + i + 1) cx1, .slice A6 (N + i) c6, .slice A7 (N + i) c7, .slice A8 (N + i) c8]⟩]) 13 #[true, true, true, true, true, true, true, true, false, false, true, true, true, true, true, true, true, false, true, true, true, true, true, true, true, false, false, false, false, false, false, false, false, false, false] ?_ (fun G0_12 => ?_)
        · rintro a' w' ⟨g1, g2, ps, rfl, q1, q2, hBs⟩
          try simp only [Act.put, List.setIfInBounds_toArray, List.set_cons_zero, List.set_cons_succ]
          refine wpAnyG_all (rs := [8]) (by kernel_rfl) (by simp) (all_1 ?_)
          · refine wpOp_step (o := ⟨some 72, _, _, _, _, _⟩) rfl rfl (fun K hK => ?_)
            go_simp
            have hBn := hBs.push 3 1 1 [.int .i64 left] rfl (by unfold maxLen; omega) rfl
            refine hK _ _ ⟨fun _ => hBn.ld, ?_⟩
            refine wpAnyG_cast #[true, true, true, true, true, true, true, true, true, false, true, true, true, true, true, true, true, false, true, true, true, true, true, true, true, false, false, false, false, false, false, false, false, false, false] (by kernel_rfl) ?_
            exact G0_012 _ _ ⟨_, g1, g2, _, rfl, List.mem_cons_self .., List.mem_cons_of_mem _ q1, List.mem_cons_of_mem _ q2, hBn⟩
        refine wpAnyG_have (fun a a' w' => ∃ (g0 : Nat) (Ay0 : Option Addr) (cy0 : Nat) (ps : List BRow), a' = ((a.put (some 72) (.slice (some ⟨g0, 0, none⟩) 1 1)).put (some 73) (.slice Ay0 (N + i + 1) cy0)) ∧ Bag w0 w' base [⟨3, 1, .slice Al' m' cl', m', lev'.map cN⟩, ⟨3, 1, .slice Ax0 (N + i + 1) cx0, N + i + 1, L.map cF ++ [.int .i64 nf]⟩, ⟨3, 1, .slice Ax1 (N + i + 1) cx1, N + i + 1, L.map cC ++ [.int .i64 nc]⟩, ⟨3, 1, .slice Ay0 (N + i + 1) cy0, N + i + 1, L.map cL ++ [.int .i64 left]⟩, ⟨4, 1, .slice A7 (N + i) c7, N + i, L.map cB⟩, ⟨3, 1, .slice A8 (N + i) c8, N + i, L.map cV⟩, ⟨3, 1, .slice Ar nr cr, nr, rl⟩] ps [⟨gn, 41, #[.int .i64 nf, .int .i64 nc, .int .i64 nl, .int .i64 nr0, .bool nb, .int .i64 nv]⟩, ⟨g, 55, #[.int .i64 f, .int .i64 way, .slice Aw nw cw, .slice Ar nr cr, .slice Ax0 (N + i + 1) cx0, .slice Ax1 (N + i + 1) cx1, .slice A6 (N + i) c6, .slice A7 (N + i) c7, .slice A8 (N + i) c8]⟩]) 13 #[true, true, true, true, true, true, true, true, true, true, true, true, true, true, true, true, false, false, true, true, true, true, true, true, false, false, false, false, false, false, false, false, false, false, false] ?_ (fun G1_0 => ?_)
        · rintro a' w' ⟨g0, Ay0, cy0, ps, rfl, hBs⟩
          try simp only [Act.put, List.setIfInBounds_toArray, List.set_cons_zero, List.set_cons_succ]
          refine wpAnyG_all (rs := [16, 24]) (by kernel_rfl) (by simp) (all_2 ?_ ?_)
          · refine wpOp_step (o := ⟨some 80, _, _, _, _, _⟩) rfl rfl (fun K hK => ?_)
            go_simp
            have hBn := hBs.push 4 1 1 [.bool nb] rfl (by unfold maxLen; omega) rfl
            refine hK _ _ ⟨fun _ => hBn.ld, ?_⟩
            refine wpAnyG_cast #[true, true, true, true, true, true, true, true, true, true, true, true, true, true, true, true, true, false, true, true, true, true, true, true, false, false, false, false, false, false, false, false, false, false, false] (by kernel_rfl) ?_
            exact G1_01 _ _ ⟨g0, Ay0, cy0, _, _, rfl, List.mem_cons_self .., hBn⟩
          · refine wpOp_step (o := ⟨some 88, _, _, _, _, _⟩) rfl rfl (fun K hK => ?_)
            go_simp
            have hBn := hBs.push 3 1 1 [.int .i64 nv] rfl (by unfold maxLen; omega) rfl
            refine hK _ _ ⟨fun _ => hBn.ld, ?_⟩
            refine wpAnyG_cast #[true, true, true, true, true, true, true, true, true, true, true, true, true, true, true, true, false, false, true, true, true, true, true, true, true, false, false, false, false, false, false, false, false, false, false] (by kernel_rfl) ?_
            exact G1_02 _ _ ⟨g0, Ay0, cy0, _, _, rfl, List.mem_cons_self .., hBn⟩
        refine wpAnyG_have (fun a a' w' => ∃ (g0 : Nat) (ps : List BRow), a' = (a.put (some 72) (.slice (some ⟨g0, 0, none⟩) 1 1)) ∧ (⟨3, 1, .slice (some ⟨g0, 0, none⟩) 1 1, 1, [.int .i64 left]⟩ : BRow) ∈ ps ∧ Bag w0 w' base [⟨3, 1, .slice Al' m' cl', m', lev'.map cN⟩, ⟨3, 1, .slice Ax0 (N + i + 1) cx0, N + i + 1, L.map cF ++ [.int .i64 nf]⟩, ⟨3, 1, .slice Ax1 (N + i + 1) cx1, N + i + 1, L.map cC ++ [.int .i64 nc]⟩, ⟨3, 1, .slice A6 (N + i) c6, N + i, L.map cL⟩, ⟨4, 1, .slice A7 (N + i) c7, N + i, L.map cB⟩, ⟨3, 1, .slice A8 (N + i) c8, N + i, L.map cV⟩, ⟨3, 1, .slice Ar nr cr, nr, rl⟩] ps [⟨gn, 41, #[.int .i64 nf, .int .i64 nc, .int .i64 nl, .int .i64 nr0, .bool nb, .int .i64 nv]⟩, ⟨g, 55, #[.int .i64 f, .int .i64 way, .slice Aw nw cw, .slice Ar nr cr, .slice Ax0 (N + i + 1) cx0, .slice Ax1 (N + i + 1) cx1, .slice A6 (N + i) c6, .slice A7 (N + i) c7, .slice A8 (N + i) c8]⟩]) 14 #[true, true, true, true, true, true, true, true, true, false, true, true, true, true, true, true, false, false, true, true, true, true, true, true, false, false, false, false, false, false, false, false, false, false, false] ?_ (fun G0_0 => ?_)
        · rintro a' w' ⟨g0, ps, rfl, q0, hBs⟩
          try simp only [Act.put, List.setIfInBounds_toArray, List.set_cons_zero, List.set_cons_succ]
          refine wpAnyG_all (rs := [9, 16, 24]) (by kernel_rfl) (by simp) (all_3 ?_ ?_ ?_)
          · refine wpOp_at (o := ⟨some 73, _, _, _, _, _⟩) rfl rfl ?_
            refine wp_append_bag elem_int hBs (.tmp 70) (.tmp 72) rfl 3 rfl rfl q0 rfl (by intro u hu; simp at hu; subst hu; rfl) (by omega) ?_
            intro Ay0 cy0 w' hBn
            refine ⟨fun _ => hBn.ld, ?_⟩
            refine wpAnyG_cast #[true, true, true, true, true, true, true, true, true, true, true, true, true, true, true, true, false, false, true, true, true, true, true, true, false, false, false, false, false, false, false, false, false, false, false] (by kernel_rfl) ?_
            exact G1_0 _ _ ⟨g0, Ay0, cy0, _, rfl, hBn⟩
          · refine wpOp_step (o := ⟨some 80, _, _, _, _, _⟩) rfl rfl (fun K hK => ?_)
            go_simp
            have hBn := hBs.push 4 1 1 [.bool nb] rfl (by unfold maxLen; omega) rfl
            refine hK _ _ ⟨fun _ => hBn.ld, ?_⟩
            refine wpAnyG_cast #[true, true, true, true, true, true, true, true, true, false, true, true, true, true, true, true, true, false, true, true, true, true, true, true, false, false, false, false, false, false, false, false, false, false, false] (by kernel_rfl) ?_
            exact G0_01 _ _ ⟨g0, _, _, rfl, List.mem_cons_of_mem _ q0, List.mem_cons_self .., hBn⟩
          · refine wpOp_step (o := ⟨some 88, _, _, _, _, _⟩) rfl rfl (fun K hK => ?_)
            go_simp
            have hBn := hBs.push 3 1 1 [.int .i64 nv] rfl (by unfold maxLen; omega) rfl
            refine hK _ _ ⟨fun _ => hBn.ld, ?_⟩
            refine wpAnyG_cast #[true, true, true, true, true, true, true, true, true, false, true, true, true, true, true, true, false, false, true, true, true, true, true, true, true, false, false, false, false, false, false, false, false, false, false] (by kernel_rfl) ?_
            exact G0_02 _ _ ⟨g0, _, _, rfl, List.mem_cons_of_mem _ q0, List.mem_cons_self .., hBn⟩
        refine wpAnyG_have (fun a a' w' => ∃ (g1 : Nat) (ps : List BRow), a' = (a.put (some 80) (.slice (some ⟨g1, 0, none⟩) 1 1)) ∧ (⟨4, 1, .slice (some ⟨g1, 0, none⟩) 1 1, 1, [.bool nb]⟩ : BRow) ∈ ps ∧ Bag w0 w' base [⟨3, 1, .slice Al' m' cl', m', lev'.map cN⟩, ⟨3, 1, .slice Ax0 (N + i + 1) cx0, N + i + 1, L.map cF ++ [.int .i64 nf]⟩, ⟨3, 1, .slice Ax1 (N + i + 1) cx1, N + i + 1, L.map cC ++ [.int .i64 nc]⟩, ⟨3, 1, .slice A6 (N + i) c6, N + i, L.map cL⟩, ⟨4, 1, .slice A7 (N + i) c7, N + i, L.map cB⟩, ⟨3, 1, .slice A8 (N + i) c8, N + i, L.map cV⟩, ⟨3, 1, .slice Ar nr cr, nr, rl⟩] ps [⟨gn, 41, #[.int .i64 nf, .int .i64 nc, .int .i64 nl, .int .i64 nr0, .bool nb, .int .i64 nv]⟩, ⟨g, 55, #[.int .i64 f, .int .i64 way, .slice Aw nw cw, .slice Ar nr cr, .slice Ax0 (N + i + 1) cx0, .slice Ax1 (N + i + 1) cx1, .slice A6 (N + i) c6, .slice A7 (N + i) c7, .slice A8 (N + i) c8]⟩]) 14 #[true, true, true, true, true, true, true, true, false, false, true, true, true, true, true, true, true, false, true, true, true, true, true, true, false, false, false, false, false, false, false, false, false, false, false] ?_ (fun G0_1 => ?_)
        · rintro a' w' ⟨g1, ps, rfl, q1, hBs⟩
          try simp only [Act.put, List.setIfInBounds_toArray, List.set_cons_zero, List.set_cons_succ]
          refine wpAnyG_all (rs := [8, 24]) (by kernel_rfl) (by simp) (all_2 ?_ ?_)
          · refine wpOp_step (o := ⟨some 72, _, _, _, _, _⟩) rfl rfl (fun K hK => ?_)
            go_simp
            have hBn := hBs.push 3 1 1 [.int .i64 left] rfl (by unfold maxLen; omega) rfl
            refine hK _ _ ⟨fun _ => hBn.ld, ?_⟩
            refine wpAnyG_cast #[true, true, true, true, true, true, true, true, true, false, true, true, true, true, true, true, true, false, true, true, true, true, true, true, false, false, false, false, false, false, false, false, false, false, false] (by kernel_rfl) ?_
            exact G0_01 _ _ ⟨_, g1, _, rfl, List.mem_cons_self .., List.mem_cons_of_mem _ q1, hBn⟩
          · refine wpOp_step (o := ⟨some 88, _, _, _, _, _⟩) rfl rfl (fun K hK => ?_)
            go_simp
            have hBn := hBs.push 3 1 1 [.int .i64 nv] rfl (by unfold maxLen; omega) rfl
            refine hK _ _ ⟨fun _ => hBn.ld, ?_⟩
            refine wpAnyG_cast #[true, true, true, true, true, true, true, true, false, false, true, true, true, true, true, true, true, false, true, true, true, true, true, true, true, false, false, false, false, false, false, false, false, false, false] (by kernel_rfl) ?_
            exact G0_12 _ _ ⟨g1, _, _, rfl, List.mem_cons_of_mem _ q1, List.mem_cons_self .., hBn⟩
        refine wpAnyG_have (fun a a' w' => ∃ (g2 : Nat) (ps : List BRow), a' = (a.put (some 88) (.slice (some ⟨g2, 0, none⟩) 1 1)) ∧ (⟨3, 1, .slice (some ⟨g2, 0, none⟩) 1 1, 1, [.int .i64 nv]⟩ : BRow) ∈ ps ∧ Bag w0 w' base [⟨3, 1, .slice Al' m' cl', m', lev'.map cN⟩, ⟨3, 1, .slice Ax0 (N + i + 1) cx0, N + i + 1, L.map cF ++ [.int .i64 nf]⟩, ⟨3, 1, .slice Ax1 (N + i + 1) cx1, N + i + 1, L.map cC ++ [.int .i64 nc]⟩, ⟨3, 1, .slice A6 (N + i) c6, N + i, L.map cL⟩, ⟨4, 1, .slice A7 (N + i) c7, N + i, L.map cB⟩, ⟨3, 1, .slice A8 (N + i) c8, N + i, L.map cV⟩, ⟨3, 1, .slice Ar nr cr, nr, rl⟩] ps [⟨gn, 41, #[.int .i64 nf, .int .i64 nc, .int .i64 nl, .int .i64 nr0, .bool nb, .int .i64 nv]⟩, ⟨g, 55, #[.int .i64 f, .int .i64 way, .slice Aw nw cw, .slice Ar nr cr, .slice Ax0 (N + i + 1) cx0, .slice Ax1 (N + i + 1) cx1, .slice A6 (N + i) c6, .slice A7 (N + i) c7, .slice A8 (N + i) c8]⟩]) 14 #[true, true, true, true, true, true, true, true, false, false, true, true, true, true, true, true, false, false, true, true, true, true, true, true, true, false, false, false, false, false, false, false, false, false, false] ?_ (fun G0_2 => ?_)
        · rintro a' w' ⟨g2, ps, rfl, q2, hBs⟩
          try simp only [Act.put, List.setIfInBounds_toArray, List.set_cons_zero, List.set_cons_succ]
          refine wpAnyG_all (rs := [8, 16]) (by kernel_rfl) (by simp) (all_2 ?_ ?_)
          · refine wpOp_step (o := ⟨some 72, _, _, _, _, _⟩) rfl rfl (fun K hK => ?_)
            go_simp
            have hBn := hBs.push 3 1 1 [.int .i64 left] rfl (by unfold maxLen; omega) rfl
            refine hK _ _ ⟨fun _ => hBn.ld, ?_⟩
            refine wpAnyG_cast #[true, true, true, true, true, true, true, true, true, false, true, true, true, true, true, true, false, false, true, true, true, true, true, true, true, false, false, false, false, false, false, false, false, false, false] (by kernel_rfl) ?_
            exact G0_02 _ _ ⟨_, g2, _, rfl, List.mem_cons_self .., List.mem_cons_of_mem _ q2, hBn⟩
          · refine wpOp_step (o := ⟨some 80, _, _, _, _, _⟩) rfl rfl (fun K hK => ?_)
            go_simp
            have hBn := hBs.push 4 1 1 [.bool nb] rfl (by unfold maxLen; omega) rfl
            refine hK _ _ ⟨fun _ => hBn.ld, ?_⟩
            refine wpAnyG_cast #[true, true, true, true, true, true, true, true, false, false, true, true, true, true, true, true, true, false, true, true, true, true, true, true, true, false, false, false, false, false, false, false, false, false, false] (by kernel_rfl) ?_
            exact G0_12 _ _ ⟨_, g2, _, rfl, List.mem_cons_self .., List.mem_cons_of_mem _ q2, hBn⟩
        try simp only [Act.put, List.setIfInBounds_toArray, List.set_cons_zero, List.set_cons_succ]
        refine wpAnyG_all (rs := [8, 16, 24]) (by kernel_rfl) (by simp) (all_3 ?_ ?_ ?_)
        · refine wpOp_step (o := ⟨some 72, _, _, _, _, _⟩) rfl rfl (fun K hK => ?_)
          go_simp
          have hBn := hBd.push 3 1 1 [.int .i64 left] rfl (by unfold maxLen; omega) rfl
          refine hK _ _ ⟨fun _ => hBn.ld, ?_⟩
          refine wpAnyG_cast #[true, true, true, true, true, true, true, true, true, false, true, true, true, true, true, true, false, false, true, true, true, true, true, true, false, false, false, false, false, false, false, false, false, false, false] (by kernel_rfl) ?_
          exact G0_0 _ _ ⟨_, _, rfl, List.mem_cons_self .., hBn⟩
        · refine wpOp_step (o := ⟨some 80, _, _, _, _, _⟩) rfl rfl (fun K hK => ?_)
          go_simp
          have hBn := hBd.push 4 1 1 [.bool nb] rfl (by unfold maxLen; omega) rfl
          refine hK _ _ ⟨fun _ => hBn.ld, ?_⟩
          refine wpAnyG_cast #[true, true, true, true, true, true, true, true, false, false, true, true, true, true, true, true, true, false, true, true, true, true, true, true, false, false, false, false, false, false, false, false, false, false, false] (by kernel_rfl) ?_
          exact G0_1 _ _ ⟨_, _, rfl, List.mem_cons_self .., hBn⟩
        · refine wpOp_step (o := ⟨some 88, _, _, _, _, _⟩) rfl rfl (fun K hK => ?_)
          go_simp
          have hBn := hBd.push 3 1 1 [.int .i64 nv] rfl (by unfold maxLen; omega) rfl
          refine hK _ _ ⟨fun _ => hBn.ld, ?_⟩
          refine wpAnyG_cast #[true, true, true, true, true, true, true, true, false, false, true, true, true, true, true, true, false, false, true, true, true, true, true, true, true, false, false, false, false, false, false, false, false, false, false] (by kernel_rfl) ?_
          exact G0_2 _ _ ⟨_, _, rfl, List.mem_cons_self .., hBn⟩
        rintro a' w' ⟨g0, Ay0, cy0, g1, Ay1, cy1, g2, Ay2, cy2, ps, rfl, hBs⟩
        try simp only [Act.put, List.setIfInBounds_toArray, List.set_cons_zero, List.set_cons_succ]
        refine wpAnyG_one 26 (o := ⟨some 90, _, _, _, _, _⟩) (by kernel_rfl) rfl rfl (fun K hK => ?_)
        go_simp
        refine hK _ _ ⟨fun _ => (hBs).ld, ?_⟩
        clear hK K
        try simp only [Act.put, List.setIfInBounds_toArray, List.set_cons_zero, List.set_cons_succ]
        refine wpAnyG_cast #[true, true, true, true, true, true, true, true, true, true, true, true, true, true, true, true, true, true, true, true, true, true, true, true, true, true, true, false, false, false, false, false, false, false, false] (by kernel_rfl) ?_
        refine wpAnyG_one 27 (o := ⟨some 91, _, _, _, _, _⟩) (by kernel_rfl) rfl rfl (fun K hK => ?_)
        go_simp
        refine hK _ _ ⟨fun _ => (hBs).ld, ?_⟩
        clear hK K
        try simp only [Act.put, List.setIfInBounds_toArray, List.set_cons_zero, List.set_cons_succ]
        refine wpAnyG_cast #[true, true, true, true, true, true, true, true, true, true, true, true, true, true, true, true, true, true, true, true, true, true, true, true, true, true, true, true, false, false, false, false, false, false, false] (by kernel_rfl) ?_
        have kc := ((hBs).blk _ (List.mem_cons_of_mem _ (List.mem_cons_self ..))).1.cell 6
        have kf := ((hBs).blk _ (List.mem_cons_of_mem _ (List.mem_cons_self ..))).1.frozen 6
        simp only [List.getElem?_toArray, List.getElem?_cons_zero, List.getElem?_cons_succ] at kc
        refine wpAnyG_one 28 (o := ⟨none, _, _, _, _, _⟩) (by kernel_rfl) rfl rfl (fun K hK => ?_)
        go_simp
        have hBt0 : Bag w0 (_ : World) base [⟨3, 1, .slice Al' m' cl', m', lev'.map cN⟩, ⟨3, 1, .slice Ax0 (N + i + 1) cx0, N + i + 1, L.map cF ++ [.int .i64 nf]⟩, ⟨3, 1, .slice Ax1 (N + i + 1) cx1, N + i + 1, L.map cC ++ [.int .i64 nc]⟩, ⟨3, 1, .slice Ay0 (N + i + 1) cy0, N + i + 1, L.map cL ++ [.int .i64 left]⟩, ⟨4, 1, .slice Ay1 (N + i + 1) cy1, N + i + 1, L.map cB ++ [.bool nb]⟩, ⟨3, 1, .slice Ay2 (N + i + 1) cy2, N + i + 1, L.map cV ++ [.int .i64 nv]⟩, ⟨3, 1, .slice Ar nr cr, nr, rl⟩] ps [⟨gn, 41, #[.int .i64 nf, .int .i64 nc, .int .i64 nl, .int .i64 nr0, .bool nb, .int .i64 nv]⟩, ⟨g, 55, #[.int .i64 f, .int .i64 way, .slice Aw nw cw, .slice Ar nr cr, .slice Ax0 (N + i + 1) cx0, .slice Ax1 (N + i + 1) cx1, .slice Ay0 (N + i + 1) cy0, .slice A7 (N + i) c7, .slice A8 (N + i) c8]⟩] := (hBs).store 1 6 (.slice Ay0 (N + i + 1) cy0) rfl
        clear kc kf
        refine hK _ _ ⟨noneUp_no (by kernel_rfl), ?_⟩
        clear hK K
        try simp only [Act.put, List.setIfInBounds_toArray, List.set_cons_zero, List.set_cons_succ]
        refine wpAnyG_cast #[true, true, true, true, true, true, true, true, true, true, true, true, true, true, true, true, true, true, true, true, true, true, true, true, true, true, true, true, true, false, false, false, false, false, false] (by kernel_rfl) ?_
        refine wpAnyG_one 29 (o := ⟨some 92, _, _, _, _, _⟩) (by kernel_rfl) rfl rfl (fun K hK => ?_)
        go_simp
        refine hK _ _ ⟨noneUp_no (by kernel_rfl), ?_⟩
        clear hK K
        try simp only [Act.put, List.setIfInBounds_toArray, List.set_cons_zero, List.set_cons_succ]
        refine wpAnyG_cast #[true, true, true, true, true, true, true, true, true, true, true, true, true, true, true, true, true, true, true, true, true, true, true, true, true, true, true, true, true, true, false, false, false, false, false] (by kernel_rfl) ?_
        refine wpAnyG_one 30 (o := ⟨some 93, _, _, _, _, _⟩) (by kernel_rfl) rfl rfl (fun K hK => ?_)
        go_simp
        refine hK _ _ ⟨noneUp_no (by kernel_rfl), ?_⟩
        clear hK K
        try simp only [Act.put, List.setIfInBounds_toArray, List.set_cons_zero, List.set_cons_succ]
        refine wpAnyG_cast #[true, true, true, true, true, true, true, true, true, true, true, true, true, true, true, true, true, true, true, true, true, true, true, true, true, true, true, true, true, true, true, false, false, false, false] (by kernel_rfl) ?_
        have kc := ((hBt0).blk _ (List.mem_cons_of_mem _ (List.mem_cons_self ..))).1.cell 7
        have kf := ((hBt0).blk _ (List.mem_cons_of_mem _ (List.mem_cons_self ..))).1.frozen 7
        simp only [List.getElem?_toArray, List.getElem?_cons_zero, List.getElem?_cons_succ] at kc
        refine wpAnyG_one 31 (o := ⟨none, _, _, _, _, _⟩) (by kernel_rfl) rfl rfl (fun K hK => ?_)
        go_simp
        have hBt1 : Bag w0 (_ : World) base [⟨3, 1, .slice Al' m' cl', m', lev'.map cN⟩, ⟨3, 1, .slice Ax0 (N + i + 1) cx0, N + i + 1, L.map cF ++ [.int .i64 nf]⟩, ⟨3, 1, .slice Ax1 (N + i + 1) cx1, N + i + 1, L.map cC ++ [.int .i64 nc]⟩, ⟨3, 1, .slice Ay0 (N + i + 1) cy0, N + i + 1, L.map cL ++ [.int .i64 left]⟩, ⟨4, 1, .slice Ay1 (N + i + 1) cy1, N + i + 1, L.map cB ++ [.bool nb]⟩, ⟨3, 1, .slice Ay2 (N + i + 1) cy2, N + i + 1, L.map cV ++ [.int .i64 nv]⟩, ⟨3, 1, .slice Ar nr cr, nr, rl⟩] ps [⟨gn, 41, #[.int .i64 nf, .int .i64 nc, .int .i64 nl, .int .i64 nr0, .bool nb, .int .i64 nv]⟩, ⟨g, 55, #[.int .i64 f, .int .i64 way, .slice Aw nw cw, .slice Ar nr cr, .slice Ax0 (N + i + 1) cx0, .slice Ax1 (N + i + 1) cx1, .slice Ay0 (N + i + 1) cy0, .slice Ay1 (N + i + 1) cy1, .slice A8 (N + i) c8]⟩] := (hBt0).store 1 7 (.slice Ay1 (N + i + 1) cy1) rfl
        clear kc kf
        refine hK _ _ ⟨noneUp_no (by kernel_rfl), ?_⟩
        clear hK K
        try simp only [Act.put, List.setIfInBounds_toArray, List.set_cons_zero, List.set_cons_succ]
        refine wpAnyG_cast #[true, true, true, true, true, true, true, true, true, true, true, true, true, true, true, true, true, true, true, true, true, true, true, true, true, true, true, true, true, true, true, true, false, false, false] (by kernel_rfl) ?_
        refine wpAnyG_one 32 (o := ⟨some 94, _, _, _, _, _⟩) (by kernel_rfl) rfl rfl (fun K hK => ?_)
        go_simp
        refine hK _ _ ⟨noneUp_no (by kernel_rfl), ?_⟩
        clear hK K
        try simp only [Act.put, List.setIfInBounds_toArray, List.set_cons_zero, List.set_cons_succ]
        refine wpAnyG_cast #[true, true, true, true, true, true, true, true, true, true, true, true, true, true, true, true, true, true, true, true, true, true, true, true, true, true, true, true, true, true, true, true, true, false, false] (by kernel_rfl) ?_
        refine wpAnyG_one 33 (o := ⟨some 95, _, _, _, _, _⟩) (by kernel_rfl) rfl rfl (fun K hK => ?_)
        go_simp
        refine hK _ _ ⟨noneUp_no (by kernel_rfl), ?_⟩
        clear hK K
        try simp only [Act.put, List.setIfInBounds_toArray, List.set_cons_zero, List.set_cons_succ]
        refine wpAnyG_cast #[true, true, true, true, true, true, true, true, true, true, true, true, true, true, true, true, true, true, true, true, true, true, true, true, true, true, true, true, true, true, true, true, true, true, false] (by kernel_rfl) ?_
        have kc := ((hBt1).blk _ (List.mem_cons_of_mem _ (List.mem_cons_self ..))).1.cell 8
        have kf := ((hBt1).blk _ (List.mem_cons_of_mem _ (List.mem_cons_self ..))).1.frozen 8
        simp only [List.getElem?_toArray, List.getElem?_cons_zero, List.getElem?_cons_succ] at kc
        refine wpAnyG_one 34 (o := ⟨none, _, _, _, _, _⟩) (by kernel_rfl) rfl rfl (fun K hK => ?_)
        go_simp
        have hBt2 : Bag w0 (_ : World) base [⟨3, 1, .slice Al' m' cl', m', lev'.map cN⟩, ⟨3, 1, .slice Ax0 (N + i + 1) cx0, N + i + 1, L.map cF ++ [.int .i64 nf]⟩, ⟨3, 1, .slice Ax1 (N + i + 1) cx1, N + i + 1, L.map cC ++ [.int .i64 nc]⟩, ⟨3, 1, .slice Ay0 (N + i + 1) cy0, N + i + 1, L.map cL ++ [.int .i64 left]⟩, ⟨4, 1, .slice Ay1 (N + i + 1) cy1, N + i + 1, L.map cB ++ [.bool nb]⟩, ⟨3, 1, .slice Ay2 (N + i + 1) cy2, N + i + 1, L.map cV ++ [.int .i64 nv]⟩, ⟨3, 1, .slice Ar nr cr, nr, rl⟩] ps [⟨gn, 41, #[.int .i64 nf, .int .i64 nc, .int .i64 nl, .int .i64 nr0, .bool nb, .int .i64 nv]⟩, ⟨g, 55, #[.int .i64 f, .int .i64 way, .slice Aw nw cw, .slice Ar nr cr, .slice Ax0 (N + i + 1) cx0, .slice Ax1 (N + i + 1) cx1, .slice Ay0 (N + i + 1) cy0, .slice Ay1 (N + i + 1) cy1, .slice Ay2 (N + i + 1) cy2]⟩] := (hBt1).store 1 8 (.slice Ay2 (N + i + 1) cy2) rfl
        clear kc kf
        refine hK _ _ ⟨noneUp_no (by kernel_rfl), ?_⟩
        clear hK K
        try simp only [Act.put, List.setIfInBounds_toArray, List.set_cons_zero, List.set_cons_succ]
        refine wpAnyG_cast #[true, true, true, true, true, true, true, true, true, true, true, true, true, true, true, true, true, true, true, true, true, true, true, true, true, true, true, true, true, true, true, true, true, true, true] (by kernel_rfl) ?_
        refine wpAnyG_done (by kernel_rfl) ?_ _
        have hBz := hBt2.forget
        have HLx : Hid (L0 ++ (done ++ [x']).map (fsh N) = L ++ [⟨nf, nc, left, 0, nb, nv⟩]) := hide (by rw [List.map_append, ← List.append_assoc, ← unhide HL, List.map_cons, List.map_nil, unhide HX2])
        have hBe := fadd_conv (nr0 := 0) hBz.unbox
        rw [← unhide HLx] at hBe
        clear hBz hBt0 hBt1 hBt2 hBs hBY hBd
        go_wp2_with fail
        go_roundw
        case rel => exact ⟨i + 1, m', lev', done ++ [x'], Al', Ax0, Ax1, Ay0, Ay1, Ay2, cl', cx0, cx1, cy0, cy1, cy2, rfl, by go_num, unhide HLM2, unhide HST2, hBe⟩
        case measure => simp [Lib.intOf]; omega
    · obtain rfl : i = m := by omega
      have hdn := (unhide HST).done_ (unhide HR) (unhide HLM).symm
      have hlen : (L0 ++ (flatT t).map (fsh L0.length)).length = N + i := by rw [← hdn, List.length_append, List.length_map, (unhide HST).2.1, ← unhide HNL]
      have HF : FBag w0 wr base g f way Aw nw cw Ar nr cr rl (L0 ++ (flatT t).map (fsh L0.length)) := by
        refine ⟨A4, A5, A6, A7, A8, c4, c5, c6, c7, c8, ?_⟩
        rw [hlen, ← hdn, ← unhide HNL, ← unhide HL]
        exact hB.pop
      have HFh := hide HF
      clear HF hlen hdn hB
      go_wp2_with fail
      go_end0
      exact ⟨⟨_, rfl⟩, unhide HFh⟩
end Go.Proofs.YtcneacooedefjaaDoor
