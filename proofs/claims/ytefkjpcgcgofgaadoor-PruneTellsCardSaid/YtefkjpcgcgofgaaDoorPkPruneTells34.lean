/- Part 34 of what LawPruneTells needs: PruneTells. Conditions: as each lemma names. -/
import Derived.Test.YtefkjpcgcgofgaaDoorPkPruneTells28
import Derived.Test.YtefkjpcgcgofgaaDoorPkPruneTells29
import Derived.Test.YtefkjpcgcgofgaaDoorPkPruneTells30
import Derived.Test.YtefkjpcgcgofgaaDoorPkPruneTells32
import Derived.Test.YtefkjpcgcgofgaaDoorPkPruneTells33
import Derived.Deep.DeepCutAuto
import Derived.Deep.CutRange
/- PruneTells: the walk. Conditions: arguments read as data, and the handle that errors need. -/
namespace Go.Proofs.YtefkjpcgcgofgaaDoor
set_option linter.unusedVariables false
set_option linter.unusedSimpArgs false
open Go.RowKit

structure OneBoxP (w : World) (f way : Int) (Aw : Option Addr) (nw cw : Nat) (At : Option Addr) (nt ct : Nat) (wx : World) : Prop where
  below : Below w.heap.size w wx
  size : w.heap.size + 1 ≤ wx.heap.size
  a : Blk wx w.heap.size 26 #[.int .i64 f, .int .i64 way, .slice Aw nw cw, .slice At nt ct]
section
variable {w wx wy : World} {f way : Int} {Aw : Option Addr} {nw cw : Nat} {At : Option Addr} {nt ct : Nat}
theorem OneBoxP.next (h : OneBoxP w f way Aw nw cw At nt ct wx) (hb : Below wx.heap.size wx wy) : OneBoxP w f way Aw nw cw At nt ct wy :=
  ⟨h.below.trans (hb.mono (by have := h.size; omega)), Nat.le_trans h.size hb.size, h.a.below hb (by have := h.size; omega)⟩
theorem OneBoxP.cells (h : OneBoxP w f way Aw nw cw At nt ct wx) :
    wx.cell? ⟨w.heap.size, 0, none⟩ = some (.int .i64 f) ∧ wx.cell? ⟨w.heap.size, 1, none⟩ = some (.int .i64 way) ∧ wx.cell? ⟨w.heap.size, 2, none⟩ = some (.slice Aw nw cw) ∧ wx.cell? ⟨w.heap.size, 3, none⟩ = some (.slice At nt ct) := ⟨h.a.cell 0, h.a.cell 1, h.a.cell 2, h.a.cell 3⟩
theorem gboxP (w : World) (f way : Int) (Aw : Option Addr) (nw cw : Nat) (At : Option Addr) (nt ct : Nat) : ∃ W, W = w.alloc (.cells #[.int .i64 f, .int .i64 way, .slice Aw nw cw, .slice At nt ct] 26) ∧
    Blk W w.heap.size 26 #[.int .i64 f, .int .i64 way, .slice Aw nw cw, .slice At nt ct] ∧ W.heap.size = w.heap.size + 1 ∧ Below w.heap.size w W :=
  ⟨_, rfl, Blk.new _ _ _, by simp, (Below.refl _ _).alloc (Nat.le_refl _) _⟩
end
/-- a slice that reads as nodes -/
def NdSl (l : List Nd) (v : Value) (w : World) : Prop := ∃ A c, v = .slice A l.length c ∧ NReads w w.heap.size A l.length l
theorem NdSl.below {l : List Nd} {v : Value} {w w' : World} (h : NdSl l v w) (hb : Below w.heap.size w w') : NdSl l v w' := by
  obtain ⟨A, c, rfl, hr⟩ := h
  exact ⟨A, c, rfl, (hr.below hb).more hb.size⟩
theorem NdSl.nil_ (w : World) : NdSl [] (.slice none 0 0) w := ⟨none, 0, rfl, Reads.none_⟩
theorem NOwn.sl {l : List Nd} {v : Value} {w : World} {base : Nat} (h : NOwn w base v l) : NdSl l v w := by
  obtain ⟨A, c, rfl, hr, _⟩ := h.slice
  exact ⟨A, c, rfl, hr⟩
/-- trees that stand somewhere -/
def TrsOk (w : World) (L : List (List Nd)) (trs : List Tr) : Prop := trs.map Tr.l = L ∧ ∀ r ∈ trs, TrOk w w.heap.size r ∧ SoftN w r.A
theorem TrsOk.below {w w' : World} {L : List (List Nd)} {trs : List Tr} (h : TrsOk w L trs) (hb : Below w.heap.size w w') : TrsOk w' L trs :=
  ⟨h.1, fun r hr => ⟨((h.2 r hr).1.below hb).more hb.size, (h.2 r hr).2.below hb⟩⟩
theorem TrsOk.set_ {w : World} {L : List (List Nd)} {trs : List Tr} {g : Nat} {cs : Array Value} (h : TrsOk w L trs) (hg : Blk w g 26 cs) (i : Nat) (u : Value) : TrsOk (w.setCell ⟨g, i, none⟩ u) L trs :=
  ⟨h.1, fun r hr => by
    obtain ⟨h1, h2⟩ := h.2 r hr
    have hne : ∀ a, r.A = some a → a.block ≠ g := fun a ha => by
      obtain ⟨cs', hc⟩ := h2 a ha
      exact hc.ne_ hg (by decide)
    refine ⟨⟨?_, h1.len, h1.nil⟩, fun a ha => ?_⟩
    · have : (w.setCell ⟨g, i, none⟩ u).heap.size = w.heap.size := by simp [World.setCell]
      rw [this]
      exact Reads.far h1.reads (fun _ a ha => hne a ha) u
    · obtain ⟨cs', hc⟩ := h2 a ha
      exact ⟨cs', hc.far (p := ⟨g, i, none⟩) (hne a ha) u⟩⟩
theorem Reads.grownT {w w' : World} {B size n : Nat} {A : Option Addr} {xs : List Value} (h : Reads w B size A n xs) (hB : B ≤ w.heap.size) {row : Option Nat} (hg : w.grownBy w' row) (hne : ∀ a, A = some a → row ≠ some a.block) : Reads w' B size A n xs :=
  ⟨h.1, fun hn => by
    obtain ⟨ad, e, hb, hc⟩ := h.2 hn
    refine ⟨ad, e, hb, fun j u hu => ?_⟩
    rw [← hc j u hu]
    exact World.cell?_of_block (by rw [block_of_add]; exact hg.block ad.block (by omega) (fun h' => hne ad e h'.symm))⟩
theorem TrsOk.app {w w' : World} {L : List (List Nd)} {trs : List Tr} {o : Obj} {base n : Nat} {v : Value} {xs : List Value} (h : TrsOk w L trs) (hv : w.ownsRow base 22 1 v n xs) (hg : (w.alloc o).grownBy w' v.ownBlock) (hz : w.heap.size ≤ w'.heap.size) : TrsOk w' L trs :=
  ⟨h.1, fun r hr => by
    obtain ⟨h1, h2⟩ := h.2 r hr
    have hne : ∀ a, r.A = some a → v.ownBlock ≠ some a.block := fun a ha => by
      obtain ⟨cs', hc⟩ := h2 a ha
      exact own_blk_ne hv hc (by decide)
    refine ⟨⟨?_, h1.len, h1.nil⟩, fun a ha => ?_⟩
    · have ha := Reads.alloc h1.reads (Nat.le_refl _) o
      exact Reads.more (Reads.grownT ha (by rw [World.size_alloc]; omega) hg hne) hz
    · obtain ⟨cs', hc⟩ := h2 a ha
      exact ⟨cs', (hc.alloc o).grown hg (fun e => hne a ha e.symm)⟩⟩
theorem TrsOk.snoc {w : World} {L : List (List Nd)} {trs : List Tr} (h : TrsOk w L trs) {r : Tr} (h1 : TrOk w w.heap.size r) (h2 : SoftN w r.A) : TrsOk w (L ++ [r.l]) (trs ++ [r]) :=
  ⟨by rw [List.map_append, h.1]; rfl, fun x hx => by
    rcases List.mem_append.1 hx with hx | hx
    · exact h.2 x hx
    · rw [List.mem_singleton] at hx
      subst hx
      exact ⟨h1, h2⟩⟩
/-- a grove that is being laid in a box -/
def AllAt (w : World) (ga : Nat) (f way : Int) (ws : List Int) (L : List (List Nd)) : Prop := ∃ H : Gv, Blk w ga 26 H.cells ∧ GReads w w.heap.size H ∧ H.f = f ∧ H.way = way ∧ H.ws = ws ∧ H.trees = L
theorem AllAt.below {w w' : World} {ga : Nat} {f way : Int} {ws : List Int} {L : List (List Nd)} (h : AllAt w ga f way ws L) (hb : Below w.heap.size w w') : AllAt w' ga f way ws L := by
  obtain ⟨H, h1, h2, h3⟩ := h
  exact ⟨H, h1.below hb h1.lt, (h2.below hb).more hb.size, h3⟩

set_option maxRecDepth 100000 in
set_option maxHeartbeats 16000000 in
theorem pruneTells_walk (A : Option Addr) (m d : Nat) (t : List Nd) (fe : Int) (g : Gv) (w : World) (he : ErrT w) (ht : NReads w w.heap.size A m t) (hg : GReads w w.heap.size g) (hm : m ≤ maxLen) :
    Calls Tryd.prog 3 #[.slice A m d, .int .i64 fe, g.val] w fun e w' => e = .returned (.bool true) ∧ Below w.heap.size w w' := by
  have hlen := ht.len
  have cTr : Hid (∀ W, Below w.heap.size w W → Calls Tryd.prog 7 #[.slice A m d, .int .i64 fe] W (RTPost t fe W)) := hide (fun W hB => rtree_any A m d fe t W ((ht.below hB).more hB.size) hm)
  have cPr : Hid (∀ W, treeE t fe = 0 → Below w.heap.size w W → Calls Tryd.prog 8 #[.slice A m d, .int .i64 fe] W (RPrunePost (prunedR t fe) W)) := hide (fun W h0 hB => by
    have hR := right_of h0
    obtain ⟨n, rfl⟩ : ∃ n : Nat, fe = n := ⟨fe.toNat, by have := hR.fe0; omega⟩
    have e : prunedR t n = prunedV t n := by unfold prunedR; rw [if_pos h0, Int.toNat_natCast]
    rw [e]
    exact rprune_any A m d n t hR W ((ht.below hB).more hB.size))
  have cSo : Hid (∀ W, treeE t fe = 0 → Below w.heap.size w W → Calls Tryd.prog 9 #[.slice A m d, .int .i64 0, .slice none 0 0] W (GivePost (sortedR t fe) W)) := hide (fun W h0 hB => by
    have hR := right_of h0
    have e : sortedR t fe = layK 0 (kof t t.length 0) := by unfold sortedR; rw [if_pos h0]; rfl
    have hs := hR.sortedLen
    have hm63 := hR.most
    unfold kTree at hs
    have h := rsortN_any A m d t hm hR.behind t.length 0 [] (.slice none 0 0) W.heap.size W hR.pos (by omega) ((ht.below hB).more hB.size) (NOwn.nil_ _ _) (Nat.le_refl _) (by simp; omega)
    rw [List.nil_append, List.length_nil] at h
    rw [e]
    exact h)
  have cPT : Hid (∀ W, Below w.heap.size w W → Calls Tryd.prog 10 #[.slice A m d, .int .i64 fe] W (NodesPost (prunedR t fe) (treeE t fe) W)) := hide (fun W hB => pruneTree_any A m d fe t W ((ht.below hB).more hB.size) hm)
  have cPS : Hid (∀ W, Below w.heap.size w W → Calls Tryd.prog 12 #[.slice A m d, .int .i64 fe] W (NodesPost (sortedR t fe) (treeE t fe) W)) := hide (fun W hB => pruneSort_any A m d fe t W ((ht.below hB).more hB.size) hm)
  have HLP : Hid ((prunedR t fe).length ≤ 63) := hide (by
    unfold prunedR
    by_cases h0 : treeE t fe = 0
    · rw [if_pos h0]
      have hR := right_of h0
      obtain ⟨n, rfl⟩ : ∃ n : Nat, fe = n := ⟨fe.toNat, by have := hR.fe0; omega⟩
      rw [Int.toNat_natCast]
      exact (hR.pruned n).most
    · rw [if_neg h0]; simp)
  have HLS : Hid ((sortedR t fe).length ≤ 63) := hide (by
    unfold sortedR
    by_cases h0 : treeE t fe = 0
    · rw [if_pos h0]; exact (right_of h0).sorted.most
    · rw [if_neg h0]; simp)
  have HP0 : Hid (treeE t fe ≠ 0 → prunedR t fe = [] ∧ sortedR t fe = []) := hide (fun h => ⟨by unfold prunedR; rw [if_neg h], by unfold sortedR; rw [if_neg h]⟩)
  have cRG : Hid (∀ W, Below w.heap.size w W → Calls Tryd.prog 14 #[g.val] W fun e w' => e = .returned (.int .i64 g.e) ∧ Below W.heap.size W w') := hide (fun W hB => rgrove_any g W ((hg.below hB).more hB.size))
  have cPG : Hid (∀ W, Below w.heap.size w W → Calls Tryd.prog 15 #[g.val] W (PGrovePost g W)) := hide (fun W hB => pruneGrove_any g W ((hg.below hB).more hB.size))
  obtain ⟨PV, hPV⟩ : ∃ P, P = prunedR t fe := ⟨_, rfl⟩
  obtain ⟨SV, hSV⟩ : ∃ P, P = sortedR t fe := ⟨_, rfl⟩
  obtain ⟨TE, hTE⟩ : ∃ P, P = treeE t fe := ⟨_, rfl⟩
  rw [← hPV] at cPr cPT HLP HP0
  rw [← hSV] at cSo cPS HLS HP0
  rw [← hTE] at cPr cSo cPT cPS HP0
  have HTC : Hid ((treeC t fe).2 = TE) := hide (by rw [hTE]; rfl)
  obtain ⟨GE, hGE⟩ : ∃ E, E = g.e := ⟨_, rfl⟩
  have HG1 : Hid (GE = 0 → ∃ n : Nat, g.f = n ∧ (∀ r ∈ g.ts, Right r.l n) ∧ g.nt ≤ 12) := hide (fun h => by
    rw [hGE] at h
    have hG := groveE_right h
    have h1 := fun r hr => right_of (hG.trees r hr)
    have h0 : g.ts ≠ [] := fun e => by have := hG.pos; rw [e] at this; simp at this
    obtain ⟨r0, hr0⟩ := List.exists_mem_of_ne_nil _ h0
    obtain ⟨n, hn⟩ : ∃ n : Nat, g.f = n := ⟨g.f.toNat, by have := (h1 r0 hr0).fe0; omega⟩
    exact ⟨n, hn, fun r hr => by rw [← hn]; exact h1 r hr, by have e1 := hg.ts.len; have e2 := hG.most; omega⟩)
  unfold PGrovePost at cPG
  rw [← hGE] at cRG cPG
  have HGR := hide hg
  have HNT := hide hg.ts.len
  have hntm := hg.nt
  unfold maxLen at hntm
  obtain ⟨GT, hGT⟩ : ∃ T, T = g.trees := ⟨_, rfl⟩
  obtain ⟨GW, hGW⟩ : ∃ T, T = g.ws := ⟨_, rfl⟩
  rw [← hGT, ← hGW] at cPG
  obtain ⟨f, way, Aw, nw, cw, ws, At, nt, ct, ts⟩ := g
  simp only [Gv.val] at cRG cPG ⊢
  dsimp only at HG1 HNT hntm hGW cPG
  have HGT : Hid (GT = ts.map Tr.l) := hide hGT
  have HGW := hide hGW
  clear hg hlen ht hPV hSV hTE hGE hGT hGW
  obtain ⟨W, hW, bg, hWs, hb0⟩ := gboxP w f way Aw nw cw At nt ct
  have S0 : OneBoxP w f way Aw nw cw At nt ct W := ⟨hb0, by omega, bg⟩
  clear bg hWs hb0
  go_enter Tryd.func3, Tryd.ntmps3
  go_wp2_with fail
  rw [← hW]
  clear hW
  refine (unhide cTr W S0.below).mono ?_
  rintro e w1 ⟨rfl, hb1⟩
  rw [unhide HTC]
  have S1 := S0.next hb1
  clear S0 hb1 cTr
  go_upto_if 31 with (fail)
  go_cut [9, 10] from 27 to 36 (fun s9 s10 wx => NdSl PV s9 wx ∧ NdSl SV s10 wx ∧ OneBoxP w f way Aw nw cw At nt ct wx)
  case first =>
    by_cases h0 : TE = 0
    · have hb : (TE == 0) = true := by simpa using h0
      have c1 := hide (unhide cPr _ h0 S1.below)
      have c2 := hide (fun W => unhide cSo W h0)
      rw [hb]
      clear h0 hb
      go_wp2_with fail
      refine (unhide c1).mono ?_
      rintro e w2 ⟨A2, c2', rfl, hr2, _, hb2⟩
      have S2 := S1.next hb2
      have P2 : NdSl PV (.slice A2 PV.length c2') w2 := ⟨_, _, rfl, hr2⟩
      clear c1 S1 hb2 hr2
      go_wp2_with fail
      refine (unhide c2 w2 S2.below).mono ?_
      rintro e w3 ⟨v3, rfl, ho3, hb3⟩
      have S3 := S2.next hb3
      have P3 := P2.below hb3
      have Q3 := ho3.sl
      clear c2 S2 hb3 ho3 P2
      go_wp2_with fail
      go_meet
      case rel => exact ⟨P3, Q3, S3⟩
    · have hb : (TE == 0) = false := by simpa using h0
      obtain ⟨e1, e2⟩ := unhide HP0 h0
      have HE1 := hide e1
      have HE2 := hide e2
      rw [hb]
      clear h0 hb e1 e2
      go_wp2_with fail
      go_meet
      case rel => exact ⟨by rw [unhide HE1]; exact NdSl.nil_ _, by rw [unhide HE2]; exact NdSl.nil_ _, S1⟩
  case rest =>
    obtain ⟨P1, Q1, S2⟩ := hcut
    clear S1 cPr cSo HP0
    go_wp2_with fail
    refine (unhide cPT _ S2.below).mono ?_
    rintro e w3 ⟨v3, rfl, ho3, hb3⟩
    have S3 := S2.next hb3
    have P3 := P1.below hb3
    have Q3 := Q1.below hb3
    have X3 := ho3.sl
    clear S2 hb3 P1 Q1 ho3 cPT
    go_wp2_with fail
    refine (error_any _ _ _ (he.below S3.below he.lt)).mono ?_
    rintro e w4 ⟨rfl, hb4⟩
    rw [beq_self_eq_true]
    have S4 := S3.next hb4
    have P4 := P3.below hb4
    have Q4 := Q3.below hb4
    have X4 := X3.below hb4
    clear S3 hb4 P3 Q3 X3
    go_wp2_with fail
    refine (unhide cPS _ S4.below).mono ?_
    rintro e w5 ⟨v5, rfl, ho5, hb5⟩
    have S5 := S4.next hb5
    have P5 := P4.below hb5
    have Q5 := Q4.below hb5
    have X5 := X4.below hb5
    have Y5 := ho5.sl
    clear S4 hb5 P4 Q4 X4 ho5 cPS
    go_wp2_with fail
    refine (error_any _ _ _ (he.below S5.below he.lt)).mono ?_
    rintro e w6 ⟨rfl, hb6⟩
    rw [beq_self_eq_true]
    have S6 := S5.next hb6
    obtain ⟨A1, c1, rfl, r1⟩ := P5.below hb6
    obtain ⟨A2, c2, rfl, r2⟩ := Q5.below hb6
    obtain ⟨A3, c3, rfl, r3⟩ := X5.below hb6
    obtain ⟨A4, c4, rfl, r4⟩ := Y5.below hb6
    clear S5 hb6 P5 Q5 X5 Y5
    go_wp2_with fail
    refine (sameNodes_any A3 A1 PV.length c3 c1 PV w6 _ _ r3 r1 (by have := unhide HLP; unfold maxLen; omega)).mono ?_
    rintro e w7 ⟨rfl, q7, hw7⟩
    have hb7 : Below w6.heap.size w6 w7 := by rw [hw7]; exact below_drewN (Below.refl _ _) _
    have S7 := S6.next hb7
    have r2' := (Reads.below r2 hb7).more hb7.size
    have r4' := (Reads.below r4 hb7).more hb7.size
    clear S6 hw7 hb7 r1 r2 r3 r4
    go_wp2_with fail
    refine (sameNodes_any A4 A2 SV.length c4 c2 SV w7 _ _ r4' r2' (by have := unhide HLS; unfold maxLen; omega)).mono ?_
    rintro e w8 ⟨rfl, q8, hw8⟩
    have hb8 : Below w7.heap.size w7 w8 := by rw [hw8]; exact below_drewN (Below.refl _ _) _
    have S8 := S7.next hb8
    clear S7 hw8 hb8 r2' r4'
    obtain ⟨x0, x1, x2, x3⟩ := S8.cells
    go_wp2_with fail
    refine (unhide cRG _ S8.below).mono ?_
    rintro e w9 ⟨rfl, hb9⟩
    have S9 := S8.next hb9
    clear S8 hb9 x0 x1 x2 x3 cRG
    obtain ⟨EF, hEF⟩ : ∃ x, x = if GE = 0 then f else 0 := ⟨_, rfl⟩
    obtain ⟨EW, hEW⟩ : ∃ x, x = if GE = 0 then way else 0 := ⟨_, rfl⟩
    obtain ⟨ES, hES⟩ : ∃ x, x = if GE = 0 then GW else [] := ⟨_, rfl⟩
    obtain ⟨EL, hEL⟩ : ∃ x, x = if GE = 0 then GT.map (fun t => prunedV t f.toNat) else [] := ⟨_, rfl⟩
    have HEF := hide hEF
    have HEW := hide hEW
    have HES := hide hES
    have HEL := hide hEL
    have cQG : Hid (∀ W, Below w.heap.size w W → Calls Tryd.prog 15 #[.agg #[.int .i64 f, .int .i64 way, .slice Aw nw cw, .slice At nt ct]] W fun e w' => ∃ g' : Gv, e = .returned (.tuple #[.agg #[.int .i64 g'.f, .int .i64 g'.way, .slice g'.Aw g'.nw g'.cw, .slice g'.At g'.nt g'.ct], errV GE]) ∧ GReads w' w'.heap.size g' ∧ g'.f = EF ∧ g'.way = EW ∧ g'.ws = ES ∧ g'.trees = EL ∧ Below W.heap.size W w') := hide (fun W hB => (unhide cPG W hB).mono fun e w' ⟨g', h1, h2, h3, h4, h5⟩ => by
      refine ⟨g', h1, h2, ?_⟩
      by_cases h : GE = 0
      · obtain ⟨a1, a2, a3, a4⟩ := h3 h
        rw [hEF, hEW, hES, hEL, if_pos h, if_pos h, if_pos h, if_pos h]
        exact ⟨a1, a2, a3, a4, h5⟩
      · obtain ⟨a1, a2, a3, a4⟩ := h4 h
        rw [hEF, hEW, hES, hEL, if_neg h, if_neg h, if_neg h, if_neg h]
        exact ⟨a1, a2, a3, a4, h5⟩)
    clear cPG hEF hEW hES hEL
    go_upto_if 64 with (fail)
    go_cut [19] from 61 to 95 (fun s19 wx => AllAt wx w9.heap.size EF EW ES EL ∧ OneBoxP w f way Aw nw cw At nt ct wx)
    case first =>
      have hsz9 := S9.size
      by_cases h0 : GE = 0
      case neg =>
        have hb : (GE == 0) = false := by simpa using h0
        have e1 : Hid (EF = 0) := hide (by rw [unhide HEF, if_neg h0])
        have e2 : Hid (EW = 0) := hide (by rw [unhide HEW, if_neg h0])
        have e3 : Hid (ES = []) := hide (by rw [unhide HES, if_neg h0])
        have e4 : Hid (EL = []) := hide (by rw [unhide HEL, if_neg h0])
        have S10 := S9.next (wy := w9.alloc (.cells #[.int .i64 0, .int .i64 0, .slice none 0 0, .slice none 0 0] 26)) ((Below.refl _ _).alloc (Nat.le_refl _) _)
        have hA : Hid (AllAt (w9.alloc (.cells #[.int .i64 0, .int .i64 0, .slice none 0 0, .slice none 0 0] 26)) w9.heap.size EF EW ES EL) := hide ⟨⟨0, 0, none, 0, 0, [], none, 0, 0, []⟩, Blk.new _ _ _, ⟨IReads.nil_, ⟨Reads.none_, fun r hr => (by cases hr)⟩, Nat.zero_le _, Nat.zero_le _, fun _ => rfl, fun _ => rfl⟩, (unhide e1).symm, (unhide e2).symm, (unhide e3).symm, (unhide e4).symm⟩
        rw [hb]
        clear h0 hb S9
        go_wp2_with fail
        go_meet
        case rel => exact ⟨unhide hA, S10⟩
      have hb : (GE == 0) = true := by simpa using h0
      obtain ⟨n, hn, hRt, hnt12⟩ := unhide HG1 h0
      subst hn
      have e1 : Hid (EF = n) := hide (by rw [unhide HEF, if_pos h0])
      have e2 : Hid (EW = way) := hide (by rw [unhide HEW, if_pos h0])
      have e3 : Hid (ES = ws) := hide (by rw [unhide HES, if_pos h0, unhide HGW])
      have e4 : Hid (EL = ts.map fun r => prunedV r.l n) := hide (by rw [unhide HEL, if_pos h0, unhide HGT, List.map_map, Int.toNat_natCast]; rfl)
      have HRT := hide hRt
      have hbA : ∀ o, Below w9.heap.size w9 (w9.alloc o) := fun o => (Below.refl _ _).alloc (Nat.le_refl _) o
      obtain ⟨x0, x1, x2, x3⟩ := S9.cells
      have y0 := cell_alloc x0 (by show w.heap.size < _; omega)
      have y1 := cell_alloc x1 (by show w.heap.size < _; omega)
      have y2 := cell_alloc x2 (by show w.heap.size < _; omega)
      rw [hb]
      clear h0 hb hRt x0 x1 x2 x3 HG1 cQG HEF HEW HES HEL
      go_wp2_with fail
      clear y0 y1 y2
      go_loopw [19] (fun i wr => ∃ (k : Nat) (v : Value) (trs : List Tr), k ≤ nt ∧ i = .int .i64 k ∧ Blk wr w9.heap.size 26 #[.int .i64 n, .int .i64 way, .slice Aw nw cw, v] ∧ wr.ownsRow (w9.heap.size + 1) 22 1 v k (trs.map Tr.val) ∧ Hid (TrsOk wr ((ts.take k).map fun r => prunedV r.l n) trs) ∧ OneBoxP w n way Aw nw cw At nt ct wr) (fun i _ => nt - (intOf i).toNat)
      case atStart => exact ⟨0, _, [], Nat.zero_le _, rfl, Blk.new _ _ _, World.ownsRow_nil _ _ _ _, hide ⟨by simp, fun r hr => (by cases hr)⟩, S9.next (hbA _)⟩
      case round =>
        clear hbA S9
        obtain ⟨k, v, trs, hk, rfl, bA, hown, HTR, SR⟩ := hrel
        obtain ⟨x0, x1, x2, x3⟩ := SR.cells
        have hszA := bA.lt
        clear x1 x2
        by_cases hlk : k < nt
        · obtain ⟨b, o, r, rfl, _, hx, hcx, hok⟩ := ((unhide HGR).ts.below SR.below).get hlk
          have hRk := unhide HRT r (List.mem_of_getElem? hx)
          have hTK : Hid ((ts.take (k + 1)).map (fun r => prunedV r.l n) = (ts.take k).map (fun r => prunedV r.l n) ++ [prunedV r.l n]) := hide (by rw [take_next hx, List.map_append]; rfl)
          have hrr := hok.reads
          have hln := hok.len
          obtain ⟨rA, rn, rc, rl⟩ := r
          dsimp only at hcx hRk hTK hrr hln
          have hPP := (hRk.pruned n).pos
          have hPM := (hRk.pruned n).most
          have HC := hide (rprune_any rA rn rc n rl hRk wr.drew (Reads.more (Reads.drew hrr) SR.below.size))
          obtain ⟨PL, hPL⟩ : ∃ P, P = prunedV rl n := ⟨_, rfl⟩
          rw [← hPL] at hTK HC hPP hPM
          unfold RPrunePost at HC
          clear hx hok hRk hrr hln hPL
          go_wp2_with fail
          go_still_tail 7, (by kernel_rfl)
          go_wp2_with fail
          refine (unhide HC).mono ?_
          rintro e w3 ⟨A3, c3, rfl, hr3, hso3, hb3⟩
          have hb3' : Below wr.heap.size wr w3 := ((Below.refl _ _).drew).trans hb3
          have SR3 := SR.next hb3'
          have bA3 := bA.below hb3' hszA
          have ho3 := own_below hown hb3'
          have hT3 := (unhide HTR).below hb3'
          have hTs : Hid (TrsOk w3 ((ts.take (k + 1)).map fun r => prunedV r.l n) (trs ++ [⟨A3, PL.length, c3, PL⟩])) := hide (by
            rw [unhide hTK]
            refine hT3.snoc (r := ⟨A3, PL.length, c3, PL⟩) ⟨hr3, by unfold maxLen; dsimp only; omega, fun e => ?_⟩ hso3
            obtain ⟨ad, e', _⟩ := hr3.2 hPP
            dsimp only at e
            rw [e] at e'
            cases e')
          have c33 := bA3.cell 3
          simp at c33
          have hk9 : k < 1000000000 := by omega
          have hsz3 : w9.heap.size + 1 ≤ w3.heap.size := bA3.lt
          have hone : ∀ u ∈ [Value.slice A3 PL.length c3], u.oneCell' = true := fun u hu => by rw [List.mem_singleton] at hu; subst hu; rfl
          clear HC hb3 hb3' hr3 hso3 hT3 bA hown HTR SR x0 x3 hcx hszA
          go_wp2_with (at_builtin; refine app_one elem_trees (.tmp 90) (.tmp 92) [.slice A3 PL.length c3] rfl rfl rfl ho3 rfl rfl rfl hone hk9 hsz3 ?_; intro v' w4 hown4 hb4 hne4 hg4; obtain ⟨Av, cv, hv', _, _, _⟩ := own_slice hown4; subst hv'; have b4 := bA3.below hb4 (Nat.lt_succ_self _); have c43 := b4.cell 3; simp at c43; have f43 := b4.frozen 3)
          have hT4 := (unhide hTs).app ho3 hg4 hb4.size
          have hT5 := hide (hT4.set_ b4 3 (.slice Av (k + 1) cv))
          have b5 := b4.set_ 3 (.slice Av (k + 1) cv)
          simp at b5
          have ho5 := own_far hown4 (p := ⟨w9.heap.size, 3, none⟩) (fun q hq => by have := own_block_ge hown4 q hq; show q ≠ w9.heap.size; omega) (.slice Av (k + 1) cv)
          have SR5 : OneBoxP w n way Aw nw cw (some ⟨b, o, none⟩) nt ct (w4.setCell ⟨w9.heap.size, 3, none⟩ (.slice Av (k + 1) cv)) := ⟨(SR3.below.trans (hb4.mono (by omega))).setCell (p := ⟨w9.heap.size, 3, none⟩) (by show w.heap.size ≤ w9.heap.size; omega) _, by have := hb4.size; have := SR3.size; simp [World.setCell]; omega, (SR3.a.below hb4 (by omega)).far (p := ⟨w9.heap.size, 3, none⟩) (by show w.heap.size ≠ w9.heap.size; omega) _⟩
          have ho6 : (w4.setCell ⟨w9.heap.size, 3, none⟩ (.slice Av (k + 1) cv)).ownsRow (w9.heap.size + 1) 22 1 (.slice Av (k + 1) cv) (k + 1) ((trs ++ [(⟨A3, PL.length, c3, PL⟩ : Tr)]).map Tr.val) := by rw [List.map_append]; exact ho5
          clear hT4 ho5 hown4 hb4 hne4 hg4 b4 c43 f43 c33 bA3 ho3 hTs SR3
          go_wp2_with fail
          go_roundw
          case rel => exact ⟨k + 1, _, _, by omega, by go_num, b5, ho6, hT5, SR5⟩
          case measure => simp [intOf]; omega
        · obtain rfl : k = nt := by omega
          have hAll : Hid (AllAt wr w9.heap.size EF EW ES EL) := hide (by
            obtain ⟨vA, vc, rfl, hvr, hvl, _⟩ := own_slice hown
            refine ⟨⟨n, way, Aw, nw, cw, ws, vA, k, vc, trs⟩, bA, ⟨((unhide HGR).ws.below SR.below).more SR.below.size, ⟨hvr, fun r hr => ((unhide HTR).2 r hr).1⟩, (unhide HGR).nw, hvl, (unhide HGR).nilw, fun e => by dsimp only at e; rw [e] at hown; exact (own_nil hown).1⟩, (unhide e1).symm, (unhide e2).symm, (unhide e3).symm, ?_⟩
            have h1 := (unhide HTR).1
            rw [List.take_of_length_le (by rw [unhide HNT]; exact Nat.le_refl _)] at h1
            rw [unhide e4]
            exact h1)
          clear bA hown HTR x0
          go_wp2_with fail
          go_meet
          case rel => exact ⟨unhide hAll, SR⟩
    case rest =>
      obtain ⟨hAll, S11⟩ := hcut
      clear S9
      obtain ⟨x0, x1, x2, x3⟩ := S11.cells
      go_wp2_with fail
      refine (unhide cQG _ S11.below).mono ?_
      rintro e w12 ⟨g', rfl, hg12, e1, e2, e3, e4, hb12⟩
      have S12 := S11.next hb12
      have hA12 := hAll.below hb12
      clear S11 hb12 hAll x0 x1 x2 x3 cQG
      go_wp2_with fail
      refine calls_nameP fun W13 hW13 => ?_
      have hb13 : Below w12.heap.size w12 W13 := by rw [hW13]; exact (Below.refl _ _).alloc (Nat.le_refl _) _
      have bZ13 : Blk W13 w12.heap.size 26 g'.cells := by unfold Gv.cells; rw [hW13, e1, e2]; exact Blk.new _ _ _
      have S13 := S12.next hb13
      have hA13 := hA12.below hb13
      have hg13 := (hg12.below hb13).more hb13.size
      clear hW13 hb13 S12 hA12 hg12
      refine (error_any _ _ _ (he.below S13.below he.lt)).mono ?_
      rintro e w14 ⟨rfl, hb14⟩
      rw [beq_self_eq_true]
      have S14 := S13.next hb14
      obtain ⟨H, bH, hH, h1, h2, h3, h4⟩ := hA13.below hb14
      have bZ := bZ13.below hb14 bZ13.lt
      have hg14 := (hg13.below hb14).more hb14.size
      have HC := hide (sameGrove_any g' H w14 hg14 hH (h1.trans e1.symm) (h2.trans e2.symm) (h3.trans e3.symm) (h4.trans e4.symm))
      clear S13 hA13 hg13 bZ13 hb14 hg14 hH h1 h2 h3 h4 e1 e2 e3 e4
      obtain ⟨z0, z1, zA, zn, zc, zw, zB, zm, zd, zt⟩ := g'
      obtain ⟨k0, k1, kA, kn, kc, kw, kB, km, kd, kt⟩ := H
      have a0 := bZ.cell 0
      have a1 := bZ.cell 1
      have a2 := bZ.cell 2
      have a3 := bZ.cell 3
      have b0 := bH.cell 0
      have b1 := bH.cell 1
      have b2 := bH.cell 2
      have b3 := bH.cell 3
      simp [Gv.cells] at a0 a1 a2 a3 b0 b1 b2 b3
      simp only [Gv.val] at HC
      clear bZ bH
      go_wp2_with fail
      refine (unhide HC).mono ?_
      rintro e w15 ⟨rfl, hb15⟩
      have S15 := S14.next hb15
      clear HC a0 a1 a2 a3 b0 b1 b2 b3 S14 hb15
      go_wp2_with fail
      go_ret
      exact ⟨rfl, S15.below⟩
end Go.Proofs.YtefkjpcgcgofgaaDoor
