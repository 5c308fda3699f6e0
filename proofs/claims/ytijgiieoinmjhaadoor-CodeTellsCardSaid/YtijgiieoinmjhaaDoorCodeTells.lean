/- CodeTells: the walk. Conditions: arguments read as data; the bytes are bytes, not too many; the handle that errors need. -/
import Derived.Test.YtijgiieoinmjhaaDoorCDec
import Derived.Test.YtijgiieoinmjhaaDoorNumZ
import Derived.Test.YtijgiieoinmjhaaDoorRDec
import Derived.Test.YtijgiieoinmjhaaDoorREnc
import Derived.Test.YtijgiieoinmjhaaDoorSameGr
import Derived.Test.YtijgiieoinmjhaaDoorTold2
import Derived.Laws.BytesArg
import Derived.Laws.BytesString
namespace Go.Proofs.YtijgiieoinmjhaaDoor
set_option linter.unusedVariables false
set_option linter.unusedSimpArgs false
open Go.RowKit

set_option maxRecDepth 100000 in
set_option maxHeartbeats 16000000 in
theorem codeTells_walk (g : Gv) (A : Option Addr) (n c : Nat) (l : List Int) (z : Int) (w : World) (he : ErrT w) (hg : GReads w w.heap.size g) (hr : BReads w w.heap.size A n l) (hn : n ≤ 140737488351232) (hnc : n ≤ c) (hnil : A = none → c = 0) (hby : Bys l) (hz : In64 z) :
    Calls Tryd.prog 7 #[g.val, .slice A n c, .int .i64 z] w fun e w' => e = .returned (.bool true) ∧ Below w.heap.size w w' := by
  have hnm : n ≤ maxLen := by unfold maxLen; omega
  have HE : Hid (∀ W, Below w.heap.size w W → ErrT W) := hide (fun W hB => he.below hB he.lt)
  have HG : Hid (∀ W, Below w.heap.size w W → GReads W W.heap.size g) := hide (fun W hB => (hg.below hB).more hB.size)
  have HR : Hid (∀ W, Below w.heap.size w W → BReads W w.heap.size A n l) := hide (fun W hB => Reads.below hr hB)
  obtain ⟨W, hW⟩ : ∃ W, W = w.alloc (.cells #[.int .i64 g.f, .int .i64 g.way, .slice g.Aw g.nw g.cw, .slice g.At g.nt g.ct] 73) := ⟨_, rfl⟩
  have hbx : Blk W w.heap.size 73 #[.int .i64 g.f, .int .i64 g.way, .slice g.Aw g.nw g.cw, .slice g.At g.nt g.ct] := by rw [hW]; exact Blk.new _ _ _
  have hb0 : Below w.heap.size w W := by rw [hW]; exact (Below.refl _ _).alloc (Nat.le_refl _) _
  have hxl := hbx.lt
  have t1 := hide (rencode_any g W (unhide HG W hb0))
  have HT2 := hide (fun W hB => cencode_any g W (unhide HG W hB))
  unfold Gv.val at t1 HT2 ⊢
  clear he hg hr
  go_enter Tryd.func7, Tryd.ntmps7
  go_upto_region 1 with (fail)
  rw [← hW]
  clear hW
  obtain ⟨k0, k1, k2, k3, _⟩ := hbx.cells4e
  go_wp2_with fail
  refine (unhide t1).mono ?_
  rintro e w1 ⟨v1, rfl, o1, b1⟩
  obtain ⟨B1, c1, rfl, r1, _, _, _, _⟩ := own_slice2 o1
  have hB1 := hb0.trans (b1.mono hb0.size)
  have hbx1 := hbx.below b1 hxl
  have t2 := hide (unhide HT2 w1 hB1)
  clear t1 hbx k0 k1 k2 k3 o1 b1 HT2 hxl hb0
  obtain ⟨k0, k1, k2, k3, _⟩ := hbx1.cells4e
  go_wp2_with fail
  refine (unhide t2).mono ?_
  rintro e w2 ⟨v2, rfl, o2, b2⟩
  obtain ⟨B2, c2, rfl, r2, _, _, _, _⟩ := own_slice2 o2
  have hB2 := hB1.trans (b2.mono hB1.size)
  have r12 : BReads w2 w2.heap.size B1 g.encB.length g.encB := Reads.more (Reads.below r1 b2) b2.size
  have r22 : BReads w2 w2.heap.size B2 g.encB.length g.encB := r2
  have t3 := hide (error_any g.encE g.encE w2 (unhide HE w2 hB2))
  clear t2 o2 b2 hbx1 k0 k1 k2 k3 r1 r2
  go_wp2_with fail
  refine (unhide t3).mono ?_
  rintro e w3 ⟨rfl, b3⟩
  rw [beq_self_eq_true]
  have hB3 := hB2.trans (b3.mono hB2.size)
  have t4 := hide (rdecode_any A n c w.heap.size l w3 (unhide HR w3 hB3) hB3.size hnm hnc hby)
  have r13 := Reads.more (Reads.below r12 b3) b3.size
  have r23 := Reads.more (Reads.below r22 b3) b3.size
  clear t3 b3 r12 r22
  go_wp2_with fail
  refine (unhide t4).mono ?_
  rintro e w4 ⟨og, rfl, hog, b4, m1, m2⟩
  unfold intV
  simp only [Gv.val]
  have hB4 := hB3.trans (b4.mono hB3.size)
  have r14 := Reads.more (Reads.below r13 b4) b4.size
  have r24 := Reads.more (Reads.below r23 b4) b4.size
  obtain ⟨X, hX⟩ : ∃ W, W = w4.alloc (.cells #[.int .i64 og.f, .int .i64 og.way, .slice og.Aw og.nw og.cw, .slice og.At og.nt og.ct] 73) := ⟨_, rfl⟩
  obtain ⟨ob, hob⟩ : ∃ m, m = w4.heap.size := ⟨_, rfl⟩
  have hox : Blk X ob 73 #[.int .i64 og.f, .int .i64 og.way, .slice og.Aw og.nw og.cw, .slice og.At og.nt og.ct] := by rw [hX, hob]; exact Blk.new _ _ _
  have bX : Below w4.heap.size w4 X := by rw [hX]; exact (Below.refl _ _).alloc (Nat.le_refl _) _
  have hBX := hB4.trans (bX.mono hB4.size)
  have r1X := Reads.more (Reads.below r14 bX) bX.size
  have r2X := Reads.more (Reads.below r24 bX) bX.size
  have hogX := (hog.below bX).more bX.size
  have M1 := hide m1
  have M2 := hide m2
  have t5 := hide (cdecode_any A n c w.heap.size l X (unhide HR X hBX) hBX.size hnm hnc hby)
  obtain ⟨at_, hat⟩ : ∃ a, a = (decE l).1 := ⟨_, rfl⟩
  obtain ⟨de, hde⟩ : ∃ a, a = (decE l).2 := ⟨_, rfl⟩
  unfold DecPost at t5
  rw [← hde] at M1 M2
  rw [← hat, ← hde] at t5 ⊢
  clear t4 b4 r13 r23 r14 r24 bX hog m1 m2 hat hde
  go_wp2_with fail
  rw [← hX, ← hob]
  clear hX hob
  refine (unhide t5).mono ?_
  rintro e w5 ⟨pg, rfl, hpg, b5, m3, m4⟩
  simp only [Gv.val]
  have hB5 := hBX.trans (b5.mono hBX.size)
  have r15 := Reads.more (Reads.below r1X b5) b5.size
  have r25 := Reads.more (Reads.below r2X b5) b5.size
  have hox5 := hox.below b5 hox.lt
  have hog5 := (hogX.below b5).more b5.size
  obtain ⟨Y, hY⟩ : ∃ W, W = w5.alloc (.cells #[.int .i64 pg.f, .int .i64 pg.way, .slice pg.Aw pg.nw pg.cw, .slice pg.At pg.nt pg.ct] 73) := ⟨_, rfl⟩
  obtain ⟨pb, hpb⟩ : ∃ m, m = w5.heap.size := ⟨_, rfl⟩
  have hpx : Blk Y pb 73 #[.int .i64 pg.f, .int .i64 pg.way, .slice pg.Aw pg.nw pg.cw, .slice pg.At pg.nt pg.ct] := by rw [hY, hpb]; exact Blk.new _ _ _
  have bY : Below w5.heap.size w5 Y := by rw [hY]; exact (Below.refl _ _).alloc (Nat.le_refl _) _
  have hBY := hB5.trans (bY.mono hB5.size)
  have r1Y := Reads.more (Reads.below r15 bY) bY.size
  have r2Y := Reads.more (Reads.below r25 bY) bY.size
  have hogY := (hog5.below bY).more bY.size
  have hpgY := (hpg.below bY).more bY.size
  have hoxY := hox5.below bY hox5.lt
  have HSAME : Hid (og.f = pg.f ∧ og.way = pg.way ∧ og.ws = pg.ws ∧ og.trees = pg.trees) := hide (by
    by_cases h0 : de = 0
    · obtain ⟨a1, a2, a3, a4⟩ := unhide M1 h0
      obtain ⟨d1, d2, d3, d4⟩ := m3 h0
      exact ⟨a1.trans d1.symm, a2.trans d2.symm, a3.trans d3.symm, a4.trans d4.symm⟩
    · obtain ⟨a1, a2, a3, a4⟩ := unhide M2 h0
      obtain ⟨d1, d2, d3, d4⟩ := m4 h0
      exact ⟨a1.trans d1.symm, a2.trans d2.symm, a3.trans d3.symm, a4.trans d4.symm⟩)
  have t6 := hide (error_any de de Y (unhide HE Y hBY))
  clear t5 b5 r1X r2X r15 r25 hox hox5 hogX hog5 bY hpg m3 m4 M1 M2
  go_wp2_with fail
  rw [← hY, ← hpb]
  clear hY hpb
  refine (unhide t6).mono ?_
  rintro e w6 ⟨rfl, b6⟩
  rw [beq_self_eq_true]
  have hB6 := hBY.trans (b6.mono hBY.size)
  have r16 := Reads.more (Reads.below r1Y b6) b6.size
  have r26 := Reads.more (Reads.below r2Y b6) b6.size
  have hpx6 := hpx.below b6 hpx.lt
  have hox6 := hoxY.below b6 hoxY.lt
  have hs := unhide HSAME
  have t7 := hide (sameGrove_any pg og w6 ((hpgY.below b6).more b6.size) ((hogY.below b6).more b6.size) hs.1 hs.2.1 hs.2.2.1 hs.2.2.2)
  unfold Gv.val at t7
  obtain ⟨p0, p1, p2, p3, _⟩ := hpx6.cells4e
  obtain ⟨k0, k1, k2, k3, _⟩ := hox6.cells4e
  clear t6 b6 r1Y r2Y hpx hoxY hs HSAME hogY hpgY
  go_wp2_with fail
  refine (unhide t7).mono ?_
  rintro e w7 ⟨rfl, b7⟩
  have hB7 := hB6.trans (b7.mono hB6.size)
  have r17 := Reads.more (Reads.below r16 b7) b7.size
  have r27 := Reads.more (Reads.below r26 b7) b7.size
  have t8 := hide (rget_any A n c w.heap.size l w7 (unhide HR w7 hB7) hnm hby)
  have t9 := hide (get_any A n c w.heap.size l w7 (unhide HR w7 hB7) hnm hby)
  obtain ⟨gx, gu, ge, hgv⟩ : ∃ (z : Int) (u : Nat) (er : Int), getV l = (z, u, er) := ⟨_, _, _, rfl⟩
  rw [hgv] at t8 t9
  dsimp only at t8 t9
  have t10 := hide (error_any ge ge w7 (unhide HE w7 hB7))
  clear t7 b7 r16 r26 hpx6 hox6 p0 p1 p2 p3 k0 k1 k2 k3 hgv
  go_wp2_with fail
  refine (unhide t8).mono ?_
  rintro e x ⟨rfl, rfl⟩
  clear t8
  go_wp2_with fail
  refine (unhide t9).mono ?_
  rintro e x ⟨rfl, rfl⟩
  clear t9
  go_wp2_with fail
  refine (unhide t10).mono ?_
  rintro e w8 ⟨rfl, b8⟩
  rw [beq_self_eq_true]
  have hB8 := hB7.trans (b8.mono hB7.size)
  have r18 : BReads w8 w8.heap.size B1 g.encB.length g.encB := Reads.more (Reads.below r17 b8) b8.size
  have r28 : BReads w8 w8.heap.size B2 g.encB.length g.encB := Reads.more (Reads.below r27 b8) b8.size
  have hd : Below w8.heap.size w8 w8.drew := (Below.refl _ _).drew
  have hB8d : Below w.heap.size w w8.drew := hB8.drew
  have q1 := conv_bytes (c := c1) (show BReads w8.drew w8.heap.size B1 g.encB.length g.encB from Reads.below r18 hd)
  have q2 := conv_bytes (c := c2) (show BReads w8.drew w8.heap.size B2 g.encB.length g.encB from Reads.below r28 hd)
  obtain ⟨NL, hNL⟩ : ∃ NL, NL = (l ++ enc z).length := ⟨_, rfl⟩
  have hN1 := hide (num_anyZ A n c w.heap.size l z w8.drew (unhide HR w8.drew hB8d) hB8d.size hn hnil hz.1 hz.2)
  unfold AddPost at hN1
  have HX1 : Hid (∀ v5 x1, x1.ownsRow w8.drew.heap.size 5 1 v5 (l ++ enc z).length ((l ++ enc z).map (Value.int .u8)) → Below w8.drew.heap.size w8.drew x1 → ∃ B5 c5, (convert 22 9 (.slice B2 g.encB.length c2)).run Tryd.prog x1 = .ok (.string (strOfNums g.encB)) x1 ∧ (convert 22 9 (.slice B1 g.encB.length c1)).run Tryd.prog x1 = .ok (.string (strOfNums g.encB)) x1 ∧
      (convert 22 9 (.slice B5 (l ++ enc z).length c5)).run Tryd.prog x1 = .ok (.string (strOfNums (l ++ enc z))) x1 ∧ v5 = .slice B5 (l ++ enc z).length c5 ∧
      Hid (∀ v6 x2, x2.ownsRow x1.heap.size 5 1 v6 (l ++ enc z).length ((l ++ enc z).map (Value.int .u8)) → Below x1.heap.size x1 x2 → ∃ B6 c6, (convert 22 9 (.slice B2 g.encB.length c2)).run Tryd.prog x2 = .ok (.string (strOfNums g.encB)) x2 ∧ (convert 22 9 (.slice B1 g.encB.length c1)).run Tryd.prog x2 = .ok (.string (strOfNums g.encB)) x2 ∧
        (convert 22 9 (.slice B5 (l ++ enc z).length c5)).run Tryd.prog x2 = .ok (.string (strOfNums (l ++ enc z))) x2 ∧ (convert 22 9 (.slice B6 (l ++ enc z).length c6)).run Tryd.prog x2 = .ok (.string (strOfNums (l ++ enc z))) x2 ∧ v6 = .slice B6 (l ++ enc z).length c6 ∧ Below w.heap.size w x2) ∧
      Hid (Calls Tryd.prog 42 #[.slice A n c, .int .i64 z] x1 fun e w' => ∃ v, e = .returned v ∧ w'.ownsRow x1.heap.size 5 1 v (l ++ enc z).length ((l ++ enc z).map (Value.int .u8)) ∧ Below x1.heap.size x1 w')) := hide (fun v5 x1 ho hb => by
    obtain ⟨B5, c5, rfl, r5, _, _, _, _⟩ := own_slice2 ho
    have hb8 := hd.trans (hb.mono hd.size)
    have hBx := hB8.trans (hb8.mono hB8.size)
    have s1 : BReads x1 w8.heap.size B1 g.encB.length g.encB := Reads.below r18 hb8
    have s2 : BReads x1 w8.heap.size B2 g.encB.length g.encB := Reads.below r28 hb8
    have s5 : BReads x1 x1.heap.size B5 (l ++ enc z).length (l ++ enc z) := r5
    refine ⟨B5, c5, conv_bytes s2, conv_bytes s1, conv_bytes s5, rfl, hide (fun v6 x2 ho2 hb2 => ?_), hide (rnum_anyZ A n c w.heap.size l z x1 (unhide HR x1 hBx) hn hz.1 hz.2)⟩
    obtain ⟨B6, c6, rfl, r6, _, _, _, _⟩ := own_slice2 ho2
    have s6 : BReads x2 x2.heap.size B6 (l ++ enc z).length (l ++ enc z) := r6
    exact ⟨B6, c6, conv_bytes (Reads.below s2 (hb2.mono hb8.size)), conv_bytes (Reads.below s1 (hb2.mono hb8.size)), conv_bytes (Reads.below s5 hb2), conv_bytes s6, rfl, hBx.trans (hb2.mono hBx.size)⟩)
  rw [← hNL] at hN1 HX1
  clear t10 b8 r17 r27 r18 r28 hd HE HG HR hB8d hNL
  go_upto_region 11 with (fail)
  refine wp_region_held_drew (S := fun w' => (convert 22 9 (.slice B2 g.encB.length c2)).run Tryd.prog w' = .ok (.string (strOfNums g.encB)) w' ∧ (convert 22 9 (.slice B1 g.encB.length c1)).run Tryd.prog w' = .ok (.string (strOfNums g.encB)) w') (by kernel_rfl) ⟨q2, q1⟩ (fun hHeld => ?_)
  refine wpAnyH_take (i := 0) (oi := ⟨some 69, _, _, _, _, _⟩) (v := .bool true) rfl (by kernel_rfl) (by kernel_rfl) (by kernel_rfl) (fun _ _ _ h => h) (Or.inl ⟨by rfl, fun w hSw => ?_⟩) (by assumption) ?_
  · try dsimp only at hSw
    go_simp
  try simp only [Act.put, List.setIfInBounds_toArray, List.set_cons_zero, List.set_cons_succ]
  refine wpAnyH_take (i := 1) (oi := ⟨some 70, _, _, _, _, _⟩) (v := .bool true) rfl (by kernel_rfl) (by kernel_rfl) (by kernel_rfl) (fun _ _ _ h => h) (Or.inl ⟨by rfl, fun w hSw => ?_⟩) (by assumption) ?_
  · try dsimp only at hSw
    go_simp
  try simp only [Act.put, List.setIfInBounds_toArray, List.set_cons_zero, List.set_cons_succ]
  refine wpAnyH_take (i := 2) (oi := ⟨some 71, _, _, _, _, _⟩) (v := .bool true) rfl (by kernel_rfl) (by kernel_rfl) (by kernel_rfl) (fun _ _ _ h => h) (Or.inl ⟨by rfl, fun w hSw => ?_⟩) (by assumption) ?_
  · try dsimp only at hSw
    go_simp
  try simp only [Act.put, List.setIfInBounds_toArray, List.set_cons_zero, List.set_cons_succ]
  refine wpAnyH_take (i := 3) (oi := ⟨some 72, _, _, _, _, _⟩) (v := .bool true) rfl (by kernel_rfl) (by kernel_rfl) (by kernel_rfl) (fun _ _ _ h => h) (Or.inl ⟨by rfl, fun w hSw => ?_⟩) (by assumption) ?_
  · try dsimp only at hSw
    go_simp
  try simp only [Act.put, List.setIfInBounds_toArray, List.set_cons_zero, List.set_cons_succ]
  refine wpAnyH_take (i := 4) (oi := ⟨some 73, _, _, _, _, _⟩) (v := .bool true) rfl (by kernel_rfl) (by kernel_rfl) (by kernel_rfl) (fun _ _ _ h => h) (Or.inl ⟨by rfl, fun w hSw => ?_⟩) (by assumption) ?_
  · try dsimp only at hSw
    go_simp
  try simp only [Act.put, List.setIfInBounds_toArray, List.set_cons_zero, List.set_cons_succ]
  refine wpAnyH_take (i := 5) (oi := ⟨some 74, _, _, _, _, _⟩) (v := .bool true) rfl (by kernel_rfl) (by kernel_rfl) (by kernel_rfl) (fun _ _ _ h => h) (Or.inl ⟨by rfl, fun w hSw => ?_⟩) (by assumption) ?_
  · try dsimp only at hSw
    go_simp
  try simp only [Act.put, List.setIfInBounds_toArray, List.set_cons_zero, List.set_cons_succ]
  refine wpAnyH_take (i := 6) (oi := ⟨some 75, _, _, _, _, _⟩) (v := .bool true) rfl (by kernel_rfl) (by kernel_rfl) (by kernel_rfl) (fun _ _ _ h => h) (Or.inl ⟨by rfl, fun w hSw => ?_⟩) (by assumption) ?_
  · try dsimp only at hSw
    go_simp
  try simp only [Act.put, List.setIfInBounds_toArray, List.set_cons_zero, List.set_cons_succ]
  refine wpAnyH_take (i := 7) (oi := ⟨some 76, _, _, _, _, _⟩) (v := .bool true) rfl (by kernel_rfl) (by kernel_rfl) (by kernel_rfl) (fun _ _ _ h => h) (Or.inl ⟨by rfl, fun w hSw => ?_⟩) (by assumption) ?_
  · try dsimp only at hSw
    go_simp
  try simp only [Act.put, List.setIfInBounds_toArray, List.set_cons_zero, List.set_cons_succ]
  refine wpAnyH_take (i := 8) (oi := ⟨some 77, _, _, _, _, _⟩) (v := .bool true) rfl (by kernel_rfl) (by kernel_rfl) (by kernel_rfl) (fun _ _ _ h => h) (Or.inl ⟨by rfl, fun w hSw => ?_⟩) (by assumption) ?_
  · try dsimp only at hSw
    go_simp
  try simp only [Act.put, List.setIfInBounds_toArray, List.set_cons_zero, List.set_cons_succ]
  refine wpAnyH_take (i := 9) (oi := ⟨some 78, _, _, _, _, _⟩) (v := .bool true) rfl (by kernel_rfl) (by kernel_rfl) (by kernel_rfl) (fun _ _ _ h => h) (Or.inl ⟨by rfl, fun w hSw => ?_⟩) (by assumption) ?_
  · try dsimp only at hSw
    go_simp
  try simp only [Act.put, List.setIfInBounds_toArray, List.set_cons_zero, List.set_cons_succ]
  refine wpAnyH_take (i := 10) (oi := ⟨some 79, _, _, _, _, _⟩) (v := .bool true) rfl (by kernel_rfl) (by kernel_rfl) (by kernel_rfl) (fun _ _ _ h => h) (Or.inl ⟨by rfl, fun w hSw => ?_⟩) (by assumption) ?_
  · try dsimp only at hSw
    go_simp
  try simp only [Act.put, List.setIfInBounds_toArray, List.set_cons_zero, List.set_cons_succ]
  refine wpAnyH_take (i := 11) (oi := ⟨some 80, _, _, _, _, _⟩) (v := .slice B2 g.encB.length c2) rfl (by kernel_rfl) (by kernel_rfl) (by kernel_rfl) (fun _ _ _ h => h) (Or.inl ⟨by rfl, fun w hSw => ?_⟩) (by assumption) ?_
  · try dsimp only at hSw
    go_simp
  try simp only [Act.put, List.setIfInBounds_toArray, List.set_cons_zero, List.set_cons_succ]
  refine wpAnyH_take (i := 12) (oi := ⟨some 81, _, _, _, _, _⟩) (v := .string (strOfNums g.encB)) rfl (by kernel_rfl) (by kernel_rfl) (by kernel_rfl) (fun _ _ _ h => h) (Or.inl ⟨by rfl, fun w hSw => ?_⟩) (by assumption) ?_
  · try dsimp only at hSw
    go_simp
  try simp only [Act.put, List.setIfInBounds_toArray, List.set_cons_zero, List.set_cons_succ]
  refine wpAnyH_take (i := 13) (oi := ⟨some 82, _, _, _, _, _⟩) (v := .slice B1 g.encB.length c1) rfl (by kernel_rfl) (by kernel_rfl) (by kernel_rfl) (fun _ _ _ h => h) (Or.inl ⟨by rfl, fun w hSw => ?_⟩) (by assumption) ?_
  · try dsimp only at hSw
    go_simp
  try simp only [Act.put, List.setIfInBounds_toArray, List.set_cons_zero, List.set_cons_succ]
  refine wpAnyH_take (i := 14) (oi := ⟨some 83, _, _, _, _, _⟩) (v := .string (strOfNums g.encB)) rfl (by kernel_rfl) (by kernel_rfl) (by kernel_rfl) (fun _ _ _ h => h) (Or.inl ⟨by rfl, fun w hSw => ?_⟩) (by assumption) ?_
  · try dsimp only at hSw
    go_simp
  try simp only [Act.put, List.setIfInBounds_toArray, List.set_cons_zero, List.set_cons_succ]
  refine wpAnyH_take (i := 15) (oi := ⟨some 84, _, _, _, _, _⟩) (v := .bool true) rfl (by kernel_rfl) (by kernel_rfl) (by kernel_rfl) (fun _ _ _ h => h) (Or.inl ⟨by rfl, fun w hSw => ?_⟩) (by assumption) ?_
  · try dsimp only at hSw
    go_simp
  try simp only [Act.put, List.setIfInBounds_toArray, List.set_cons_zero, List.set_cons_succ]
  refine wpAnyH_take (i := 16) (oi := ⟨some 85, _, _, _, _, _⟩) (v := .bool true) rfl (by kernel_rfl) (by kernel_rfl) (by kernel_rfl) (fun _ _ _ h => h) (Or.inl ⟨by rfl, fun w hSw => ?_⟩) (by assumption) ?_
  · try dsimp only at hSw
    go_simp
  try simp only [Act.put, List.setIfInBounds_toArray, List.set_cons_zero, List.set_cons_succ]
  refine wpAnyH_take (i := 17) (oi := ⟨some 86, _, _, _, _, _⟩) (v := .bool true) rfl (by kernel_rfl) (by kernel_rfl) (by kernel_rfl) (fun _ _ _ h => h) (Or.inl ⟨by rfl, fun w hSw => ?_⟩) (by assumption) ?_
  · try dsimp only at hSw
    go_simp
  try simp only [Act.put, List.setIfInBounds_toArray, List.set_cons_zero, List.set_cons_succ]
  refine wpAnyH_take (i := 18) (oi := ⟨some 87, _, _, _, _, _⟩) (v := .int .i64 (at_ : Int)) rfl (by kernel_rfl) (by kernel_rfl) (by kernel_rfl) (fun _ _ _ h => h) (Or.inl ⟨by rfl, fun w hSw => ?_⟩) (by assumption) ?_
  · try dsimp only at hSw
    go_simp
  try simp only [Act.put, List.setIfInBounds_toArray, List.set_cons_zero, List.set_cons_succ]
  refine wpAnyH_take (i := 19) (oi := ⟨some 88, _, _, _, _, _⟩) (v := .int .i64 (at_ : Int)) rfl (by kernel_rfl) (by kernel_rfl) (by kernel_rfl) (fun _ _ _ h => h) (Or.inl ⟨by rfl, fun w hSw => ?_⟩) (by assumption) ?_
  · try dsimp only at hSw
    go_simp
  try simp only [Act.put, List.setIfInBounds_toArray, List.set_cons_zero, List.set_cons_succ]
  refine wpAnyH_take (i := 20) (oi := ⟨some 89, _, _, _, _, _⟩) (v := .bool true) rfl (by kernel_rfl) (by kernel_rfl) (by kernel_rfl) (fun _ _ _ h => h) (Or.inl ⟨by rfl, fun w hSw => ?_⟩) (by assumption) ?_
  · try dsimp only at hSw
    go_simp
  try simp only [Act.put, List.setIfInBounds_toArray, List.set_cons_zero, List.set_cons_succ]
  refine wpAnyH_take (i := 21) (oi := ⟨some 90, _, _, _, _, _⟩) (v := .bool true) rfl (by kernel_rfl) (by kernel_rfl) (by kernel_rfl) (fun _ _ _ h => h) (Or.inl ⟨by rfl, fun w hSw => ?_⟩) (by assumption) ?_
  · try dsimp only at hSw
    go_simp
  try simp only [Act.put, List.setIfInBounds_toArray, List.set_cons_zero, List.set_cons_succ]
  refine wpAnyH_take (i := 22) (oi := ⟨some 91, _, _, _, _, _⟩) (v := .bool true) rfl (by kernel_rfl) (by kernel_rfl) (by kernel_rfl) (fun _ _ _ h => h) (Or.inl ⟨by rfl, fun w hSw => ?_⟩) (by assumption) ?_
  · try dsimp only at hSw
    go_simp
  try simp only [Act.put, List.setIfInBounds_toArray, List.set_cons_zero, List.set_cons_succ]
  refine wpAnyH_take (i := 23) (oi := ⟨some 92, _, _, _, _, _⟩) (v := .int .i64 gx) rfl (by kernel_rfl) (by kernel_rfl) (by kernel_rfl) (fun _ _ _ h => h) (Or.inl ⟨by rfl, fun w hSw => ?_⟩) (by assumption) ?_
  · try dsimp only at hSw
    go_simp
  try simp only [Act.put, List.setIfInBounds_toArray, List.set_cons_zero, List.set_cons_succ]
  refine wpAnyH_take (i := 24) (oi := ⟨some 93, _, _, _, _, _⟩) (v := .int .i64 gx) rfl (by kernel_rfl) (by kernel_rfl) (by kernel_rfl) (fun _ _ _ h => h) (Or.inl ⟨by rfl, fun w hSw => ?_⟩) (by assumption) ?_
  · try dsimp only at hSw
    go_simp
  try simp only [Act.put, List.setIfInBounds_toArray, List.set_cons_zero, List.set_cons_succ]
  refine wpAnyH_take (i := 25) (oi := ⟨some 94, _, _, _, _, _⟩) (v := .bool true) rfl (by kernel_rfl) (by kernel_rfl) (by kernel_rfl) (fun _ _ _ h => h) (Or.inl ⟨by rfl, fun w hSw => ?_⟩) (by assumption) ?_
  · try dsimp only at hSw
    go_simp
  try simp only [Act.put, List.setIfInBounds_toArray, List.set_cons_zero, List.set_cons_succ]
  refine wpAnyH_take (i := 26) (oi := ⟨some 95, _, _, _, _, _⟩) (v := .bool true) rfl (by kernel_rfl) (by kernel_rfl) (by kernel_rfl) (fun _ _ _ h => h) (Or.inl ⟨by rfl, fun w hSw => ?_⟩) (by assumption) ?_
  · try dsimp only at hSw
    go_simp
  try simp only [Act.put, List.setIfInBounds_toArray, List.set_cons_zero, List.set_cons_succ]
  refine wpAnyH_take (i := 27) (oi := ⟨some 96, _, _, _, _, _⟩) (v := .bool true) rfl (by kernel_rfl) (by kernel_rfl) (by kernel_rfl) (fun _ _ _ h => h) (Or.inl ⟨by rfl, fun w hSw => ?_⟩) (by assumption) ?_
  · try dsimp only at hSw
    go_simp
  try simp only [Act.put, List.setIfInBounds_toArray, List.set_cons_zero, List.set_cons_succ]
  refine wpAnyH_take (i := 28) (oi := ⟨some 97, _, _, _, _, _⟩) (v := .int .i64 (gu : Int)) rfl (by kernel_rfl) (by kernel_rfl) (by kernel_rfl) (fun _ _ _ h => h) (Or.inl ⟨by rfl, fun w hSw => ?_⟩) (by assumption) ?_
  · try dsimp only at hSw
    go_simp
  try simp only [Act.put, List.setIfInBounds_toArray, List.set_cons_zero, List.set_cons_succ]
  refine wpAnyH_take (i := 29) (oi := ⟨some 98, _, _, _, _, _⟩) (v := .int .i64 (gu : Int)) rfl (by kernel_rfl) (by kernel_rfl) (by kernel_rfl) (fun _ _ _ h => h) (Or.inl ⟨by rfl, fun w hSw => ?_⟩) (by assumption) ?_
  · try dsimp only at hSw
    go_simp
  try simp only [Act.put, List.setIfInBounds_toArray, List.set_cons_zero, List.set_cons_succ]
  refine wpAnyH_take (i := 30) (oi := ⟨some 99, _, _, _, _, _⟩) (v := .bool true) rfl (by kernel_rfl) (by kernel_rfl) (by kernel_rfl) (fun _ _ _ h => h) (Or.inl ⟨by rfl, fun w hSw => ?_⟩) (by assumption) ?_
  · try dsimp only at hSw
    go_simp
  try simp only [Act.put, List.setIfInBounds_toArray, List.set_cons_zero, List.set_cons_succ]
  refine wpAnyH_take (i := 31) (oi := ⟨some 100, _, _, _, _, _⟩) (v := .bool true) rfl (by kernel_rfl) (by kernel_rfl) (by kernel_rfl) (fun _ _ _ h => h) (Or.inl ⟨by rfl, fun w hSw => ?_⟩) (by assumption) ?_
  · try dsimp only at hSw
    go_simp
  try simp only [Act.put, List.setIfInBounds_toArray, List.set_cons_zero, List.set_cons_succ]
  refine wpAnyH_take (i := 32) (oi := ⟨some 101, _, _, _, _, _⟩) (v := .bool true) rfl (by kernel_rfl) (by kernel_rfl) (by kernel_rfl) (fun _ _ _ h => h) (Or.inl ⟨by rfl, fun w hSw => ?_⟩) (by assumption) ?_
  · try dsimp only at hSw
    go_simp
  try simp only [Act.put, List.setIfInBounds_toArray, List.set_cons_zero, List.set_cons_succ]
  refine wpAnyH_take (i := 33) (oi := ⟨some 102, _, _, _, _, _⟩) (v := .slice A n c) rfl (by kernel_rfl) (by kernel_rfl) (by kernel_rfl) (fun _ _ _ h => h) (Or.inl ⟨by rfl, fun w hSw => ?_⟩) (by assumption) ?_
  · try dsimp only at hSw
    go_simp
  try simp only [Act.put, List.setIfInBounds_toArray, List.set_cons_zero, List.set_cons_succ]
  refine wpAnyH_take (i := 34) (oi := ⟨some 103, _, _, _, _, _⟩) (v := .int .i64 z) rfl (by kernel_rfl) (by kernel_rfl) (by kernel_rfl) (fun _ _ _ h => h) (Or.inl ⟨by rfl, fun w hSw => ?_⟩) (by assumption) ?_
  · try dsimp only at hSw
    go_simp
  try simp only [Act.put, List.setIfInBounds_toArray, List.set_cons_zero, List.set_cons_succ]
  refine wpAnyH_take (i := 37) (oi := ⟨some 106, _, _, _, _, _⟩) (v := .slice A n c) rfl (by kernel_rfl) (by kernel_rfl) (by kernel_rfl) (fun _ _ _ h => h) (Or.inl ⟨by rfl, fun w hSw => ?_⟩) (by assumption) ?_
  · try dsimp only at hSw
    go_simp
  try simp only [Act.put, List.setIfInBounds_toArray, List.set_cons_zero, List.set_cons_succ]
  refine wpAnyH_take (i := 38) (oi := ⟨some 107, _, _, _, _, _⟩) (v := .int .i64 z) rfl (by kernel_rfl) (by kernel_rfl) (by kernel_rfl) (fun _ _ _ h => h) (Or.inl ⟨by rfl, fun w hSw => ?_⟩) (by assumption) ?_
  · try dsimp only at hSw
    go_simp
  try simp only [Act.put, List.setIfInBounds_toArray, List.set_cons_zero, List.set_cons_succ]
  refine wpAnyH_ready (rs := [35]) (by kernel_rfl) (by simp) ?_
  refine AllReadyH.cons rfl (fun K hK => ?_) AllReadyH.nil
  rw [if_pos (by rfl)]
  go_simp
  go_at_call 41
  refine (unhide hN1).mono ?_
  rintro e x1 ⟨v5, rfl, o5, b5⟩
  obtain ⟨B5, c5, q25, q15, q5, hv5, HB5, hN2⟩ := unhide HX1 v5 x1 o5 b5
  subst hv5
  clear hN1 HX1 o5 b5 hHeld
  refine hK.out _ _ ⟨q25, q15⟩ (fun hHeld => ?_)
  clear hK K
  try simp only [Act.put, List.setIfInBounds_toArray, List.set_cons_zero, List.set_cons_succ]
  refine wpAnyH_ready (rs := [36, 39]) (by kernel_rfl) (by simp) ?_
  refine AllReadyH.cons rfl (fun K hK => ?_) (AllReadyH.cons rfl (fun K hK => ?_) AllReadyH.nil)
  · skip
    go_simp
    refine hK.out _ _ ⟨q25, q15⟩ (fun hHeld3 => ?_)
    clear hK K
    try simp only [Act.put, List.setIfInBounds_toArray, List.set_cons_zero, List.set_cons_succ]
    refine wpAnyH_ready (rs := [39]) (by kernel_rfl) (by simp) ?_
    refine AllReadyH.cons rfl (fun K hK => ?_) AllReadyH.nil
    rw [if_pos (by rfl)]
    go_simp
    go_at_call 42
    refine (unhide hN2).mono ?_
    rintro e x2 ⟨v6, rfl, o6, b6⟩
    obtain ⟨B6, c6, q26, q16, q56, q6, hv6, hB6⟩ := unhide HB5 v6 x2 o6 b6
    subst hv6
    clear o6 b6
    refine hK.out _ _ ⟨q26, q16⟩ (fun hHeld2 => ?_)
    clear hK K
    try simp only [Act.put, List.setIfInBounds_toArray, List.set_cons_zero, List.set_cons_succ]
    refine wpAnyH_ready (rs := [40]) (by kernel_rfl) (by simp) ?_
    refine AllReadyH.cons rfl (fun K hK => ?_) AllReadyH.nil
    go_simp
    refine hK.out _ _ ⟨q26, q16⟩ (fun hHeld3 => ?_)
    clear hK K
    try simp only [Act.put, List.setIfInBounds_toArray, List.set_cons_zero, List.set_cons_succ]
    refine wpAnyH_take (i := 41) (oi := ⟨some 110, _, _, _, _, _⟩) (v := .bool true) rfl (by kernel_rfl) (by kernel_rfl) (by kernel_rfl) (fun _ _ _ h => h) (Or.inl ⟨by rfl, fun w hSw => ?_⟩) (by assumption) ?_
    · try dsimp only at hSw
      go_simp
    try simp only [Act.put, List.setIfInBounds_toArray, List.set_cons_zero, List.set_cons_succ]
    refine wpAnyH_take (i := 42) (oi := ⟨some 111, _, _, _, _, _⟩) (v := .bool true) rfl (by kernel_rfl) (by kernel_rfl) (by kernel_rfl) (fun _ _ _ h => h) (Or.inl ⟨by rfl, fun w hSw => ?_⟩) (by assumption) ?_
    · try dsimp only at hSw
      go_simp
    try simp only [Act.put, List.setIfInBounds_toArray, List.set_cons_zero, List.set_cons_succ]
    refine wpAnyH_take (i := 43) (oi := ⟨some 6, _, _, _, _, _⟩) (v := .bool true) rfl (by kernel_rfl) (by kernel_rfl) (by kernel_rfl) (fun _ _ _ h => h) (Or.inl ⟨by rfl, fun w hSw => ?_⟩) (by assumption) ?_
    · try dsimp only at hSw
      go_simp
    try simp only [Act.put, List.setIfInBounds_toArray, List.set_cons_zero, List.set_cons_succ]
    refine wpAnyH_done (by kernel_rfl) ?_ _
    go_wp2_with fail
    go_ret
    exact ⟨rfl, hB6⟩
  · skip
    rw [if_pos (by rfl)]
    go_simp
    go_at_call 42
    refine (unhide hN2).mono ?_
    rintro e x2 ⟨v6, rfl, o6, b6⟩
    obtain ⟨B6, c6, q26, q16, q56, q6, hv6, hB6⟩ := unhide HB5 v6 x2 o6 b6
    subst hv6
    clear o6 b6
    refine hK.out _ _ ⟨q26, q16⟩ (fun hHeld2 => ?_)
    clear hK K
    try simp only [Act.put, List.setIfInBounds_toArray, List.set_cons_zero, List.set_cons_succ]
    refine wpAnyH_ready (rs := [36, 40]) (by kernel_rfl) (by simp) ?_
    refine AllReadyH.cons rfl (fun K hK => ?_) (AllReadyH.cons rfl (fun K hK => ?_) AllReadyH.nil)
    · skip
      go_simp
      refine hK.out _ _ ⟨q26, q16⟩ (fun hHeld3 => ?_)
      clear hK K
      try simp only [Act.put, List.setIfInBounds_toArray, List.set_cons_zero, List.set_cons_succ]
      refine wpAnyH_ready (rs := [40]) (by kernel_rfl) (by simp) ?_
      refine AllReadyH.cons rfl (fun K hK => ?_) AllReadyH.nil
      go_simp
      refine hK.out _ _ ⟨q26, q16⟩ (fun hHeld3 => ?_)
      clear hK K
      try simp only [Act.put, List.setIfInBounds_toArray, List.set_cons_zero, List.set_cons_succ]
      refine wpAnyH_take (i := 41) (oi := ⟨some 110, _, _, _, _, _⟩) (v := .bool true) rfl (by kernel_rfl) (by kernel_rfl) (by kernel_rfl) (fun _ _ _ h => h) (Or.inl ⟨by rfl, fun w hSw => ?_⟩) (by assumption) ?_
      · try dsimp only at hSw
        go_simp
      try simp only [Act.put, List.setIfInBounds_toArray, List.set_cons_zero, List.set_cons_succ]
      refine wpAnyH_take (i := 42) (oi := ⟨some 111, _, _, _, _, _⟩) (v := .bool true) rfl (by kernel_rfl) (by kernel_rfl) (by kernel_rfl) (fun _ _ _ h => h) (Or.inl ⟨by rfl, fun w hSw => ?_⟩) (by assumption) ?_
      · try dsimp only at hSw
        go_simp
      try simp only [Act.put, List.setIfInBounds_toArray, List.set_cons_zero, List.set_cons_succ]
      refine wpAnyH_take (i := 43) (oi := ⟨some 6, _, _, _, _, _⟩) (v := .bool true) rfl (by kernel_rfl) (by kernel_rfl) (by kernel_rfl) (fun _ _ _ h => h) (Or.inl ⟨by rfl, fun w hSw => ?_⟩) (by assumption) ?_
      · try dsimp only at hSw
        go_simp
      try simp only [Act.put, List.setIfInBounds_toArray, List.set_cons_zero, List.set_cons_succ]
      refine wpAnyH_done (by kernel_rfl) ?_ _
      go_wp2_with fail
      go_ret
      exact ⟨rfl, hB6⟩
    · skip
      go_simp
      refine hK.out _ _ ⟨q26, q16⟩ (fun hHeld3 => ?_)
      clear hK K
      try simp only [Act.put, List.setIfInBounds_toArray, List.set_cons_zero, List.set_cons_succ]
      refine wpAnyH_ready (rs := [36]) (by kernel_rfl) (by simp) ?_
      refine AllReadyH.cons rfl (fun K hK => ?_) AllReadyH.nil
      go_simp
      refine hK.out _ _ ⟨q26, q16⟩ (fun hHeld3 => ?_)
      clear hK K
      try simp only [Act.put, List.setIfInBounds_toArray, List.set_cons_zero, List.set_cons_succ]
      refine wpAnyH_take (i := 41) (oi := ⟨some 110, _, _, _, _, _⟩) (v := .bool true) rfl (by kernel_rfl) (by kernel_rfl) (by kernel_rfl) (fun _ _ _ h => h) (Or.inl ⟨by rfl, fun w hSw => ?_⟩) (by assumption) ?_
      · try dsimp only at hSw
        go_simp
      try simp only [Act.put, List.setIfInBounds_toArray, List.set_cons_zero, List.set_cons_succ]
      refine wpAnyH_take (i := 42) (oi := ⟨some 111, _, _, _, _, _⟩) (v := .bool true) rfl (by kernel_rfl) (by kernel_rfl) (by kernel_rfl) (fun _ _ _ h => h) (Or.inl ⟨by rfl, fun w hSw => ?_⟩) (by assumption) ?_
      · try dsimp only at hSw
        go_simp
      try simp only [Act.put, List.setIfInBounds_toArray, List.set_cons_zero, List.set_cons_succ]
      refine wpAnyH_take (i := 43) (oi := ⟨some 6, _, _, _, _, _⟩) (v := .bool true) rfl (by kernel_rfl) (by kernel_rfl) (by kernel_rfl) (fun _ _ _ h => h) (Or.inl ⟨by rfl, fun w hSw => ?_⟩) (by assumption) ?_
      · try dsimp only at hSw
        go_simp
      try simp only [Act.put, List.setIfInBounds_toArray, List.set_cons_zero, List.set_cons_succ]
      refine wpAnyH_done (by kernel_rfl) ?_ _
      go_wp2_with fail
      go_ret
      exact ⟨rfl, hB6⟩
end Go.Proofs.YtijgiieoinmjhaaDoor
