/- Chapter 16 in the references: Record, Time. Conditions: the call reads as a call; its texts are not too long. -/
import Derived.Test.YtijgiieoinmjhaaDoorRNum
import Derived.Test.YtijgiieoinmjhaaDoorCallW
namespace Go.Proofs.YtijgiieoinmjhaaDoor
set_option linter.unusedVariables false
set_option linter.unusedSimpArgs false
open Go.RowKit

theorem own_cell_far {w : World} {base g : Nat} {e t : TypeId} {size n : Nat} {v : Value} {xs : List Value} {cs : Array Value} (h : w.ownsRow base e size v n xs) (hg : Blk w g t cs) (hne : e ≠ t) : some g ≠ v.ownBlock := fun e => own_blk_ne h hg hne e.symm
theorem recB_list (c : Cl) : recB c = [] ++ enc ((bodyB c).length : Int) ++ bodyB c := rfl
theorem body_list (c : Cl) : bodyB c = ([] ++ enc c.what ++ enc c.ses ++ enc c.seq ++ enc c.num ++ enc c.share ++ enc (c.name.size : Int)) ++ nmL c.name ++ c.bytes := by
  simp [bodyB, encs, Cl.nums]

set_option maxRecDepth 100000 in
set_option maxHeartbeats 4000000 in
theorem rrec_any (r : Cv) (w : World) (hr : CvOk w w.heap.size r) (h64 : Nums64 r.c) (h1 : r.c.name.size ≤ 2000000) (h2 : r.n ≤ 2000000) :
    Calls Tryd.prog 52 #[r.val] w (AddPost w.heap.size (recB r.c).length (recB r.c) w) := by
  have hbl := hr.blen
  obtain ⟨c, A, n, cap⟩ := r
  have hrd := hr.reads
  dsimp only at h64 h1 h2 hbl hrd
  have HBL := hide hbl
  have hq : ∀ x ∈ c.nums, In64 x := h64
  obtain ⟨q0, q0'⟩ := hq c.what (by simp [Cl.nums])
  obtain ⟨q1, q1'⟩ := hq c.ses (by simp [Cl.nums])
  obtain ⟨q2, q2'⟩ := hq c.seq (by simp [Cl.nums])
  obtain ⟨q3, q3'⟩ := hq c.num (by simp [Cl.nums])
  obtain ⟨q4, q4'⟩ := hq c.share (by simp [Cl.nums])
  obtain ⟨W, hW⟩ : ∃ W, W = w.alloc (.cells #[.int .i64 c.what, .int .i64 c.ses, .int .i64 c.seq, .string c.name, .int .i64 c.num, .int .i64 c.share, .slice A n cap] 53) := ⟨_, rfl⟩
  have hb1 : Blk W w.heap.size 53 #[.int .i64 c.what, .int .i64 c.ses, .int .i64 c.seq, .string c.name, .int .i64 c.num, .int .i64 c.share, .slice A n cap] := by rw [hW]; exact Blk.new _ _ _
  have hbW : Below w.heap.size w W := by rw [hW]; exact (Below.refl _ _).alloc (Nat.le_refl _) _
  have hgw := hb1.lt
  simp only [Cv.val]
  clear hr hbl h64 hq
  have p0 := hb1
  have t0 := hbW
  have k0 := hb1.cell 0
  simp at k0
  obtain ⟨B0, hB0⟩ : ∃ l : List Int, l = [] := ⟨_, rfl⟩
  have r0 : BReads W 0 none 0 B0 := by rw [hB0]; exact Reads.none_
  have H0 := hide hB0
  clear hB0 hb1 hbW
  have s1 := hide (rnum_any none 0 0 0 B0 c.what W r0 (by omega) q0 q0')
  go_enter Tryd.func52, Tryd.ntmps52
  go_wp2_with fail
  rw [← hW]
  clear hW
  refine (unhide s1).mono ?_
  rintro e w1 ⟨v1, rfl, o1, b1⟩
  obtain ⟨B1, hB1⟩ : ∃ l, l = B0 ++ enc c.what := ⟨_, rfl⟩
  rw [← hB1] at o1
  obtain ⟨A1, c1, hv1, r1, _, _⟩ := own_slice o1
  subst hv1
  have t1 := t0.trans (b1.mono t0.size)
  have p1 := p0.below b1 p0.lt
  have k1 := p1.cell 1
  simp at k1
  obtain ⟨m1, hm1⟩ : ∃ m, m = B1.length := ⟨_, rfl⟩
  have L1 : m1 ≤ 10 := by rw [hm1, hB1, List.length_append]; have := (enc_len c.what).2; have := BReads.len r0; omega
  have H1 := hide hB1
  rw [← hm1] at o1 r1 ⊢
  have M1 := hide hm1
  clear s1 r0 p0 b1 t0 k0 hB1 hm1
  have s2 := hide (rnum_any A1 m1 c1 w1.heap.size B1 c.ses w1 r1 (by omega) q1 q1')
  go_wp2_with fail
  refine (unhide s2).mono ?_
  rintro e w2 ⟨v2, rfl, o2, b2⟩
  obtain ⟨B2, hB2⟩ : ∃ l, l = B1 ++ enc c.ses := ⟨_, rfl⟩
  rw [← hB2] at o2
  obtain ⟨A2, c2, hv2, r2, _, _⟩ := own_slice o2
  subst hv2
  have t2 := t1.trans (b2.mono t1.size)
  have p2 := p1.below b2 p1.lt
  have k2 := p2.cell 2
  simp at k2
  obtain ⟨m2, hm2⟩ : ∃ m, m = B2.length := ⟨_, rfl⟩
  have L2 : m2 ≤ 20 := by rw [hm2, hB2, List.length_append]; have := (enc_len c.ses).2; have := BReads.len r1; omega
  have H2 := hide hB2
  rw [← hm2] at o2 r2 ⊢
  have M2 := hide hm2
  clear s2 r1 p1 b2 t1 k1 hB2 hm2 o1
  have s3 := hide (rnum_any A2 m2 c2 w2.heap.size B2 c.seq w2 r2 (by omega) q2 q2')
  go_wp2_with fail
  refine (unhide s3).mono ?_
  rintro e w3 ⟨v3, rfl, o3, b3⟩
  obtain ⟨B3, hB3⟩ : ∃ l, l = B2 ++ enc c.seq := ⟨_, rfl⟩
  rw [← hB3] at o3
  obtain ⟨A3, c3, hv3, r3, _, _⟩ := own_slice o3
  subst hv3
  have t3 := t2.trans (b3.mono t2.size)
  have p3 := p2.below b3 p2.lt
  have k3 := p3.cell 4
  simp at k3
  obtain ⟨m3, hm3⟩ : ∃ m, m = B3.length := ⟨_, rfl⟩
  have L3 : m3 ≤ 30 := by rw [hm3, hB3, List.length_append]; have := (enc_len c.seq).2; have := BReads.len r2; omega
  have H3 := hide hB3
  rw [← hm3] at o3 r3 ⊢
  have M3 := hide hm3
  clear s3 r2 p2 b3 t2 k2 hB3 hm3 o2
  have s4 := hide (rnum_any A3 m3 c3 w3.heap.size B3 c.num w3 r3 (by omega) q3 q3')
  go_wp2_with fail
  refine (unhide s4).mono ?_
  rintro e w4 ⟨v4, rfl, o4, b4⟩
  obtain ⟨B4, hB4⟩ : ∃ l, l = B3 ++ enc c.num := ⟨_, rfl⟩
  rw [← hB4] at o4
  obtain ⟨A4, c4, hv4, r4, _, _⟩ := own_slice o4
  subst hv4
  have t4 := t3.trans (b4.mono t3.size)
  have p4 := p3.below b4 p3.lt
  have k4 := p4.cell 5
  simp at k4
  obtain ⟨m4, hm4⟩ : ∃ m, m = B4.length := ⟨_, rfl⟩
  have L4 : m4 ≤ 40 := by rw [hm4, hB4, List.length_append]; have := (enc_len c.num).2; have := BReads.len r3; omega
  have H4 := hide hB4
  rw [← hm4] at o4 r4 ⊢
  have M4 := hide hm4
  clear s4 r3 p3 b4 t3 k3 hB4 hm4 o3
  have s5 := hide (rnum_any A4 m4 c4 w4.heap.size B4 c.share w4 r4 (by omega) q4 q4')
  go_wp2_with fail
  refine (unhide s5).mono ?_
  rintro e w5 ⟨v5, rfl, o5, b5⟩
  obtain ⟨B5, hB5⟩ : ∃ l, l = B4 ++ enc c.share := ⟨_, rfl⟩
  rw [← hB5] at o5
  obtain ⟨A5, c5, hv5, r5, _, _⟩ := own_slice o5
  subst hv5
  have t5 := t4.trans (b5.mono t4.size)
  have p5 := p4.below b5 p4.lt
  have k5 := p5.cell 3
  simp at k5
  obtain ⟨m5, hm5⟩ : ∃ m, m = B5.length := ⟨_, rfl⟩
  have L5 : m5 ≤ 50 := by rw [hm5, hB5, List.length_append]; have := (enc_len c.share).2; have := BReads.len r4; omega
  have H5 := hide hB5
  rw [← hm5] at o5 r5 ⊢
  have M5 := hide hm5
  clear s5 r4 p4 b5 t4 k4 hB5 hm5 o4
  have s6 := hide (rnum_any A5 m5 c5 w5.heap.size B5 (c.name.size : Int) w5 r5 (by omega) (by omega) (by omega))
  go_wp2_with fail
  refine (unhide s6).mono ?_
  rintro e w6 ⟨v6, rfl, o6, b6⟩
  obtain ⟨B6, hB6⟩ : ∃ l, l = B5 ++ enc (c.name.size : Int) := ⟨_, rfl⟩
  rw [← hB6] at o6
  obtain ⟨A6, c6, hv6, r6, _, _⟩ := own_slice o6
  subst hv6
  have zz5 := t5.size
  have t6 := t5.trans (b6.mono t5.size)
  have p6 := p5.below b6 p5.lt
  obtain ⟨m6, hm6⟩ : ∃ m, m = B6.length := ⟨_, rfl⟩
  have L6 : m6 ≤ 60 := by rw [hm6, hB6, List.length_append]; have := (enc_len (c.name.size : Int)).2; have := BReads.len r5; omega
  have H6 := hide hB6
  rw [← hm6] at o6 r6 ⊢
  have M6 := hide hm6
  clear s6 r5 p5 b6 t5 k5 hB6 hm6 o5
  have k3 := p6.cell 3
  have k6 := p6.cell 6
  simp at k3 k6
  obtain ⟨i0, hi0, hz0, hs0, hby0⟩ := info_parts elem_byte.info
  have z6 := t6.size
  have HB5 : B6.length = m6 := BReads.len r6
  have HBD : Hid (bodyB c = B6 ++ nmL c.name ++ c.bytes) := hide (by rw [body_list, unhide H6, unhide H5, unhide H4, unhide H3, unhide H2, unhide H1, unhide H0])
  have o7 := own_base o6 zz5
  clear H0 H1 H2 H3 H4 H5 H6 M1 M2 M3 M4 M5 M6 r6 o6 L1 L2 L3 L4 L5
  have hn9 : (m6 + c.name.size) + n < 1000000000 := by omega
  have hrd6 := Reads.below hrd t6
  have HLL : Hid ((B6 ++ nmL c.name ++ c.bytes).length = m6 + c.name.size + n) := hide (by rw [List.length_append, List.length_append, nmL_len, HB5, unhide HBL])
  clear HB5
  go_upto_region 9 with (first
    | (at_builtin; refine Lib.wpList_append_own_string _ rfl (.tmp 29) (.tmp 31) 22 9 rfl w.heap.size 5 i0 Tryd.underlying22 Tryd.underlying9 hi0 hz0 hs0 hby0 _ m6 _ rfl o7 c.name rfl (by unfold maxLen; omega) (by omega) z6 ?_; intro v8 w8 o8 g8 _; have b8 := (Below.refl w.heap.size w6).grown g8 z6 (own_block_ge o7); have t8 := t6.trans b8; have z8 := t8.size; have hrd8 := Reads.below hrd6 b8; have k68 := (g8.cell_far ⟨w.heap.size, 6, none⟩ p6.lt (own_cell_far o7 p6 (by decide))).trans k6)
    | (at_builtin; refine app_many elem_byte (.tmp 33) (.tmp 35) rfl rfl rfl o8 rfl hrd8 (ints_oneCell .u8 c.bytes) hn9 z8 ?_; intro v9 w9 o9 b9 _))
  obtain ⟨A9, c9, hv9, r9, _, _⟩ := own_slice o9
  subst hv9
  have t9 := t8.trans b9
  obtain ⟨m9, hm9⟩ : ∃ m, m = m6 + c.name.size + n := ⟨_, rfl⟩
  have hr9 : BReads w9 w9.heap.size A9 m9 (bodyB c) := by
    rw [unhide HBD, hm9]
    unfold BReads
    rw [List.map_append, List.map_append, ← nmL_cells]
    exact r9
  have hm95 : m9 ≤ 5000000 := by omega
  rw [← hm9] at HLL hn9 ⊢
  have hlen9 : Hid ((bodyB c).length = m9) := hide (by rw [unhide HBD]; exact unhide HLL)
  have s9 := hide (rnum_any none 0 0 0 [] (m9 : Int) w9 Reads.none_ (by omega) (by omega) (by omega))
  clear hm9 r9 o9 o8 g8 b9 b8 k68 hrd8 hrd6 o7 k3 k6 p6 HLL
  go_wp2_with fail
  refine (unhide s9).mono ?_
  rintro e w10 ⟨v10, rfl, o10, b10⟩
  have t10 := t9.trans (b10.mono t9.size)
  have hr10 := Reads.below hr9 b10
  have o11 := own_base o10 t9.size
  have hee := (enc_len (m9 : Int)).2
  have hn10 : ([] ++ enc (m9 : Int)).length + m9 < 1000000000 := by rw [List.nil_append]; omega
  clear s9 o10 hr9 b10 hee
  go_wp2_with (at_builtin; refine app_many elem_byte (.tmp 40) (.tmp 41) rfl rfl rfl o11 rfl hr10 (ints_oneCell .u8 (bodyB c)) hn10 t10.size ?_; intro v12 w12 o12 b12 _)
  go_ret
  refine ⟨v12, rfl, ?_, t10.trans b12⟩
  rw [recB_list, unhide hlen9, List.length_append, List.map_append, unhide hlen9]
  exact o12
end Go.Proofs.YtijgiieoinmjhaaDoor
