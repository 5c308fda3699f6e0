/- CodeBack: the walk. Conditions: arguments read as data; the bytes are bytes, not too many; the handle that errors need. -/
import Derived.Test.YtijgiieoinmjhaaDoorCDec
import Derived.Test.YtijgiieoinmjhaaDoorNumZ
import Derived.Test.YtijgiieoinmjhaaDoorSameGr
import Derived.Test.YtijgiieoinmjhaaDoorTold2
import Derived.Laws.BytesArg
import Derived.Laws.BytesString
namespace Go.Proofs.YtijgiieoinmjhaaDoor
set_option linter.unusedVariables false
set_option linter.unusedSimpArgs false
open Go.RowKit

theorem enc_back {o : Gv} {b : List Int} (hb : Bys b) (h : (decE b).2 = 0) (h1 : o.f = (rdF b).1) (h2 : o.way = (rdW b).1) (h3 : o.ws = (rdT b).1.map (·.1)) (h4 : o.trees = (rdT b).1.map (·.2)) : o.encE = 0 ∧ o.encB = b := by
  obtain ⟨e1, e2, e3⟩ := enc_dec hb h
  have hn : o.nums = groveNums (rdF b).1 (rdW b).1 (rdT b).1 := by
    unfold Gv.nums Gv.pairs
    rw [h1, h2, h3, h4, zip_back]
  have he : o.e = 0 := by
    unfold Gv.e
    rw [h1, h2, h3, h4]
    exact e1
  have hE : o.encE = 0 := by
    unfold Gv.encE
    rw [if_pos he, hn, e2, if_neg (by omega)]
  refine ⟨hE, ?_⟩
  unfold Gv.encB
  rw [if_pos hE, hn, e2]
theorem encB_ok {g : Gv} (h : g.encE = 0) : g.encB = encs g.nums := by unfold Gv.encB; rw [if_pos h]

set_option maxRecDepth 100000 in
set_option maxHeartbeats 16000000 in
theorem codeBack_walk (g : Gv) (A : Option Addr) (n c : Nat) (l : List Int) (cz z : Int) (w : World) (he : ErrT w) (hg : GReads w w.heap.size g) (hr : BReads w w.heap.size A n l) (hn : n ≤ 140737488351232) (hnc : n ≤ c) (hnil : A = none → c = 0) (hby : Bys l) (hz : In64 z) :
    Calls Tryd.prog 8 #[g.val, .slice A n c, .int .i64 cz, .int .i64 z] w fun e w' => e = .returned (.bool true) ∧ Below w.heap.size w w' := by
  have hnm : n ≤ maxLen := by unfold maxLen; omega
  have hll := hr.len
  have HE : Hid (∀ W, Below w.heap.size w W → ErrT W) := hide (fun W hB => he.below hB he.lt)
  have HG : Hid (∀ W, Below w.heap.size w W → GReads W W.heap.size g) := hide (fun W hB => (hg.below hB).more hB.size)
  have HR : Hid (∀ W, Below w.heap.size w W → BReads W w.heap.size A n l) := hide (fun W hB => Reads.below hr hB)
  obtain ⟨W, hW⟩ : ∃ W, W = w.alloc (.cells #[.int .i64 g.f, .int .i64 g.way, .slice g.Aw g.nw g.cw, .slice g.At g.nt g.ct] 73) := ⟨_, rfl⟩
  have hbx : Blk W w.heap.size 73 #[.int .i64 g.f, .int .i64 g.way, .slice g.Aw g.nw g.cw, .slice g.At g.nt g.ct] := by rw [hW]; exact Blk.new _ _ _
  have hb0 : Below w.heap.size w W := by rw [hW]; exact (Below.refl _ _).alloc (Nat.le_refl _) _
  have hsW : W.heap.size = w.heap.size + 1 := by rw [hW]; simp
  obtain ⟨g4, hg4⟩ : ∃ m, m = w.heap.size := ⟨_, rfl⟩
  rw [← hg4] at hbx
  have hgl : g4 < W.heap.size := by omega
  have HBX : Hid (∀ X, Below W.heap.size W X → Blk X g4 73 #[.int .i64 g.f, .int .i64 g.way, .slice g.Aw g.nw g.cw, .slice g.At g.nt g.ct]) := hide (fun X hb => hbx.below hb hgl)
  have HBW : Hid (∀ X, Below W.heap.size W X → Below w.heap.size w X) := hide (fun X hb => hb0.trans (hb.mono hb0.size))
  have t1 := hide (num_any none 0 0 0 [] (-3) W Reads.none_ (Nat.zero_le _) (by omega) (fun _ => rfl) (by omega) (by omega))
  unfold AddPost at t1
  have e5 : ([] ++ enc (-3) : List Int) = [5] := by decide
  rw [e5] at t1
  unfold Gv.val
  clear he hg hr hb0 hsW
  go_enter Tryd.func8, Tryd.ntmps8
  go_upto_region 1 with (fail)
  rw [← hW, ← hg4]
  clear hW hg4 e5 hbx
  go_wp2_with fail
  refine (unhide t1).mono ?_
  rintro e w1 ⟨v1, rfl, o1, b1⟩
  obtain ⟨B1, c1, rfl, r1, _, _, _, _⟩ := own_slice2 o1
  have r1 : BReads w1 w1.heap.size B1 1 [5] := r1
  obtain ⟨b5, o5, x5, rfl, _, hx5, c5⟩ := r1.get (show 0 < 1 by omega)
  simp at hx5
  subst hx5
  rw [Nat.add_zero] at c5
  have hB1 := unhide HBW w1 b1
  have t2 := hide (num_anyZ A n c w.heap.size l z w1 (unhide HR w1 hB1) hB1.size hn hnil hz.1 hz.2)
  unfold AddPost at t2
  clear t1 o1 r1
  go_wp2_with fail
  refine (unhide t2).mono ?_
  rintro e w2 ⟨v2, rfl, o2, b2⟩
  obtain ⟨b2a, c2, hv2⟩ : ∃ b2a c2, v2 = .slice (some ⟨b2a, 0, none⟩) (l ++ enc z).length c2 := by
    rcases o2.2 with ⟨_, h⟩ | ⟨gb, cap, cur, hv, _⟩
    · have := (enc_len z).1
      rw [List.length_append] at h
      omega
    · exact ⟨gb, cap, hv⟩
  subst hv2
  obtain ⟨B2, c2', hv2, r2, hm2, hc2, _, _⟩ := own_slice2 o2
  injection hv2 with e1 e2 e3
  subst e1 e3
  clear e2
  have r2 : BReads w2 w2.heap.size (some ⟨b2a, 0, none⟩) (l ++ enc z).length (l ++ enc z) := r2
  have b2W := b1.trans (b2.mono b1.size)
  have hB2 := unhide HBW w2 b2W
  obtain ⟨N, hN⟩ : ∃ N, N = (l ++ enc z).length := ⟨_, rfl⟩
  obtain ⟨K, hK⟩ : ∃ K, K = (enc z).length := ⟨_, rfl⟩
  have hNK : N = n + K := by rw [hN, hK, List.length_append, hll]
  have hK10 : K ≤ 10 := by rw [hK]; exact (enc_len z).2
  rw [← hN] at r2 hm2 hc2 ⊢
  have hK1 : 1 ≤ K := by rw [hK]; exact (enc_len z).1
  have hcn : ¬ c2 = n := by omega
  have hsub : BReads w2 w2.heap.size (some ⟨b2a, n, none⟩) (N - n) (enc z) := by
    have := Reads.cut (k := n) (cap := c2) r2 (by omega) hc2
    rw [if_neg hcn] at this
    rw [Nat.mul_one, ← List.map_drop] at this
    have e : (l ++ enc z).drop n = enc z := by rw [← hll]; simp
    rw [e] at this
    have e2 : (if c2 = n then some (⟨b2a, 0, none⟩ : Addr) else some ⟨b2a, n, none⟩) = some ⟨b2a, n, none⟩ := if_neg hcn
    have e3 : Option.map (fun x : Addr => x.add n) (some ⟨b2a, 0, none⟩) = some ⟨b2a, n, none⟩ := by
      simp only [Option.map_some, Addr.add]
      by_cases h : n = 0 <;> simp [h]
    rw [e3] at this
    exact this
  have t3 := hide (get_any (some ⟨b2a, n, none⟩) (N - n) (c2 - n) w2.heap.size (enc z) w2 hsub (by omega) (enc_bytes z))
  have eg : getV (enc z) = (z, K, 0) := by have := getV_enc hz []; rw [List.append_nil] at this; rw [this, hK]
  rw [eg] at t3
  dsimp only at t3
  rw [errV_0 rfl] at t3
  have hHead : BReads w2 w2.heap.size (some ⟨b2a, 0, none⟩) n l := by
    have h2 := Reads.short r2 (k := n) (by omega)
    rw [Nat.mul_one, ← List.map_take] at h2
    have e : (l ++ enc z).take n = l := by rw [← hll]; simp
    rw [e] at h2
    exact h2
  have HNK := hide hNK
  have hNn : n ≤ N := by omega
  have hNc : N ≤ c2 := hc2
  have hi1 : (N : Int) - (n : Int) = (K : Int) := by omega
  clear t2 o2 b1 b2 r2 hsub eg c5 hN hm2 hc2
  have HI := hide hi1
  have HHead := hide hHead
  clear hK hNK hi1 hHead
  go_upto_region 5 with (fail)
  have HK10 := hide hK10
  have HLL := hide hll
  clear hll hK10
  go_wp2_with fail
  refine (unhide t3).mono ?_
  rintro e x ⟨rfl, rfl⟩
  have hd : Below w2.heap.size w2 w2.drew := (Below.refl _ _).drew
  have q1 := conv_bytes (c := c2) (show BReads w2.drew w2.heap.size (some ⟨b2a, 0, none⟩) n l from Reads.below (unhide HHead) hd)
  have q2 := conv_bytes (c := c) (show BReads w2.drew w.heap.size A n l from unhide HR w2.drew hB2.drew)
  have hi1 := unhide HI
  have ez : (z != z) = false := by simp
  have hB2d : Below w.heap.size w w2.drew := hB2.drew
  have b2Wd : Below W.heap.size W w2.drew := b2W.drew
  have hi2 : (0 : Int) ≤ (n : Int) := by omega
  have hi3 : (n : Int) ≤ (N : Int) := by omega
  have hi4 : (N : Int) ≤ (c2 : Int) := by omega
  have hi5 : (n : Int) ≤ (c2 : Int) := by omega
  have hi6 : n ≤ c2 := by omega
  have hiw : IntKind.i64.wrap ((N : Int) - (n : Int)) = (K : Int) := by rw [IntWalk.i64_in _ (by have := unhide HK10; omega)]; exact hi1
  have ek : ((K : Int) != (K : Int)) = false := by simp
  clear t3 hd HHead HI hcn HNK hi1
  go_upto_region 6 with (fail)
  go_region_held3 (fun w' => (convert 22 9 (.slice (some ⟨b2a, 0, none⟩) n c2)).run Tryd.prog w' = .ok (.string (strOfNums l)) w' ∧ (convert 22 9 (.slice A n c)).run Tryd.prog w' = .ok (.string (strOfNums l)) w')
    (exact ⟨q1, q2⟩)
    (fail)
  obtain ⟨w3, hw3⟩ : ∃ X, X = w2.drew := ⟨_, rfl⟩
  rw [← hw3] at hB2d b2Wd ⊢
  have t4 := hide (cencode_any g w3 (unhide HG w3 hB2d))
  unfold Gv.val at t4
  obtain ⟨k0, k1, k2, k3, _⟩ := (unhide HBX w3 b2Wd).cells4e
  clear q1 q2 hw3 hB1 hB2 b2W hi2 hi3 hi4 hi5 hi6 hiw ek ez hNn hNc hK1
  go_wp2_with fail
  refine (unhide t4).mono ?_
  rintro e w4 ⟨v4, rfl, o4, b4⟩
  --BACK
  have b4W := b2Wd.trans (b4.mono b2Wd.size)
  have hB4 := unhide HBW w4 b4W
  clear t4 k0 k1 k2 k3
  by_cases h0 : g.encE = 0
  · rw [errV_0 h0]
    obtain ⟨hG, hG6⟩ := Gv.enc0 h0
    obtain ⟨D1, D2, D3, D4⟩ := dec_enc h0
    have HCUT := hide (fun k hk => dec_cut (c := k) h0 hk)
    have hEB := encB_ok h0
    rw [hEB] at o4
    obtain ⟨E, hEd⟩ : ∃ E, E = encs g.nums := ⟨_, rfl⟩
    rw [← hEd] at o4 D1 D2 D3 D4 HCUT hG6
    have hEby : Bys E := by rw [hEd]; exact encs_bytes _
    obtain ⟨M, hM⟩ : ∃ M, M = E.length := ⟨_, rfl⟩
    rw [← hM] at o4 HCUT hG6
    obtain ⟨A4, c4, rfl, r4, hm4, hc4, hn4, _⟩ := own_slice2 o4
    have r4 : BReads w4 w4.heap.size A4 M E := r4
    have t5 := hide (cdecode_any A4 M c4 w4.heap.size E w4 r4 (Nat.le_refl _) hm4 hc4 hEby)
    unfold DecPost at t5
    rw [D1] at t5
    dsimp only at t5
    rw [errV_0 rfl] at t5
    have HPS : Hid (∀ o : Gv, o.f = (rdF E).1 → o.way = (rdW E).1 → o.ws = (rdT E).1.map (·.1) → o.trees = (rdT E).1.map (·.2) → g.f = o.f ∧ g.way = o.way ∧ g.ws = o.ws ∧ g.trees = o.trees) := hide (fun o h1 h2 h3 h4 => by
      rw [h1, h2, h3, h4, D2, D3, D4, Gv.pairs_fst hG, Gv.pairs_snd hG]
      exact ⟨rfl, rfl, rfl, rfl⟩)
    have HEL : Hid (E.length = M) := hide hM.symm
    have HR4 := hide r4
    clear h0 hG D1 D2 D3 D4 hEB hEd hM o4 b4 r4
    go_wp2_with fail
    refine (unhide t5).mono ?_
    rintro e w5 ⟨og, rfl, hog, b5', m1, _⟩
    simp only [Gv.val]
    obtain ⟨a1, a2, a3, a4⟩ := m1 trivial
    have hsame := unhide HPS og a1 a2 a3 a4
    have b5W := b4W.trans (b5'.mono b4W.size)
    have hB5 := unhide HBW w5 b5W
    obtain ⟨X, hX⟩ : ∃ W, W = w5.alloc (.cells #[.int .i64 og.f, .int .i64 og.way, .slice og.Aw og.nw og.cw, .slice og.At og.nt og.ct] 73) := ⟨_, rfl⟩
    obtain ⟨ob, hob⟩ : ∃ m, m = w5.heap.size := ⟨_, rfl⟩
    have hox : Blk X ob 73 #[.int .i64 og.f, .int .i64 og.way, .slice og.Aw og.nw og.cw, .slice og.At og.nt og.ct] := by rw [hX, hob]; exact Blk.new _ _ _
    have bX : Below w5.heap.size w5 X := by rw [hX]; exact (Below.refl _ _).alloc (Nat.le_refl _) _
    have bXW := b5W.trans (bX.mono b5W.size)
    have hBX := unhide HBW X bXW
    have b45 := b5'.trans (bX.mono b5'.size)
    have t6 := hide (sameGrove_any og g X ((hog.below bX).more bX.size) (unhide HG X hBX) hsame.1 hsame.2.1 hsame.2.2.1 hsame.2.2.2)
    unfold Gv.val at t6
    obtain ⟨p0, p1, p2, p3, _⟩ := hox.cells4e
    obtain ⟨k0, k1, k2, k3, _⟩ := (unhide HBX X bXW).cells4e
    clear t5 hog b5' m1 a1 a2 a3 a4 hsame bX hB5 b5W hox HPS
    go_upto_region 11 with (fail)
    rw [← hX, ← hob]
    clear hX hob
    go_wp2_with fail
    refine (unhide t6).mono ?_
    rintro e w6 ⟨rfl, b6⟩
    have b6W := bXW.trans (b6.mono bXW.size)
    have hB6 := unhide HBW w6 b6W
    have b46 := b45.trans (b6.mono b45.size)
    clear t6 p0 p1 p2 p3 k0 k1 k2 k3 b6 bXW b45 hBX
    by_cases hc0 : 0 ≤ cz
    · by_cases hc1 : cz < M
      · obtain ⟨C, rfl⟩ : ∃ C : Nat, cz = C := ⟨cz.toNat, by omega⟩
        have hCM : C < M := by omega
        obtain ⟨E8, EA⟩ := unhide HCUT C hCM
        have hr6 : BReads w6 w4.heap.size A4 M E := Reads.below (unhide HR4) b46
        have hr7 : BReads w6 w4.heap.size A4 C (E.take C) := by
          have h2 := Reads.short hr6 (k := C) (by omega)
          rw [Nat.mul_one, ← List.map_take] at h2
          exact h2
        have t7 := hide (cdecode_any A4 C c4 w4.heap.size (E.take C) w6 hr7 b46.size (by omega) (by omega) (fun x hx => hEby x (List.mem_of_mem_take hx)))
        unfold DecPost at t7
        obtain ⟨at_, hat⟩ : ∃ a, a = (decE (E.take C)).1 := ⟨_, rfl⟩
        rw [← hat] at EA
        rw [← hat, E8, errV_1 (by decide)] at t7
        have hi1 : (0 : Int) ≤ (C : Int) := by omega
        have hi2 : (C : Int) ≤ (c4 : Int) := by omega
        have hi3 : C ≤ c4 := by omega
        have d1 : decide ((C : Int) < (at_ : Int)) = false := decide_eq_false (by omega)
        have HE8 : Hid (∀ W, Below w.heap.size w W → Calls Tryd.prog 12 #[.iface 89 (.int .i64 8), .int .i64 8] W fun e w' => e = .returned (.bool (8 == (8 : Int))) ∧ Below W.heap.size W w') := hide (fun W hB => by
          have := error_any 8 8 W (unhide HE W hB)
          rw [errV_1 (by decide)] at this
          exact this)
        have HDX := hide EA
        clear hr6 hr7 E8 EA hat HCUT HR4 d1 hc1
        go_wp2_with fail
        refine (unhide t7).mono ?_
        rintro e w7 ⟨rg, rfl, y1, b7, y2, y3⟩
        clear y1 y2 y3
        simp only [Gv.val]
        have b7W := b6W.trans (b7.mono b6W.size)
        obtain ⟨X, hX⟩ : ∃ W, W = w7.alloc (.cells #[.int .i64 rg.f, .int .i64 rg.way, .slice rg.Aw rg.nw rg.cw, .slice rg.At rg.nt rg.ct] 73) := ⟨_, rfl⟩
        have bX : Below w7.heap.size w7 X := by rw [hX]; exact (Below.refl _ _).alloc (Nat.le_refl _) _
        have bXW := b7W.trans (bX.mono b7W.size)
        have t8 := hide (unhide HE8 X (unhide HBW X bXW))
        clear t7 b7 bX b7W HE8
        go_wp2_with fail
        rw [← hX]
        clear hX
        refine (unhide t8).mono ?_
        rintro e w8 ⟨rfl, b8⟩
        have b8W := bXW.trans (b8.mono bXW.size)
        have d1 := unhide HDX
        clear t8 b8 bXW HDX
        go_upto_region 19 with (fail)
        clear d1
        have hBt := unhide HBW w8 b8W
        have td := hide (cdecode_any A n c w.heap.size l w8 (unhide HR w8 hBt) hBt.size hnm hnc hby)
        unfold DecPost at td
        go_wp2_with fail
        refine (unhide td).mono ?_
        rintro e y1 ⟨pg, rfl, hpg, bq, m1, m2⟩
        simp only [Gv.val]
        have hB5 := hBt.trans (bq.mono hBt.size)
        by_cases hde : (decE l).2 = 0
        · rw [errV_0 hde]
          obtain ⟨a1, a2, a3, a4⟩ := m1 hde
          obtain ⟨u1, u2⟩ := enc_back hby hde a1 a2 a3 a4
          obtain ⟨Y, hY⟩ : ∃ W, W = y1.alloc (.cells #[.int .i64 pg.f, .int .i64 pg.way, .slice pg.Aw pg.nw pg.cw, .slice pg.At pg.nt pg.ct] 73) := ⟨_, rfl⟩
          obtain ⟨pb, hpb⟩ : ∃ m, m = y1.heap.size := ⟨_, rfl⟩
          have hpx : Blk Y pb 73 #[.int .i64 pg.f, .int .i64 pg.way, .slice pg.Aw pg.nw pg.cw, .slice pg.At pg.nt pg.ct] := by rw [hY, hpb]; exact Blk.new _ _ _
          have bY : Below y1.heap.size y1 Y := by rw [hY]; exact (Below.refl _ _).alloc (Nat.le_refl _) _
          have hBY := hB5.trans (bY.mono hB5.size)
          have te := hide (cencode_any pg Y ((hpg.below bY).more bY.size))
          rw [u1, u2, errV_0 rfl] at te
          unfold Gv.val at te
          obtain ⟨p0, p1, p2, p3, _⟩ := hpx.cells4e
          clear td m1 m2 a1 a2 a3 a4 u1 u2 hpx hpg bq hde
          go_upto_region 22 with (fail)
          rw [← hY, ← hpb]
          clear hY hpb
          go_wp2_with fail
          refine (unhide te).mono ?_
          rintro e y2 ⟨v7, rfl, o7, b7⟩
          obtain ⟨A7, c7, rfl, r7, _, _, _, _⟩ := own_slice2 o7
          have hB7 := hBY.trans (b7.mono hBY.size)
          have q7 := conv_bytes (c := c7) (show BReads y2 y2.heap.size A7 l.length l from r7)
          have q8 := conv_bytes (c := c) (unhide HR y2 hB7)
          clear te p0 p1 p2 p3 o7 b7 r7 bY
          go_wp2_with fail
          go_ret
          exact ⟨rfl, hB7⟩
        · rw [errV_1 hde]
          clear td m1 m2 hpg bq hde
          go_wp2_with fail
          go_ret
          exact ⟨rfl, hB5.alloc hB5.size _⟩
      · have d1 : decide (cz < (M : Int)) = false := decide_eq_false hc1
        go_upto_region 19 with (fail)
        clear d1
        have hBt := unhide HBW w6 b6W
        have td := hide (cdecode_any A n c w.heap.size l w6 (unhide HR w6 hBt) hBt.size hnm hnc hby)
        unfold DecPost at td
        go_wp2_with fail
        refine (unhide td).mono ?_
        rintro e y1 ⟨pg, rfl, hpg, bq, m1, m2⟩
        simp only [Gv.val]
        have hB5 := hBt.trans (bq.mono hBt.size)
        by_cases hde : (decE l).2 = 0
        · rw [errV_0 hde]
          obtain ⟨a1, a2, a3, a4⟩ := m1 hde
          obtain ⟨u1, u2⟩ := enc_back hby hde a1 a2 a3 a4
          obtain ⟨Y, hY⟩ : ∃ W, W = y1.alloc (.cells #[.int .i64 pg.f, .int .i64 pg.way, .slice pg.Aw pg.nw pg.cw, .slice pg.At pg.nt pg.ct] 73) := ⟨_, rfl⟩
          obtain ⟨pb, hpb⟩ : ∃ m, m = y1.heap.size := ⟨_, rfl⟩
          have hpx : Blk Y pb 73 #[.int .i64 pg.f, .int .i64 pg.way, .slice pg.Aw pg.nw pg.cw, .slice pg.At pg.nt pg.ct] := by rw [hY, hpb]; exact Blk.new _ _ _
          have bY : Below y1.heap.size y1 Y := by rw [hY]; exact (Below.refl _ _).alloc (Nat.le_refl _) _
          have hBY := hB5.trans (bY.mono hB5.size)
          have te := hide (cencode_any pg Y ((hpg.below bY).more bY.size))
          rw [u1, u2, errV_0 rfl] at te
          unfold Gv.val at te
          obtain ⟨p0, p1, p2, p3, _⟩ := hpx.cells4e
          clear td m1 m2 a1 a2 a3 a4 u1 u2 hpx hpg bq hde
          go_upto_region 22 with (fail)
          rw [← hY, ← hpb]
          clear hY hpb
          go_wp2_with fail
          refine (unhide te).mono ?_
          rintro e y2 ⟨v7, rfl, o7, b7⟩
          obtain ⟨A7, c7, rfl, r7, _, _, _, _⟩ := own_slice2 o7
          have hB7 := hBY.trans (b7.mono hBY.size)
          have q7 := conv_bytes (c := c7) (show BReads y2 y2.heap.size A7 l.length l from r7)
          have q8 := conv_bytes (c := c) (unhide HR y2 hB7)
          clear te p0 p1 p2 p3 o7 b7 r7 bY
          go_wp2_with fail
          go_ret
          exact ⟨rfl, hB7⟩
        · rw [errV_1 hde]
          clear td m1 m2 hpg bq hde
          go_wp2_with fail
          go_ret
          exact ⟨rfl, hB5.alloc hB5.size _⟩
    · have d1 : decide (0 ≤ cz) = false := decide_eq_false hc0
      go_upto_region 19 with (fail)
      clear d1
      have hBt := unhide HBW w6 b6W
      have td := hide (cdecode_any A n c w.heap.size l w6 (unhide HR w6 hBt) hBt.size hnm hnc hby)
      unfold DecPost at td
      go_wp2_with fail
      refine (unhide td).mono ?_
      rintro e y1 ⟨pg, rfl, hpg, bq, m1, m2⟩
      simp only [Gv.val]
      have hB5 := hBt.trans (bq.mono hBt.size)
      by_cases hde : (decE l).2 = 0
      · rw [errV_0 hde]
        obtain ⟨a1, a2, a3, a4⟩ := m1 hde
        obtain ⟨u1, u2⟩ := enc_back hby hde a1 a2 a3 a4
        obtain ⟨Y, hY⟩ : ∃ W, W = y1.alloc (.cells #[.int .i64 pg.f, .int .i64 pg.way, .slice pg.Aw pg.nw pg.cw, .slice pg.At pg.nt pg.ct] 73) := ⟨_, rfl⟩
        obtain ⟨pb, hpb⟩ : ∃ m, m = y1.heap.size := ⟨_, rfl⟩
        have hpx : Blk Y pb 73 #[.int .i64 pg.f, .int .i64 pg.way, .slice pg.Aw pg.nw pg.cw, .slice pg.At pg.nt pg.ct] := by rw [hY, hpb]; exact Blk.new _ _ _
        have bY : Below y1.heap.size y1 Y := by rw [hY]; exact (Below.refl _ _).alloc (Nat.le_refl _) _
        have hBY := hB5.trans (bY.mono hB5.size)
        have te := hide (cencode_any pg Y ((hpg.below bY).more bY.size))
        rw [u1, u2, errV_0 rfl] at te
        unfold Gv.val at te
        obtain ⟨p0, p1, p2, p3, _⟩ := hpx.cells4e
        clear td m1 m2 a1 a2 a3 a4 u1 u2 hpx hpg bq hde
        go_upto_region 22 with (fail)
        rw [← hY, ← hpb]
        clear hY hpb
        go_wp2_with fail
        refine (unhide te).mono ?_
        rintro e y2 ⟨v7, rfl, o7, b7⟩
        obtain ⟨A7, c7, rfl, r7, _, _, _, _⟩ := own_slice2 o7
        have hB7 := hBY.trans (b7.mono hBY.size)
        have q7 := conv_bytes (c := c7) (show BReads y2 y2.heap.size A7 l.length l from r7)
        have q8 := conv_bytes (c := c) (unhide HR y2 hB7)
        clear te p0 p1 p2 p3 o7 b7 r7 bY
        go_wp2_with fail
        go_ret
        exact ⟨rfl, hB7⟩
      · rw [errV_1 hde]
        clear td m1 m2 hpg bq hde
        go_wp2_with fail
        go_ret
        exact ⟨rfl, hB5.alloc hB5.size _⟩
  · rw [errV_1 h0]
    clear h0 o4 b4
    go_upto_region 19 with (fail)
    have hBt := unhide HBW w4 b4W
    have td := hide (cdecode_any A n c w.heap.size l w4 (unhide HR w4 hBt) hBt.size hnm hnc hby)
    unfold DecPost at td
    go_wp2_with fail
    refine (unhide td).mono ?_
    rintro e y1 ⟨pg, rfl, hpg, bq, m1, m2⟩
    simp only [Gv.val]
    have hB5 := hBt.trans (bq.mono hBt.size)
    by_cases hde : (decE l).2 = 0
    · rw [errV_0 hde]
      obtain ⟨a1, a2, a3, a4⟩ := m1 hde
      obtain ⟨u1, u2⟩ := enc_back hby hde a1 a2 a3 a4
      obtain ⟨Y, hY⟩ : ∃ W, W = y1.alloc (.cells #[.int .i64 pg.f, .int .i64 pg.way, .slice pg.Aw pg.nw pg.cw, .slice pg.At pg.nt pg.ct] 73) := ⟨_, rfl⟩
      obtain ⟨pb, hpb⟩ : ∃ m, m = y1.heap.size := ⟨_, rfl⟩
      have hpx : Blk Y pb 73 #[.int .i64 pg.f, .int .i64 pg.way, .slice pg.Aw pg.nw pg.cw, .slice pg.At pg.nt pg.ct] := by rw [hY, hpb]; exact Blk.new _ _ _
      have bY : Below y1.heap.size y1 Y := by rw [hY]; exact (Below.refl _ _).alloc (Nat.le_refl _) _
      have hBY := hB5.trans (bY.mono hB5.size)
      have te := hide (cencode_any pg Y ((hpg.below bY).more bY.size))
      rw [u1, u2, errV_0 rfl] at te
      unfold Gv.val at te
      obtain ⟨p0, p1, p2, p3, _⟩ := hpx.cells4e
      clear td m1 m2 a1 a2 a3 a4 u1 u2 hpx hpg bq hde
      go_upto_region 22 with (fail)
      rw [← hY, ← hpb]
      clear hY hpb
      go_wp2_with fail
      refine (unhide te).mono ?_
      rintro e y2 ⟨v7, rfl, o7, b7⟩
      obtain ⟨A7, c7, rfl, r7, _, _, _, _⟩ := own_slice2 o7
      have hB7 := hBY.trans (b7.mono hBY.size)
      have q7 := conv_bytes (c := c7) (show BReads y2 y2.heap.size A7 l.length l from r7)
      have q8 := conv_bytes (c := c) (unhide HR y2 hB7)
      clear te p0 p1 p2 p3 o7 b7 r7 bY
      go_wp2_with fail
      go_ret
      exact ⟨rfl, hB7⟩
    · rw [errV_1 hde]
      clear td m1 m2 hpg bq hde
      go_wp2_with fail
      go_ret
      exact ⟨rfl, hB5.alloc hB5.size _⟩
end Go.Proofs.YtijgiieoinmjhaaDoor
