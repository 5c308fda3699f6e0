/- Part 26 of what LawWeighNeeds needs: WGain2, WGains, Wout. Conditions: as each lemma names. -/
import Derived.Test.YtopncifebldklaaPkWeighNeeds25
import Derived.Test.YtopncifebldklaaPkWeighNeeds13
/- Package weigh: gain. Conditions: samples and nodes that stay as they are whatever becomes of the table. -/
namespace Go.Proofs.Ytopncifebldklaa
set_option linter.unusedVariables false
set_option linter.unusedSimpArgs false
open Go.RowKit

set_option maxRecDepth 100000 in
set_option maxHeartbeats 8000000 in
theorem gain_any (g : Nat) (A : Option Addr) (m d n : Nat) (t : List Nd) (hR : Right t n) : ∀ (k i : Nat) (ss : List Sm) (T : List Us) (b : Int) (A' : Option Addr) (m' c' : Nat) (w : World), t.length ≤ i + k → i < t.length → NSt w g A m t → MSt w g A' m' ss → WS ss n → T.length = 8 → GainOk T b → b + 12000000000 * ((kof t k i).size : Int) ≤ 100000000000000 → Blk w g 53 (tabC T) →
    Calls Try.prog 19 #[.pointer (some ⟨g, 0, none⟩), .slice A m d, .int .i64 i, .slice A' m' c'] w fun e w' => e = .returned (.tuple #[]) ∧ Blk w' g 53 (tabC (gainT (kof t k i) ss T)) ∧ w.grownBy w' (some g) := by
  intro k
  induction k with
  | zero => intro i ss T b A' m' c' w h1 h2; omega
  | succ k ih =>
    intro i ss T b A' m' c' w h1 h2 hN hM hW hT hG hb bT
    have hgl := bT.lt
    have hmt : m = t.length := hN.now.len.symm
    have hm63 : m ≤ 63 := by have := hR.most; omega
    obtain ⟨tb, to_, x, rfl, htb, hx, q0, q1, q2, q3, q4, q5⟩ := hN.now.get (k := i) (by omega)
    have hi63 : i ≤ 63 := by omega
    have hilt : i < m := by omega
    by_cases hxf : x.f = -1
    · have HK : Hid (gainT (kof t (k + 1) i) ss T = T) := hide (by rw [kof_leaf hx hxf]; rfl)
      obtain ⟨xf, xc, xl, xr, xs, xv⟩ := x
      dsimp only at hxf q0 q1 q2 q3 q4 q5
      subst hxf
      have bA := bT.alloc (.cells #[.int .i64 (-1), .int .i64 xc, .int .i64 xl, .int .i64 xr, .bool xs, .int .i64 xv] 29)
      have hgA := only_alloc (World.grownBy.refl w (some g)) (.cells #[.int .i64 (-1), .int .i64 xc, .int .i64 xl, .int .i64 xr, .bool xs, .int .i64 xv] 29)
      clear hx hN hM hW hT hG hb bT ih h1 h2 hmt hR
      go_enter Try.func19, Try.ntmps19
      go_wp2_with fail
      refine bodyPost_ret (results_none rfl _ _ _) rfl ?_
      exact ⟨rfl, by rw [unhide HK]; exact bA, hgA⟩
    · obtain ⟨ha0, ha1⟩ := hR.asks i x hx hxf
      obtain ⟨f, hf⟩ : ∃ f : Nat, x.f = f := ⟨x.f.toNat, by omega⟩
      have hfn : f < n := by omega
      have hn8 : n ≤ 8 := by have := hR.fe8; omega
      have hnd : ∃ a b : Nat, x.l = a ∧ x.r = b ∧ i < a ∧ a < t.length ∧ i < b ∧ b < t.length := by
        obtain ⟨p1, p2, p3, p4⟩ := hR.behind i x hx hxf
        exact ⟨x.l.toNat, x.r.toNat, by omega, by omega, by omega, by omega, by omega, by omega⟩
      obtain ⟨ia, ib, hl, hr, hia, hia2, hib, hib2⟩ := hnd
      have hkof := kof_node (k := k) hx hxf
      rw [hl, hr, Int.toNat_natCast, Int.toNat_natCast] at hkof
      rw [hkof] at hb ⊢
      simp only [Kt.size] at hb
      have hbB : b ≤ 100000000000000 := by omega
      have hgv := gainV_in hW.1 f x.c
      have hGA := hG.add f hgv.1
      obtain ⟨u, hu⟩ : ∃ u, T[f]? = some u := ⟨_, List.getElem?_eq_getElem (by omega)⟩
      have hub := hG u (List.mem_of_getElem? hu)
      have hAG : addG T f (gainV f x.c ss) = T.set f ⟨u.f, u.n, u.g + gainV f x.c ss⟩ := by unfold addG; rw [hu]
      have HK : Hid (gainT (.node x (kof t k ia) (kof t k ib)) ss T = gainT (kof t k ib) (highS f x.c ss) (gainT (kof t k ia) (lowS f x.c ss) (addG T f (gainV f x.c ss)))) := hide (by simp only [gainT]; rw [hf, Int.toNat_natCast])
      have HI1 := hide (fun (V : World) (Aa : Option Addr) (ca : Nat) (hn : NSt V g (some ⟨tb, to_, none⟩) m t) (hm : MSt V g Aa (lowS f x.c ss).length (lowS f x.c ss)) (hb' : Blk V g 53 (tabC (addG T f (gainV f x.c ss)))) =>
        ih ia (lowS f x.c ss) (addG T f (gainV f x.c ss)) (b + 12000000000) Aa _ ca V (by omega) hia2 hn hm (hW.low _ _) (by rw [addG_len]; exact hT) (hGA.more (by omega)) (by omega) hb')
      have hG2 := gainT_ok (kof t k ia) (lowS f x.c ss) _ _ (hW.1.low f x.c) hGA
      have HI2 := hide (fun (V : World) (Aa : Option Addr) (ca : Nat) (hn : NSt V g (some ⟨tb, to_, none⟩) m t) (hm : MSt V g Aa (highS f x.c ss).length (highS f x.c ss)) (hb' : Blk V g 53 (tabC (gainT (kof t k ia) (lowS f x.c ss) (addG T f (gainV f x.c ss))))) =>
        ih ib (highS f x.c ss) _ (b + 12000000000 + 12000000000 * ((kof t k ia).size : Int)) Aa _ ca V (by omega) hib2 hn hm (hW.high _ _) (by rw [gainT_len, addG_len]; exact hT) (hG2.more (by omega)) (by omega) hb')
      have hsl := hW.1.spread
      have hsa := (hW.low f x.c).1.spread
      have hsb := (hW.high f x.c).1.spread
      have hWa := (hW.low f x.c).1
      have hWb := (hW.high f x.c).1
      have hGV : gainV f x.c ss = spreadV ss - spreadV (lowS f x.c ss) - spreadV (highS f x.c ss) := rfl
      have hlen' := hM.now.len
      have hm60 : m' ≤ 60 := by have := hW.1.1; omega
      have HWS := hide hW
      have HTU : Hid (∀ V, Blk V g 53 (tabC T) → V.cell? ⟨g, f * 3 + 2, none⟩ = some (.int .i64 u.g) ∧ V.frozen? ⟨g, f * 3 + 2, none⟩ = false ∧ ∀ z, z = u.g + gainV f x.c ss → Blk (V.setCell ⟨g, f * 3 + 2, none⟩ (.int .i64 z)) g 53 (tabC (addG T f (gainV f x.c ss)))) := hide (fun V hV => by
        refine ⟨by rw [hV.cell, tab_at hu (by omega)]; rfl, hV.frozen _, fun z hz => ?_⟩
        have := hV.set_ (f * 3 + 2) (.int .i64 z)
        rw [flat_set hu (v := ⟨u.f, u.n, z⟩) (by omega) rfl] at this
        rw [hAG, ← hz]
        exact this)
      have HL := hide hlen'
      have HT0 : Hid (ss.take m' = ss) := hide (List.take_of_length_le (by omega))
      obtain ⟨S0, hS0⟩ : ∃ S, S = spreadV ss := ⟨_, rfl⟩
      obtain ⟨Sa, hSa⟩ : ∃ S, S = spreadV (lowS f x.c ss) := ⟨_, rfl⟩
      obtain ⟨Sb, hSb⟩ : ∃ S, S = spreadV (highS f x.c ss) := ⟨_, rfl⟩
      rw [← hS0, ← hSa, ← hSb] at hGV
      rw [← hS0] at hsl
      rw [← hSa] at hsa
      rw [← hSb] at hsb
      have HS0 := hide hS0
      have HSa := hide hSa
      have HSb := hide hSb
      obtain ⟨ug, hug⟩ : ∃ v, v = u.g := ⟨_, rfl⟩
      rw [← hug] at HTU hub
      obtain ⟨GV, hGVe⟩ : ∃ v, v = gainV f x.c ss := ⟨_, rfl⟩
      rw [← hGVe] at hGV HTU HK HI1 HI2 hgv
      obtain ⟨xf, xc, xl, xr, xs, xv⟩ := x
      dsimp only at hxf hf q0 q1 q2 q3 q4 q5 HK HI1 HI2 hl hr hWa hWb HSa HSb
      subst hf hl hr
      have hb1 : Below w.heap.size w (w.alloc (.cells #[.int .i64 f, .int .i64 xc, .int .i64 ia, .int .i64 ib, .bool xs, .int .i64 xv] 29)) := (Below.refl _ _).alloc (Nat.le_refl _) _
      have bN := Blk.new w 29 #[.int .i64 f, .int .i64 xc, .int .i64 ia, .int .i64 ib, .bool xs, .int .i64 xv]
      have hz1 : (w.alloc (.cells #[.int .i64 f, .int .i64 xc, .int .i64 ia, .int .i64 ib, .bool xs, .int .i64 xv] 29)).heap.size = w.heap.size + 1 := World.size_alloc _ _
      obtain ⟨w1, hw1⟩ : ∃ x, x = w.alloc (.cells #[.int .i64 f, .int .i64 xc, .int .i64 ia, .int .i64 ib, .bool xs, .int .i64 xv] 29) := ⟨_, rfl⟩
      rw [← hw1] at hb1 bN hz1
      have HW1 := hide hw1
      have hM1 := hM.next (only_of_below hb1 (some g))
      have hN1 := hN.next (only_of_below hb1 (some g))
      have bT1 := bT.below hb1 hgl
      have n0 := bN.cell 0; have n1 := bN.cell 1
      simp at n0 n1
      have hfnn : ¬ ((f : Int) = -1) := by omega
      have e0 : ((f : Int) == -1) = false := by simp
      clear hx hkof hAG hu hug hGVe hS0 hSa hSb hG hGA hG2 hb ih h1 h2 hmt hR hW ha0 ha1 hw1 hxf hlen' hM hN bT hT hia hib hia2 hib2 hi63
      go_enter Try.func19, Try.ntmps19
      go_wp2_with fail
      rw [← unhide HW1]
      go_loopw [9, 10, 22] (fun u v i wr => ∃ k : Nat, k ≤ m' ∧ i = .int .i64 k ∧ Hid (MOwn wr w1.heap.size u (lowS f xc (ss.take k))) ∧ Hid (MOwn wr w1.heap.size v (highS f xc (ss.take k))) ∧ Hid (Apart u v) ∧ Below w1.heap.size w1 wr) (fun _ _ i _ => m' - (intOf i).toNat)
      case atStart => exact ⟨0, Nat.zero_le _, rfl, hide (MOwn.nil_ _ _), hide (MOwn.nil_ _ _), hide (Apart.nil_ _ _ _), Below.refl _ _⟩
      case round =>
        obtain ⟨k', hk', rfl, HO, HP, HA, hbel⟩ := hrel
        have hsz := hbel.size
        by_cases hlt : k' < m'
        ·
          --{
          obtain ⟨bb, o, s, rfl, _, hx, c0, c1, hok⟩ := (hM1.now.below hbel).get hlt
          have HN := hide (lowS_next (f := f) (c := xc) hx)
          have HMM := hide (highS_next (f := f) (c := xc) hx)
          have hfl : f < s.r.length := by rw [(unhide HWS).2 s (List.mem_of_getElem? hx)]; exact hfn
          have hrd := hok.reads
          obtain ⟨sA, sn, sc, sr, st⟩ := s
          dsimp only at c0 c1 HN HMM hfl hrd
          rw [hrd.len] at hfl
          obtain ⟨rb, ro, z, rfl, hrb, hrx, crx⟩ := hrd.get hfl
          have HX : Hid (cellS f ⟨some ⟨rb, ro, none⟩, sn, sc, sr, st⟩ = z) := hide (by unfold cellS; rw [List.getD_eq_getElem?_getD, hrx]; rfl)
          obtain ⟨La, hLa⟩ : ∃ La, La = lowS f xc (ss.take k') := ⟨_, rfl⟩
          obtain ⟨Lb, hLb⟩ : ∃ Lb, Lb = highS f xc (ss.take k') := ⟨_, rfl⟩
          have hal : La.length ≤ k' := by rw [hLa]; exact Nat.le_trans (List.length_filter_le _ _) (List.length_take_le _ _)
          have hbl : Lb.length ≤ k' := by rw [hLb]; exact Nat.le_trans (List.length_filter_le _ _) (List.length_take_le _ _)
          rw [← hLa] at HN HO
          rw [← hLb] at HMM HP
          have hl1 : sn ≤ maxLen := hok.len
          unfold maxLen at hl1
          have hbA := hbel.alloc hsz (.cells #[.slice (some ⟨rb, ro, none⟩) sn sc, .int .i64 st] 46)
          have n0r := (hbA.cell (p := ⟨w.heap.size, 0, none⟩) (by show w.heap.size < _; omega)).trans n0
          have n1r := (hbA.cell (p := ⟨w.heap.size, 1, none⟩) (by show w.heap.size < _; omega)).trans n1
          have hcx : (wr.alloc (.cells #[.slice (some ⟨rb, ro, none⟩) sn sc, .int .i64 st] 46)).cell? ⟨rb, ro + f, none⟩ = some (.int .i64 z) := (World.cell?_alloc_lt wr _ _ (by show rb < _; omega)).trans crx
          have bS := Blk.new wr 46 #[.slice (some ⟨rb, ro, none⟩) sn sc, .int .i64 st]
          have s0 := bS.cell 0
          have s1 := bS.cell 1
          simp at s0 s1
          have hOA : Hid (∀ q, ((wr.alloc (.cells #[.slice (some ⟨rb, ro, none⟩) sn sc, .int .i64 st] 46)).drewN q).ownsRow w1.heap.size 46 2 _ La.length (La.flatMap Sm.cells)) := hide (fun q => own_below (World.ownsRow.alloc (unhide HO) _) (below_drewN (Below.refl _ _) q))
          have hPA : Hid (∀ q, ((wr.alloc (.cells #[.slice (some ⟨rb, ro, none⟩) sn sc, .int .i64 st] 46)).drewN q).ownsRow w1.heap.size 46 2 _ Lb.length (Lb.flatMap Sm.cells)) := hide (fun q => own_below (World.ownsRow.alloc (unhide HP) _) (below_drewN (Below.refl _ _) q))
          have hap := hide (unhide HA)
          have hwz : w1.heap.size ≤ (wr.alloc (.cells #[.slice (some ⟨rb, ro, none⟩) sn sc, .int .i64 st] 46)).heap.size := by rw [World.size_alloc]; omega
          clear hx hok hrd hrx hLa hLb crx HO HP HA
          by_cases hlo : z < xc
          · have HN2 : Hid (lowS f xc (ss.take (k' + 1)) = La ++ [⟨some ⟨rb, ro, none⟩, sn, sc, sr, st⟩]) := hide (by rw [unhide HN, unhide HX, if_pos hlo])
            have HM2 : Hid (highS f xc (ss.take (k' + 1)) = Lb) := hide (by rw [unhide HMM, unhide HX, if_pos hlo, List.append_nil])
            have d1 : decide (z < xc) = true := decide_eq_true hlo
            clear HN HMM HX hlo
            go_wp2_with fail
            go_quiet (fail)
            have hO2 := unhide hOA nq
            have hP2 := unhide hPA nq
            have hbQ := below_drewN hbA nq
            clear hOA hPA hbA
            go_wp2_with (at_builtin; refine app_one2 elem_smp (.tmp 35) (.tmp 37) [.slice (some ⟨rb, ro, none⟩) sn sc, .int .i64 st] rfl rfl rfl hO2 rfl (World.size_alloc _ _) rfl (smp_one _ _ _ _) (by omega) hwz ?_; intro v2 w2 hown2 hb2 hn2 hg2)
            go_wp2_with fail
            go_roundw
            case rel => exact ⟨k' + 1, by omega, by go_num, hide (by rw [unhide HN2]; exact MOwn.app (s := ⟨some ⟨rb, ro, none⟩, sn, sc, sr, st⟩) hown2), hide (by rw [unhide HM2]; exact (own_aside hP2 hO2 (unhide hap).symm hn2 hg2).1), hide (own_aside hP2 hO2 (unhide hap).symm hn2 hg2).2.symm, hbQ.trans hb2⟩
            case measure => simp [intOf] <;> omega
          · have HN2 : Hid (lowS f xc (ss.take (k' + 1)) = La) := hide (by rw [unhide HN, unhide HX, if_neg hlo, List.append_nil])
            have HM2 : Hid (highS f xc (ss.take (k' + 1)) = Lb ++ [⟨some ⟨rb, ro, none⟩, sn, sc, sr, st⟩]) := hide (by rw [unhide HMM, unhide HX, if_neg hlo])
            have d1 : decide (z < xc) = false := decide_eq_false hlo
            clear HN HMM HX hlo
            go_wp2_with fail
            go_quiet (fail)
            have hO2 := unhide hOA nq
            have hP2 := unhide hPA nq
            have hbQ := below_drewN hbA nq
            clear hOA hPA hbA
            go_wp2_with (at_builtin; refine app_one2 elem_smp (.tmp 39) (.tmp 41) [.slice (some ⟨rb, ro, none⟩) sn sc, .int .i64 st] rfl rfl rfl hP2 rfl (World.size_alloc _ _) rfl (smp_one _ _ _ _) (by omega) hwz ?_; intro v2 w2 hown2 hb2 hn2 hg2)
            go_wp2_with fail
            go_roundw
            case rel => exact ⟨k' + 1, by omega, by go_num, hide (by rw [unhide HN2]; exact (own_aside hO2 hP2 (unhide hap) hn2 hg2).1), hide (by rw [unhide HM2]; exact MOwn.app (s := ⟨some ⟨rb, ro, none⟩, sn, sc, sr, st⟩) hown2), hide (own_aside hO2 hP2 (unhide hap) hn2 hg2).2, hbQ.trans hb2⟩
            case measure => simp [intOf] <;> omega
          --}
        · obtain rfl : k' = m' := by omega
          rw [unhide HT0] at HO HP
          obtain ⟨A1, d1, rfl, hr1, _⟩ := (unhide HO).slice
          obtain ⟨A2, d2, rfl, hr2, _⟩ := (unhide HP).slice
          have hMa := MSt.made (by omega) hM1 hbel (unhide HO) (fun s hs => (lowS_mem hs).1)
          have hMb := MSt.made (by omega) hM1 hbel (unhide HP) (fun s hs => (highS_mem hs).1)
          have hg1 : w1.grownBy wr (some g) := only_of_below hbel _
          have hNr := hN1.next hg1
          have hMr := hM1.next hg1
          have bTr := bT1.below hbel bT1.lt
          have bNr := bN.below hbel (by omega)
          obtain ⟨tc, tf, HTB⟩ := unhide HTU wr bTr
          have HTB := hide HTB
          have n0r := bNr.cell 0
          simp at n0r
          obtain ⟨la, hla⟩ : ∃ x, x = (lowS f xc ss).length := ⟨_, rfl⟩
          obtain ⟨lb, hlb⟩ : ∃ x, x = (highS f xc ss).length := ⟨_, rfl⟩
          rw [← hla] at hMa HI1 ⊢
          rw [← hlb] at hMb HI2 ⊢
          have C0 := hide (fun (V : World) (hB : Below wr.heap.size wr V) => spread_any A' k' c' ss V (MSt.now (hMr.next (only_of_below hB _))) (unhide HWS).1)
          have Ca := hide (fun (V : World) (hB : Below wr.heap.size wr V) => spread_any A1 la d1 (lowS f xc ss) V (MSt.now (hMa.next (only_of_below hB _))) hWa)
          have Cb := hide (fun (V : World) (hB : Below wr.heap.size wr V) => spread_any A2 lb d2 (highS f xc ss) V (MSt.now (hMb.next (only_of_below hB _))) hWb)
          rw [← unhide HS0] at C0
          rw [← unhide HSa] at Ca
          rw [← unhide HSb] at Cb
          have hgr0 : w.grownBy wr (some g) := grown_two (only_of_below hb1 _) hg1
          have y1 : IntKind.i64.wrap (S0 - Sa) = S0 - Sa := IntWalk.i64_in _ (by omega)
          have y2 : IntKind.i64.wrap (S0 - Sa - Sb) = GV := by rw [hGV]; exact IntWalk.i64_in _ (by omega)
          have y3 : IntKind.i64.wrap (ug + GV) = ug + GV := IntWalk.i64_in _ (by omega)
          have hgwr : g < wr.heap.size := by omega
          have hwwr : w.heap.size < wr.heap.size := by omega
          have f8 : f < 8 := by omega
          have f8' : (f : Int) < 8 := by omega
          have HMA := hide hMa
          have HMB := hide hMb
          have HNR := hide hNr
          have HBT := hide bTr
          have HBN := hide bNr
          have HGR0 := hide hgr0
          clear hla hlb HO HP HA hr1 hr2 hMr hM1 hN1 bTr bNr bT1 bN hb1 hbel hg1 hgr0 hMa hMb hNr hGV
          go_wp2_with fail
          go_region_law (first
            | (go_simp
               go_at_call 36
               (with_reducible refine (unhide C0 _ ((Below.refl _ _).drew)).mono ?_)
               rintro e x1 ⟨rfl, hx1⟩
               have hb1' : Below wr.heap.size wr x1 := (Below.refl _ _).drew.trans hx1
               have m10 : x1.cell? ⟨w.heap.size, 0, none⟩ = some (.int .i64 f) := (hb1'.cell (p := ⟨w.heap.size, 0, none⟩) hwwr).trans n0r
               have m12 : x1.cell? ⟨g, f * 3 + 2, none⟩ = some (.int .i64 ug) := (hb1'.cell (p := ⟨g, f * 3 + 2, none⟩) hgwr).trans tc
               have m1f : x1.frozen? ⟨g, f * 3 + 2, none⟩ = false := (hb1'.frozen (p := ⟨g, f * 3 + 2, none⟩) hgwr).trans tf)
            | (go_simp
               go_at_call 36
               (with_reducible refine (unhide Ca x1 hb1').mono ?_)
               rintro e x2 ⟨rfl, hx2⟩
               have hb2' : Below wr.heap.size wr x2 := hb1'.trans (hx2.mono hb1'.size)
               have m20 : x2.cell? ⟨w.heap.size, 0, none⟩ = some (.int .i64 f) := (hb2'.cell (p := ⟨w.heap.size, 0, none⟩) hwwr).trans n0r
               have m22 : x2.cell? ⟨g, f * 3 + 2, none⟩ = some (.int .i64 ug) := (hb2'.cell (p := ⟨g, f * 3 + 2, none⟩) hgwr).trans tc
               have m2f : x2.frozen? ⟨g, f * 3 + 2, none⟩ = false := (hb2'.frozen (p := ⟨g, f * 3 + 2, none⟩) hgwr).trans tf)
            | (go_simp
               go_at_call 36
               (with_reducible refine (unhide Cb x2 hb2').mono ?_)
               rintro e x3 ⟨rfl, hx3⟩
               have hb3' : Below wr.heap.size wr x3 := hb2'.trans (hx3.mono hb2'.size)
               have m30 : x3.cell? ⟨w.heap.size, 0, none⟩ = some (.int .i64 f) := (hb3'.cell (p := ⟨w.heap.size, 0, none⟩) hwwr).trans n0r
               have m32 : x3.cell? ⟨g, f * 3 + 2, none⟩ = some (.int .i64 ug) := (hb3'.cell (p := ⟨g, f * 3 + 2, none⟩) hgwr).trans tc
               have m3f : x3.frozen? ⟨g, f * 3 + 2, none⟩ = false := (hb3'.frozen (p := ⟨g, f * 3 + 2, none⟩) hgwr).trans tf))
          all_goals
            have bT3 := (unhide HTU x3 ((unhide HBT).below hb3' hgwr)).2.2 (ug + GV) rfl
            have bN3 := ((unhide HBN).below hb3' hwwr).far (p := ⟨g, f * 3 + 2, none⟩) (by show w.heap.size ≠ g; omega) (.int .i64 (ug + GV))
            have hgX : wr.grownBy (x3.setCell ⟨g, f * 3 + 2, none⟩ (.int .i64 (ug + GV))) (some g) := only_setCell (only_of_below hb3' _) (p := ⟨g, f * 3 + 2, none⟩) (.inl rfl) _
            have k2 := bN3.cell 2
            simp at k2
            clear C0 Ca Cb HTU HBT HBN HTB m10 m12 m1f m20 m22 m2f m30 m32 m3f hx1 hx2 hx3 hb1' hb2' hb3' tc tf n0r y1 y2 y3
            obtain ⟨X, hX⟩ : ∃ X, X = x3.setCell ⟨g, f * 3 + 2, none⟩ (.int .i64 (ug + GV)) := ⟨_, rfl⟩
            rw [← hX] at bT3 bN3 hgX k2 ⊢
            clear hX
            go_wp2_with fail
            refine (unhide HI1 X A1 d1 ((unhide HNR).next hgX) ((unhide HMA).next hgX) bT3).mono ?_
            rintro e w5 ⟨rfl, b5, hg5⟩
            have bN5 := bN3.grown hg5 (fun e => by injection e with e; omega)
            have k3 := bN5.cell 3
            simp at k3
            clear HI1 k2 bN3 bT3
            go_wp2_with fail
            refine (unhide HI2 w5 A2 d2 (((unhide HNR).next hgX).next hg5) (((unhide HMB).next hgX).next hg5) b5).mono ?_
            rintro e w6 ⟨rfl, b6, hg6⟩
            clear HI2 k3 bN5 b5
            go_wp2_with fail
            go_end0
            exact ⟨rfl, by rw [unhide HK]; exact b6, grown_two (unhide HGR0) (grown_two hgX (grown_two hg5 hg6))⟩
end Go.Proofs.Ytopncifebldklaa
/- Package weigh: Gains. Conditions: a tree and samples that read as data. -/
namespace Go.Proofs.Ytopncifebldklaa
set_option linter.unusedVariables false
set_option linter.unusedSimpArgs false
open Go.RowKit

def gainsV (t : List Nd) (ss : List Sm) : List Us := if readyS t ss = 0 then gainsL t ss else []
def GainsPost (t : List Nd) (ss : List Sm) (w : World) (e : Ending) (w' : World) : Prop := ∃ A c, e = .returned (.tuple #[.slice A (gainsV t ss).length c, errV (readyS t ss)]) ∧ UReads w' w'.heap.size A (gainsV t ss).length (gainsV t ss) ∧ Below w.heap.size w w'
theorem gainsV_ok {t : List Nd} {ss : List Sm} {u : Us} (h : u ∈ gainsV t ss) : 0 ≤ u.g ∧ 1 ≤ u.n := by
  unfold gainsV at h
  by_cases h0 : readyS t ss = 0
  · rw [if_pos h0] at h
    obtain ⟨n, hRS, _, _⟩ := readyS_0 h0
    exact gainsL_ok ⟨hRS.samp.most, hRS.samp.tlo, hRS.samp.thi⟩ h
  · rw [if_neg h0] at h; cases h
theorem gainsV_len (t : List Nd) (ss : List Sm) : (gainsV t ss).length ≤ 8 := by
  unfold gainsV
  split
  · exact gainsL_len t ss
  · exact Nat.zero_le _
theorem MReads.st {w : World} {g n : Nat} {A : Option Addr} {ss : List Sm} (h : MReads w w.heap.size A n ss) (hg : w.heap.size ≤ g) {w1 : World} (h1 : Below w.heap.size w w1) : MSt w1 g A n ss := fun w2 h2 => by
  have hb : Below w.heap.size w w2 := by
    refine ⟨h2.os.trans h1.os, h2.tape.trans h1.tape, h2.output.trans h1.output, Nat.le_trans h1.size h2.size, fun i hi => ?_⟩
    rw [h2.block i (by have := h1.size; omega) (fun e => by injection e with e; omega), h1.block i hi]
  exact (h.below hb).more hb.size
theorem NReads.st {w : World} {g n : Nat} {A : Option Addr} {t : List Nd} (h : NReads w w.heap.size A n t) (hg : w.heap.size ≤ g) {w1 : World} (h1 : Below w.heap.size w w1) : NSt w1 g A n t := fun w2 h2 => by
  have hb : Below w.heap.size w w2 := by
    refine ⟨h2.os.trans h1.os, h2.tape.trans h1.tape, h2.output.trans h1.output, Nat.le_trans h1.size h2.size, fun i hi => ?_⟩
    rw [h2.block i (by have := h1.size; omega) (fun e => by injection e with e; omega), h1.block i hi]
  exact (h.below hb).more hb.size

set_option maxRecDepth 100000 in
set_option maxHeartbeats 4000000 in
theorem gains_any (A C : Option Addr) (m d k c : Nat) (t : List Nd) (ss : List Sm) (w : World) (ht : NReads w w.heap.size A m t) (hs : MReads w w.heap.size C k ss) (hm : m ≤ maxLen) (hk : k ≤ maxLen) :
    Calls Try.prog 6 #[.slice A m d, .slice C k c] w (GainsPost t ss w) := by
  have cR := hide (gReady_any A C m d k c t ss w ht hs hm hk)
  by_cases h0 : readyS t ss = 0
  case neg =>
    have HP : Hid (∀ w', Below w.heap.size w w' → GainsPost t ss w (.returned (.tuple #[.slice none 0 0, errV (readyS t ss)])) w') := hide (fun w' hb => by
      unfold GainsPost
      have e : gainsV t ss = [] := by unfold gainsV; rw [if_neg h0]
      rw [e]
      exact ⟨none, 0, rfl, ⟨rfl, fun h => absurd h (by simp)⟩, hb⟩)
    have hv := errV_1 h0
    generalize GainsPost t ss w = GP at *
    generalize errV (readyS t ss) = EV at *
    have HV := hide hv
    clear h0 hv ht hs
    go_enter Try.func6, Try.ntmps6
    go_wp2_with fail
    refine (unhide cR).mono ?_
    rintro e w1 ⟨rfl, hb1⟩
    clear cR
    have HF := hide (unhide HP w1 hb1)
    rw [unhide HV]
    go_wp2_with fail
    have hF := unhide HF
    rw [unhide HV] at hF
    exact hF
  obtain ⟨n, hRS, hz1, hz2⟩ := readyS_0 h0
  have HP : Hid (∀ A' c' w', UReads w' w'.heap.size A' (gainsL t ss).length (gainsL t ss) → Below w.heap.size w w' → GainsPost t ss w (.returned (.tuple #[.slice A' (gainsL t ss).length c', .nilIface])) w') := hide (fun A' c' w' hr hb => by
    unfold GainsPost
    have e : gainsV t ss = gainsL t ss := by unfold gainsV; rw [if_pos h0]
    rw [e, h0, errV_0 rfl]
    exact ⟨A', c', rfl, hr, hb⟩)
  rw [h0, errV_0 rfl] at cR
  have hmt : t.length = m := ht.len
  have hkl : ss.length = k := hs.len
  have hm63 : m ≤ 63 := by have := hRS.tree.most; omega
  have hWS : WS ss n := ⟨⟨hRS.samp.most, hRS.samp.tlo, hRS.samp.thi⟩, hRS.samp.len⟩
  have hpos := hRS.tree.pos
  have hn8 : n ≤ 8 := by have := hRS.tree.fe8; omega
  have hTR := hRS.tree
  have hSm0 : Small zeroT 100000 := fun u hu => by simp [zeroT] at hu; subst hu; decide
  have hG0 : GainOk (countT zeroT t) 0 := count_gain t zeroT 0 (fun u hu => by simp [zeroT] at hu; subst hu; decide)
  have hT0 : (countT zeroT t).length = 8 := by rw [countT_len]; rfl
  have hks : (kTree t).size ≤ 63 := by rw [hTR.sortedLen]; omega
  have hCt := hide (fun (g : Nat) (V : World) (hg : w.heap.size ≤ g) (hb : Below w.heap.size w V) (bV : Blk V g 53 (tabC zeroT)) => count_any g A m d w.heap.size t zeroT V rfl hSm0 bV (ht.below hb) hg (by omega) (fun i x hx hxf => by
    obtain ⟨a1, a2⟩ := hTR.asks i x hx hxf
    omega))
  have hGn := hide (fun (g : Nat) (V : World) (hn : NSt V g A m t) (hM : MSt V g C k ss) (bV : Blk V g 53 (tabC (countT zeroT t))) => gain_any g A m d n t hTR t.length 0 ss (countT zeroT t) 0 C k c V (by omega) hpos hn hM hWS hT0 hG0 (by
    have : (kof t t.length 0).size ≤ 63 := hks
    omega) bV)
  have HGL : Hid (∀ (g : Nat) (V : World), Blk V g 53 (tabC (gainT (kof t t.length 0) ss (countT zeroT t))) → Calls Try.prog 15 #[.pointer (some ⟨g, 0, none⟩), .func (.func 20) #[] #[]] V (UListPost (gainsL t ss) V)) := hide (fun g V hb => wlistG_any g _ V (by rw [gainT_len]; exact hT0) hb)
  have HNt := hide ht
  have HMs := hide hs
  generalize GainsPost t ss w = GP at *
  obtain ⟨GL, hGL⟩ : ∃ L, L = gainsL t ss := ⟨_, rfl⟩
  rw [← hGL] at HP HGL
  unfold UListPost at HGL
  clear h0 hz1 hz2 hRS ht hs hWS hpos hTR hSm0 hG0 hT0 hks hGL hmt hkl
  go_enter Try.func6, Try.ntmps6
  go_wp2_with fail
  refine (unhide cR).mono ?_
  rintro e w1 ⟨rfl, hb1⟩
  clear cR
  go_wp2_with fail
  refine calls_nameX fun X hX => ?_
  obtain ⟨bX, hbX⟩ : Blk X w1.heap.size 53 (tabC zeroT) ∧ Below w.heap.size w X := by
    rw [hX]
    exact ⟨Blk.new _ _ _, hb1.alloc hb1.size _⟩
  have hzg : w.heap.size ≤ w1.heap.size := hb1.size
  obtain ⟨g, hg⟩ : ∃ g, g = w1.heap.size := ⟨_, rfl⟩
  rw [← hg] at bX hzg ⊢
  clear hX hg hb1
  refine (unhide hCt g X hzg hbX bX).mono ?_
  rintro e w2 ⟨rfl, b2, hg2⟩
  have hN2 := (NReads.st (unhide HNt) hzg hbX).next hg2
  have hM2 := (MReads.st (unhide HMs) hzg hbX).next hg2
  clear hCt bX
  go_wp2_with fail
  refine (unhide hGn g w2 hN2 hM2 b2).mono ?_
  rintro e w3 ⟨rfl, b3, hg3⟩
  clear hGn b2 hN2 hM2
  go_wp2_with fail
  refine (unhide HGL g w3 b3).mono ?_
  rintro e w4 ⟨A4, c4, rfl, hr4, hb4⟩
  have hB3 : Below w.heap.size w w3 := (hbX.grown hg2 hbX.size (fun z hz => by injection hz with hz; omega)).grown hg3 (Nat.le_trans hbX.size hg2.size) (fun z hz => by injection hz with hz; omega)
  have hB4 := hB3.trans (hb4.mono hB3.size)
  have HF := hide (unhide HP A4 c4 w4 hr4 hB4)
  clear HGL b3 hr4 hb4 hB3 hB4
  go_wp2_with fail
  exact unhide HF
end Go.Proofs.Ytopncifebldklaa
/- Package weigh: without (a tree of kin without a feature). Conditions: a node that lies with its kids. -/
namespace Go.Proofs.Ytopncifebldklaa
set_option linter.unusedVariables false
set_option linter.unusedSimpArgs false
open Go.RowKit

set_option maxRecDepth 100000 in
set_option maxHeartbeats 2000000 in
theorem without_any (f : Int) : ∀ (k : Kt) (g : Nat) (w : World), KReads w (Till w.heap.size) k g →
    Calls Try.prog 22 #[.pointer (some ⟨g, 0, none⟩), .int .i64 f] w fun e w' => ∃ g', e = .returned (.pointer (some ⟨g', 0, none⟩)) ∧ KReads w' (Till w'.heap.size) (kwo f k) g' ∧ Below w.heap.size w w' := by
  intro k
  induction k with
  | leaf x =>
    intro g w hk
    obtain ⟨hg, bx⟩ := id hk
    have b6 : w.cell? ⟨g, 6, none⟩ = some (.pointer none) := bx.cell 6
    have HK := hide hk
    clear hk bx
    go_enter Try.func22, Try.ntmps22
    go_wp2_with fail
    go_ret
    exact ⟨_, rfl, unhide HK, Below.refl _ _⟩
  | node x a b ia ib =>
    intro g w hk
    obtain ⟨hg, p, q, bx, hp, hq⟩ := id hk
    have hgs : g < w.heap.size := hg
    have HKW : Hid (kwo f (.node x a b) = if x.f = f then (if x.less = true then kwo f a else kwo f b) else .node x (kwo f a) (kwo f b)) := hide rfl
    obtain ⟨xf, xc, xlf, xr, xs, xv⟩ := x
    have c0 : w.cell? ⟨g, 0, none⟩ = some (.int .i64 xf) := bx.cell 0
    have c1 : w.cell? ⟨g, 1, none⟩ = some (.int .i64 xc) := bx.cell 1
    have c2 : w.cell? ⟨g, 2, none⟩ = some (.int .i64 xlf) := bx.cell 2
    have c3 : w.cell? ⟨g, 3, none⟩ = some (.int .i64 xr) := bx.cell 3
    have c4 : w.cell? ⟨g, 4, none⟩ = some (.bool xs) := bx.cell 4
    have c5 : w.cell? ⟨g, 5, none⟩ = some (.int .i64 xv) := bx.cell 5
    have c6 : w.cell? ⟨g, 6, none⟩ = some (.pointer (some ⟨p, 0, none⟩)) := bx.cell 6
    have c7 : w.cell? ⟨g, 7, none⟩ = some (.pointer (some ⟨q, 0, none⟩)) := bx.cell 7
    by_cases hxf : xf = f
    · have hb : (xf != f) = false := by simpa using hxf
      cases xs
      · have HK2 : Hid (kwo f (.node ⟨xf, xc, xlf, xr, false, xv⟩ a b) = kwo f b) := hide (by rw [unhide HKW, if_pos hxf, if_neg (by simp)])
        have HC := hide (ib q w hq)
        clear HKW hxf ia ib bx hp hq hk
        go_enter Try.func22, Try.ntmps22
        go_wp2_with fail
        refine (unhide HC).mono ?_
        rintro e w5 ⟨g', rfl, hk5, hb5⟩
        go_wp2_with fail
        go_ret
        exact ⟨_, rfl, by rw [unhide HK2]; exact hk5, hb5⟩
      · have HK2 : Hid (kwo f (.node ⟨xf, xc, xlf, xr, true, xv⟩ a b) = kwo f a) := hide (by rw [unhide HKW, if_pos hxf, if_pos rfl])
        have HC := hide (ia p w hp)
        clear HKW hxf ia ib bx hp hq hk
        go_enter Try.func22, Try.ntmps22
        go_wp2_with fail
        refine (unhide HC).mono ?_
        rintro e w5 ⟨g', rfl, hk5, hb5⟩
        go_wp2_with fail
        go_ret
        exact ⟨_, rfl, by rw [unhide HK2]; exact hk5, hb5⟩
    · have hb : (xf != f) = true := by simpa using hxf
      have HK2 : Hid (kwo f (.node ⟨xf, xc, xlf, xr, xs, xv⟩ a b) = .node ⟨xf, xc, xlf, xr, xs, xv⟩ (kwo f a) (kwo f b)) := hide (by rw [unhide HKW, if_neg hxf])
      have HA := hide (ia p w.drew (KReads.drew hp))
      have HB := hide (fun (w6 : World) (h : Below w.heap.size w w6) => ib q w6 ((hq.below h).more h.size))
      clear HKW hxf ia ib bx hp hq hk
      generalize kwo f a = KA at *
      generalize kwo f b = KB at *
      go_enter Try.func22, Try.ntmps22
      go_wp2_with fail
      go_region_held3 (fun w' => w'.cell? ⟨g, 0, none⟩ = some (.int .i64 xf) ∧ w'.cell? ⟨g, 1, none⟩ = some (.int .i64 xc) ∧ w'.cell? ⟨g, 2, none⟩ = some (.int .i64 xlf) ∧ w'.cell? ⟨g, 3, none⟩ = some (.int .i64 xr) ∧ w'.cell? ⟨g, 4, none⟩ = some (.bool xs) ∧ w'.cell? ⟨g, 5, none⟩ = some (.int .i64 xv) ∧ w'.cell? ⟨g, 6, none⟩ = some (.pointer (some ⟨p, 0, none⟩)) ∧ w'.cell? ⟨g, 7, none⟩ = some (.pointer (some ⟨q, 0, none⟩)))
        (first | go_keep | exact ⟨(unhide hkk6 0).trans c0, (unhide hkk6 1).trans c1, (unhide hkk6 2).trans c2, (unhide hkk6 3).trans c3, (unhide hkk6 4).trans c4, (unhide hkk6 5).trans c5, (unhide hkk6 6).trans c6, (unhide hkk6 7).trans c7⟩ | exact ⟨(unhide hkk7 0).trans c0, (unhide hkk7 1).trans c1, (unhide hkk7 2).trans c2, (unhide hkk7 3).trans c3, (unhide hkk7 4).trans c4, (unhide hkk7 5).trans c5, (unhide hkk7 6).trans c6, (unhide hkk7 7).trans c7⟩ | exact ⟨(unhide hkk8 _ 0).trans c0, (unhide hkk8 _ 1).trans c1, (unhide hkk8 _ 2).trans c2, (unhide hkk8 _ 3).trans c3, (unhide hkk8 _ 4).trans c4, (unhide hkk8 _ 5).trans c5, (unhide hkk8 _ 6).trans c6, (unhide hkk8 _ 7).trans c7⟩)
        (first
          | (go_at_call 22
             (with_reducible refine (unhide HA).mono ?_)
             rintro e w6 ⟨g6, rfl, hk6, hb6⟩
             have hb6' : Below w.heap.size w w6 := ⟨hb6.os, hb6.tape, hb6.output, hb6.size, hb6.block⟩
             have hs6 := hb6'.size
             have hkk6 : Hid (∀ o, w6.cell? ⟨g, o, none⟩ = w.cell? ⟨g, o, none⟩) := hide (fun o => hb6'.cell (p := ⟨g, o, none⟩) hgs))
          | (go_at_call 22
             (with_reducible refine (unhide HB w6 hb6').mono ?_)
             rintro e w7 ⟨g7, rfl, hk7, hb7⟩
             have hkk7 : Hid (∀ o, w7.cell? ⟨g, o, none⟩ = w.cell? ⟨g, o, none⟩) := hide (fun o => (hb7.cell (p := ⟨g, o, none⟩) (Nat.lt_of_lt_of_le hgs hs6)).trans (unhide hkk6 o))
             have hkk8 : Hid (∀ Z o, (w7.alloc Z).cell? ⟨g, o, none⟩ = w.cell? ⟨g, o, none⟩) := hide (fun Z o => (World.cell?_alloc_lt w7 Z ⟨g, o, none⟩ (Nat.lt_of_lt_of_le (Nat.lt_of_lt_of_le hgs hs6) hb7.size)).trans (unhide hkk7 o))))
      have hs7 := hb7.size
      have hbel : Below w.heap.size w w7 := hb6'.trans (hb7.mono (by omega))
      have hka : KReads w7 (Till w7.heap.size) KA g6 := (hk6.below hb7).more (by omega)
      have bx8 := Blk.new w7 83 (kcells ⟨xf, xc, xlf, xr, xs, xv⟩ (some ⟨g6, 0, none⟩) (some ⟨g7, 0, none⟩))
      simp only [kcells] at bx8
      have hb8 := (Below.refl w7.heap.size w7).alloc (Nat.le_refl _) (.cells #[.int .i64 xf, .int .i64 xc, .int .i64 xlf, .int .i64 xr, .bool xs, .int .i64 xv, .pointer (some ⟨g6, 0, none⟩), .pointer (some ⟨g7, 0, none⟩)] 83)
      have hz8 : (w7.alloc (.cells #[.int .i64 xf, .int .i64 xc, .int .i64 xlf, .int .i64 xr, .bool xs, .int .i64 xv, .pointer (some ⟨g6, 0, none⟩), .pointer (some ⟨g7, 0, none⟩)] 83)).heap.size = w7.heap.size + 1 := World.size_alloc _ _
      clear HA HB hkk6 hkk7 hkk8 hk6 hb6 hb6' c0 c1 c2 c3 c4 c5 c6 c7 hb7
      generalize w7.alloc (.cells #[.int .i64 xf, .int .i64 xc, .int .i64 xlf, .int .i64 xr, .bool xs, .int .i64 xv, .pointer (some ⟨g6, 0, none⟩), .pointer (some ⟨g7, 0, none⟩)] 83) = W8 at *
      have hbw8 : Below w.heap.size w W8 := hbel.trans (hb8.mono (by omega))
      have hkn : KReads W8 (Till W8.heap.size) (.node ⟨xf, xc, xlf, xr, xs, xv⟩ KA KB) w7.heap.size := ⟨by show _ < _; omega, g6, g7, bx8, (hka.below hb8).more (by omega), (hk7.below hb8).more (by omega)⟩
      have HKN := hide hkn
      clear hkn bx8 hka hb8 hk7 hbel
      go_wp2_with fail
      go_ret
      exact ⟨_, rfl, by rw [unhide HK2]; exact unhide HKN, hbw8⟩
end Go.Proofs.Ytopncifebldklaa
