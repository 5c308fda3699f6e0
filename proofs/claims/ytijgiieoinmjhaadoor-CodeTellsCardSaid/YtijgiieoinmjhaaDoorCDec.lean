/- code.Decode. Conditions: bytes that are bytes. -/
import Derived.Test.YtijgiieoinmjhaaDoorDecP
import Derived.Deep.DeepCutAuto
import Derived.Deep.CutRange
import Derived.Deep.CutBlock
namespace Go.Proofs.YtijgiieoinmjhaaDoor
set_option linter.unusedVariables false
set_option linter.unusedSimpArgs false
open Go.RowKit

theorem RdIs.put {w w1 w' : World} {r K G B1 n c j : Nat} {A : Option Addr} {s : Rd} {f way : Int} {L1 : List Int} {ts : List Tr} {vw vt v' : Value} {e : TypeId} {size m : Nat} {v : Value} {xs : List Value} {o : Obj} (h : RdIs w1 r A n c s) (hD : DSt w w1 r K G B1 f way L1 ts vw vt) (ho : w1.ownsRow B1 e size v m xs) (hg : (w1.alloc o).grownBy w' v.ownBlock) : RdIs (w'.setCell ⟨G, j, none⟩ v') r A n c s :=
  ⟨((h.blk.alloc o).grown hg (hD.ne ho (by have := hD.o3; have := hD.o4; omega))).far (p := ⟨G, j, none⟩) (by have := hD.o3; show r ≠ G; omega) v', h.nx⟩
theorem RdIs.drew {w : World} {g n c : Nat} {A : Option Addr} {s : Rd} (h : RdIs w g A n c s) : RdIs w.drew g A n c s := ⟨h.blk, h.nx⟩
theorem cdec_ret {b : List Int} {w X : World} {K : Nat} {tmps : Array Value} {f way : Int} {Aw At : Option Addr} {nw cw nt ct : Nat} {at_ : Int} {ev : Value} (hb : Blk X K 73 #[.int .i64 f, .int .i64 way, .slice Aw nw cw, .slice At nt ct]) (hP : DecPost errV b w (.returned (.tuple #[.agg #[.int .i64 f, .int .i64 way, .slice Aw nw cw, .slice At nt ct], .int .i64 at_, ev])) X)
    (h2 : tmps[2]? = some (.pointer (some ⟨K, 0, none⟩))) (h3 : tmps[3]? = some (.int .i64 at_)) (h4 : tmps[4]? = some ev) : bodyPost Tryd.prog Tryd.f37 (DecPost errV b w) Exit.ret ⟨tmps, []⟩ X := by
  obtain ⟨c0, c1, c2, c3, _⟩ := hb.cells4e
  refine bodyPost_ret (v := .tuple #[.agg #[.int .i64 f, .int .i64 way, .slice Aw nw cw, .slice At nt ct], .int .i64 at_, ev]) ?_ rfl hP
  simp [results, Tryd.results37, go_sem, h2, h3, h4, c0, c1, c2, c3]

set_option maxRecDepth 100000 in
set_option maxHeartbeats 16000000 in
theorem cdecode_any (A : Option Addr) (n c B : Nat) (b : List Int) (w : World) (hr : BReads w B A n b) (hB : B ≤ w.heap.size) (hn : n ≤ maxLen) (hnc : n ≤ c) (hby : Bys b) :
    Calls Tryd.prog 37 #[.slice A n c] w (DecPost errV b w) := by
  have hl := hr.len
  unfold maxLen at hn
  obtain ⟨W, hW⟩ : ∃ W, W = w.alloc (.cells #[.int .i64 0, .int .i64 0, .slice none 0 0, .slice none 0 0] 73) := ⟨_, rfl⟩
  have hk : Blk W w.heap.size 73 #[.int .i64 0, .int .i64 0, .slice none 0 0, .slice none 0 0] := by rw [hW]; exact Blk.new _ _ _
  have hbW : Below w.heap.size w W := by rw [hW]; exact (Below.refl _ _).alloc (Nat.le_refl _) _
  have hsW : W.heap.size = w.heap.size + 1 := by rw [hW]; simp
  obtain ⟨K, hK⟩ : ∃ K, K = w.heap.size := ⟨_, rfl⟩
  have hKw : w.heap.size ≤ K := by omega
  rw [← hK] at hk hsW
  by_cases hbig : 6000 < n
  · have hD : decE b = (0, 4) := by unfold decE; rw [hl, if_pos hbig]
    have hX := hide (hk.set4_ (.int .i64 0) (.int .i64 0) (.slice none 0 0) (.slice none 0 0))
    have hbX := hide (DecPost.no (er := errV) (w := w) (w' := set4 W K (.int .i64 0) (.int .i64 0) (.slice none 0 0) (.slice none 0 0)) hD (by decide) ((((hbW.setCell (p := ⟨K, 0, none⟩) hKw _).setCell (p := ⟨K, 1, none⟩) hKw _).setCell (p := ⟨K, 2, none⟩) hKw _).setCell (p := ⟨K, 3, none⟩) hKw _))
    obtain ⟨k0, k1, k2, k3, f0, f1, f2, f3⟩ := hk.cells4e
    clear hsW hD hl hby hr
    go_enter Tryd.func37, Tryd.ntmps37
    go_upto_region 1 with (fail)
    rw [← hW, ← hK]
    clear hW hK hbW hk
    go_wp2_with fail
    exact cdec_ret (unhide hX) (unhide hbX) rfl rfl rfl
  have hn6 : n ≤ 6000 := by omega
  have hn9 : n ≤ 10000000 := by omega
  clear hn hbig
  have HDF := hide (decE_fin (b := b) (by omega))
  obtain ⟨r, hre⟩ : ∃ r, r = W.heap.size := ⟨_, rfl⟩
  obtain ⟨V, hV⟩ : ∃ V, V = W.alloc (.cells #[.slice A n c, .int .i64 0, .int .i64 0, .nilIface] 119) := ⟨_, rfl⟩
  have hrd : RdIs V r A n c rd0 := ⟨by rw [hV, hre]; exact Blk.new _ _ _, Nat.zero_le _⟩
  have hkV : Blk V K 73 #[.int .i64 0, .int .i64 0, .slice none 0 0, .slice none 0 0] := by rw [hV]; exact hk.alloc _
  have hbV : Below w.heap.size w V := by rw [hV]; exact hbW.alloc (by omega) _
  have hKr : K < r := by omega
  have HN : Hid (∀ (w' : World) (s : Rd), RdIs w' r A n c s → Below w.heap.size w w' → Calls Tryd.prog 60 #[.pointer (some ⟨r, 0, none⟩)] w' fun e w'' => e = .returned (.int .i64 (rdNum b s).1) ∧ RdIs w'' r A n c (rdNum b s).2 ∧ Chg r w' w'') := hide (fun w' s h' hb' => crnum_any r A n c B b s w' h' (Reads.below hr (hb'.mono hB)) (by omega) hn9 hnc hby)
  have HM : Hid (∀ (w' : World) (m : Int) (s : Rd), RdIs w' r A n c s → Below w.heap.size w w' → Calls Tryd.prog 61 #[.pointer (some ⟨r, 0, none⟩), .int .i64 m] w' fun e w'' => e = .returned (.int .i64 (rdMany b m s).1) ∧ RdIs w'' r A n c (rdMany b m s).2 ∧ Chg r w' w'') := hide (fun w' m s h' hb' => crmany_any r A n c B b m s w' h' (Reads.below hr (hb'.mono hB)) (by omega) hn9 hnc hby)
  have HD : Hid (∀ (w' : World) (s : Rd), RdIs w' r A n c s → Below w.heap.size w w' → Calls Tryd.prog 62 #[.pointer (some ⟨r, 0, none⟩)] w' fun e w'' => e = .returned (rdNode b s).1.agg ∧ RdIs w'' r A n c (rdNode b s).2 ∧ Chg r w' w'') := hide (fun w' s h' hb' => crnode_any r A n c B b s w' h' (Reads.below hr (hb'.mono hB)) (by omega) hn9 hnc hby)
  have HL := hide hl
  have HTE : Hid (finS b = (if (rdT b).2.bad = 0 then rdMust (decide ((rdT b).2.nx = n)) 2 ⟨(rdT b).2.nx, (rdT b).2.nx, 0⟩ else (rdT b).2)) := hide (by unfold finS; rw [hl])
  have HFE : Hid (finE b = if (finS b).bad = 0 then decGE b else (finS b).bad) := hide rfl
  have HGE : Hid (decGE b = groveE (rdF b).1 (rdW b).1 ((rdT b).1.map (·.1)) ((rdT b).1.map (·.2))) := hide rfl
  have HTT : Hid (rdT b = rdTrees b (rdM b).2 (rdM b).1.toNat) := hide rfl
  have s1 := hide (unhide HN V rd0 hrd hbV)
  have e1 : rdNum b rd0 = rdF b := rfl
  rw [e1] at s1
  have s2 := hide (fun w' h hb => unhide HN w' (rdF b).2 h hb)
  have e2 : rdNum b (rdF b).2 = rdW b := rfl
  rw [e2] at s2
  have s3 := hide (fun w' h hb => unhide HM w' 12 (rdW b).2 h hb)
  have e3 : rdMany b 12 (rdW b).2 = rdM b := rfl
  rw [e3] at s3
  have hmr := many_range (b := b) (m := 12) (s := (rdW b).2) (by decide)
  rw [e3] at hmr
  obtain ⟨m, hm⟩ : ∃ m : Nat, (rdM b).1 = m := ⟨(rdM b).1.toNat, by omega⟩
  rw [hm] at s3 hmr HTT
  rw [Int.toNat_natCast] at HTT
  have hm12 : m ≤ 12 := by omega
  obtain ⟨f, hf⟩ : ∃ f, f = (rdF b).1 := ⟨_, rfl⟩
  obtain ⟨way, hway⟩ : ∃ f, f = (rdW b).1 := ⟨_, rfl⟩
  obtain ⟨S0, hS0⟩ : ∃ S, S = (rdM b).2 := ⟨_, rfl⟩
  rw [← hf] at s1 HGE
  rw [← hway] at s2 HGE
  rw [← hS0] at s3 HTT
  have HF := hide hf
  have HWY := hide hway
  clear e1 e2 e3 hm hmr hf hway hS0 hk hbW hrd hl
  go_enter Tryd.func37, Tryd.ntmps37
  go_upto_region 1 with (fail)
  rw [← hW, ← hK]
  clear hW hK hsW
  go_wp2_with fail
  rw [← hV, ← hre]
  clear hV hre
  refine (unhide s1).mono ?_
  rintro e w1 ⟨rfl, h1, hc1⟩
  have hkV := hkV.chg hc1 (by omega)
  have hbV := hbV.trans (hc1.below (by omega) hbV.size)
  have s2 := hide (unhide s2 w1 h1 hbV)
  clear s1 h1 hc1
  go_wp2_with fail
  refine (unhide s2).mono ?_
  rintro e w2 ⟨rfl, h2, hc2⟩
  have hkV := hkV.chg hc2 (by omega)
  have hbV := hbV.trans (hc2.below (by omega) hbV.size)
  obtain ⟨X, hX⟩ : ∃ X, X = w2.alloc (.cells #[.int .i64 f, .int .i64 way, .slice none 0 0, .slice none 0 0] 73) := ⟨_, rfl⟩
  obtain ⟨G, hG⟩ : ∃ G, G = w2.heap.size := ⟨_, rfl⟩
  have hg : Blk X G 73 #[.int .i64 f, .int .i64 way, .slice none 0 0, .slice none 0 0] := by rw [hX, hG]; exact Blk.new _ _ _
  have hkX : Blk X K 73 zeroG := by rw [hX]; exact hkV.alloc _
  have hrX : RdIs X r A n c (rdW b).2 := by rw [hX]; exact h2.alloc _
  have hbX : Below w.heap.size w X := by rw [hX]; exact hbV.alloc hbV.size _
  have hrG : r < G := by have := h2.blk.lt; omega
  have hsX : X.heap.size = G + 1 := by rw [hX, hG]; simp
  have hD0 : DSt w X r K G (G + 1) f way [] [] (.slice none 0 0) (.slice none 0 0) := ⟨hkX, hg, World.ownsRow_nil _ _ _ _, World.ownsRow_nil _ _ _ _, (fun t ht => nomatch ht), hbX, hKw, hKr, hrG, Nat.lt_succ_self _, by omega⟩
  have s3 := hide (unhide s3 X hrX hbX)
  clear s2 hkV hbV h2 hc2 hg hkX hrX hbX hsX
  go_wp2_with fail
  rw [← hX, ← hG]
  clear hX hG
  refine (unhide s3).mono ?_
  rintro e w3 ⟨rfl, h3, hc3⟩
  have hD0 := hD0.chg hc3
  clear s3 hc3
  go_wp2_with fail
  go_loopw [23] (fun i wr => ∃ (k : Nat) (ts : List Tr) (vw vt : Value), k ≤ m ∧ i = .int .i64 k ∧ RdIs wr r A n c (rdTrees b S0 k).2 ∧ DSt w wr r K G (G + 1) f way ((rdTrees b S0 k).1.map (·.1)) ts vw vt ∧ Hid (ts.map (·.l) = (rdTrees b S0 k).1.map (·.2))) (fun i _ => m - (intOf i).toNat)
  case atStart => exact ⟨0, [], _, _, by omega, rfl, h3, hD0, hide rfl⟩
  case round =>
    clear h3 hD0
    obtain ⟨k, ts, vw, vt, hk, rfl, hR, hD, HTS⟩ := hrel
    by_cases hlt : k < m
    · skip
      --{
      have hLk := rdTrees_len b S0 k
      obtain ⟨s, hs⟩ : ∃ s, s = (rdTrees b S0 k).2 := ⟨_, rfl⟩
      obtain ⟨L, hL⟩ : ∃ L, L = (rdTrees b S0 k).1 := ⟨_, rfl⟩
      obtain ⟨x, sx, hx⟩ : ∃ x sx, rdNum b s = (x, sx) := ⟨_, _, rfl⟩
      obtain ⟨q, s2, hq⟩ : ∃ q s2, rdMany b 63 sx = (q, s2) := ⟨_, _, rfl⟩
      have HNX : Hid (rdTrees b S0 (k + 1) = (L ++ [(x, (rdNodes b s2 q.toNat).1)], (rdNodes b s2 q.toNat).2)) := hide (by
        have : rdTrees b S0 (k + 1) = (L ++ [(rdTree b s).1], (rdTree b s).2) := by rw [hL, hs]; rfl
        rw [this]
        unfold rdTree
        rw [hx]
        dsimp only
        rw [hq])
      rw [← hs] at hR
      rw [← hL] at hD HTS hLk
      have hL1 : (L.map (·.1)).length ≤ 12 := by rw [List.length_map]; omega
      have htsl : ts.length ≤ 12 := by
        have := congrArg List.length (unhide HTS)
        rw [List.length_map, List.length_map] at this
        omega
      obtain ⟨L1, hL1e⟩ : ∃ L1, L1 = L.map (·.1) := ⟨_, rfl⟩
      rw [← hL1e] at hD hL1
      have HL1 := hide hL1e
      clear hs hL hLk hL1e
      go_upto_region 7 with (fail)
      go_cut [] (fun wx => ∃ vw', RdIs wx r A n c sx ∧ DSt w wx r K G (G + 1) f way (L1 ++ [x]) ts vw' vt)
      case first =>
        have hDd := hD.drew
        have hRd := hR.drew
        have t1 := hide (unhide HN wr.drew s hRd hDd.below)
        rw [hx] at t1
        obtain ⟨vA, vc, hv, _, _, _⟩ := own_slice2 hD.ws
        subst hv
        have c2 : wr.cell? ⟨G, 2, none⟩ = some (.slice vA L1.length vc) := hD.gb.cell 2
        obtain ⟨i0, hi0, hz0, hs0, hby0⟩ := info_parts elem_int.info
        have hj63 : L1.length + 1 ≤ maxLen := by unfold maxLen; omega
        have hj8 : (L1.length + 1) * 8 ≤ 140737488355328 := by omega
        have HX : Hid (∀ x1, Chg r wr.drew x1 → DSt w x1 r K G (G + 1) f way L1 ts (.slice vA L1.length vc) vt) := hide (fun x1 hc => hDd.chg hc)
        clear hDd hRd hD hR
        go_region_law (first
          | (refine step_append_any _ rfl (.tmp 26) (.tmp 29) 23 rfl (G + 1) 3 i0 (.int .i64 0) 1 8 Tryd.underlying23 hi0 hz0 hs0 hby0 rfl (by decide) (.slice vA L1.length vc) L1.length _ rfl (unhide hoa) _ _ 1 1 [.int .i64 x] rfl (unhide hnew) (ints_oneCell .i64 [x]) hj63 hj8 hBw ?_
             intro v' w' o' g' _
             have hmid := hD1.mid hD1.ws g'
             have D2 := hD1.putW o' g'
             have R2 := RdIs.put (j := 2) (v' := v') h1 hD1 hD1.ws g'
             obtain ⟨_, _, e2, _, _, _, f2, _⟩ := hmid.cells4e
             obtain ⟨A', c', hv', _, _, _⟩ := own_slice o'
             subst hv')
          | (go_simp
             go_at_call 60
             refine (unhide t1).mono ?_
             rintro e x1 ⟨rfl, h1, hc1⟩
             have hD1 := unhide HX x1 hc1
             have k2 : x1.cell? ⟨G, 2, none⟩ = some (.slice vA L1.length vc) := hD1.gb.cell 2
             have kA := cell_alloc k2 hD1.gb.lt
             have hoa := hide (World.ownsRow.alloc hD1.ws (.cells #[.int .i64 x] 3))
             have hnew := hide (Reads.new_ x1 1 1 [.int .i64 x] 3 rfl)
             have hBw : G + 1 ≤ (x1.alloc (.cells #[.int .i64 x] 3)).heap.size := by rw [World.size_alloc]; have := hD1.o5; omega
             clear hc1))
        all_goals
          go_wp2_with fail
          go_meet
          exact ⟨_, R2, D2⟩
      case rest =>
      obtain ⟨vw', h1, hD1⟩ := hcut
      obtain ⟨w4, hw4⟩ : ∃ w4, w4 = wc := ⟨_, rfl⟩
      subst hw4
      have hqr := many_range (b := b) (m := 63) (s := sx) (by decide)
      have t2 := hide (unhide HM w4 63 sx h1 hD1.below)
      rw [hq] at t2 hqr
      obtain ⟨Q, rfl⟩ : ∃ Q : Nat, q = Q := ⟨q.toNat, by omega⟩
      rw [Int.toNat_natCast] at HNX
      have hQ : Q ≤ 63 := by omega
      clear hR hD h1 hq hqr hx hL1
      go_wp2_with fail
      refine (unhide t2).mono ?_
      rintro e w5 ⟨rfl, h5, hc5⟩
      have hD5 := hD1.chg hc5
      have hr5 : r < w5.heap.size := h5.blk.lt
      clear t2 hD1 hc5
      go_wp2_with fail
      go_loopw [7, 34] (fun v i wr => ∃ j : Nat, j ≤ Q ∧ i = .int .i64 j ∧ RdIs wr r A n c (rdNodes b s2 j).2 ∧ RowN w5.heap.size wr v (rdNodes b s2 j).1 ∧ Chg r w5 wr) (fun _ i _ => Q - (intOf i).toNat)
      case atStart => exact ⟨0, by omega, rfl, h5, World.ownsRow_nil _ _ _ _, Chg.refl _ _⟩
      case round =>
        clear h5
        obtain ⟨j, hj, rfl, hR, hO, hC⟩ := hrel
        have hDj := hD5.chg hC
        have hlen := rdNodes_len b s2 j
        by_cases hlj : j < Q
        · skip
          obtain ⟨y, sy, hy⟩ : ∃ y sy, rdNode b (rdNodes b s2 j).2 = (y, sy) := ⟨_, _, rfl⟩
          have t3 := hide (unhide HD wr _ hR hDj.below)
          rw [hy] at t3
          unfold Nd.agg at t3
          obtain ⟨l, hl⟩ : ∃ l, l = (rdNodes b s2 j).1 := ⟨_, rfl⟩
          have HNJ : Hid (rdNodes b s2 (j + 1) = (l ++ [y], sy)) := hide (by
            have : rdNodes b s2 (j + 1) = ((rdNodes b s2 j).1 ++ [(rdNode b (rdNodes b s2 j).2).1], (rdNode b (rdNodes b s2 j).2).2) := rfl
            rw [this, hy, hl])
          rw [← hl] at hO hlen
          have HC := hide hC
          have HO := hide hO
          clear hl hy hDj hR hO hC
          go_wp2_with fail
          refine (unhide t3).mono ?_
          rintro e x1 ⟨rfl, h1, hc1⟩
          have hO1 : RowN w5.heap.size x1 _ l := own_chg (unhide HO) hc1 hr5
          have hC1 := (unhide HC).trans hc1
          have hsz1 := hC1.size
          have hl9 : l.length < 1000000000 := by omega
          clear t3 hc1 HC HO
          go_wp2_with (at_builtin; refine app_one elem_nodeD (.tmp 36) (.tmp 39) [.int .i64 y.f, .int .i64 y.c, .int .i64 y.l, .int .i64 y.r, .bool y.less, .int .i64 y.v] rfl rfl rfl hO1 rfl rfl rfl (node_oneD y) hl9 hsz1 ?_; intro v2 x2 o2 b2 _ g2)
          have o3 : RowN w5.heap.size x2 v2 (l ++ [y]) := by
            unfold RowN
            rw [List.length_append, List.flatMap_append]
            simpa [Nd.cells] using o2
          have h2 : RdIs x2 r A n c sy := ⟨(h1.blk.alloc _).grown g2 (fun e => by have := own_block_ge hO1 r e.symm; omega), h1.nx⟩
          have hC2 := hC1.grownNew g2 (own_block_ge hO1)
          go_roundw
          case rel => exact ⟨j + 1, by omega, by go_num, by rw [unhide HNJ]; exact h2, by rw [unhide HNJ]; exact o3, hC2⟩
          case measure => simp [intOf]; omega
        · obtain rfl : j = Q := by omega
          obtain ⟨l, hl⟩ : ∃ l, l = (rdNodes b s2 j).1 := ⟨_, rfl⟩
          obtain ⟨s3, hs3⟩ : ∃ l, l = (rdNodes b s2 j).2 := ⟨_, rfl⟩
          rw [← hl] at hO hlen HNX
          rw [← hs3] at hR HNX
          obtain ⟨nA, nc, hv, _, _, _⟩ := own_slice2 hO
          subst hv
          have ht : wr.ownsRow (G + 1) 111 6 (Tr.val ⟨nA, l.length, nc, l⟩) l.length (l.flatMap Nd.cells) := own_base hO hD5.o5
          have hG3 : wr.cell? ⟨G, 3, none⟩ = some vt := hDj.gb.cell 3
          have htr := hDj.tr
          have h5' := hDj.o5
          have htl9 : ts.length < 1000000000 := by omega
          have HO1 := hide hlen
          have HDj := hide hDj
          have HR := hide hR
          clear hl hs3 hC hD5 hO hR hDj hlen
          go_wp2_with (at_builtin; refine app_one elem_treesD (.tmp 43) (.tmp 45) [.slice nA l.length nc] rfl rfl rfl htr rfl rfl rfl (by intro u hu; simp at hu; subst hu; rfl) htl9 h5' ?_; intro v2 x2 o2 b2 _ g2; obtain ⟨_, _, _, e3, _, _, _, f3⟩ := ((unhide HDj).mid htr g2).cells4e; have D2 := hide (fun u (hu : u = v2) => (unhide HDj).putT (t := ⟨nA, l.length, nc, l⟩) ht (show x2.ownsRow (G + 1) 109 1 u (ts.length + 1) (ts.map Tr.val ++ [Tr.val ⟨nA, l.length, nc, l⟩]) by rw [hu]; exact o2) g2); have R2 := hide (fun u => RdIs.put (j := 3) (v' := u) (unhide HR) (unhide HDj) htr g2); obtain ⟨A', c', hv', _, _, _⟩ := own_slice o2; subst hv')
          go_roundw
          case rel =>
            have hL1 := unhide HL1
            refine ⟨k + 1, ts ++ [⟨nA, l.length, nc, l⟩], vw', _, by omega, by go_num, by rw [unhide HNX]; exact unhide R2 _, by rw [unhide HNX, List.map_append, ← hL1]; exact unhide D2 _ rfl, hide (by rw [unhide HNX, List.map_append, List.map_append, unhide HTS]; rfl)⟩
          case measure => simp [intOf]; omega
      --}
    · obtain rfl : k = m := by omega
      rw [← unhide HTT] at hR hD HTS
      have hro := hD.o2
      have hrG := hD.o3
      have hGB := hD.o4
      obtain ⟨⟨Sat, Snx, Sbad⟩, hS⟩ : ∃ S, S = (rdT b).2 := ⟨_, rfl⟩
      rw [← hS] at hR HTE
      have HS := hide hS
      clear hS
      dsimp only at HTE
      have HFIN : Hid (∀ (X : World) (at_ : Nat) (er : Int), at_ = (finS b).at_ → er = finE b → er ≠ 0 → Blk X K 73 #[.int .i64 0, .int .i64 0, .slice none 0 0, .slice none 0 0] → Below w.heap.size w X →
          Blk (set4 X K (.int .i64 0) (.int .i64 0) (.slice none 0 0) (.slice none 0 0)) K 73 #[.int .i64 0, .int .i64 0, .slice none 0 0, .slice none 0 0] ∧ DecPost errV b w (.returned (.tuple #[nilG.val, .int .i64 (at_ : Int), errV er])) (set4 X K (.int .i64 0) (.int .i64 0) (.slice none 0 0) (.slice none 0 0))) := hide (fun X at_ er h1 h2 h3 h4 h5 => by
        have hde : decE b = (at_, er) := by rw [unhide HDF, if_neg (by rw [← h2]; exact h3), h1, h2]
        exact ⟨h4.set4_ _ _ _ _, DecPost.no hde h3 ((((h5.setCell (p := ⟨K, 0, none⟩) hKw _).setCell (p := ⟨K, 1, none⟩) hKw _).setCell (p := ⟨K, 2, none⟩) hKw _).setCell (p := ⟨K, 3, none⟩) hKw _)⟩)
      have hrK1 : ¬ r = K := by omega
      have hrK2 : ¬ K = r := by omega
      obtain ⟨c0, c1, c2, c3, f1, f2, f3⟩ := hR.cells
      dsimp only at c1 c2 c3
      by_cases h0 : Sbad = 0
      · skip
        subst h0
        rw [errV_0 rfl] at c3
        have hTE := unhide HTE
        rw [if_pos rfl] at hTE
        try dsimp only at hTE
        have hX1 : RdIs (wr.setCell ⟨r, 1, none⟩ (.int .i64 (Snx : Int))) r A n c ⟨Snx, Snx, 0⟩ := ⟨by have := hR.blk.set_ 1 (.int .i64 (Snx : Int)); simpa [List.setIfInBounds_toArray] using this, hR.nx⟩
        have hD1 := hD.chg ((Chg.refl r wr).set_ 1 (.int .i64 (Snx : Int)))
        obtain ⟨X, hX⟩ : ∃ X, X = wr.setCell ⟨r, 1, none⟩ (.int .i64 (Snx : Int)) := ⟨_, rfl⟩
        rw [← hX] at hX1 hD1
        by_cases hnx : Snx = n
        · skip
          have d : ((Snx : Int) == (n : Int)) = true := by rw [beq_iff_eq]; omega
          have t1 := hide (crmust_any r A n c ⟨Snx, Snx, 0⟩ true 2 X hX1 (by decide))
          rw [rdMust_ok] at t1
          rw [decide_eq_true hnx, rdMust_ok] at hTE
          have HT2 := hide hTE
          clear hnx hTE hR hD HTE
          go_wp2_with fail
          rw [← hX]
          clear hX c0 c1 c2 c3 f1 f2 f3
          refine (unhide t1).mono ?_
          rintro e w1 ⟨rfl, h1, hc1⟩
          have hD2 := hD1.chg hc1
          obtain ⟨o, hvw, hvt, of, oway, ows, ots, hor⟩ := hD2.reads
          have HO : Hid (o.e = decGE b) := hide (by
            unfold Gv.e Gv.trees
            rw [of, oway, ows, ots, unhide HGE, unhide HTS])
          have t2 := hide (gcheck_any o w1 hor)
          have HRES : Hid (decE b = (0, 0) → ∀ X' Y, DSt w X' r K G (G + 1) f way ((rdT b).1.map (·.1)) ts vw vt → Chg K X' Y → DecPost errV b w (.returned (.tuple #[o.val, .int .i64 0, .nilIface])) Y) := hide (fun hde X' Y h1 h2 => ⟨o, by rw [hde]; rfl, h1.readsK h2 (by omega) hvw hvt ows ots, h1.below.trans (h2.below hKw h1.below.size), fun _ => ⟨by rw [of]; exact unhide HF, by rw [oway]; exact unhide HWY, ows, by unfold Gv.trees; rw [ots]; exact unhide HTS⟩, fun h => absurd (by rw [hde]) h⟩)
          obtain ⟨E, hE⟩ : ∃ E, E = o.e := ⟨_, rfl⟩
          rw [← hE] at HO t2
          obtain ⟨of_, oway_, oAw, onw, ocw, ows_, oAt, ont, oct, ots_⟩ := o
          dsimp only at hvw hvt of oway
          subst hvw hvt of oway
          unfold Gv.val at t2 HRES
          dsimp only at t2 HRES
          have gb := hD2.gb
          obtain ⟨g0, g1, g2, g3, _⟩ := gb.cells4e
          obtain ⟨c0, c1, c2, c3, f1, f2, f3⟩ := h1.cells
          dsimp only at c1 c2 c3
          rw [errV_0 rfl] at c3
          clear t1 hX1 hD1 hor ows ots hE hc1
          go_upto_region 19 with (fail)
          go_wp2_with fail
          refine (unhide t2).mono ?_
          rintro e w2 ⟨rfl, hb2⟩
          have h3 := h1.below hb2
          have hD3 := hD2.more hb2
          obtain ⟨c0, c1, c2, c3, f1, f2, f3⟩ := h3.cells
          dsimp only at c1 c2 c3
          rw [errV_0 rfl] at c3
          clear t2 h1 hD2 hb2 gb g0 g1 g2 g3
          have hbad : (finS b).bad = 0 := by rw [unhide HT2]
          have hfe : finE b = E := by rw [unhide HFE, if_pos hbad]; exact (unhide HO).symm
          by_cases hE : E = 0
          · skip
            subst hE
            have hde : decE b = (0, 0) := by rw [unhide HDF, if_pos hfe]
            rw [errV_0 rfl]
            have hrS := h3.blk.set_ 3 .nilIface
            have hDS := hD3.chg ((Chg.refl r w2).set_ 3 .nilIface)
            obtain ⟨Y, hY⟩ : ∃ Y, Y = w2.setCell ⟨r, 3, none⟩ .nilIface := ⟨_, rfl⟩
            rw [← hY] at hrS hDS
            clear h3 hD3 HFIN HO HT2 hbad hfe
            go_upto_region 20 with (fail)
            rw [← hY]
            clear hY c0 c1 c2 c3 f1 f2 f3
            have x3 : Y.cell? ⟨r, 3, none⟩ = some .nilIface := by simpa using hrS.cell 3
            obtain ⟨g0, g1, g2, g3, _⟩ := hDS.gb.cells4e
            have hkb := hDS.kb
            unfold zeroG at hkb
            obtain ⟨k0, k1, k2, k3, j0, j1, j2, j3⟩ := hkb.cells4e
            have HSET := hide (hkb.set4_ (.int .i64 of_) (.int .i64 oway_) (.slice oAw onw ocw) (.slice oAt ont oct))
            have HR2 := hide (unhide HRES hde Y (set4 Y K (.int .i64 of_) (.int .i64 oway_) (.slice oAw onw ocw) (.slice oAt ont oct)) hDS ((Chg.refl K Y).set4_ _ _ _ _))
            clear hkb hDS hrS HRES hde
            go_wp2_with fail
            exact cdec_ret (unhide HSET) (unhide HR2) rfl rfl rfl
          · skip
            rw [errV_1 hE]
            have hrS := h3.blk.set_ 3 (.iface 89 (.int .i64 E))
            have hDS := hD3.chg ((Chg.refl r w2).set_ 3 (.iface 89 (.int .i64 E)))
            obtain ⟨Y, hY⟩ : ∃ Y, Y = w2.setCell ⟨r, 3, none⟩ (.iface 89 (.int .i64 E)) := ⟨_, rfl⟩
            rw [← hY] at hrS hDS
            have hx := unhide HFIN Y.drew Snx E (by rw [unhide HT2]) hfe.symm hE hDS.drew.kb hDS.drew.below
            rw [errV_1 hE] at hx
            have HX := hide hx
            clear h3 hD3 HFIN HO HT2 hbad hfe hE hx HRES
            go_upto_region 20 with (fail)
            rw [← hY]
            clear hY c0 c1 c2 c3 f1 f2 f3
            have x1 : Y.cell? ⟨r, 1, none⟩ = some (.int .i64 (Snx : Int)) := by simpa using hrS.cell 1
            have x3 : Y.cell? ⟨r, 3, none⟩ = some (.iface 89 (.int .i64 E)) := by simpa using hrS.cell 3
            have hkb := hDS.kb
            unfold zeroG at hkb
            obtain ⟨k0, k1, k2, k3, j0, j1, j2, j3⟩ := hkb.cells4e
            clear hkb hDS hrS
            go_upto_region 21 with (fail)
            go_region_held3 (fun w' => w'.cell? ⟨r, 1, none⟩ = some (.int .i64 (Snx : Int)) ∧ w'.cell? ⟨r, 3, none⟩ = some (.iface 89 (.int .i64 E)))
              (first | exact ⟨x1, x3⟩ | go_keep)
              (fail)
            go_wp2_with fail
            exact cdec_ret (unhide HX).1 (unhide HX).2 rfl rfl rfl
        · skip
          have d : ((Snx : Int) == (n : Int)) = false := by rw [beq_eq_false_iff_ne]; omega
          have t1 := hide (crmust_any r A n c ⟨Snx, Snx, 0⟩ false 2 X hX1 (by decide))
          rw [rdMust_no rfl] at t1
          rw [decide_eq_false hnx, rdMust_no rfl] at hTE
          have hfe : finE b = 2 := by rw [unhide HFE, hTE, if_neg (by show ¬ (2 : Int) = 0; decide)]
          have HX := hide (fun (X' : World) (hc : Chg r X X') => unhide HFIN X'.drew Snx 2 (by rw [hTE]) hfe.symm (by decide) (hD1.chg hc).kb (hD1.chg hc).below.drew)
          have HKB := hide (fun (X' : World) (hc : Chg r X X') => (hD1.chg hc).kb)
          clear hnx hTE hfe hR hD HFIN
          go_wp2_with fail
          rw [← hX]
          clear hX c0 c1 c2 c3 f1 f2 f3
          refine (unhide t1).mono ?_
          rintro e w1 ⟨rfl, h1, hc1⟩
          have hx := unhide HX w1 hc1
          have hkb := unhide HKB w1 hc1
          obtain ⟨c0, c1, c2, c3, f1, f2, f3⟩ := h1.cells
          dsimp only at c1 c2 c3
          rw [errV_1 (by decide)] at c3 hx
          have HX := hide hx
          unfold zeroG at hkb
          obtain ⟨k0, k1, k2, k3, g0, g1, g2, g3⟩ := hkb.cells4e
          clear hx hkb h1 hc1 t1 hX1 hD1 HKB f1 f2 f3
          go_upto_region 21 with (fail)
          go_region_held3 (fun w' => w'.cell? ⟨r, 1, none⟩ = some (.int .i64 (Snx : Int)) ∧ w'.cell? ⟨r, 3, none⟩ = some (.iface 89 (.int .i64 2)))
            (first | exact ⟨c1, c3⟩ | go_keep)
            (fail)
          go_wp2_with fail
          exact cdec_ret (unhide HX).1 (unhide HX).2 rfl rfl rfl
      · skip
        have hTE := unhide HTE
        rw [if_neg h0] at hTE
        have hfe : finE b = Sbad := by rw [unhide HFE, hTE]; exact if_neg h0
        have hx := unhide HFIN wr.drew Sat Sbad (by rw [hTE]) hfe.symm h0 hD.drew.kb hD.drew.below
        have hkb := hD.kb
        rw [errV_1 h0] at c3 hx
        have HX := hide hx
        unfold zeroG at hkb
        obtain ⟨k0, k1, k2, k3, g0, g1, g2, g3⟩ := hkb.cells4e
        clear hx hkb hR hD h0 hTE hfe HFIN HTE f1 f2 f3
        go_upto_region 21 with (fail)
        go_region_held3 (fun w' => w'.cell? ⟨r, 1, none⟩ = some (.int .i64 (Sat : Int)) ∧ w'.cell? ⟨r, 3, none⟩ = some (.iface 89 (.int .i64 Sbad)))
          (first | exact ⟨c1, c3⟩ | go_keep)
          (fail)
        go_wp2_with fail
        exact cdec_ret (unhide HX).1 (unhide HX).2 rfl rfl rfl
end Go.Proofs.YtijgiieoinmjhaaDoor
