/- orchref3.Decode. Conditions: bytes that are bytes. -/
import Derived.Test.YtijgiieoinmjhaaDoorDecP
import Derived.Test.YtijgiieoinmjhaaDoorRIn
import Derived.Deep.DeepCutAuto
import Derived.Deep.CutRange
import Derived.Deep.CutBlock
namespace Go.Proofs.YtijgiieoinmjhaaDoor
set_option linter.unusedVariables false
set_option linter.unusedSimpArgs false
open Go.RowKit

def intV (e : Int) : Value := .int .i64 e
theorem RiIs.put {w w1 w' : World} {r K G B1 n c j : Nat} {A : Option Addr} {s : Rd} {f way : Int} {L1 : List Int} {ts : List Tr} {vw vt v' : Value} {e : TypeId} {size m : Nat} {v : Value} {xs : List Value} {o : Obj} (h : RiIs w1 r A n c s) (hD : DSt w w1 r K G B1 f way L1 ts vw vt) (ho : w1.ownsRow B1 e size v m xs) (hg : (w1.alloc o).grownBy w' v.ownBlock) : RiIs (w'.setCell ⟨G, j, none⟩ v') r A n c s :=
  ⟨((h.blk.alloc o).grown hg (hD.ne ho (by have := hD.o3; have := hD.o4; omega))).far (p := ⟨G, j, none⟩) (by have := hD.o3; show r ≠ G; omega) v', h.nx⟩
theorem rdec_ret {b : List Int} {w X : World} {K : Nat} {tmps : Array Value} {f way : Int} {Aw At : Option Addr} {nw cw nt ct : Nat} {at_ : Int} {ev : Value} (hb : Blk X K 73 #[.int .i64 f, .int .i64 way, .slice Aw nw cw, .slice At nt ct]) (hP : DecPost intV b w (.returned (.tuple #[.agg #[.int .i64 f, .int .i64 way, .slice Aw nw cw, .slice At nt ct], .int .i64 at_, ev])) X)
    (h2 : tmps[2]? = some (.pointer (some ⟨K, 0, none⟩))) (h3 : tmps[3]? = some (.int .i64 at_)) (h4 : tmps[4]? = some ev) : bodyPost Tryd.prog Tryd.f36 (DecPost intV b w) Exit.ret ⟨tmps, []⟩ X := by
  obtain ⟨c0, c1, c2, c3, _⟩ := hb.cells4e
  refine bodyPost_ret (v := .tuple #[.agg #[.int .i64 f, .int .i64 way, .slice Aw nw cw, .slice At nt ct], .int .i64 at_, ev]) ?_ rfl hP
  simp [results, Tryd.results36, go_sem, h2, h3, h4, c0, c1, c2, c3]
theorem beq_dec (z : Int) : (z == 1) = decide (z = 1) := by rw [Bool.eq_iff_iff]; simp

set_option maxRecDepth 100000 in
set_option maxHeartbeats 16000000 in
theorem rdecode_any (A : Option Addr) (n c B : Nat) (b : List Int) (w : World) (hr : BReads w B A n b) (hB : B ≤ w.heap.size) (hn : n ≤ maxLen) (hnc : n ≤ c) (hby : Bys b) :
    Calls Tryd.prog 36 #[.slice A n c] w (DecPost intV b w) := by
  have hl := hr.len
  unfold maxLen at hn
  obtain ⟨W, hW⟩ : ∃ W, W = w.alloc (.cells #[.int .i64 0, .int .i64 0, .slice none 0 0, .slice none 0 0] 73) := ⟨_, rfl⟩
  have hk : Blk W w.heap.size 73 #[.int .i64 0, .int .i64 0, .slice none 0 0, .slice none 0 0] := by rw [hW]; exact Blk.new _ _ _
  have hbW : Below w.heap.size w W := by rw [hW]; exact (Below.refl _ _).alloc (Nat.le_refl _) _
  have hsW : W.heap.size = w.heap.size + 1 := by rw [hW]; simp
  obtain ⟨K, hK⟩ : ∃ K, K = w.heap.size := ⟨_, rfl⟩
  have hKw : w.heap.size ≤ K := by omega
  rw [← hK] at hk hsW
  by_cases hbig : 6000 < n
  · have hD : decE b = (0, 4) := by unfold decE; rw [hl, if_pos hbig]
    have hX := hide (hk.set4_ (.int .i64 0) (.int .i64 0) (.slice none 0 0) (.slice none 0 0))
    have hbX := hide (DecPost.no (er := intV) (w := w) (w' := set4 W K (.int .i64 0) (.int .i64 0) (.slice none 0 0) (.slice none 0 0)) hD (by decide) ((((hbW.setCell (p := ⟨K, 0, none⟩) hKw _).setCell (p := ⟨K, 1, none⟩) hKw _).setCell (p := ⟨K, 2, none⟩) hKw _).setCell (p := ⟨K, 3, none⟩) hKw _))
    obtain ⟨k0, k1, k2, k3, f0, f1, f2, f3⟩ := hk.cells4e
    clear hsW hD hl hby hr
    go_enter Tryd.func36, Tryd.ntmps36
    go_upto_region 1 with (fail)
    rw [← hW, ← hK]
    clear hW hK hbW hk
    go_wp2_with fail
    exact rdec_ret (unhide hX) (unhide hbX) rfl rfl rfl
  have hn6 : n ≤ 6000 := by omega
  have hn9 : n ≤ 10000000 := by omega
  clear hn hbig
  have HDF := hide (decE_fin (b := b) (by omega))
  obtain ⟨r, hre⟩ : ∃ r, r = W.heap.size := ⟨_, rfl⟩
  obtain ⟨V, hV⟩ : ∃ V, V = W.alloc (.cells #[.slice A n c, .int .i64 0, .int .i64 0, .int .i64 0] 115) := ⟨_, rfl⟩
  have hrd : RiIs V r A n c rd0 := ⟨by rw [hV, hre]; exact Blk.new _ _ _, Nat.zero_le _⟩
  have hkV : Blk V K 73 #[.int .i64 0, .int .i64 0, .slice none 0 0, .slice none 0 0] := by rw [hV]; exact hk.alloc _
  have hbV : Below w.heap.size w V := by rw [hV]; exact hbW.alloc (by omega) _
  have hsV : V.heap.size = r + 1 := by rw [hV, hre]; simp
  have hKr : K < r := by omega
  have HN : Hid (∀ (w' : World) (s : Rd), RiIs w' r A n c s → Below w.heap.size w w' → Calls Tryd.prog 58 #[.pointer (some ⟨r, 0, none⟩)] w' fun e w'' => e = .returned (.int .i64 (rdNum b s).1) ∧ RiIs w'' r A n c (rdNum b s).2 ∧ Chg r w' w'') := hide (fun w' s h' hb' => rinum_any r A n c B b s w' h' (Reads.below hr (hb'.mono hB)) (by omega) hn9 hnc hby)
  have HM : Hid (∀ (w' : World) (m : Int) (s : Rd), RiIs w' r A n c s → Below w.heap.size w w' → Calls Tryd.prog 59 #[.pointer (some ⟨r, 0, none⟩), .int .i64 m] w' fun e w'' => e = .returned (.int .i64 (rdMany b m s).1) ∧ RiIs w'' r A n c (rdMany b m s).2 ∧ Chg r w' w'') := hide (fun w' m s h' hb' => rimany_any r A n c B b m s w' h' (Reads.below hr (hb'.mono hB)) (by omega) hn9 hnc hby)
  have HL := hide hl
  have HTE : Hid (finS b = (if (rdT b).2.bad = 0 then rdMust (decide ((rdT b).2.nx = n)) 2 ⟨(rdT b).2.nx, (rdT b).2.nx, 0⟩ else (rdT b).2)) := hide (by unfold finS; rw [hl])
  have HFE : Hid (finE b = if (finS b).bad = 0 then decGE b else (finS b).bad) := hide rfl
  have HGE : Hid (decGE b = groveE (rdF b).1 (rdW b).1 ((rdT b).1.map (·.1)) ((rdT b).1.map (·.2))) := hide rfl
  have HTT : Hid (rdT b = rdTrees b (rdM b).2 (rdM b).1.toNat) := hide rfl
  obtain ⟨X, hX⟩ : ∃ X, X = V.alloc (.cells #[.int .i64 0, .int .i64 0, .slice none 0 0, .slice none 0 0] 73) := ⟨_, rfl⟩
  obtain ⟨G, hG⟩ : ∃ G, G = V.heap.size := ⟨_, rfl⟩
  have hg : Blk X G 73 #[.int .i64 0, .int .i64 0, .slice none 0 0, .slice none 0 0] := by rw [hX, hG]; exact Blk.new _ _ _
  have hkX : Blk X K 73 #[.int .i64 0, .int .i64 0, .slice none 0 0, .slice none 0 0] := by rw [hX]; exact hkV.alloc _
  have hrX : RiIs X r A n c rd0 := by rw [hX]; exact hrd.alloc _
  have hbX : Below w.heap.size w X := by rw [hX]; exact hbV.alloc hbV.size _
  have hsX : X.heap.size = G + 1 := by rw [hX, hG]; simp
  have hrG : r < G := by omega
  have s1 := hide (unhide HN X rd0 hrX hbX)
  have e1 : rdNum b rd0 = rdF b := rfl
  rw [e1] at s1
  have s2 := hide (fun w' h hb => unhide HN w' (rdF b).2 h hb)
  have e2 : rdNum b (rdF b).2 = rdW b := rfl
  rw [e2] at s2
  have s3 := hide (fun w' h hb => unhide HM w' 12 (rdW b).2 h hb)
  have e3 : rdMany b 12 (rdW b).2 = rdM b := rfl
  rw [e3] at s3
  have hmr := many_range (b := b) (m := 12) (s := (rdW b).2) (by decide)
  rw [e3] at hmr
  obtain ⟨m, hm⟩ : ∃ m : Nat, (rdM b).1 = m := ⟨(rdM b).1.toNat, by omega⟩
  rw [hm] at s3 hmr HTT
  rw [Int.toNat_natCast] at HTT
  have hm12 : m ≤ 12 := by omega
  obtain ⟨f, hf⟩ : ∃ f, f = (rdF b).1 := ⟨_, rfl⟩
  obtain ⟨way, hway⟩ : ∃ f, f = (rdW b).1 := ⟨_, rfl⟩
  obtain ⟨S0, hS0⟩ : ∃ S, S = (rdM b).2 := ⟨_, rfl⟩
  rw [← hf] at s1 HGE
  rw [← hway] at s2 HGE
  rw [← hS0] at s3 HTT
  have HF := hide hf
  have HWY := hide hway
  clear e1 e2 e3 hm hmr hf hway hS0 hk hbW hrd hl hkV hrX hbV hsV
  go_enter Tryd.func36, Tryd.ntmps36
  go_upto_region 1 with (fail)
  rw [← hW, ← hK]
  clear hW hK hsW
  go_upto_region 4 with (fail)
  rw [← hV, ← hre]
  clear hV hre
  go_wp2_with fail
  rw [← hX, ← hG]
  clear hX hG
  refine (unhide s1).mono ?_
  rintro e w1 ⟨rfl, h1, hc1⟩
  have hg := hg.chg hc1 (by omega)
  have hkX := hkX.chg hc1 (by omega)
  have hbX := hbX.trans (hc1.below (by omega) hbX.size)
  have hsX : G + 1 ≤ w1.heap.size := by have := hc1.size; omega
  obtain ⟨g0, g1, g2, g3, j0, j1, _⟩ := hg.cells4e
  have hg2 := hg.set_ 0 (.int .i64 f)
  have hk2 := hkX.far (p := ⟨G, 0, none⟩) (by show K ≠ G; omega) (.int .i64 f)
  have hr2 := h1.set_ (b := G) (by omega) 0 (.int .i64 f)
  have hb2 := hbX.setCell (p := ⟨G, 0, none⟩) (by show w.heap.size ≤ G; omega) (.int .i64 f)
  obtain ⟨Y, hY⟩ : ∃ Y, Y = w1.setCell ⟨G, 0, none⟩ (.int .i64 f) := ⟨_, rfl⟩
  have hsY : G + 1 ≤ Y.heap.size := by rw [hY]; simpa [World.setCell] using hsX
  simp only [List.setIfInBounds_toArray, List.set_cons_zero, List.set_cons_succ] at hg2
  rw [← hY] at hg2 hk2 hr2 hb2
  have s2 := hide (unhide s2 Y hr2 hb2)
  clear s1 h1 hc1 hg hkX hbX hsX hr2
  go_wp2_with fail
  rw [← hY]
  clear hY g0 g1 g2 g3 j0 j1
  refine (unhide s2).mono ?_
  rintro e w2 ⟨rfl, h2, hc2⟩
  have hg := hg2.chg hc2 (by omega)
  have hkX := hk2.chg hc2 (by omega)
  have hbX := hb2.trans (hc2.below (by omega) hb2.size)
  have hsX : G + 1 ≤ w2.heap.size := by have := hc2.size; omega
  obtain ⟨g0, g1, g2, g3, j0, j1, _⟩ := hg.cells4e
  have hg3 := hg.set_ 1 (.int .i64 way)
  have hk3 := hkX.far (p := ⟨G, 1, none⟩) (by show K ≠ G; omega) (.int .i64 way)
  have hr3 := h2.set_ (b := G) (by omega) 1 (.int .i64 way)
  have hb3 := hbX.setCell (p := ⟨G, 1, none⟩) (by show w.heap.size ≤ G; omega) (.int .i64 way)
  obtain ⟨Z, hZ⟩ : ∃ Y, Y = w2.setCell ⟨G, 1, none⟩ (.int .i64 way) := ⟨_, rfl⟩
  have hsZ : G + 1 ≤ Z.heap.size := by rw [hZ]; simpa [World.setCell] using hsX
  simp only [List.setIfInBounds_toArray, List.set_cons_zero, List.set_cons_succ] at hg3
  rw [← hZ] at hg3 hk3 hr3 hb3
  have hD0 : DSt w Z r K G (G + 1) f way [] [] (.slice none 0 0) (.slice none 0 0) := ⟨hk3, hg3, World.ownsRow_nil _ _ _ _, World.ownsRow_nil _ _ _ _, (fun t ht => nomatch ht), hb3, hKw, hKr, hrG, Nat.lt_succ_self _, hsZ⟩
  have s3 := hide (unhide s3 Z hr3 hb3)
  clear s2 h2 hc2 hg hkX hbX hsX hr3 hg2 hk2 hb2 hg3 hk3 hb3 hsY hsZ
  go_wp2_with fail
  rw [← hZ]
  clear hZ g0 g1 g2 g3 j0 j1
  refine (unhide s3).mono ?_
  rintro e w3 ⟨rfl, h3, hc3⟩
  have hD0 := hD0.chg hc3
  clear s3 hc3
  go_wp2_with fail
  go_loopw [8] (fun i wr => ∃ (k : Nat) (ts : List Tr) (vw vt : Value) (L1 : List Int), k ≤ m ∧ i = .int .i64 k ∧ L1.length = k ∧ ts.length = k ∧ RiIs wr r A n c (rdTrees b S0 k).2 ∧ DSt w wr r K G (G + 1) f way L1 ts vw vt ∧ Hid ((rdTrees b S0 k).2.bad = 0 → L1 = (rdTrees b S0 k).1.map (·.1) ∧ ts.map (·.l) = (rdTrees b S0 k).1.map (·.2))) (fun i _ => m - (intOf i).toNat)
  case atStart => exact ⟨0, [], _, _, [], by omega, rfl, rfl, rfl, h3, hD0, hide (fun _ => ⟨rfl, rfl⟩)⟩
  case round =>
    clear h3 hD0
    obtain ⟨k, ts, vw, vt, L1, hk, rfl, hL1k, htsk, hR, hD, HTS⟩ := hrel
    obtain ⟨wi, hwi⟩ : ∃ wi, wi = wr := ⟨_, rfl⟩
    subst hwi
    obtain ⟨sb, hsb⟩ : ∃ x, x = (rdTrees b S0 k).2.bad := ⟨_, rfl⟩
    have HSB := hide hsb
    obtain ⟨c0, c1, c2, c3, f1, f2, f3⟩ := hR.cells
    rw [← hsb] at c3
    have HR := hide hR
    have HL1K := hide hL1k
    have HTSK := hide htsk
    clear hsb hR hL1k htsk
    go_upto_region 9 with (fail)
    go_cut [40] (fun v wx => v = .bool (decide (k < m ∧ sb = 0)) ∧ wx = wi)
    case first =>
      by_cases hlt : k < m
      · by_cases h0 : sb = 0
        · have d : (sb == 0) = true := by simpa using h0
          have e : decide (k < m ∧ sb = 0) = true := decide_eq_true ⟨hlt, h0⟩
          have HEQ := hide e
          clear h0 e
          go_wp2_with fail
          go_meet
          exact ⟨by rw [unhide HEQ], rfl⟩
        · have d : (sb == 0) = false := by simpa using h0
          have e : decide (k < m ∧ sb = 0) = false := decide_eq_false (fun h => h0 h.2)
          have HEQ := hide e
          clear h0 e
          go_wp2_with fail
          go_meet
          exact ⟨by rw [unhide HEQ], rfl⟩
      · have e : decide (k < m ∧ sb = 0) = false := decide_eq_false (fun h => hlt h.1)
        have HEQ := hide e
        clear e
        go_wp2_with fail
        go_meet
        exact ⟨by rw [unhide HEQ], rfl⟩
    case rest =>
    obtain ⟨rfl, hwx⟩ := hcut
    have hwx := hwx.symm
    subst hwx
    have hR := unhide HR
    clear HR
    by_cases hgo : k < m ∧ sb = 0
    · have e : decide (k < m ∧ sb = 0) = true := decide_eq_true hgo
      rw [e]
      obtain ⟨hlt, h0⟩ := hgo
      subst h0
      skip
      --{
      obtain ⟨hL1e, HTS2⟩ := unhide HTS (unhide HSB).symm
      have hL1k := unhide HL1K
      have htsk := unhide HTSK
      obtain ⟨s, hs⟩ : ∃ s, s = (rdTrees b S0 k).2 := ⟨_, rfl⟩
      obtain ⟨L, hL⟩ : ∃ L, L = (rdTrees b S0 k).1 := ⟨_, rfl⟩
      obtain ⟨x, sx, hx⟩ : ∃ x sx, rdNum b s = (x, sx) := ⟨_, _, rfl⟩
      obtain ⟨q, s2, hq⟩ : ∃ q s2, rdMany b 63 sx = (q, s2) := ⟨_, _, rfl⟩
      have HNX : Hid (rdTrees b S0 (k + 1) = (L ++ [(x, (rdNodes b s2 q.toNat).1)], (rdNodes b s2 q.toNat).2)) := hide (by
        have : rdTrees b S0 (k + 1) = (L ++ [(rdTree b s).1], (rdTree b s).2) := by rw [hL, hs]; rfl
        rw [this]
        unfold rdTree
        rw [hx]
        dsimp only
        rw [hq])
      rw [← hs] at hR
      rw [← hL] at hL1e HTS2
      have HL1 := hide hL1e
      have HTS3 := hide HTS2
      have hL1 : L1.length ≤ 12 := by omega
      have htsl : ts.length ≤ 12 := by omega
      clear hL hL1e HTS2 HTS HSB hL1k htsk e hs
      have t1 := hide (unhide HN wi s hR hD.below)
      rw [hx] at t1
      have HRk := hR
      go_upto_region 11 with (fail)
      go_wp2_with fail
      refine (unhide t1).mono ?_
      rintro e w4 ⟨rfl, h1, hc1⟩
      have hD1 := hD.chg hc1
      obtain ⟨_, _, g2, _, _, _, j2, _⟩ := hD1.gb.cells4e
      have hws := hD1.ws
      have ho5 := hD1.o5
      have hL19 : L1.length < 1000000000 := by omega
      have HD1 := hide hD1
      have H1 := hide h1
      clear t1 hR hD h1 hc1 hx hD1 HRk c0 c1 c2 c3 f1 f2 f3
      go_upto_region 13 with (at_builtin; refine app_one elem_int (.tmp 46) (.tmp 48) [.int .i64 x] rfl rfl rfl hws rfl rfl rfl (by intro u hu; simp at hu; subst hu; rfl) hL19 ho5 ?_; intro v2 w5 o2 b2 _ gr2; obtain ⟨_, _, e2, _, _, _, f2, _⟩ := ((unhide HD1).mid hws gr2).cells4e; have D2 := hide (fun u (hu : u = v2) => (unhide HD1).putW (x := x) (show w5.ownsRow (G + 1) 3 1 u (L1.length + 1) (L1.map (Value.int .i64) ++ [.int .i64 x]) by rw [hu]; exact o2) gr2); have R2 := hide (fun u => RiIs.put (j := 2) (v' := u) (unhide H1) (unhide HD1) hws gr2); obtain ⟨A', c', hv', _, _, _⟩ := own_slice o2; subst hv')
      obtain ⟨w6, hw6⟩ : ∃ X, X = w5.setCell ⟨G, 2, none⟩ (.slice A' (L1.length + 1) c') := ⟨_, rfl⟩
      have hD2 := unhide D2 _ rfl
      have hR2 := unhide R2 (.slice A' (L1.length + 1) c')
      rw [← hw6] at hD2 hR2
      rw [← hw6]
      clear hw6 D2 R2 e2 f2 o2 b2 gr2 hws ho5 H1 HD1 g2 j2
      have hqr := many_range (b := b) (m := 63) (s := sx) (by decide)
      have t2 := hide (unhide HM w6 63 sx hR2 hD2.below)
      rw [hq] at t2 hqr
      obtain ⟨Q, rfl⟩ : ∃ Q : Nat, q = Q := ⟨q.toNat, by omega⟩
      rw [Int.toNat_natCast] at HNX
      have hQ : Q ≤ 63 := by omega
      clear hR2 hq hqr
      go_wp2_with fail
      refine (unhide t2).mono ?_
      rintro e w7 ⟨rfl, h5, hc5⟩
      have hD5 := hD2.chg hc5
      have hr5 : r < w7.heap.size := h5.blk.lt
      clear t2 hD2 hc5
      go_wp2_with fail
      go_loopw [11, 12] (fun v i wr => ∃ (j : Nat) (l : List Nd), j ≤ Q ∧ i = .int .i64 j ∧ l.length = j ∧ RiIs wr r A n c (rdNodes b s2 j).2 ∧ RowN w7.heap.size wr v l ∧ Chg r w7 wr ∧ Hid ((rdNodes b s2 j).2.bad = 0 → l = (rdNodes b s2 j).1)) (fun _ i _ => Q - (intOf i).toNat)
      case atStart => exact ⟨0, [], by omega, rfl, rfl, h5, World.ownsRow_nil _ _ _ _, Chg.refl _ _, hide (fun _ => rfl)⟩
      case round =>
        clear h5
        obtain ⟨j, l, hj, rfl, hlj, hR, hO, hC, HLL⟩ := hrel
        obtain ⟨wj, hwj⟩ : ∃ wi, wi = wr := ⟨_, rfl⟩
        subst hwj
        obtain ⟨nA, nc, hv, _, _, _⟩ := own_slice2 hO
        subst hv
        obtain ⟨sb, hsb⟩ : ∃ x, x = (rdNodes b s2 j).2.bad := ⟨_, rfl⟩
        have HSB := hide hsb
        obtain ⟨c0, c1, c2, c3, f1, f2, f3⟩ := hR.cells
        rw [← hsb] at c3
        have HR := hide hR
        have HLJ := hide hlj
        have HO := hide hO
        have HC := hide hC
        have HD5 := hide hD5
        clear hsb hR hlj hO hC hD5
        go_upto_region 16 with (fail)
        go_cut [62] (fun v wx => v = .bool (decide (j < Q ∧ sb = 0)) ∧ wx = wj)
        case first =>
          by_cases hlt : j < Q
          · by_cases h0 : sb = 0
            · have d : (sb == 0) = true := by simpa using h0
              have HEQ : Hid (decide (j < Q ∧ sb = 0) = true) := hide (decide_eq_true ⟨hlt, h0⟩)
              clear h0
              go_wp2_with fail
              go_meet
              exact ⟨by rw [unhide HEQ], rfl⟩
            · have d : (sb == 0) = false := by simpa using h0
              have HEQ : Hid (decide (j < Q ∧ sb = 0) = false) := hide (decide_eq_false (fun h => h0 h.2))
              clear h0
              go_wp2_with fail
              go_meet
              exact ⟨by rw [unhide HEQ], rfl⟩
          · have HEQ : Hid (decide (j < Q ∧ sb = 0) = false) := hide (decide_eq_false (fun h => hlt h.1))
            go_wp2_with fail
            go_meet
            exact ⟨by rw [unhide HEQ], rfl⟩
        case rest =>
        obtain ⟨rfl, hwx⟩ := hcut
        have hwx := hwx.symm
        subst hwx
        by_cases hgo : j < Q ∧ sb = 0
        · have e : decide (j < Q ∧ sb = 0) = true := decide_eq_true hgo
          rw [e]
          obtain ⟨hlt, h0⟩ := hgo
          subst h0
          --{
          have hll := unhide HLL (unhide HSB).symm
          have hR := unhide HR
          obtain ⟨sj, hsj⟩ : ∃ s, s = (rdNodes b s2 j).2 := ⟨_, rfl⟩
          obtain ⟨⟨yf, yc, yl, yr, yb, yv⟩, sy, hy⟩ : ∃ y sy, rdNode b sj = (y, sy) := ⟨_, _, rfl⟩
          have HNJ : Hid (rdNodes b s2 (j + 1) = (l ++ [⟨yf, yc, yl, yr, yb, yv⟩], sy)) := hide (by
            have : rdNodes b s2 (j + 1) = ((rdNodes b s2 j).1 ++ [(rdNode b (rdNodes b s2 j).2).1], (rdNode b (rdNodes b s2 j).2).2) := rfl
            rw [this, ← hsj, hy, hll])
          rw [← hsj] at hR
          clear HR hll HLL HSB hsj c0 c1 c2 c3 f1 f2 f3 e
          obtain ⟨fv, t1, hf1⟩ : ∃ fv t1, rdNum b sj = (fv, t1) := ⟨_, _, rfl⟩
          have hnod : (if fv = -1 then ((⟨-1, 0, 0, 0, false, (rdNum b t1).1⟩ : Nd), (rdNum b t1).2) else rdAsk b fv t1) = (⟨yf, yc, yl, yr, yb, yv⟩, sy) := by rw [← hy]; unfold rdNode; rw [hf1]
          have hfb : fv = -1 → t1.bad = 0 := fun h => Classical.byContradiction fun hb => by
            have : fv = 0 := by
              unfold rdNum at hf1
              by_cases h0 : sj.bad = 0
              · rw [if_pos h0] at hf1
                injection hf1 with a1 a2
                rw [← a2] at hb
                rw [← a1]; exact (getV_bad hb).1
              · rw [if_neg h0] at hf1
                injection hf1 with a1 a2
                exact a1.symm
            omega
          have HNOD := hide hnod
          have HFB := hide hfb
          clear hnod hfb hy
          obtain ⟨V, hV⟩ : ∃ V, V = wj.alloc (.cells #[.int .i64 0, .int .i64 0, .int .i64 0, .int .i64 0, .bool false, .int .i64 0] 111) := ⟨_, rfl⟩
          obtain ⟨M, hM⟩ : ∃ m, m = wj.heap.size := ⟨_, rfl⟩
          have hv : Blk V M 111 #[.int .i64 0, .int .i64 0, .int .i64 0, .int .i64 0, .bool false, .int .i64 0] := by rw [hV, hM]; exact Blk.new _ _ _
          have hcV : Chg r wj V := by rw [hV]; exact (Chg.refl r wj).alloc _
          have hV1 : RiIs V r A n c sj := by rw [hV]; exact hR.alloc _
          have hMw : wj.heap.size ≤ M := by omega
          have hrj := hR.blk.lt
          have hMr : M ≠ r := by omega
          have HB : Hid (∀ w', Chg r wj w' → Below w.heap.size w w') := hide (fun w' hc => ((unhide HD5).chg ((unhide HC).trans hc)).below)
          have u1 := hide (unhide HN V sj hV1 (unhide HB V hcV))
          rw [hf1] at u1
          clear hf1 hR hV1
          go_upto_region 19 with (fail)
          rw [← hV, ← hM]
          clear hV hM
          go_wp2_with fail
          refine (unhide u1).mono ?_
          rintro e x1 ⟨rfl, h1, hc1⟩
          have hv1 := hv.chg hc1 hMr
          have hcx := hcV.trans hc1
          obtain ⟨q0, q1, q2, q3, q4, q5⟩ := hv1.cells6
          have p0 := hv1.frozen 0
          have hv2 := hv1.set_ 0 (.int .i64 fv)
          have hc2 := hcx.setNew hMw 0 (.int .i64 fv)
          have h2 := h1.set_ (Ne.symm hMr) 0 (.int .i64 fv)
          simp only [List.setIfInBounds_toArray, List.set_cons_zero, List.set_cons_succ] at hv2
          obtain ⟨Y, hY⟩ : ∃ Y, Y = x1.setCell ⟨M, 0, none⟩ (.int .i64 fv) := ⟨_, rfl⟩
          rw [← hY] at hv2 hc2 h2
          clear u1 h1 hc1 hv hcV hv1 hcx
          go_upto_region 20 with (fail)
          rw [← hY]
          clear hY q0 q1 q2 q3 q4 q5 p0
          have q0 := hv2.cell 0
          simp at q0
          obtain ⟨tb, htb⟩ : ∃ x, x = t1.bad := ⟨_, rfl⟩
          have b3 : Y.cell? ⟨r, 3, none⟩ = some (.int .i64 tb) := by rw [htb]; exact h2.cells.2.2.2.1
          rw [← htb] at HFB
          have HTB := hide htb
          have HV2 := hide hv2
          have HC2 := hide hc2
          have H2 := hide h2
          clear htb hv2 hc2 h2
          go_cut [77] (fun v wx => v = .bool (decide (fv = -1)) ∧ wx = Y)
          case first =>
            by_cases h0 : tb = 0
            · have d : (tb == 0) = true := by simpa using h0
              have HEQ : Hid ((fv == -1) = decide (fv = -1)) := hide (by rw [Bool.eq_iff_iff]; simp)
              clear h0
              go_wp2_with fail
              go_meet
              exact ⟨by rw [← unhide HEQ], rfl⟩
            · have d : (tb == 0) = false := by simpa using h0
              have HEQ : Hid (decide (fv = -1) = false) := hide (decide_eq_false (fun h => h0 (unhide HFB h)))
              clear h0
              go_wp2_with fail
              go_meet
              exact ⟨by rw [unhide HEQ], rfl⟩
          case rest =>
          obtain ⟨rfl, hwx⟩ := hcut
          have hwx := hwx.symm
          subst hwx
          clear b3
          go_upto_if 77 with (fail)
          go_cut [] (fun wx => RiIs wx r A n c sy ∧ Blk wx M 111 #[.int .i64 yf, .int .i64 yc, .int .i64 yl, .int .i64 yr, .bool yb, .int .i64 yv] ∧ Chg r wj wx)
          case first =>
            have hv2 := unhide HV2
            have hc2 := unhide HC2
            have h2 := unhide H2
            clear HV2 HC2 H2
            by_cases hfv : fv = -1
            · have e : decide (fv = -1) = true := decide_eq_true hfv
              rw [e]
              have hnod := unhide HNOD
              rw [if_pos hfv] at hnod
              obtain ⟨vv, s3, hv3⟩ : ∃ vv s3, rdNum b t1 = (vv, s3) := ⟨_, _, rfl⟩
              rw [hv3] at hnod
              injection hnod with n1 n2
              injection n1 with a1 a2 a3 a4 a5 a6
              dsimp only at a6 n2
              subst hfv a1 a2 a3 a4 a5 a6 n2
              have u2 := hide (unhide HN Y t1 h2 (unhide HB Y hc2))
              rw [hv3] at u2
              clear hv3 e HNOD h2
              go_wp2_with fail
              refine (unhide u2).mono ?_
              rintro e x2 ⟨rfl, h3, hc3⟩
              have hv3 := hv2.chg hc3 hMr
              have hc4 := (hc2.trans hc3).setNew hMw 5 (.int .i64 vv)
              have h4 := h3.set_ (Ne.symm hMr) 5 (.int .i64 vv)
              have q5 := hv3.cell 5
              simp at q5
              have p5 := hv3.frozen 5
              have hv4 := hv3.set_ 5 (.int .i64 vv)
              simp only [List.setIfInBounds_toArray, List.set_cons_zero, List.set_cons_succ] at hv4
              have HX := hide (And.intro h4 (And.intro hv4 hc4))
              clear u2 h3 hc3 hv2 hc2 hv3 hc4 h4 hv4 q0
              go_wp2_with fail
              go_meet
              exact unhide HX
            · have e : decide (fv = -1) = false := decide_eq_false hfv
              rw [e]
              have hnod := unhide HNOD
              rw [if_neg hfv] at hnod
              obtain ⟨z1, s3, hz1⟩ : ∃ vv s3, rdNum b t1 = (vv, s3) := ⟨_, _, rfl⟩
              obtain ⟨z2, s4, hz2⟩ : ∃ vv s, rdNum b s3 = (vv, s) := ⟨_, _, rfl⟩
              obtain ⟨z3, s5, hz3⟩ : ∃ vv s, rdNum b s4 = (vv, s) := ⟨_, _, rfl⟩
              obtain ⟨z4, s6, hz4⟩ : ∃ vv s, rdNum b s5 = (vv, s) := ⟨_, _, rfl⟩
              unfold rdAsk rdLess at hnod
              rw [hz1] at hnod; dsimp only at hnod
              rw [hz2] at hnod; dsimp only at hnod
              rw [hz3] at hnod; dsimp only at hnod
              rw [hz4] at hnod; dsimp only at hnod
              injection hnod with n1 n2
              injection n1 with a1 a2 a3 a4 a5 a6
              subst a1 a2 a3 a4 a6
              have HA5 := hide a5
              have HN2 := hide n2
              have u2 := hide (unhide HN Y t1 h2 (unhide HB Y hc2))
              rw [hz1] at u2
              have v3 := hide (fun w' h hc => unhide HN w' s3 h (unhide HB w' hc))
              rw [hz2] at v3
              have v4 := hide (fun w' h hc => unhide HN w' s4 h (unhide HB w' hc))
              rw [hz3] at v4
              have v5 := hide (fun w' h hc => unhide HN w' s5 h (unhide HB w' hc))
              rw [hz4] at v5
              clear hz1 hz2 hz3 hz4 e HNOD h2 a5 n2 hfv q0
              go_wp2_with fail
              refine (unhide u2).mono ?_
              rintro e x2 ⟨rfl, h3, hc3⟩
              have hv3 := hv2.chg hc3 hMr
              have q1 := hv3.cell 1
              simp at q1
              have p1 := hv3.frozen 1
              have hv4 := hv3.set_ 1 (.int .i64 z1)
              have hc4 := (hc2.trans hc3).setNew hMw 1 (.int .i64 z1)
              have h4 := h3.set_ (Ne.symm hMr) 1 (.int .i64 z1)
              obtain ⟨Y2, hY2⟩ : ∃ Y, Y = x2.setCell ⟨M, 1, none⟩ (.int .i64 z1) := ⟨_, rfl⟩
              rw [← hY2] at hv4 hc4 h4
              simp only [List.setIfInBounds_toArray, List.set_cons_zero, List.set_cons_succ] at hv4
              have u3 := hide (unhide v3 Y2 h4 hc4)
              clear u2 h3 hc3 hv2 hc2 hv3 h4 v3
              go_wp2_with fail
              rw [← hY2]
              clear hY2 q1 p1
              refine (unhide u3).mono ?_
              rintro e x3 ⟨rfl, h5, hc5⟩
              have hv5 := hv4.chg hc5 hMr
              have q1 := hv5.cell 2
              simp at q1
              have p1 := hv5.frozen 2
              have hv6 := hv5.set_ 2 (.int .i64 z2)
              have hc6 := (hc4.trans hc5).setNew hMw 2 (.int .i64 z2)
              have h6 := h5.set_ (Ne.symm hMr) 2 (.int .i64 z2)
              obtain ⟨Y3, hY3⟩ : ∃ Y, Y = x3.setCell ⟨M, 2, none⟩ (.int .i64 z2) := ⟨_, rfl⟩
              rw [← hY3] at hv6 hc6 h6
              simp only [List.setIfInBounds_toArray, List.set_cons_zero, List.set_cons_succ] at hv6
              have u4 := hide (unhide v4 Y3 h6 hc6)
              clear u3 h5 hc5 hv4 hc4 hv5 h6 v4
              go_wp2_with fail
              rw [← hY3]
              clear hY3 q1 p1
              refine (unhide u4).mono ?_
              rintro e x4 ⟨rfl, h7, hc7⟩
              have hv7 := hv6.chg hc7 hMr
              have q1 := hv7.cell 3
              simp at q1
              have p1 := hv7.frozen 3
              have hv8 := hv7.set_ 3 (.int .i64 z3)
              have hc8 := (hc6.trans hc7).setNew hMw 3 (.int .i64 z3)
              have h8 := h7.set_ (Ne.symm hMr) 3 (.int .i64 z3)
              obtain ⟨Y4, hY4⟩ : ∃ Y, Y = x4.setCell ⟨M, 3, none⟩ (.int .i64 z3) := ⟨_, rfl⟩
              rw [← hY4] at hv8 hc8 h8
              simp only [List.setIfInBounds_toArray, List.set_cons_zero, List.set_cons_succ] at hv8
              have u5 := hide (unhide v5 Y4 h8 hc8)
              clear u4 h7 hc7 hv6 hc6 hv7 h8 v5
              go_wp2_with fail
              rw [← hY4]
              clear hY4 q1 p1
              refine (unhide u5).mono ?_
              rintro e x5 ⟨rfl, h9, hc9⟩
              have hv9 := hv8.chg hc9 hMr
              have hc10 := hc8.trans hc9
              clear u5 hc9 hv8 hc8
              obtain ⟨⟨sat, snx, sbb⟩, hs6⟩ : ∃ s, s = s6 := ⟨_, rfl⟩
              rw [← hs6] at h9 HN2
              clear hs6
              obtain ⟨b0, b1, b2, b3, k1, k2, k3⟩ := h9.cells
              dsimp only at b0 b1 b2 b3
              go_upto_region 26 with (fail)
              go_cut [104] (fun v wx => v = .bool (decide (sbb = 0 ∧ z4 ≠ 0 ∧ z4 ≠ 1)) ∧ wx = x5)
              case first =>
                by_cases h0 : sbb = 0
                · have d : (sbb == 0) = true := by simpa using h0
                  by_cases hq0 : z4 = 0
                  · have HEQ : Hid (decide (sbb = 0 ∧ z4 ≠ 0 ∧ z4 ≠ 1) = false) := hide (decide_eq_false (fun h => h.2.1 hq0))
                    subst hq0
                    clear h0
                    go_wp2_with fail
                    go_meet
                    exact ⟨by rw [unhide HEQ], rfl⟩
                  · have dd : (z4 != 0) = true := by simpa using hq0
                    have HEQ : Hid ((z4 != 1) = decide (sbb = 0 ∧ z4 ≠ 0 ∧ z4 ≠ 1)) := hide (by rw [Bool.eq_iff_iff]; simp [h0, hq0])
                    clear h0 hq0
                    go_wp2_with fail
                    go_meet
                    exact ⟨by rw [← unhide HEQ], rfl⟩
                · have d : (sbb == 0) = false := by simpa using h0
                  have HEQ : Hid (decide (sbb = 0 ∧ z4 ≠ 0 ∧ z4 ≠ 1) = false) := hide (decide_eq_false (fun h => h0 h.1))
                  clear h0
                  go_wp2_with fail
                  go_meet
                  exact ⟨by rw [unhide HEQ], rfl⟩
              case rest =>
              obtain ⟨rfl, hwx⟩ := hcut
              have hwx := hwx.symm
              subst hwx
              have HA := hide (beq_dec z4)
              rw [← unhide HA] at HA5
              by_cases hbt : sbb = 0 ∧ z4 ≠ 0 ∧ z4 ≠ 1
              · have e : decide (sbb = 0 ∧ z4 ≠ 0 ∧ z4 ≠ 1) = true := decide_eq_true hbt
                rw [e]
                obtain ⟨e0, e1, e2⟩ := hbt
                subst e0
                have hml : mayLess z4 = false := by unfold mayLess; exact decide_eq_false (fun h => by omega)
                have hN2 := unhide HN2
                rw [hml, rdMust_no rfl] at hN2
                subst hN2
                have h10 : RiIs (x5.setCell ⟨r, 3, none⟩ (.int .i64 2)) r A n c ⟨sat, snx, 2⟩ := ⟨by have := h9.blk.set_ 3 (.int .i64 2); simpa [List.setIfInBounds_toArray] using this, h9.nx⟩
                have hv10 := hv9.far (p := ⟨r, 3, none⟩) (by show M ≠ r; exact hMr) (.int .i64 2)
                have hc11 := hc10.set_ 3 (.int .i64 2)
                obtain ⟨x6, hx6⟩ : ∃ Y, Y = x5.setCell ⟨r, 3, none⟩ (.int .i64 2) := ⟨_, rfl⟩
                rw [← hx6] at h10 hv10 hc11
                clear HN2 hml e h9 hv9 hc10
                go_upto_region 28 with (fail)
                rw [← hx6]
                clear hx6 b0 b1 b2 b3 k1 k2 k3 e1 e2
                have q4 := hv10.cell 4
                simp at q4
                have p4 := hv10.frozen 4
                obtain ⟨bl, hbl⟩ : ∃ bl, bl = (z4 == 1) := ⟨_, rfl⟩
                rw [← hbl] at HA5
                have hbl2 := hbl.symm
                have hv11 := hv10.set_ 4 (.bool bl)
                simp only [List.setIfInBounds_toArray, List.set_cons_zero, List.set_cons_succ] at hv11
                have HX := hide (And.intro (h10.set_ (Ne.symm hMr) 4 (.bool bl)) (And.intro hv11 (hc11.setNew hMw 4 (.bool bl))))
                clear h10 hv10 hc11 hv11 hbl HA
                go_wp2_with fail
                go_meet
                rw [← unhide HA5]
                exact unhide HX
              · have e : decide (sbb = 0 ∧ z4 ≠ 0 ∧ z4 ≠ 1) = false := decide_eq_false hbt
                rw [e]
                have hN2 : (⟨sat, snx, sbb⟩ : Rd) = sy := by
                  rw [← unhide HN2]
                  by_cases h0 : sbb = 0
                  · have hml : mayLess z4 = true := by unfold mayLess; exact decide_eq_true (by omega)
                    rw [hml, rdMust_ok]
                  · exact (rdMust_bad h0).symm
                subst hN2
                clear HN2 e hbt
                go_upto_region 28 with (fail)
                clear b0 b1 b2 b3 k1 k2 k3
                have q4 := hv9.cell 4
                simp at q4
                have p4 := hv9.frozen 4
                obtain ⟨bl, hbl⟩ : ∃ bl, bl = (z4 == 1) := ⟨_, rfl⟩
                rw [← hbl] at HA5
                have hbl2 := hbl.symm
                have hv11 := hv9.set_ 4 (.bool bl)
                simp only [List.setIfInBounds_toArray, List.set_cons_zero, List.set_cons_succ] at hv11
                have HX := hide (And.intro (h9.set_ (Ne.symm hMr) 4 (.bool bl)) (And.intro hv11 (hc10.setNew hMw 4 (.bool bl))))
                clear h9 hv9 hc10 hv11 hbl HA
                go_wp2_with fail
                go_meet
                rw [← unhide HA5]
                exact unhide HX
          case rest =>
          obtain ⟨h1, hv1, hc1⟩ := hcut
          obtain ⟨x9, hx9⟩ : ∃ w4, w4 = wc := ⟨_, rfl⟩
          subst hx9
          have hO1 : RowN w7.heap.size x9 _ l := own_chg (unhide HO) hc1 hr5
          have hC1 := (unhide HC).trans hc1
          have hsz1 := hC1.size
          have hl9 : l.length < 1000000000 := by have := unhide HLJ; omega
          obtain ⟨q0, q1, q2, q3, q4, q5⟩ := hv1.cells6
          have H1 := hide h1
          have HC1 := hide hC1
          clear HV2 HC2 H2 HFB HTB HNOD h1 hv1 hc1 hC1 HO HC
          go_wp2_with (at_builtin; refine app_one elem_nodeD (.tmp 111) (.tmp 113) [.int .i64 yf, .int .i64 yc, .int .i64 yl, .int .i64 yr, .bool yb, .int .i64 yv] rfl rfl rfl hO1 rfl rfl rfl (node_oneD ⟨yf, yc, yl, yr, yb, yv⟩) hl9 hsz1 ?_; intro v2 x2 o2 b2 _ g2)
          have o3 : RowN w7.heap.size x2 v2 (l ++ [⟨yf, yc, yl, yr, yb, yv⟩]) := by
            unfold RowN
            rw [List.length_append, List.flatMap_append]
            simpa [Nd.cells] using o2
          have h2 : RiIs x2 r A n c sy := ⟨((unhide H1).blk.alloc _).grown g2 (fun e => by have := own_block_ge hO1 r e.symm; omega), (unhide H1).nx⟩
          have hC2 := (unhide HC1).grownNew g2 (own_block_ge hO1)
          go_roundw
          case rel => exact ⟨j + 1, _, by omega, by go_num, by rw [List.length_append, unhide HLJ]; rfl, by rw [unhide HNJ]; exact h2, o3, hC2, hide (fun _ => by rw [unhide HNJ])⟩
          case measure => simp [intOf]; omega
          --}
        · have e : decide (j < Q ∧ sb = 0) = false := decide_eq_false hgo
          rw [e]
          have hend : (rdNodes b s2 Q).2 = (rdNodes b s2 j).2 ∧ ((rdNodes b s2 Q).2.bad = 0 → l = (rdNodes b s2 Q).1) := by
            by_cases hjq : j < Q
            · have hb0 : (rdNodes b s2 j).2.bad ≠ 0 := fun h => hgo ⟨hjq, by rw [unhide HSB]; exact h⟩
              have := rdNodes_stay hb0 (Q - j)
              rw [show j + (Q - j) = Q by omega] at this
              exact ⟨this, fun h => by rw [this] at h; exact absurd h hb0⟩
            · obtain rfl : j = Q := by omega
              exact ⟨rfl, unhide HLL⟩
          have hR := unhide HR
          rw [← hend.1] at hR
          have HLQ := hide hend.2
          obtain ⟨s3, hs3⟩ : ∃ l, l = (rdNodes b s2 Q).2 := ⟨_, rfl⟩
          obtain ⟨lQ, hlQ⟩ : ∃ l, l = (rdNodes b s2 Q).1 := ⟨_, rfl⟩
          rw [← hs3] at hR HNX HLQ
          rw [← hlQ] at HNX HLQ
          have hDj := (unhide HD5).chg (unhide HC)
          have ht : wj.ownsRow (G + 1) 111 6 (Tr.val ⟨nA, l.length, nc, l⟩) l.length (l.flatMap Nd.cells) := own_base (unhide HO) (unhide HD5).o5
          have hG3 : wj.cell? ⟨G, 3, none⟩ = some vt := hDj.gb.cell 3
          have htr := hDj.tr
          have h5' := hDj.o5
          have htl9 : ts.length < 1000000000 := by omega
          have HDj := hide hDj
          have HR := hide hR
          clear hs3 hlQ hR hDj hend HSB HLL HO HC HD5 HLJ c0 c1 c2 c3 f1 f2 f3 e hgo
          go_wp2_with (at_builtin; refine app_one elem_treesD (.tmp 116) (.tmp 118) [.slice nA l.length nc] rfl rfl rfl htr rfl rfl rfl (by intro u hu; simp at hu; subst hu; rfl) htl9 h5' ?_; intro v2 x2 o2 b2 _ g2; obtain ⟨_, _, _, e3, _, _, _, f3⟩ := ((unhide HDj).mid htr g2).cells4e; have D2 := hide (fun u (hu : u = v2) => (unhide HDj).putT (t := ⟨nA, l.length, nc, l⟩) ht (show x2.ownsRow (G + 1) 109 1 u (ts.length + 1) (ts.map Tr.val ++ [Tr.val ⟨nA, l.length, nc, l⟩]) by rw [hu]; exact o2) g2); have R2 := hide (fun u => RiIs.put (j := 3) (v' := u) (unhide HR) (unhide HDj) htr g2); obtain ⟨A', c', hv', _, _, _⟩ := own_slice o2; subst hv')
          go_roundw
          case rel =>
            have hL1 := unhide HL1
            refine ⟨k + 1, ts ++ [⟨nA, l.length, nc, l⟩], _, _, L1 ++ [x], by omega, by go_num, by rw [List.length_append, unhide HL1K]; rfl, by rw [List.length_append, unhide HTSK]; rfl, by rw [unhide HNX]; exact unhide R2 _, unhide D2 _ rfl, hide (fun hb => ?_)⟩
            rw [unhide HNX] at hb ⊢
            have e1 := unhide HLQ hb
            dsimp only
            rw [List.map_append, List.map_append, List.map_append, ← hL1, unhide HTS3, e1]
            exact ⟨rfl, rfl⟩
          case measure => simp [intOf]; omega
      --}
    · have e : decide (k < m ∧ sb = 0) = false := decide_eq_false hgo
      rw [e]
      have hend : (rdT b).2 = (rdTrees b S0 k).2 ∧ ((rdT b).2.bad = 0 → L1 = (rdT b).1.map (·.1) ∧ ts.map (·.l) = (rdT b).1.map (·.2)) := by
        rw [unhide HTT]
        by_cases hkm : k < m
        · have hb0 : (rdTrees b S0 k).2.bad ≠ 0 := fun h => hgo ⟨hkm, by rw [unhide HSB]; exact h⟩
          have := rdTrees_stay hb0 (m - k)
          rw [show k + (m - k) = m by omega] at this
          exact ⟨this, fun h => by rw [this] at h; exact absurd h hb0⟩
        · obtain rfl : k = m := by omega
          exact ⟨rfl, unhide HTS⟩
      rw [← hend.1] at hR
      have HTS := hide hend.2
      have hro := hD.o2
      have hrG := hD.o3
      have hGB := hD.o4
      obtain ⟨⟨Sat, Snx, Sbad⟩, hS⟩ : ∃ S, S = (rdT b).2 := ⟨_, rfl⟩
      rw [← hS] at hR HTE HTS
      clear hS hend e hgo HSB c0 c1 c2 c3 f1 f2 f3 HL1K HTSK HTT
      dsimp only at HTE HTS
      have HFIN : Hid (∀ (X : World) (at_ : Nat) (er : Int), at_ = (finS b).at_ → er = finE b → er ≠ 0 → Blk X K 73 #[.int .i64 0, .int .i64 0, .slice none 0 0, .slice none 0 0] → Below w.heap.size w X →
          Blk (set4 X K (.int .i64 0) (.int .i64 0) (.slice none 0 0) (.slice none 0 0)) K 73 #[.int .i64 0, .int .i64 0, .slice none 0 0, .slice none 0 0] ∧ DecPost intV b w (.returned (.tuple #[nilG.val, .int .i64 (at_ : Int), intV er])) (set4 X K (.int .i64 0) (.int .i64 0) (.slice none 0 0) (.slice none 0 0))) := hide (fun X at_ er h1 h2 h3 h4 h5 => by
        have hde : decE b = (at_, er) := by rw [unhide HDF, if_neg (by rw [← h2]; exact h3), h1, h2]
        exact ⟨h4.set4_ _ _ _ _, DecPost.no hde h3 ((((h5.setCell (p := ⟨K, 0, none⟩) hKw _).setCell (p := ⟨K, 1, none⟩) hKw _).setCell (p := ⟨K, 2, none⟩) hKw _).setCell (p := ⟨K, 3, none⟩) hKw _)⟩)
      unfold intV at HFIN
      have hrK1 : ¬ r = K := by omega
      have hrK2 : ¬ K = r := by omega
      obtain ⟨c0, c1, c2, c3, f1, f2, f3⟩ := hR.cells
      dsimp only at c1 c2 c3
      by_cases h0 : Sbad = 0
      · skip
        subst h0
        have hTE := unhide HTE
        rw [if_pos rfl] at hTE
        try dsimp only at hTE
        have hts := unhide HTS rfl
        by_cases hnx : Snx = n
        · skip
          have d : ((Snx : Int) != (n : Int)) = false := by simp; omega
          rw [decide_eq_true hnx, rdMust_ok] at hTE
          have HT2 := hide hTE
          obtain ⟨hL1, hTS⟩ := hts
          subst hL1
          obtain ⟨o, hvw, hvt, of, oway, ows, ots, hor⟩ := hD.reads
          have HO : Hid (o.e = decGE b) := hide (by
            unfold Gv.e Gv.trees
            rw [of, oway, ows, ots, unhide HGE, hTS])
          have t2 := hide (rgrove_any o wi hor)
          have HRES : Hid (decE b = (0, 0) → ∀ X' Y, DSt w X' r K G (G + 1) f way ((rdT b).1.map (·.1)) ts vw vt → Chg K X' Y → DecPost intV b w (.returned (.tuple #[o.val, .int .i64 0, .int .i64 0])) Y) := hide (fun hde X' Y h1 h2 => ⟨o, by rw [hde]; rfl, h1.readsK h2 (by omega) hvw hvt ows ots, h1.below.trans (h2.below hKw h1.below.size), fun _ => ⟨by rw [of]; exact unhide HF, by rw [oway]; exact unhide HWY, ows, by unfold Gv.trees; rw [ots]; exact hTS⟩, fun h => absurd (by rw [hde]) h⟩)
          obtain ⟨E, hE⟩ : ∃ E, E = o.e := ⟨_, rfl⟩
          rw [← hE] at HO t2
          obtain ⟨of_, oway_, oAw, onw, ocw, ows_, oAt, ont, oct, ots_⟩ := o
          dsimp only at hvw hvt of oway
          subst hvw hvt of oway
          unfold Gv.val at t2 HRES
          dsimp only at t2 HRES
          obtain ⟨g0, g1, g2, g3, _⟩ := hD.gb.cells4e
          clear hor ows ots hE hnx hTE hTS HTE HTS
          go_wp2_with fail
          refine (unhide t2).mono ?_
          rintro e w2 ⟨rfl, hb2⟩
          have h3 := hR.below hb2
          have hD3 := hD.more hb2
          clear t2 hR hD hb2 g0 g1 g2 g3 c0 c1 c2 c3 f1 f2 f3 d
          have hbad : (finS b).bad = 0 := by rw [unhide HT2]
          have hfe : finE b = E := by rw [unhide HFE, if_pos hbad]; exact (unhide HO).symm
          obtain ⟨g0, g1, g2, g3, _⟩ := hD3.gb.cells4e
          by_cases hE : E = 0
          · skip
            subst hE
            have hde : decE b = (0, 0) := by rw [unhide HDF, if_pos hfe]
            have hkb := hD3.kb
            unfold zeroG at hkb
            obtain ⟨k0, k1, k2, k3, j0, j1, j2, j3⟩ := hkb.cells4e
            have HSET := hide (hkb.set4_ (.int .i64 of_) (.int .i64 oway_) (.slice oAw onw ocw) (.slice oAt ont oct))
            have HR2 := hide (unhide HRES hde w2 (set4 w2 K (.int .i64 of_) (.int .i64 oway_) (.slice oAw onw ocw) (.slice oAt ont oct)) hD3 ((Chg.refl K w2).set4_ _ _ _ _))
            clear hkb hD3 h3 HRES hde HFIN HO HT2 hbad hfe
            go_wp2_with fail
            exact rdec_ret (unhide HSET) (unhide HR2) rfl rfl rfl
          · skip
            have hx := unhide HFIN w2.drew Snx E (by rw [unhide HT2]) hfe.symm hE hD3.drew.kb hD3.drew.below
            have HX := hide hx
            have d : (E == 0) = false := by simpa using hE
            have x2 : w2.cell? ⟨r, 2, none⟩ = some (.int .i64 (Snx : Int)) := h3.cells.2.2.1
            have hkb := hD3.kb
            unfold zeroG at hkb
            obtain ⟨k0, k1, k2, k3, j0, j1, j2, j3⟩ := hkb.cells4e
            clear hkb hD3 h3 HRES HFIN HO HT2 hbad hfe hE hx g0 g1 g2 g3
            go_upto_region 37 with (fail)
            go_region_held3 (fun w' => w'.cell? ⟨r, 2, none⟩ = some (.int .i64 (Snx : Int)))
              (first | exact x2 | go_keep)
              (fail)
            go_wp2_with fail
            exact rdec_ret (unhide HX).1 (unhide HX).2 rfl rfl rfl
        · skip
          have d : ((Snx : Int) != (n : Int)) = true := by simp; omega
          rw [decide_eq_false hnx, rdMust_no rfl] at hTE
          have hfe : finE b = 2 := by rw [unhide HFE, hTE, if_neg (by show ¬ (2 : Int) = 0; decide)]
          have HX := hide (unhide HFIN wi.drew Snx 2 (by rw [hTE]) hfe.symm (by decide) hD.drew.kb hD.drew.below)
          have hkb := hD.kb
          unfold zeroG at hkb
          obtain ⟨k0, k1, k2, k3, j0, j1, j2, j3⟩ := hkb.cells4e
          clear hkb hnx hTE hfe hR hD HFIN hts HTE HTS
          go_upto_region 34 with (fail)
          go_region_held3 (fun w' => w'.cell? ⟨r, 2, none⟩ = some (.int .i64 (Snx : Int)))
            (first | exact c2 | go_keep)
            (fail)
          go_wp2_with fail
          exact rdec_ret (unhide HX).1 (unhide HX).2 rfl rfl rfl
      · skip
        have hTE := unhide HTE
        rw [if_neg h0] at hTE
        have hfe : finE b = Sbad := by rw [unhide HFE, hTE]; exact if_neg h0
        have HX := hide (unhide HFIN wi.drew Sat Sbad (by rw [hTE]) hfe.symm h0 hD.drew.kb hD.drew.below)
        have hkb := hD.kb
        have d : (Sbad == 0) = false := by simpa using h0
        unfold zeroG at hkb
        obtain ⟨k0, k1, k2, k3, j0, j1, j2, j3⟩ := hkb.cells4e
        clear hkb hR hD h0 hTE hfe HFIN HTE HTS
        go_upto_region 32 with (fail)
        go_region_held3 (fun w' => w'.cell? ⟨r, 1, none⟩ = some (.int .i64 (Sat : Int)) ∧ w'.cell? ⟨r, 3, none⟩ = some (.int .i64 Sbad))
          (first | exact ⟨c1, c3⟩ | go_keep)
          (fail)
        go_wp2_with fail
        exact rdec_ret (unhide HX).1 (unhide HX).2 rfl rfl rfl
end Go.Proofs.YtijgiieoinmjhaaDoor
