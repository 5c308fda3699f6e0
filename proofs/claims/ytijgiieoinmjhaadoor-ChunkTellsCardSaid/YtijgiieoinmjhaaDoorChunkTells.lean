/- ChunkTells: the walk. Conditions: arguments read as lists, and the handle that errors need. -/
import Derived.Test.YtijgiieoinmjhaaDoorChunkTellsQ
import Derived.Test.YtijgiieoinmjhaaDoorTold2
import Derived.Laws.BytesArg
import Derived.Laws.BytesString
import Derived.Deep.DeepCutAuto
import Derived.Deep.CutRange
namespace Go.Proofs.YtijgiieoinmjhaaDoor
set_option linter.unusedVariables false
set_option linter.unusedSimpArgs false
open Go.RowKit Go.Maps

theorem calls_nameT {P : Program} {f : FuncId} {xs : Array Value} {W : World} {Q : Ending → World → Prop} (h : ∀ X, X = W → Calls P f xs X Q) : Calls P f xs W Q := h W rfl
theorem wp_nameT {P : Program} {c : Code} {Q : Exit → Act → World → Prop} {a : Act} {W : World} (h : ∀ X, X = W → Code.wp P c Q a X) : Code.wp P c Q a W := h W rfl
theorem bytes_info : (Tryd.prog.info? 22).map (fun i => (i.zero, i.size, i.bytes)) = some (some (.slice none 0 0), 1, 24) := by kernel_rfl

theorem pt6_of {l : List Pt} (h : partsE l = 0) : ∀ p ∈ l, p.size ≤ 6000 := by
  unfold partsE at h
  by_cases h1 : 100 < l.length
  · rw [if_pos h1] at h; cases h
  · rw [if_neg h1] at h
    by_cases h2 : l.all ptGood
    · intro p hp
      exact (ptGood_t.1 (List.all_eq_true.1 h2 p hp)).2.1
    · rw [if_neg h2] at h; cases h
theorem pt1_of {l : List Pt} (h : partsE l = 0) : ∀ p ∈ l, 1 ≤ p.size := by
  unfold partsE at h
  by_cases h1 : 100 < l.length
  · rw [if_pos h1] at h; cases h
  · rw [if_neg h1] at h
    by_cases h2 : l.all ptGood
    · intro p hp
      exact (ptGood_t.1 (List.all_eq_true.1 h2 p hp)).1
    · rw [if_neg h2] at h; cases h
theorem u8_all {l : List Int} (h : ∀ x ∈ l, (Lit.int .u8 x).wf = true) : ∀ x ∈ l, 0 ≤ x ∧ x < 256 := by
  intro x hx
  have := h x hx
  simp [Lit.wf, IntKind.min, IntKind.max, IntKind.bits, IntKind.signed] at this
  omega
/-- what holds between two rounds -/
def CtInv (l : List Pt) (g b hb B2 : Nat) (A' : Option Addr) (c' : Nat) (w2 wr : World) : Prop :=
  ∃ S hs nn D, FetchIs wr g b l S A' c' nn D ∧ nn = there S ∧ HasIs wr hb S hs ∧ Below B2 w2 wr

set_option maxRecDepth 100000 in
set_option maxHeartbeats 16000000 in
theorem chunkTells_walk (A : Option Addr) (n c : Nat) (l : List Int) (sz : Int) (C : Option Addr) (np cp : Nat) (parts : List Pt) (D : Option Addr) (no oc : Nat) (order : List Int) (E : Option Addr) (ne ec : Nat) (puts : List Ns) (w : World) (he : ErrT w)
    (hr : BReads w w.heap.size A n l) (hn : n ≤ maxLen) (hnc : n ≤ c) (hby : ∀ x ∈ l, 0 ≤ x ∧ x < 256) (hp : PReads w w.heap.size C np parts) (hpn : np ≤ maxLen) (hpA : C = none → cp = 0)
    (ho : IReads w w.heap.size D no order) (hno : no ≤ maxLen) (hu : NsReads .u8 w w.heap.size E ne puts) (hne : ne ≤ maxLen) :
    Calls Tryd.prog 4 #[.slice A n c, .int .i64 sz, .slice C np cp, .slice D no oc, .slice E ne ec] w fun e w' => e = .returned (.bool true) ∧ Below w.heap.size w w' := by
  have s1 := hide (sum_any A n c w.heap.size l w hr hn hby)
  have s2 := hide (rsum_any A n c w.heap.size l w hr hn hby)
  have s3 := hide (rplan_any A n c w.heap.size l sz w hr (Nat.le_refl _) hn hnc hby)
  have HLL := hide hr.len
  go_enter Tryd.func4, Tryd.ntmps4
  go_wp2_with fail
  refine (unhide s1).mono ?_
  rintro e w1 ⟨rfl, rfl⟩
  go_wp2_with fail
  refine (unhide s2).mono ?_
  rintro e w1 ⟨rfl, rfl⟩
  have q0 : (sumV l != sumV l) = false := by simp
  clear s1 s2
  go_wp2_with fail
  refine (unhide s3).mono ?_
  rintro e w1 ⟨v1, rfl, hp1, hp2, hb1⟩
  clear s3 q0
  have s4 := hide (plan_any A n c w.heap.size l sz w1 (Reads.below hr hb1) hb1.size hn hnc hby)
  go_wp2_with fail
  refine (unhide s4).mono ?_
  rintro e w2 ⟨v2, rfl, hq1, hq2, hb2⟩
  clear s4
  obtain ⟨A1, c1, A2, c2, k0, xs, rfl, rfl, hx1, hx2, hk0⟩ := plans_same (w := w) (w1 := w1) (w2 := w2) (e1 := .returned (.bool true)) (unhide HLL) hp1 hp2 hq1 hq2 hb2
  clear hp1 hp2 hq1 hq2
  have hB2 := hb1.trans (hb2.mono hb1.size)
  obtain ⟨pe, hpe⟩ : ∃ pe, pe = planE n sz := ⟨_, rfl⟩
  rw [← hpe]
  clear hpe
  have s5 := hide (error_any pe pe w2 (he.below hB2 he.lt))
  go_wp2_with fail
  refine (unhide s5).mono ?_
  rintro e w3 ⟨rfl, hb3⟩
  rw [beq_self_eq_true]
  clear s5
  have hB3 := hB2.trans (hb3.mono hB2.size)
  have s6 := hide (sameParts_any A2 A1 k0 c2 c1 xs w3 _ _ (Reads.below hx2 hb3) (Reads.below hx1 (hb3.mono hb2.size)) hk0)
  clear hx1 hx2 hb1 hb2 hb3 hB2
  go_wp2_with fail
  refine (unhide s6).mono ?_
  rintro e w4 ⟨rfl, q4, rfl⟩
  clear s6
  have hB4 := below_drewN hB3 q4
  have s7 := hide (rparts_any C np cp w.heap.size parts (w3.drewN q4) (hp.below hB4) hpn)
  have s8 := hide (parts_any C np cp w.heap.size parts (w3.drewN q4) (hp.below hB4) hB4.size hpn)
  clear hB3
  generalize w3.drewN q4 = w4 at *
  go_wp2_with fail
  refine (unhide s7).mono ?_
  rintro e w5 ⟨rfl, rfl⟩
  go_wp2_with fail
  refine (unhide s8).mono ?_
  rintro e w5 ⟨rfl, hb5⟩
  clear s7 s8
  have hB5 := hB4.trans (hb5.mono hB4.size)
  clear hB4 hb5
  have s9 := hide (error_any (partsE parts) (partsE parts) w5 (he.below hB5 he.lt))
  go_wp2_with fail
  refine (unhide s9).mono ?_
  rintro e w6 ⟨rfl, hb6⟩
  rw [beq_self_eq_true]
  clear s9
  have hB6 := hB5.trans (hb6.mono hB5.size)
  clear hB5 hb6
  by_cases hpE : partsE parts = 0
  case neg =>
    --{
    have s10 := hide (new_bad C np cp w.heap.size parts w6 (hp.below hB6) hB6.size hpn hpE)
    go_wp2_with fail
    refine (unhide s10).mono ?_
    rintro e w7 ⟨rfl, hb7⟩
    clear s10
    have hB7 := hB6.trans (hb7.mono hB6.size)
    obtain ⟨pf, hpf⟩ : ∃ pf, pf = partsE parts := ⟨_, rfl⟩
    rw [← hpf] at hpE ⊢
    clear hpf hB6 hb7
    have s11 := hide (error_any pf pf w7 (he.below hB7 he.lt))
    have b1 : (pf != 0) = true := by simpa using hpE
    clear hpE
    go_wp2_with fail
    refine (unhide s11).mono ?_
    rintro e w8 ⟨rfl, hb8⟩
    rw [beq_self_eq_true]
    have hB8 := hB7.trans (hb8.mono hB7.size)
    clear s11
    go_wp2_with fail
    go_ret
    exact ⟨rfl, hB8⟩
    --}
  have s10 := hide (new_any C np cp w.heap.size parts w6 (hp.below hB6) hB6.size hpn hpA hpE)
  go_wp2_with fail
  refine (unhide s10).mono ?_
  rintro e w7 ⟨g, b, A', c', D', rfl, hF, hbge, hgge, hb7⟩
  clear s10
  have s11 := hide (error_any 0 0 w7 (he.below (hB6.trans (hb7.mono hB6.size)) he.lt))
  have hB7 := hB6.trans (hb7.mono hB6.size)
  rw [show errV 0 = .nilIface from rfl] at s11
  go_wp2_with fail
  refine (unhide s11).mono ?_
  rintro e w8 ⟨rfl, hb8⟩
  rw [show ((0 : Int) == 0) = true from rfl]
  clear s11
  have hF8 := hF.below hb8 (Nat.le_refl _)
  have hB8 := hb7.trans (hb8.mono hb7.size)
  have hcap := hF.cap
  have hlp := hp.len
  have hmk := run_make_row' (P := Tryd.prog) 42 22 (.slice none 0 0) 24 Tryd.underlying42 bytes_info rfl .i64 .i64 np (by omega) (by omega)
  have hpz := hpE
  clear hF hb7 hb8 hB7 hpE
  go_wp2_with fail
  refine wp_nameT fun W9 hW9 => ?_
  have hb9 : Below w8.heap.size w8 W9 := by rw [hW9]; exact (Below.refl _ _).alloc (Nat.le_refl _) _
  have hI : CtInv parts g b w8.heap.size w6.heap.size A' c' w6 W9 := by
    have h : Blk (w8.alloc (.cells (madeCells #[.slice none 0 0] np) 22)) w8.heap.size 22 (madeCells #[.slice none 0 0] np) := Blk.new _ _ _
    rw [← hW9] at h
    refine ⟨_, _, 0, D', hF8.below hb9 (Nat.le_refl _), ?_, HasIs.start W9 parts.length _ h ?_, hB8.trans (hb9.mono hB8.size)⟩
    · unfold there
      rw [show (List.replicate parts.length (none : Option (List Int))).filter Option.isSome = [] by rw [List.filter_eq_nil_iff]; intro x hx; rw [List.eq_of_mem_replicate hx]; simp]
      rfl
    · rw [List.map_replicate, hlp]
      have := toList_madeCells_one (.slice none 0 0) np
      rw [show (⟨none, 0, 0, []⟩ : Ns).val = .slice none 0 0 from rfl, ← this]
  have hgeH : w6.heap.size ≤ w8.heap.size := hB8.size
  clear hW9 hmk hF8 hb9 hB8
  have HL6 := hide (pt6_of hpz)
  have HL1 := hide (pt1_of hpz)
  clear hpz
  go_wp2_with fail
  go_loopw [21] (fun tv wr => ∃ T : Nat, T ≤ 40 ∧ tv = .int .i64 T ∧ CtInv parts g b w8.heap.size w6.heap.size A' c' w6 wr) (fun tv _ => 40 - (intOf tv).toNat)
  case atStart => exact ⟨0, by omega, rfl, hI⟩
  case round =>
    clear hI
    obtain ⟨T, hT, rfl, S, hs, nn, Dm, hF, hnn, hH, hbel⟩ := hrel
    have hsz := hbel.size
    have hBwr := hB6.trans (hbel.mono hB6.size)
    by_cases g1 : T < no
    case neg =>
      --{
      have b1 : decide ((T : Int) < (no : Int)) = false := by simp; omega
      go_wp2_with fail
      go_ret
      exact ⟨rfl, hBwr⟩
      --}
    by_cases g2 : T < ne
    case neg =>
      --{
      have b1 : decide ((T : Int) < (no : Int)) = true := by simp; omega
      have b2 : decide ((T : Int) < (ne : Int)) = false := by simp; omega
      go_wp2_with fail
      go_ret
      exact ⟨rfl, hBwr⟩
      --}
    by_cases g3 : T < 40
    case neg =>
      --{
      have b1 : decide ((T : Int) < (no : Int)) = true := by simp; omega
      have b2 : decide ((T : Int) < (ne : Int)) = true := by simp; omega
      have b3 : decide ((T : Int) < 40) = false := by simp; omega
      go_wp2_with fail
      go_ret
      exact ⟨rfl, hBwr⟩
      --}
    have b1 : decide ((T : Int) < (no : Int)) = true := by simp; omega
    have b2 : decide ((T : Int) < (ne : Int)) = true := by simp; omega
    have b3 : decide ((T : Int) < 40) = true := by simp; omega
    obtain ⟨bo, oo, x, rfl, hbo, hx, cx⟩ := (ho.below hBwr).get g1
    obtain ⟨bu, ou, p, rfl, hbu, hxu, cu, hpo⟩ := (hu.below hBwr).get g2
    obtain ⟨pA, pn, pc, pl⟩ := p
    have hprd : BReads wr w.heap.size pA pn pl := hpo.reads
    have hplen := hprd.len
    have hpln := hpo.len
    have hpnil := hpo.nil
    have HPB := hide (u8_all hpo.wf)
    dsimp only at cu hprd hpln hpnil HPB
    clear hx hxu
    have hSl := hF.len
    have hSz := hF.len
    have hpl2 := hF.cap
    go_upto_region 22 with (fail)
    go_cut [115] (fun v wx => ∃ OB : Bool, v = .bool OB ∧ (OB = true ↔ x < 0 ∨ (np : Int) ≤ x) ∧ wx = wr)
    case first =>
      --{
      by_cases q0 : x < 0
      · have d0 : decide (x < 0) = true := by simpa using q0
        go_wp2_with fail
        go_meet
        exact ⟨true, rfl, by simp [q0], rfl⟩
      · have d0 : decide (x < 0) = false := by simpa using q0
        by_cases q1 : (np : Int) ≤ x
        · have d1 : decide ((np : Int) ≤ x) = true := by simpa using q1
          go_wp2_with fail
          go_meet
          exact ⟨true, rfl, by simp [q1], rfl⟩
        · have d1 : decide ((np : Int) ≤ x) = false := by simpa using q1
          go_wp2_with fail
          go_meet
          exact ⟨false, rfl, by simp [q0, q1], rfl⟩
      --}
    case rest =>
      obtain ⟨OB, rfl, hOB, rfl⟩ := hcut
      obtain ⟨w10, hw10⟩ : ∃ w10, w10 = wc := ⟨_, rfl⟩
      subst hw10
      go_upto_if 115 with (fail)
      go_cut [12, 23] (fun ev iv wx => ev = .int .i64 (putE parts x pl) ∧ iv = .bool (putN parts S x pl) ∧ ∃ hs', HasIs wx w8.heap.size (putS parts S x pl) hs' ∧ FetchIs wx g b parts S A' c' nn Dm ∧ Below w6.heap.size w10 wx)
      case first =>
        --{
        cases OB with
        | true =>
          --{
          have hox : x < 0 ∨ (np : Int) ≤ x := hOB.1 rfl
          have HE := hide (putE_out (bs := pl) (l := parts) (i := x) (by rw [hlp]; exact hox))
          have HN : Hid (putN parts S x pl = false) := hide (by simp [putN, unhide HE])
          have HS : Hid (putS parts S x pl = S) := hide (by unfold putS; rw [unhide HN]; rfl)
          clear hOB hox
          go_wp2_with fail
          go_meet
          exact ⟨by rw [unhide HE], by rw [unhide HN], hs, by rw [unhide HS]; exact hH, hF, Below.refl _ _⟩
          --}
        | false =>
          have hin : ¬ (x < 0 ∨ (np : Int) ≤ x) := fun h => by have := hOB.2 h; cases this
          obtain ⟨k, rfl⟩ : ∃ k : Nat, x = k := ⟨x.toNat, by omega⟩
          have hkn : k < np := by omega
          clear hin hOB
          obtain ⟨bp, op, y, hCe, hbp, hy, cy0, cy1⟩ := (hp.below hBwr).get hkn
          subst hCe
          have HE := hide (putE_in (bs := pl) hy)
          have hrs := hide (fun (W : World) (h : BReads W w.heap.size pA pn pl) => rsum_any pA pn pc w.heap.size pl W h hpln (unhide HPB))
          obtain ⟨y0, y1⟩ := y
          dsimp only at cy0 cy1 HE
          rw [hplen] at HE
          obtain ⟨r, hrk, crk, hcase⟩ := hH.get (k := k) (by rw [hSl, hlp]; exact hkn)
          obtain ⟨sv, hsv⟩ : ∃ sv, sv = sumV pl := ⟨_, rfl⟩
          rw [← hsv] at HE hrs
          have hpn1 : 1 ≤ y0 := unhide HL1 _ (List.mem_of_getElem? hy)
          clear hy hsv
          by_cases q0 : (pn : Int) = y0
          case neg =>
            --{
            have d0 : ((pn : Int) != y0) = true := by simpa using q0
            have HE2 : Hid (putE parts k pl = 3) := hide (by rw [unhide HE, if_neg q0])
            have HN : Hid (putN parts S k pl = false) := hide (by simp [putN, unhide HE2])
            have HS : Hid (putS parts S k pl = S) := hide (by unfold putS; rw [unhide HN]; rfl)
            clear HE q0 crk hcase hrk
            go_wp2_with fail
            go_quiet (fail)
            have hbq : Below w6.heap.size w10 (w10.drewN nq) := below_drewN (Below.refl _ _) _
            have hH2 := hH.below (below_drewN (Below.refl w10.heap.size w10) nq) (Nat.le_refl _)
            have hF2 := hF.below (below_drewN (Below.refl w10.heap.size w10) nq) (Nat.le_refl _)
            go_wp2_with fail
            go_meet
            exact ⟨by rw [unhide HE2], by rw [unhide HN], hs, by rw [unhide HS]; exact hH2, hF2, hbq⟩
            --}
          have d0 : ((pn : Int) != y0) = false := by simpa using q0
          by_cases q1 : sv = y1
          case neg =>
            have d1 : (sv != y1) = true := by simpa using q1
            have HE2 : Hid (putE parts k pl = 3) := hide (by rw [unhide HE, if_pos q0, if_neg q1])
            have HN : Hid (putN parts S k pl = false) := hide (by simp [putN, unhide HE2])
            have HS : Hid (putS parts S k pl = S) := hide (by unfold putS; rw [unhide HN]; rfl)
            clear HE q0 q1 crk hcase hrk
            go_wp2_with fail
            go_quiet ((go_at_call 16; exact quiet_left (unhide hrs _ (Reads.drewN hprd _))))
            have hbq : Below w6.heap.size w10 (w10.drewN nq) := below_drewN (Below.refl _ _) _
            have hH2 := hH.below (below_drewN (Below.refl w10.heap.size w10) nq) (Nat.le_refl _)
            have hF2 := hF.below (below_drewN (Below.refl w10.heap.size w10) nq) (Nat.le_refl _)
            go_wp2_with fail
            go_meet
            exact ⟨by rw [unhide HE2], by rw [unhide HN], hs, by rw [unhide HS]; exact hH2, hF2, hbq⟩
          have d1 : (sv != y1) = false := by simpa using q1
          have HE2 : Hid (putE parts k pl = 0) := hide (by rw [unhide HE, if_pos q0, if_pos q1])
          have hpn0 : 0 < pn := by omega
          obtain ⟨bpA, opA, hpAe, _⟩ := Reads.spot hprd hpn0 (by omega)
          subst hpAe
          clear HE q0 q1
          have hlp2 : parts.length = np := hlp
          rcases hcase with ⟨hSk, rfl⟩ | ⟨bs, ad, hSk, hrA, hrl, hrr⟩
          · have HN : Hid (putN parts S k pl = true) := hide (by simp [putN, unhide HE2, hSk])
            have HS : Hid (putS parts S k pl = S.set k (some pl)) := hide (by unfold putS; rw [unhide HN]; simp)
            have hq := fun (W : World) => Lib.run_eql_slice_nil (P := Tryd.prog) W 22 5 none 0 0 0 0 Tryd.underlying22
            have HSK := hide hSk
            dsimp only at crk
            clear hSk hrk
            go_wp2_with fail
            go_quiet ((go_at_call 16; exact quiet_left (unhide hrs _ (Reads.drewN hprd _))))
            have hbq : Below w6.heap.size w10 (w10.drewN nq) := below_drewN (Below.refl _ _) _
            have hH2 := hH.below (below_drewN (Below.refl w10.heap.size w10) nq) (Nat.le_refl _)
            have hF2 := hF.below (below_drewN (Below.refl w10.heap.size w10) nq) (Nat.le_refl _)
            have ff := hH2.blk.frozen k
            have hpr2 : BReads (w10.drewN nq) (w10.drewN nq).heap.size (some ⟨bpA, opA, none⟩) pn pl := Reads.more (Reads.drewN hprd nq) (by exact hBwr.size)
            have hput := hide (hH2.put_ (r := ⟨some ⟨bpA, opA, none⟩, pn, pc, pl⟩) (unhide HSK) (by simp) hpr2)
            have hFp := hide (hF2.mark2 hH2.blk (by decide) hH2.noInt k (.slice (some ⟨bpA, opA, none⟩) pn pc))
            have hbp2 := hide (hbq.setCell (p := ⟨w8.heap.size, k, none⟩) (by exact hgeH) (.slice (some ⟨bpA, opA, none⟩) pn pc))
            clear hH2 hF2 hbq hpr2
            go_wp2_with fail
            go_meet
            exact ⟨by rw [unhide HE2], by rw [unhide HN], _, by rw [unhide HS]; exact unhide hput, unhide hFp, unhide hbp2⟩
          · have HN : Hid (putN parts S k pl = false) := hide (by simp [putN, unhide HE2, hSk])
            have HS : Hid (putS parts S k pl = S) := hide (by unfold putS; rw [unhide HN]; rfl)
            have hq := fun (W : World) => Lib.run_eql_slice_nil (P := Tryd.prog) W 22 5 (some ad) r.n r.c 0 0 Tryd.underlying22
            rw [hrA] at crk
            clear hSk hrk hrA hrl hrr
            go_wp2_with fail
            go_quiet ((go_at_call 16; exact quiet_left (unhide hrs _ (Reads.drewN hprd _))))
            have hbq : Below w6.heap.size w10 (w10.drewN nq) := below_drewN (Below.refl _ _) _
            have hH2 := hH.below (below_drewN (Below.refl w10.heap.size w10) nq) (Nat.le_refl _)
            have hF2 := hF.below (below_drewN (Below.refl w10.heap.size w10) nq) (Nat.le_refl _)
            go_wp2_with fail
            go_meet
            exact ⟨by rw [unhide HE2], by rw [unhide HN], hs, by rw [unhide HS]; exact hH2, hF2, hbq⟩
        --}
      case rest =>
        obtain ⟨rfl, rfl, hs', hH', hF', hbx⟩ := hcut
        have hB10 := hBwr.trans (hbx.mono hB6.size)
        have cu2 := (hbx.cell (p := ⟨bu, ou + T, none⟩) (by dsimp only; have := hB6.size; omega)).trans cu
        have z10 := hbx.size
        have sp := hide (put_any g b parts S A' c' nn w6.heap.size Dm x pA pn pc pl wc hF' hnn (Reads.more (Reads.below hprd (hbx.mono hB6.size)) hB10.size) hpln (unhide HPB) hpnil (unhide HL6) (Nat.le_trans hsz z10) hbge)
        have hneb : w8.heap.size ≠ b := Ne.symm (hF'.map.ne_blk hH'.blk)
        have hSL : (putS parts S x pl).length = np := by unfold putS; split <;> simp [hSl, hlp]
        clear hF hH hF' hprd hpo cx
        go_wp2_with fail
        refine (unhide sp).mono ?_
        rintro e w11 ⟨rfl, ⟨nn2, D2, hF2, hnn2⟩, hb11, hkb⟩
        have hH2 := hH'.kept hkb hneb
        have hB11 := hB10.trans (hb11.mono hB6.size)
        have hbel2 := (hbel.trans hbx).trans hb11
        have z11 := hkb.2.2
        clear sp hH' hkb hb11 hbx hB10 cu2 cu hnn
        generalize putS parts S x pl = S2 at *
        generalize putE parts x pl = Ev at *
        generalize putN parts S x pl = Nw at *
        have s12 := hide (error_any Ev Ev w11 (he.below hB11 he.lt))
        go_wp2_with fail
        refine (unhide s12).mono ?_
        rintro e w12 ⟨rfl, hb12⟩
        rw [beq_self_eq_true]
        have hB12 := hB11.trans (hb12.mono hB11.size)
        have hF3 := hF2.below hb12 (Nat.le_refl _)
        have hH3 := hH2.below hb12 (Nat.le_refl _)
        have hbel3 := hbel2.trans (hb12.mono (Nat.le_trans hsz (Nat.le_trans z10 z11)))
        have b9 : (Nw != Nw) = false := by simp
        have hbS := hide (bytesTo_len (S := S2) (fun k bs h => by obtain ⟨_, _, _, _, _, h6⟩ := hF3.yes k bs h; exact h6))
        clear s12 hF2 hH2 hbel2 hb12 hB11
        go_wp2_with fail
        go_loopw [27, 28, 29] (fun lv av jv wr => ∃ k : Nat, k ≤ np ∧ jv = .int .i64 k ∧ Hid (LkOwn wr w12.heap.size lv (lacksTo S2 k)) ∧ Hid (wr.ownsRow w12.heap.size 5 1 av (bytesTo S2 k).length ((bytesTo S2 k).map (Value.int .u8))) ∧ Below w12.heap.size w12 wr) (fun _ _ jv _ => np - (intOf jv).toNat)
        case atStart => exact ⟨0, Nat.zero_le _, rfl, hide (by simpa [lacksTo] using LkOwn.nil_ _ _), hide (by simpa [bytesTo] using World.ownsRow_nil _ _ _ _), Below.refl _ _⟩
        case round =>
          obtain ⟨k, hk, rfl, HO, HA, hbj⟩ := hrel
          have zj := hbj.size
          have hll := lacksTo_len S2 k
          have hb6 := unhide hbS k (by omega)
          by_cases hlt : k < np
          · skip
            --{
            obtain ⟨r, hrk, crk, hcase⟩ := (hH3.below hbj (Nat.le_refl _)).get (k := k) (by omega)
            have hHlt := hH3.blk.lt
            have hlk9 : (lacksTo S2 k).length < 1000000000 := by omega
            have hownL : wr.ownsRow w12.heap.size 3 1 u27 (lacksTo S2 k).length ((lacksTo S2 k).map (Value.int .i64)) := unhide HO
            have hownA := unhide HA
            rcases hcase with ⟨hSk, rfl⟩ | ⟨bs, ad, hSk, hrA, hrl, hrr⟩
            · have hq := fun (W : World) => Lib.run_eql_slice_nil (P := Tryd.prog) W 22 5 none 0 0 0 0 Tryd.underlying22
              have HN1 := hide (lacksTo_no hSk)
              have HN2 := hide (bytesTo_none hSk)
              dsimp only at crk
              have hlb : (bytesTo S2 k).length + 0 < 1000000000 := by omega
              generalize lacksTo S2 k = L at *
              generalize bytesTo S2 k = Lb at *
              clear hSk hrk HO HA
              go_wp2_with (first
                | (at_builtin; refine app_one elemI (.tmp 184) (.tmp 186) [.int .i64 k] rfl rfl rfl hownL rfl rfl rfl (ints_oneCell .i64 [(k : Int)]) hlk9 zj ?_; intro v2 w2 hown2 hb2 _ hg2; have hall2 := own_kept hownA hownL (by decide) hg2; have cr2 := (hb2.cell (p := ⟨w8.heap.size, k, none⟩) hHlt).trans crk; have zj2 := Nat.le_trans zj hb2.size)
                | (at_builtin; refine app_many elem_byte (.tmp 188) (.tmp 192) rfl rfl rfl hall2 rfl (Reads.none_ (B := 0)) (by intro u hu; cases hu) hlb zj2 ?_; intro v3 w3 hown3 hb3 hg3; have hown4 := own_keptM hown2 hall2 (by decide) hg3))
              have hL3 : LkOwn w3 w12.heap.size v2 (lacksTo S2 (k + 1)) := by rw [unhide HN1]; unfold LkOwn; rw [List.length_append, List.map_append]; exact hown4
              rw [Nat.add_zero, List.append_nil, ← unhide HN2] at hown3
              have hbk := hbj.trans (hb2.trans hb3)
              clear hown2 hown4 hall2 hownL hownA hb2 hb3 hg2 hg3
              go_wp2_with fail
              go_roundw
              case rel => exact ⟨k + 1, by omega, by go_num, hide hL3, hide (by have e := unhide HN2; rw [e] at hown3 ⊢; exact hown3), hbk⟩
              case measure => simp [intOf]; omega
            · have hq := fun (W : World) => Lib.run_eql_slice_nil (P := Tryd.prog) W 22 5 (some ad) r.n r.c 0 0 Tryd.underlying22
              have HN1 := hide (lacksTo_yes hSk)
              have HN2 := hide (bytesTo_next hSk)
              rw [hrA] at crk hrr
              have hb62 := unhide hbS (k + 1) (by omega)
              rw [unhide HN2, List.length_append] at hb62
              have hrn := hrr.len
              have hlb : (bytesTo S2 k).length + r.n < 1000000000 := by omega
              generalize lacksTo S2 k = L at *
              generalize bytesTo S2 k = Lb at *
              obtain ⟨rA, rn, rc, rl⟩ := r
              dsimp only at crk hrr hrn hlb hq
              clear hSk hrk HO HA hrA hrl hb62
              go_wp2_with (at_builtin; refine app_many elem_byte (.tmp 188) (.tmp 192) rfl rfl rfl hownA rfl hrr (ints_oneCell .u8 bs) hlb zj ?_; intro v3 w3 hown3 hb3 hg3)
              have hL3 : LkOwn w3 w12.heap.size u27 (lacksTo S2 (k + 1)) := by rw [unhide HN1]; exact own_keptM hownL hownA (by decide) hg3
              have hA3 : w3.ownsRow w12.heap.size 5 1 v3 (bytesTo S2 (k + 1)).length ((bytesTo S2 (k + 1)).map (Value.int .u8)) := by rw [unhide HN2, List.length_append, List.map_append, hrn]; exact hown3
              have hbk := hbj.trans hb3
              clear hown3 hownL hownA hb3 hg3
              go_wp2_with fail
              go_roundw
              case rel => exact ⟨k + 1, by omega, by go_num, hide hL3, hide hA3, hbk⟩
              case measure => simp [intOf]; omega
            --}
          · obtain rfl : k = np := by omega
            have HLE : Hid (lacksTo S2 parts.length = lacksTo S2 k) := hide (by rw [hlp])
            have HLP : Hid (there S2 < S2.length → 0 < (lacksTo S2 k).length) := hide (fun hth => by
              obtain ⟨j, hj, hjn⟩ := not_there hth
              exact List.length_pos_iff.2 (lacks_some hjn (by omega)))
            have HLZ : Hid (¬ there S2 < S2.length → ¬ 0 < (lacksTo S2 k).length) := hide (fun hth => by
              have hle := there_le S2
              rw [lacks_full (fun j hj => there_all (S := S2) (by omega) j (by omega))]
              simp)
            have HBZ : Hid (¬ there S2 < S2.length → byL S2 = bytesTo S2 k) := hide (fun hth => by
              unfold byL bytesTo bytesOf
              rw [if_neg hth, List.take_of_length_le (by omega)])
            generalize lacksTo S2 k = LK at *
            generalize bytesTo S2 k = Lb at *
            obtain ⟨lA, lc, hlv, hrl3, hlm, _⟩ := own_slice (unhide HO)
            subst hlv
            obtain ⟨bA3, bc3, hav, hrb3, _, _⟩ := own_slice (unhide HA)
            subst hav
            clear HO HA
            go_upto_if 196 with (fail)
            go_cut [12, 28] (fun ev bv wx => ev = .int .i64 (byE S2) ∧ (∃ A c, bv = .slice A (byL S2).length c ∧ BReads wx wx.heap.size A (byL S2).length (byL S2)) ∧ wx = wr)
            case first =>
              by_cases hth : there S2 < S2.length
              · have hpos := unhide HLP hth
                have E1 : Hid (byE S2 = 5) := hide (by unfold byE; rw [if_pos hth])
                have E2 : Hid (byL S2 = []) := hide (by unfold byL; rw [if_pos hth])
                clear hth
                go_wp2_with fail
                go_meet
                exact ⟨by rw [unhide E1], ⟨none, 0, by rw [unhide E2]; rfl, by rw [unhide E2]; exact Reads.none_⟩, rfl⟩
              · have hpos := unhide HLZ hth
                have E1 : Hid (byE S2 = 0) := hide (by unfold byE; rw [if_neg hth])
                have E2 : Hid (byL S2 = Lb) := hide (unhide HBZ hth)
                clear hth
                go_wp2_with fail
                go_meet
                exact ⟨by rw [unhide E1], ⟨bA3, bc3, by rw [unhide E2], by rw [unhide E2]; exact hrb3⟩, rfl⟩
            case rest =>
              obtain ⟨rfl, ⟨bA4, bc4, rfl, hrb7⟩, rfl⟩ := hcut
              have hF4 := hF3.below hbj (Nat.le_refl _)
              have hH4 := hH3.below hbj (Nat.le_refl _)
              have sb := hide (bytes_any g b parts S2 A' c' nn2 D2 _ hF4)
              have hB13 := hB12.trans (hbj.mono hB12.size)
              have hbel4 := hbel3.trans (hbj.mono hbel3.size)
              clear hF3 hH3 hb6 hbS hbel hbel3 hB12 hbj
              clear HLP HLZ HBZ
              obtain ⟨Eb, hEb⟩ : ∃ Eb, Eb = byE S2 := ⟨_, rfl⟩
              unfold ByAny at sb
              rw [← hEb] at sb ⊢
              clear hEb
              go_wp2_with fail
              refine (unhide sb).mono ?_
              rintro e w14 ⟨v14, rfl, hown14, hb14⟩
              obtain ⟨yA, yc, rfl, hry, _, _⟩ := own_slice hown14
              have hB14 := hB13.trans (hb14.mono hB13.size)
              have hbel5 := hbel4.trans (hb14.mono hbel4.size)
              have hF5 := hF4.below hb14 (Nat.le_refl _)
              have hH5 := hH4.below hb14 (Nat.le_refl _)
              have hrb4 := Reads.below hrb7 hb14
              have hrl4 := Reads.below hrl3 hb14
              have s15 := hide (error_any Eb Eb w14 (he.below hB14 he.lt))
              clear sb hF4 hH4 hown14 hrb3 hrb7 hrl3 hB13 hbel4
              go_wp2_with fail
              refine (unhide s15).mono ?_
              rintro e w15 ⟨rfl, hb15⟩
              rw [beq_self_eq_true]
              have hB15 := hB14.trans (hb15.mono hB14.size)
              have hbel6 := hbel5.trans (hb15.mono hbel5.size)
              have hF6 := hF5.below hb15 (Nat.le_refl _)
              have hH6 := hH5.below hb15 (Nat.le_refl _)
              have hry5 := Reads.below hry hb15
              have hrb5 := Reads.below hrb4 (hb15.mono hb14.size)
              have hrl5 := Reads.below hrl4 (hb15.mono hb14.size)
              have s16 := hide (lacks_any g b parts S2 A' c' nn2 D2 w15 hF6)
              clear s15 hF5 hH5 hrb4 hrl4 hry hB14 hbel5
              go_wp2_with fail
              refine (unhide s16).mono ?_
              rintro e w16 ⟨v16, rfl, hown16, hb16⟩
              obtain ⟨kA, kc, rfl, hrk6, hkm, _⟩ := own_slice hown16
              have hrl6 := Reads.below hrl5 (hb16.mono (Nat.le_trans hb14.size hb15.size))
              have hB16 := hB15.trans (hb16.mono hB15.size)
              have hbel7 := hbel6.trans (hb16.mono hbel6.size)
              have hF7 := hF6.below hb16 (Nat.le_refl _)
              have hH7 := hH6.below hb16 (Nat.le_refl _)
              have hry6 := Reads.below hry5 (hb16.mono hb15.size)
              have hrb6 := Reads.below hrb5 (hb16.mono (Nat.le_trans hb14.size hb15.size))
              rw [unhide HLE] at hrk6 hkm ⊢
              have s17 := hide (ints_any kA lA LK.length LK.length kc lc LK LK w16 _ _ hrk6 hrl6 hkm hlm)
              rw [beq_self_eq_true] at s17
              clear s16 hown16 hF6 hH6 hry5 hrb5 hrl5 hB15 hbel6 hrk6 hrl6
              go_wp2_with fail
              refine (unhide s17).mono ?_
              rintro e w17 ⟨rfl, q17, rfl⟩
              have hry8 := Reads.drewN hry6 q17
              have hrb8 := Reads.drewN hrb6 q17
              have hF8 := hF7.drewN q17
              have hH8 := hH7.below (below_drewN (Below.refl w16.heap.size w16) q17) (Nat.le_refl _)
              have hbel8 := below_drewN hbel7 q17
              have c1 := conv_bytes (c := yc) hry8
              have c2 := conv_bytes (c := bc4) hrb8
              clear s17 hry6 hrb6 hF7 hH7 hbel7 hry8 hrb8
              generalize w16.drewN q17 = w18 at *
              go_wp2_with fail
              go_roundw
              case rel => exact ⟨T + 1, by omega, by go_num, S2, hs', nn2, D2, hF8, hnn2, hH8, hbel8⟩
              case measure => simp [intOf]; omega
end Go.Proofs.YtijgiieoinmjhaaDoor
