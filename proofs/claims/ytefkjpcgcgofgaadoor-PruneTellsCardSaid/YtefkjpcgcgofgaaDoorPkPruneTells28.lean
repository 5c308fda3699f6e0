/- Part 28 of what LawPruneTells needs: RPrune. Conditions: as each lemma names. -/
import Derived.Test.YtefkjpcgcgofgaaDoorPkPruneTells27
import Derived.Test.YtefkjpcgcgofgaaDoorPkPruneTells21
/- The reference's Prune: one node gives way after the other. Conditions: the tree is right. -/
namespace Go.Proofs.YtefkjpcgcgofgaaDoor
set_option linter.unusedVariables false
set_option linter.unusedSimpArgs false
open Go.RowKit

theorem calls_nameP {P : Program} {f : FuncId} {xs : Array Value} {W : World} {Q : Ending → World → Prop} (h : ∀ X, X = W → Calls P f xs X Q) : Calls P f xs W Q := h W rfl
def lenV : Value → Nat
  | .slice _ n _ => n
  | _ => 0
def PruneAt (T t : List Nd) (n q : Nat) : Prop := Right T n ∧ sortedV T = T ∧ prunedV T n = prunedV t n ∧ ∀ i, q ≤ i → i < T.length → toR T n i = none
theorem PruneAt.down {T t : List Nd} {n j : Nat} (h : PruneAt T t n (j + 1)) (hj : toR T n j = none) : PruneAt T t n j :=
  ⟨h.1, h.2.1, h.2.2.1, fun i h1 h2 => by
    rcases Nat.lt_or_ge j i with h3 | h3
    · exact h.2.2.2 i h3 h2
    · obtain rfl : i = j := by omega
      exact hj⟩
theorem PruneAt.gave {T t : List Nd} {n j c q : Nat} (h : PruneAt T t n q) (hj : toR T n j = some c) : PruneAt (gaveT T j c) t n (gaveT T j c).length ∧ (gaveT T j c).length < T.length := by
  have g := gave_any h.1 hj
  exact ⟨⟨g.right, g.flat, g.same.trans h.2.2.1, fun i h1 h2 => absurd h2 (by omega)⟩, g.less⟩
theorem PruneAt.done_ {T t : List Nd} {n : Nat} (h : PruneAt T t n 0) : prunedV t n = T := by
  rw [← h.2.2.1]
  exact pruned_none h.1 h.2.1 (fun i hi => h.2.2.2 i (Nat.zero_le _) hi)
/-- the block of a slice of nodes -/
def SoftN (w : World) (A : Option Addr) : Prop := ∀ a, A = some a → ∃ cs, Blk w a.block 43 cs
theorem SoftN.below {w w' : World} {A : Option Addr} (h : SoftN w A) (hb : Below w.heap.size w w') : SoftN w' A := fun a e => by
  obtain ⟨cs, hc⟩ := h a e
  exact ⟨cs, hc.below hb hc.lt⟩
theorem NOwn.soft {w : World} {base n c : Nat} {A : Option Addr} {l : List Nd} (h : NOwn w base (.slice A n c) l) : SoftN w A := fun a e => by
  rcases h.2 with ⟨h1, _⟩ | ⟨g, cap, cur, h1, _, hblk, _⟩
  · injection h1 with h1 _ _; rw [h1] at e; cases e
  · injection h1 with h1 _ _
    rw [h1] at e
    injection e with e
    subst e
    exact ⟨cur, hblk⟩
def RPrunePost (l : List Nd) (w : World) (e : Ending) (w' : World) : Prop := ∃ A c, e = .returned (.slice A l.length c) ∧ NReads w' w'.heap.size A l.length l ∧ SoftN w' A ∧ Below w.heap.size w w'

set_option maxRecDepth 100000 in
set_option maxHeartbeats 16000000 in
theorem rprune_any (A : Option Addr) (m d n : Nat) (t : List Nd) (hR : Right t n) (w : World) (ht : NReads w w.heap.size A m t) :
    Calls Tryd.prog 8 #[.slice A m d, .int .i64 n] w (RPrunePost (prunedV t n) w) := by
  have hlen := ht.len
  have hm63 : m ≤ 63 := by have := hR.most; omega
  have hn8 : n ≤ 8 := by have := hR.fe8; omega
  have hsl : (sortedV t).length ≤ 63 := by unfold sortedV; rw [layK_len, hR.sortedLen]; exact hR.most
  have hP0 : PruneAt (sortedV t) t n (sortedV t).length := ⟨hR.sorted, hR.sortedTwice, by
    unfold sortedV
    rw [pruned_lay hR.kfit.ok]
    rfl, fun i h1 h2 => absurd h2 (by omega)⟩
  have HS0 : Hid (Calls Tryd.prog 9 #[.slice A m d, .int .i64 0, .slice none 0 0] w fun e w' => ∃ v', e = .returned v' ∧ NOwn w' w.heap.size v' (sortedV t) ∧ Below w.heap.size w w') := hide (by
    have h := rsortN_any A m d t (by unfold maxLen; omega) hR.behind t.length 0 [] (.slice none 0 0) w.heap.size w hR.pos (by omega) ht (NOwn.nil_ _ _) (Nat.le_refl _) (by
      have := hR.sortedLen
      unfold kTree at this
      simp
      omega)
    rw [List.nil_append, List.length_nil] at h
    exact h)
  have HP0 := hide hP0
  clear hR hlen hP0
  go_enter Tryd.func8, Tryd.ntmps8
  go_wp2_with fail
  refine (unhide HS0).mono ?_
  rintro e w1 ⟨v1, rfl, ho1, hb1⟩
  obtain ⟨A1, c1, rfl, hr1, hc1⟩ := ho1.slice
  have hso1 := hide ho1.soft
  obtain ⟨T0, hT0⟩ : ∃ T, T = sortedV t := ⟨_, rfl⟩
  rw [← hT0] at HP0 hr1 hc1 hsl ⊢
  clear HS0 ho1 hT0
  go_wp2_with fail
  go_loopw [0, 5] (fun v0 v5 wr => ∃ (T : List Nd) (A : Option Addr) (c q : Nat), v0 = .slice A T.length c ∧ v5 = .int .i64 ((q : Int) - 1) ∧ q ≤ T.length ∧ Hid (NReads wr wr.heap.size A T.length T) ∧ Hid (SoftN wr A) ∧ Hid (PruneAt T t n q) ∧ T.length ≤ 63 ∧ Below w.heap.size w wr) (fun v0 v5 _ => lenV v0 * 64 + ((intOf v5) + 1).toNat)
  case atStart => exact ⟨T0, A1, c1, T0.length, rfl, rfl, Nat.le_refl _, hide hr1, hso1, HP0, hsl, hb1⟩
  case round =>
    obtain ⟨T, A0, c, q, rfl, rfl, hq, HRD, HSO, HP, hsl, hbel⟩ := hrel
    clear hr1 hb1 HP0 hc1 hso1
    have hsz := hbel.size
    obtain ⟨L, hL⟩ : ∃ L, L = T.length := ⟨_, rfl⟩
    have HL := hide hL
    rw [← hL] at hq HRD hsl ⊢
    clear hL
    rcases Nat.eq_zero_or_pos q with rfl | hq0
    · have HX := hide ((unhide HP).done_)
      go_wp2_with fail
      go_ret
      unfold RPrunePost
      rw [unhide HX]
      rw [← unhide HL]
      exact ⟨A0, c, rfl, unhide HRD, unhide HSO, hbel⟩
    · obtain ⟨j, rfl⟩ : ∃ j, q = j + 1 := ⟨q - 1, by omega⟩
      have ej : (((j + 1 : Nat) : Int) - 1) = (j : Int) := by omega
      rw [ej]
      clear ej hq0
      have hjl : j < L := by omega
      obtain ⟨b, o, x, hAe, hbb, hx, c0, c1, c2, c3, c4, c5⟩ := NReads.get (unhide HRD) hjl
      subst hAe
      have hRT := (unhide HP).1
      by_cases hf : x.f = -1
      · have HN := hide ((unhide HP).down (by unfold toR; rw [hx]; dsimp only; rw [if_pos hf]))
        have hbA : Below wr.heap.size wr (wr.alloc (.cells #[.int .i64 x.f, .int .i64 x.c, .int .i64 x.l, .int .i64 x.r, .bool x.less, .int .i64 x.v] 43)) := (Below.refl _ _).alloc (Nat.le_refl _) _
        have hRD2 := hide ((NReads.below (unhide HRD) hbA).more hbA.size)
        have hB2 := hide (hbel.trans (hbA.mono hsz))
        have hSO2 := hide ((unhide HSO).below hbA)
        obtain ⟨xf, xc, xl, xr, xs, xv⟩ := x
        dsimp only at hf c0 c1 c2 c3 c4 c5 hRD2 hB2 hSO2
        subst hf
        clear hx hRT hbA hbel HRD HSO
        go_wp2_with fail
        go_roundw
        case rel => exact ⟨T, some ⟨b, o, none⟩, c, j, by rw [← unhide HL], rfl, by rw [← unhide HL]; omega, by rw [← unhide HL]; exact hRD2, hSO2, HN, by rw [← unhide HL]; exact hsl, unhide hB2⟩
        case measure => simp [intOf, lenV]
      · have hfb : (x.f == -1) = false := by simpa using hf
        obtain ⟨q1, q2, q3, q4⟩ := hRT.behind j x hx hf
        rw [← unhide HL] at q2 q4
        obtain ⟨li, hli⟩ : ∃ li : Nat, x.l = li := ⟨x.l.toNat, by omega⟩
        obtain ⟨ri, hri⟩ : ∃ ri : Nat, x.r = ri := ⟨x.r.toNat, by omega⟩
        have hll : li < L := by omega
        have hrl : ri < L := by omega
        obtain ⟨_, _, p, hAe, _, hp, p0, p1, p2, p3, p4, p5⟩ := NReads.get (unhide HRD) hll
        cases hAe
        obtain ⟨_, _, s, hAe, _, hs, s0, s1, s2, s3, s4, s5⟩ := NReads.get (unhide HRD) hrl
        cases hAe
        have HTO : Hid (toR T n j = if anyB (regR T n li) = false then some ri else if anyB (regR T n ri) = false then some li else if p.f = -1 ∧ s.f = -1 ∧ p.v = s.v then some li else none) := hide (by
          unfold toR
          rw [hx]
          dsimp only
          rw [if_neg hf, hli, hri, Int.toNat_natCast, Int.toNat_natCast, hp, hs])
        have HRT := hide hRT
        have HLL : Hid (li < T.length) := hide (by rw [← unhide HL]; exact hll)
        have HRL : Hid (ri < T.length) := hide (by rw [← unhide HL]; exact hrl)
        obtain ⟨xf, xc, xl, xr, xs, xv⟩ := x
        dsimp only at hf hfb hli hri c0 c1 c2 c3 c4 c5
        subst hli
        subst hri
        obtain ⟨pf, pc, pl, pr, ps, pv⟩ := p
        obtain ⟨sf, sc, sl, sr, ss, sv⟩ := s
        dsimp only at p0 p1 p2 p3 p4 p5 s0 s1 s2 s3 s4 s5 HTO
        clear hx hRT q1 q2 q3 q4 hf hp hs
        go_wp2_with fail
        refine calls_nameP fun W1 hW1 => ?_
        have bN1 : Blk W1 wr.heap.size 43 #[.int .i64 xf, .int .i64 xc, .int .i64 li, .int .i64 ri, .bool xs, .int .i64 xv] := by rw [hW1]; exact Blk.new _ _ _
        have hbA : Below wr.heap.size wr W1 := by rw [hW1]; exact (Below.refl _ _).alloc (Nat.le_refl _) _
        have hz1 : wr.heap.size + 1 ≤ W1.heap.size := by rw [hW1, World.size_alloc]; exact Nat.le_refl _
        clear hW1
        refine (rregion_any (some ⟨b, o, none⟩) L c n li T (unhide HRT) (unhide HLL) W1 ((NReads.below (unhide HRD) hbA).more hbA.size)).mono ?_
        rintro e w2 ⟨v2, rfl, ho2, hw2⟩
        obtain ⟨R2, e2, rfl, hr2, _, _⟩ := own_slice ho2
        have hr2' : SReads w2 w2.heap.size R2 n (regR T n li) := hr2
        have hb2 := hbA.trans (hw2.mono hbA.size)
        have bN2 := bN1.below hw2 (by omega)
        have hz2 : wr.heap.size + 1 ≤ w2.heap.size := Nat.le_trans hz1 hw2.size
        clear hbA hw2 bN1 hr2 ho2 hz1
        have n3 := bN2.cell 3
        simp at n3
        clear c0 c1 c2 c3 c4 c5
        go_wp2_with fail
        refine (rregion_any (some ⟨b, o, none⟩) L c n ri T (unhide HRT) (unhide HRL) w2 ((NReads.below (unhide HRD) hb2).more hb2.size)).mono ?_
        rintro e w3 ⟨v3, rfl, ho3, hw3⟩
        obtain ⟨R3, e3, rfl, hr3, _, _⟩ := own_slice ho3
        have hr3' : SReads w3 w3.heap.size R3 n (regR T n ri) := hr3
        have hr2 := (Reads.below hr2' hw3).more hw3.size
        have hb3 := hb2.trans (hw3.mono hb2.size)
        have bN3 := bN2.below hw3 (by omega)
        have hz3 : wr.heap.size + 1 ≤ w3.heap.size := Nat.le_trans hz2 hw3.size
        clear hb2 hw3 bN2 hr3 ho3 hz2 n3 hr2'
        go_wp2_with fail
        refine (rany_any R2 n e2 _ _ w3 hr2 (by unfold maxLen; omega)).mono ?_
        rintro e w4 ⟨rfl, q4, hw4⟩
        have hw4' : Below w3.heap.size w3 w4 := by rw [hw4]; exact below_drewN (Below.refl _ _) _
        have hr3 : SReads w4 w4.heap.size R3 n (regR T n ri) := (Reads.below hr3' hw4').more hw4'.size
        have hb4 := hb3.trans (hw4'.mono hb3.size)
        have bN4 := bN3.below hw4' (by omega)
        have hz4 : wr.heap.size + 1 ≤ w4.heap.size := Nat.le_trans hz3 hw4'.size
        obtain ⟨ba, hba⟩ : ∃ b, b = anyB (regR T n li) := ⟨_, rfl⟩
        rw [← hba] at HTO ⊢
        clear hb3 hw4 hw4' bN3 hr3' hz3 hr2 hba
        go_wp2_with fail
        refine (rany_any R3 n e3 _ _ w4 hr3 (by unfold maxLen; omega)).mono ?_
        rintro e w5 ⟨rfl, q5, hw5⟩
        have hw5' : Below w4.heap.size w4 w5 := by rw [hw5]; exact below_drewN (Below.refl _ _) _
        have hb5 := hb4.trans (hw5'.mono hb4.size)
        have bN5 := bN4.below hw5' (by omega)
        have hz5 : wr.heap.size + 1 ≤ w5.heap.size := Nat.le_trans hz4 hw5'.size
        obtain ⟨bc, hbc⟩ : ∃ b, b = anyB (regR T n ri) := ⟨_, rfl⟩
        rw [← hbc] at HTO ⊢
        clear hb4 hw5 hw5' bN4 hr3 hz4 hbc
        have P0 := (hb5.cell (p := ⟨b, o + li * 6, none⟩) hbb).trans p0
        have P1 := (hb5.cell (p := ⟨b, o + li * 6 + 1, none⟩) hbb).trans p1
        have P2 := (hb5.cell (p := ⟨b, o + li * 6 + 2, none⟩) hbb).trans p2
        have P3 := (hb5.cell (p := ⟨b, o + li * 6 + 3, none⟩) hbb).trans p3
        have P4 := (hb5.cell (p := ⟨b, o + li * 6 + 4, none⟩) hbb).trans p4
        have P5 := (hb5.cell (p := ⟨b, o + li * 6 + 5, none⟩) hbb).trans p5
        have n2 := bN5.cell 2
        simp at n2
        clear p0 p1 p2 p3 p4 p5
        go_upto_region 12 with (fail)
        refine wp_name fun W6 hW6 => ?_
        have hbA : Below wr.heap.size w5 W6 := by rw [hW6]; exact (Below.refl _ _).alloc (by omega) _
        have bX6 : Blk W6 w5.heap.size 43 #[.int .i64 pf, .int .i64 pc, .int .i64 pl, .int .i64 pr, .bool ps, .int .i64 pv] := by rw [hW6]; exact Blk.new _ _ _
        have bN6 : Blk W6 wr.heap.size 43 #[.int .i64 xf, .int .i64 xc, .int .i64 li, .int .i64 ri, .bool xs, .int .i64 xv] := by rw [hW6]; exact bN5.alloc _
        have hz6 : W6.heap.size = w5.heap.size + 1 := by rw [hW6, World.size_alloc]
        have hb6 := hb5.trans hbA
        clear hW6 hbA n2 P0 P1 P2 P3 P4 P5 bN5
        have S0 := (hb6.cell (p := ⟨b, o + ri * 6, none⟩) hbb).trans s0
        have S1 := (hb6.cell (p := ⟨b, o + ri * 6 + 1, none⟩) hbb).trans s1
        have S2 := (hb6.cell (p := ⟨b, o + ri * 6 + 2, none⟩) hbb).trans s2
        have S3 := (hb6.cell (p := ⟨b, o + ri * 6 + 3, none⟩) hbb).trans s3
        have S4 := (hb6.cell (p := ⟨b, o + ri * 6 + 4, none⟩) hbb).trans s4
        have S5 := (hb6.cell (p := ⟨b, o + ri * 6 + 5, none⟩) hbb).trans s5
        have n3 := bN6.cell 3
        simp at n3
        clear s0 s1 s2 s3 s4 s5 hb5
        go_upto_region 13 with (fail)
        refine wp_name fun W7 hW7 => ?_
        have hbA : Below wr.heap.size W6 W7 := by rw [hW7]; exact (Below.refl _ _).alloc (by omega) _
        have bY7 : Blk W7 W6.heap.size 43 #[.int .i64 sf, .int .i64 sc, .int .i64 sl, .int .i64 sr, .bool ss, .int .i64 sv] := by rw [hW7]; exact Blk.new _ _ _
        have bX7 : Blk W7 w5.heap.size 43 #[.int .i64 pf, .int .i64 pc, .int .i64 pl, .int .i64 pr, .bool ps, .int .i64 pv] := by rw [hW7]; exact bX6.alloc _
        have bN7 : Blk W7 wr.heap.size 43 #[.int .i64 xf, .int .i64 xc, .int .i64 li, .int .i64 ri, .bool xs, .int .i64 xv] := by rw [hW7]; exact bN6.alloc _
        have hb7 := hb6.trans hbA
        have HB7 := hide (hbel.trans (hb7.mono hsz))
        have HRD7 := hide ((NReads.below (unhide HRD) hb7).more hb7.size)
        have HSO7 := hide ((unhide HSO).below hb7)
        clear hW7 hbA n3 S0 S1 S2 S3 S4 S5 bN6 bX6 hb6 hb7 hbel HRD HSO
        rw [hz6] at bY7
        have n2 := bN7.cell 2
        have n3 := bN7.cell 3
        have X0 := bX7.cell 0
        have X5 := bX7.cell 5
        have Y0 := bY7.cell 0
        have Y5 := bY7.cell 5
        simp at n2 n3 X0 X5 Y0 Y5
        clear bN7 bX7 bY7
        cases ba
        · have HC : Hid (toR T n j = some ri) := hide (by rw [unhide HTO]; rfl)
          have hg := hide ((unhide HP).gave (unhide HC))
          have hgc := hide (rgive_any (some ⟨b, o, none⟩) L c n j ri T (unhide HRT) (unhide HC) W7 (unhide HRD7))
          clear HTO HP HC HRT
          go_wp2_with fail
          refine (unhide hgc).mono ?_
          rintro e w8 ⟨v8, rfl, ho8, hb8⟩
          obtain ⟨A8, c8, rfl, hr8, _⟩ := ho8.slice
          have HSO8 := hide ho8.soft
          have HB8 := hide ((unhide HB7).trans (hb8.mono (unhide HB7).size))
          obtain ⟨T8, hT8⟩ : ∃ T8, T8 = gaveT T j ri := ⟨_, rfl⟩
          rw [← hT8] at hg hr8 ⊢
          have hg1 := hide (unhide hg).1
          have hg2 : T8.length < L := by rw [unhide HL]; exact (unhide hg).2
          have HRD8 := hide hr8
          clear hT8 hgc ho8 hb8 hr8 hg HB7 HRD7 n2 n3 X0 X5 Y0 Y5
          go_wp2_with fail
          go_roundw
          case rel => exact ⟨T8, A8, c8, T8.length, rfl, rfl, Nat.le_refl _, HRD8, HSO8, hg1, by omega, unhide HB8⟩
          case measure => simp [intOf, lenV]; omega
        · cases bc
          · have HC : Hid (toR T n j = some li) := hide (by rw [unhide HTO]; rfl)
            have hg := hide ((unhide HP).gave (unhide HC))
            have hgc := hide (rgive_any (some ⟨b, o, none⟩) L c n j li T (unhide HRT) (unhide HC) W7 (unhide HRD7))
            clear HTO HP HC HRT
            go_wp2_with fail
            refine (unhide hgc).mono ?_
            rintro e w8 ⟨v8, rfl, ho8, hb8⟩
            obtain ⟨A8, c8, rfl, hr8, _⟩ := ho8.slice
            have HSO8 := hide ho8.soft
            have HB8 := hide ((unhide HB7).trans (hb8.mono (unhide HB7).size))
            obtain ⟨T8, hT8⟩ : ∃ T8, T8 = gaveT T j li := ⟨_, rfl⟩
            rw [← hT8] at hg hr8 ⊢
            have hg1 := hide (unhide hg).1
            have hg2 : T8.length < L := by rw [unhide HL]; exact (unhide hg).2
            have HRD8 := hide hr8
            clear hT8 hgc ho8 hb8 hr8 hg HB7 HRD7 n2 n3 X0 X5 Y0 Y5
            go_wp2_with fail
            go_roundw
            case rel => exact ⟨T8, A8, c8, T8.length, rfl, rfl, Nat.le_refl _, HRD8, HSO8, hg1, by omega, unhide HB8⟩
            case measure => simp [intOf, lenV]; omega
          · by_cases hpf : pf = -1
            · by_cases hsf : sf = -1
              · by_cases hv : pv = sv
                · have k1 : (pf == -1) = true := by simpa using hpf
                  have k2 : (sf == -1) = true := by simpa using hsf
                  have k3 : (pv == sv) = true := by simpa using hv
                  have hcc := hide (show pf = -1 ∧ sf = -1 ∧ pv = sv from ⟨hpf, hsf, hv⟩)
                  clear hpf hsf hv
                  have HC : Hid (toR T n j = some li) := hide (by rw [unhide HTO]; rw [if_neg (by decide), if_neg (by decide), if_pos (unhide hcc)])
                  have hg := hide ((unhide HP).gave (unhide HC))
                  have hgc := hide (rgive_any (some ⟨b, o, none⟩) L c n j li T (unhide HRT) (unhide HC) W7 (unhide HRD7))
                  clear HTO HP HC HRT
                  go_wp2_with fail
                  refine (unhide hgc).mono ?_
                  rintro e w8 ⟨v8, rfl, ho8, hb8⟩
                  obtain ⟨A8, c8, rfl, hr8, _⟩ := ho8.slice
                  have HSO8 := hide ho8.soft
                  have HB8 := hide ((unhide HB7).trans (hb8.mono (unhide HB7).size))
                  obtain ⟨T8, hT8⟩ : ∃ T8, T8 = gaveT T j li := ⟨_, rfl⟩
                  rw [← hT8] at hg hr8 ⊢
                  have hg1 := hide (unhide hg).1
                  have hg2 : T8.length < L := by rw [unhide HL]; exact (unhide hg).2
                  have HRD8 := hide hr8
                  clear hT8 hgc ho8 hb8 hr8 hg HB7 HRD7 n2 n3 X0 X5 Y0 Y5
                  go_wp2_with fail
                  go_roundw
                  case rel => exact ⟨T8, A8, c8, T8.length, rfl, rfl, Nat.le_refl _, HRD8, HSO8, hg1, by omega, unhide HB8⟩
                  case measure => simp [intOf, lenV]; omega
                · have k1 : (pf == -1) = true := by simpa using hpf
                  have k2 : (sf == -1) = true := by simpa using hsf
                  have k3 : (pv == sv) = false := by simpa using hv
                  have hcc := hide hv
                  clear hpf hsf hv
                  have HN := hide ((unhide HP).down (by rw [unhide HTO]; rw [if_neg (by decide), if_neg (by decide), if_neg (fun h => unhide hcc h.2.2)]))
                  clear HTO HP HRT
                  go_wp2_with fail
                  go_roundw
                  case rel => exact ⟨T, some ⟨b, o, none⟩, c, j, by rw [← unhide HL], rfl, by rw [← unhide HL]; omega, by rw [← unhide HL]; exact HRD7, HSO7, HN, by rw [← unhide HL]; exact hsl, unhide HB7⟩
                  case measure => simp [intOf, lenV]
              · have k1 : (pf == -1) = true := by simpa using hpf
                have k2 : (sf == -1) = false := by simpa using hsf
                have hcc := hide hsf
                clear hpf hsf
                have HN := hide ((unhide HP).down (by rw [unhide HTO]; rw [if_neg (by decide), if_neg (by decide), if_neg (fun h => unhide hcc h.2.1)]))
                clear HTO HP HRT
                go_wp2_with fail
                go_roundw
                case rel => exact ⟨T, some ⟨b, o, none⟩, c, j, by rw [← unhide HL], rfl, by rw [← unhide HL]; omega, by rw [← unhide HL]; exact HRD7, HSO7, HN, by rw [← unhide HL]; exact hsl, unhide HB7⟩
                case measure => simp [intOf, lenV]
            · have k1 : (pf == -1) = false := by simpa using hpf
              have hcc := hide hpf
              clear hpf
              have HN := hide ((unhide HP).down (by rw [unhide HTO]; rw [if_neg (by decide), if_neg (by decide), if_neg (fun h => unhide hcc h.1)]))
              clear HTO HP HRT
              go_wp2_with fail
              go_roundw
              case rel => exact ⟨T, some ⟨b, o, none⟩, c, j, by rw [← unhide HL], rfl, by rw [← unhide HL]; omega, by rw [← unhide HL]; exact HRD7, HSO7, HN, by rw [← unhide HL]; exact hsl, unhide HB7⟩
              case measure => simp [intOf, lenV]
end Go.Proofs.YtefkjpcgcgofgaaDoor
