/- The reference's log: Crash. Conditions: as each lemma names. -/
import Derived.Test.YtijgiieoinmjhaaDoorRLog2
import Derived.Deep.DeepCutAuto
namespace Go.Proofs.YtijgiieoinmjhaaDoor
set_option linter.unusedVariables false
set_option linter.unusedSimpArgs false
open Go.RowKit

theorem own_take {w : World} {base : Nat} {e : TypeId} {size n c k : Nat} {A : Option Addr} {xs : List Value} (h : w.ownsRow base e size (.slice A n c) n xs) (hk : k ≤ n) : w.ownsRow base e size (.slice A k c) k (xs.take (k * size)) := by
  refine ⟨by rw [List.length_take, h.1]; exact Nat.min_eq_left (Nat.mul_le_mul_right _ hk), ?_⟩
  rcases h.2 with ⟨hv, hn⟩ | ⟨g, cap, cur, hv, hg, hh, hnc, hcm, hcs, htake⟩
  · injection hv with h1 h2 h3
    subst h1 h3
    exact .inl ⟨by rw [show k = 0 by omega], by omega⟩
  · injection hv with h1 h2 h3
    subst h1 h3
    refine .inr ⟨g, c, cur, rfl, hg, hh, by omega, hcm, hcs, ?_⟩
    rw [← htake, List.take_take, Nat.min_eq_left (Nat.mul_le_mul_right _ hk)]
/-- so far they fit, and how many more do -/
theorem fitK_step {cs : List Cl} {n k : Nat} {c : Cl} (hk : cs[k]? = some c) (h : fitK cs n = k + fitK (cs.drop k) (n - (recs (cs.take k)).length)) : fitK cs n = if (recs (cs.take k)).length + (recB c).length ≤ n ∨ (recB c).length ≤ n - (recs (cs.take k)).length then (k + 1) + fitK (cs.drop (k + 1)) (n - (recs (cs.take (k + 1))).length) else k := by
  rw [h, drop_at hk, fitK, recs_next hk, List.length_append]
  by_cases h1 : (recB c).length ≤ n - (recs (cs.take k)).length
  · rw [if_pos h1, if_pos (.inr h1), Nat.sub_add_eq]; omega
  · rw [if_neg h1, if_neg (by omega)]; omega

theorem RlIs.getC {w : World} {m B0 n c wh sf k cn cc : Nat} {vA : Option Addr} {rs : List Cv} {A : Option Addr} {bs : List Int} {lf : Int} {st : Bool} (h : RlIs w m B0 (.slice vA cn cc) rs A n c bs wh sf lf st) (hcn : cn = rs.length) (hk : k < rs.length) : ∃ b o r, vA = some ⟨b, o, none⟩ ∧ rs[k]? = some r ∧ CvArg w B0 r ∧
    w.cell? ⟨b, o + k * 7, none⟩ = some (.int .i64 r.c.what) ∧ w.cell? ⟨b, o + k * 7 + 1, none⟩ = some (.int .i64 r.c.ses) ∧ w.cell? ⟨b, o + k * 7 + 2, none⟩ = some (.int .i64 r.c.seq) ∧ w.cell? ⟨b, o + k * 7 + 3, none⟩ = some (.string r.c.name) ∧
    w.cell? ⟨b, o + k * 7 + 4, none⟩ = some (.int .i64 r.c.num) ∧ w.cell? ⟨b, o + k * 7 + 5, none⟩ = some (.int .i64 r.c.share) ∧ w.cell? ⟨b, o + k * 7 + 6, none⟩ = some (.slice r.A r.n r.cap) := by
  subst hcn
  obtain ⟨b, o, e, hb, hc⟩ := (Reads.of_own h.calls).spot (by omega) (by omega)
  have hr : rs[k]? = some rs[k] := List.getElem?_eq_getElem (by omega)
  have key : ∀ j u, j < 7 → (Cv.cells rs[k])[j]? = some u → w.cell? ⟨b, o + k * 7 + j, none⟩ = some u := by
    intro j u hj hu
    have h2 := flatMap_at Cv.cells 7 (fun _ => rfl) rs k j _ hr hj
    rw [hu] at h2
    have := hc _ _ h2
    rw [Nat.add_assoc]
    exact this
  exact ⟨b, o, rs[k], e, hr, h.cv _ (List.getElem_mem _), key 0 _ (by omega) rfl, key 1 _ (by omega) rfl, key 2 _ (by omega) rfl, key 3 _ (by omega) rfl, key 4 _ (by omega) rfl, key 5 _ (by omega) rfl, key 6 _ (by omega) rfl⟩
/-- the calls are cut -/
theorem RlIs.cutC {w : World} {m B0 n c wh sf k cc : Nat} {vA : Option Addr} {rs : List Cv} {A : Option Addr} {bs : List Int} {lf : Int} {st : Bool} (h : RlIs w m B0 (.slice vA rs.length cc) rs A n c bs wh sf lf st) (hk : k ≤ rs.length) : RlIs (w.setCell ⟨m, 0, none⟩ (.slice vA k cc)) m B0 (.slice vA k cc) (rs.take k) A n c bs wh sf lf st := by
  obtain ⟨a1, a2, a3, a4⟩ := h.set_ 0 (.slice vA k cc)
  have hb := h.blk.set_ 0 (.slice vA k cc)
  have ht := own_take a1 hk
  refine ⟨by simpa [List.setIfInBounds_toArray] using hb, ?_, fun r hr => a2 r (List.mem_of_mem_take hr), a3, h.cap, h.nil, a4, h.hB⟩
  rw [List.length_take, Nat.min_eq_left hk]
  have e : (rs.take k).flatMap Cv.cells = (rs.flatMap Cv.cells).take (k * 7) := by
    have h1 : rs.flatMap Cv.cells = (rs.take k).flatMap Cv.cells ++ (rs.drop k).flatMap Cv.cells := by rw [← List.flatMap_append, List.take_append_drop]
    rw [h1, List.take_left' (by rw [cvs_len, List.length_take, Nat.min_eq_left hk])]
  rw [e]
  exact ht

theorem RlIs.crash_end {w : World} {m B0 K c wh k a cc : Nat} {vA : Option Addr} {rs : List Cv} {A : Option Addr} {S : LS} {keep : Int} (h : RlIs w m B0 (.slice vA rs.length cc) rs A K c (S.bs.take K) wh K (-1) false) (hok : LsOk S) (hK : K = S.kept keep) (hmap : rs.map Cv.c = S.cs) (hk : k = fitK S.cs K) (hkl : k ≤ rs.length) (ha : a = (recs (S.cs.take k)).length) :
    RlS ((w.setCell ⟨m, 0, none⟩ (.slice vA k cc)).setCell ⟨m, 2, none⟩ (.int .i64 (a : Int))) m B0 (S.crash keep) := by
  have h2 := (h.cutC hkl).set2 a
  have hbs := LS.crash_bs hok keep
  have e1 : (S.crash keep).cs = S.cs.take k := by show S.cs.take (fitK S.cs (S.kept keep)) = _; rw [← hK, ← hk]
  have e2 : (S.crash keep).safe = K := hK.symm
  refine ⟨hok.crash_ keep, by show (-1 : Int) ≤ 9223372036854775807; decide, .slice vA k cc, rs.take k, A, K, c, ?_, by rw [e1, List.map_take, hmap]⟩
  rw [hbs, e1, e2, ← hK, ← ha]
  exact h2
set_option maxRecDepth 100000 in
set_option maxHeartbeats 4000000 in
theorem rcrash_any (m B0 : Nat) (S : LS) (keep : Int) (w : World) (h : RlS w m B0 S) (hkp : -9223372036854775808 ≤ keep) (hkp2 : keep ≤ 9223372036854775807) :
    Calls Tryd.prog 32 #[.pointer (some ⟨m, 0, none⟩), .int .i64 keep] w fun e w' => e = .returned (.tuple #[]) ∧ RlS w' m B0 (S.crash keep) ∧ Chg m w w' := by
  have hok := h.1
  obtain ⟨_, hl, vC, rs, A, n, c, hi, hmap⟩ := h
  obtain ⟨c0, c1, c2, c3, c4, c5⟩ := hi.cells
  have hbl : S.bs.length = n := BReads.len hi.reads
  have hn9 : n ≤ 106170 := by rw [← hbl]; exact hok.bslen
  have hsn : S.safe ≤ n := by rw [← hbl]; exact hok.safe
  obtain ⟨K, hK⟩ : ∃ K, K = S.kept keep := ⟨_, rfl⟩
  have HK : Hid ((K : Int) = (S.safe : Int) + max 0 (min keep ((n : Int) - (S.safe : Int)))) := hide (by rw [hK]; unfold LS.kept; rw [hbl]; omega)
  have hKn : K ≤ n := by rw [hK, ← hbl]; exact (LS.kept_le hok keep).2
  have HOK := hide hok; have HKK := hide hK; have HMAP := hide hmap
  have hcap := hi.cap
  obtain ⟨vA, cc, rfl, _, hrn, hrc, hrnil, hrB⟩ := own_slice2 hi.calls
  have HNIL := hide hrnil; have HRB := hide hrB
  clear hrnil hrB
  simp only [maxLen] at hrn
  have hlm : S.cs.length = rs.length := by rw [← hmap, List.length_map]
  obtain ⟨s0, hs0⟩ : ∃ s0, s0 = S.safe := ⟨_, rfl⟩
  rw [← hs0] at c3 hsn HK hi
  clear hK hok hbl hs0
  go_enter Tryd.func32, Tryd.ntmps32
  go_wp2_with fail
  go_loop [1, 4] (fun kv nv => ∃ j : Nat, nv = .int .i64 ((s0 + j : Nat) : Int) ∧ kv = .int .i64 (keep - j) ∧ s0 + j ≤ n ∧ (0 < j → (j : Int) ≤ keep)) (fun _ nv => n - (intOf nv).toNat)
  case atStart => exact ⟨0, by simp, by simp, by omega, by omega⟩
  case round =>
    obtain ⟨j, rfl, rfl, hj, hjk⟩ := hrel
    by_cases g1 : s0 + j < n ∧ 0 < keep - j
    · obtain ⟨g1, g2⟩ := g1
      have d1 : decide (0 < keep - (j : Int)) = true := by simpa using g2
      have d2 : decide (((s0 + j : Nat) : Int) < (n : Int)) = true := by simp; omega
      go_wp2_with fail
      go_round
      case rel => exact ⟨j + 1, by go_num, by go_num, by omega, by omega⟩
      case measure => simp [intOf]; omega
    · have hKj : K = s0 + j := by
        have := unhide HK
        omega
      rw [← hKj]
      have hi2 := (((hi.cutB hKn).set3 K).set4 (-1)).set5 false
      have hc2 := ((((Chg.refl m w).set_ 1 (.slice A K c)).set_ 3 (.int .i64 (K : Int))).set_ 4 (.int .i64 (-1))).set_ 5 (.bool false)
      have f1 := hi.blk.frozen 1
      have f3 := hi.blk.frozen 3
      have f4 := hi.blk.frozen 4
      have f5 := hi.blk.frozen 5
      have hKc : K ≤ c := by omega
      have hcond : Hid (K < n → ¬ 0 < keep - (j : Int)) := hide (fun h1 h2 => g1 ⟨by omega, h2⟩)
      clear g1 hKj hj hjk
      go_upto_region 1 with (fail)
      go_cut [22] (fun v wx => v = .bool false ∧ wx = w)
      case first =>
        by_cases g1 : K < n
        · have g2 := unhide hcond (by omega)
          have d1 : decide (0 < keep - (j : Int)) = false := by simpa using g2
          go_wp2_with fail
          go_meet
          refine ⟨?_, rfl⟩
          first | rfl | (simp only [d1]) | (simp; omega)
        · go_wp2_with fail
          go_meet
          exact ⟨rfl, rfl⟩
      case rest =>
        obtain ⟨rfl, hwx⟩ := hcut
        have hwx := hwx.symm
        subst hwx
        go_wp2_with fail
        clear HK hcond f1 f3 f4 f5 c0 c1 c2 c3 c4 c5 hi
        go_loopw [5, 6] (fun av kv wr => ∃ a k : Nat, av = .int .i64 (a : Int) ∧ kv = .int .i64 (k : Int) ∧ k ≤ rs.length ∧ a ≤ K ∧ Hid (a = (recs (S.cs.take k)).length) ∧ Hid (fitK S.cs K = k + fitK (S.cs.drop k) (K - a)) ∧ RlIs wr m B0 (.slice vA rs.length cc) rs A K c (S.bs.take K) (recs S.cs).length K (-1) false ∧ Chg m w wr) (fun _ kv _ => rs.length - (intOf kv).toNat)
        case atStart => exact ⟨0, 0, rfl, rfl, Nat.zero_le _, Nat.zero_le _, hide (by simp [recs]), hide (by simp), hi2, hc2⟩
        case round =>
          obtain ⟨a, k, rfl, rfl, hk, hak, ha, hf, hi3, hc3⟩ := hrel
          obtain ⟨e0, e1, e2, e3, e4, e5⟩ := hi3.cells
          have f0 := hi3.blk.frozen 0
          have f2 := hi3.blk.frozen 2
          by_cases g1 : k < rs.length
          · obtain ⟨b, o, r, rfl, hr, hcv, r0, r1, r2, r3, r4, r5, r6⟩ := hi3.getC rfl g1
            have hsz := hi3.blk.lt
            have hBm := hi3.hB
            have sr := hide (rrec_any r wr (hcv.ok.more (by omega)) hcv.num hcv.name hcv.many)
            have hck : S.cs[k]? = some r.c := by rw [← unhide HMAP, List.getElem?_map, hr]; rfl
            have hst := fitK_step hck (by rw [← unhide ha]; exact unhide hf)
            have hrx := congrArg List.length (recs_next hck)
            rw [List.length_append, ← unhide ha] at hrx
            obtain ⟨L, hL⟩ : ∃ L, L = (recB r.c).length := ⟨_, rfl⟩
            rw [← hL] at hrx hst sr
            rw [← unhide ha] at hst
            have hLb : a + L ≤ (recs S.cs).length := by rw [← hrx]; exact take_recs_le _
            have hLb2 := (unhide HOK).len
            have hLb : a + L ≤ 106170 := by omega
            clear hLb2
            have HST := hide hst; have HRX := hide hrx
            clear hL hst hrx hck
            go_wp2_with fail
            refine (unhide sr).mono ?_
            clear sr
            rintro e w2 ⟨v1, rfl, hown1, hb2⟩
            obtain ⟨vB, vc, hv1, _, hvL, hvcc, _, _⟩ := own_slice2 hown1
            subst hv1
            simp only [maxLen] at hvL
            have hi4 := hi3.below hb2 (Nat.le_refl _)
            have hc4 := hc3.trans (Chg.of_below hb2)
            clear hown1 hb2 hi3 hc3 e0 e1 e2 e3 e4 e5 f0 f2 r0 r1 r2 r3 r4 r5 r6 hr hcv
            obtain ⟨e0, e1, e2, e3, e4, e5⟩ := hi4.cells
            have f0 := hi4.blk.frozen 0
            have f2 := hi4.blk.frozen 2
            by_cases g2 : a + L ≤ K
            · go_wp2_with fail
              go_round
              case rel =>
                refine ⟨a + L, k + 1, by go_num, by go_num, by omega, g2, hide ?_, hide ?_, hi4, hc4⟩
                · exact (unhide HRX).symm
                · have h1 := unhide HST
                  rw [if_pos (.inl g2), unhide HRX] at h1
                  exact h1
              case measure => simp [intOf]; omega
            · have hkf : k = fitK S.cs K := by
                have h1 := unhide HST
                rw [if_neg (by omega)] at h1
                exact h1.symm
              have hend := hide (hi4.crash_end (unhide HOK) (unhide HKK) (unhide HMAP) hkf hk (unhide ha))
              have hcend := (hc4.set_ 0 (.slice (some ⟨b, o, none⟩) k cc)).set_ 2 (.int .i64 (a : Int))
              clear hkf
              go_wp2_with fail
              refine end0 (by kernel_rfl) rfl ?_
              exact ⟨rfl, unhide hend, hcend⟩
          · have hkf : k = fitK S.cs K := by
              rw [unhide hf, List.drop_eq_nil_of_le (by omega)]; rfl
            have hend := hi3.crash_end (unhide HOK) (unhide HKK) (unhide HMAP) hkf hk (unhide ha)
            have hcend := (hc3.set_ 0 (.slice vA k cc)).set_ 2 (.int .i64 (a : Int))
            have hend := hide hend
            clear hkf
            go_wp2_with fail
            refine end0 (by kernel_rfl) rfl ?_
            exact ⟨rfl, unhide hend, hcend⟩
end Go.Proofs.YtijgiieoinmjhaaDoor
