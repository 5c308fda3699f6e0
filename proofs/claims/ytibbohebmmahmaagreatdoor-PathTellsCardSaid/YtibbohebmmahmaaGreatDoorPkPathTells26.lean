/- Part 26 of what LawPathTells needs: Witness, RefSpans. Conditions: as each lemma names. -/
import Derived.Test.YtibbohebmmahmaaGreatDoorPkPathTells14
import Derived.Test.YtibbohebmmahmaaGreatDoorPkPathTells20
import Derived.Test.YtibbohebmmahmaaGreatDoorPkPathTells06
/- path.Check, path.Witness. Conditions: as each lemma names. -/
namespace Go.Proofs.YtibbohebmmahmaaGreatDoor
set_option linter.unusedVariables false
set_option linter.unusedSimpArgs false
open Go.RowKit

def spansF : List Sp → Int
  | [] => 0
  | s :: r => if cellB s.low && cellB s.high then (if someB s then spansF r else 5) else 1
def spansE (l : List Sp) : Int := if 8 < l.length then 4 else spansF l
theorem spansF_step {l : List Sp} {k : Nat} {s : Sp} (h : l[k]? = some s) (hF : spansF (l.drop k) = spansF l) (h1 : cellB s.low = true) (h2 : cellB s.high = true) (h3 : someB s = true) : spansF (l.drop (k + 1)) = spansF l := by
  rw [← hF, drop_at h, spansF, h1, h2, h3]; rfl
theorem spansF_1 {l : List Sp} {k : Nat} {s : Sp} (h : l[k]? = some s) (hF : spansF (l.drop k) = spansF l) (h1 : cellB s.low = false ∨ cellB s.high = false) : spansF l = 1 := by
  rw [← hF, drop_at h, spansF]
  rcases h1 with h1 | h1 <;> rw [h1] <;> simp
theorem spansF_5 {l : List Sp} {k : Nat} {s : Sp} (h : l[k]? = some s) (hF : spansF (l.drop k) = spansF l) (h1 : cellB s.low = true) (h2 : cellB s.high = true) (h3 : someB s = false) : spansF l = 5 := by
  rw [← hF, drop_at h, spansF, h1, h2, h3]; rfl

set_option maxRecDepth 100000 in
set_option maxHeartbeats 2000000 in
theorem pcheck_any (A : Option Addr) (n c B : Nat) (l : List Sp) (w : World) (hr : SReads w B A n l) (hB : B ≤ w.heap.size) (hn : n ≤ maxLen) :
    Calls Tryz.prog 39 #[.slice A n c] w fun e w' => e = .returned (errV (spansE l)) ∧ Below w.heap.size w w' := by
  unfold maxLen at hn
  have hl := hr.len
  by_cases h8 : 8 < n
  · have HE : Hid (spansE l = 4) := hide (by unfold spansE; rw [if_pos (by omega)])
    clear hl
    go_enter Tryz.func39, Tryz.ntmps39
    go_wp2
    go_ret
    exact ⟨by rw [unhide HE]; rfl, Below.refl _ _⟩
  · have HE : Hid (spansE l = spansF l) := hide (by unfold spansE; rw [if_neg (by omega)])
    have HL := hide hl
    clear hl
    go_enter Tryz.func39, Tryz.ntmps39
    go_wp2_with fail
    go_loopw [11] (fun i wr => ∃ k : Nat, k ≤ n ∧ i = .int .i64 k ∧ Hid (spansF (l.drop k) = spansF l) ∧ Below w.heap.size w wr) (fun i _ => n - (intOf i).toNat)
    case atStart => exact ⟨0, Nat.zero_le _, rfl, hide (by simp), Below.refl _ _⟩
    case round =>
      obtain ⟨k, hk, rfl, HG, hbel⟩ := hrel
      have hz := hbel.size
      by_cases hlt : k < n
      · obtain ⟨b, o, s, rfl, hb, hx, c0, c1, c2⟩ := (hr.below (hbel.mono hB)).get hlt
        have HX := hide hx
        obtain ⟨s0, s1, s2⟩ := s
        dsimp only at c0 c1 c2
        clear hx
        by_cases h1 : cellB s0 = true
        · by_cases h2 : cellB s1 = true
          · by_cases h3 : someB ⟨s0, s1, s2⟩ = true
            · have HN := hide (spansF_step (unhide HX) (unhide HG) h1 h2 h3)
              have H1 := hide h1
              have H2 := hide h2
              have H3 := hide h3
              clear h1 h2 h3
              go_wp2_with (first | (go_at_call 55; refine (cell_any s0 _).mono ?_; rintro e w' ⟨rfl, rfl⟩; rw [H1.out]) | (go_at_call 55; refine (cell_any s1 _).mono ?_; rintro e w' ⟨rfl, rfl⟩; rw [H2.out]))
              refine (some_any s0 s1 s2 _).mono ?_
              rintro e w2 ⟨rfl, hb2⟩
              rw [unhide H3]
              go_wp2_with fail
              go_roundw
              case rel => exact ⟨k + 1, by omega, by go_num, HN, (hbel.alloc hz _).trans (hb2.mono (by simp; omega))⟩
              case measure => simp [intOf]; omega
            · have h3' : someB ⟨s0, s1, s2⟩ = false := by simpa using h3
              have HN := hide (spansF_5 (unhide HX) (unhide HG) h1 h2 h3')
              have H1 := hide h1
              have H2 := hide h2
              have H3 := hide h3'
              clear h1 h2 h3 h3'
              go_wp2_with (first | (go_at_call 55; refine (cell_any s0 _).mono ?_; rintro e w' ⟨rfl, rfl⟩; rw [H1.out]) | (go_at_call 55; refine (cell_any s1 _).mono ?_; rintro e w' ⟨rfl, rfl⟩; rw [H2.out]))
              refine (some_any s0 s1 s2 _).mono ?_
              rintro e w2 ⟨rfl, hb2⟩
              rw [unhide H3]
              go_wp2_with fail
              go_ret
              exact ⟨by rw [unhide HE, unhide HN]; rfl, (hbel.alloc hz _).trans (hb2.mono (by simp; omega))⟩
          · have h2' : cellB s1 = false := by simpa using h2
            have HN := hide (spansF_1 (unhide HX) (unhide HG) (.inr h2'))
            have H1 := hide h1
            have H2 := hide h2'
            clear h1 h2 h2'
            go_wp2_with (first | (go_at_call 55; refine (cell_any s0 _).mono ?_; rintro e w' ⟨rfl, rfl⟩; rw [H1.out]) | (go_at_call 55; refine (cell_any s1 _).mono ?_; rintro e w' ⟨rfl, rfl⟩; rw [H2.out]))
            go_ret
            exact ⟨by rw [unhide HE, unhide HN]; rfl, hbel.alloc hz _⟩
        · have h1' : cellB s0 = false := by simpa using h1
          have HN := hide (spansF_1 (unhide HX) (unhide HG) (.inl h1'))
          have H1 := hide h1'
          clear h1 h1'
          go_wp2_with (first | (go_at_call 55; refine (cell_any s0 _).mono ?_; rintro e w' ⟨rfl, rfl⟩; rw [H1.out]))
          go_ret
          exact ⟨by rw [unhide HE, unhide HN]; rfl, hbel.alloc hz _⟩
      · have h0 : spansF l = 0 := by
          rw [← unhide HG, List.drop_of_length_le (by have := unhide HL; omega)]; rfl
        have H0 := hide h0
        clear h0
        go_wp2_with fail
        go_ret
        exact ⟨by rw [unhide HE, unhide H0]; rfl, hbel⟩
def witV (l : List Sp) : List Int := if spansE l = 0 then pickL l else []
theorem Witness_any (A : Option Addr) (n c B : Nat) (l : List Sp) (w : World) (hr : SReads w B A n l) (hB : B ≤ w.heap.size) (hn : n ≤ maxLen) :
    Calls Tryz.prog 19 #[.slice A n c] w fun e w' => ∃ A' c', e = .returned (.tuple #[.slice A' (witV l).length c', errV (spansE l)]) ∧ IReads w' w'.heap.size A' (witV l).length (witV l) ∧ Below w.heap.size w w' := by
  by_cases h0 : spansE l = 0
  · have hv := errV_0 h0
    have HV := hide hv
    have hn8 : n ≤ 8 := by
      have := hr.len
      unfold spansE at h0
      by_cases h : 8 < l.length
      · rw [if_pos h] at h0; cases h0
      · omega
    have HW : Hid (witV l = pickL l) := hide (by unfold witV; rw [if_pos h0])
    have HWL : Hid ((pickL l).length = n) := hide (by have := hr.len; simpa [pickL] using this)
    clear h0
    go_enter Tryz.func19, Tryz.ntmps19
    go_wp2_with fail
    refine (pcheck_any A n c B l _ hr hB hn).mono ?_
    rintro e w1 ⟨rfl, hb1⟩
    rw [hv]
    clear hv
    have hz := hb1.size
    go_wp2_with fail
    refine (pick_any A n c B l _ (hr.below (hb1.mono hB)) (by omega) (by omega)).mono ?_
    rintro e w2 ⟨v, rfl, hown, _, hb2⟩
    obtain ⟨A2, c2, rfl, hr2, _, _⟩ := own_slice hown
    go_wp2_with fail
    go_ret2
    exact ⟨A2, c2, by rw [unhide HV, unhide HW, unhide HWL]; rfl, by rw [unhide HW, unhide HWL]; exact hr2, hb1.trans (hb2.mono hz)⟩
  · have hv := errV_1 h0
    have HV := hide hv
    have HW : Hid (witV l = []) := hide (by unfold witV; rw [if_neg h0])
    clear h0
    go_enter Tryz.func19, Tryz.ntmps19
    go_wp2_with fail
    refine (pcheck_any A n c B l _ hr hB hn).mono ?_
    rintro e w1 ⟨rfl, hb1⟩
    rw [hv]
    clear hv
    go_wp2_with fail
    go_ret2
    exact ⟨none, 0, by rw [unhide HV, unhide HW]; rfl, by rw [unhide HW]; exact IReads.nil_, hb1⟩
end Go.Proofs.YtibbohebmmahmaaGreatDoor
/- The references' Spans (what is wrong with some) and Pick: contracts. Conditions: a slice that reads as spans. -/
namespace Go.Proofs.YtibbohebmmahmaaGreatDoor
set_option linter.unusedVariables false
set_option linter.unusedSimpArgs false
open Go.RowKit

set_option maxRecDepth 100000 in
set_option maxHeartbeats 2000000 in
theorem rspans_any (A : Option Addr) (n c B : Nat) (l : List Sp) (w : World) (hr : SReads w B A n l) (hn : n ≤ maxLen) :
    Calls Tryz.prog 17 #[.slice A n c] w fun e w' => e = .returned (.int .i64 (spansE l)) ∧ ∃ q, w' = w.drewN q := by
  have hl := hr.len
  unfold maxLen at hn
  by_cases h8 : 8 < n
  · have HE : Hid (spansE l = 4) := hide (by unfold spansE; rw [if_pos (by omega)])
    clear hl
    go_enter Tryz.func17, Tryz.ntmps17
    go_wp2_with fail
    go_ret
    exact ⟨ret_int (unhide HE).symm, 0, rfl⟩
  · have HE : Hid (spansE l = spansF l) := hide (by unfold spansE; rw [if_neg (by omega)])
    have HL := hide hl
    clear hl
    go_enter Tryz.func17, Tryz.ntmps17
    go_wp2_with fail
    go_loopw [3] (fun i wr => ∃ k q : Nat, k ≤ n ∧ i = .int .i64 k ∧ Hid (spansF (l.drop k) = spansF l) ∧ wr = w.drewN q) (fun i _ => n - (intOf i).toNat)
    case atStart => exact ⟨0, 0, Nat.zero_le _, rfl, hide (by simp), rfl⟩
    case round =>
      obtain ⟨k, q, hk, rfl, HF, rfl⟩ := hrel
      by_cases hlt : k < n
      · obtain ⟨b, o, s, rfl, hb, hs, c0, c1, c2⟩ := hr.get hlt
        have HS := hide hs
        clear hs
        obtain ⟨bl, hbl⟩ : ∃ b, b = cellB s.low := ⟨_, rfl⟩
        obtain ⟨bh, hbh⟩ : ∃ b, b = cellB s.high := ⟨_, rfl⟩
        have HBL := hide hbl
        have HBH := hide hbh
        clear hbl hbh
        go_wp2_with fail
        refine (rcell_any _ _).mono ?_; rintro e w1 ⟨rfl, rfl⟩; rw [← unhide HBL]
        go_wp2_with fail
        refine (rcell_any _ _).mono ?_; rintro e w1 ⟨rfl, rfl⟩; rw [← unhide HBH]
        cases bl
        · have HX := hide (spansF_1 (unhide HS) (unhide HF) (.inl (unhide HBL).symm))
          go_wp2_with fail
          go_ret
          exact ⟨by rw [unhide HE, unhide HX]; rfl, q, rfl⟩
        · cases bh
          · have HX := hide (spansF_1 (unhide HS) (unhide HF) (.inr (unhide HBH).symm))
            go_wp2_with fail
            go_ret
            exact ⟨by rw [unhide HE, unhide HX]; rfl, q, rfl⟩
          · by_cases h1 : s.high < s.low
            · by_cases h2 : s.ab = true
              · have HX := hide (spansF_step (unhide HS) (unhide HF) (unhide HBL).symm (unhide HBH).symm (by simp [someB, h2]))
                rw [h2] at c2
                clear h2
                go_wp2_with fail
                go_quiet (fail)
                go_wp2_with fail
                go_roundw
                case rel => exact ⟨k + 1, q + nq, by omega, by go_num, HX, by first | rfl | rw [World.drewN_drewN]⟩
                case measure => simp [intOf]; omega
              · have h2' : s.ab = false := by simpa using h2
                have HX := hide (spansF_5 (unhide HS) (unhide HF) (unhide HBL).symm (unhide HBH).symm (by simp [someB, h2']; omega))
                rw [h2'] at c2
                clear h2 h2'
                go_wp2_with fail
                go_quiet (fail)
                go_wp2_with fail
                go_ret
                exact ⟨by rw [unhide HE, unhide HX]; rfl, _, by first | rfl | rw [World.drewN_drewN]⟩
            · have HX := hide (spansF_step (unhide HS) (unhide HF) (unhide HBL).symm (unhide HBH).symm (by simp [someB]; left; omega))
              have h1' : decide (s.high < s.low) = false := by simpa using h1
              go_wp2_with fail
              go_quiet (fail)
              go_wp2_with fail
              go_roundw
              case rel => exact ⟨k + 1, q + nq, by omega, by go_num, HX, by first | rfl | rw [World.drewN_drewN]⟩
              case measure => simp [intOf]; omega
      · have HX : Hid (spansF l = 0) := hide (by rw [← unhide HF, List.drop_of_length_le (by have := unhide HL; omega)]; rfl)
        go_wp2_with fail
        go_ret
        exact ⟨by rw [unhide HE, unhide HX]; rfl, q, rfl⟩

set_option maxRecDepth 100000 in
set_option maxHeartbeats 1000000 in
theorem rpick_any (A : Option Addr) (n c B : Nat) (l : List Sp) (w : World) (hr : SReads w B A n l) (hB : B ≤ w.heap.size) (hn : n ≤ 100000000) :
    Calls Tryz.prog 18 #[.slice A n c] w fun e w' => ∃ v, e = .returned v ∧ w'.ownsRow w.heap.size 3 1 v n ((pickL l).map (Value.int .i64)) ∧ Below w.heap.size w w' := by
  have HL := hide hr.len
  go_enter Tryz.func18, Tryz.ntmps18
  go_wp2_with fail
  go_loopw [3, 4] (fun v i wr => ∃ k : Nat, k ≤ n ∧ i = .int .i64 k ∧ Hid (wr.ownsRow w.heap.size 3 1 v k ((pickL (l.take k)).map (Value.int .i64))) ∧ Below w.heap.size w wr) (fun _ i _ => n - (intOf i).toNat)
  case atStart => exact ⟨0, Nat.zero_le _, rfl, hide (by simpa [pickL] using World.ownsRow_nil _ _ _ _), Below.refl _ _⟩
  case round =>
    obtain ⟨k, hk, rfl, HO, hbel⟩ := hrel
    have hsz := hbel.size
    have hown := unhide HO
    by_cases hlt : k < n
    · obtain ⟨b, o, s, rfl, hbl, hx, c0, c1, c2⟩ := (hr.below (hbel.mono hB)).get hlt
      have HX := hide (pick_next hx)
      obtain ⟨s0, s1, s2⟩ := s
      dsimp only at c0 c1 c2
      have hbl' : b < wr.heap.size := by omega
      have hk9 : k < 1000000000 := by omega
      clear hx HO
      by_cases h1 : s0 ≤ s1
      · have HY : Hid (pickL (l.take (k + 1)) = pickL (l.take k) ++ [s0]) := hide (by rw [unhide HX]; simp [pickS, h1])
        go_wp2_with fail
        go_quiet (fail)
        have bq := below_drewN (Below.refl wr.heap.size wr) nq
        have cq := (bq.cell (p := ⟨b, o + k * 3, none⟩) hbl').trans c0
        have hownq := own_below hown bq
        have hsq : w.heap.size ≤ (wr.drewN nq).heap.size := Nat.le_trans hsz bq.size
        have hbq := hbel.trans (bq.mono hsz)
        clear c0 c1 c2 hown hbel bq
        generalize wr.drewN nq = wq at *
        go_wp2_with (at_builtin; refine app_one elem_int (.tmp 22) (.tmp 28) [.int .i64 s0] rfl rfl rfl hownq rfl rfl rfl (ints_oneCell .i64 [s0]) hk9 hsq ?_; intro v' w4 hown4 hb4 hne4 _)
        go_roundw
        case rel => exact ⟨k + 1, by omega, by go_num, hide (by rw [unhide HY]; simpa using hown4), hbq.trans hb4⟩
        case measure => simp [intOf]; omega
      · have HY : Hid (pickL (l.take (k + 1)) = pickL (l.take k) ++ [-1125899906842624]) := hide (by rw [unhide HX]; simp [pickS, h1])
        go_wp2_with fail
        go_quiet (fail)
        have bq := below_drewN (Below.refl wr.heap.size wr) nq
        have hownq := own_below hown bq
        have hsq : w.heap.size ≤ (wr.drewN nq).heap.size := Nat.le_trans hsz bq.size
        have hbq := hbel.trans (bq.mono hsz)
        clear c0 c1 c2 hown hbel bq
        generalize wr.drewN nq = wq at *
        go_wp2_with (at_builtin; refine app_one elem_int (.tmp 30) (.tmp 31) [.int .i64 (-1125899906842624)] rfl rfl rfl hownq rfl rfl rfl (ints_oneCell .i64 [-1125899906842624]) hk9 hsq ?_; intro v' w4 hown4 hb4 hne4 _)
        go_roundw
        case rel => exact ⟨k + 1, by omega, by go_num, hide (by rw [unhide HY]; simpa using hown4), hbq.trans hb4⟩
        case measure => simp [intOf]; omega
    · obtain rfl : k = n := by omega
      rw [List.take_of_length_le (by have := unhide HL; omega)] at hown
      clear HO
      go_wp2_with fail
      go_ret
      exact ⟨_, rfl, hown, hbel⟩
end Go.Proofs.YtibbohebmmahmaaGreatDoor
