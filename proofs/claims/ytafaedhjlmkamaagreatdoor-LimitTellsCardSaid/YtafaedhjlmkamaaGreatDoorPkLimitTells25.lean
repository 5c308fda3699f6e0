/- Part 25 of what LawLimitTells needs: RefRow, RefSpans, GroveMono. Conditions: as each lemma names. -/
import Derived.Test.YtafaedhjlmkamaaGreatDoorPkLimitTells02
import Derived.Test.YtafaedhjlmkamaaGreatDoorPkLimitTells24
import Derived.Test.YtafaedhjlmkamaaGreatDoorPkLimitTells12
import Derived.Test.YtafaedhjlmkamaaGreatDoorPkLimitTells19
/- The references of chapter 3: Cell, none, Row. Conditions: a slice that reads as a list. -/
namespace Go.Proofs.YtafaedhjlmkamaaGreatDoor
set_option linter.unusedVariables false
set_option linter.unusedSimpArgs false
open Go.RowKit

theorem rcell_any (n : Int) (w : World) : Calls Tryz.prog 18 #[.int .i64 n] w fun e w' => e = .returned (.bool (cellB n)) ∧ w = w' := by
  by_cases h1 : -1000000 ≤ n
  · by_cases h2 : n ≤ 1000000
    · go_enter Tryz.func18, Tryz.ntmps18
      go_wp2
      go_ret
      exact ⟨by rw [cellB_t.2 ⟨h1, h2⟩]; rfl, rfl⟩
    · go_enter Tryz.func18, Tryz.ntmps18
      go_wp2
      go_ret
      exact ⟨by rw [cellB_f.2 (by omega)]; rfl, rfl⟩
  · go_enter Tryz.func18, Tryz.ntmps18
    go_wp2
    go_ret
    exact ⟨by rw [cellB_f.2 (by omega)]; rfl, rfl⟩

theorem rnone_any (n : Int) (w : World) : Calls Tryz.prog 51 #[.int .i64 n] w fun e w' => e = .returned (.bool (n == -1125899906842624)) ∧ w = w' := by
  go_enter Tryz.func51, Tryz.ntmps51
  go_wp2
  go_ret
  exact ⟨rfl, rfl⟩

set_option maxRecDepth 100000 in
theorem rrow_any (A : Option Addr) (n c : Nat) (l : List Int) (w : World) (B : Nat) (ha : IReads w B A n l) (hn : n ≤ maxLen) :
    Calls Tryz.prog 31 #[.slice A n c] w fun e w' => e = .returned (.int .i64 (rowE l)) ∧ w = w' := by
  have hl := ha.len
  unfold maxLen at hn
  by_cases h8 : 8 < n
  · have HE : Hid (rowE l = 4) := hide (by unfold rowE; rw [if_pos (by omega)])
    clear hl
    go_enter Tryz.func31, Tryz.ntmps31
    go_wp2_with fail
    go_ret
    exact ⟨ret_int (unhide HE).symm, rfl⟩
  · have HL := hide hl
    clear hl
    go_enter Tryz.func31, Tryz.ntmps31
    go_wp2_with fail
    go_loop [3] (fun i => ∃ k : Nat, k ≤ n ∧ i = .int .i64 k ∧ Hid (∀ y ∈ l.take k, rowGood y = true)) (fun i => n - (intOf i).toNat)
    case atStart => exact ⟨0, Nat.zero_le _, rfl, hide (by simp)⟩
    case round =>
      obtain ⟨k, hk, rfl, HG⟩ := hrel
      by_cases hlt : k < n
      · obtain ⟨b, o, x, rfl, hb, hx, cx⟩ := ha.get hlt
        have HX := hide hx
        clear hx
        by_cases hc : cellB x = true
        · have HC := hide hc
          clear hc
          go_wp2_with fail
          refine (rcell_any _ _).mono ?_; rintro e w1 ⟨rfl, rfl⟩; rw [unhide HC]
          go_wp2_with fail
          refine (rnone_any _ _).mono ?_; rintro e w1 ⟨rfl, rfl⟩
          go_wp2_with fail
          go_round
          case rel => exact ⟨k + 1, by omega, by go_num, hide (all_next (unhide HX) (unhide HG) (by simp [rowGood, unhide HC]))⟩
          case measure => simp [intOf]; omega
        · have hc2 : cellB x = false := by simpa using hc
          have HC := hide hc2
          clear hc hc2
          by_cases hn2 : x = -1125899906842624
          · have q : (x == -1125899906842624) = true := by simpa using hn2
            have HN := hide q
            clear q hn2
            go_wp2_with fail
            refine (rcell_any _ _).mono ?_; rintro e w1 ⟨rfl, rfl⟩; rw [unhide HC]
            go_wp2_with fail
            refine (rnone_any _ _).mono ?_; rintro e w1 ⟨rfl, rfl⟩; rw [unhide HN]
            go_wp2_with fail
            go_round
            case rel => exact ⟨k + 1, by omega, by go_num, hide (all_next (unhide HX) (unhide HG) (by have := unhide HN; simp [rowGood, nilC] at this ⊢; exact .inl this))⟩
            case measure => simp [intOf]; omega
          · have q : (x == -1125899906842624) = false := by simpa using hn2
            have HN := hide q
            have HE : Hid (rowE l = 1) := hide (rowE_bad (unhide HX) (by simp [rowGood, nilC, unhide HC]; exact hn2) (by have := unhide HL; omega))
            clear q hn2
            go_wp2_with fail
            refine (rcell_any _ _).mono ?_; rintro e w1 ⟨rfl, rfl⟩; rw [unhide HC]
            go_wp2_with fail
            refine (rnone_any _ _).mono ?_; rintro e w1 ⟨rfl, rfl⟩; rw [unhide HN]
            go_wp2_with fail
            go_ret
            exact ⟨ret_int (unhide HE).symm, rfl⟩
      · have HE : Hid (rowE l = 0) := hide (by
          have h2 := unhide HG
          rw [List.take_of_length_le (by have := unhide HL; omega)] at h2
          exact rowE_good h2 (by have := unhide HL; omega))
        go_wp2_with fail
        go_ret
        exact ⟨ret_int (unhide HE).symm, rfl⟩
end Go.Proofs.YtafaedhjlmkamaaGreatDoor
/- The references' Spans (what is wrong with some) and Pick: contracts. Conditions: a slice that reads as spans. -/
namespace Go.Proofs.YtafaedhjlmkamaaGreatDoor
set_option linter.unusedVariables false
set_option linter.unusedSimpArgs false
open Go.RowKit

set_option maxRecDepth 100000 in
set_option maxHeartbeats 2000000 in
theorem rspans_any (A : Option Addr) (n c B : Nat) (l : List Sp) (w : World) (hr : SReads w B A n l) (hn : n ≤ maxLen) :
    Calls Tryz.prog 4 #[.slice A n c] w fun e w' => e = .returned (.int .i64 (spansE l)) ∧ ∃ q, w' = w.drewN q := by
  have hl := hr.len
  unfold maxLen at hn
  by_cases h8 : 8 < n
  · have HE : Hid (spansE l = 4) := hide (by unfold spansE; rw [if_pos (by omega)])
    clear hl
    go_enter Tryz.func4, Tryz.ntmps4
    go_wp2_with fail
    go_ret
    exact ⟨ret_int (unhide HE).symm, 0, rfl⟩
  · have HE : Hid (spansE l = spansF l) := hide (by unfold spansE; rw [if_neg (by omega)])
    have HL := hide hl
    clear hl
    go_enter Tryz.func4, Tryz.ntmps4
    go_wp2_with fail
    go_loopw [3] (fun i wr => ∃ k q : Nat, k ≤ n ∧ i = .int .i64 k ∧ Hid (spansF (l.drop k) = spansF l) ∧ wr = w.drewN q) (fun i _ => n - (intOf i).toNat)
    case atStart => exact ⟨0, 0, Nat.zero_le _, rfl, hide (by simp), rfl⟩
    case round =>
      obtain ⟨k, q, hk, rfl, HF, rfl⟩ := hrel
      by_cases hlt : k < n
      · obtain ⟨b, o, s, rfl, hb, hs, c0, c1, c2⟩ := hr.get hlt
        have HS := hide hs
        clear hs
        obtain ⟨bl, hbl⟩ : ∃ b, b = cellB s.low := ⟨_, rfl⟩
        obtain ⟨bh, hbh⟩ : ∃ b, b = cellB s.high := ⟨_, rfl⟩
        have HBL := hide hbl
        have HBH := hide hbh
        clear hbl hbh
        go_wp2_with fail
        refine (rcell_any _ _).mono ?_; rintro e w1 ⟨rfl, rfl⟩; rw [← unhide HBL]
        go_wp2_with fail
        refine (rcell_any _ _).mono ?_; rintro e w1 ⟨rfl, rfl⟩; rw [← unhide HBH]
        cases bl
        · have HX := hide (spansF_1 (unhide HS) (unhide HF) (.inl (unhide HBL).symm))
          go_wp2_with fail
          go_ret
          exact ⟨by rw [unhide HE, unhide HX]; rfl, q, rfl⟩
        · cases bh
          · have HX := hide (spansF_1 (unhide HS) (unhide HF) (.inr (unhide HBH).symm))
            go_wp2_with fail
            go_ret
            exact ⟨by rw [unhide HE, unhide HX]; rfl, q, rfl⟩
          · by_cases h1 : s.high < s.low
            · by_cases h2 : s.ab = true
              · have HX := hide (spansF_step (unhide HS) (unhide HF) (unhide HBL).symm (unhide HBH).symm (by simp [someB, h2]))
                rw [h2] at c2
                clear h2
                go_wp2_with fail
                go_quiet (fail)
                go_wp2_with fail
                go_roundw
                case rel => exact ⟨k + 1, q + nq, by omega, by go_num, HX, by first | rfl | rw [World.drewN_drewN]⟩
                case measure => simp [intOf]; omega
              · have h2' : s.ab = false := by simpa using h2
                have HX := hide (spansF_5 (unhide HS) (unhide HF) (unhide HBL).symm (unhide HBH).symm (by simp [someB, h2']; omega))
                rw [h2'] at c2
                clear h2 h2'
                go_wp2_with fail
                go_quiet (fail)
                go_wp2_with fail
                go_ret
                exact ⟨by rw [unhide HE, unhide HX]; rfl, _, by first | rfl | rw [World.drewN_drewN]⟩
            · have HX := hide (spansF_step (unhide HS) (unhide HF) (unhide HBL).symm (unhide HBH).symm (by simp [someB]; left; omega))
              have h1' : decide (s.high < s.low) = false := by simpa using h1
              go_wp2_with fail
              go_quiet (fail)
              go_wp2_with fail
              go_roundw
              case rel => exact ⟨k + 1, q + nq, by omega, by go_num, HX, by first | rfl | rw [World.drewN_drewN]⟩
              case measure => simp [intOf]; omega
      · have HX : Hid (spansF l = 0) := hide (by rw [← unhide HF, List.drop_of_length_le (by have := unhide HL; omega)]; rfl)
        go_wp2_with fail
        go_ret
        exact ⟨by rw [unhide HE, unhide HX]; rfl, q, rfl⟩

set_option maxRecDepth 100000 in
set_option maxHeartbeats 1000000 in
theorem rpick_any (A : Option Addr) (n c B : Nat) (l : List Sp) (w : World) (hr : SReads w B A n l) (hB : B ≤ w.heap.size) (hn : n ≤ 100000000) :
    Calls Tryz.prog 23 #[.slice A n c] w fun e w' => ∃ v, e = .returned v ∧ w'.ownsRow w.heap.size 3 1 v n ((pickL l).map (Value.int .i64)) ∧ Below w.heap.size w w' := by
  have HL := hide hr.len
  go_enter Tryz.func23, Tryz.ntmps23
  go_wp2_with fail
  go_loopw [3, 4] (fun v i wr => ∃ k : Nat, k ≤ n ∧ i = .int .i64 k ∧ Hid (wr.ownsRow w.heap.size 3 1 v k ((pickL (l.take k)).map (Value.int .i64))) ∧ Below w.heap.size w wr) (fun _ i _ => n - (intOf i).toNat)
  case atStart => exact ⟨0, Nat.zero_le _, rfl, hide (by simpa [pickL] using World.ownsRow_nil _ _ _ _), Below.refl _ _⟩
  case round =>
    obtain ⟨k, hk, rfl, HO, hbel⟩ := hrel
    have hsz := hbel.size
    have hown := unhide HO
    by_cases hlt : k < n
    · obtain ⟨b, o, s, rfl, hbl, hx, c0, c1, c2⟩ := (hr.below (hbel.mono hB)).get hlt
      have HX := hide (pick_next hx)
      obtain ⟨s0, s1, s2⟩ := s
      dsimp only at c0 c1 c2
      have hbl' : b < wr.heap.size := by omega
      have hk9 : k < 1000000000 := by omega
      clear hx HO
      by_cases h1 : s0 ≤ s1
      · have HY : Hid (pickL (l.take (k + 1)) = pickL (l.take k) ++ [s0]) := hide (by rw [unhide HX]; simp [pickS, h1])
        go_wp2_with fail
        go_quiet (fail)
        have bq := below_drewN (Below.refl wr.heap.size wr) nq
        have cq := (bq.cell (p := ⟨b, o + k * 3, none⟩) hbl').trans c0
        have hownq := own_below hown bq
        have hsq : w.heap.size ≤ (wr.drewN nq).heap.size := Nat.le_trans hsz bq.size
        have hbq := hbel.trans (bq.mono hsz)
        clear c0 c1 c2 hown hbel bq
        generalize wr.drewN nq = wq at *
        go_wp2_with (at_builtin; refine app_one elem_int (.tmp 22) (.tmp 28) [.int .i64 s0] rfl rfl rfl hownq rfl rfl rfl (ints_oneCell .i64 [s0]) hk9 hsq ?_; intro v' w4 hown4 hb4 hne4 _)
        go_roundw
        case rel => exact ⟨k + 1, by omega, by go_num, hide (by rw [unhide HY]; simpa using hown4), hbq.trans hb4⟩
        case measure => simp [intOf]; omega
      · have HY : Hid (pickL (l.take (k + 1)) = pickL (l.take k) ++ [-1125899906842624]) := hide (by rw [unhide HX]; simp [pickS, h1])
        go_wp2_with fail
        go_quiet (fail)
        have bq := below_drewN (Below.refl wr.heap.size wr) nq
        have hownq := own_below hown bq
        have hsq : w.heap.size ≤ (wr.drewN nq).heap.size := Nat.le_trans hsz bq.size
        have hbq := hbel.trans (bq.mono hsz)
        clear c0 c1 c2 hown hbel bq
        generalize wr.drewN nq = wq at *
        go_wp2_with (at_builtin; refine app_one elem_int (.tmp 30) (.tmp 31) [.int .i64 (-1125899906842624)] rfl rfl rfl hownq rfl rfl rfl (ints_oneCell .i64 [-1125899906842624]) hk9 hsq ?_; intro v' w4 hown4 hb4 hne4 _)
        go_roundw
        case rel => exact ⟨k + 1, by omega, by go_num, hide (by rw [unhide HY]; simpa using hown4), hbq.trans hb4⟩
        case measure => simp [intOf]; omega
    · obtain rfl : k = n := by omega
      rw [List.take_of_length_le (by have := unhide HL; omega)] at hown
      clear HO
      go_wp2_with fail
      go_ret
      exact ⟨_, rfl, hown, hbel⟩
end Go.Proofs.YtafaedhjlmkamaaGreatDoor
/- What trees come to together rises with them; a vote is one of them. Plain. Conditions: as each lemma names. -/
namespace Go.Proofs.YtafaedhjlmkamaaGreatDoor
set_option linter.unusedVariables false
set_option linter.unusedSimpArgs false
open Go.RowKit

theorem vote_exists {ps : Ps} (h : ps ≠ []) : ∃ b, IsVote ps b := by
  have h1 : (ps.map (·.1)).map (pVotes ps) ≠ [] := by simpa using h
  obtain ⟨hm, hall⟩ := maxOf_spec h1
  obtain ⟨x, hx, hxe⟩ := List.mem_map.1 hm
  have h2 : (ps.map (·.1)).filter (fun v => pVotes ps v == Lib.maxOf ((ps.map (·.1)).map (pVotes ps))) ≠ [] := by
    intro e
    have : x ∈ (ps.map (·.1)).filter (fun v => pVotes ps v == Lib.maxOf ((ps.map (·.1)).map (pVotes ps))) := List.mem_filter.2 ⟨hx, by simpa using hxe⟩
    rw [e] at this; cases this
  obtain ⟨hb, hmin⟩ := minOf_spec h2
  obtain ⟨hb1, hb2⟩ := List.mem_filter.1 hb
  have hb2' : pVotes ps (Lib.minOf ((ps.map (·.1)).filter (fun v => pVotes ps v == Lib.maxOf ((ps.map (·.1)).map (pVotes ps))))) = Lib.maxOf ((ps.map (·.1)).map (pVotes ps)) := by simpa using hb2
  refine ⟨_, hb1, fun v hv => ?_, fun v hv e => hmin v (List.mem_filter.2 ⟨hv, ?_⟩)⟩
  · rw [hb2']; exact hall _ (List.mem_map.2 ⟨v, hv, rfl⟩)
  · rw [e, hb2']; simp
theorem pSum_mono {α : Type} (a b : α → Int) (ts : List α) : ∀ (ws : List Int), (∀ t ∈ ts, a t ≤ b t) → (∀ x ∈ ws, 0 ≤ x) → pSum ((ts.map a).zip ws) ≤ pSum ((ts.map b).zip ws) := by
  induction ts with
  | nil => intro ws _ _; simp
  | cons t r ih =>
    intro ws h hw
    cases ws with
    | nil => simp
    | cons w ws =>
      have h1 := ih ws (fun t ht => h t (List.mem_cons_of_mem _ ht)) (fun x hx => hw x (List.mem_cons_of_mem _ hx))
      have h2 : a t * w ≤ b t * w := Int.mul_le_mul_of_nonneg_right (h t (List.mem_cons_self ..)) (hw w (List.mem_cons_self ..))
      unfold pSum at h1 ⊢
      simp only [List.map_cons, List.zip_cons_cons, List.sum_cons]
      omega
theorem pAll_same {α : Type} (a b : α → Int) (ts : List α) : ∀ (ws : List Int), pAll ((ts.map a).zip ws) = pAll ((ts.map b).zip ws) := by
  induction ts with
  | nil => intro ws; simp
  | cons t r ih =>
    intro ws
    cases ws with
    | nil => simp
    | cons w ws =>
      have h1 := ih ws
      unfold pAll at h1 ⊢
      simp only [List.map_cons, List.zip_cons_cons, List.sum_cons]
      omega
theorem tog_mono {α : Type} {a b : α → Int} {ts : List α} {ws : List Int} {way : Int} (h : ∀ t ∈ ts, a t ≤ b t) (hw : ∀ x ∈ ws, 1 ≤ x ∧ x ≤ 1000) (hl : ws.length = ts.length) (hp : 0 < ts.length) (h3 : way = 1 ∨ way = 2) : togV way ws (ts.map a) ≤ togV way ws (ts.map b) := by
  have h1 := pSum_mono a b ts ws h (fun x hx => by have := hw x hx; omega)
  unfold togV
  rcases h3 with rfl | rfl
  · rw [if_pos rfl, if_pos rfl]; exact h1
  · rw [if_neg (by decide), if_pos rfl, if_neg (by decide), if_pos rfl, pAll_same a b]
    have hA := (pAll_in (ps := (ts.map b).zip ws) (fun p hp => hw _ (List.of_mem_zip (a := p.1) (b := p.2) hp).2)).1
    rw [List.length_zip, List.length_map, hl, Nat.min_self] at hA
    exact Int.ediv_le_ediv (by omega) h1
theorem zip_fst {l : List Int} {ws : List Int} (h : l.length = ws.length) : (l.zip ws).map (·.1) = l := List.map_fst_zip (by omega)
theorem vote_in {l ws : List Int} (h : l.length = ws.length) (hn : l ≠ []) : voteV (l.zip ws) ∈ l := by
  have h0 : l.zip ws ≠ [] := fun e => by
    have := congrArg List.length e
    rw [List.length_zip, h, Nat.min_self] at this
    have : l.length = 0 := by rw [h]; simpa using this
    exact hn (List.eq_nil_of_length_eq_zero this)
  obtain ⟨b, hb⟩ := vote_exists h0
  rw [voteV_eq hb]
  have := hb.mem
  rwa [zip_fst h] at this
theorem way_cases {g : Gv} (h : GRight g) : (g.way = 1 ∨ g.way = 2) ∨ g.way = 3 := by have := h.way1; have := h.way3; omega
theorem eval_vote {g : Gv} {r : List Int} (h : standE g r = 0) (hw : g.way = 3) : gevalV g r ∈ eachV g r := by
  obtain ⟨hG, _, _⟩ := standE_0 h
  have hl : (eachV g r).length = g.ws.length := by rw [eachV_len, hG.wlen]
  have hp := hG.pos
  unfold gevalV togV
  rw [if_pos h, if_neg (by omega), if_neg (by omega)]
  exact vote_in hl (fun e => by rw [e] at hl; have := hG.wlen; simp at hl; omega)
end Go.Proofs.YtafaedhjlmkamaaGreatDoor
