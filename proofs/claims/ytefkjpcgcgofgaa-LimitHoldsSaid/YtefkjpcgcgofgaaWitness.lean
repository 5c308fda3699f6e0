/- path.Check, path.Witness. Conditions: as each lemma names. -/
import Derived.Test.YtefkjpcgcgofgaaPick
namespace Go.Proofs.Ytefkjpcgcgofgaa
set_option linter.unusedVariables false
set_option linter.unusedSimpArgs false
open Go.RowKit

def spansF : List Sp → Int
  | [] => 0
  | s :: r => if cellB s.low && cellB s.high then (if someB s then spansF r else 5) else 1
def spansE (l : List Sp) : Int := if 8 < l.length then 4 else spansF l
theorem spansF_step {l : List Sp} {k : Nat} {s : Sp} (h : l[k]? = some s) (hF : spansF (l.drop k) = spansF l) (h1 : cellB s.low = true) (h2 : cellB s.high = true) (h3 : someB s = true) : spansF (l.drop (k + 1)) = spansF l := by
  rw [← hF, drop_at h, spansF, h1, h2, h3]; rfl
theorem spansF_1 {l : List Sp} {k : Nat} {s : Sp} (h : l[k]? = some s) (hF : spansF (l.drop k) = spansF l) (h1 : cellB s.low = false ∨ cellB s.high = false) : spansF l = 1 := by
  rw [← hF, drop_at h, spansF]
  rcases h1 with h1 | h1 <;> rw [h1] <;> simp
theorem spansF_5 {l : List Sp} {k : Nat} {s : Sp} (h : l[k]? = some s) (hF : spansF (l.drop k) = spansF l) (h1 : cellB s.low = true) (h2 : cellB s.high = true) (h3 : someB s = false) : spansF l = 5 := by
  rw [← hF, drop_at h, spansF, h1, h2, h3]; rfl

set_option maxRecDepth 100000 in
set_option maxHeartbeats 2000000 in
theorem pcheck_any (A : Option Addr) (n c B : Nat) (l : List Sp) (w : World) (hr : SReads w B A n l) (hB : B ≤ w.heap.size) (hn : n ≤ maxLen) :
    Calls Try.prog 47 #[.slice A n c] w fun e w' => e = .returned (errV (spansE l)) ∧ Below w.heap.size w w' := by
  unfold maxLen at hn
  have hl := hr.len
  by_cases h8 : 8 < n
  · have HE : Hid (spansE l = 4) := hide (by unfold spansE; rw [if_pos (by omega)])
    clear hl
    go_enter Try.func47, Try.ntmps47
    go_wp2
    go_ret
    exact ⟨by rw [unhide HE]; rfl, Below.refl _ _⟩
  · have HE : Hid (spansE l = spansF l) := hide (by unfold spansE; rw [if_neg (by omega)])
    have HL := hide hl
    clear hl
    go_enter Try.func47, Try.ntmps47
    go_wp2_with fail
    go_loopw [11] (fun i wr => ∃ k : Nat, k ≤ n ∧ i = .int .i64 k ∧ Hid (spansF (l.drop k) = spansF l) ∧ Below w.heap.size w wr) (fun i _ => n - (intOf i).toNat)
    case atStart => exact ⟨0, Nat.zero_le _, rfl, hide (by simp), Below.refl _ _⟩
    case round =>
      obtain ⟨k, hk, rfl, HG, hbel⟩ := hrel
      have hz := hbel.size
      by_cases hlt : k < n
      · obtain ⟨b, o, s, rfl, hb, hx, c0, c1, c2⟩ := (hr.below (hbel.mono hB)).get hlt
        have HX := hide hx
        obtain ⟨s0, s1, s2⟩ := s
        dsimp only at c0 c1 c2
        clear hx
        by_cases h1 : cellB s0 = true
        · by_cases h2 : cellB s1 = true
          · by_cases h3 : someB ⟨s0, s1, s2⟩ = true
            · have HN := hide (spansF_step (unhide HX) (unhide HG) h1 h2 h3)
              have H1 := hide h1
              have H2 := hide h2
              have H3 := hide h3
              clear h1 h2 h3
              go_wp2_with (first | (go_at_call 38; refine (cell_any s0 _).mono ?_; rintro e w' ⟨rfl, rfl⟩; rw [H1.out]) | (go_at_call 38; refine (cell_any s1 _).mono ?_; rintro e w' ⟨rfl, rfl⟩; rw [H2.out]))
              refine (some_any s0 s1 s2 _).mono ?_
              rintro e w2 ⟨rfl, hb2⟩
              rw [unhide H3]
              go_wp2_with fail
              go_roundw
              case rel => exact ⟨k + 1, by omega, by go_num, HN, (hbel.alloc hz _).trans (hb2.mono (by simp; omega))⟩
              case measure => simp [intOf]; omega
            · have h3' : someB ⟨s0, s1, s2⟩ = false := by simpa using h3
              have HN := hide (spansF_5 (unhide HX) (unhide HG) h1 h2 h3')
              have H1 := hide h1
              have H2 := hide h2
              have H3 := hide h3'
              clear h1 h2 h3 h3'
              go_wp2_with (first | (go_at_call 38; refine (cell_any s0 _).mono ?_; rintro e w' ⟨rfl, rfl⟩; rw [H1.out]) | (go_at_call 38; refine (cell_any s1 _).mono ?_; rintro e w' ⟨rfl, rfl⟩; rw [H2.out]))
              refine (some_any s0 s1 s2 _).mono ?_
              rintro e w2 ⟨rfl, hb2⟩
              rw [unhide H3]
              go_wp2_with fail
              go_ret
              exact ⟨by rw [unhide HE, unhide HN]; rfl, (hbel.alloc hz _).trans (hb2.mono (by simp; omega))⟩
          · have h2' : cellB s1 = false := by simpa using h2
            have HN := hide (spansF_1 (unhide HX) (unhide HG) (.inr h2'))
            have H1 := hide h1
            have H2 := hide h2'
            clear h1 h2 h2'
            go_wp2_with (first | (go_at_call 38; refine (cell_any s0 _).mono ?_; rintro e w' ⟨rfl, rfl⟩; rw [H1.out]) | (go_at_call 38; refine (cell_any s1 _).mono ?_; rintro e w' ⟨rfl, rfl⟩; rw [H2.out]))
            go_ret
            exact ⟨by rw [unhide HE, unhide HN]; rfl, hbel.alloc hz _⟩
        · have h1' : cellB s0 = false := by simpa using h1
          have HN := hide (spansF_1 (unhide HX) (unhide HG) (.inl h1'))
          have H1 := hide h1'
          clear h1 h1'
          go_wp2_with (first | (go_at_call 38; refine (cell_any s0 _).mono ?_; rintro e w' ⟨rfl, rfl⟩; rw [H1.out]))
          go_ret
          exact ⟨by rw [unhide HE, unhide HN]; rfl, hbel.alloc hz _⟩
      · have h0 : spansF l = 0 := by
          rw [← unhide HG, List.drop_of_length_le (by have := unhide HL; omega)]; rfl
        have H0 := hide h0
        clear h0
        go_wp2_with fail
        go_ret
        exact ⟨by rw [unhide HE, unhide H0]; rfl, hbel⟩
def witV (l : List Sp) : List Int := if spansE l = 0 then pickL l else []
end Go.Proofs.Ytefkjpcgcgofgaa
