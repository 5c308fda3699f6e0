/- Part 33 of what LawLimitTells needs: RefFix, RefGrove2. Conditions: as each lemma names. -/
import Derived.Test.YtafaedhjlmkamaaGreatDoorPkLimitTells32
/- Chapter 1 in the references: Fit, Add, Mul, Floor, Round, Total, firsts, Sorted, Mean, Median. Conditions: as each lemma names. -/
namespace Go.Proofs.YtafaedhjlmkamaaGreatDoor
set_option linter.unusedVariables false
set_option linter.unusedSimpArgs false
open Go.RowKit



theorem rfloor_any (a b : Int) (w : World) (hb : 0 < b) (ha1 : -4000000000000000000 ≤ a) (ha2 : a ≤ 4000000000000000000) (hb2 : b ≤ 4000000000000000000) :
    Calls Tryz.prog 45 #[.int .i64 a, .int .i64 b] w fun e w' => e = .returned (.int .i64 (a / b)) ∧ w = w' := by
  by_cases h : a < 0
  · have E : Hid (-((b - 1 - a) / b) = a / b) := hide (by
      have h1 := Int.emod_nonneg a (show b ≠ 0 by omega)
      have h2 := Int.emod_lt_of_pos a hb
      have h3 := Int.emod_add_mul_ediv a b
      have : (b - 1 - a) / b = -(a / b) := by
        refine ((Int.ediv_emod_unique (r := b - 1 - a % b) (q := -(a / b)) hb).2 ⟨?_, by omega, by omega⟩).1
        rw [Int.mul_neg]; omega
      rw [this, Int.neg_neg])
    have hi := ediv_in (a := b - 1 - a) (b := b) (n := 8000000000000000000) hb (by omega) (by omega) (by omega)
    go_enter Tryz.func45, Tryz.ntmps45
    go_wp2
    go_ret
    exact ⟨ret_int (unhide E), rfl⟩
  · go_enter Tryz.func45, Tryz.ntmps45
    go_wp2
    go_ret
    exact ⟨rfl, rfl⟩




theorem isort_step {S R : List Int} {a x y : Int} {A B : List Int} (hS : S = A ++ [a] ++ B) : (A ++ [a]) ++ (y :: B) ++ R = A ++ [a] ++ (y :: B) ++ R := by simp
theorem set_mid (A B : List Int) (y x : Int) (k : Nat) (hk : A.length = k) : (A ++ (y :: B)).set k x = A ++ (x :: B) := by
  subst hk; rw [List.set_append_right _ _ (Nat.le_refl _)]; simp
theorem get_mid (A B : List Int) (y : Int) (k : Nat) (hk : A.length = k) : (A ++ (y :: B))[k]? = some y := by
  subst hk; rw [List.getElem?_append_right (Nat.le_refl _)]; simp
/-- a number put into a sorted list at its place -/
theorem put_sorted {A B : List Int} {x : Int} (h : (A ++ B).Pairwise (· ≤ ·)) (hB : ∀ b ∈ B, x < b) (hA : ∀ a ∈ A, a ≤ x) : (A ++ (x :: B)).Pairwise (· ≤ ·) := by
  obtain ⟨h1, h2, h3⟩ := List.pairwise_append.1 h
  refine List.pairwise_append.2 ⟨h1, List.pairwise_cons.2 ⟨fun b hb => Int.le_of_lt (hB b hb), h2⟩, fun a ha b hb => ?_⟩
  rcases List.mem_cons.1 hb with rfl | hb
  · exact hA a ha
  · exact h3 a ha b hb

set_option maxRecDepth 100000 in
set_option maxHeartbeats 2000000 in
theorem rsorted_any (A : Option Addr) (n c : Nat) (l : List Int) (w : World) (hr : IReads w w.heap.size A n l) (hn : n ≤ 100000000) :
    Calls Tryz.prog 15 #[.slice A n c] w (IPost (sortL l) w) := by
  have hl := hr.len
  have HL := hide hl
  have hown0 : IOwn w w.heap.size (.slice none 0 0) [] := IOwn.nil_ _ _
  clear hl
  go_enter Tryz.func15, Tryz.ntmps15
  go_wp2_with (at_builtin; refine app_many elem_int (.tmp 7) (.tmp 8) rfl rfl rfl hown0 rfl hr (ints_one l) (by simp; omega) (Nat.le_refl _) ?_; intro v w1 hown1 hb1 _)
  have hown : IOwn w1 w.heap.size v l := by unfold IOwn; rw [unhide HL]; simpa using hown1
  clear hown1 hown0
  obtain ⟨A2, c2, rfl, _, _, hc2, _⟩ := hown.slice_
  rw [unhide HL] at hown hc2 ⊢
  go_wp2_with fail
  go_loopw [4] (fun i wr => ∃ (k : Nat) (S R : List Int), 1 ≤ k ∧ i = .int .i64 k ∧ S.length ≤ k ∧ (R ≠ [] → S.length = k) ∧ Hid (S.Pairwise (· ≤ ·)) ∧ Hid ((S ++ R).Perm l) ∧ k ≤ n + 1 ∧ IOwn wr w.heap.size (.slice A2 n c2) (S ++ R) ∧ Below w.heap.size w wr) (fun i _ => n + 1 - (intOf i).toNat)
  case atStart =>
    cases l with
    | nil => exact ⟨1, [], [], by omega, rfl, by simp, fun h => absurd rfl h, hide (by simp), hide (by simp), by omega, hown, hb1⟩
    | cons x r => exact ⟨1, [x], r, by omega, rfl, by simp, fun _ => rfl, hide (by simp), hide (by simp), by omega, hown, hb1⟩
  case round =>
    obtain ⟨k, S, R, hk1, rfl, hSk, hSR, HS, HP, hkn, hor, hbel⟩ := hrel
    have hlen : S.length + R.length = n := by
      have := (unhide HP).length_eq
      rw [List.length_append, unhide HL] at this; exact this
    by_cases hlt : k < n
    · cases R with
      | nil => simp at hlen; omega
      | cons x R =>
        have hSl : S.length = k := hSR (by simp)
        have hX : (S ++ x :: R)[k]? = some x := get_mid S R x k hSl
        obtain ⟨g, rfl, hg, hgl, cx, fx⟩ := hor.at_ (by simp; simp at hlen; omega) hX
        have HSl := hide hSl
        clear hX hSR hSl
        obtain ⟨wo, hwo⟩ : ∃ wo : World, wo = wr := ⟨_, rfl⟩
        subst hwo
        go_wp2_with fail
        go_loopw [6] (fun i wr => ∃ (A B : List Int) (y : Int) (j : Nat), j ≤ k ∧ i = .int .i64 j ∧ Hid (A.length = j) ∧ Hid (A ++ B = S) ∧ Hid (∀ b ∈ B, x < b) ∧ IOwn wr w.heap.size (.slice (some ⟨g, 0, none⟩) n c2) (A ++ (y :: B) ++ R) ∧ Below w.heap.size w wr) (fun i _ => (intOf i).toNat)
        case atStart => exact ⟨S, [], x, k, Nat.le_refl _, rfl, HSl, hide (by simp), hide (by simp), by simpa using hor, hbel⟩
        case round =>
          obtain ⟨A, B, y, j, hjk, rfl, HA, HAB, HB, hor2, hbel2⟩ := hrel
          have hlen2 : (A ++ (y :: B) ++ R).length = n := by
            have h1 := congrArg List.length (unhide HAB)
            have h2 := unhide HSl
            simp at h1 hlen ⊢; omega
          have hrw : A ++ (y :: B) ++ R = A ++ (y :: (B ++ R)) := by simp
          have hY : (A ++ (y :: B) ++ R)[j]? = some y := by rw [hrw]; exact get_mid A (B ++ R) y j (unhide HA)
          have hst : (A ++ (y :: B) ++ R).set j x = A ++ (x :: B) ++ R := by rw [hrw, set_mid A (B ++ R) y x j (unhide HA)]; simp
          obtain ⟨g', hge, hgb, hgl2, cy, fy⟩ := hor2.at_ hlen2 hY
          obtain rfl : g = g' := by injection hge with hge; injection hge
          have hstore := hor2.stored hlen2 j x
          rw [hst] at hstore
          have HEND : Hid ((∀ a ∈ A, a ≤ x) → (A ++ (x :: B)).Pairwise (· ≤ ·) ∧ ((A ++ (x :: B)) ++ R).Perm l ∧ (A ++ (x :: B)).length = k + 1) := hide (fun hA => by
            have hs := unhide HS
            rw [← unhide HAB] at hs
            refine ⟨put_sorted hs (unhide HB) hA, ?_, ?_⟩
            · refine List.Perm.trans ?_ (unhide HP)
              rw [← unhide HAB]
              have : (A ++ x :: B).Perm (x :: (A ++ B)) := List.perm_middle
              have h2 : (A ++ B ++ x :: R).Perm (x :: (A ++ B ++ R)) := List.perm_middle
              exact (this.append_right R).trans (by simpa using h2.symm)
            · have h1 := congrArg List.length (unhide HAB)
              have h2 := unhide HSl
              simp at h1 ⊢; omega)
          have HL2 := hide hlen2
          clear hlen2 hrw hY hst hge
          rcases Nat.eq_zero_or_pos j with hj0 | hj0
          · have hd : decide (0 < (j : Int)) = false := by simp; omega
            have hd2 : decide (0 < j) = false := by simp; omega
            have HJ0 := hide hj0
            clear hj0
            go_wp2_with fail
            go_roundw
            case rel =>
              obtain ⟨e1, e2, e3⟩ := unhide HEND (by have := unhide HA; rw [unhide HJ0] at this; rw [List.length_eq_zero_iff.1 this]; simp)
              exact ⟨k + 1, A ++ (x :: B), R, by omega, by go_num, by omega, fun _ => e3, hide e1, hide e2, by omega, hstore, hbel2.setCell (by exact hg) _⟩
            case measure => simp [intOf] <;> omega
          · obtain ⟨q, rfl⟩ : ∃ q, j = q + 1 := ⟨j - 1, by omega⟩
            obtain ⟨A', a, rfl⟩ : ∃ A' a, A = A' ++ [a] := by
              have hA := unhide HA
              rcases List.eq_nil_or_concat A with h | ⟨A', a, h⟩
              · rw [h] at hA; simp at hA
              · exact ⟨A', a, by simpa using h⟩
            have hA' : A'.length = q := by have := unhide HA; simpa using this
            have hA1 : ((A' ++ [a]) ++ (y :: B) ++ R)[q]? = some a := by
              have : (A' ++ [a]) ++ (y :: B) ++ R = A' ++ (a :: (y :: B ++ R)) := by simp
              rw [this]; exact get_mid _ _ _ _ hA'
            obtain ⟨g', hge, _, _, ca, fa⟩ := hor2.at_ (unhide HL2) hA1
            obtain rfl : g = g' := by injection hge with hge; injection hge
            have hst2 := hor2.stored (unhide HL2) (q + 1) a
            have hrw2 : ((A' ++ [a]) ++ (y :: B) ++ R).set (q + 1) a = A' ++ (a :: (a :: B)) ++ R := by
              have : (A' ++ [a]) ++ (y :: B) ++ R = (A' ++ [a]) ++ (y :: (B ++ R)) := by simp
              rw [this, set_mid _ _ _ _ _ (by simp [hA'])]; simp
            rw [hrw2] at hst2
            have HA' := hide hA'
            clear hA' hA1 hge hrw2 hj0
            by_cases hax : x < a
            · clear hstore
              go_wp2_with fail
              go_roundw
              case rel => exact ⟨A', a :: B, a, q, by omega, by first | rfl | go_num, HA', hide (by rw [← unhide HAB]; simp), hide (by
                intro b hb
                rcases List.mem_cons.1 hb with rfl | hb
                · exact hax
                · exact unhide HB b hb), hst2, hbel2.setCell (by exact hg) _⟩
              case measure => simp [intOf] <;> omega
            · clear hst2
              go_wp2_with fail
              go_roundw
              case rel =>
                obtain ⟨e1, e2, e3⟩ := unhide HEND (by
                  have hs := unhide HS
                  rw [← unhide HAB, List.append_assoc] at hs
                  obtain ⟨_, _, h3⟩ := List.pairwise_append.1 hs
                  intro b hb
                  rcases List.mem_append.1 hb with hb | hb
                  · have := h3 b hb a (by simp); omega
                  · obtain rfl := List.mem_singleton.1 hb; omega)
                exact ⟨k + 1, (A' ++ [a]) ++ (x :: B), R, by omega, by go_num, by omega, fun _ => e3, hide e1, hide e2, by omega, hstore, hbel2.setCell (by exact hg) _⟩
              case measure => simp [intOf] <;> omega
    · have hR : R = [] := by
        cases R with
        | nil => rfl
        | cons x R => have := hSR (by simp); simp at hlen; omega
      subst hR
      have HE : Hid (S = sortL l) := hide (sortL_of (by simpa using unhide HP) (unhide HS))
      rw [List.append_nil, unhide HE] at hor
      clear HP HS hSR hlen HE
      go_wp2_with fail
      go_ret
      exact ⟨_, rfl, hor, hbel⟩



end Go.Proofs.YtafaedhjlmkamaaGreatDoor
/- The references of groves: orchref1.Stand, Each, Together, Between. Conditions: arguments read as groves and rows. -/
namespace Go.Proofs.YtafaedhjlmkamaaGreatDoor
set_option linter.unusedVariables false
set_option linter.unusedSimpArgs false
open Go.RowKit

end Go.Proofs.YtafaedhjlmkamaaGreatDoor
