/- orchref1.Digits: a number as text. Conditions: a number of no more than fifteen digits. -/
import Derived.Test.YtibbohebmmahmaaDoorWhyP
import Derived.Test.YtibbohebmmahmaaDoorWords
import Derived.Laws.Concat
import Derived.Laws.Strings2
namespace Go.Proofs.YtibbohebmmahmaaDoor
set_option linter.unusedVariables false
set_option linter.unusedSimpArgs false
open Go.RowKit

theorem bt_app (a b : List UInt8) : bt a ++ bt b = bt (a ++ b) := ByteArray.mk_append_mk a b
theorem digit_cut : ∀ u : Nat, u < 10 → (⟨#[48, 49, 50, 51, 52, 53, 54, 55, 56, 57]⟩ : ByteArray).extract u (u + 1) = bt [UInt8.ofNat (48 + u)] := by
  intro u hu
  match u, hu with
  | 0, _ => rfl
  | 1, _ => rfl
  | 2, _ => rfl
  | 3, _ => rfl
  | 4, _ => rfl
  | 5, _ => rfl
  | 6, _ => rfl
  | 7, _ => rfl
  | 8, _ => rfl
  | 9, _ => rfl
theorem run_digit (w : World) (k : Nat) (h : k < 10) : (Instr.slice 9 (.string ⟨#[48, 49, 50, 51, 52, 53, 54, 55, 56, 57]⟩) (some (.int .i64 (k : Int))) (some (.int .i64 ((k : Int) + 1))) none).run Tryd.prog w = .ok (.string (bt [UInt8.ofNat (48 + k)])) w := by
  have hz : (⟨#[48, 49, 50, 51, 52, 53, 54, 55, 56, 57]⟩ : ByteArray).size = 10 := rfl
  have := run_slice_string (P := Tryd.prog) w 9 ⟨#[48, 49, 50, 51, 52, 53, 54, 55, 56, 57]⟩ .i64 .i64 (k : Int) ((k : Int) + 1) Tryd.underlying9 (by omega) (by omega) (by rw [hz]; omega)
  rw [this, show ((k : Int) + 1).toNat = k + 1 by omega, Int.toNat_natCast, digit_cut k h]
theorem dec_len : ∀ (k u : Nat), u < 10 ^ (k + 1) → (Lib.decDigits u).length ≤ k + 1 := by
  intro k
  induction k with
  | zero => intro u h; rw [Lib.decDigits, dif_pos (by simpa using h)]; simp
  | succ k ih =>
    intro u h
    rw [Lib.decDigits]
    split
    · simp
    · rw [List.length_append]
      have := ih (u / 10) (by rw [Nat.pow_succ] at h; omega)
      simp only [List.length_cons, List.length_nil]
      omega

set_option maxHeartbeats 1000000 in
theorem rdigits_nat : ∀ (u : Nat) (w : World), u < 1000000000000000 → Calls Tryd.prog 7 #[.int .i64 (u : Int)] w fun e w' => e = .returned (.string (bt (Lib.decDigits u))) ∧ w = w' := by
  intro u
  induction u using Nat.strongRecOn with
  | _ u ih =>
    intro w hu
    by_cases h10 : u < 10
    · have hd : Hid (Lib.decDigits u = [UInt8.ofNat (48 + u)]) := hide (by rw [Lib.decDigits, dif_pos h10])
      have hrun := fun (W : World) => run_digit W u h10
      obtain ⟨dg, hdg⟩ : ∃ dg, dg = bt [UInt8.ofNat (48 + u)] := ⟨_, rfl⟩
      rw [← hdg] at hrun
      have HDG := hide hdg
      clear hdg
      have h10' : (u : Int) < 10 := by omega
      clear ih
      go_enter Tryd.func7, Tryd.ntmps7
      go_wp2_with fail
      go_ret
      exact ⟨by rw [unhide hd, ← unhide HDG]; rfl, rfl⟩
    · have hd : Hid (Lib.decDigits u = Lib.decDigits (u / 10) ++ [UInt8.ofNat (48 + u % 10)]) := hide (by rw [Lib.decDigits, dif_neg h10])
      have hI := hide (fun (X : World) => ih (u / 10) (by omega) X (by omega))
      obtain ⟨k, hk⟩ : ∃ k, k = u % 10 := ⟨_, rfl⟩
      have hk10 : k < 10 := by omega
      have hrun := fun (W : World) => run_digit W k hk10
      have h1s : (bt [UInt8.ofNat (48 + k)]).size ≤ 1 := Nat.le_refl 1
      obtain ⟨dg, hdg⟩ : ∃ dg, dg = bt [UInt8.ofNat (48 + k)] := ⟨_, rfl⟩
      rw [← hdg] at hrun h1s
      have HDG := hide hdg
      clear hdg
      have e1 : (u : Int) % 10 = (k : Int) := by omega
      obtain ⟨q, hq⟩ : ∃ q, q = u / 10 := ⟨_, rfl⟩
      have e2 : (u : Int) / 10 = (q : Int) := by omega
      have h10' : ¬ (u : Int) < 10 := by omega
      have hl : (bt (Lib.decDigits q)).size ≤ 16 := by rw [bt_size]; exact dec_len 15 _ (by omega)
      rw [← hk, ← hq] at hd
      obtain ⟨D, hD⟩ : ∃ D, D = bt (Lib.decDigits q) := ⟨_, rfl⟩
      rw [← hq, ← hD] at hI
      rw [← hD] at hl
      have HD := hide hD
      clear ih hk hD hq
      go_enter Tryd.func7, Tryd.ntmps7
      go_wp2_with fail
      refine (unhide hI _).mono ?_
      rintro e w1 ⟨rfl, rfl⟩
      go_wp2_with fail
      go_ret
      exact ⟨by rw [unhide hd, ← bt_app, ← unhide HD, ← unhide HDG]; rfl, rfl⟩
theorem rdigits_any (n : Int) (w : World) (h0 : -1000000000000 ≤ n) (h1 : n ≤ 1000000000000) : Calls Tryd.prog 7 #[.int .i64 n] w fun e w' => e = .returned (.string (bt (Lib.itoa n))) ∧ w = w' := by
  by_cases hn : n < 0
  · obtain ⟨u, rfl⟩ : ∃ u : Nat, n = -(u : Int) := ⟨n.natAbs, by omega⟩
    have hi := hide (Lib.itoa_neg u (by omega))
    have hI := hide (fun (X : World) => rdigits_nat u X (by omega))
    have hl : (bt (Lib.decDigits u)).size ≤ 16 := by rw [bt_size]; exact dec_len 15 _ (by omega)
    obtain ⟨D, hD⟩ : ∃ D, D = bt (Lib.decDigits u) := ⟨_, rfl⟩
    rw [← hD] at hI hl
    have HD := hide hD
    clear hD
    go_enter Tryd.func7, Tryd.ntmps7
    go_wp2_with fail
    refine (unhide hI _).mono ?_
    rintro e w1 ⟨rfl, rfl⟩
    go_wp2_with fail
    go_ret
    exact ⟨by rw [unhide hi, show (45 :: Lib.decDigits u) = [45] ++ Lib.decDigits u from rfl, ← bt_app, ← unhide HD]; rfl, rfl⟩
  · obtain ⟨u, rfl⟩ : ∃ u : Nat, n = u := ⟨n.toNat, by omega⟩
    rw [Lib.itoa_nonneg]
    exact rdigits_nat u w (by omega)
end Go.Proofs.YtibbohebmmahmaaDoor
