/- Chapter 1 in the references: Fit, Add, Mul, Floor, Round, Total, firsts, Sorted, Mean, Median. Conditions: as each lemma names. -/
import Derived.Test.YtlicgpjcnkabiaaFixed2
namespace Go.Proofs.Ytlicgpjcnkabiaa
set_option linter.unusedVariables false
set_option linter.unusedSimpArgs false
open Go.RowKit

theorem rfit_any (n : Int) (w : World) : Calls Try.prog 31 #[.int .i64 n] w fun e w' => e = .returned (.int .i64 (fitV n)) ∧ w = w' := by
  go_enter Try.func31, Try.ntmps31
  go_wp2 <;> (go_ret; exact ⟨ret_int (by unfold fitV; omega), rfl⟩)
theorem radd_any (a b : Int) (w : World) : Calls Try.prog 12 #[.int .i64 a, .int .i64 b] w fun e w' => e = .returned (.int .i64 (addV a b)) ∧ w = w' := by
  have ha := fitV_le a
  have hb := fitV_le b
  go_enter Try.func12, Try.ntmps12
  go_wp2_with fail
  refine (rfit_any _ _).mono ?_; rintro e w1 ⟨rfl, rfl⟩
  go_wp2_with fail
  refine (rfit_any _ _).mono ?_; rintro e w1 ⟨rfl, rfl⟩
  go_wp2_with fail
  refine (rfit_any _ _).mono ?_; rintro e w1 ⟨rfl, rfl⟩
  go_wp2_with fail
  go_ret
  exact ⟨rfl, rfl⟩

theorem rmul_any (a b : Int) (w : World) : Calls Try.prog 13 #[.int .i64 a, .int .i64 b] w fun e w' => e = .returned (.int .i64 (mulV a b)) ∧ w = w' := by
  have hm : mulV a b = fitV (fitV a * fitV b) := rfl
  generalize hx : fitV a = x at *
  generalize hy : fitV b = y at *
  have hx1 := fitV_le a
  have hy1 := fitV_le b
  rw [hx] at hx1
  rw [hy] at hy1
  have HM := hide hm
  have HX := hide hx
  have HY := hide hy
  clear hm hx hy
  by_cases x0 : x = 0
  · have E : Hid (mulV a b = 0) := hide (mulV_zero (.inl (by rw [unhide HX, x0])))
    have b0 : (x == 0) = true := by simpa using x0
    clear x0
    go_enter Try.func13, Try.ntmps13
    go_wp2_with fail
    refine (rfit_any _ _).mono ?_; rintro e w1 ⟨rfl, rfl⟩; rw [unhide HX]
    go_wp2_with fail
    refine (rfit_any _ _).mono ?_; rintro e w1 ⟨rfl, rfl⟩; rw [unhide HY]
    go_wp2_with fail
    go_ret
    exact ⟨ret_int (unhide E).symm, rfl⟩
  by_cases y0 : y = 0
  · have E : Hid (mulV a b = 0) := hide (mulV_zero (.inr (by rw [unhide HY, y0])))
    have b0 : (x == 0) = false := by simpa using x0
    have b1 : (y == 0) = true := by simpa using y0
    clear y0
    go_enter Try.func13, Try.ntmps13
    go_wp2_with fail
    refine (rfit_any _ _).mono ?_; rintro e w1 ⟨rfl, rfl⟩; rw [unhide HX]
    go_wp2_with fail
    refine (rfit_any _ _).mono ?_; rintro e w1 ⟨rfl, rfl⟩; rw [unhide HY]
    go_wp2_with fail
    go_ret
    exact ⟨ret_int (unhide E).symm, rfl⟩
  have b0 : (x == 0) = false := by simpa using x0
  have b1 : (y == 0) = false := by simpa using y0
  by_cases hs : 0 < x ∧ 0 < y
  · obtain ⟨hs1, hs2⟩ := hs
    have p1 : 0 < x := by omega
    have p2 : 0 < y := by omega
    have d1 : decide (x < 0) = false := by simp; omega
    have d2 : decide (y < 0) = false := by simp; omega
    clear hs1 hs2 x0 y0
    by_cases hq : 1099511627776 / y < x
    · have E : Hid (mulV a b = 1099511627776) := hide (by
        have := (prod_gt (n := 1099511627776) (x := x) (y := y) (by omega) (by omega)).1 hq
        rw [unhide HM]; try simp only [Int.neg_mul, Int.mul_neg, Int.neg_neg]
        unfold fitV; omega)
      go_enter Try.func13, Try.ntmps13
      go_wp2_with fail
      refine (rfit_any _ _).mono ?_; rintro e w1 ⟨rfl, rfl⟩; rw [unhide HX]
      go_wp2_with fail
      refine (rfit_any _ _).mono ?_; rintro e w1 ⟨rfl, rfl⟩; rw [unhide HY]
      go_wp2_with fail
      go_ret
      exact ⟨ret_int (unhide E).symm, rfl⟩
    · have hp : x * y ≤ 1099511627776 := by
        have := (prod_gt (n := 1099511627776) (x := x) (y := y) (by omega) (by omega)).2
        exact Int.not_lt.1 fun h => hq (this h)
      have hp0 : 0 ≤ x * y := Int.mul_nonneg (by omega) (by omega)
      have E : Hid (mulV a b = x * y) := hide (by
        rw [unhide HM]; try simp only [Int.neg_mul, Int.mul_neg, Int.neg_neg]
        exact fitV_id (by omega) (by omega))
      go_enter Try.func13, Try.ntmps13
      go_wp2_with fail
      refine (rfit_any _ _).mono ?_; rintro e w1 ⟨rfl, rfl⟩; rw [unhide HX]
      go_wp2_with fail
      refine (rfit_any _ _).mono ?_; rintro e w1 ⟨rfl, rfl⟩; rw [unhide HY]
      go_wp2_with fail
      go_ret
      exact ⟨ret_int (unhide E).symm, rfl⟩
  by_cases hs : 0 < x ∧ y < 0
  · obtain ⟨hs1, hs2⟩ := hs
    obtain ⟨Y, rfl⟩ : ∃ Y, y = -Y := ⟨-y, by omega⟩
    have p1 : 0 < x := by omega
    have p2 : 0 < Y := by omega
    have d1 : decide (x < 0) = false := by simp; omega
    have d2 : decide ((-Y) < 0) = true := by simp; omega
    clear hs1 hs2 x0 y0
    by_cases hq : 1099511627776 / Y < x
    · have E : Hid (mulV a b = -1099511627776) := hide (by
        have := (prod_gt (n := 1099511627776) (x := x) (y := Y) (by omega) (by omega)).1 hq
        rw [unhide HM]; try simp only [Int.neg_mul, Int.mul_neg, Int.neg_neg]
        unfold fitV; omega)
      go_enter Try.func13, Try.ntmps13
      go_wp2_with fail
      refine (rfit_any _ _).mono ?_; rintro e w1 ⟨rfl, rfl⟩; rw [unhide HX]
      go_wp2_with fail
      refine (rfit_any _ _).mono ?_; rintro e w1 ⟨rfl, rfl⟩; rw [unhide HY]
      go_wp2_with fail
      go_ret
      exact ⟨ret_int (unhide E).symm, rfl⟩
    · have hp : x * Y ≤ 1099511627776 := by
        have := (prod_gt (n := 1099511627776) (x := x) (y := Y) (by omega) (by omega)).2
        exact Int.not_lt.1 fun h => hq (this h)
      have hp0 : 0 ≤ x * Y := Int.mul_nonneg (by omega) (by omega)
      have E : Hid (mulV a b = -(x * Y)) := hide (by
        rw [unhide HM]; try simp only [Int.neg_mul, Int.mul_neg, Int.neg_neg]
        exact fitV_id (by omega) (by omega))
      go_enter Try.func13, Try.ntmps13
      go_wp2_with fail
      refine (rfit_any _ _).mono ?_; rintro e w1 ⟨rfl, rfl⟩; rw [unhide HX]
      go_wp2_with fail
      refine (rfit_any _ _).mono ?_; rintro e w1 ⟨rfl, rfl⟩; rw [unhide HY]
      go_wp2_with fail
      go_ret
      exact ⟨ret_int (unhide E).symm, rfl⟩
  by_cases hs : x < 0 ∧ 0 < y
  · obtain ⟨hs1, hs2⟩ := hs
    obtain ⟨X, rfl⟩ : ∃ X, x = -X := ⟨-x, by omega⟩
    have p1 : 0 < X := by omega
    have p2 : 0 < y := by omega
    have d1 : decide ((-X) < 0) = true := by simp; omega
    have d2 : decide (y < 0) = false := by simp; omega
    clear hs1 hs2 x0 y0
    by_cases hq : 1099511627776 / y < X
    · have E : Hid (mulV a b = -1099511627776) := hide (by
        have := (prod_gt (n := 1099511627776) (x := X) (y := y) (by omega) (by omega)).1 hq
        rw [unhide HM]; try simp only [Int.neg_mul, Int.mul_neg, Int.neg_neg]
        unfold fitV; omega)
      go_enter Try.func13, Try.ntmps13
      go_wp2_with fail
      refine (rfit_any _ _).mono ?_; rintro e w1 ⟨rfl, rfl⟩; rw [unhide HX]
      go_wp2_with fail
      refine (rfit_any _ _).mono ?_; rintro e w1 ⟨rfl, rfl⟩; rw [unhide HY]
      go_wp2_with fail
      go_ret
      exact ⟨ret_int (unhide E).symm, rfl⟩
    · have hp : X * y ≤ 1099511627776 := by
        have := (prod_gt (n := 1099511627776) (x := X) (y := y) (by omega) (by omega)).2
        exact Int.not_lt.1 fun h => hq (this h)
      have hp0 : 0 ≤ X * y := Int.mul_nonneg (by omega) (by omega)
      have E : Hid (mulV a b = -(X * y)) := hide (by
        rw [unhide HM]; try simp only [Int.neg_mul, Int.mul_neg, Int.neg_neg]
        exact fitV_id (by omega) (by omega))
      go_enter Try.func13, Try.ntmps13
      go_wp2_with fail
      refine (rfit_any _ _).mono ?_; rintro e w1 ⟨rfl, rfl⟩; rw [unhide HX]
      go_wp2_with fail
      refine (rfit_any _ _).mono ?_; rintro e w1 ⟨rfl, rfl⟩; rw [unhide HY]
      go_wp2_with fail
      go_ret
      exact ⟨ret_int (unhide E).symm, rfl⟩
  by_cases hs : x < 0 ∧ y < 0
  · obtain ⟨hs1, hs2⟩ := hs
    obtain ⟨X, rfl⟩ : ∃ X, x = -X := ⟨-x, by omega⟩
    obtain ⟨Y, rfl⟩ : ∃ Y, y = -Y := ⟨-y, by omega⟩
    have p1 : 0 < X := by omega
    have p2 : 0 < Y := by omega
    have d1 : decide ((-X) < 0) = true := by simp; omega
    have d2 : decide ((-Y) < 0) = true := by simp; omega
    clear hs1 hs2 x0 y0
    by_cases hq : 1099511627776 / Y < X
    · have E : Hid (mulV a b = 1099511627776) := hide (by
        have := (prod_gt (n := 1099511627776) (x := X) (y := Y) (by omega) (by omega)).1 hq
        rw [unhide HM]; try simp only [Int.neg_mul, Int.mul_neg, Int.neg_neg]
        unfold fitV; omega)
      go_enter Try.func13, Try.ntmps13
      go_wp2_with fail
      refine (rfit_any _ _).mono ?_; rintro e w1 ⟨rfl, rfl⟩; rw [unhide HX]
      go_wp2_with fail
      refine (rfit_any _ _).mono ?_; rintro e w1 ⟨rfl, rfl⟩; rw [unhide HY]
      go_wp2_with fail
      go_ret
      exact ⟨ret_int (unhide E).symm, rfl⟩
    · have hp : X * Y ≤ 1099511627776 := by
        have := (prod_gt (n := 1099511627776) (x := X) (y := Y) (by omega) (by omega)).2
        exact Int.not_lt.1 fun h => hq (this h)
      have hp0 : 0 ≤ X * Y := Int.mul_nonneg (by omega) (by omega)
      have E : Hid (mulV a b = X * Y) := hide (by
        rw [unhide HM]; try simp only [Int.neg_mul, Int.mul_neg, Int.neg_neg]
        exact fitV_id (by omega) (by omega))
      go_enter Try.func13, Try.ntmps13
      go_wp2_with fail
      refine (rfit_any _ _).mono ?_; rintro e w1 ⟨rfl, rfl⟩; rw [unhide HX]
      go_wp2_with fail
      refine (rfit_any _ _).mono ?_; rintro e w1 ⟨rfl, rfl⟩; rw [unhide HY]
      go_wp2_with fail
      go_ret
      exact ⟨ret_int (unhide E).symm, rfl⟩
  omega

theorem rfloor_any (a b : Int) (w : World) (hb : 0 < b) (ha1 : -4000000000000000000 ≤ a) (ha2 : a ≤ 4000000000000000000) (hb2 : b ≤ 4000000000000000000) :
    Calls Try.prog 32 #[.int .i64 a, .int .i64 b] w fun e w' => e = .returned (.int .i64 (a / b)) ∧ w = w' := by
  by_cases h : a < 0
  · have E : Hid (-((b - 1 - a) / b) = a / b) := hide (by
      have h1 := Int.emod_nonneg a (show b ≠ 0 by omega)
      have h2 := Int.emod_lt_of_pos a hb
      have h3 := Int.emod_add_mul_ediv a b
      have : (b - 1 - a) / b = -(a / b) := by
        refine ((Int.ediv_emod_unique (r := b - 1 - a % b) (q := -(a / b)) hb).2 ⟨?_, by omega, by omega⟩).1
        rw [Int.mul_neg]; omega
      rw [this, Int.neg_neg])
    have hi := ediv_in (a := b - 1 - a) (b := b) (n := 8000000000000000000) hb (by omega) (by omega) (by omega)
    go_enter Try.func32, Try.ntmps32
    go_wp2
    go_ret
    exact ⟨ret_int (unhide E), rfl⟩
  · go_enter Try.func32, Try.ntmps32
    go_wp2
    go_ret
    exact ⟨rfl, rfl⟩

theorem rround_any (a b : Int) (w : World) : Calls Try.prog 15 #[.int .i64 a, .int .i64 b] w fun e w' => e = .returned (.int .i64 (roundV a b)) ∧ w = w' := by
  have hm : roundV a b = if fitV b = 0 then 0 else if fitV b < 0 then (2 * -fitV a + -fitV b) / (2 * -fitV b) else (2 * fitV a + fitV b) / (2 * fitV b) := rfl
  generalize hx : fitV a = x at *
  generalize hy : fitV b = y at *
  have hx1 := fitV_le a
  have hy1 := fitV_le b
  rw [hx] at hx1
  rw [hy] at hy1
  have HM := hide hm
  have HX := hide hx
  have HY := hide hy
  clear hm hx hy
  by_cases y0 : y = 0
  · have E : Hid (roundV a b = 0) := hide (by rw [unhide HM, if_pos y0])
    have q0 : (y == 0) = true := by simpa using y0
    clear y0
    go_enter Try.func15, Try.ntmps15
    go_wp2_with fail
    refine (rfit_any _ _).mono ?_; rintro e w1 ⟨rfl, rfl⟩; rw [unhide HX]
    go_wp2_with fail
    refine (rfit_any _ _).mono ?_; rintro e w1 ⟨rfl, rfl⟩; rw [unhide HY]
    go_wp2_with fail
    go_ret
    exact ⟨ret_int (unhide E).symm, rfl⟩
  have q0 : (y == 0) = false := by simpa using y0
  by_cases y1 : y < 0
  · obtain ⟨Y, rfl⟩ : ∃ Y, y = -Y := ⟨-y, by omega⟩
    obtain ⟨X, rfl⟩ : ∃ X, x = -X := ⟨-x, by omega⟩
    have E : Hid (roundV a b = (2 * X + Y) / (2 * Y)) := hide (by rw [unhide HM, if_neg y0, if_pos y1]; simp)
    have hp : 0 < Y := by omega
    have e1 := Int.emod_nonneg X (show Y ≠ 0 by omega)
    have e2 := Int.emod_lt_of_pos X hp
    have e3 := Int.emod_add_mul_ediv X Y
    have e4 := ediv_in (a := X) (b := Y) (n := 1099511627776) hp (by omega) (by omega) (by omega)
    have R := hide (round_two (x := X) hp)
    have hq : X - X / Y * Y = X % Y := by rw [Int.mul_comm]; omega
    have hq1 : 0 ≤ X - X / Y * Y := by omega
    have hq2 : X - X / Y * Y < Y := by omega
    have hfl := rfloor_any X Y w hp (by omega) (by omega) (by omega)
    clear e1 e2 e3 hq y0
    generalize X / Y = q at *
    by_cases ht : Y ≤ 2 * (X - q * Y)
    · have E2 : Hid (roundV a b = q + 1) := hide (by rw [unhide E, unhide R, if_pos ht])
      go_enter Try.func15, Try.ntmps15
      go_wp2_with fail
      refine (rfit_any _ _).mono ?_; rintro e w1 ⟨rfl, rfl⟩; rw [unhide HX]
      go_wp2_with fail
      refine (rfit_any _ _).mono ?_; rintro e w1 ⟨rfl, rfl⟩; rw [unhide HY]
      go_wp2_with fail
      refine hfl.mono ?_; rintro e w1 ⟨rfl, rfl⟩
      go_wp2_with fail
      go_ret
      exact ⟨ret_int (unhide E2).symm, rfl⟩
    · have E2 : Hid (roundV a b = q) := hide (by rw [unhide E, unhide R, if_neg ht])
      go_enter Try.func15, Try.ntmps15
      go_wp2_with fail
      refine (rfit_any _ _).mono ?_; rintro e w1 ⟨rfl, rfl⟩; rw [unhide HX]
      go_wp2_with fail
      refine (rfit_any _ _).mono ?_; rintro e w1 ⟨rfl, rfl⟩; rw [unhide HY]
      go_wp2_with fail
      refine hfl.mono ?_; rintro e w1 ⟨rfl, rfl⟩
      go_wp2_with fail
      go_ret
      exact ⟨ret_int (unhide E2).symm, rfl⟩
  · obtain ⟨Y, rfl⟩ : ∃ Y, y = Y := ⟨y, rfl⟩
    obtain ⟨X, rfl⟩ : ∃ X, x = X := ⟨x, rfl⟩
    have E : Hid (roundV a b = (2 * x + y) / (2 * y)) := hide (by rw [unhide HM, if_neg y0, if_neg y1])
    have hp : 0 < y := by omega
    have e1 := Int.emod_nonneg x (show y ≠ 0 by omega)
    have e2 := Int.emod_lt_of_pos x hp
    have e3 := Int.emod_add_mul_ediv x y
    have e4 := ediv_in (a := x) (b := y) (n := 1099511627776) hp (by omega) (by omega) (by omega)
    have R := hide (round_two (x := x) hp)
    have hq : x - x / y * y = x % y := by rw [Int.mul_comm]; omega
    have hq1 : 0 ≤ x - x / y * y := by omega
    have hq2 : x - x / y * y < y := by omega
    have hfl := rfloor_any x y w hp (by omega) (by omega) (by omega)
    clear e1 e2 e3 hq y0
    generalize x / y = q at *
    by_cases ht : y ≤ 2 * (x - q * y)
    · have E2 : Hid (roundV a b = q + 1) := hide (by rw [unhide E, unhide R, if_pos ht])
      go_enter Try.func15, Try.ntmps15
      go_wp2_with fail
      refine (rfit_any _ _).mono ?_; rintro e w1 ⟨rfl, rfl⟩; rw [unhide HX]
      go_wp2_with fail
      refine (rfit_any _ _).mono ?_; rintro e w1 ⟨rfl, rfl⟩; rw [unhide HY]
      go_wp2_with fail
      refine hfl.mono ?_; rintro e w1 ⟨rfl, rfl⟩
      go_wp2_with fail
      go_ret
      exact ⟨ret_int (unhide E2).symm, rfl⟩
    · have E2 : Hid (roundV a b = q) := hide (by rw [unhide E, unhide R, if_neg ht])
      go_enter Try.func15, Try.ntmps15
      go_wp2_with fail
      refine (rfit_any _ _).mono ?_; rintro e w1 ⟨rfl, rfl⟩; rw [unhide HX]
      go_wp2_with fail
      refine (rfit_any _ _).mono ?_; rintro e w1 ⟨rfl, rfl⟩; rw [unhide HY]
      go_wp2_with fail
      refine hfl.mono ?_; rintro e w1 ⟨rfl, rfl⟩
      go_wp2_with fail
      go_ret
      exact ⟨ret_int (unhide E2).symm, rfl⟩

theorem rtotal_any (A : Option Addr) (n c B : Nat) (l : List Int) (w : World) (h : IReads w B A n l) (hn : n ≤ maxLen) :
    Calls Try.prog 17 #[.slice A n c] w fun e w' => e = .returned (.int .i64 (totalV l)) ∧ w = w' := by
  unfold maxLen at hn
  have HL := hide h.len
  go_enter Try.func17, Try.ntmps17
  go_wp2_with fail
  go_loop [3, 4] (fun s i => ∃ k : Nat, k ≤ n ∧ i = .int .i64 k ∧ s = .int .i64 (totalV (l.take k))) (fun _ i => n - (intOf i).toNat)
  case atStart => exact ⟨0, Nat.zero_le _, rfl, rfl⟩
  case round =>
    obtain ⟨k, hk, rfl, rfl⟩ := hrel
    by_cases hlt : k < n
    · obtain ⟨b, o, x, rfl, hb, hx, cx⟩ := h.get hlt
      have HX := hide hx
      clear hx
      go_wp2_with fail
      refine (radd_any _ _ _).mono ?_; rintro e w1 ⟨rfl, rfl⟩
      go_wp2_with fail
      go_round
      case rel => exact ⟨k + 1, by omega, by go_num, by rw [totalV_take (unhide HX)]⟩
      case measure => simp [intOf]; omega
    · obtain rfl : k = n := by omega
      go_wp2_with fail
      go_ret
      exact ⟨ret_int (by rw [List.take_of_length_le (by have := unhide HL; omega)]), rfl⟩

set_option maxRecDepth 100000 in
theorem rfirsts_any (A : Option Addr) (n c : Nat) (l : List Int) (w : World) (hr : IReads w w.heap.size A n l) (hn : n ≤ maxLen) :
    Calls Try.prog 33 #[.slice A n c] w (IPost (firstV l) w) := by
  have HL := hide hr.len
  unfold maxLen at hn
  go_enter Try.func33, Try.ntmps33
  go_wp2_with fail
  go_loopw [3, 4] (fun v i wr => ∃ k : Nat, k ≤ n ∧ k ≤ 1000 ∧ i = .int .i64 k ∧ IOwn wr w.heap.size v ((l.take k).map fitV) ∧ Below w.heap.size w wr) (fun _ i _ => n - (intOf i).toNat)
  case atStart => exact ⟨0, Nat.zero_le _, Nat.zero_le _, rfl, IOwn.nil_ _ _, Below.refl _ _⟩
  case round =>
    obtain ⟨k, hk, hk2, rfl, hown, hbel⟩ := hrel
    by_cases hlt : k < n
    · by_cases hlt2 : k < 1000
      · obtain ⟨bk, o, x, rfl, hb, hx, cx⟩ := (hr.below hbel).get hlt
        have HN : Hid ((l.take k).map fitV ++ [fitV x] = (l.take (k + 1)).map fitV) := hide (by rw [take_next hx]; simp)
        have hk9 : ((l.take k).map fitV).length < 1000000000 := by simp; omega
        clear hx
        go_wp2_with fail
        refine (rfit_any _ _).mono ?_; rintro e w1 ⟨rfl, rfl⟩
        go_wp2_with (at_builtin; refine app_one elem_int (.tmp 21) (.tmp 23) [.int .i64 (fitV x)] rfl rfl rfl hown rfl rfl rfl (ints_oneCell .i64 [fitV x]) hk9 hbel.size ?_; intro v' w2 hown2 hb2 _ _)
        have hown3 : IOwn w2 w.heap.size v' ((l.take k).map fitV ++ [fitV x]) := by unfold IOwn; rw [List.length_append]; simpa using hown2
        rw [unhide HN] at hown3
        clear hown2
        go_wp2_with fail
        go_roundw
        case rel => exact ⟨k + 1, by omega, by omega, by go_num, hown3, hbel.trans hb2⟩
        case measure => simp [intOf] <;> omega
      · have hd : decide ((k : Int) < 1000) = false := by simp; omega
        have HE : Hid ((l.take k).map fitV = firstV l) := hide (by unfold firstV; rw [show k = 1000 by omega])
        go_wp2_with fail
        go_ret
        exact ⟨_, rfl, by rw [← unhide HE]; exact hown, hbel⟩
    · have HE : Hid ((l.take k).map fitV = firstV l) := hide (by
        unfold firstV; rw [List.take_of_length_le (by have := unhide HL; omega), List.take_of_length_le (by have := unhide HL; omega)])
      go_wp2_with fail
      go_ret
      exact ⟨_, rfl, by rw [← unhide HE]; exact hown, hbel⟩

theorem isort_step {S R : List Int} {a x y : Int} {A B : List Int} (hS : S = A ++ [a] ++ B) : (A ++ [a]) ++ (y :: B) ++ R = A ++ [a] ++ (y :: B) ++ R := by simp
theorem set_mid (A B : List Int) (y x : Int) (k : Nat) (hk : A.length = k) : (A ++ (y :: B)).set k x = A ++ (x :: B) := by
  subst hk; rw [List.set_append_right _ _ (Nat.le_refl _)]; simp
theorem get_mid (A B : List Int) (y : Int) (k : Nat) (hk : A.length = k) : (A ++ (y :: B))[k]? = some y := by
  subst hk; rw [List.getElem?_append_right (Nat.le_refl _)]; simp
/-- a number put into a sorted list at its place -/
theorem put_sorted {A B : List Int} {x : Int} (h : (A ++ B).Pairwise (· ≤ ·)) (hB : ∀ b ∈ B, x < b) (hA : ∀ a ∈ A, a ≤ x) : (A ++ (x :: B)).Pairwise (· ≤ ·) := by
  obtain ⟨h1, h2, h3⟩ := List.pairwise_append.1 h
  refine List.pairwise_append.2 ⟨h1, List.pairwise_cons.2 ⟨fun b hb => Int.le_of_lt (hB b hb), h2⟩, fun a ha b hb => ?_⟩
  rcases List.mem_cons.1 hb with rfl | hb
  · exact hA a ha
  · exact h3 a ha b hb

set_option maxRecDepth 100000 in
set_option maxHeartbeats 2000000 in
theorem rsorted_any (A : Option Addr) (n c : Nat) (l : List Int) (w : World) (hr : IReads w w.heap.size A n l) (hn : n ≤ 100000000) :
    Calls Try.prog 34 #[.slice A n c] w (IPost (sortL l) w) := by
  have hl := hr.len
  have HL := hide hl
  have hown0 : IOwn w w.heap.size (.slice none 0 0) [] := IOwn.nil_ _ _
  clear hl
  go_enter Try.func34, Try.ntmps34
  go_wp2_with (at_builtin; refine app_many elem_int (.tmp 7) (.tmp 8) rfl rfl rfl hown0 rfl hr (ints_one l) (by simp; omega) (Nat.le_refl _) ?_; intro v w1 hown1 hb1 _)
  have hown : IOwn w1 w.heap.size v l := by unfold IOwn; rw [unhide HL]; simpa using hown1
  clear hown1 hown0
  obtain ⟨A2, c2, rfl, _, _, hc2, _⟩ := hown.slice_
  rw [unhide HL] at hown hc2 ⊢
  go_wp2_with fail
  go_loopw [4] (fun i wr => ∃ (k : Nat) (S R : List Int), 1 ≤ k ∧ i = .int .i64 k ∧ S.length ≤ k ∧ (R ≠ [] → S.length = k) ∧ Hid (S.Pairwise (· ≤ ·)) ∧ Hid ((S ++ R).Perm l) ∧ k ≤ n + 1 ∧ IOwn wr w.heap.size (.slice A2 n c2) (S ++ R) ∧ Below w.heap.size w wr) (fun i _ => n + 1 - (intOf i).toNat)
  case atStart =>
    cases l with
    | nil => exact ⟨1, [], [], by omega, rfl, by simp, fun h => absurd rfl h, hide (by simp), hide (by simp), by omega, hown, hb1⟩
    | cons x r => exact ⟨1, [x], r, by omega, rfl, by simp, fun _ => rfl, hide (by simp), hide (by simp), by omega, hown, hb1⟩
  case round =>
    obtain ⟨k, S, R, hk1, rfl, hSk, hSR, HS, HP, hkn, hor, hbel⟩ := hrel
    have hlen : S.length + R.length = n := by
      have := (unhide HP).length_eq
      rw [List.length_append, unhide HL] at this; exact this
    by_cases hlt : k < n
    · cases R with
      | nil => simp at hlen; omega
      | cons x R =>
        have hSl : S.length = k := hSR (by simp)
        have hX : (S ++ x :: R)[k]? = some x := get_mid S R x k hSl
        obtain ⟨g, rfl, hg, hgl, cx, fx⟩ := hor.at_ (by simp; simp at hlen; omega) hX
        have HSl := hide hSl
        clear hX hSR hSl
        obtain ⟨wo, hwo⟩ : ∃ wo : World, wo = wr := ⟨_, rfl⟩
        subst hwo
        go_wp2_with fail
        go_loopw [6] (fun i wr => ∃ (A B : List Int) (y : Int) (j : Nat), j ≤ k ∧ i = .int .i64 j ∧ Hid (A.length = j) ∧ Hid (A ++ B = S) ∧ Hid (∀ b ∈ B, x < b) ∧ IOwn wr w.heap.size (.slice (some ⟨g, 0, none⟩) n c2) (A ++ (y :: B) ++ R) ∧ Below w.heap.size w wr) (fun i _ => (intOf i).toNat)
        case atStart => exact ⟨S, [], x, k, Nat.le_refl _, rfl, HSl, hide (by simp), hide (by simp), by simpa using hor, hbel⟩
        case round =>
          obtain ⟨A, B, y, j, hjk, rfl, HA, HAB, HB, hor2, hbel2⟩ := hrel
          have hlen2 : (A ++ (y :: B) ++ R).length = n := by
            have h1 := congrArg List.length (unhide HAB)
            have h2 := unhide HSl
            simp at h1 hlen ⊢; omega
          have hrw : A ++ (y :: B) ++ R = A ++ (y :: (B ++ R)) := by simp
          have hY : (A ++ (y :: B) ++ R)[j]? = some y := by rw [hrw]; exact get_mid A (B ++ R) y j (unhide HA)
          have hst : (A ++ (y :: B) ++ R).set j x = A ++ (x :: B) ++ R := by rw [hrw, set_mid A (B ++ R) y x j (unhide HA)]; simp
          obtain ⟨g', hge, hgb, hgl2, cy, fy⟩ := hor2.at_ hlen2 hY
          obtain rfl : g = g' := by injection hge with hge; injection hge
          have hstore := hor2.stored hlen2 j x
          rw [hst] at hstore
          have HEND : Hid ((∀ a ∈ A, a ≤ x) → (A ++ (x :: B)).Pairwise (· ≤ ·) ∧ ((A ++ (x :: B)) ++ R).Perm l ∧ (A ++ (x :: B)).length = k + 1) := hide (fun hA => by
            have hs := unhide HS
            rw [← unhide HAB] at hs
            refine ⟨put_sorted hs (unhide HB) hA, ?_, ?_⟩
            · refine List.Perm.trans ?_ (unhide HP)
              rw [← unhide HAB]
              have : (A ++ x :: B).Perm (x :: (A ++ B)) := List.perm_middle
              have h2 : (A ++ B ++ x :: R).Perm (x :: (A ++ B ++ R)) := List.perm_middle
              exact (this.append_right R).trans (by simpa using h2.symm)
            · have h1 := congrArg List.length (unhide HAB)
              have h2 := unhide HSl
              simp at h1 ⊢; omega)
          have HL2 := hide hlen2
          clear hlen2 hrw hY hst hge
          rcases Nat.eq_zero_or_pos j with hj0 | hj0
          · have hd : decide (0 < (j : Int)) = false := by simp; omega
            have hd2 : decide (0 < j) = false := by simp; omega
            have HJ0 := hide hj0
            clear hj0
            go_wp2_with fail
            go_roundw
            case rel =>
              obtain ⟨e1, e2, e3⟩ := unhide HEND (by have := unhide HA; rw [unhide HJ0] at this; rw [List.length_eq_zero_iff.1 this]; simp)
              exact ⟨k + 1, A ++ (x :: B), R, by omega, by go_num, by omega, fun _ => e3, hide e1, hide e2, by omega, hstore, hbel2.setCell (by exact hg) _⟩
            case measure => simp [intOf] <;> omega
          · obtain ⟨q, rfl⟩ : ∃ q, j = q + 1 := ⟨j - 1, by omega⟩
            obtain ⟨A', a, rfl⟩ : ∃ A' a, A = A' ++ [a] := by
              have hA := unhide HA
              rcases List.eq_nil_or_concat A with h | ⟨A', a, h⟩
              · rw [h] at hA; simp at hA
              · exact ⟨A', a, by simpa using h⟩
            have hA' : A'.length = q := by have := unhide HA; simpa using this
            have hA1 : ((A' ++ [a]) ++ (y :: B) ++ R)[q]? = some a := by
              have : (A' ++ [a]) ++ (y :: B) ++ R = A' ++ (a :: (y :: B ++ R)) := by simp
              rw [this]; exact get_mid _ _ _ _ hA'
            obtain ⟨g', hge, _, _, ca, fa⟩ := hor2.at_ (unhide HL2) hA1
            obtain rfl : g = g' := by injection hge with hge; injection hge
            have hst2 := hor2.stored (unhide HL2) (q + 1) a
            have hrw2 : ((A' ++ [a]) ++ (y :: B) ++ R).set (q + 1) a = A' ++ (a :: (a :: B)) ++ R := by
              have : (A' ++ [a]) ++ (y :: B) ++ R = (A' ++ [a]) ++ (y :: (B ++ R)) := by simp
              rw [this, set_mid _ _ _ _ _ (by simp [hA'])]; simp
            rw [hrw2] at hst2
            have HA' := hide hA'
            clear hA' hA1 hge hrw2 hj0
            by_cases hax : x < a
            · clear hstore
              go_wp2_with fail
              go_roundw
              case rel => exact ⟨A', a :: B, a, q, by omega, by first | rfl | go_num, HA', hide (by rw [← unhide HAB]; simp), hide (by
                intro b hb
                rcases List.mem_cons.1 hb with rfl | hb
                · exact hax
                · exact unhide HB b hb), hst2, hbel2.setCell (by exact hg) _⟩
              case measure => simp [intOf] <;> omega
            · clear hst2
              go_wp2_with fail
              go_roundw
              case rel =>
                obtain ⟨e1, e2, e3⟩ := unhide HEND (by
                  have hs := unhide HS
                  rw [← unhide HAB, List.append_assoc] at hs
                  obtain ⟨_, _, h3⟩ := List.pairwise_append.1 hs
                  intro b hb
                  rcases List.mem_append.1 hb with hb | hb
                  · have := h3 b hb a (by simp); omega
                  · obtain rfl := List.mem_singleton.1 hb; omega)
                exact ⟨k + 1, (A' ++ [a]) ++ (x :: B), R, by omega, by go_num, by omega, fun _ => e3, hide e1, hide e2, by omega, hstore, hbel2.setCell (by exact hg) _⟩
              case measure => simp [intOf] <;> omega
    · have hR : R = [] := by
        cases R with
        | nil => rfl
        | cons x R => have := hSR (by simp); simp at hlen; omega
      subst hR
      have HE : Hid (S = sortL l) := hide (sortL_of (by simpa using unhide HP) (unhide HS))
      rw [List.append_nil, unhide HE] at hor
      clear HP HS hSR hlen HE
      go_wp2_with fail
      go_ret
      exact ⟨_, rfl, hor, hbel⟩

theorem rmean_any (A : Option Addr) (n c : Nat) (l : List Int) (w : World) (hr : IReads w w.heap.size A n l) (hn : n ≤ maxLen) :
    Calls Try.prog 18 #[.slice A n c] w fun e w' => e = .returned (.int .i64 (meanV l)) ∧ Below w.heap.size w w' := by
  have hfl : (firstV l).length ≤ 1000 := by rw [firstV_len]; omega
  have hfi := rfirsts_any A n c l w hr hn
  have hsum := first_sum_le l
  have HM : Hid (meanV l = if (firstV l).length = 0 then 0 else sumL (firstV l) / (firstV l).length) := hide rfl
  generalize firstV l = F at *
  clear hr hn
  have HS := hide hsum
  clear hsum
  go_enter Try.func18, Try.ntmps18
  go_wp2_with fail
  refine hfi.mono ?_
  clear hfi
  rintro e w1 ⟨v, rfl, hown, hb1⟩
  obtain ⟨A2, c2, rfl, hr2, _, hc2, _⟩ := hown.slice_
  obtain ⟨f, hf⟩ : ∃ f, f = F.length := ⟨_, rfl⟩
  rw [← hf] at hr2 hfl HM ⊢
  have HFl := hide hf
  clear hf hown hc2
  by_cases h0 : f = 0
  · subst h0
    have E : Hid (meanV l = 0) := hide (by rw [unhide HM, if_pos rfl])
    go_wp2_with fail
    go_ret
    exact ⟨ret_int (unhide E).symm, hb1⟩
  · have q0 : ((f : Int) == 0) = false := by simp; omega
    have E : Hid (meanV l = sumL F / (f : Int)) := hide (by rw [unhide HM, if_neg h0])
    clear h0
    go_wp2_with fail
    go_loop [4, 5] (fun s i => ∃ k : Nat, k ≤ f ∧ i = .int .i64 k ∧ s = .int .i64 (sumL (F.take k))) (fun _ i => f - (intOf i).toNat)
    case atStart => exact ⟨0, Nat.zero_le _, rfl, rfl⟩
    case round =>
      obtain ⟨k, hk, rfl, rfl⟩ := hrel
      by_cases hlt : k < f
      · obtain ⟨b, o, x, rfl, hb, hx, cx⟩ := hr2.get hlt
        have hs1 := unhide HS k
        have hs2 := unhide HS (k + 1)
        rw [sumL_take hx] at hs2
        have HX := hide hx
        clear hx
        go_wp2_with fail
        go_round
        case rel => exact ⟨k + 1, by omega, by go_num, by rw [sumL_take (unhide HX)]⟩
        case measure => simp [intOf]; omega
      · obtain rfl : k = f := by omega
        have hs1 := unhide HS k
        rw [List.take_of_length_le (by have := unhide HFl; omega)] at hs1 ⊢
        have hk0 : 0 < (k : Int) := by simp at q0; omega
        go_wp2_with fail
        refine (rfloor_any _ _ _ hk0 (by omega) (by omega) (by omega)).mono ?_; rintro e w2 ⟨rfl, rfl⟩
        go_wp2_with fail
        go_ret
        exact ⟨ret_int (unhide E).symm, hb1⟩

theorem rmedian_any (A : Option Addr) (n c : Nat) (l : List Int) (w : World) (hr : IReads w w.heap.size A n l) (hn : n ≤ maxLen) :
    Calls Try.prog 19 #[.slice A n c] w fun e w' => e = .returned (.int .i64 (medianV l)) ∧ Below w.heap.size w w' := by
  have hfl : (firstV l).length ≤ 1000 := by rw [firstV_len]; omega
  have hfi := rfirsts_any A n c l w hr hn
  have HM : Hid (medianV l = if (firstV l).length = 0 then 0 else (sortL (firstV l)).getD ((firstV l).length / 2) 0) := hide rfl
  generalize firstV l = F at *
  clear hr hn
  go_enter Try.func19, Try.ntmps19
  go_wp2_with fail
  refine hfi.mono ?_
  clear hfi
  rintro e w1 ⟨v, rfl, hown, hb1⟩
  obtain ⟨A2, c2, rfl, hr2, _, hc2, _⟩ := hown.slice_
  have hso := rsorted_any A2 F.length c2 F w1 hr2 (by omega)
  have hsz1 := hb1.size
  obtain ⟨f, hf⟩ : ∃ f, f = F.length := ⟨_, rfl⟩
  rw [← hf] at hr2 hfl HM hso ⊢
  have HFl := hide hf
  clear hf hown hc2
  by_cases h0 : f = 0
  · subst h0
    have E : Hid (medianV l = 0) := hide (by rw [unhide HM, if_pos rfl])
    clear hso
    go_wp2_with fail
    go_ret
    exact ⟨ret_int (unhide E).symm, hb1⟩
  · have q0 : ((f : Int) == 0) = false := by simp; omega
    have hp : 0 < f := by omega
    have E : Hid (medianV l = (sortL F).getD (f / 2) 0) := hide (by rw [unhide HM, if_neg h0])
    clear h0
    go_wp2_with fail
    refine hso.mono ?_
    clear hso
    rintro e w2 ⟨v2, rfl, hown2, hb2⟩
    have hl2 : (sortL F).length = f := by rw [sortL_len]; exact (unhide HFl).symm
    obtain ⟨A3, c3, rfl, _, _, _, _⟩ := hown2.slice_
    obtain ⟨x, hx⟩ : ∃ x, (sortL F)[f / 2]? = some x := ⟨_, List.getElem?_eq_getElem (by omega)⟩
    rw [hl2] at hown2 ⊢
    obtain ⟨g, rfl, hg, hgl, cx, fx⟩ := hown2.at_ hl2 hx
    have E2 : Hid (medianV l = x) := hide (by rw [unhide E, List.getD_eq_getElem?_getD, hx]; rfl)
    clear hx hl2 hown2
    go_wp2_with fail
    go_ret
    exact ⟨ret_int (unhide E2).symm, hb1.trans (hb2.mono hsz1)⟩

end Go.Proofs.Ytlicgpjcnkabiaa
