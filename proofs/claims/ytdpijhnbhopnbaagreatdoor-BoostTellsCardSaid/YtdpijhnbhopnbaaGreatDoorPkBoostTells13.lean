/- Part 13 of what LawBoostTells needs: Fixed. Conditions: as each lemma names. -/
import Derived.Test.YtdpijhnbhopnbaaGreatDoorPkBoostTells01
import Derived.Test.YtdpijhnbhopnbaaGreatDoorPkBoostTells08
/- Chapter 1: the contracts of package fixed on numbers. Conditions: as each lemma names. -/
namespace Go.Proofs.YtdpijhnbhopnbaaGreatDoor
set_option linter.unusedVariables false
set_option linter.unusedSimpArgs false
open Go.RowKit

theorem fit_any (n : Int) (w : World) : Calls Tryz.prog 61 #[.int .i64 n] w fun e w' => e = .returned (.int .i64 (fitV n)) ∧ w = w' := by
  go_enter Tryz.func61, Tryz.ntmps61
  go_wp2 <;> (go_ret; exact ⟨ret_int (by unfold fitV; omega), rfl⟩)

theorem add_any2 (a b : Int) (w : World) : Calls Tryz.prog 45 #[.int .i64 a, .int .i64 b] w fun e w' => e = .returned (.int .i64 (addV a b)) ∧ w = w' := by
  have ha := fitV_le a
  have hb := fitV_le b
  go_enter Tryz.func45, Tryz.ntmps45
  go_wp2_with fail
  refine (fit_any _ _).mono ?_; rintro e w1 ⟨rfl, rfl⟩
  go_wp2_with fail
  refine (fit_any _ _).mono ?_; rintro e w1 ⟨rfl, rfl⟩
  go_wp2_with fail
  refine (fit_any _ _).mono ?_; rintro e w1 ⟨rfl, rfl⟩
  go_wp2_with fail
  go_ret
  exact ⟨rfl, rfl⟩

theorem floor_any (a b : Int) (w : World) (hb : 0 < b) (ha1 : -9000000000000000000 ≤ a) (ha2 : a ≤ 9000000000000000000) (hb2 : b ≤ 9000000000000000000) :
    Calls Tryz.prog 40 #[.int .i64 a, .int .i64 b] w fun e w' => e = .returned (.int .i64 (a / b)) ∧ w = w' := by
  go_enter Tryz.func40, Tryz.ntmps40
  by_cases h : a.tmod b < 0
  · have hw := IntWalk.wrap64_in (a.tdiv b - 1) (by have := floor_t1 hb h; have := ediv_in (n := 9000000000000000000) hb (by omega) ha1 ha2; omega)
    have e := floor_t1 hb h
    have E := hide e
    have HW := hide hw
    clear e hw
    go_wp2
    go_ret
    exact ⟨ret_int (by rw [unhide HW, unhide E]), rfl⟩
  · have E := hide (floor_t2 hb (Int.not_lt.1 h))
    go_wp2
    go_ret
    exact ⟨ret_int (unhide E), rfl⟩

theorem mul_any (a b : Int) (w : World) : Calls Tryz.prog 46 #[.int .i64 a, .int .i64 b] w fun e w' => e = .returned (.int .i64 (mulV a b)) ∧ w = w' := by
  have HA := hide (show fitV a = fitV a from rfl)
  have hm : mulV a b = fitV (fitV a * fitV b) := rfl
  generalize hx : fitV a = x at *
  generalize hy : fitV b = y at *
  have hx1 := fitV_le a
  have hy1 := fitV_le b
  rw [hx] at hx1
  rw [hy] at hy1
  have HM := hide hm
  have HX := hide hx
  have HY := hide hy
  clear hm hx hy HA
  by_cases x0 : x = 0
  · have E : Hid (mulV a b = 0) := hide (mulV_zero (.inl (by rw [unhide HX, x0])))
    have b0 : (x == 0) = true := by simpa using x0
    clear x0
    go_enter Tryz.func46, Tryz.ntmps46
    go_wp2_with fail
    refine (fit_any _ _).mono ?_; rintro e w1 ⟨rfl, rfl⟩; rw [unhide HX]
    go_wp2_with fail
    refine (fit_any _ _).mono ?_; rintro e w1 ⟨rfl, rfl⟩; rw [unhide HY]
    go_wp2_with fail
    go_ret
    exact ⟨ret_int (unhide E).symm, rfl⟩
  by_cases y0 : y = 0
  · have E : Hid (mulV a b = 0) := hide (mulV_zero (.inr (by rw [unhide HY, y0])))
    have b0 : (x == 0) = false := by simpa using x0
    have b1 : (y == 0) = true := by simpa using y0
    clear y0
    go_enter Tryz.func46, Tryz.ntmps46
    go_wp2_with fail
    refine (fit_any _ _).mono ?_; rintro e w1 ⟨rfl, rfl⟩; rw [unhide HX]
    go_wp2_with fail
    refine (fit_any _ _).mono ?_; rintro e w1 ⟨rfl, rfl⟩; rw [unhide HY]
    go_wp2_with fail
    go_ret
    exact ⟨ret_int (unhide E).symm, rfl⟩
  have b0 : (x == 0) = false := by simpa using x0
  have b1 : (y == 0) = false := by simpa using y0
  by_cases hs : 0 < x ∧ 0 < y
  · obtain ⟨hs1, hs2⟩ := hs
    have p1 : 0 < x := by omega
    have p2 : 0 < y := by omega
    have d1 : decide (x < 0) = false := by simp; omega
    have d2 : decide (y < 0) = false := by simp; omega
    clear hs1 hs2 x0 y0
    by_cases hq : 1099511627776 / y < x
    · have E : Hid (mulV a b = 1099511627776) := hide (by
        have := (prod_gt (n := 1099511627776) (x := x) (y := y) (by omega) (by omega)).1 hq
        rw [unhide HM]; try simp only [Int.neg_mul, Int.mul_neg, Int.neg_neg]
        unfold fitV; omega)
      go_enter Tryz.func46, Tryz.ntmps46
      go_wp2_with fail
      refine (fit_any _ _).mono ?_; rintro e w1 ⟨rfl, rfl⟩; rw [unhide HX]
      go_wp2_with fail
      refine (fit_any _ _).mono ?_; rintro e w1 ⟨rfl, rfl⟩; rw [unhide HY]
      go_wp2_with fail
      go_ret
      exact ⟨ret_int (unhide E).symm, rfl⟩
    · have hp : x * y ≤ 1099511627776 := by
        have := (prod_gt (n := 1099511627776) (x := x) (y := y) (by omega) (by omega)).2
        exact Int.not_lt.1 fun h => hq (this h)
      have hp0 : 0 ≤ x * y := Int.mul_nonneg (by omega) (by omega)
      have E : Hid (mulV a b = x * y) := hide (by
        rw [unhide HM]; try simp only [Int.neg_mul, Int.mul_neg, Int.neg_neg]
        exact fitV_id (by omega) (by omega))
      have HW : Hid (wrap64 (x * y) = x * y) := hide (IntWalk.wrap64_in _ (by omega))
      clear hp hp0
      go_enter Tryz.func46, Tryz.ntmps46
      go_wp2_with fail
      refine (fit_any _ _).mono ?_; rintro e w1 ⟨rfl, rfl⟩; rw [unhide HX]
      go_wp2_with fail
      refine (fit_any _ _).mono ?_; rintro e w1 ⟨rfl, rfl⟩; rw [unhide HY]
      go_wp2_with fail
      go_ret
      exact ⟨ret_int (by first | exact (unhide HW).trans (unhide E).symm | (simp only [Int.neg_mul, Int.mul_neg, Int.neg_neg]; exact (unhide HW).trans (unhide E).symm)), rfl⟩
  by_cases hs : 0 < x ∧ y < 0
  · obtain ⟨hs1, hs2⟩ := hs
    obtain ⟨Y, rfl⟩ : ∃ Y, y = -Y := ⟨-y, by omega⟩
    have p1 : 0 < x := by omega
    have p2 : 0 < Y := by omega
    have d1 : decide (x < 0) = false := by simp; omega
    have d2 : decide ((-Y) < 0) = true := by simp; omega
    clear hs1 hs2 x0 y0
    by_cases hq : 1099511627776 / Y < x
    · have E : Hid (mulV a b = -1099511627776) := hide (by
        have := (prod_gt (n := 1099511627776) (x := x) (y := Y) (by omega) (by omega)).1 hq
        rw [unhide HM]; try simp only [Int.neg_mul, Int.mul_neg, Int.neg_neg]
        unfold fitV; omega)
      go_enter Tryz.func46, Tryz.ntmps46
      go_wp2_with fail
      refine (fit_any _ _).mono ?_; rintro e w1 ⟨rfl, rfl⟩; rw [unhide HX]
      go_wp2_with fail
      refine (fit_any _ _).mono ?_; rintro e w1 ⟨rfl, rfl⟩; rw [unhide HY]
      go_wp2_with fail
      go_ret
      exact ⟨ret_int (unhide E).symm, rfl⟩
    · have hp : x * Y ≤ 1099511627776 := by
        have := (prod_gt (n := 1099511627776) (x := x) (y := Y) (by omega) (by omega)).2
        exact Int.not_lt.1 fun h => hq (this h)
      have hp0 : 0 ≤ x * Y := Int.mul_nonneg (by omega) (by omega)
      have E : Hid (mulV a b = -(x * Y)) := hide (by
        rw [unhide HM]; try simp only [Int.neg_mul, Int.mul_neg, Int.neg_neg]
        exact fitV_id (by omega) (by omega))
      have HW : Hid (wrap64 (-(x * Y)) = -(x * Y)) := hide (IntWalk.wrap64_in _ (by omega))
      clear hp hp0
      go_enter Tryz.func46, Tryz.ntmps46
      go_wp2_with fail
      refine (fit_any _ _).mono ?_; rintro e w1 ⟨rfl, rfl⟩; rw [unhide HX]
      go_wp2_with fail
      refine (fit_any _ _).mono ?_; rintro e w1 ⟨rfl, rfl⟩; rw [unhide HY]
      go_wp2_with fail
      go_ret
      exact ⟨ret_int (by first | exact (unhide HW).trans (unhide E).symm | (simp only [Int.neg_mul, Int.mul_neg, Int.neg_neg]; exact (unhide HW).trans (unhide E).symm)), rfl⟩
  by_cases hs : x < 0 ∧ 0 < y
  · obtain ⟨hs1, hs2⟩ := hs
    obtain ⟨X, rfl⟩ : ∃ X, x = -X := ⟨-x, by omega⟩
    have p1 : 0 < X := by omega
    have p2 : 0 < y := by omega
    have d1 : decide ((-X) < 0) = true := by simp; omega
    have d2 : decide (y < 0) = false := by simp; omega
    clear hs1 hs2 x0 y0
    by_cases hq : 1099511627776 / y < X
    · have E : Hid (mulV a b = -1099511627776) := hide (by
        have := (prod_gt (n := 1099511627776) (x := X) (y := y) (by omega) (by omega)).1 hq
        rw [unhide HM]; try simp only [Int.neg_mul, Int.mul_neg, Int.neg_neg]
        unfold fitV; omega)
      go_enter Tryz.func46, Tryz.ntmps46
      go_wp2_with fail
      refine (fit_any _ _).mono ?_; rintro e w1 ⟨rfl, rfl⟩; rw [unhide HX]
      go_wp2_with fail
      refine (fit_any _ _).mono ?_; rintro e w1 ⟨rfl, rfl⟩; rw [unhide HY]
      go_wp2_with fail
      go_ret
      exact ⟨ret_int (unhide E).symm, rfl⟩
    · have hp : X * y ≤ 1099511627776 := by
        have := (prod_gt (n := 1099511627776) (x := X) (y := y) (by omega) (by omega)).2
        exact Int.not_lt.1 fun h => hq (this h)
      have hp0 : 0 ≤ X * y := Int.mul_nonneg (by omega) (by omega)
      have E : Hid (mulV a b = -(X * y)) := hide (by
        rw [unhide HM]; try simp only [Int.neg_mul, Int.mul_neg, Int.neg_neg]
        exact fitV_id (by omega) (by omega))
      have HW : Hid (wrap64 (-(X * y)) = -(X * y)) := hide (IntWalk.wrap64_in _ (by omega))
      clear hp hp0
      go_enter Tryz.func46, Tryz.ntmps46
      go_wp2_with fail
      refine (fit_any _ _).mono ?_; rintro e w1 ⟨rfl, rfl⟩; rw [unhide HX]
      go_wp2_with fail
      refine (fit_any _ _).mono ?_; rintro e w1 ⟨rfl, rfl⟩; rw [unhide HY]
      go_wp2_with fail
      go_ret
      exact ⟨ret_int (by first | exact (unhide HW).trans (unhide E).symm | (simp only [Int.neg_mul, Int.mul_neg, Int.neg_neg]; exact (unhide HW).trans (unhide E).symm)), rfl⟩
  by_cases hs : x < 0 ∧ y < 0
  · obtain ⟨hs1, hs2⟩ := hs
    obtain ⟨X, rfl⟩ : ∃ X, x = -X := ⟨-x, by omega⟩
    obtain ⟨Y, rfl⟩ : ∃ Y, y = -Y := ⟨-y, by omega⟩
    have p1 : 0 < X := by omega
    have p2 : 0 < Y := by omega
    have d1 : decide ((-X) < 0) = true := by simp; omega
    have d2 : decide ((-Y) < 0) = true := by simp; omega
    clear hs1 hs2 x0 y0
    by_cases hq : 1099511627776 / Y < X
    · have E : Hid (mulV a b = 1099511627776) := hide (by
        have := (prod_gt (n := 1099511627776) (x := X) (y := Y) (by omega) (by omega)).1 hq
        rw [unhide HM]; try simp only [Int.neg_mul, Int.mul_neg, Int.neg_neg]
        unfold fitV; omega)
      go_enter Tryz.func46, Tryz.ntmps46
      go_wp2_with fail
      refine (fit_any _ _).mono ?_; rintro e w1 ⟨rfl, rfl⟩; rw [unhide HX]
      go_wp2_with fail
      refine (fit_any _ _).mono ?_; rintro e w1 ⟨rfl, rfl⟩; rw [unhide HY]
      go_wp2_with fail
      go_ret
      exact ⟨ret_int (unhide E).symm, rfl⟩
    · have hp : X * Y ≤ 1099511627776 := by
        have := (prod_gt (n := 1099511627776) (x := X) (y := Y) (by omega) (by omega)).2
        exact Int.not_lt.1 fun h => hq (this h)
      have hp0 : 0 ≤ X * Y := Int.mul_nonneg (by omega) (by omega)
      have E : Hid (mulV a b = X * Y) := hide (by
        rw [unhide HM]; try simp only [Int.neg_mul, Int.mul_neg, Int.neg_neg]
        exact fitV_id (by omega) (by omega))
      have HW : Hid (wrap64 (X * Y) = X * Y) := hide (IntWalk.wrap64_in _ (by omega))
      clear hp hp0
      go_enter Tryz.func46, Tryz.ntmps46
      go_wp2_with fail
      refine (fit_any _ _).mono ?_; rintro e w1 ⟨rfl, rfl⟩; rw [unhide HX]
      go_wp2_with fail
      refine (fit_any _ _).mono ?_; rintro e w1 ⟨rfl, rfl⟩; rw [unhide HY]
      go_wp2_with fail
      go_ret
      exact ⟨ret_int (by first | exact (unhide HW).trans (unhide E).symm | (simp only [Int.neg_mul, Int.mul_neg, Int.neg_neg]; exact (unhide HW).trans (unhide E).symm)), rfl⟩
  omega
end Go.Proofs.YtdpijhnbhopnbaaGreatDoor
