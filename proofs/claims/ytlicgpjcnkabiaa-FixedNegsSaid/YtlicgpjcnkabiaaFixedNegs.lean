/- FixedNegs: the walk. Conditions: the list reads as a list of ints. -/
import Derived.Test.YtlicgpjcnkabiaaFixed2
namespace Go.Proofs.Ytlicgpjcnkabiaa
set_option linter.unusedVariables false
set_option linter.unusedSimpArgs false
open Go.RowKit

set_option maxRecDepth 100000 in
set_option maxHeartbeats 4000000 in
theorem fixedNegs_walk (a b : Int) (A : Option Addr) (n c : Nat) (l : List Int) (w : World) (wa : -9223372036854775808 ≤ a ∧ a ≤ 9223372036854775807) (wb : -9223372036854775808 ≤ b ∧ b ≤ 9223372036854775807) (hr : IReads w w.heap.size A n l) (hn : n ≤ maxLen) (hc : n ≤ c) (hcm : c ≤ maxLen) (hA : A = none → c = 0) :
    Calls Try.prog 3 #[.int .i64 a, .int .i64 b, .slice A n c] w fun e w' => e = .returned (.bool true) ∧ Below w.heap.size w w' := by
  have hl := hr.len
  have HL := hide hl
  clear hl
  have hnn := hn
  have hcc := hcm
  unfold maxLen at hn hcm
  have k1 := add_any2 (-a) (-b)
  have k2 := add_any2 a b
  have k3 := mul_any (-a) b
  have k4 := mul_any a b
  have k5 := mul_any a (-b)
  rw [addV_neg] at k1
  rw [mulV_negl] at k3
  rw [mulV_negr] at k5
  have s1 : -1099511627776 ≤ addV a b ∧ addV a b ≤ 1099511627776 := fitV_le _
  have p1 : -1099511627776 ≤ mulV a b ∧ mulV a b ≤ 1099511627776 := fitV_le _
  generalize addV a b = sm at *
  generalize mulV a b = pm at *
  by_cases hlen : 1000 < n
  · by_cases hin : -1099511627776 ≤ a ∧ a ≤ 1099511627776 ∧ -1099511627776 ≤ b ∧ b ≤ 1099511627776
    · obtain ⟨h1, h2, h3, h4⟩ := hin
      go_enter Try.func3, Try.ntmps3
      go_wp2_with fail
      refine (add_any2 _ _ _).mono ?_; rintro e w1 ⟨rfl, rfl⟩
      rw [show addV 2 3 = 5 by decide]
      go_wp2_with fail
      refine (mul_any _ _ _).mono ?_; rintro e w1 ⟨rfl, rfl⟩
      rw [show mulV (-2) 3 = -6 by decide]
      go_wp2_with fail
      refine (k1 _).mono ?_; rintro e w1 ⟨rfl, rfl⟩
      go_wp2_with fail
      refine (k2 _).mono ?_; rintro e w1 ⟨rfl, rfl⟩
      go_wp2_with fail
      refine (k3 _).mono ?_; rintro e w1 ⟨rfl, rfl⟩
      go_wp2_with fail
      refine (k4 _).mono ?_; rintro e w1 ⟨rfl, rfl⟩
      go_wp2_with fail
      refine (k5 _).mono ?_; rintro e w1 ⟨rfl, rfl⟩
      go_wp2_with fail
      refine (k4 _).mono ?_; rintro e w1 ⟨rfl, rfl⟩
      go_wp2_with fail
      go_ret
      exact ⟨rfl, Below.refl _ _⟩
    · by_cases h1 : -1099511627776 ≤ a <;> by_cases h2 : a ≤ 1099511627776 <;> by_cases h3 : -1099511627776 ≤ b <;> by_cases h4 : b ≤ 1099511627776 <;> (try omega)
      all_goals
        go_enter Try.func3, Try.ntmps3
        go_wp2_with fail
        refine (add_any2 _ _ _).mono ?_; rintro e w1 ⟨rfl, rfl⟩
        rw [show addV 2 3 = 5 by decide]
        go_wp2_with fail
        refine (mul_any _ _ _).mono ?_; rintro e w1 ⟨rfl, rfl⟩
        rw [show mulV (-2) 3 = -6 by decide]
        go_wp2_with fail
        go_ret
        exact ⟨rfl, Below.refl _ _⟩
  · have hn1 : n ≤ 1000 := by omega
    by_cases hin : -1099511627776 ≤ a ∧ a ≤ 1099511627776 ∧ -1099511627776 ≤ b ∧ b ≤ 1099511627776
    · obtain ⟨h1, h2, h3, h4⟩ := hin
      go_enter Try.func3, Try.ntmps3
      go_wp2_with fail
      refine (add_any2 _ _ _).mono ?_; rintro e w1 ⟨rfl, rfl⟩
      rw [show addV 2 3 = 5 by decide]
      go_wp2_with fail
      refine (mul_any _ _ _).mono ?_; rintro e w1 ⟨rfl, rfl⟩
      rw [show mulV (-2) 3 = -6 by decide]
      go_wp2_with fail
      refine (k1 _).mono ?_; rintro e w1 ⟨rfl, rfl⟩
      go_wp2_with fail
      refine (k2 _).mono ?_; rintro e w1 ⟨rfl, rfl⟩
      go_wp2_with fail
      refine (k3 _).mono ?_; rintro e w1 ⟨rfl, rfl⟩
      go_wp2_with fail
      refine (k4 _).mono ?_; rintro e w1 ⟨rfl, rfl⟩
      go_wp2_with fail
      refine (k5 _).mono ?_; rintro e w1 ⟨rfl, rfl⟩
      go_wp2_with fail
      refine (k4 _).mono ?_; rintro e w1 ⟨rfl, rfl⟩
      go_wp2_with fail
      go_loopw [8, 9] (fun v i wr => ∃ r : Nat, r ≤ n ∧ i = .int .i64 ((r : Int) - 1) ∧ IOwn wr w.heap.size v (l.drop r).reverse ∧ Below w.heap.size w wr) (fun _ i _ => (intOf i + 1).toNat)
      case atStart => exact ⟨n, Nat.le_refl _, rfl, by rw [List.drop_of_length_le (by have := unhide HL; omega)]; exact IOwn.nil_ _ _, Below.refl _ _⟩
      case round =>
        obtain ⟨r, hrn, hi, hown, hbel⟩ := hrel
        rcases r with _ | r
        · rw [show ((0 : Nat) : Int) - 1 = -1 by rfl] at hi
          subst hi
          rw [List.drop_zero] at hown
          obtain ⟨A2, c2, rfl, hr2, hn2, hc2, hA2⟩ := hown.slice_
          have hcm2 := own_cap hown
          rw [List.length_reverse, unhide HL] at hr2 hn2 hc2 ⊢
          have hp : l.reverse.Perm l := List.reverse_perm l
          have E1 := hide (mean_perm hp (by rw [List.length_reverse, unhide HL]; exact hn1))
          have E2 := hide (median_perm hp (by rw [List.length_reverse, unhide HL]; exact hn1))
          clear hp hown
          go_wp2_with fail
          refine (mean_any A2 n c2 _ _ hr2 hn2 hc2 hcm2 hA2).mono ?_; rintro e w2 ⟨rfl, hb2⟩
          rw [unhide E1]
          have hsz := hbel.size
          have hsz2 := hb2.size
          have hbel2 := hbel.trans (hb2.mono hsz)
          go_wp2_with fail
          refine (mean_any A n c _ _ ((hr.below hbel2).more (by omega)) hnn hc hcc hA).mono ?_; rintro e w3 ⟨rfl, hb3⟩
          have hsz3 := hb3.size
          have hbel3 := hbel2.trans (hb3.mono (by omega))
          have hbel3' := hb2.trans (hb3.mono (by omega))
          go_wp2_with fail
          refine (median_any A2 n c2 _ _ ((hr2.below hbel3').more (by omega)) hn2 hc2 hcm2 hA2).mono ?_; rintro e w4 ⟨rfl, hb4⟩
          rw [unhide E2]
          have hsz4 := hb4.size
          have hbel4 := hbel3.trans (hb4.mono (by omega))
          go_wp2_with fail
          refine (median_any A n c _ _ ((hr.below hbel4).more (by omega)) hnn hc hcc hA).mono ?_; rintro e w5 ⟨rfl, hb5⟩
          have hbel5 := hbel4.trans (hb5.mono (by omega))
          go_wp2_with fail
          go_ret
          exact ⟨rfl, hbel5⟩
        · rw [show ((r + 1 : Nat) : Int) - 1 = r by omega] at hi
          subst hi
          obtain ⟨bk, o, x, rfl, hb, hx, cx⟩ := (hr.below hbel).get (show r < n by omega)
          have hnew : (l.drop (r + 1)).reverse ++ [x] = (l.drop r).reverse := by rw [drop_at hx]; simp
          have HN := hide hnew
          have hk9 : (l.drop (r + 1)).reverse.length < 1000000000 := by simp; have := unhide HL; omega
          have hb9 : ∀ o, w.heap.size ≤ (wr.alloc o).heap.size := fun o => by rw [World.size_alloc]; have := hbel.size; omega
          clear hx hnew
          go_wp2_with (at_builtin; refine app_one elem_int (.tmp 78) (.tmp 83) [.int .i64 x] rfl rfl rfl hown rfl rfl rfl (ints_oneCell .i64 [x]) hk9 hbel.size ?_; intro v' w2 hown2 hb2 _ _)
          have hown3 : IOwn w2 w.heap.size v' ((l.drop (r + 1)).reverse ++ [x]) := by unfold IOwn; rw [List.length_append]; simpa using hown2
          rw [unhide HN] at hown3
          clear hown2
          go_wp2_with fail
          go_roundw
          case rel => exact ⟨r, by omega, by first | rfl | go_num, hown3, hbel.trans hb2⟩
          case measure => simp [intOf] <;> omega

    · by_cases h1 : -1099511627776 ≤ a <;> by_cases h2 : a ≤ 1099511627776 <;> by_cases h3 : -1099511627776 ≤ b <;> by_cases h4 : b ≤ 1099511627776 <;> (try omega)
      all_goals
        go_enter Try.func3, Try.ntmps3
        go_wp2_with fail
        refine (add_any2 _ _ _).mono ?_; rintro e w1 ⟨rfl, rfl⟩
        rw [show addV 2 3 = 5 by decide]
        go_wp2_with fail
        refine (mul_any _ _ _).mono ?_; rintro e w1 ⟨rfl, rfl⟩
        rw [show mulV (-2) 3 = -6 by decide]
        go_wp2_with fail
        go_loopw [8, 9] (fun v i wr => ∃ r : Nat, r ≤ n ∧ i = .int .i64 ((r : Int) - 1) ∧ IOwn wr w.heap.size v (l.drop r).reverse ∧ Below w.heap.size w wr) (fun _ i _ => (intOf i + 1).toNat)
        case atStart => exact ⟨n, Nat.le_refl _, rfl, by rw [List.drop_of_length_le (by have := unhide HL; omega)]; exact IOwn.nil_ _ _, Below.refl _ _⟩
        case round =>
          obtain ⟨r, hrn, hi, hown, hbel⟩ := hrel
          rcases r with _ | r
          · rw [show ((0 : Nat) : Int) - 1 = -1 by rfl] at hi
            subst hi
            rw [List.drop_zero] at hown
            obtain ⟨A2, c2, rfl, hr2, hn2, hc2, hA2⟩ := hown.slice_
            have hcm2 := own_cap hown
            rw [List.length_reverse, unhide HL] at hr2 hn2 hc2 ⊢
            have hp : l.reverse.Perm l := List.reverse_perm l
            have E1 := hide (mean_perm hp (by rw [List.length_reverse, unhide HL]; exact hn1))
            have E2 := hide (median_perm hp (by rw [List.length_reverse, unhide HL]; exact hn1))
            clear hp hown
            go_wp2_with fail
            refine (mean_any A2 n c2 _ _ hr2 hn2 hc2 hcm2 hA2).mono ?_; rintro e w2 ⟨rfl, hb2⟩
            rw [unhide E1]
            have hsz := hbel.size
            have hsz2 := hb2.size
            have hbel2 := hbel.trans (hb2.mono hsz)
            go_wp2_with fail
            refine (mean_any A n c _ _ ((hr.below hbel2).more (by omega)) hnn hc hcc hA).mono ?_; rintro e w3 ⟨rfl, hb3⟩
            have hsz3 := hb3.size
            have hbel3 := hbel2.trans (hb3.mono (by omega))
            have hbel3' := hb2.trans (hb3.mono (by omega))
            go_wp2_with fail
            refine (median_any A2 n c2 _ _ ((hr2.below hbel3').more (by omega)) hn2 hc2 hcm2 hA2).mono ?_; rintro e w4 ⟨rfl, hb4⟩
            rw [unhide E2]
            have hsz4 := hb4.size
            have hbel4 := hbel3.trans (hb4.mono (by omega))
            go_wp2_with fail
            refine (median_any A n c _ _ ((hr.below hbel4).more (by omega)) hnn hc hcc hA).mono ?_; rintro e w5 ⟨rfl, hb5⟩
            have hbel5 := hbel4.trans (hb5.mono (by omega))
            go_wp2_with fail
            go_ret
            exact ⟨rfl, hbel5⟩
          · rw [show ((r + 1 : Nat) : Int) - 1 = r by omega] at hi
            subst hi
            obtain ⟨bk, o, x, rfl, hb, hx, cx⟩ := (hr.below hbel).get (show r < n by omega)
            have hnew : (l.drop (r + 1)).reverse ++ [x] = (l.drop r).reverse := by rw [drop_at hx]; simp
            have HN := hide hnew
            have hk9 : (l.drop (r + 1)).reverse.length < 1000000000 := by simp; have := unhide HL; omega
            have hb9 : ∀ o, w.heap.size ≤ (wr.alloc o).heap.size := fun o => by rw [World.size_alloc]; have := hbel.size; omega
            clear hx hnew
            go_wp2_with (at_builtin; refine app_one elem_int (.tmp 78) (.tmp 83) [.int .i64 x] rfl rfl rfl hown rfl rfl rfl (ints_oneCell .i64 [x]) hk9 hbel.size ?_; intro v' w2 hown2 hb2 _ _)
            have hown3 : IOwn w2 w.heap.size v' ((l.drop (r + 1)).reverse ++ [x]) := by unfold IOwn; rw [List.length_append]; simpa using hown2
            rw [unhide HN] at hown3
            clear hown2
            go_wp2_with fail
            go_roundw
            case rel => exact ⟨r, by omega, by first | rfl | go_num, hown3, hbel.trans hb2⟩
            case measure => simp [intOf] <;> omega

end Go.Proofs.Ytlicgpjcnkabiaa
