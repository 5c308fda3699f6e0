/- FixedAdds: the walk. Conditions: the list reads as a list of ints. -/
import Derived.Test.YtlicgpjcnkabiaaRefFix
namespace Go.Proofs.Ytlicgpjcnkabiaa
set_option linter.unusedVariables false
set_option linter.unusedSimpArgs false
open Go.RowKit

set_option maxRecDepth 100000 in
set_option maxHeartbeats 2000000 in
theorem fixedAdds_walk (a b : Int) (A : Option Addr) (n c : Nat) (l : List Int) (w : World) (hr : IReads w w.heap.size A n l) (hn : n ≤ maxLen) (hc : n ≤ c) (hcm : c ≤ maxLen) (hA : A = none → c = 0) :
    Calls Try.prog 4 #[.int .i64 a, .int .i64 b, .slice A n c] w fun e w' => e = .returned (.bool true) ∧ Below w.heap.size w w' := by
  have k1 := add_any2 a b
  have k2 := radd_any a b
  have k3 := mul_any a b
  have k4 := rmul_any a b
  have k5 := round_any a b
  have k6 := rround_any a b
  have k7 := total_any A n c w.heap.size l w hr hn
  have k8 := rtotal_any A n c w.heap.size l w hr hn
  generalize addV a b = v1 at *
  generalize mulV a b = v2 at *
  generalize roundV a b = v3 at *
  generalize totalV l = v4 at *
  go_enter Try.func4, Try.ntmps4
  go_wp2_with fail
  refine (k1 _).mono ?_; rintro e w1 ⟨rfl, rfl⟩
  go_wp2_with fail
  refine (k2 _).mono ?_; rintro e w1 ⟨rfl, rfl⟩
  go_wp2_with fail
  refine (k3 _).mono ?_; rintro e w1 ⟨rfl, rfl⟩
  go_wp2_with fail
  refine (k4 _).mono ?_; rintro e w1 ⟨rfl, rfl⟩
  go_wp2_with fail
  refine (k5 _).mono ?_; rintro e w1 ⟨rfl, rfl⟩
  go_wp2_with fail
  refine (k6 _).mono ?_; rintro e w1 ⟨rfl, rfl⟩
  go_wp2_with fail
  refine k7.mono ?_; rintro e w1 ⟨rfl, rfl⟩
  go_wp2_with fail
  refine k8.mono ?_; rintro e w1 ⟨rfl, rfl⟩
  clear k1 k2 k3 k4 k5 k6 k7 k8
  obtain ⟨mv, hmv⟩ : ∃ mv, meanV l = mv := ⟨_, rfl⟩
  obtain ⟨md, hmd⟩ : ∃ md, medianV l = md := ⟨_, rfl⟩
  have MV := hide hmv
  have MD := hide hmd
  clear hmv hmd
  go_wp2_with fail
  refine (mean_any A n c l _ hr hn hc hcm hA).mono ?_; rintro e w1 ⟨rfl, hb1⟩
  rw [unhide MV]
  have z1 := hb1.size
  go_wp2_with fail
  refine (rmean_any A n c l _ ((hr.below hb1).more z1) hn).mono ?_; rintro e w2 ⟨rfl, hb2⟩
  rw [unhide MV]
  have b2 := hb1.trans (hb2.mono z1)
  have z2 := b2.size
  go_wp2_with fail
  refine (median_any A n c l _ ((hr.below b2).more z2) hn hc hcm hA).mono ?_; rintro e w3 ⟨rfl, hb3⟩
  rw [unhide MD]
  have b3 := b2.trans (hb3.mono z2)
  have z3 := b3.size
  go_wp2_with fail
  refine (rmedian_any A n c l _ ((hr.below b3).more z3) hn).mono ?_; rintro e w4 ⟨rfl, hb4⟩
  rw [unhide MD]
  go_wp2_with fail
  go_ret
  exact ⟨rfl, b3.trans (hb4.mono z3)⟩
end Go.Proofs.Ytlicgpjcnkabiaa
