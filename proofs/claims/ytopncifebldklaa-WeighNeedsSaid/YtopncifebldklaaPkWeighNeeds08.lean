/- Part 8 of what LawWeighNeeds needs: Fixed. Conditions: as each lemma names. -/
import Derived.Test.YtopncifebldklaaPkWeighNeeds01
import Derived.Test.YtopncifebldklaaPkWeighNeeds05
/- Chapter 1: the contracts of package fixed on numbers. Conditions: as each lemma names. -/
namespace Go.Proofs.Ytopncifebldklaa
set_option linter.unusedVariables false
set_option linter.unusedSimpArgs false
open Go.RowKit

theorem floor_any (a b : Int) (w : World) (hb : 0 < b) (ha1 : -9000000000000000000 ≤ a) (ha2 : a ≤ 9000000000000000000) (hb2 : b ≤ 9000000000000000000) :
    Calls Try.prog 44 #[.int .i64 a, .int .i64 b] w fun e w' => e = .returned (.int .i64 (a / b)) ∧ w = w' := by
  go_enter Try.func44, Try.ntmps44
  by_cases h : a.tmod b < 0
  · have hw := IntWalk.wrap64_in (a.tdiv b - 1) (by have := floor_t1 hb h; have := ediv_in (n := 9000000000000000000) hb (by omega) ha1 ha2; omega)
    have e := floor_t1 hb h
    have E := hide e
    have HW := hide hw
    clear e hw
    go_wp2
    go_ret
    exact ⟨ret_int (by rw [unhide HW, unhide E]), rfl⟩
  · have E := hide (floor_t2 hb (Int.not_lt.1 h))
    go_wp2
    go_ret
    exact ⟨ret_int (unhide E), rfl⟩

end Go.Proofs.Ytopncifebldklaa
