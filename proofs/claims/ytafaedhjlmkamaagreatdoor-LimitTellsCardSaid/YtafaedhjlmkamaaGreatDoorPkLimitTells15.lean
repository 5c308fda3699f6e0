/- Part 15 of what LawLimitTells needs: Limit3. Conditions: as each lemma names. -/
import Derived.Test.YtafaedhjlmkamaaGreatDoorPkLimitTells14
/- Package limit: ready, Tree, Rows. Conditions: arguments read as data. -/
namespace Go.Proofs.YtafaedhjlmkamaaGreatDoor
set_option linter.unusedVariables false
set_option linter.unusedSimpArgs false
open Go.RowKit

def limitE (t : List Nd) (l : List Sp) : Int := if spansE l = 0 then treeE t l.length else spansE l
theorem lready_any (A C : Option Addr) (m d n c : Nat) (t : List Nd) (l : List Sp) (w : World) (ht : NReads w w.heap.size A m t) (hl : SReads w w.heap.size C n l) (hm : m ≤ maxLen) (hn : n ≤ maxLen) :
    Calls Tryz.prog 24 #[.slice A m d, .slice C n c] w fun e w' => e = .returned (errV (limitE t l)) ∧ Below w.heap.size w w' := by
  have hll := hl.len
  by_cases h0 : spansE l = 0
  · have HE : Hid (limitE t l = treeE t n) := hide (by unfold limitE; rw [if_pos h0, hll])
    have HS := hide (errV_0 h0)
    clear h0 hll
    go_enter Tryz.func24, Tryz.ntmps24
    go_wp2_with fail
    refine (pcheck_any C n c _ l w hl (Nat.le_refl _) hn).mono ?_
    rintro e w1 ⟨rfl, hb1⟩
    rw [unhide HS]
    go_wp2_with fail
    refine (check_any A m d n t w1 ((ht.below hb1).more hb1.size) hm).mono ?_
    rintro e w2 ⟨rfl, hb2⟩
    go_wp2_with fail
    go_ret
    exact ⟨by rw [unhide HE]; rfl, hb1.trans (hb2.mono hb1.size)⟩
  · have HE : Hid (limitE t l = spansE l) := hide (by unfold limitE; rw [if_neg h0])
    have HS := hide (errV_1 h0)
    clear h0 hll
    go_enter Tryz.func24, Tryz.ntmps24
    go_wp2_with fail
    refine (pcheck_any C n c _ l w hl (Nat.le_refl _) hn).mono ?_
    rintro e w1 ⟨rfl, hb1⟩
    rw [unhide HS]
    go_wp2_with fail
    go_ret
    exact ⟨by rw [unhide HE, unhide HS]; rfl, hb1⟩
theorem limitE_0 {t : List Nd} {l : List Sp} (h : limitE t l = 0) : spansE l = 0 ∧ Right t l.length := by
  unfold limitE at h
  by_cases h0 : spansE l = 0
  · rw [if_pos h0] at h; exact ⟨h0, right_of h⟩
  · rw [if_neg h0] at h; exact absurd h h0
/-- what is told within spans -/
def limV (t : List Nd) (l : List Sp) : En := if limitE t l = 0 then endsV t l else en0

set_option maxRecDepth 100000 in
theorem limTree_any (A C : Option Addr) (m d n c : Nat) (t : List Nd) (l : List Sp) (w : World) (ht : NReads w w.heap.size A m t) (hl : SReads w w.heap.size C n l) (hm : m ≤ maxLen) (hn : n ≤ maxLen) (hC : C = none → c = 0) :
    Calls Tryz.prog 7 #[.slice A m d, .slice C n c] w fun e w' => e = .returned (.tuple #[.int .i64 (limV t l).low, .int .i64 (limV t l).high, errV (limitE t l)]) ∧ Below w.heap.size w w' := by
  have hll := hl.len
  by_cases h0 : limitE t l = 0
  · have HV : Hid (limV t l = endsV t l) := hide (by unfold limV; rw [if_pos h0])
    have HR := (limitE_0 h0).2
    rw [hll] at HR
    have HS := hide (errV_0 h0)
    have HRH := hide HR
    clear h0 HR hll
    go_enter Tryz.func7, Tryz.ntmps7
    go_wp2_with fail
    refine (lready_any A C m d n c t l w ht hl hm hn).mono ?_
    rintro e w1 ⟨rfl, hb1⟩
    rw [unhide HS]
    go_wp2_with fail
    refine (of2_any A C m d n c t l (unhide HRH) w1 ((ht.below hb1).more hb1.size) ((hl.below hb1).more hb1.size) hC).mono ?_
    rintro e w2 ⟨A1, n1, c1, A2, n2, c2, rfl, h1, h2, z1, z2, q1, q2, hb2⟩
    have hB2 := hb1.trans (hb2.mono hb1.size)
    have hs2 := hB2.size
    clear h1 h2 z1 z2 q1 q2 hb1 hb2
    obtain ⟨E, hE⟩ : ∃ E, E = endsV t l := ⟨_, rfl⟩
    rw [← hE] at HV ⊢
    clear hE
    obtain ⟨lo, hi, ls, ms, so⟩ := E
    dsimp only
    go_wp2_with fail
    go_quiet (fail)
    go_wp2_with fail
    go_ret3
    exact ⟨by rw [unhide HV, unhide HS]; rfl, below_drewN (hB2.alloc hs2 _) _⟩
  · have HV : Hid (limV t l = en0) := hide (by unfold limV; rw [if_neg h0])
    have HS := hide (errV_1 h0)
    clear h0 hll
    go_enter Tryz.func7, Tryz.ntmps7
    go_wp2_with fail
    refine (lready_any A C m d n c t l w ht hl hm hn).mono ?_
    rintro e w1 ⟨rfl, hb1⟩
    rw [unhide HS]
    go_wp2_with fail
    go_ret3
    exact ⟨by rw [unhide HV, unhide HS]; rfl, hb1⟩

def LRowsPost (t : List Nd) (l : List Sp) (w : World) (e : Ending) (w' : World) : Prop :=
  ∃ A1 n1 c1 A2 n2 c2, e = .returned (.tuple #[.slice A1 n1 c1, .slice A2 n2 c2, errV (limitE t l)]) ∧ IReads w' w'.heap.size A1 n1 (limV t l).least ∧ IReads w' w'.heap.size A2 n2 (limV t l).most ∧ (A1 = none → c1 = 0) ∧ (A2 = none → c2 = 0) ∧ n1 ≤ c1 ∧ n2 ≤ c2 ∧ Below w.heap.size w w'
set_option maxRecDepth 100000 in
theorem limRows_any (A C : Option Addr) (m d n c : Nat) (t : List Nd) (l : List Sp) (w : World) (ht : NReads w w.heap.size A m t) (hl : SReads w w.heap.size C n l) (hm : m ≤ maxLen) (hn : n ≤ maxLen) (hC : C = none → c = 0) :
    Calls Tryz.prog 9 #[.slice A m d, .slice C n c] w (LRowsPost t l w) := by
  have hll := hl.len
  by_cases h0 : limitE t l = 0
  · have HV : Hid (limV t l = endsV t l) := hide (by unfold limV; rw [if_pos h0])
    have HR := (limitE_0 h0).2
    rw [hll] at HR
    have HS := hide (errV_0 h0)
    have HRH := hide HR
    clear h0 HR hll
    go_enter Tryz.func9, Tryz.ntmps9
    go_wp2_with fail
    refine (lready_any A C m d n c t l w ht hl hm hn).mono ?_
    rintro e w1 ⟨rfl, hb1⟩
    rw [unhide HS]
    go_wp2_with fail
    refine (of2_any A C m d n c t l (unhide HRH) w1 ((ht.below hb1).more hb1.size) ((hl.below hb1).more hb1.size) hC).mono ?_
    rintro e w2 ⟨A1, n1, c1, A2, n2, c2, rfl, h1, h2, z1, z2, q1, q2, hb2⟩
    have hB2 := hb1.trans (hb2.mono hb1.size)
    have hs2 := hB2.size
    clear hb1 hb2
    obtain ⟨E, hE⟩ : ∃ E, E = endsV t l := ⟨_, rfl⟩
    rw [← hE] at HV h1 h2 ⊢
    clear hE
    obtain ⟨lo, hi, ls, ms, so⟩ := E
    dsimp only at h1 h2 ⊢
    have h1' := ((h1.below ((Below.refl _ _).alloc (Nat.le_refl _) (.cells #[.int .i64 lo, .int .i64 hi, .slice A1 n1 c1, .slice A2 n2 c2, .bool so] 60))).more (B' := w2.heap.size + 1) (by omega))
    have h2' := ((h2.below ((Below.refl _ _).alloc (Nat.le_refl _) (.cells #[.int .i64 lo, .int .i64 hi, .slice A1 n1 c1, .slice A2 n2 c2, .bool so] 60))).more (B' := w2.heap.size + 1) (by omega))
    have H1 := hide h1'
    have H2 := hide h2'
    clear h1 h2 h1' h2'
    go_wp2_with fail
    go_quiet (fail)
    go_wp2_with fail
    go_ret3
    refine ⟨A1, n1, c1, A2, n2, c2, by rw [unhide HS]; rfl, ?_, ?_, z1, z2, q1, q2, below_drewN (hB2.alloc hs2 _) _⟩
    · rw [unhide HV]
      refine Reads.drewN (IReads.more (unhide H1) ?_) _
      show _ ≤ (World.drewN _ _).heap.size
      rw [show (World.drewN (w2.alloc _) nq).heap.size = (w2.alloc _).heap.size from rfl, World.size_alloc]
      exact Nat.le_refl _
    · rw [unhide HV]
      refine Reads.drewN (IReads.more (unhide H2) ?_) _
      show _ ≤ (World.drewN _ _).heap.size
      rw [show (World.drewN (w2.alloc _) nq).heap.size = (w2.alloc _).heap.size from rfl, World.size_alloc]
      exact Nat.le_refl _
  · have HV : Hid (limV t l = en0) := hide (by unfold limV; rw [if_neg h0])
    have HS := hide (errV_1 h0)
    clear h0 hll
    go_enter Tryz.func9, Tryz.ntmps9
    go_wp2_with fail
    refine (lready_any A C m d n c t l w ht hl hm hn).mono ?_
    rintro e w1 ⟨rfl, hb1⟩
    rw [unhide HS]
    go_wp2_with fail
    go_ret3
    exact ⟨none, 0, 0, none, 0, 0, by rw [unhide HS]; rfl, by rw [unhide HV]; exact IReads.nil_, by rw [unhide HV]; exact IReads.nil_, fun _ => rfl, fun _ => rfl, Nat.le_refl _, Nat.le_refl _, hb1⟩
end Go.Proofs.YtafaedhjlmkamaaGreatDoor
