/- cut.values, Cuts, Ends. Conditions: as each lemma names. -/
import Derived.Test.YtlicgpjcnkabiaaDoorSorted
import Derived.Test.YtlicgpjcnkabiaaDoorCutBin
namespace Go.Proofs.YtlicgpjcnkabiaaDoor
set_option linter.unusedVariables false
set_option linter.unusedSimpArgs false
open Go.RowKit

def valuesE (l : List Int) : Int := if 1000 < l.length then 4 else if l.all cellB then 0 else 1
def badI : List Int → Nat → Int
  | [], _ => -1
  | x :: r, k => if cellB x then badI r (k + 1) else (k : Int)
theorem badI_all : ∀ (l : List Int) (k : Nat), (badI l k < 0 ↔ l.all cellB = true) := by
  intro l
  induction l with
  | nil => intro k; simp [badI]
  | cons x r ih =>
    intro k
    rw [badI]
    by_cases h : cellB x = true
    · rw [if_pos h, ih (k + 1)]; simp [h]
    · rw [if_neg h]; simp [h]
theorem badI_drop {l : List Int} {k : Nat} {x : Int} (h : l[k]? = some x) : badI (l.drop k) k = if cellB x then badI (l.drop (k + 1)) (k + 1) else (k : Int) := by rw [drop_at h, badI]
theorem values1_any (x : Int) (w : World) : Calls Tryd.prog 88 #[.int .i64 x] w fun e w' => e = .returned (.bool (!cellB x)) ∧ w = w' := by
  go_enter Tryd.func88, Tryd.ntmps88
  go_wp2_with fail
  refine (cell_any x _).mono ?_
  rintro e w1 ⟨rfl, rfl⟩
  go_wp2_with fail
  go_ret
  exact ⟨rfl, rfl⟩
theorem indexI_any (A : Option Addr) (n c B : Nat) (l : List Int) (w : World) (hr : IReads w B A n l) (hn : n ≤ 100000000) :
    Calls Tryd.prog 103 #[.slice A n c, .func (.func 88) #[] #[]] w fun e w' => e = .returned (.int .i64 (badI l 0)) ∧ w = w' := by
  have HL := hide hr.len
  go_enter Tryd.func103, Tryd.ntmps103
  go_wp2_with fail
  go_loop [8] (fun i => ∃ k : Nat, k ≤ n ∧ i = .int .i64 k ∧ Hid (badI (l.drop k) k = badI l 0)) (fun i => n - (intOf i).toNat)
  case atStart => exact ⟨0, Nat.zero_le _, rfl, hide (by simp)⟩
  case round =>
    obtain ⟨k, hk, rfl, HG⟩ := hrel
    by_cases hlt : k < n
    · obtain ⟨b, o, x, rfl, hb, hx, c0⟩ := hr.get hlt
      have HD := hide (badI_drop hx)
      clear hx
      by_cases hs : cellB x = true
      · go_wp2_with fail
        refine (values1_any x _).mono ?_
        rintro e w1 ⟨rfl, rfl⟩
        rw [hs]
        go_wp2_with fail
        go_round
        case rel => exact ⟨k + 1, by omega, by go_num, hide (by rw [← unhide HG, unhide HD, if_pos hs])⟩
        case measure => simp [intOf]; omega
      · have hs2 : cellB x = false := by simpa using hs
        have HS := hide hs
        clear hs
        go_wp2_with fail
        refine (values1_any x _).mono ?_
        rintro e w1 ⟨rfl, rfl⟩
        rw [hs2]
        go_wp2_with fail
        go_ret
        exact ⟨ret_int (by rw [← unhide HG, unhide HD, if_neg (unhide HS)]), rfl⟩
    · have h0 : badI l 0 = -1 := by
        rw [← unhide HG, List.drop_of_length_le (by have := unhide HL; omega)]; rfl
      have H0 := hide h0
      clear h0
      go_wp2_with fail
      go_ret
      exact ⟨ret_int (unhide H0).symm, rfl⟩
theorem vals_any (A : Option Addr) (n c B : Nat) (l : List Int) (w : World) (hr : IReads w B A n l) (hn : n ≤ maxLen) :
    Calls Tryd.prog 58 #[.slice A n c] w fun e w' => e = .returned (errV (valuesE l)) ∧ w = w' := by
  have hl := hr.len
  unfold maxLen at hn
  by_cases h1 : 1000 < n
  · have HE : Hid (valuesE l = 4) := hide (by unfold valuesE; rw [if_pos (by omega)])
    clear hl
    go_enter Tryd.func58, Tryd.ntmps58
    go_wp2_with fail
    go_ret
    exact ⟨by rw [unhide HE]; rfl, rfl⟩
  · have hcon : ∀ w, IReads w B A n l → Calls Tryd.prog 87 #[.slice A n c, .func (.func 88) #[] #[]] w fun e w' => e = .returned (.bool (!l.all cellB)) ∧ w = w' := by
      intro w hr
      have HB := hide (badI_all l 0)
      go_enter Tryd.func87, Tryd.ntmps87
      go_wp2_with fail
      refine (indexI_any A n c B l _ hr (by omega)).mono ?_
      rintro e w1 ⟨rfl, rfl⟩
      go_wp2_with fail
      go_ret
      refine ⟨ret_bool ?_, rfl⟩
      have := unhide HB
      by_cases h : badI l 0 < 0
      · rw [this.1 h]; simp; omega
      · have h2 : l.all cellB = false := by
          rcases Bool.eq_false_or_eq_true (l.all cellB) with h3 | h3
          · exact absurd (this.2 h3) h
          · exact h3
        rw [h2]; simp; omega
    have HC := hide (hcon w hr)
    clear hcon
    by_cases ha : l.all cellB = true
    · have HE : Hid (valuesE l = 0) := hide (by unfold valuesE; rw [if_neg (by omega), if_pos ha])
      have HA := hide ha
      clear hl ha
      go_enter Tryd.func58, Tryd.ntmps58
      go_wp2_with fail
      refine (unhide HC).mono ?_
      rintro e w1 ⟨rfl, rfl⟩
      rw [unhide HA]
      go_wp2_with fail
      go_ret
      exact ⟨by rw [unhide HE]; rfl, rfl⟩
    · have ha2 : l.all cellB = false := by simpa using ha
      have HE : Hid (valuesE l = 1) := hide (by unfold valuesE; rw [if_neg (by omega), if_neg ha])
      have HA := hide ha2
      clear hl ha ha2
      go_enter Tryd.func58, Tryd.ntmps58
      go_wp2_with fail
      refine (unhide HC).mono ?_
      rintro e w1 ⟨rfl, rfl⟩
      rw [unhide HA]
      go_wp2_with fail
      go_ret
      exact ⟨by rw [unhide HE]; rfl, rfl⟩

/-! ### Ends -/
def endsE (l : List Int) (b : Int) : Int := if cutE l = 0 then (if b < 0 then 1 else if (l.length : Int) < b then 1 else 0) else cutE l
def endLo (l : List Int) (b : Nat) : Int := if b = 0 then -1000000 else l.getD (b - 1) 0
def endHi (l : List Int) (b : Nat) : Int := if b < l.length then l.getD b 0 - 1 else 1000000
set_option maxHeartbeats 1000000 in
theorem ends_any (A : Option Addr) (n c B : Nat) (l : List Int) (b : Int) (w : World) (hr : IReads w w.heap.size A n l) (hn : n ≤ maxLen) :
    Calls Tryd.prog 20 #[.slice A n c, .int .i64 b] w fun e w' => e = .returned (.tuple #[.int .i64 (if endsE l b = 0 then endLo l b.toNat else 0), .int .i64 (if endsE l b = 0 then endHi l b.toNat else 0), errV (endsE l b)]) ∧ w = w' := by
  have hl := hr.len
  by_cases h0 : cutE l = 0
  case neg =>
    have HE : Hid (endsE l b = cutE l) := hide (by unfold endsE; rw [if_neg h0])
    have HN : Hid (endsE l b ≠ 0) := hide (by rw [unhide HE]; exact h0)
    have HV := hide (errV_1 h0)
    rw [if_neg (unhide HN), if_neg (unhide HN), unhide HE]
    clear h0 hl
    go_enter Tryd.func20, Tryd.ntmps20
    go_wp2_with fail
    refine (cutCheck_any A n c l _ _ hr hn).mono ?_
    rintro e w1 ⟨rfl, rfl⟩
    rw [unhide HV]
    go_wp2_with fail
    go_ret3
    exact ⟨by rw [unhide HV]; rfl, rfl⟩
  obtain ⟨hri, hcl, h60⟩ := cutE_rises h0
  have hv := errV_0 h0
  have HV := hide hv
  have hn60 : n ≤ 60 := by omega
  by_cases h1 : b < 0
  · have HE : Hid (endsE l b = 1) := hide (by unfold endsE; rw [if_pos h0, if_pos h1])
    rw [unhide HE]
    have d1 : decide (b < 0) = true := by simpa using h1
    clear h0 hl hv hcl hri h60
    go_enter Tryd.func20, Tryd.ntmps20
    go_wp2_with fail
    refine (cutCheck_any A n c l _ _ hr hn).mono ?_
    rintro e w1 ⟨rfl, rfl⟩
    rw [unhide HV]
    go_wp2_with fail
    go_ret3
    exact ⟨rfl, rfl⟩
  by_cases h2 : (n : Int) < b
  · have HE : Hid (endsE l b = 1) := hide (by unfold endsE; rw [if_pos h0, if_neg h1, if_pos (by omega)])
    rw [unhide HE]
    have d1 : decide (b < 0) = false := by simpa using h1
    have d2 : decide ((n : Int) < b) = true := by simpa using h2
    clear h0 hl hv hcl hri h60
    go_enter Tryd.func20, Tryd.ntmps20
    go_wp2_with fail
    refine (cutCheck_any A n c l _ _ hr hn).mono ?_
    rintro e w1 ⟨rfl, rfl⟩
    rw [unhide HV]
    go_wp2_with fail
    go_ret3
    exact ⟨rfl, rfl⟩
  obtain ⟨k, rfl⟩ : ∃ k : Nat, b = k := ⟨b.toNat, by omega⟩
  have HE : Hid (endsE l k = 0) := hide (by unfold endsE; rw [if_pos h0, if_neg h1, if_neg (by omega)])
  rw [unhide HE, if_pos rfl, if_pos rfl, Int.toNat_natCast]
  have d1 : decide ((k : Int) < 0) = false := by simp
  have d2 : decide ((n : Int) < (k : Int)) = false := by simp; omega
  have d3 : decide (n < k) = false := by simp; omega
  have hx : ∀ j, j < n → ∃ b o, A = some ⟨b, o, none⟩ ∧ w.cell? ⟨b, o + j, none⟩ = some (.int .i64 (l.getD j 0)) ∧ -1000000 ≤ l.getD j 0 ∧ l.getD j 0 ≤ 1000000 := by
    intro j hj
    obtain ⟨b, o, x, e, _, hx, hc⟩ := hr.get hj
    have hg : l.getD j 0 = x := by rw [List.getD_eq_getElem?_getD, hx]; rfl
    have := cellB_t.1 (hcl x (List.mem_of_getElem? hx))
    exact ⟨b, o, e, by rw [hg]; exact hc, by omega, by omega⟩
  have HX := hide hx
  have HLN := hide hl
  have hkn' : k ≤ n := by omega
  clear h0 h1 h2 hv hcl hri h60 hx hl
  by_cases hk0 : k = 0
  · subst hk0
    by_cases hkn : 0 < n
    · obtain ⟨b, o, rfl, hc, hlo, hhi⟩ := unhide HX 0 hkn
      obtain ⟨y, hy⟩ : ∃ y, y = l.getD 0 0 := ⟨_, rfl⟩
      rw [← hy] at hc hlo hhi
      have HLo : Hid (endLo l 0 = -1000000) := hide rfl
      have HHi : Hid (endHi l 0 = y - 1) := hide (by unfold endHi; rw [if_pos (by rw [unhide HLN]; exact hkn), hy])
      have d4 : decide ((0 : Int) < (n : Int)) = true := by simpa using hkn
      rw [unhide HLo, unhide HHi]
      rw [Nat.add_zero] at hc
      clear hy
      go_enter Tryd.func20, Tryd.ntmps20
      go_wp2_with fail
      refine (cutCheck_any _ n c l _ _ hr hn).mono ?_
      rintro e w1 ⟨rfl, rfl⟩
      rw [unhide HV]
      go_wp2_with fail
      go_ret3
      exact ⟨rfl, rfl⟩
    · obtain rfl : n = 0 := by omega
      have HLo : Hid (endLo l 0 = -1000000) := hide rfl
      have HHi : Hid (endHi l 0 = 1000000) := hide (by unfold endHi; rw [if_neg (by rw [unhide HLN]; omega)])
      rw [unhide HLo, unhide HHi]
      go_enter Tryd.func20, Tryd.ntmps20
      go_wp2_with fail
      refine (cutCheck_any _ 0 c l _ _ hr hn).mono ?_
      rintro e w1 ⟨rfl, rfl⟩
      rw [unhide HV]
      go_wp2_with fail
      go_ret3
      exact ⟨rfl, rfl⟩
  · obtain ⟨j, rfl⟩ : ∃ j, k = j + 1 := ⟨k - 1, by omega⟩
    obtain ⟨b, o, rfl, hc, hlo, hhi⟩ := unhide HX j (by omega)
    obtain ⟨z, hz⟩ : ∃ z, z = l.getD j 0 := ⟨_, rfl⟩
    rw [← hz] at hc hlo hhi
    have HLo : Hid (endLo l (j + 1) = z) := hide (by unfold endLo; rw [if_neg (by omega), Nat.add_sub_cancel, hz])
    have d5 : decide ((0 : Int) < (j : Int) + 1) = true := decide_eq_true (by omega)
    have d6 : decide ((j : Int) + 1 < 0) = false := decide_eq_false (by omega)
    have d7 : decide ((n : Int) < (j : Int) + 1) = false := decide_eq_false (by omega)
    by_cases hkn : j + 1 < n
    · obtain ⟨_, _, e, hc2, hlo2, hhi2⟩ := unhide HX (j + 1) hkn
      cases e
      obtain ⟨y, hy⟩ : ∃ y, y = l.getD (j + 1) 0 := ⟨_, rfl⟩
      rw [← hy] at hc2 hlo2 hhi2
      have HHi : Hid (endHi l (j + 1) = y - 1) := hide (by unfold endHi; rw [if_pos (by rw [unhide HLN]; exact hkn), hy])
      rw [unhide HLo, unhide HHi]
      clear hy hz
      go_enter Tryd.func20, Tryd.ntmps20
      go_wp2_with fail
      refine (cutCheck_any _ n c l _ _ hr hn).mono ?_
      rintro e w1 ⟨rfl, rfl⟩
      rw [unhide HV]
      go_wp2_with fail
      go_ret3
      exact ⟨rfl, rfl⟩
    · have HHi : Hid (endHi l (j + 1) = 1000000) := hide (by unfold endHi; rw [if_neg (by rw [unhide HLN]; omega)])
      rw [unhide HLo, unhide HHi]
      clear hz
      go_enter Tryd.func20, Tryd.ntmps20
      go_wp2_with fail
      refine (cutCheck_any _ n c l _ _ hr hn).mono ?_
      rintro e w1 ⟨rfl, rfl⟩
      rw [unhide HV]
      go_wp2_with fail
      go_ret3
      exact ⟨rfl, rfl⟩
end Go.Proofs.YtlicgpjcnkabiaaDoor
