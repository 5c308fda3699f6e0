/- cut.Bin and cut.Merge: their contracts. Conditions: slices that read as lists. -/
import Derived.Test.YtlicgpjcnkabiaaDoorMerge
namespace Go.Proofs.YtlicgpjcnkabiaaDoor
set_option linter.unusedVariables false
set_option linter.unusedSimpArgs false
open Go.RowKit

/-- of a list that rises: what stands at its bin, less one, is the greatest that is at most a number -/
theorem bin_rep {l : List Int} (h : l.Pairwise (· < ·)) (c : Int) : binN l c ≤ l.length ∧ (∀ (j : Nat) x, l[j]? = some x → (j < binN l c ↔ x ≤ c)) := by
  induction l with
  | nil => exact ⟨Nat.le_refl _, fun j x h => by simp at h⟩
  | cons a r ih =>
    rw [List.pairwise_cons] at h
    obtain ⟨h1, h2⟩ := ih h.2
    unfold binN at *
    rw [List.filter_cons]
    by_cases ha : a ≤ c
    · simp only [ha, decide_true, if_true, List.length_cons]
      refine ⟨by omega, fun j x hx => ?_⟩
      cases j with
      | zero => simp at hx; subst hx; simp [ha]
      | succ j => rw [← h2 j x (by simpa using hx)]; omega
    · have h0 : (r.filter fun x => decide (x ≤ c)) = [] := by
        rw [List.filter_eq_nil_iff]
        intro x hx
        have := h.1 x hx
        simp; omega
      simp only [ha, decide_false, Bool.false_eq_true, if_false, h0, List.length_nil]
      refine ⟨Nat.zero_le _, fun j x hx => ?_⟩
      constructor
      · intro hj; omega
      · intro hxc
        exfalso
        cases j with
        | zero => simp at hx; subst hx; exact ha hxc
        | succ j => have := h.1 x (List.mem_of_getElem? (by simpa using hx : r[j]? = some x)); omega
def binE (l : List Int) (x : Int) : Int := if cutE l = 0 then (if cellB x = true then 0 else 1) else cutE l
def binV (l : List Int) (x : Int) : Int := if binE l x = 0 then (binN l x : Int) else 0
theorem bin_any (A : Option Addr) (n c : Nat) (l : List Int) (x : Int) (w : World) (h : IReads w w.heap.size A n l) (hn : n ≤ maxLen) :
    Calls Tryd.prog 19 #[.slice A n c, .int .i64 x] w fun e w' => e = .returned (.tuple #[.int .i64 (binV l x), errV (binE l x)]) ∧ w = w' := by
  by_cases h0 : cutE l = 0
  · by_cases hx : cellB x = true
    · have HE : Hid (binE l x = 0) := hide (by unfold binE; rw [if_pos h0, if_pos hx])
      have HV : Hid (binV l x = binN l x) := hide (by unfold binV; rw [if_pos (unhide HE)])
      obtain ⟨hri, _, h60⟩ := cutE_rises h0
      rw [h.len] at h60
      have hv := errV_0 h0
      have HX := hide hx
      have HV0 := hide hv
      have hat := at_any A n c l x w w.heap.size h h60 hri
      clear h0 hx hv hri
      go_enter Tryd.func19, Tryd.ntmps19
      go_wp2_with fail
      refine (cutCheck_any A n c l _ _ h hn).mono ?_
      rintro e w1 ⟨rfl, rfl⟩
      rw [unhide HV0]
      go_wp2_with fail
      refine (cell_any _ _).mono ?_
      rintro e w1 ⟨rfl, rfl⟩
      rw [unhide HX]
      go_wp2_with fail
      refine hat.mono ?_
      clear hat
      rintro e w1 ⟨rfl, rfl⟩
      go_wp2_with fail
      go_ret2
      exact ⟨by rw [unhide HV, unhide HE]; rfl, rfl⟩
    · rw [Bool.not_eq_true] at hx
      have HE : Hid (binE l x = 1) := hide (by unfold binE; rw [if_pos h0, hx]; rfl)
      have HV : Hid (binV l x = 0) := hide (by unfold binV; rw [unhide HE]; rfl)
      have hv := errV_0 h0
      have HX := hide hx
      have HV0 := hide hv
      clear h0 hx hv
      go_enter Tryd.func19, Tryd.ntmps19
      go_wp2_with fail
      refine (cutCheck_any A n c l _ _ h hn).mono ?_
      rintro e w1 ⟨rfl, rfl⟩
      rw [unhide HV0]
      go_wp2_with fail
      refine (cell_any _ _).mono ?_
      rintro e w1 ⟨rfl, rfl⟩
      rw [unhide HX]
      go_wp2_with fail
      go_ret2
      exact ⟨by rw [unhide HV, unhide HE]; rfl, rfl⟩
  · have HE : Hid (binE l x = cutE l) := hide (by unfold binE; rw [if_neg h0])
    have HV : Hid (binV l x = 0) := hide (by unfold binV; rw [unhide HE, if_neg h0])
    have hv := errV_1 h0
    have HV0 := hide hv
    clear h0 hv
    go_enter Tryd.func19, Tryd.ntmps19
    go_wp2_with fail
    refine (cutCheck_any A n c l _ _ h hn).mono ?_
    rintro e w1 ⟨rfl, rfl⟩
    rw [unhide HV0]
    go_wp2_with fail
    go_ret2
    exact ⟨by rw [unhide HV, unhide HE, unhide HV0]; rfl, rfl⟩

def mergeE (a b : List Int) : Int := if cutE a = 0 then (if cutE b = 0 then (if 60 < (mergeV a b).length then 4 else 0) else cutE b) else cutE a
def mergeR (a b : List Int) : List Int := if mergeE a b = 0 then mergeV a b else []
def MergePost (a b : List Int) (w : World) (e : Ending) (w' : World) : Prop :=
  ∃ v, e = .returned (.tuple #[v, errV (mergeE a b)]) ∧ IOwn w' w.heap.size v (mergeR a b) ∧ Below w.heap.size w w'
theorem MergePost.fault {a b : List Int} {w w' : World} {k : Int} {ev : Value} (h : mergeE a b = k) (hk : k ≠ 0) (hv : ev = errV k) (hb : Below w.heap.size w w') : MergePost a b w (.returned (.tuple #[.slice none 0 0, ev])) w' :=
  ⟨_, by rw [h, hv], by unfold mergeR; rw [if_neg (by rw [h]; exact hk)]; exact IOwn.nil_ _ _, hb⟩

set_option maxRecDepth 100000 in
set_option maxHeartbeats 2000000 in
theorem merge_any (A C : Option Addr) (n m c d : Nat) (a b : List Int) (w : World) (ha : IReads w w.heap.size A n a) (hb : IReads w w.heap.size C m b) (hn : n ≤ maxLen) (hm : m ≤ maxLen) :
    Calls Tryd.prog 23 #[.slice A n c, .slice C m d] w (MergePost a b w) := by
  have hla := ha.len
  have hlb := hb.len
  have ha1 : IReads (w.alloc (.cells #[.slice A n c, .slice C m d] 22)) w.heap.size A n a := Reads.alloc ha (Nat.le_refl _) _
  have hb1 : IReads (w.alloc (.cells #[.slice A n c, .slice C m d] 22)) w.heap.size C m b := Reads.alloc hb (Nat.le_refl _) _
  have ha2 : IReads ((w.alloc (.cells #[.slice A n c, .slice C m d] 22)).alloc (.cells #[.slice A n c, .slice C m d] 22)) w.heap.size A n a := Reads.alloc ha1 (by rw [World.size_alloc]; omega) _
  have hb2 : IReads ((w.alloc (.cells #[.slice A n c, .slice C m d] 22)).alloc (.cells #[.slice A n c, .slice C m d] 22)) w.heap.size C m b := Reads.alloc hb1 (by rw [World.size_alloc]; omega) _
  by_cases h1 : cutE a = 0
  case neg =>
    have HE : Hid (mergeE a b = cutE a) := hide (by unfold mergeE; rw [if_neg h1])
    have hv := errV_1 h1
    have HV := hide hv
    have H1 := hide h1
    clear h1 hv hla hlb
    go_enter Tryd.func23, Tryd.ntmps23
    go_wp2_with fail
    refine wp_loop_rounds 3 ?_
    rw [rounds_succ]
    go_wp2_with fail
    refine (cutCheck_any A n c a _ _ ha1 hn).mono ?_
    rintro e w1 ⟨rfl, rfl⟩
    rw [unhide HV]
    go_wp2_with fail
    go_ret2
    exact MergePost.fault (unhide HE) (unhide H1) (unhide HV).symm (by go_grown)
  by_cases h2 : cutE b = 0
  case neg =>
    have HE : Hid (mergeE a b = cutE b) := hide (by unfold mergeE; rw [if_pos h1, if_neg h2])
    have HV1 := hide (errV_0 h1)
    have HV := hide (errV_1 h2)
    have H2 := hide h2
    clear h1 h2 hla hlb
    go_enter Tryd.func23, Tryd.ntmps23
    go_wp2_with fail
    refine wp_loop_rounds 3 ?_
    rw [rounds_succ]
    go_wp2_with fail
    refine (cutCheck_any A n c a _ _ ha1 hn).mono ?_
    rintro e w1 ⟨rfl, rfl⟩
    rw [unhide HV1]
    go_wp2_with fail
    rw [rounds_succ]
    go_wp2_with fail
    refine (cutCheck_any C m d b _ _ hb1 hm).mono ?_
    rintro e w1 ⟨rfl, rfl⟩
    rw [unhide HV]
    go_wp2_with fail
    go_ret2
    exact MergePost.fault (unhide HE) (unhide H2) (unhide HV).symm (by go_grown)
  have HV1 := hide (errV_0 h1)
  have HV2 := hide (errV_0 h2)
  have n60 := (cutE_rises h1).2.2
  have m60 := (cutE_rises h2).2.2
  have HE : Hid (mergeE a b = if 60 < (mergeV a b).length then 4 else 0) := hide (by unfold mergeE; rw [if_pos h1, if_pos h2])
  rw [hla] at n60
  rw [hlb] at m60
  have hcc := concat_any A C n m c d a b ((w.alloc (.cells #[.slice A n c, .slice C m d] 22)).alloc (.cells #[.slice A n c, .slice C m d] 22)) w.heap.size (w.heap.size + 1) (ha2.more (by simp; omega)) (hb2.more (by simp; omega)) (by omega) (by omega)
    (by simp) (by simp) (by simp)
  have hlab : (a ++ b).length ≤ 120 := by simp; omega
  clear h1 h2 hla hlb
  go_enter Tryd.func23, Tryd.ntmps23
  go_wp2_with fail
  refine wp_loop_rounds 3 ?_
  rw [rounds_succ]
  go_wp2_with fail
  refine (cutCheck_any A n c a _ _ ha1 hn).mono ?_
  rintro e w1 ⟨rfl, rfl⟩
  rw [unhide HV1]
  go_wp2_with fail
  rw [rounds_succ]
  go_wp2_with fail
  refine (cutCheck_any C m d b _ _ hb1 hm).mono ?_
  rintro e w1 ⟨rfl, rfl⟩
  rw [unhide HV2]
  go_wp2_with fail
  rw [rounds_succ]
  go_wp2_with fail
  refine hcc.mono ?_
  clear hcc
  rintro e w1 ⟨v, rfl, hown, hbw⟩
  have hb0 : Below w.heap.size w w1 := (((Below.refl _ _).alloc (Nat.le_refl _) _).alloc (by simp) _).trans (hbw.mono (by simp; omega))
  have hown1 := hown.low (base' := w.heap.size) (by simp; omega)
  clear hown hbw
  go_wp2_with fail
  refine (sort_any v (a ++ b) w.heap.size w1 hown1 hb0.size (by omega)).mono ?_
  rintro e w2 ⟨rfl, hown2, _, hbw2⟩
  have hb2' := hb0.trans hbw2
  have hls : (sortL (a ++ b)).length ≤ 120 := by rw [sortL_len]; exact hlab
  go_wp2_with fail
  refine (compact_any v (sortL (a ++ b)) w.heap.size w2 hown2 hb2'.size (by omega)).mono ?_
  rintro e w3 ⟨v3, rfl, hown3, hbw3⟩
  have hb3' := hb2'.trans hbw3
  obtain ⟨A3, c3, rfl, _, _, _, _⟩ := hown3.slice_
  have hm0 := compactL_len (sortL (a ++ b))
  have HMV := hide (show compactL (sortL (a ++ b)) = mergeV a b from rfl)
  rw [unhide HMV] at hown3 hm0 ⊢
  have hml : (mergeV a b).length ≤ 120 := by omega
  by_cases h6 : 60 < (mergeV a b).length
  · have HE2 : Hid (mergeE a b = 4) := hide (by rw [unhide HE, if_pos h6])
    go_wp2_with fail
    go_ret2
    exact MergePost.fault (unhide HE2) (by decide) rfl hb3'
  · have HE2 : Hid (mergeE a b = 0) := hide (by rw [unhide HE, if_neg h6])
    have HR : Hid (mergeR a b = mergeV a b) := hide (by unfold mergeR; rw [if_pos (unhide HE2)])
    go_wp2_with fail
    go_ret2
    exact ⟨_, by rw [unhide HE2]; rfl, by rw [unhide HR]; exact hown3, hb3'⟩
end Go.Proofs.YtlicgpjcnkabiaaDoor
