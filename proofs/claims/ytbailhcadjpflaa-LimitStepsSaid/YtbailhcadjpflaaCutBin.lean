/- cut.Bin and cut.Merge: their contracts. Conditions: slices that read as lists. -/
import Derived.Test.YtbailhcadjpflaaMerge
namespace Go.Proofs.Ytbailhcadjpflaa
set_option linter.unusedVariables false
set_option linter.unusedSimpArgs false
open Go.RowKit

def binE (l : List Int) (x : Int) : Int := if cutE l = 0 then (if cellB x = true then 0 else 1) else cutE l
def binV (l : List Int) (x : Int) : Int := if binE l x = 0 then (binN l x : Int) else 0
theorem bin_any (A : Option Addr) (n c : Nat) (l : List Int) (x : Int) (w : World) (h : IReads w w.heap.size A n l) (hn : n ≤ maxLen) :
    Calls Try.prog 10 #[.slice A n c, .int .i64 x] w fun e w' => e = .returned (.tuple #[.int .i64 (binV l x), errV (binE l x)]) ∧ w = w' := by
  by_cases h0 : cutE l = 0
  · by_cases hx : cellB x = true
    · have HE : Hid (binE l x = 0) := hide (by unfold binE; rw [if_pos h0, if_pos hx])
      have HV : Hid (binV l x = binN l x) := hide (by unfold binV; rw [if_pos (unhide HE)])
      obtain ⟨hri, _, h60⟩ := cutE_rises h0
      rw [h.len] at h60
      have hv := errV_0 h0
      have HX := hide hx
      have HV0 := hide hv
      have hat := at_any A n c l x w w.heap.size h h60 hri
      clear h0 hx hv hri
      go_enter Try.func10, Try.ntmps10
      go_wp2_with fail
      refine (cutCheck_any A n c l _ _ h hn).mono ?_
      rintro e w1 ⟨rfl, rfl⟩
      rw [unhide HV0]
      go_wp2_with fail
      refine (cell_any _ _).mono ?_
      rintro e w1 ⟨rfl, rfl⟩
      rw [unhide HX]
      go_wp2_with fail
      refine hat.mono ?_
      clear hat
      rintro e w1 ⟨rfl, rfl⟩
      go_wp2_with fail
      go_ret2
      exact ⟨by rw [unhide HV, unhide HE]; rfl, rfl⟩
    · rw [Bool.not_eq_true] at hx
      have HE : Hid (binE l x = 1) := hide (by unfold binE; rw [if_pos h0, hx]; rfl)
      have HV : Hid (binV l x = 0) := hide (by unfold binV; rw [unhide HE]; rfl)
      have hv := errV_0 h0
      have HX := hide hx
      have HV0 := hide hv
      clear h0 hx hv
      go_enter Try.func10, Try.ntmps10
      go_wp2_with fail
      refine (cutCheck_any A n c l _ _ h hn).mono ?_
      rintro e w1 ⟨rfl, rfl⟩
      rw [unhide HV0]
      go_wp2_with fail
      refine (cell_any _ _).mono ?_
      rintro e w1 ⟨rfl, rfl⟩
      rw [unhide HX]
      go_wp2_with fail
      go_ret2
      exact ⟨by rw [unhide HV, unhide HE]; rfl, rfl⟩
  · have HE : Hid (binE l x = cutE l) := hide (by unfold binE; rw [if_neg h0])
    have HV : Hid (binV l x = 0) := hide (by unfold binV; rw [unhide HE, if_neg h0])
    have hv := errV_1 h0
    have HV0 := hide hv
    clear h0 hv
    go_enter Try.func10, Try.ntmps10
    go_wp2_with fail
    refine (cutCheck_any A n c l _ _ h hn).mono ?_
    rintro e w1 ⟨rfl, rfl⟩
    rw [unhide HV0]
    go_wp2_with fail
    go_ret2
    exact ⟨by rw [unhide HV, unhide HE, unhide HV0]; rfl, rfl⟩

def mergeE (a b : List Int) : Int := if cutE a = 0 then (if cutE b = 0 then (if 60 < (mergeV a b).length then 4 else 0) else cutE b) else cutE a
def mergeR (a b : List Int) : List Int := if mergeE a b = 0 then mergeV a b else []
def MergePost (a b : List Int) (w : World) (e : Ending) (w' : World) : Prop :=
  ∃ v, e = .returned (.tuple #[v, errV (mergeE a b)]) ∧ IOwn w' w.heap.size v (mergeR a b) ∧ Below w.heap.size w w'
theorem MergePost.fault {a b : List Int} {w w' : World} {k : Int} {ev : Value} (h : mergeE a b = k) (hk : k ≠ 0) (hv : ev = errV k) (hb : Below w.heap.size w w') : MergePost a b w (.returned (.tuple #[.slice none 0 0, ev])) w' :=
  ⟨_, by rw [h, hv], by unfold mergeR; rw [if_neg (by rw [h]; exact hk)]; exact IOwn.nil_ _ _, hb⟩

end Go.Proofs.Ytbailhcadjpflaa
