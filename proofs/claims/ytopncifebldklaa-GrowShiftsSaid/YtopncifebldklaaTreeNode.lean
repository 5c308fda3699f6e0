/- tree.node: what is wrong with one node, way by way. Conditions: the tree reads as a list of nodes, the index is one of it. -/
import Derived.Test.YtopncifebldklaaTree
namespace Go.Proofs.Ytopncifebldklaa
set_option linter.unusedVariables false
set_option linter.unusedSimpArgs false
open Go.RowKit

theorem cell_alloc2 {w : World} {p : Addr} {v : Value} (hc : w.cell? p = some v) (hb : p.block < w.heap.size) : ∀ o o', ((w.alloc o).alloc o').cell? p = some v :=
  fun o o' => (World.cell?_alloc_lt _ o' p (by rw [World.size_alloc]; omega)).trans (cell_alloc hc hb o)

set_option maxRecDepth 100000 in
set_option maxHeartbeats 8000000 in
theorem node_any (A : Option Addr) (m d i : Nat) (fe : Int) (t : List Nd) (n : Nd) (w : World) (ht : NReads w w.heap.size A m t) (hm : m ≤ maxLen) (him : i < m) (hi : t[i]? = some n) :
    Calls Try.prog 58 #[.slice A m d, .int .i64 i, .int .i64 fe] w fun e w' => e = .returned (errV (nodeE m i fe n)) ∧ Below w.heap.size w w' := by
  obtain ⟨b, o, x, rfl, hb, hx, h0, h1, h2, h3, h4, h5⟩ := ht.get him
  rw [hi] at hx
  injection hx with hx
  subst hx
  obtain ⟨f, c, l, r, less, v⟩ := n
  have g0 := cell_alloc2 h0 hb
  have g1 := cell_alloc2 h1 hb
  have g2 := cell_alloc2 h2 hb
  have g3 := cell_alloc2 h3 hb
  have g4 := cell_alloc2 h4 hb
  have g5 := cell_alloc2 h5 hb
  simp only at g0 g1 g2 g3 g4 g5
  clear h0 h1 h2 h3 h4 h5 hi ht
  unfold maxLen at hm
  by_cases hf : f = -1
  · subst hf
    by_cases hc : cellB v = true
    · have kv := cellB_t.1 hc
      have HC := hide hc
      have z0 : ¬ v < -1000000 := by omega
      have z1 : ¬ 1000000 < v := by omega
      clear hc
      by_cases q1 : c = 0
      case neg =>
        have HE : Hid (nodeE m i fe ⟨-1, c, l, r, less, v⟩ = 3) := hide (by simp [nodeE, z0, z1, q1])
        go_enter Try.func58, Try.ntmps58
        go_wp2_with (first | (go_at_call 56; refine (cell_any _ _).mono ?_; rintro e w' ⟨rfl, rfl⟩; rw [HC.out]) | go_in)
        go_ret
        exact ⟨by rw [unhide HE]; rfl, by go_grown⟩
      subst q1
      by_cases q2 : l = 0
      case neg =>
        have HE : Hid (nodeE m i fe ⟨-1, 0, l, r, less, v⟩ = 3) := hide (by simp [nodeE, z0, z1, q2])
        go_enter Try.func58, Try.ntmps58
        go_wp2_with (first | (go_at_call 56; refine (cell_any _ _).mono ?_; rintro e w' ⟨rfl, rfl⟩; rw [HC.out]) | go_in)
        go_ret
        exact ⟨by rw [unhide HE]; rfl, by go_grown⟩
      subst q2
      by_cases q3 : r = 0
      case neg =>
        have HE : Hid (nodeE m i fe ⟨-1, 0, 0, r, less, v⟩ = 3) := hide (by simp [nodeE, z0, z1, q3])
        go_enter Try.func58, Try.ntmps58
        go_wp2_with (first | (go_at_call 56; refine (cell_any _ _).mono ?_; rintro e w' ⟨rfl, rfl⟩; rw [HC.out]) | go_in)
        go_ret
        exact ⟨by rw [unhide HE]; rfl, by go_grown⟩
      subst q3
      cases less
      · have HE : Hid (nodeE m i fe ⟨-1, 0, 0, 0, false, v⟩ = 0) := hide (by simp [nodeE, z0, z1])
        go_enter Try.func58, Try.ntmps58
        go_wp2_with (first | (go_at_call 56; refine (cell_any _ _).mono ?_; rintro e w' ⟨rfl, rfl⟩; rw [HC.out]) | go_in)
        go_ret
        exact ⟨by rw [unhide HE]; rfl, by go_grown⟩
      · have HE : Hid (nodeE m i fe ⟨-1, 0, 0, 0, true, v⟩ = 3) := hide (by simp [nodeE, z0, z1])
        go_enter Try.func58, Try.ntmps58
        go_wp2_with (first | (go_at_call 56; refine (cell_any _ _).mono ?_; rintro e w' ⟨rfl, rfl⟩; rw [HC.out]) | go_in)
        go_ret
        exact ⟨by rw [unhide HE]; rfl, by go_grown⟩
    · have hf : cellB v = false := by simpa using hc
      have kv := cellB_f.1 hf
      have HC := hide hf
      clear hc hf
      have HE : Hid (nodeE m i fe ⟨-1, c, l, r, less, v⟩ = 1) := hide (by rcases kv with kv | kv <;> simp [nodeE, kv])
      go_enter Try.func58, Try.ntmps58
      go_wp2_with (first | (go_at_call 56; refine (cell_any _ _).mono ?_; rintro e w' ⟨rfl, rfl⟩; rw [HC.out]) | go_in)
      go_ret
      exact ⟨by rw [unhide HE]; rfl, by go_grown⟩
  · by_cases k0 : f < 0
    · have HE : Hid (nodeE m i fe ⟨f, c, l, r, less, v⟩ = 1) := hide (by simp [nodeE, hf, k0])
      go_enter Try.func58, Try.ntmps58
      go_wp2_with (first | (go_at_call 56; refine (cell_any _ _).mono ?_; rintro e w' ⟨rfl, rfl⟩; rw [HC.out]) | go_in)
      go_ret
      exact ⟨by rw [unhide HE]; rfl, by go_grown⟩
    by_cases k1 : fe ≤ f
    · have HE : Hid (nodeE m i fe ⟨f, c, l, r, less, v⟩ = 1) := hide (by simp [nodeE, hf, k0, k1])
      go_enter Try.func58, Try.ntmps58
      go_wp2_with (first | (go_at_call 56; refine (cell_any _ _).mono ?_; rintro e w' ⟨rfl, rfl⟩; rw [HC.out]) | go_in)
      go_ret
      exact ⟨by rw [unhide HE]; rfl, by go_grown⟩
    by_cases hc : cellB c = true
    case neg =>
      have hb2 : cellB c = false := by simpa using hc
      have kv := cellB_f.1 hb2
      have HC := hide hb2
      clear hc hb2
      have HE : Hid (nodeE m i fe ⟨f, c, l, r, less, v⟩ = 1) := hide (by rcases kv with kv | kv <;> simp [nodeE, hf, k0, k1, kv])
      go_enter Try.func58, Try.ntmps58
      go_wp2_with (first | (go_at_call 56; refine (cell_any _ _).mono ?_; rintro e w' ⟨rfl, rfl⟩; rw [HC.out]) | go_in)
      go_ret
      exact ⟨by rw [unhide HE]; rfl, by go_grown⟩
    have kv := cellB_t.1 hc
    have HC := hide hc
    have z0 : ¬ c < -1000000 := by omega
    have z1 : ¬ 1000000 < c := by omega
    clear hc
    by_cases k2 : l ≤ (i : Int)
    · have HE : Hid (nodeE m i fe ⟨f, c, l, r, less, v⟩ = 1) := hide (by simp [nodeE, hf, k0, k1, z0, z1, k2])
      go_enter Try.func58, Try.ntmps58
      go_wp2_with (first | (go_at_call 56; refine (cell_any _ _).mono ?_; rintro e w' ⟨rfl, rfl⟩; rw [HC.out]) | go_in)
      go_ret
      exact ⟨by rw [unhide HE]; rfl, by go_grown⟩
    by_cases k3 : (m : Int) ≤ l
    · have HE : Hid (nodeE m i fe ⟨f, c, l, r, less, v⟩ = 1) := hide (by simp [nodeE, hf, k0, k1, z0, z1, k2, k3])
      go_enter Try.func58, Try.ntmps58
      go_wp2_with (first | (go_at_call 56; refine (cell_any _ _).mono ?_; rintro e w' ⟨rfl, rfl⟩; rw [HC.out]) | go_in)
      go_ret
      exact ⟨by rw [unhide HE]; rfl, by go_grown⟩
    by_cases k4 : r ≤ (i : Int)
    · have HE : Hid (nodeE m i fe ⟨f, c, l, r, less, v⟩ = 1) := hide (by simp [nodeE, hf, k0, k1, z0, z1, k2, k3, k4])
      go_enter Try.func58, Try.ntmps58
      go_wp2_with (first | (go_at_call 56; refine (cell_any _ _).mono ?_; rintro e w' ⟨rfl, rfl⟩; rw [HC.out]) | go_in)
      go_ret
      exact ⟨by rw [unhide HE]; rfl, by go_grown⟩
    by_cases k5 : (m : Int) ≤ r
    · have q5 : decide (r < (m : Int)) = false := by simp; omega
      have HE : Hid (nodeE m i fe ⟨f, c, l, r, less, v⟩ = 1) := hide (by simp [nodeE, hf, k0, k1, z0, z1, k2, k3, k4, k5])
      go_enter Try.func58, Try.ntmps58
      go_wp2_with (first | (go_at_call 56; refine (cell_any _ _).mono ?_; rintro e w' ⟨rfl, rfl⟩; rw [HC.out]) | go_in)
      go_ret
      exact ⟨by rw [unhide HE]; rfl, by go_grown⟩
    by_cases k6 : v = 0
    case neg =>
      have q6 : (v != 0) = true := by simpa using k6
      have HE : Hid (nodeE m i fe ⟨f, c, l, r, less, v⟩ = 3) := hide (by simp [nodeE, hf, k0, k1, z0, z1, k2, k3, k4, k5, k6])
      go_enter Try.func58, Try.ntmps58
      go_wp2_with (first | (go_at_call 56; refine (cell_any _ _).mono ?_; rintro e w' ⟨rfl, rfl⟩; rw [HC.out]) | go_in)
      go_ret
      exact ⟨by rw [unhide HE]; rfl, by go_grown⟩
    subst k6
    by_cases k7 : l = r
    · subst k7
      have HE : Hid (nodeE m i fe ⟨f, c, l, l, less, 0⟩ = 3) := hide (by simp [nodeE, hf, k0, k1, z0, z1, k2, k3, k4, k5])
      go_enter Try.func58, Try.ntmps58
      go_wp2_with (first | (go_at_call 56; refine (cell_any _ _).mono ?_; rintro e w' ⟨rfl, rfl⟩; rw [HC.out]) | go_in)
      go_ret
      exact ⟨by rw [unhide HE]; rfl, by go_grown⟩
    have q7 : (l == r) = false := by simpa using k7
    have HE : Hid (nodeE m i fe ⟨f, c, l, r, less, 0⟩ = 0) := hide (by simp [nodeE, hf, k0, k1, z0, z1, k2, k3, k4, k5, k7])
    go_enter Try.func58, Try.ntmps58
    go_wp2_with (first | (go_at_call 56; refine (cell_any _ _).mono ?_; rintro e w' ⟨rfl, rfl⟩; rw [HC.out]) | go_in)
    go_ret
    exact ⟨by rw [unhide HE]; rfl, by go_grown⟩
end Go.Proofs.Ytopncifebldklaa
