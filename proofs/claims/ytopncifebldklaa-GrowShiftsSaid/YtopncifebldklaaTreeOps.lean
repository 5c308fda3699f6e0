/- tree.Next, Walk, Ready, Leaf, Eval, Depth, Leaves. Conditions: arguments read as lists. -/
import Derived.Test.YtopncifebldklaaTreeCheck
import Derived.StillTailTactics
import Derived.Deep.RegionHeld3
namespace Go.Proofs.Ytopncifebldklaa
set_option linter.unusedVariables false
set_option linter.unusedSimpArgs false
open Go.RowKit

def goes (n : Nd) (c : Int) : Bool := if c = -1125899906842624 then n.less else decide (c < n.c)
def nextOf (n : Nd) (c : Int) : Int := if goes n c = true then n.l else n.r

theorem next_any (f c l r : Int) (less : Bool) (v x : Int) (w : World) :
    Calls Try.prog 61 #[.agg #[.int .i64 f, .int .i64 c, .int .i64 l, .int .i64 r, .bool less, .int .i64 v], .int .i64 x] w fun e w' => e = .returned (.int .i64 (nextOf ⟨f, c, l, r, less, v⟩ x)) ∧ Below w.heap.size w w' := by
  by_cases h0 : x = -1125899906842624
  · subst h0
    cases less
    · have HE : Hid (nextOf ⟨f, c, l, r, false, v⟩ (-1125899906842624) = r) := hide (by simp [nextOf, goes])
      go_enter Try.func61, Try.ntmps61
      go_wp2
      go_ret
      exact ⟨by rw [unhide HE]; rfl, by go_grown⟩
    · have HE : Hid (nextOf ⟨f, c, l, r, true, v⟩ (-1125899906842624) = l) := hide (by simp [nextOf, goes])
      go_enter Try.func61, Try.ntmps61
      go_wp2
      go_ret
      exact ⟨by rw [unhide HE]; rfl, by go_grown⟩
  · have q0 : (x == -1125899906842624) = false := by simpa using h0
    have q1 : (x != -1125899906842624) = true := by simpa using h0
    by_cases h1 : x < c
    · have HE : Hid (nextOf ⟨f, c, l, r, less, v⟩ x = l) := hide (by simp [nextOf, goes, h0, h1])
      go_enter Try.func61, Try.ntmps61
      go_wp2
      go_ret
      exact ⟨by rw [unhide HE]; rfl, by go_grown⟩
    · have HE : Hid (nextOf ⟨f, c, l, r, less, v⟩ x = r) := hide (by simp [nextOf, goes, h0, h1])
      go_enter Try.func61, Try.ntmps61
      go_wp2
      go_ret
      exact ⟨by rw [unhide HE]; rfl, by go_grown⟩

def cellAt (row : List Int) (f : Int) : Int := row.getD f.toNat 0
/-- the leaf to which a row comes from a node -/
def leafFrom (t : List Nd) (row : List Int) : Nat → Nat → Nat
  | 0, i => i
  | k + 1, i => match t[i]? with
    | some n => if n.f = -1 then i else leafFrom t row k (nextOf n (cellAt row n.f)).toNat
    | none => i
theorem leafFrom_leaf {t : List Nd} {row : List Int} {k i : Nat} {n : Nd} (h : t[i]? = some n) (hf : n.f = -1) : leafFrom t row k i = i := by
  cases k with
  | zero => rfl
  | succ k => simp only [leafFrom, h, hf, if_true]
theorem leafFrom_step {t : List Nd} {row : List Int} {k i : Nat} {n : Nd} (h : t[i]? = some n) (hf : n.f ≠ -1) : leafFrom t row (k + 1) i = leafFrom t row k (nextOf n (cellAt row n.f)).toNat := by
  simp only [leafFrom, h, hf, if_false]
def leafOf (t : List Nd) (row : List Int) : Nat := leafFrom t row t.length 0

/-- what tree.Walk asks: the questions ask for cells that are there -/
def Asks (t : List Nd) (k : Nat) : Prop := ∀ (i : Nat) n, t[i]? = some n → n.f ≠ -1 → 0 ≤ n.f ∧ n.f < k
theorem Right.asks {t : List Nd} {k : Nat} (h : Right t k) : Asks t k := by
  intro i n hi hf
  rcases node_of (h.node i n hi) with h1 | h1
  · exact absurd h1.1 hf
  · exact ⟨h1.1, h1.2.1⟩
theorem nextOf_lt {t : List Nd} {i : Nat} {n : Nd} {c : Int} (hb : Behind t) (h : t[i]? = some n) (hf : n.f ≠ -1) : ∃ j : Nat, nextOf n c = j ∧ i < j ∧ j < t.length := by
  obtain ⟨a1, a2, a3, a4⟩ := hb i n h hf
  unfold nextOf
  split
  · exact ⟨n.l.toNat, by omega, by omega, by omega⟩
  · exact ⟨n.r.toNat, by omega, by omega, by omega⟩

set_option maxRecDepth 100000 in
set_option maxHeartbeats 2000000 in
theorem walk_any (A C : Option Addr) (m d k q : Nat) (t : List Nd) (row : List Int) (w : World) (ht : NReads w w.heap.size A m t) (hr : IReads w w.heap.size C k row) (h0 : 0 < m) (hm : m ≤ 63) (hk : k ≤ 8) (hb : Behind t) (ha : Asks t k) :
    Calls Try.prog 43 #[.slice A m d, .slice C k q] w fun e w' => e = .returned (.int .i64 (leafOf t row)) ∧ Below w.heap.size w w' := by
  have hlen := ht.len
  have HO : Hid (leafOf t row = leafFrom t row m 0) := hide (by unfold leafOf; rw [hlen])
  have HB := hide hb
  have HA := hide ha
  have HL := hide hlen
  clear hb ha hlen
  go_enter Try.func43, Try.ntmps43
  go_wp2_with fail
  go_loopw [5] (fun i wr => ∃ j F : Nat, j < m ∧ i = .int .i64 j ∧ m ≤ j + F ∧ Hid (leafFrom t row F j = leafFrom t row m 0) ∧ Below w.heap.size w wr) (fun i _ => m - (intOf i).toNat)
  case atStart => exact ⟨0, m, h0, rfl, by omega, hide rfl, Below.refl _ _⟩
  case round =>
    obtain ⟨j, F, hj, rfl, hF, HF, hbel⟩ := hrel
    have hsz := hbel.size
    obtain ⟨b, o, n, rfl, hbb, hn, g0, g1, g2, g3, g4, g5⟩ := (ht.below hbel).get hj
    by_cases hf : n.f = -1
    · have HZ : Hid (leafOf t row = j) := hide (by rw [unhide HO, ← unhide HF, leafFrom_leaf hn hf])
      rw [hf] at g0
      clear hn
      go_wp2_with fail
      go_ret
      exact ⟨by rw [unhide HZ]; rfl, hbel⟩
    · have hnf : (n.f != -1) = true := by simpa using hf
      obtain ⟨a1, a2⟩ := (unhide HA) j n hn hf
      obtain ⟨fn, hfn⟩ : ∃ fn : Nat, n.f = fn := ⟨n.f.toNat, by omega⟩
      have hfk : fn < k := by omega
      obtain ⟨b2, o2, x, rfl, hbb2, hx, cx⟩ := (hr.below hbel).get hfk
      have hcx : cellAt row n.f = x := by unfold cellAt; rw [hfn, Int.toNat_natCast, List.getD_eq_getElem?_getD, hx]; rfl
      obtain ⟨j2, hj2, hlt, hjm⟩ := nextOf_lt (c := x) (unhide HB) hn hf
      rw [unhide HL] at hjm
      obtain ⟨F2, rfl⟩ : ∃ F2, F = F2 + 1 := ⟨F - 1, by omega⟩
      have HF2 : Hid (leafFrom t row F2 j2 = leafFrom t row m 0) := hide (by
        have := unhide HF
        rw [leafFrom_step hn hf, hcx, hj2, Int.toNat_natCast] at this
        exact this)
      have HJ := hide hj2
      obtain ⟨nf, nc, nl, nr, nless, nv⟩ := n
      simp only at hfn g0 g1 g2 g3 g4 g5 hnf
      subst hfn
      clear hn hx hcx hj2 hf a1 a2
      go_wp2_with fail
      go_still_tail 12, (by kernel_rfl)
      go_wp2_with fail
      refine (next_any (fn : Int) nc nl nr nless nv x _).mono ?_
      rintro e w1 ⟨rfl, hb1⟩
      rw [unhide HJ]
      go_wp2_with fail
      go_roundw
      case rel => exact ⟨j2, F2, by omega, rfl, by omega, HF2, (hbel.drew).trans (hb1.mono hsz)⟩
      case measure => simp [intOf] <;> omega

/-! ### Ready, Leaf, Eval, Depth -/
def readyE (t : List Nd) (row : List Int) : Int := if rowE row = 0 then treeE t row.length else rowE row
theorem readyE_right {t : List Nd} {row : List Int} (h : readyE t row = 0) : rowE row = 0 ∧ Right t row.length ∧ row.length ≤ 8 := by
  unfold readyE at h
  by_cases h0 : rowE row = 0
  · rw [if_pos h0] at h
    have hr := right_of h
    exact ⟨h0, hr, by have := hr.fe8; omega⟩
  · rw [if_neg h0] at h; exact absurd h h0

def leafV (t : List Nd) (row : List Int) : Int := if readyE t row = 0 then (leafOf t row : Int) else 0
theorem leafFrom_lt {t : List Nd} {row : List Int} (hb : Behind t) : ∀ (k i : Nat), i < t.length → leafFrom t row k i < t.length := by
  intro k
  induction k with
  | zero => intro i hi; exact hi
  | succ k ih =>
    intro i hi
    have hn : t[i]? = some t[i] := List.getElem?_eq_getElem hi
    by_cases hf : (t[i]).f = -1
    · rw [leafFrom_leaf hn hf]; exact hi
    · rw [leafFrom_step hn hf]
      obtain ⟨j, hj, _, hjl⟩ := nextOf_lt (c := cellAt row (t[i]).f) hb hn hf
      rw [hj, Int.toNat_natCast]
      exact ih j hjl
def valAt (t : List Nd) (i : Nat) : Int := match t[i]? with | some n => n.v | none => 0
def evalV (t : List Nd) (row : List Int) : Int := if readyE t row = 0 then valAt t (leafOf t row) else 0
def depthV (t : List Nd) : Int := if treeE t 8 = 0 then (dep t 0 : Int) else 0
/-! ### Leaves -/
/-- the places of the leaves, from place i on -/
def leavesFrom (i : Nat) : List Nd → List Int
  | [] => []
  | n :: r => if n.f = -1 then (i : Int) :: leavesFrom (i + 1) r else leavesFrom (i + 1) r
def leavesV (t : List Nd) : List Int := if treeE t 8 = 0 then leavesFrom 0 t else []
theorem leavesFrom_len (t : List Nd) : ∀ i, (leavesFrom i t).length ≤ t.length := by
  induction t with
  | nil => intro i; simp [leavesFrom]
  | cons n r ih => intro i; rw [leavesFrom]; have := ih (i + 1); split <;> simp <;> omega
theorem leaves_hit {t : List Nd} {k : Nat} {n : Nd} (h : t[k]? = some n) (hf : n.f = -1) : leavesFrom k (t.drop k) = (k : Int) :: leavesFrom (k + 1) (t.drop (k + 1)) := by
  rw [drop_at h, leavesFrom, if_pos hf]
theorem leaves_miss {t : List Nd} {k : Nat} {n : Nd} (h : t[k]? = some n) (hf : n.f ≠ -1) : leavesFrom k (t.drop k) = leavesFrom (k + 1) (t.drop (k + 1)) := by
  rw [drop_at h, leavesFrom, if_neg hf]
def LeavesPost (t : List Nd) (w : World) (e : Ending) (w' : World) : Prop :=
  ∃ v, e = .returned (.tuple #[v, errV (treeE t 8)]) ∧ w'.ownsRow w.heap.size 3 1 v (leavesV t).length ((leavesV t).map (Value.int .i64)) ∧ Below w.heap.size w w'

end Go.Proofs.Ytopncifebldklaa
