/- Chapter 4 in plain words: nodes, what is wrong with one, with a tree; how deep it is. Conditions: none. -/
import Derived.Test.YtopncifebldklaaRow2
namespace Go.Proofs.Ytopncifebldklaa
set_option linter.unusedVariables false
set_option linter.unusedSimpArgs false
open Go.RowKit

structure Nd where
  f : Int
  c : Int
  l : Int
  r : Int
  less : Bool
  v : Int
def Nd.cells (n : Nd) : List Value := [.int .i64 n.f, .int .i64 n.c, .int .i64 n.l, .int .i64 n.r, .bool n.less, .int .i64 n.v]
def NReads (w : World) (B : Nat) (A : Option Addr) (n : Nat) (t : List Nd) : Prop := Reads w B 6 A n (t.flatMap Nd.cells)
section
variable {w w' : World} {B B' n : Nat} {A : Option Addr} {t : List Nd}
theorem NReads.len (h : NReads w B A n t) : t.length = n := by
  have := h.1
  rw [flatMap_len Nd.cells 6 (fun _ => rfl)] at this
  omega
theorem NReads.get (h : NReads w B A n t) {k : Nat} (hk : k < n) :
    ∃ b off x, A = some ⟨b, off, none⟩ ∧ b < B ∧ t[k]? = some x ∧ w.cell? ⟨b, off + k * 6, none⟩ = some (.int .i64 x.f) ∧ w.cell? ⟨b, off + k * 6 + 1, none⟩ = some (.int .i64 x.c) ∧ w.cell? ⟨b, off + k * 6 + 2, none⟩ = some (.int .i64 x.l) ∧
      w.cell? ⟨b, off + k * 6 + 3, none⟩ = some (.int .i64 x.r) ∧ w.cell? ⟨b, off + k * 6 + 4, none⟩ = some (.bool x.less) ∧ w.cell? ⟨b, off + k * 6 + 5, none⟩ = some (.int .i64 x.v) := by
  obtain ⟨b, off, rfl, hb, hc⟩ := Reads.spot h (by omega) (by omega)
  have hl : k < t.length := by rw [h.len]; exact hk
  have hs : t[k]? = some t[k] := List.getElem?_eq_getElem hl
  have F := fun j hj => flatMap_at Nd.cells 6 (fun _ => rfl) t k j t[k] hs hj
  exact ⟨b, off, t[k], rfl, hb, hs, hc (k * 6 + 0) _ (F 0 (by omega)), hc (k * 6 + 1) _ (F 1 (by omega)), hc (k * 6 + 2) _ (F 2 (by omega)), hc (k * 6 + 3) _ (F 3 (by omega)), hc (k * 6 + 4) _ (F 4 (by omega)), hc (k * 6 + 5) _ (F 5 (by omega))⟩
theorem NReads.below (h : NReads w B A n t) (hb : Below B w w') : NReads w' B A n t := Reads.below h hb
theorem NReads.more (h : NReads w B A n t) (hB : B ≤ B') : NReads w B' A n t := Reads.more h hB
end

/-- what is wrong with one node -/
def nodeE (len i : Nat) (fe : Int) (n : Nd) : Int :=
  if n.f = -1 then
    if n.v < -1000000 then 1 else if 1000000 < n.v then 1 else if ¬ n.c = 0 then 3 else if ¬ n.l = 0 then 3 else if ¬ n.r = 0 then 3 else if n.less = true then 3 else 0
  else if n.f < 0 then 1 else if fe ≤ n.f then 1 else if n.c < -1000000 then 1 else if 1000000 < n.c then 1 else if n.l ≤ i then 1 else if len ≤ n.l then 1 else if n.r ≤ i then 1 else if len ≤ n.r then 1
  else if ¬ n.v = 0 then 3 else if n.l = n.r then 3 else 0

def badAt (len : Nat) (fe : Int) (i : Nat) : List Nd → Nat × Int
  | [] => (0, 0)
  | n :: r => if nodeE len i fe n = 0 then badAt len fe (i + 1) r else (i, nodeE len i fe n)
def kid (n : Nd) (j : Nat) : Nat := if n.f = -1 then 0 else (if n.l = j then 1 else 0) + (if n.r = j then 1 else 0)
def ups : List Nd → Nat → Nat
  | [], _ => 0
  | n :: r, j => kid n j + ups r j
def clashAt (t : List Nd) (i : Nat) : Nat → Nat × Int
  | 0 => (0, 0)
  | m + 1 => if 0 < i ∧ ups t i ≠ 1 then (i, 7) else clashAt t (i + 1) m
/-- how deep each node is, from the last one on -/
def deps (i : Nat) : List Nd → List Nat
  | [] => []
  | n :: r => (if n.f = -1 then 0 else 1 + max ((deps (i + 1) r).getD (n.l.toNat - (i + 1)) 0) ((deps (i + 1) r).getD (n.r.toNat - (i + 1)) 0)) :: deps (i + 1) r
def dep (t : List Nd) (j : Nat) : Nat := (deps 0 t).getD j 0
def treeC (t : List Nd) (fe : Int) : Nat × Int :=
  if 63 < t.length then (0, 4) else if t.length = 0 then (0, 5) else if fe < 0 then (0, 1) else if 8 < fe then (0, 1)
  else if (badAt t.length fe 0 t).2 = 0 then (if (clashAt t 0 t.length).2 = 0 then (if 10 < dep t 0 then (0, 4) else (0, 0)) else clashAt t 0 t.length) else badAt t.length fe 0 t
def treeE (t : List Nd) (fe : Int) : Int := (treeC t fe).2

/-- a tree that is right -/
structure Right (t : List Nd) (fe : Int) : Prop where
  pos : 0 < t.length
  most : t.length ≤ 63
  fe0 : 0 ≤ fe
  fe8 : fe ≤ 8
  node : ∀ (i : Nat) n, t[i]? = some n → nodeE t.length i fe n = 0
  one : ∀ i : Nat, 0 < i → i < t.length → ups t i = 1
  deep : dep t 0 ≤ 10

theorem badAt_none {len : Nat} {fe : Int} : ∀ (t : List Nd) (i : Nat), (badAt len fe i t).2 = 0 → ∀ (j : Nat) n, t[j]? = some n → nodeE len (i + j) fe n = 0 := by
  intro t
  induction t with
  | nil => intro i _ j n h; simp at h
  | cons x r ih =>
    intro i h j n hj
    rw [badAt] at h
    by_cases h0 : nodeE len i fe x = 0
    · rw [if_pos h0] at h
      cases j with
      | zero => simp at hj; subst hj; exact h0
      | succ j =>
        have := ih (i + 1) h j n (by simpa using hj)
        rwa [show i + 1 + j = i + (j + 1) by omega] at this
    · rw [if_neg h0] at h; exact absurd h h0
theorem badAt_mk {len : Nat} {fe : Int} : ∀ (t : List Nd) (i : Nat), (∀ (j : Nat) n, t[j]? = some n → nodeE len (i + j) fe n = 0) → badAt len fe i t = (0, 0) := by
  intro t
  induction t with
  | nil => intro i _; rfl
  | cons x r ih =>
    intro i h
    rw [badAt, if_pos (by have := h 0 x rfl; simpa using this)]
    exact ih (i + 1) fun j n hj => by have := h (j + 1) n (by simpa using hj); rwa [show i + (j + 1) = i + 1 + j by omega] at this
theorem clashAt_none {t : List Nd} : ∀ (m i : Nat), (clashAt t i m).2 = 0 → ∀ j, i ≤ j → j < i + m → 0 < j → ups t j = 1 := by
  intro m
  induction m with
  | zero => intro i _ j h1 h2; omega
  | succ m ih =>
    intro i h j h1 h2 h3
    rw [clashAt] at h
    by_cases h0 : 0 < i ∧ ups t i ≠ 1
    · rw [if_pos h0] at h; cases h
    · rw [if_neg h0] at h
      rcases Nat.eq_or_lt_of_le h1 with rfl | hlt
      · exact Decidable.byContradiction fun hne => h0 ⟨h3, hne⟩
      · exact ih (i + 1) h j hlt (by omega) h3
theorem right_of {t : List Nd} {fe : Int} (h : treeE t fe = 0) : Right t fe := by
  unfold treeE treeC at h
  by_cases h1 : 63 < t.length
  · rw [if_pos h1] at h; cases h
  rw [if_neg h1] at h
  by_cases h2 : t.length = 0
  · rw [if_pos h2] at h; cases h
  rw [if_neg h2] at h
  by_cases h3 : fe < 0
  · rw [if_pos h3] at h; cases h
  rw [if_neg h3] at h
  by_cases h4 : 8 < fe
  · rw [if_pos h4] at h; cases h
  rw [if_neg h4] at h
  by_cases h5 : (badAt t.length fe 0 t).2 = 0
  · rw [if_pos h5] at h
    by_cases h6 : (clashAt t 0 t.length).2 = 0
    · rw [if_pos h6] at h
      by_cases h7 : 10 < dep t 0
      · rw [if_pos h7] at h; cases h
      · refine ⟨by omega, by omega, by omega, by omega, ?_, ?_, by omega⟩
        · intro i n hi
          have := badAt_none t 0 h5 i n hi
          rwa [Nat.zero_add] at this
        · intro i hi hl
          exact clashAt_none t.length 0 h6 i (Nat.zero_le _) (by omega) hi
    · rw [if_neg h6] at h; exact absurd h h6
  · rw [if_neg h5] at h; exact absurd h h5

/-- what a right node is -/
theorem node_of {len i : Nat} {fe : Int} {n : Nd} (h : nodeE len i fe n = 0) :
    (n.f = -1 ∧ -1000000 ≤ n.v ∧ n.v ≤ 1000000 ∧ n.c = 0 ∧ n.l = 0 ∧ n.r = 0 ∧ n.less = false) ∨
    (0 ≤ n.f ∧ n.f < fe ∧ -1000000 ≤ n.c ∧ n.c ≤ 1000000 ∧ i < n.l ∧ n.l < len ∧ i < n.r ∧ n.r < len ∧ n.v = 0 ∧ n.l ≠ n.r) := by
  unfold nodeE at h
  by_cases h0 : n.f = -1
  · rw [if_pos h0] at h
    left
    repeat (split at h; · cases h)
    refine ⟨h0, by omega, by omega, by omega, by omega, by omega, ?_⟩
    cases hb : n.less <;> simp_all
  · rw [if_neg h0] at h
    right
    repeat (split at h; · cases h)
    exact ⟨by omega, by omega, by omega, by omega, by omega, by omega, by omega, by omega, by omega, by assumption⟩
end Go.Proofs.Ytopncifebldklaa
