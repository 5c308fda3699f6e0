/- Part 15 of what LawGrowTells needs: TreeHalves, Steps, RefValue. Conditions: as each lemma names. -/
import Derived.Test.YtdpijhnbhopnbaaDoorPkGrowTells14
import Derived.Test.YtdpijhnbhopnbaaDoorPkGrowTells08
/- TreeHalves: the walk of the law's function. Conditions: arguments read as lists. -/
namespace Go.Proofs.YtdpijhnbhopnbaaDoor
set_option linter.unusedVariables false
set_option linter.unusedSimpArgs false
open Go.RowKit

/-! ### plain -/
theorem leaves_mem {t : List Nd} : ∀ (i k : Nat) (n : Nd), t[k]? = some n → n.f = -1 → ((i + k : Nat) : Int) ∈ leavesFrom i t := by
  induction t with
  | nil => intro i k n h; simp at h
  | cons x r ih =>
    intro i k n h hf
    rw [leavesFrom]
    cases k with
    | zero =>
      simp at h; subst h
      rw [if_pos hf]; simp
    | succ k =>
      have := ih (i + 1) k n (by simpa using h) hf
      rw [show i + 1 + k = i + (k + 1) by omega] at this
      split
      · exact List.mem_cons_of_mem _ this
      · exact this
theorem leafFrom_is {t : List Nd} {row : List Int} (hb : Behind t) : ∀ (F i : Nat), i < t.length → t.length ≤ i + F → ∃ n, t[leafFrom t row F i]? = some n ∧ n.f = -1 := by
  intro F
  induction F with
  | zero => intro i h1 h2; omega
  | succ F ih =>
    intro i h1 h2
    have hn : t[i]? = some t[i] := List.getElem?_eq_getElem h1
    by_cases hf : (t[i]).f = -1
    · rw [leafFrom_leaf hn hf]; exact ⟨_, hn, hf⟩
    · rw [leafFrom_step hn hf]
      obtain ⟨j, hj, hlt, hjl⟩ := nextOf_lt (c := cellAt row (t[i]).f) hb hn hf
      rw [hj, Int.toNat_natCast]
      exact ih j hjl (by omega)
theorem leafOf_is {t : List Nd} {row : List Int} (hb : Behind t) (h0 : 0 < t.length) : ∃ n, t[leafOf t row]? = some n ∧ n.f = -1 := leafFrom_is hb t.length 0 h0 (by omega)
theorem leafFrom_same {t : List Nd} {r s : List Int} (h : ∀ (i : Nat) n, t[i]? = some n → n.f ≠ -1 → cellAt r n.f = cellAt s n.f) : ∀ (F i : Nat), leafFrom t r F i = leafFrom t s F i := by
  intro F
  induction F with
  | zero => intro i; rfl
  | succ F ih =>
    intro i
    cases hn : t[i]? with
    | none => simp only [leafFrom, hn]
    | some n =>
      by_cases hf : n.f = -1
      · rw [leafFrom_leaf hn hf, leafFrom_leaf hn hf]
      · rw [leafFrom_step hn hf, leafFrom_step hn hf, h i n hn hf, ih]
theorem cellAt_set {r : List Int} {f : Nat} {g c : Int} (hg : 0 ≤ g) (h : g ≠ f) : cellAt (r.set f c) g = cellAt r g := by
  unfold cellAt
  rw [List.getD_eq_getElem?_getD, List.getD_eq_getElem?_getD, List.getElem?_set_ne (by omega)]
theorem rowE_set {r : List Int} {f : Nat} {c : Int} (h : rowE r = 0) (hc : -1000000 ≤ c ∧ c ≤ 1000000) : rowE (r.set f c) = 0 := by
  unfold rowE at h ⊢
  split at h
  · cases h
  · rename_i h8
    split at h
    · rename_i ha
      rw [if_neg (by simpa using h8), if_pos]
      rw [List.all_eq_true] at ha ⊢
      intro x hx
      rcases List.mem_or_eq_of_mem_set hx with hx | rfl
      · exact ha x hx
      · exact rowGood_cell hc.1 hc.2
    · cases h
theorem readyE_set {t : List Nd} {r : List Int} {f : Nat} {c : Int} (h : readyE t r = 0) (hc : -1000000 ≤ c ∧ c ≤ 1000000) : readyE t (r.set f c) = 0 := by
  unfold readyE at h ⊢
  split at h
  · rename_i h1
    rw [if_pos (rowE_set h1 hc), List.length_set]; exact h
  · rename_i h1; exact absurd h h1
theorem leafV_set {t : List Nd} {r : List Int} {f : Nat} {c : Int} (h : readyE t r = 0) (hc : -1000000 ≤ c ∧ c ≤ 1000000) (hf : ∀ (i : Nat) n, t[i]? = some n → n.f ≠ f) : leafV t (r.set f c) = leafV t r := by
  have h2 := readyE_set (f := f) h hc
  obtain ⟨_, hR, _⟩ := readyE_right h
  unfold leafV leafOf
  rw [if_pos h, if_pos h2, leafFrom_same (r := r.set f c) (s := r)]
  intro i n hn hf2
  exact cellAt_set (hR.asks i n hn hf2).1 (hf i n hn)

theorem tree3_eval4 : evalV [⟨0, 5, 1, 2, false, 0⟩, ⟨-1, 0, 0, 0, false, 7⟩, ⟨-1, 0, 0, 0, false, 9⟩] [4] = 7 ∧ readyE [⟨0, 5, 1, 2, false, 0⟩, ⟨-1, 0, 0, 0, false, 7⟩, ⟨-1, 0, 0, 0, false, 9⟩] [4] = 0 := by decide
theorem tree3_eval5 : evalV [⟨0, 5, 1, 2, false, 0⟩, ⟨-1, 0, 0, 0, false, 7⟩, ⟨-1, 0, 0, 0, false, 9⟩] [5] = 9 ∧ readyE [⟨0, 5, 1, 2, false, 0⟩, ⟨-1, 0, 0, 0, false, 7⟩, ⟨-1, 0, 0, 0, false, 9⟩] [5] = 0 := by decide

end Go.Proofs.YtdpijhnbhopnbaaDoor
/- limit.Steps. Conditions: as each lemma names. -/
namespace Go.Proofs.YtdpijhnbhopnbaaDoor
set_option linter.unusedVariables false
set_option linter.unusedSimpArgs false
open Go.RowKit

def cutsOf (t : List Nd) (fe : Int) : List Int := (t.filter fun n => n.f == fe).map Nd.c
def stepC (t : List Nd) (fe : Int) : List Int := compactL (sortL (cutsOf t fe))
def valOf (t : List Nd) (r : List Int) : Int := valAt t (leafOf t r)
def stepV (t : List Nd) (row : List Int) (f : Nat) (cs : List Int) : List Int := valOf t (row.set f (-1000001)) :: cs.map fun c => valOf t (row.set f c)
def stepsE (t : List Nd) (row : List Int) (fe : Int) : Int := if readyE t row = 0 then (if fe < 0 then 1 else if (row.length : Int) ≤ fe then 1 else 0) else readyE t row
theorem cutsOf_len (t : List Nd) (fe : Int) : (cutsOf t fe).length ≤ t.length := by unfold cutsOf; rw [List.length_map]; exact List.length_filter_le _ _
theorem cuts_hit {t : List Nd} {fe : Int} {k : Nat} {n : Nd} (h : t[k]? = some n) (hf : n.f = fe) : cutsOf (t.take (k + 1)) fe = cutsOf (t.take k) fe ++ [n.c] := by
  unfold cutsOf; rw [take_next h, List.filter_append, List.map_append]; simp [hf]
theorem cuts_miss {t : List Nd} {fe : Int} {k : Nat} {n : Nd} (h : t[k]? = some n) (hf : n.f ≠ fe) : cutsOf (t.take (k + 1)) fe = cutsOf (t.take k) fe := by
  unfold cutsOf; rw [take_next h, List.filter_append, List.map_append]; simp [hf]
/-- a row of ints of which one cell is written -/
theorem IReads.stored {w : World} {B n g o k : Nat} {l : List Int} (h : IReads w B (some ⟨g, o, none⟩) n l) (hk : k < n) (x : Int) : IReads (w.setCell ⟨g, o + k, none⟩ (.int .i64 x)) B (some ⟨g, o, none⟩) n (l.set k x) := by
  have hl := h.len
  obtain ⟨_, _, e, hb, hc⟩ := Reads.spot h (by omega) (by omega)
  cases e
  refine ⟨by simp [hl], fun _ => ⟨_, rfl, hb, fun j u hu => ?_⟩⟩
  have hj : j < n := by
    have := (List.getElem?_eq_some_iff.1 hu).1
    simpa [hl] using this
  have hadd : (⟨g, o, none⟩ : Addr).add j = ⟨g, o + j, none⟩ := by
    unfold Addr.add
    split
    · rename_i e; rw [e]; rfl
    · rfl
  rw [hadd]
  rw [List.getElem?_map, List.getElem?_set] at hu
  by_cases he : k = j
  · subst he
    rw [if_pos rfl, if_pos (by omega)] at hu
    have : Value.int .i64 x = u := by simpa using hu
    subst this
    obtain ⟨b, o', y, e2, _, _, hcy⟩ := h.get hk
    cases e2
    exact World.cell?_setCell_same' _ _ _ (by rw [hcy]; rfl)
  · rw [if_neg he] at hu
    rw [World.cell?_setCell_other _ _ _ _ (by intro e; injection e; omega)]
    exact hc j u (by rw [List.getElem?_map]; exact hu)

def StepsPost (t : List Nd) (row : List Int) (fe : Int) (w : World) (e : Ending) (w' : World) : Prop :=
  ∃ A1 n1 c1 A2 n2 c2 C V, e = .returned (.tuple #[.slice A1 n1 c1, .slice A2 n2 c2, errV (stepsE t row fe)]) ∧ IReads w' w'.heap.size A1 n1 C ∧ IReads w' w'.heap.size A2 n2 V ∧
    (stepsE t row fe = 0 → C = stepC t fe ∧ V = stepV t row fe.toNat (stepC t fe)) ∧ (stepsE t row fe ≠ 0 → n1 = 0 ∧ n2 = 0) ∧ Below w.heap.size w w'
theorem StepsPost.fault {t : List Nd} {row : List Int} {fe : Int} {w w' : World} (h : stepsE t row fe ≠ 0) (hb : Below w.heap.size w w') : StepsPost t row fe w (.returned (.tuple #[.slice none 0 0, .slice none 0 0, errV (stepsE t row fe)])) w' :=
  ⟨none, 0, 0, none, 0, 0, [], [], rfl, IReads.nil_, IReads.nil_, fun h' => absurd h' h, fun _ => ⟨rfl, rfl⟩, hb⟩

end Go.Proofs.YtdpijhnbhopnbaaDoor
/- The reference's Value of a row: what the leaf says to which it comes. Conditions: the tree is right, the row has as many cells as it has features. -/
namespace Go.Proofs.YtdpijhnbhopnbaaDoor
set_option linter.unusedVariables false
set_option linter.unusedSimpArgs false
open Go.RowKit

set_option maxRecDepth 100000 in
set_option maxHeartbeats 1000000 in
theorem rvalue_any (A C : Option Addr) (m d k q : Nat) (t : List Nd) (row : List Int) (w : World) (ht : NReads w w.heap.size A m t) (hr : IReads w w.heap.size C k row) (hR : Right t k) :
    Calls Tryd.prog 26 #[.slice A m d, .slice C k q] w fun e w' => e = .returned (.int .i64 (valOf t row)) ∧ Below w.heap.size w w' := by
  have hlen := ht.len
  have hm63 : m ≤ 63 := by have := hR.most; omega
  have hm0 : 0 < m := by have := hR.pos; omega
  have hk8 : k ≤ 8 := by have := hR.fe8; omega
  have hlf : leafOf t row < m := by
    have := leafFrom_lt hR.behind (row := row) t.length 0 (by rw [hlen]; exact hm0)
    rw [hlen] at this; unfold leafOf; rw [hlen]; exact this
  have hvo : valOf t row = valAt t (leafOf t row) := rfl
  have HC := hide (rleaf_any A C m d k q t row w ht hr hm0 hm63 hk8 hR.behind hR.asks)
  clear hR hlen
  go_enter Tryd.func26, Tryd.ntmps26
  go_wp2_with fail
  refine (unhide HC).mono ?_
  rintro e w1 ⟨v, rfl, ho, hb1⟩
  obtain ⟨b, o, x, rfl, hbb, hx, g0, g1, g2, g3, g4, g5⟩ := (ht.below hb1).get hlf
  rw [valAt_of hx] at hvo
  obtain ⟨lf, hlfe⟩ : ∃ lf, lf = leafOf t row := ⟨_, rfl⟩
  rw [← hlfe] at g5 hlf ⊢
  have HV := hide hvo
  clear HC hx g0 g1 g2 g3 g4 hlfe ho hvo
  go_wp2_with fail
  go_ret
  exact ⟨by rw [unhide HV]; rfl, hb1⟩
end Go.Proofs.YtdpijhnbhopnbaaDoor
