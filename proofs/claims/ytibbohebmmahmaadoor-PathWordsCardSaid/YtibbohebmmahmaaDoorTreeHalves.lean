/- TreeHalves: the walk of the law's function. Conditions: arguments read as lists. -/
import Derived.Test.YtibbohebmmahmaaDoorTreeDeep
namespace Go.Proofs.YtibbohebmmahmaaDoor
set_option linter.unusedVariables false
set_option linter.unusedSimpArgs false
open Go.RowKit

/-! ### plain -/
theorem leaves_mem {t : List Nd} : ∀ (i k : Nat) (n : Nd), t[k]? = some n → n.f = -1 → ((i + k : Nat) : Int) ∈ leavesFrom i t := by
  induction t with
  | nil => intro i k n h; simp at h
  | cons x r ih =>
    intro i k n h hf
    rw [leavesFrom]
    cases k with
    | zero =>
      simp at h; subst h
      rw [if_pos hf]; simp
    | succ k =>
      have := ih (i + 1) k n (by simpa using h) hf
      rw [show i + 1 + k = i + (k + 1) by omega] at this
      split
      · exact List.mem_cons_of_mem _ this
      · exact this
theorem leafFrom_is {t : List Nd} {row : List Int} (hb : Behind t) : ∀ (F i : Nat), i < t.length → t.length ≤ i + F → ∃ n, t[leafFrom t row F i]? = some n ∧ n.f = -1 := by
  intro F
  induction F with
  | zero => intro i h1 h2; omega
  | succ F ih =>
    intro i h1 h2
    have hn : t[i]? = some t[i] := List.getElem?_eq_getElem h1
    by_cases hf : (t[i]).f = -1
    · rw [leafFrom_leaf hn hf]; exact ⟨_, hn, hf⟩
    · rw [leafFrom_step hn hf]
      obtain ⟨j, hj, hlt, hjl⟩ := nextOf_lt (c := cellAt row (t[i]).f) hb hn hf
      rw [hj, Int.toNat_natCast]
      exact ih j hjl (by omega)
theorem leafOf_is {t : List Nd} {row : List Int} (hb : Behind t) (h0 : 0 < t.length) : ∃ n, t[leafOf t row]? = some n ∧ n.f = -1 := leafFrom_is hb t.length 0 h0 (by omega)
theorem leafFrom_same {t : List Nd} {r s : List Int} (h : ∀ (i : Nat) n, t[i]? = some n → n.f ≠ -1 → cellAt r n.f = cellAt s n.f) : ∀ (F i : Nat), leafFrom t r F i = leafFrom t s F i := by
  intro F
  induction F with
  | zero => intro i; rfl
  | succ F ih =>
    intro i
    cases hn : t[i]? with
    | none => simp only [leafFrom, hn]
    | some n =>
      by_cases hf : n.f = -1
      · rw [leafFrom_leaf hn hf, leafFrom_leaf hn hf]
      · rw [leafFrom_step hn hf, leafFrom_step hn hf, h i n hn hf, ih]
theorem cellAt_set {r : List Int} {f : Nat} {g c : Int} (hg : 0 ≤ g) (h : g ≠ f) : cellAt (r.set f c) g = cellAt r g := by
  unfold cellAt
  rw [List.getD_eq_getElem?_getD, List.getD_eq_getElem?_getD, List.getElem?_set_ne (by omega)]
theorem rowE_set {r : List Int} {f : Nat} {c : Int} (h : rowE r = 0) (hc : -1000000 ≤ c ∧ c ≤ 1000000) : rowE (r.set f c) = 0 := by
  unfold rowE at h ⊢
  split at h
  · cases h
  · rename_i h8
    split at h
    · rename_i ha
      rw [if_neg (by simpa using h8), if_pos]
      rw [List.all_eq_true] at ha ⊢
      intro x hx
      rcases List.mem_or_eq_of_mem_set hx with hx | rfl
      · exact ha x hx
      · exact rowGood_cell hc.1 hc.2
    · cases h
theorem readyE_set {t : List Nd} {r : List Int} {f : Nat} {c : Int} (h : readyE t r = 0) (hc : -1000000 ≤ c ∧ c ≤ 1000000) : readyE t (r.set f c) = 0 := by
  unfold readyE at h ⊢
  split at h
  · rename_i h1
    rw [if_pos (rowE_set h1 hc), List.length_set]; exact h
  · rename_i h1; exact absurd h h1
theorem leafV_set {t : List Nd} {r : List Int} {f : Nat} {c : Int} (h : readyE t r = 0) (hc : -1000000 ≤ c ∧ c ≤ 1000000) (hf : ∀ (i : Nat) n, t[i]? = some n → n.f ≠ f) : leafV t (r.set f c) = leafV t r := by
  have h2 := readyE_set (f := f) h hc
  obtain ⟨_, hR, _⟩ := readyE_right h
  unfold leafV leafOf
  rw [if_pos h, if_pos h2, leafFrom_same (r := r.set f c) (s := r)]
  intro i n hn hf2
  exact cellAt_set (hR.asks i n hn hf2).1 (hf i n hn)

theorem tree3_eval4 : evalV [⟨0, 5, 1, 2, false, 0⟩, ⟨-1, 0, 0, 0, false, 7⟩, ⟨-1, 0, 0, 0, false, 9⟩] [4] = 7 ∧ readyE [⟨0, 5, 1, 2, false, 0⟩, ⟨-1, 0, 0, 0, false, 7⟩, ⟨-1, 0, 0, 0, false, 9⟩] [4] = 0 := by decide
theorem tree3_eval5 : evalV [⟨0, 5, 1, 2, false, 0⟩, ⟨-1, 0, 0, 0, false, 7⟩, ⟨-1, 0, 0, 0, false, 9⟩] [5] = 9 ∧ readyE [⟨0, 5, 1, 2, false, 0⟩, ⟨-1, 0, 0, 0, false, 7⟩, ⟨-1, 0, 0, 0, false, 9⟩] [5] = 0 := by decide

/-- tree.Eval of a row of one cell that has just been laid -/
theorem eval_lit {T0 : List Nd} {W : World} {g g2 n : Nat} (x : Int) (hT : NReads W W.heap.size (some ⟨g, 0, none⟩) n T0) (hn : n ≤ maxLen) (hg2 : W.heap.size = g2) {B : Nat} {w : World} (hB : B ≤ W.heap.size) (hbw : Below B w W) :
    Calls Tryd.prog 6 #[.slice (some ⟨g, 0, none⟩) n n, .slice (some ⟨g2, 0, none⟩) 1 1] (W.alloc (.cells #[.int .i64 x] 3)) fun e w' => e = .returned (.tuple #[.int .i64 (evalV T0 [x]), errV (readyE T0 [x])]) ∧ Below B w w' := by
  subst hg2
  have hs : (W.alloc (.cells #[.int .i64 x] 3)).heap.size = W.heap.size + 1 := World.size_alloc _ _
  have h1 : IReads (W.alloc (.cells #[.int .i64 x] 3)) (W.heap.size + 1) (some ⟨W.heap.size, 0, none⟩) 1 [x] := Reads.new_ W 1 1 [.int .i64 x] 3 rfl
  have h2 : NReads (W.alloc (.cells #[.int .i64 x] 3)) (W.heap.size + 1) (some ⟨g, 0, none⟩) n T0 := (Reads.alloc hT (Nat.le_refl _) _).more (by omega)
  have := eval_any (some ⟨g, 0, none⟩) (some ⟨W.heap.size, 0, none⟩) n n 1 1 T0 [x] _ (by rw [hs]; exact h2) (by rw [hs]; exact h1) hn (by decide)
  refine Calls.mono this fun e w' ⟨he, hb⟩ => ⟨he, ?_⟩
  rw [hs] at hb
  exact (hbw.alloc hB _).trans (hb.mono (by omega))

end Go.Proofs.YtibbohebmmahmaaDoor
