/- From an argument's reading to the words of the walks: a slice of calls; what the bound on the bulk gives. Conditions: the reading, the bound. -/
import Derived.Test.YtijgiieoinmjhaaDoorArgs2
import Derived.Test.YtijgiieoinmjhaaDoorLogStops
namespace Go.Proofs.YtijgiieoinmjhaaDoor
set_option linter.unusedVariables false
set_option linter.unusedSimpArgs false
open Go.RowKit Go.ChangeShapes Go.WideShapes Go.Deep

theorem choose_listC {α : Type} [Inhabited α] {n : Nat} {P : Nat → α → Prop} (h : ∀ i, i < n → ∃ x, P i x) : ∃ l : List α, l.length = n ∧ ∀ (i : Nat) x, l[i]? = some x → P i x := by
  have key : ∀ i, ∃ x : α, i < n → P i x := fun i => by
    by_cases hin : i < n
    · obtain ⟨x, hx⟩ := h i hin; exact ⟨x, fun _ => hx⟩
    · exact ⟨default, fun h => absurd h hin⟩
  refine ⟨(List.range n).map (fun i => Classical.choose (key i)), by simp, fun i x hx => ?_⟩
  simp only [List.getElem?_map, Option.map_eq_some_iff] at hx
  obtain ⟨j, hj, rfl⟩ := hx
  obtain ⟨hjl, rfl⟩ := List.getElem?_eq_some_iff.1 hj
  simp only [List.getElem_range]
  exact Classical.choose_spec (key i) (by simpa using hjl)
/-- a slice's cell: its form, and nil's -/
theorem slice_formC {H : Type} {enc : TypeId × Value → H} {P : Program} {w : World} {base : Nat} {sp : Nat → Bool} {held : Bool} {t e : TypeId} {fuel : Nat} {v : Value} {x : DataW H × List MemPlace} (ht : P.underlying t = some (.slice e)) (h : DataW.trod enc P w base sp held fuel t [v] = some x) :
    ∃ A n c, v = .slice A n c ∧ (A = none → c = 0) ∧ n ≤ c := by
  rcases open_slice ht h with ⟨h0, _⟩ | ⟨a, len, cap, m, k, D, Pl, hcs, _, hl, _⟩
  · injection h0 with h0; subst h0; exact ⟨none, 0, 0, rfl, fun _ => rfl, Nat.le_refl _⟩
  · injection hcs with hcs; subst hcs; exact ⟨some a, len, cap, rfl, (fun e => by cases e), hl⟩
theorem bulk_mem {H : Type} {d : DataW H} {l : List (DataW H)} (h : d ∈ l) : Rows.uptoBulk d ≤ Rows.uptoBulkAll l := by
  induction l with
  | nil => cases h
  | cons x r ih =>
    simp only [Rows.uptoBulkAll]
    rcases List.mem_cons.1 h with e | e
    · subst e; omega
    · have := ih e; omega
theorem bulk_one {H : Type} (d : DataW H) : 1 ≤ Rows.uptoBulk d := by
  cases d with
  | lit l => cases l <;> simp [Rows.uptoBulk]
  | _ => simp [Rows.uptoBulk]
theorem bulk_len {H : Type} (l : List (DataW H)) : l.length ≤ Rows.uptoBulkAll l := by
  induction l with
  | nil => simp [Rows.uptoBulkAll]
  | cons x r ih => have := bulk_one x; simp only [Rows.uptoBulkAll, List.length_cons]; omega
/-- a slice is no longer than its bulk -/
theorem bulk_slice {H : Type} {enc : TypeId × Value → H} {P : Program} {w : World} {sp : Nat → Bool} {t e : TypeId} {fuel : Nat} {A : Option Addr} {n c : Nat} {x : DataW H × List MemPlace}
    (ht : P.underlying t = some (.slice e)) (h : DataW.trod enc P w 0 sp true fuel t [.slice A n c] = some x) : n ≤ Rows.uptoBulk x.1 := by
  rcases open_slice ht h with ⟨hcs, _⟩ | ⟨a, len, cap, m, k, D, Pl, hcs, _, hl, hm, hmm, hx, hi⟩
  · injection hcs with hcs; injection hcs with e1 e2 e3; subst e2; exact Nat.zero_le _
  · injection hcs with hcs; injection hcs with e1 e2 e3; subst e2
    rw [hx]
    simp only [Rows.uptoBulk]
    have := bulk_len ((List.range n).map D)
    rw [List.length_map, List.length_range] at this
    omega

theorem arg_calls {H : Type} {enc : TypeId × Value → H} {w : World} {sp : Nat → Bool} {A : Option Addr} {n c : Nat} {d : DataW H} {p : List MemPlace}
    (h : DataW.Trod enc Tryd.prog w 0 sp true 51 (.slice A n c) d p) (hM : Rows.uptoBulk d ≤ 1048576) : ∃ t : List Cv, CsReads w w.heap.size A n t ∧ n ≤ maxLen ∧ n ≤ c ∧ n ≤ 1048576 := by
  obtain ⟨fuel, hf⟩ := h
  rcases open_slice_fields Tryd.underlying51 Tryd.underlying53 (by kernel_rfl) (by kernel_rfl) hf with ⟨hcs, _⟩ | ⟨a, len, cap, m, D, Pl, hcs, _, hl, hm, hmm, hx, hi⟩
  · simp [Value.cells] at hcs
    obtain ⟨rfl, rfl, rfl⟩ := hcs
    exact ⟨[], ⟨⟨by simp, fun h0 => absurd h0 (by omega)⟩, fun r hr => by cases hr⟩, Nat.zero_le _, Nat.le_refl _, Nat.zero_le _⟩
  · simp [Value.cells] at hcs
    obtain ⟨rfl, rfl, rfl⟩ := hcs
    have hmn : n ≤ m := by rw [hmm]; split <;> omega
    injection hx with hx _
    subst hx
    simp only [Rows.uptoBulk] at hM
    have hlen := bulk_len ((List.range n).map D)
    rw [List.length_map, List.length_range] at hlen
    have key : ∀ i, i < n → ∃ x : Cv, (∀ (r : Nat) u, r < 7 → (Cv.cells x)[r]? = some u → w.cell? (a.add (i * 7 + r)) = some u) ∧ CvArg w w.heap.size x := by
      intro i hin
      obtain ⟨ys, q, hDi, _, _, hfl⟩ := hi i (by omega)
      have hbi : Rows.uptoBulk (D i) ≤ 1048576 := by
        have := bulk_mem (List.mem_map_of_mem (f := D) (List.mem_range.2 hin))
        omega
      rw [hDi] at hbi
      simp only [Rows.uptoBulk] at hbi
      obtain ⟨v0, y0, c0, z0, t0⟩ := hfl 0 _ rfl
      obtain ⟨v1, y1, c1, z1, t1⟩ := hfl 1 _ rfl
      obtain ⟨v2, y2, c2, z2, t2⟩ := hfl 2 _ rfl
      obtain ⟨v3, y3, c3, z3, t3⟩ := hfl 3 _ rfl
      obtain ⟨v4, y4, c4, z4, t4⟩ := hfl 4 _ rfl
      obtain ⟨v5, y5, c5, z5, t5⟩ := hfl 5 _ rfl
      obtain ⟨v6, y6, c6, z6, t6⟩ := hfl 6 _ rfl
      have hp : ∀ (j : Nat) y, ys[j]? = some y → Rows.uptoBulk y.1 ≤ 1048576 := fun j y hj => by
        have := bulk_mem (List.mem_map_of_mem (f := fun x : DataW H × List MemPlace => x.1) (List.mem_of_getElem? hj))
        omega
      obtain ⟨x0, e0, f0, w0⟩ := DataW.trod_int Tryd.underlying3 t0
      obtain ⟨x1, e1, f1, w1⟩ := DataW.trod_int Tryd.underlying3 t1
      obtain ⟨x2, e2, f2, w2⟩ := DataW.trod_int Tryd.underlying3 t2
      obtain ⟨x3, e3, f3, w3⟩ := DataW.trod_string Tryd.underlying9 t3
      obtain ⟨x4, e4, f4, w4⟩ := DataW.trod_int Tryd.underlying3 t4
      obtain ⟨x5, e5, f5, w5⟩ := DataW.trod_int Tryd.underlying3 t5
      obtain ⟨A6, n6, c6', e6, hn6, hc6⟩ := slice_formC Tryd.underlying22 t6
      subst e6
      obtain ⟨l6, g1, g2, g3, g4⟩ := arg_nums (sp := sp) (c := c6') Tryd.underlying22 Tryd.underlying5 (by kernel_rfl) ⟨_, t6⟩
      have hb3 := hp 3 _ z3
      have hb6 := hp 6 _ z6
      have hb6' := bulk_slice Tryd.underlying22 t6
      rw [f3] at hb3
      simp only [Rows.uptoBulk, Array.length_toList] at hb3
      have hsz : x3.size ≤ 1048576 := by
        have : x3.size = x3.data.size := rfl
        omega
      simp at e0 e1 e2 e3 e4 e5
      subst e0 e1 e2 e3 e4 e5
      refine ⟨⟨⟨x0, x1, x2, x3, x4, x5, l6⟩, A6, n6, c6'⟩, fun r u hr hu => ?_, ⟨⟨g1, g2, g3, hn6⟩, fun x hx => ?_, by show x3.size ≤ 2000000; omega, by show n6 ≤ 2000000; omega, fun x hx => ?_⟩⟩
      · match r, hr with
        | 0, _ => simp [Cv.cells] at hu; subst hu; exact c0
        | 1, _ => simp [Cv.cells] at hu; subst hu; exact c1
        | 2, _ => simp [Cv.cells] at hu; subst hu; exact c2
        | 3, _ => simp [Cv.cells] at hu; subst hu; exact c3
        | 4, _ => simp [Cv.cells] at hu; subst hu; exact c4
        | 5, _ => simp [Cv.cells] at hu; subst hu; exact c5
        | 6, _ => simp [Cv.cells] at hu; subst hu; exact c6
      · have h0 := wf_in w0; have h1 := wf_in w1; have h2 := wf_in w2; have h4 := wf_in w4; have h5 := wf_in w5
        simp only [Cl.nums, List.mem_cons, List.not_mem_nil, or_false] at hx
        rcases hx with rfl | rfl | rfl | rfl | rfl | rfl <;> exact ⟨by omega, by omega⟩
      · have := g4 x hx
        simp [Lit.wf, IntKind.min, IntKind.max, IntKind.bits, IntKind.signed] at this
        omega
    obtain ⟨ts, hlen2, hts⟩ := choose_listC (n := n) key
    refine ⟨ts, ⟨reads_flat Cv.cells (fun _ => rfl) (by omega) _ hlen2 ?_ (fun i x hx => (hts i x hx).1), fun r hr => ?_⟩, by omega, hl, by omega⟩
    · intro hn
      obtain ⟨x, hx, _⟩ := key 0 hn
      have := cell_lt (hx 0 _ (by omega) rfl)
      rwa [block_of_add] at this
    · obtain ⟨i, hi'⟩ := List.mem_iff_getElem?.1 hr
      exact (hts i r hi').2
end Go.Proofs.YtijgiieoinmjhaaDoor
