/- Part 32 of what LawBoostTells needs: Args2, ArgsG, ArgsM. Conditions: as each lemma names. -/
import Derived.Test.YtdpijhnbhopnbaaGreatDoorPkBoostTells05
import Derived.Test.YtdpijhnbhopnbaaGreatDoorPkBoostTells02
import Derived.Deep.Slices
import Derived.Test.YtdpijhnbhopnbaaGreatDoorPkBoostTells17
import Derived.Test.YtdpijhnbhopnbaaGreatDoorPkBoostTells11
/- From an argument's reading to the words of the walks: a slice of nodes. Conditions: none. -/
namespace Go.Proofs.YtdpijhnbhopnbaaGreatDoor
set_option linter.unusedVariables false
set_option linter.unusedSimpArgs false
open Go.RowKit Go.ChangeShapes Go.WideShapes Go.Deep

theorem reads_flat {α : Type} {w : World} {size n : Nat} {a : Addr} (f : α → List Value) (hf : ∀ x, (f x).length = size) (hs : 0 < size) (l : List α) (hl : l.length = n) (hb : 0 < n → a.block < w.heap.size)
    (h : ∀ (i : Nat) x, l[i]? = some x → ∀ (r : Nat) u, r < size → (f x)[r]? = some u → w.cell? (a.add (i * size + r)) = some u) : Reads w w.heap.size size (some a) n (l.flatMap f) := by
  refine ⟨by rw [flatMap_len f size hf, hl], fun hn => ⟨a, rfl, hb hn, fun j u hu => ?_⟩⟩
  have hj : j < n * size := by
    have := (List.getElem?_eq_some_iff.1 hu).1
    rwa [flatMap_len f size hf, hl] at this
  have hi : j / size < n := Nat.div_lt_of_lt_mul (by rwa [Nat.mul_comm])
  have hx : l[j / size]? = some l[j / size] := List.getElem?_eq_getElem (by omega)
  have hr : j % size < size := Nat.mod_lt _ hs
  have e : j / size * size + j % size = j := by rw [Nat.mul_comm]; exact Nat.div_add_mod j size
  have := flatMap_at f size hf l (j / size) (j % size) _ hx hr
  rw [e, hu] at this
  have := h _ _ hx _ u hr this.symm
  rwa [e] at this

theorem arg_nodes {H : Type} {enc : TypeId × Value → H} {w : World} {sp : Nat → Bool} {A : Option Addr} {n c : Nat} {d : DataW H} {p : List MemPlace}
    (h : DataW.Trod enc Tryz.prog w 0 sp true 48 (.slice A n c) d p) : ∃ t : List Nd, NReads w w.heap.size A n t ∧ n ≤ maxLen ∧ n ≤ c := by
  obtain ⟨fuel, hf⟩ := h
  rcases open_slice_fields Tryz.underlying48 Tryz.underlying51 (by kernel_rfl) (by kernel_rfl) hf with ⟨hcs, _⟩ | ⟨a, len, cap, m, D, Pl, hcs, _, hl, hm, hmm, _, hi⟩
  · simp [Value.cells] at hcs
    obtain ⟨rfl, rfl, rfl⟩ := hcs
    exact ⟨[], ⟨by simp, fun h0 => absurd h0 (by omega)⟩, Nat.zero_le _, Nat.le_refl _⟩
  · simp [Value.cells] at hcs
    obtain ⟨rfl, rfl, rfl⟩ := hcs
    have hmn : n ≤ m := by rw [hmm]; split <;> omega
    have key : ∀ i, i < n → ∃ x : Nd, ∀ (r : Nat) u, r < 6 → (Nd.cells x)[r]? = some u → w.cell? (a.add (i * 6 + r)) = some u := by
      intro i hin
      obtain ⟨ys, q, _, _, _, hfl⟩ := hi i (by omega)
      obtain ⟨v0, y0, c0, _, t0⟩ := hfl 0 _ rfl
      obtain ⟨v1, y1, c1, _, t1⟩ := hfl 1 _ rfl
      obtain ⟨v2, y2, c2, _, t2⟩ := hfl 2 _ rfl
      obtain ⟨v3, y3, c3, _, t3⟩ := hfl 3 _ rfl
      obtain ⟨v4, y4, c4, _, t4⟩ := hfl 4 _ rfl
      obtain ⟨v5, y5, c5, _, t5⟩ := hfl 5 _ rfl
      obtain ⟨x0, e0, _⟩ := DataW.trod_int Tryz.underlying3 t0
      obtain ⟨x1, e1, _⟩ := DataW.trod_int Tryz.underlying3 t1
      obtain ⟨x2, e2, _⟩ := DataW.trod_int Tryz.underlying3 t2
      obtain ⟨x3, e3, _⟩ := DataW.trod_int Tryz.underlying3 t3
      obtain ⟨x4, e4, _⟩ := DataW.trod_bool Tryz.underlying4 t4
      obtain ⟨x5, e5, _⟩ := DataW.trod_int Tryz.underlying3 t5
      simp at e0 e1 e2 e3 e4 e5
      subst e0 e1 e2 e3 e4 e5
      refine ⟨⟨x0, x1, x2, x3, x4, x5⟩, fun r u hr hu => ?_⟩
      match r, hr with
      | 0, _ => simp [Nd.cells] at hu; subst hu; exact c0
      | 1, _ => simp [Nd.cells] at hu; subst hu; exact c1
      | 2, _ => simp [Nd.cells] at hu; subst hu; exact c2
      | 3, _ => simp [Nd.cells] at hu; subst hu; exact c3
      | 4, _ => simp [Nd.cells] at hu; subst hu; exact c4
      | 5, _ => simp [Nd.cells] at hu; subst hu; exact c5
    have key2 : ∀ i, ∃ x : Nd, i < n → ∀ (r : Nat) u, r < 6 → (Nd.cells x)[r]? = some u → w.cell? (a.add (i * 6 + r)) = some u := by
      intro i
      by_cases hin : i < n
      · obtain ⟨x, hx⟩ := key i hin
        exact ⟨x, fun _ => hx⟩
      · exact ⟨⟨0, 0, 0, 0, false, 0⟩, fun h => absurd h hin⟩
    refine ⟨(List.range n).map (fun i => Classical.choose (key2 i)), reads_flat Nd.cells (fun _ => rfl) (by omega) _ (by simp) ?_ ?_, by omega, hl⟩
    · intro hn
      obtain ⟨x, hx⟩ := key 0 hn
      have := cell_lt (hx 0 _ (by omega) rfl)
      rwa [block_of_add] at this
    · intro i x hx r u hr hu
      simp only [List.getElem?_map, Option.map_eq_some_iff] at hx
      obtain ⟨j, hj, rfl⟩ := hx
      obtain ⟨hjl, rfl⟩ := List.getElem?_eq_some_iff.1 hj
      simp only [List.getElem_range] at hu
      exact Classical.choose_spec (key2 i) (by simpa using hjl) r u hr hu
end Go.Proofs.YtdpijhnbhopnbaaGreatDoor
/- From an argument's reading to the words of the walks: a grove. Conditions: none. -/
namespace Go.Proofs.YtdpijhnbhopnbaaGreatDoor
set_option linter.unusedVariables false
set_option linter.unusedSimpArgs false
open Go.RowKit Go.ChangeShapes Go.WideShapes Go.Deep Go.Joins

theorem choose_list {α : Type} [Inhabited α] {n : Nat} {P : Nat → α → Prop} (h : ∀ i, i < n → ∃ x, P i x) : ∃ l : List α, l.length = n ∧ ∀ (i : Nat) x, l[i]? = some x → P i x := by
  have key : ∀ i, ∃ x : α, i < n → P i x := fun i => by
    by_cases hin : i < n
    · obtain ⟨x, hx⟩ := h i hin; exact ⟨x, fun _ => hx⟩
    · exact ⟨default, fun h => absurd h hin⟩
  refine ⟨(List.range n).map (fun i => Classical.choose (key i)), by simp, fun i x hx => ?_⟩
  simp only [List.getElem?_map, Option.map_eq_some_iff] at hx
  obtain ⟨j, hj, rfl⟩ := hx
  obtain ⟨hjl, rfl⟩ := List.getElem?_eq_some_iff.1 hj
  simp only [List.getElem_range]
  exact Classical.choose_spec (key i) (by simpa using hjl)
instance : Inhabited Tr := ⟨⟨none, 0, 0, []⟩⟩
/-- a slice's cell: its form, and nil's -/
theorem slice_form {H : Type} {enc : TypeId × Value → H} {P : Program} {w : World} {base : Nat} {sp : Nat → Bool} {held : Bool} {t e : TypeId} {fuel : Nat} {v : Value} {x : DataW H × List MemPlace} (ht : P.underlying t = some (.slice e)) (h : DataW.trod enc P w base sp held fuel t [v] = some x) :
    ∃ A n c, v = .slice A n c ∧ (A = none → c = 0) ∧ n ≤ c := by
  rcases open_slice ht h with ⟨h0, _⟩ | ⟨a, len, cap, m, k, D, Pl, hcs, _, hl, _⟩
  · injection h0 with h0; subst h0; exact ⟨none, 0, 0, rfl, fun _ => rfl, Nat.le_refl _⟩
  · injection hcs with hcs; subst hcs; exact ⟨some a, len, cap, rfl, (fun e => by cases e), hl⟩

theorem arg_trees {H : Type} {enc : TypeId × Value → H} {w : World} {sp : Nat → Bool} {fuel : Nat} {A : Option Addr} {n c : Nat} {x : DataW H × List MemPlace}
    (h : DataW.trod enc Tryz.prog w 0 sp true fuel 24 [.slice A n c] = some x) : ∃ ts : List Tr, TReads w w.heap.size A n ts ∧ n ≤ maxLen ∧ (A = none → c = 0) := by
  rcases open_slice Tryz.underlying24 h with ⟨hcs, _⟩ | ⟨a, len, cap, m, k, D, Pl, hcs, _, hl, hm, hmm, _, hi⟩
  · injection hcs with hcs
    injection hcs with e1 e2 e3
    subst e1 e2 e3
    exact ⟨[], ⟨⟨by simp, fun h0 => absurd h0 (by omega)⟩, fun r hr => by cases hr⟩, Nat.zero_le _, fun _ => rfl⟩
  · injection hcs with hcs
    injection hcs with e1 e2 e3
    subst e1 e2 e3
    have hmn : n ≤ m := by rw [hmm]; split <;> omega
    have hC : Tryz.prog.cellsOf 48 = 1 := by kernel_rfl
    rw [hC] at hi
    obtain ⟨ts, hlen, hts⟩ := choose_list (n := n) (P := fun i (r : Tr) => w.cell? (a.add i) = some r.val ∧ TrOk w w.heap.size r) (fun i hin => by
      obtain ⟨cs', hc, ht⟩ := hi i (by omega)
      obtain ⟨_, hcl, hat⟩ := World.cells?_some hc
      have h1 := hat 0 (by omega)
      obtain ⟨v, rfl⟩ : ∃ v, cs' = [v] := by
        match cs', hcl with
        | [v], _ => exact ⟨v, rfl⟩
      obtain ⟨A', n', c', rfl, hnil, _⟩ := slice_form Tryz.underlying48 ht
      obtain ⟨t, hr, hn, _⟩ := arg_nodes (sp := sp) (c := c') ⟨k, ht⟩
      refine ⟨⟨A', n', c', t⟩, ?_, hr, hn, hnil⟩
      have e : (a.add (i * 1)).add 0 = a.add i := by rw [add_of_add]; simp
      rw [e] at h1
      exact h1)
    refine ⟨ts, ⟨⟨by simp [hlen], fun h0 => ⟨a, rfl, ?_, fun j u hu => ?_⟩⟩, fun r hr => ?_⟩, by omega, fun e => by cases e⟩
    · obtain ⟨t0, ht0⟩ : ∃ t0, ts[0]? = some t0 := ⟨ts[0]'(by omega), List.getElem?_eq_getElem _⟩
      have := cell_lt (hts 0 t0 ht0).1
      rwa [block_of_add] at this
    · rw [List.getElem?_map, Option.map_eq_some_iff] at hu
      obtain ⟨r, hr, rfl⟩ := hu
      exact (hts j r hr).1
    · obtain ⟨i, hi'⟩ := List.mem_iff_getElem?.1 hr
      exact (hts i r hi').2

set_option maxRecDepth 100000 in
theorem arg_grove {H : Type} {enc : TypeId × Value → H} {w : World} {sp : Nat → Bool} {r : Reach} {b0 : Nat} {v : Value} {d : DataW H} {p : List MemPlace}
    (hv : Value.okWide Tryz.prog w r b0 26 v) (h : DataW.Trod enc Tryz.prog w 0 sp true 26 v d p) : ∃ g : Gv, v = g.val ∧ GReads w w.heap.size g := by
  obtain ⟨v0, v1, v2, v3, y0, y1, y2, y3, n, rfl, _, _, t0, t1, t2, t3⟩ := open_agg4 Tryz.underlying26 (by kernel_rfl) (by kernel_rfl) hv h
  obtain ⟨x0, e0, _⟩ := DataW.trod_int Tryz.underlying3 t0
  obtain ⟨x1, e1, _⟩ := DataW.trod_int Tryz.underlying3 t1
  simp at e0 e1
  subst e0 e1
  obtain ⟨Aw, nw, cw, rfl, hnw, _⟩ := slice_form Tryz.underlying23 t2
  obtain ⟨At, nt, ct, rfl, hnt, _⟩ := slice_form Tryz.underlying24 t3
  obtain ⟨ws, g1, g2, _⟩ := arg_ints (sp := sp) (c := cw) Tryz.underlying23 Tryz.underlying3 (by kernel_rfl) ⟨n, t2⟩
  obtain ⟨ts, g3, g4, _⟩ := arg_trees t3
  exact ⟨⟨x0, x1, Aw, nw, cw, ws, At, nt, ct, ts⟩, rfl, g1, g3, g2, g4, hnw, hnt⟩
end Go.Proofs.YtdpijhnbhopnbaaGreatDoor
/- From an argument's reading to the words of the walks: a slice of samples. Conditions: none. -/
namespace Go.Proofs.YtdpijhnbhopnbaaGreatDoor
set_option linter.unusedVariables false
set_option linter.unusedSimpArgs false
open Go.RowKit Go.ChangeShapes Go.WideShapes Go.Deep Go.Joins

set_option maxRecDepth 100000 in
theorem arg_samples {H : Type} {enc : TypeId × Value → H} {w : World} {sp : Nat → Bool} {A : Option Addr} {n c : Nat} {d : DataW H} {p : List MemPlace}
    (h : DataW.Trod enc Tryz.prog w 0 sp true 22 (.slice A n c) d p) : ∃ ss : List Sm, MReads w w.heap.size A n ss ∧ n ≤ maxLen ∧ n ≤ c ∧ (A = none → c = 0) := by
  obtain ⟨fuel, hf⟩ := h
  rcases open_slice_fields Tryz.underlying22 Tryz.underlying40 (by kernel_rfl) (by kernel_rfl) hf with ⟨hcs, _⟩ | ⟨a, len, cap, m, D, Pl, hcs, _, hl, hm, hmm, hx, hi⟩
  · simp [Value.cells] at hcs
    obtain ⟨rfl, rfl, rfl⟩ := hcs
    exact ⟨[], ⟨⟨by simp, fun h0 => absurd h0 (by omega)⟩, fun r hr => by cases hr⟩, Nat.zero_le _, Nat.le_refl _, fun _ => rfl⟩
  · simp [Value.cells] at hcs
    obtain ⟨rfl, rfl, rfl⟩ := hcs
    have hmn : n ≤ m := by rw [hmm]; split <;> omega
    have key : ∀ i, i < n → ∃ x : Sm, (∀ (r : Nat) u, r < 2 → (Sm.cells x)[r]? = some u → w.cell? (a.add (i * 2 + r)) = some u) ∧ SmOk w w.heap.size x := by
      intro i hin
      obtain ⟨ys, q, _, _, _, hfl⟩ := hi i (by omega)
      obtain ⟨v0, y0, c0, _, t0⟩ := hfl 0 _ rfl
      obtain ⟨v1, y1, c1, _, t1⟩ := hfl 1 _ rfl
      obtain ⟨x1, e1, _⟩ := DataW.trod_int Tryz.underlying3 t1
      simp at e1
      subst e1
      obtain ⟨A0, n0, k0, rfl, _, _⟩ := slice_form Tryz.underlying23 t0
      obtain ⟨l0, g1, g2, _⟩ := arg_ints (sp := sp) (c := k0) Tryz.underlying23 Tryz.underlying3 (by kernel_rfl) ⟨_, t0⟩
      refine ⟨⟨A0, n0, k0, l0, x1⟩, fun r u hr hu => ?_, ⟨g1, g2⟩⟩
      match r, hr with
      | 0, _ => simp [Sm.cells] at hu; subst hu; exact c0
      | 1, _ => simp [Sm.cells] at hu; subst hu; exact c1
    obtain ⟨ts, hlen2, hts⟩ := choose_list (n := n) key
    refine ⟨ts, ⟨reads_flat Sm.cells (fun _ => rfl) (by omega) _ hlen2 ?_ (fun i x hx => (hts i x hx).1), fun r hr => ?_⟩, by omega, hl, fun e => by cases e⟩
    · intro hn
      obtain ⟨x, hx, _⟩ := key 0 hn
      have := cell_lt (hx 0 _ (by omega) rfl)
      rwa [block_of_add] at this
    · obtain ⟨i, hi'⟩ := List.mem_iff_getElem?.1 hr
      exact (hts i r hi').2
end Go.Proofs.YtdpijhnbhopnbaaGreatDoor
