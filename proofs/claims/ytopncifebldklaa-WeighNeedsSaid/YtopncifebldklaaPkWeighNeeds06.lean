/- Part 6 of what LawWeighNeeds needs: CutMath, Ints, TreeMath. Conditions: as each lemma names. -/
import Derived.Lib.SlicesCompact
import Derived.Test.YtopncifebldklaaPkWeighNeeds05
import Derived.Test.YtopncifebldklaaPkWeighNeeds02
import Derived.Test.YtopncifebldklaaShelf
import Derived.Sort.OwnSortedInts
import Derived.Lib.SliceRun
import Derived.Test.YtopncifebldklaaPkWeighNeeds03
/- Chapter 2 in plain words: cuts together, bins, cuts of values. No program in sight. Conditions: as each lemma names. -/
namespace Go.Proofs.Ytopncifebldklaa
set_option linter.unusedVariables false

/-- what slices.Compact makes of a sorted list: each once, rising -/
theorem compactUpTo_spec (d : Array Int) (hs : ∀ i j, i ≤ j → j < d.size → d[i]! ≤ d[j]!) : ∀ m, m ≤ d.size →
    (Lib.compactUpTo d m).Pairwise (· < ·) ∧ (∀ x ∈ Lib.compactUpTo d m, ∃ j, j < m ∧ x = d[j]!) ∧ ∀ j, j < m → d[j]! ∈ Lib.compactUpTo d m := by
  intro m
  induction m with
  | zero => intro _; refine ⟨by simp [Lib.compactUpTo], fun x hx => by simp [Lib.compactUpTo] at hx, fun j hj => absurd hj (by omega)⟩
  | succ m ih =>
    intro hm
    obtain ⟨h1, h2, h3⟩ := ih (by omega)
    rw [Lib.compactUpTo_succ]
    by_cases hk : Lib.keeps d m = true
    · rw [if_pos hk]
      refine ⟨List.pairwise_append.2 ⟨h1, by simp, ?_⟩, ?_, ?_⟩
      · intro x hx y hy
        obtain rfl := List.mem_singleton.1 hy
        obtain ⟨j, hj, rfl⟩ := h2 x hx
        have ha := hs j (m - 1) (by omega) (by omega)
        have hb := hs (m - 1) m (by omega) (by omega)
        have hc : d[m]! ≠ d[m - 1]! := by
          simp [Lib.keeps] at hk
          rcases hk with hk | hk
          · omega
          · exact hk
        omega
      · intro x hx
        rcases List.mem_append.1 hx with hx | hx
        · obtain ⟨j, hj, e⟩ := h2 x hx; exact ⟨j, by omega, e⟩
        · exact ⟨m, by omega, List.mem_singleton.1 hx⟩
      · intro j hj
        rcases Nat.lt_or_ge j m with h | h
        · exact List.mem_append_left _ (h3 j h)
        · obtain rfl : j = m := by omega
          exact List.mem_append_right _ (by simp)
    · rw [if_neg hk, List.append_nil]
      refine ⟨h1, fun x hx => ?_, fun j hj => ?_⟩
      · obtain ⟨j, hj, e⟩ := h2 x hx; exact ⟨j, by omega, e⟩
      · rcases Nat.lt_or_ge j m with h | h
        · exact h3 j h
        · obtain rfl : j = m := by omega
          have hk' : j ≠ 0 ∧ d[j]! = d[j - 1]! := by
            simp [Lib.keeps] at hk
            exact hk
          rw [hk'.2]; exact h3 (j - 1) (by omega)

def compactL (l : List Int) : List Int := Lib.compact l
theorem compactL_sorted {l : List Int} (h : l.Pairwise (· ≤ ·)) : (compactL l).Pairwise (· < ·) ∧ ∀ x, x ∈ compactL l ↔ x ∈ l := by
  have hs : ∀ i j, i ≤ j → j < l.toArray.size → l.toArray[i]! ≤ l.toArray[j]! := by
    intro i j hij hj
    simp at hj
    have hpw := List.pairwise_iff_getElem.1 h
    rcases Nat.eq_or_lt_of_le hij with rfl | hlt
    · exact Int.le_refl _
    · have := hpw i j (by omega) hj hlt
      simpa [hj, show i < l.length by omega] using this
  obtain ⟨h1, h2, h3⟩ := compactUpTo_spec l.toArray hs l.length (by simp)
  refine ⟨h1, fun x => ⟨fun hx => ?_, fun hx => ?_⟩⟩
  · obtain ⟨j, hj, e⟩ := h2 x hx
    rw [e]; simp [hj]
  · obtain ⟨j, hj, rfl⟩ := List.getElem_of_mem hx
    have := h3 j hj
    simpa [hj, compactL, Lib.compact] using this
theorem strict_one {a b : List Int} (ha : a.Pairwise (· < ·)) (hb : b.Pairwise (· < ·)) (h : ∀ x, x ∈ a ↔ x ∈ b) : a = b := by
  induction a generalizing b with
  | nil =>
    cases b with
    | nil => rfl
    | cons y s => exact absurd ((h y).2 (by simp)) (by simp)
  | cons x r ih =>
    cases b with
    | nil => exact absurd ((h x).1 (by simp)) (by simp)
    | cons y s =>
      rw [List.pairwise_cons] at ha hb
      have e : x = y := by
        have h1 := (h x).1 (by simp)
        have h2 := (h y).2 (by simp)
        rcases List.mem_cons.1 h1 with h1 | h1
        · exact h1
        · rcases List.mem_cons.1 h2 with h2 | h2
          · exact h2.symm
          · have := ha.1 y h2; have := hb.1 x h1; omega
      subst e
      rw [ih ha.2 hb.2 fun z => ?_]
      constructor
      · intro hz
        rcases List.mem_cons.1 ((h z).1 (List.mem_cons_of_mem _ hz)) with e | e
        · subst e; have := ha.1 z hz; omega
        · exact e
      · intro hz
        rcases List.mem_cons.1 ((h z).2 (List.mem_cons_of_mem _ hz)) with e | e
        · subst e; have := hb.1 z hz; omega
        · exact e

def mergeV (a b : List Int) : List Int := compactL (sortL (a ++ b))
theorem mergeV_spec (a b : List Int) : (mergeV a b).Pairwise (· < ·) ∧ ∀ x, x ∈ mergeV a b ↔ x ∈ a ∨ x ∈ b := by
  obtain ⟨h1, h2⟩ := compactL_sorted (sortL_sorted (a ++ b))
  refine ⟨h1, fun x => ?_⟩
  unfold mergeV
  rw [h2, (sortL_perm (a ++ b)).mem_iff, List.mem_append]

/-- how many are at most x -/
def bins (l : List Int) (x : Int) : Nat := (l.filter fun c => decide (c ≤ x)).length
theorem bins_le (l : List Int) (x : Int) : bins l x ≤ l.length := List.length_filter_le _ _
theorem bins_mono {x y : Int} (h : x ≤ y) : ∀ l, bins l x ≤ bins l y
  | [] => Nat.le_refl _
  | c :: r => by
    have := bins_mono h r
    unfold bins at *
    by_cases h1 : c ≤ x
    · have h2 : c ≤ y := by omega
      simp [h1, h2]; exact this
    · by_cases h2 : c ≤ y
      · simp [h1, h2]; omega
      · simp [h1, h2]; exact this
/-- two numbers are in one bin just where no cut parts them -/
theorem bins_eq {x y : Int} (h : x ≤ y) : ∀ l, bins l x = bins l y ↔ ∀ c ∈ l, ¬ (x < c ∧ c ≤ y)
  | [] => by simp [bins]
  | c :: r => by
    have ih := bins_eq h r
    have hm := bins_mono h r
    have e1 : bins (c :: r) x = bins r x + if c ≤ x then 1 else 0 := by unfold bins; by_cases h1 : c ≤ x <;> simp [h1]
    have e2 : bins (c :: r) y = bins r y + if c ≤ y then 1 else 0 := by unfold bins; by_cases h1 : c ≤ y <;> simp [h1]
    rw [e1, e2]
    constructor
    · intro e d hd
      rcases List.mem_cons.1 hd with rfl | hd
      · split at e <;> split at e <;> omega
      · have : bins r x = bins r y := by split at e <;> split at e <;> omega
        exact ih.1 this d hd
    · intro hall
      have h1 := ih.2 fun d hd => hall d (List.mem_cons_of_mem _ hd)
      have h2 := hall c (by simp)
      rw [h1]
      split <;> split <;> omega
theorem bins_merge {a b : List Int} {x y : Int} : (bins (mergeV a b) x = bins (mergeV a b) y) ↔ (bins a x = bins a y ∧ bins b x = bins b y) := by
  have key : ∀ {x y : Int}, x ≤ y → ((bins (mergeV a b) x = bins (mergeV a b) y) ↔ (bins a x = bins a y ∧ bins b x = bins b y)) := by
    intro x y h
    rw [bins_eq h, bins_eq h, bins_eq h]
    have hm := (mergeV_spec a b).2
    constructor
    · intro hh; exact ⟨fun c hc => hh c ((hm c).2 (.inl hc)), fun c hc => hh c ((hm c).2 (.inr hc))⟩
    · rintro ⟨h1, h2⟩ c hc
      rcases (hm c).1 hc with hc | hc
      · exact h1 c hc
      · exact h2 c hc
  rcases Int.le_total x y with h | h
  · exact key h
  · rw [eq_comm, key h, eq_comm (a := bins a y), eq_comm (a := bins b y)]
end Go.Proofs.Ytopncifebldklaa
/- Rows of ints of the call's own: slices.Clone, slices.Sort and slices.Compact at them, by the shelf's contracts. Conditions: as each lemma names. -/
namespace Go.Proofs.Ytopncifebldklaa
set_option linter.unusedVariables false
set_option linter.unusedSimpArgs false
open Go.RowKit

theorem ints_one (l : List Int) : ∀ u ∈ l.map (Value.int .i64), u.oneCell' = true := by
  intro u hu
  obtain ⟨x, _, rfl⟩ := List.mem_map.1 hu
  rfl

/-- a row of ints of the call's own -/
def IOwn (w : World) (base : Nat) (v : Value) (l : List Int) : Prop := w.ownsRow base 3 1 v l.length (l.map (Value.int .i64))
theorem IOwn.nil_ (w : World) (base : Nat) : IOwn w base (.slice none 0 0) [] := World.ownsRow_nil _ _ _ _
theorem IOwn.slice_ {w : World} {base : Nat} {v : Value} {l : List Int} (h : IOwn w base v l) : ∃ A c, v = .slice A l.length c ∧ IReads w w.heap.size A l.length l ∧ l.length ≤ maxLen ∧ l.length ≤ c ∧ (A = none → c = 0) := by
  rcases h.2 with ⟨rfl, h0⟩ | ⟨g, cap, cur, rfl, _, _, h1, h2, _⟩
  · rw [h0]
    exact ⟨none, 0, rfl, ⟨by rw [h.1, h0], fun h => absurd h (by omega)⟩, Nat.zero_le _, Nat.le_refl _, fun _ => rfl⟩
  · exact ⟨_, _, rfl, Reads.of_own h, Nat.le_trans h1 h2, h1, fun h => by cases h⟩
theorem own_cap {w : World} {base n c : Nat} {A : Option Addr} {l : List Int} (h : IOwn w base (.slice A n c) l) : c ≤ maxLen := by
  rcases h.2 with ⟨e, _⟩ | ⟨g, cap, cur, e, _, _, h1, h2, _⟩
  · injection e with _ _ e3; omega
  · injection e with _ _ e3; omega
/-- owned rows over a call that leaves all below a bound -/
theorem IOwn.below {w w' : World} {base B : Nat} {v : Value} {l : List Int} (h : IOwn w base v l) (hb : Below B w w') (hB : w.heap.size ≤ B) : IOwn w' base v l := by
  rcases h.2 with ⟨rfl, h0⟩ | ⟨g, cap, cur, rfl, hg, hh, h1⟩
  · have : l = [] := List.length_eq_zero_iff.1 h0
    subst this; exact IOwn.nil_ _ _
  · have hlt : g < w.heap.size := (Array.getElem?_eq_some_iff.1 hh).1
    exact ⟨h.1, .inr ⟨g, cap, cur, rfl, hg, (hb.block g (by omega)).trans hh, h1⟩⟩
theorem IOwn.low {w : World} {base base' : Nat} {v : Value} {l : List Int} (h : IOwn w base v l) (hb : base' ≤ base) : IOwn w base' v l := by
  rcases h.2 with ⟨rfl, h0⟩ | ⟨g, cap, cur, rfl, hg, h1⟩
  · have : l = [] := List.length_eq_zero_iff.1 h0
    subst this; exact IOwn.nil_ _ _
  · exact ⟨h.1, .inr ⟨g, cap, cur, rfl, by omega, h1⟩⟩

theorem IReads.take_ {w : World} {B n m : Nat} {A : Option Addr} {l : List Int} (h : IReads w B A n l) (hm : m ≤ n) : IReads w B A m (l.take m) := by
  have hl := h.len
  refine ⟨by simp; omega, fun h0 => ?_⟩
  obtain ⟨ad, e, hb, hc⟩ := h.2 (by omega)
  refine ⟨ad, e, hb, fun j u hu => hc j u ?_⟩
  rw [List.map_take] at hu
  rw [List.getElem?_take] at hu
  split at hu
  · exact hu
  · cases hu
theorem IOwn.at_ {w : World} {base n cap : Nat} {A : Option Addr} {l : List Int} (h : IOwn w base (.slice A n cap) l) (hl : l.length = n) {k : Nat} {x : Int} (hx : l[k]? = some x) :
    ∃ g, A = some ⟨g, 0, none⟩ ∧ base ≤ g ∧ g < w.heap.size ∧ w.cell? ⟨g, k, none⟩ = some (.int .i64 x) ∧ w.frozen? ⟨g, k, none⟩ = false := by
  unfold IOwn at h
  rw [hl] at h
  have hk : k < n := by rw [← hl]; exact (List.getElem?_eq_some_iff.1 hx).1
  rcases h.2 with ⟨e, h0⟩ | ⟨g, cap', cur, e, hg, hh, _⟩
  · omega
  · injection e with e1 e2 e3
    subst e1
    exact ⟨g, rfl, hg, (Array.getElem?_eq_some_iff.1 hh).1, by rw [h.cellAt k (by omega)]; simp [hx], h.frozenAt k⟩
theorem IOwn.stored {w : World} {base n cap g : Nat} {l : List Int} (h : IOwn w base (.slice (some ⟨g, 0, none⟩) n cap) l) (hl : l.length = n) (k : Nat) (x : Int) :
    IOwn (w.setCell ⟨g, k, none⟩ (.int .i64 x)) base (.slice (some ⟨g, 0, none⟩) n cap) (l.set k x) := by
  unfold IOwn at h ⊢
  rw [List.length_set]
  rw [hl] at h ⊢
  have := (h.stored k (.int .i64 x)).1
  rwa [← List.map_set] at this
theorem IOwn.alloc {w : World} {base : Nat} {v : Value} {l : List Int} (h : IOwn w base v l) (o : Obj) : IOwn (w.alloc o) base v l := World.ownsRow.alloc h o
theorem IOwn.drew {w : World} {base : Nat} {v : Value} {l : List Int} (h : IOwn w base v l) : IOwn w.drew base v l := h

/-- what makes a row of ints -/
def IPost (l : List Int) (w : World) (e : Ending) (w' : World) : Prop := ∃ v, e = .returned v ∧ IOwn w' w.heap.size v l ∧ Below w.heap.size w w'

set_option maxRecDepth 100000 in
theorem cloneI_any (A : Option Addr) (n c B : Nat) (l : List Int) (w : World) (hr : IReads w B A n l) (hB : B ≤ w.heap.size) (hn : n ≤ 100000000) (hA : A = none → c = 0) :
    Calls Try.prog 37 #[.slice A n c] w (IPost l w) := by
  have hl := hr.len
  rcases A with _ | a
  · have hn0 : n = 0 := by
      rcases Nat.eq_zero_or_pos n with h | h
      · exact h
      · obtain ⟨_, _, e, _⟩ := Reads.spot hr h (by omega); cases e
    obtain rfl := hA rfl
    subst hn0
    obtain rfl : l = [] := List.eq_nil_of_length_eq_zero hl
    have hq := fun (W : World) => Lib.run_eql_slice_nil (P := Try.prog) W 22 3 none 0 0 0 0 Try.underlying22
    go_enter Try.func37, Try.ntmps37
    go_wp2_with fail
    go_ret
    exact ⟨_, rfl, IOwn.nil_ _ _, Below.refl _ _⟩
  · have hq := fun (W : World) => Lib.run_eql_slice_nil (P := Try.prog) W 22 3 (some a) n c 0 0 Try.underlying22
    have hown0 := own_new (w := w) (B := w.heap.size) [] 3 1 0 rfl (by decide) (Nat.le_refl _)
    have hra := Reads.alloc hr hB (.cells #[] 3)
    go_enter Try.func37, Try.ntmps37
    go_wp2_with (at_builtin; refine app_many elem_int (.tmp 5) (.tmp 6) rfl rfl rfl hown0 rfl hra (ints_one l) (by omega) (by rw [World.size_alloc]; omega) ?_; intro v2 w2 hown2 hb2 _)
    go_ret
    refine ⟨v2, rfl, ?_, ((Below.refl _ _).alloc (Nat.le_refl _) _).trans hb2⟩
    unfold IOwn; rw [hl]; simpa using hown2

theorem sort_any (v : Value) (l : List Int) (base : Nat) (w : World) (h : IOwn w base v l) (hB : base ≤ w.heap.size) (hn : l.length ≤ 100000000) :
    Calls Try.prog 65 #[v] w fun e w' => e = .returned (.tuple #[]) ∧ IOwn w' base v (sortL l) ∧ w.grownBy w' v.ownBlock ∧ Below base w w' := by
  rcases h.2 with ⟨rfl, h0⟩ | ⟨g, cap, cur, rfl, hg, hh, h1, h2, h3, h4⟩
  · have : l = [] := List.length_eq_zero_iff.1 h0
    subst this
    refine (Try.slices_Sort_int_none none 0 w).mono ?_
    rintro e w' ⟨rfl, rfl⟩
    exact ⟨rfl, by rw [show sortL [] = [] by simp [sortL]]; exact IOwn.nil_ _ _, World.grownBy.refl _ _, Below.refl _ _⟩
  · have hlt : g < w.heap.size := (Array.getElem?_eq_some_iff.1 hh).1
    refine (Try.slices_Sort_int g 0 cap l w (holds_of_blockI hh (by simpa using h4)) hlt (by omega)).mono ?_
    rintro e w' ⟨rfl, n, os, rfl⟩
    have hgr : w.grownBy _ (some g) := grownBy_sortedI (w := w) (n := n) (os := os) (sortL l).toArray
    refine ⟨rfl, ?_, hgr, (Below.refl base w).grown hgr hB (fun k e => by cases e; exact hg)⟩
    have := ownsRow_sortedI (w := w) (n := n) (os := os) (ss := l) (ts := sortL l) (sortL_len l) hg hh h1 h2 (by simpa using h3)
    unfold IOwn; rw [sortL_len]; exact this
end Go.Proofs.Ytopncifebldklaa
/- Plain laws of trees: how many leaves, how deep; no program in sight. Conditions: a tree that is right. -/
namespace Go.Proofs.Ytopncifebldklaa
set_option linter.unusedVariables false
set_option linter.unusedSimpArgs false
open Go.RowKit

/-- a row of the call's own stays so where all that was there stays -/
theorem own_below {w w' : World} {base : Nat} {e : TypeId} {size n : Nat} {v : Value} {xs : List Value} (h : w.ownsRow base e size v n xs) (hb : Below w.heap.size w w') : w'.ownsRow base e size v n xs := by
  refine ⟨h.1, ?_⟩
  rcases h.2 with hn | ⟨g, cap, cur, rfl, hg, hh, rest⟩
  · exact .inl hn
  · exact .inr ⟨g, cap, cur, rfl, hg, (hb.block g (Array.getElem?_eq_some_iff.1 hh).1).trans hh, rest⟩

/-! ### sums -/
def sumTo (f : Nat → Nat) : Nat → Nat
  | 0 => 0
  | n + 1 => sumTo f n + f n
theorem sumTo_add (f g : Nat → Nat) (n : Nat) : sumTo (fun j => f j + g j) n = sumTo f n + sumTo g n := by
  induction n with
  | zero => rfl
  | succ n ih => simp only [sumTo, ih]; omega
theorem sumTo_congr {f g : Nat → Nat} {n : Nat} (h : ∀ j, j < n → f j = g j) : sumTo f n = sumTo g n := by
  induction n with
  | zero => rfl
  | succ n ih => rw [sumTo, sumTo, ih (fun j hj => h j (by omega)), h n (by omega)]
theorem sumTo_zero (n : Nat) : sumTo (fun _ => 0) n = 0 := by
  induction n with
  | zero => rfl
  | succ n ih => rw [sumTo, ih]
theorem sumTo_one (a : Nat) (g : Nat → Nat) (n : Nat) : sumTo (fun j => (if a = j then 1 else 0) * g j) n = if a < n then g a else 0 := by
  induction n with
  | zero => simp [sumTo]
  | succ n ih =>
    rw [sumTo, ih]
    by_cases h1 : a = n
    · subst h1; simp
    · by_cases h2 : a < n
      · rw [if_pos h2, if_neg h1, if_pos (by omega)]; omega
      · rw [if_neg h2, if_neg h1, if_neg (by omega)]; omega
theorem sumTo_one_int (a : Int) (h0 : 0 ≤ a) (g : Nat → Nat) (n : Nat) (hn : a < n) : sumTo (fun j => (if a = (j : Int) then 1 else 0) * g j) n = g a.toNat := by
  have : sumTo (fun j => (if a = (j : Int) then 1 else 0) * g j) n = sumTo (fun j => (if a.toNat = j then 1 else 0) * g j) n := by
    refine sumTo_congr fun j _ => ?_
    by_cases h : a = (j : Int)
    · rw [if_pos h, if_pos (by omega)]
    · rw [if_neg h, if_neg (by omega)]
  rw [this, sumTo_one, if_pos (by omega)]
/-- what the nodes of a list sum up of g over what is below them -/
def kids (g : Nat → Nat) : List Nd → Nat
  | [] => 0
  | n :: r => (if n.f = -1 then 0 else g n.l.toNat + g n.r.toNat) + kids g r
theorem kids_eq (g : Nat → Nat) (N : Nat) : ∀ t : List Nd, (∀ n ∈ t, n.f ≠ -1 → 0 ≤ n.l ∧ n.l < N ∧ 0 ≤ n.r ∧ n.r < N) → sumTo (fun j => ups t j * g j) N = kids g t := by
  intro t
  induction t with
  | nil => intro _; simp [ups, kids, sumTo_zero]
  | cons n r ih =>
    intro h
    rw [kids, ← ih (fun x hx => h x (List.mem_cons_of_mem _ hx))]
    have e : sumTo (fun j => ups (n :: r) j * g j) N = sumTo (fun j => kid n j * g j) N + sumTo (fun j => ups r j * g j) N := by
      rw [← sumTo_add]
      exact sumTo_congr fun j _ => by rw [ups, Nat.add_mul]
    rw [e]
    congr 1
    by_cases hf : n.f = -1
    · rw [if_pos hf]
      rw [sumTo_congr (g := fun _ => 0) (fun j _ => by unfold kid; rw [if_pos hf, Nat.zero_mul]), sumTo_zero]
    · rw [if_neg hf]
      obtain ⟨h1, h2, h3, h4⟩ := h n (List.mem_cons_self ..) hf
      rw [sumTo_congr (g := fun j => (if n.l = (j : Int) then 1 else 0) * g j + (if n.r = (j : Int) then 1 else 0) * g j) (fun j _ => by unfold kid; rw [if_neg hf, Nat.add_mul]), sumTo_add,
        sumTo_one_int _ h1 g N h2, sumTo_one_int _ h3 g N h4]

theorem ups_first {t : List Nd} (h : ∀ n ∈ t, n.f ≠ -1 → 0 < n.l ∧ 0 < n.r) : ups t 0 = 0 := by
  induction t with
  | nil => rfl
  | cons n r ih =>
    rw [ups, ih (fun x hx => h x (List.mem_cons_of_mem _ hx))]
    unfold kid
    by_cases hf : n.f = -1
    · rw [if_pos hf]
    · have := h n (List.mem_cons_self ..) hf
      rw [if_neg hf, if_neg (by omega), if_neg (by omega)]
theorem mem_at {t : List Nd} {n : Nd} (h : n ∈ t) : ∃ i : Nat, t[i]? = some n := List.mem_iff_getElem?.1 h
/-- of a right tree: all nodes but the root are below one -/
theorem Right.sum {t : List Nd} {fe : Int} (h : Right t fe) (g : Nat → Nat) : sumTo g t.length = g 0 + kids g t := by
  have hb := h.behind
  rw [← kids_eq g t.length t (fun n hn hf => by obtain ⟨i, hi⟩ := mem_at hn; obtain ⟨a, b, c, d⟩ := hb i n hi hf; exact ⟨by omega, b, by omega, d⟩)]
  have h0 := ups_first (t := t) (fun n hn hf => by obtain ⟨i, hi⟩ := mem_at hn; obtain ⟨a, b, c, d⟩ := hb i n hi hf; exact ⟨by omega, by omega⟩)
  have key : ∀ N : Nat, 0 < N → N ≤ t.length → sumTo g N = g 0 + sumTo (fun j => ups t j * g j) N := by
    intro N
    induction N with
    | zero => intro h; omega
    | succ N ih =>
      intro _ hN
      rcases Nat.eq_zero_or_pos N with rfl | hp
      · simp [sumTo, h0]
      · rw [sumTo, ih hp (by omega), sumTo, h.one N hp (by omega)]; omega
  exact key _ h.pos (Nat.le_refl _)

/-! ### how many leaves are below a node -/
def cnts (i : Nat) : List Nd → List Nat
  | [] => []
  | n :: r => (if n.f = -1 then 1 else (cnts (i + 1) r).getD (n.l.toNat - (i + 1)) 0 + (cnts (i + 1) r).getD (n.r.toNat - (i + 1)) 0) :: cnts (i + 1) r
def cnt (t : List Nd) (j : Nat) : Nat := (cnts 0 t).getD j 0
theorem cnts_len : ∀ (t : List Nd) (i : Nat), (cnts i t).length = t.length := by
  intro t
  induction t with
  | nil => intro i; rfl
  | cons n r ih => intro i; rw [cnts, List.length_cons, ih, List.length_cons]
theorem cnts_drop : ∀ (t : List Nd) (i k : Nat), (cnts i t).drop k = cnts (i + k) (t.drop k) := by
  intro t
  induction t with
  | nil => intro i k; simp [cnts]
  | cons n r ih =>
    intro i k
    cases k with
    | zero => rfl
    | succ k => rw [cnts, List.drop_succ_cons, ih, List.drop_succ_cons, show i + 1 + k = i + (k + 1) by omega]
theorem cnt_at {t : List Nd} {i : Nat} {n : Nd} (h : t[i]? = some n) (hl : n.f ≠ -1 → (i : Int) < n.l) (hr : n.f ≠ -1 → (i : Int) < n.r) : cnt t i = if n.f = -1 then 1 else cnt t n.l.toNat + cnt t n.r.toNat := by
  have h1 := cnts_drop t 0 i
  rw [Nat.zero_add, drop_at h, cnts] at h1
  have hi : i < (cnts 0 t).length := by rw [cnts_len]; exact (List.getElem?_eq_some_iff.1 h).1
  have h2 : (cnts 0 t)[i]? = some ((cnts 0 t)[i]) := List.getElem?_eq_getElem hi
  have h3 := drop_at h2
  rw [h1] at h3
  injection h3 with h4 h5
  unfold cnt
  rw [List.getD_eq_getElem?_getD, h2, Option.getD_some, ← h4]
  by_cases hf : n.f = -1
  · rw [if_pos hf, if_pos hf]
  · rw [if_neg hf, if_neg hf]
    have key : ∀ m : Nat, i < m → (cnts (i + 1) (t.drop (i + 1))).getD (m - (i + 1)) 0 = (cnts 0 t).getD m 0 := by
      intro m hm
      rw [h5, List.getD_eq_getElem?_getD, List.getElem?_drop, List.getD_eq_getElem?_getD, show i + 1 + (m - (i + 1)) = m by omega]
    rw [key _ (by have := hl hf; omega), key _ (by have := hr hf; omega)]

theorem cnt_dep {t : List Nd} (hb : Behind t) : ∀ (m i : Nat), i < t.length → t.length ≤ i + m → dep t i + 1 ≤ cnt t i ∧ cnt t i ≤ 2 ^ dep t i := by
  intro m
  induction m with
  | zero => intro i h1 h2; omega
  | succ m ih =>
    intro i h1 h2
    have hn : t[i]? = some t[i] := List.getElem?_eq_getElem h1
    have hx := fun hf => hb i _ hn hf
    rw [dep_at hn (fun hf => (hx hf).1) (fun hf => (hx hf).2.2.1), cnt_at hn (fun hf => (hx hf).1) (fun hf => (hx hf).2.2.1)]
    by_cases hf : (t[i]).f = -1
    · rw [if_pos hf, if_pos hf]; exact ⟨Nat.le_refl _, Nat.le_refl _⟩
    · rw [if_neg hf, if_neg hf]
      obtain ⟨a, b, c, d⟩ := hx hf
      obtain ⟨p1, p2⟩ := ih (t[i]).l.toNat (by omega) (by omega)
      obtain ⟨q1, q2⟩ := ih (t[i]).r.toNat (by omega) (by omega)
      generalize dep t (t[i]).l.toNat = x at *
      generalize dep t (t[i]).r.toNat = y at *
      have e1 : 2 ^ x ≤ 2 ^ max x y := Nat.pow_le_pow_right (by omega) (Nat.le_max_left _ _)
      have e2 : 2 ^ y ≤ 2 ^ max x y := Nat.pow_le_pow_right (by omega) (Nat.le_max_right _ _)
      have e3 : 2 ^ (1 + max x y) = 2 ^ max x y + 2 ^ max x y := by rw [Nat.add_comm, Nat.pow_succ]; omega
      refine ⟨by omega, by omega⟩

def nLeaf : List Nd → Nat
  | [] => 0
  | n :: r => (if n.f = -1 then 1 else 0) + nLeaf r
theorem leavesFrom_count (t : List Nd) : ∀ i, (leavesFrom i t).length = nLeaf t := by
  induction t with
  | nil => intro i; rfl
  | cons n r ih =>
    intro i
    rw [leavesFrom, nLeaf]
    split <;> simp [ih]; omega
theorem kids_const (t : List Nd) : kids (fun _ => 1) t + 2 * nLeaf t = 2 * t.length := by
  induction t with
  | nil => rfl
  | cons n r ih => rw [kids, nLeaf, List.length_cons]; split <;> omega
theorem sumTo_const (n : Nat) : sumTo (fun _ => 1) n = n := by
  induction n with
  | zero => rfl
  | succ n ih => rw [sumTo, ih]
/-- one more are leaves than ask -/
theorem Right.halves {t : List Nd} {fe : Int} (h : Right t fe) : 2 * nLeaf t = t.length + 1 := by
  have h1 := h.sum (fun _ => 1)
  rw [sumTo_const] at h1
  have h2 := kids_const t
  omega
theorem sum_list (g : Nat → Nat) : ∀ (t : List Nd) (i : Nat), sumTo (fun j => g (i + j)) t.length + sumTo g i = sumTo g (i + t.length) := by
  intro t
  induction t with
  | nil => intro i; simp [sumTo]
  | cons n r ih =>
    intro i
    rw [List.length_cons, sumTo, show i + (r.length + 1) = (i + r.length) + 1 by omega, sumTo, ← ih i]
    omega
/-- all leaves are below the root -/
theorem Right.all_below {t : List Nd} {fe : Int} (h : Right t fe) : nLeaf t = cnt t 0 := by
  have hb := h.behind
  have h1 := h.sum (cnt t)
  have key : ∀ k : Nat, k ≤ t.length → sumTo (cnt t) k = nLeaf (t.take k) + kids (cnt t) (t.take k) := by
    intro k
    induction k with
    | zero => intro _; simp [sumTo, nLeaf, kids]
    | succ k ih =>
      intro hk
      have hn : t[k]? = some t[k] := List.getElem?_eq_getElem (by omega)
      have hx := fun hf => hb k _ hn hf
      have ap : ∀ (a : List Nd) (n : Nd), nLeaf (a ++ [n]) = nLeaf a + (if n.f = -1 then 1 else 0) ∧ kids (cnt t) (a ++ [n]) = kids (cnt t) a + (if n.f = -1 then 0 else cnt t n.l.toNat + cnt t n.r.toNat) := by
        intro a n
        induction a with
        | nil => simp [nLeaf, kids]
        | cons y a ih2 => rw [List.cons_append, nLeaf, kids, ih2.1, ih2.2, nLeaf, kids]; omega
      rw [sumTo, ih (by omega), take_next hn, (ap _ _).1, (ap _ _).2, cnt_at hn (fun hf => (hx hf).1) (fun hf => (hx hf).2.2.1)]
      split <;> omega
  have h2 := key t.length (Nat.le_refl _)
  rw [List.take_length] at h2
  omega
theorem Right.bounds {t : List Nd} {fe : Int} (h : Right t fe) : dep t 0 + 1 ≤ nLeaf t ∧ nLeaf t ≤ 2 ^ dep t 0 := by
  rw [h.all_below]
  exact cnt_dep h.behind t.length 0 h.pos (by omega)
end Go.Proofs.Ytopncifebldklaa
