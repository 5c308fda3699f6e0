/- Part 9 of what LawBoostTells needs: CutMath, Ints, Reach, Reach2. Conditions: as each lemma names. -/
import Derived.Lib.SlicesCompact
import Derived.Test.YtdpijhnbhopnbaaGreatDoorPkBoostTells08
import Derived.Test.YtdpijhnbhopnbaaGreatDoorPkBoostTells02
import Derived.Test.YtdpijhnbhopnbaaGreatDoorShelf
import Derived.Sort.OwnSortedInts
import Derived.Lib.SliceRun
import Derived.Test.YtdpijhnbhopnbaaGreatDoorPkBoostTells06
/- Chapter 2 in plain words: cuts together, bins, cuts of values. No program in sight. Conditions: as each lemma names. -/
namespace Go.Proofs.YtdpijhnbhopnbaaGreatDoor
set_option linter.unusedVariables false

/-- what slices.Compact makes of a sorted list: each once, rising -/
theorem compactUpTo_spec (d : Array Int) (hs : ∀ i j, i ≤ j → j < d.size → d[i]! ≤ d[j]!) : ∀ m, m ≤ d.size →
    (Lib.compactUpTo d m).Pairwise (· < ·) ∧ (∀ x ∈ Lib.compactUpTo d m, ∃ j, j < m ∧ x = d[j]!) ∧ ∀ j, j < m → d[j]! ∈ Lib.compactUpTo d m := by
  intro m
  induction m with
  | zero => intro _; refine ⟨by simp [Lib.compactUpTo], fun x hx => by simp [Lib.compactUpTo] at hx, fun j hj => absurd hj (by omega)⟩
  | succ m ih =>
    intro hm
    obtain ⟨h1, h2, h3⟩ := ih (by omega)
    rw [Lib.compactUpTo_succ]
    by_cases hk : Lib.keeps d m = true
    · rw [if_pos hk]
      refine ⟨List.pairwise_append.2 ⟨h1, by simp, ?_⟩, ?_, ?_⟩
      · intro x hx y hy
        obtain rfl := List.mem_singleton.1 hy
        obtain ⟨j, hj, rfl⟩ := h2 x hx
        have ha := hs j (m - 1) (by omega) (by omega)
        have hb := hs (m - 1) m (by omega) (by omega)
        have hc : d[m]! ≠ d[m - 1]! := by
          simp [Lib.keeps] at hk
          rcases hk with hk | hk
          · omega
          · exact hk
        omega
      · intro x hx
        rcases List.mem_append.1 hx with hx | hx
        · obtain ⟨j, hj, e⟩ := h2 x hx; exact ⟨j, by omega, e⟩
        · exact ⟨m, by omega, List.mem_singleton.1 hx⟩
      · intro j hj
        rcases Nat.lt_or_ge j m with h | h
        · exact List.mem_append_left _ (h3 j h)
        · obtain rfl : j = m := by omega
          exact List.mem_append_right _ (by simp)
    · rw [if_neg hk, List.append_nil]
      refine ⟨h1, fun x hx => ?_, fun j hj => ?_⟩
      · obtain ⟨j, hj, e⟩ := h2 x hx; exact ⟨j, by omega, e⟩
      · rcases Nat.lt_or_ge j m with h | h
        · exact h3 j h
        · obtain rfl : j = m := by omega
          have hk' : j ≠ 0 ∧ d[j]! = d[j - 1]! := by
            simp [Lib.keeps] at hk
            exact hk
          rw [hk'.2]; exact h3 (j - 1) (by omega)

def compactL (l : List Int) : List Int := Lib.compact l
theorem compactL_sorted {l : List Int} (h : l.Pairwise (· ≤ ·)) : (compactL l).Pairwise (· < ·) ∧ ∀ x, x ∈ compactL l ↔ x ∈ l := by
  have hs : ∀ i j, i ≤ j → j < l.toArray.size → l.toArray[i]! ≤ l.toArray[j]! := by
    intro i j hij hj
    simp at hj
    have hpw := List.pairwise_iff_getElem.1 h
    rcases Nat.eq_or_lt_of_le hij with rfl | hlt
    · exact Int.le_refl _
    · have := hpw i j (by omega) hj hlt
      simpa [hj, show i < l.length by omega] using this
  obtain ⟨h1, h2, h3⟩ := compactUpTo_spec l.toArray hs l.length (by simp)
  refine ⟨h1, fun x => ⟨fun hx => ?_, fun hx => ?_⟩⟩
  · obtain ⟨j, hj, e⟩ := h2 x hx
    rw [e]; simp [hj]
  · obtain ⟨j, hj, rfl⟩ := List.getElem_of_mem hx
    have := h3 j hj
    simpa [hj, compactL, Lib.compact] using this
theorem strict_one {a b : List Int} (ha : a.Pairwise (· < ·)) (hb : b.Pairwise (· < ·)) (h : ∀ x, x ∈ a ↔ x ∈ b) : a = b := by
  induction a generalizing b with
  | nil =>
    cases b with
    | nil => rfl
    | cons y s => exact absurd ((h y).2 (by simp)) (by simp)
  | cons x r ih =>
    cases b with
    | nil => exact absurd ((h x).1 (by simp)) (by simp)
    | cons y s =>
      rw [List.pairwise_cons] at ha hb
      have e : x = y := by
        have h1 := (h x).1 (by simp)
        have h2 := (h y).2 (by simp)
        rcases List.mem_cons.1 h1 with h1 | h1
        · exact h1
        · rcases List.mem_cons.1 h2 with h2 | h2
          · exact h2.symm
          · have := ha.1 y h2; have := hb.1 x h1; omega
      subst e
      rw [ih ha.2 hb.2 fun z => ?_]
      constructor
      · intro hz
        rcases List.mem_cons.1 ((h z).1 (List.mem_cons_of_mem _ hz)) with e | e
        · subst e; have := ha.1 z hz; omega
        · exact e
      · intro hz
        rcases List.mem_cons.1 ((h z).2 (List.mem_cons_of_mem _ hz)) with e | e
        · subst e; have := hb.1 z hz; omega
        · exact e

def mergeV (a b : List Int) : List Int := compactL (sortL (a ++ b))
theorem mergeV_spec (a b : List Int) : (mergeV a b).Pairwise (· < ·) ∧ ∀ x, x ∈ mergeV a b ↔ x ∈ a ∨ x ∈ b := by
  obtain ⟨h1, h2⟩ := compactL_sorted (sortL_sorted (a ++ b))
  refine ⟨h1, fun x => ?_⟩
  unfold mergeV
  rw [h2, (sortL_perm (a ++ b)).mem_iff, List.mem_append]

/-- how many are at most x -/
def bins (l : List Int) (x : Int) : Nat := (l.filter fun c => decide (c ≤ x)).length
theorem bins_le (l : List Int) (x : Int) : bins l x ≤ l.length := List.length_filter_le _ _
theorem bins_mono {x y : Int} (h : x ≤ y) : ∀ l, bins l x ≤ bins l y
  | [] => Nat.le_refl _
  | c :: r => by
    have := bins_mono h r
    unfold bins at *
    by_cases h1 : c ≤ x
    · have h2 : c ≤ y := by omega
      simp [h1, h2]; exact this
    · by_cases h2 : c ≤ y
      · simp [h1, h2]; omega
      · simp [h1, h2]; exact this
/-- two numbers are in one bin just where no cut parts them -/
theorem bins_eq {x y : Int} (h : x ≤ y) : ∀ l, bins l x = bins l y ↔ ∀ c ∈ l, ¬ (x < c ∧ c ≤ y)
  | [] => by simp [bins]
  | c :: r => by
    have ih := bins_eq h r
    have hm := bins_mono h r
    have e1 : bins (c :: r) x = bins r x + if c ≤ x then 1 else 0 := by unfold bins; by_cases h1 : c ≤ x <;> simp [h1]
    have e2 : bins (c :: r) y = bins r y + if c ≤ y then 1 else 0 := by unfold bins; by_cases h1 : c ≤ y <;> simp [h1]
    rw [e1, e2]
    constructor
    · intro e d hd
      rcases List.mem_cons.1 hd with rfl | hd
      · split at e <;> split at e <;> omega
      · have : bins r x = bins r y := by split at e <;> split at e <;> omega
        exact ih.1 this d hd
    · intro hall
      have h1 := ih.2 fun d hd => hall d (List.mem_cons_of_mem _ hd)
      have h2 := hall c (by simp)
      rw [h1]
      split <;> split <;> omega
theorem bins_merge {a b : List Int} {x y : Int} : (bins (mergeV a b) x = bins (mergeV a b) y) ↔ (bins a x = bins a y ∧ bins b x = bins b y) := by
  have key : ∀ {x y : Int}, x ≤ y → ((bins (mergeV a b) x = bins (mergeV a b) y) ↔ (bins a x = bins a y ∧ bins b x = bins b y)) := by
    intro x y h
    rw [bins_eq h, bins_eq h, bins_eq h]
    have hm := (mergeV_spec a b).2
    constructor
    · intro hh; exact ⟨fun c hc => hh c ((hm c).2 (.inl hc)), fun c hc => hh c ((hm c).2 (.inr hc))⟩
    · rintro ⟨h1, h2⟩ c hc
      rcases (hm c).1 hc with hc | hc
      · exact h1 c hc
      · exact h2 c hc
  rcases Int.le_total x y with h | h
  · exact key h
  · rw [eq_comm, key h, eq_comm (a := bins a y), eq_comm (a := bins b y)]
end Go.Proofs.YtdpijhnbhopnbaaGreatDoor
/- Rows of ints of the call's own: slices.Clone, slices.Sort and slices.Compact at them, by the shelf's contracts. Conditions: as each lemma names. -/
namespace Go.Proofs.YtdpijhnbhopnbaaGreatDoor
set_option linter.unusedVariables false
set_option linter.unusedSimpArgs false
open Go.RowKit

theorem ints_one (l : List Int) : ∀ u ∈ l.map (Value.int .i64), u.oneCell' = true := by
  intro u hu
  obtain ⟨x, _, rfl⟩ := List.mem_map.1 hu
  rfl

/-- a row of ints of the call's own -/
def IOwn (w : World) (base : Nat) (v : Value) (l : List Int) : Prop := w.ownsRow base 3 1 v l.length (l.map (Value.int .i64))
theorem IOwn.nil_ (w : World) (base : Nat) : IOwn w base (.slice none 0 0) [] := World.ownsRow_nil _ _ _ _
theorem IOwn.slice_ {w : World} {base : Nat} {v : Value} {l : List Int} (h : IOwn w base v l) : ∃ A c, v = .slice A l.length c ∧ IReads w w.heap.size A l.length l ∧ l.length ≤ maxLen ∧ l.length ≤ c ∧ (A = none → c = 0) := by
  rcases h.2 with ⟨rfl, h0⟩ | ⟨g, cap, cur, rfl, _, _, h1, h2, _⟩
  · rw [h0]
    exact ⟨none, 0, rfl, ⟨by rw [h.1, h0], fun h => absurd h (by omega)⟩, Nat.zero_le _, Nat.le_refl _, fun _ => rfl⟩
  · exact ⟨_, _, rfl, Reads.of_own h, Nat.le_trans h1 h2, h1, fun h => by cases h⟩
theorem own_cap {w : World} {base n c : Nat} {A : Option Addr} {l : List Int} (h : IOwn w base (.slice A n c) l) : c ≤ maxLen := by
  rcases h.2 with ⟨e, _⟩ | ⟨g, cap, cur, e, _, _, h1, h2, _⟩
  · injection e with _ _ e3; omega
  · injection e with _ _ e3; omega
/-- owned rows over a call that leaves all below a bound -/
theorem IOwn.below {w w' : World} {base B : Nat} {v : Value} {l : List Int} (h : IOwn w base v l) (hb : Below B w w') (hB : w.heap.size ≤ B) : IOwn w' base v l := by
  rcases h.2 with ⟨rfl, h0⟩ | ⟨g, cap, cur, rfl, hg, hh, h1⟩
  · have : l = [] := List.length_eq_zero_iff.1 h0
    subst this; exact IOwn.nil_ _ _
  · have hlt : g < w.heap.size := (Array.getElem?_eq_some_iff.1 hh).1
    exact ⟨h.1, .inr ⟨g, cap, cur, rfl, hg, (hb.block g (by omega)).trans hh, h1⟩⟩
theorem IOwn.low {w : World} {base base' : Nat} {v : Value} {l : List Int} (h : IOwn w base v l) (hb : base' ≤ base) : IOwn w base' v l := by
  rcases h.2 with ⟨rfl, h0⟩ | ⟨g, cap, cur, rfl, hg, h1⟩
  · have : l = [] := List.length_eq_zero_iff.1 h0
    subst this; exact IOwn.nil_ _ _
  · exact ⟨h.1, .inr ⟨g, cap, cur, rfl, by omega, h1⟩⟩

theorem IReads.take_ {w : World} {B n m : Nat} {A : Option Addr} {l : List Int} (h : IReads w B A n l) (hm : m ≤ n) : IReads w B A m (l.take m) := by
  have hl := h.len
  refine ⟨by simp; omega, fun h0 => ?_⟩
  obtain ⟨ad, e, hb, hc⟩ := h.2 (by omega)
  refine ⟨ad, e, hb, fun j u hu => hc j u ?_⟩
  rw [List.map_take] at hu
  rw [List.getElem?_take] at hu
  split at hu
  · exact hu
  · cases hu
theorem IOwn.at_ {w : World} {base n cap : Nat} {A : Option Addr} {l : List Int} (h : IOwn w base (.slice A n cap) l) (hl : l.length = n) {k : Nat} {x : Int} (hx : l[k]? = some x) :
    ∃ g, A = some ⟨g, 0, none⟩ ∧ base ≤ g ∧ g < w.heap.size ∧ w.cell? ⟨g, k, none⟩ = some (.int .i64 x) ∧ w.frozen? ⟨g, k, none⟩ = false := by
  unfold IOwn at h
  rw [hl] at h
  have hk : k < n := by rw [← hl]; exact (List.getElem?_eq_some_iff.1 hx).1
  rcases h.2 with ⟨e, h0⟩ | ⟨g, cap', cur, e, hg, hh, _⟩
  · omega
  · injection e with e1 e2 e3
    subst e1
    exact ⟨g, rfl, hg, (Array.getElem?_eq_some_iff.1 hh).1, by rw [h.cellAt k (by omega)]; simp [hx], h.frozenAt k⟩
theorem IOwn.stored {w : World} {base n cap g : Nat} {l : List Int} (h : IOwn w base (.slice (some ⟨g, 0, none⟩) n cap) l) (hl : l.length = n) (k : Nat) (x : Int) :
    IOwn (w.setCell ⟨g, k, none⟩ (.int .i64 x)) base (.slice (some ⟨g, 0, none⟩) n cap) (l.set k x) := by
  unfold IOwn at h ⊢
  rw [List.length_set]
  rw [hl] at h ⊢
  have := (h.stored k (.int .i64 x)).1
  rwa [← List.map_set] at this
theorem IOwn.alloc {w : World} {base : Nat} {v : Value} {l : List Int} (h : IOwn w base v l) (o : Obj) : IOwn (w.alloc o) base v l := World.ownsRow.alloc h o
theorem IOwn.drew {w : World} {base : Nat} {v : Value} {l : List Int} (h : IOwn w base v l) : IOwn w.drew base v l := h

/-- what makes a row of ints -/
def IPost (l : List Int) (w : World) (e : Ending) (w' : World) : Prop := ∃ v, e = .returned v ∧ IOwn w' w.heap.size v l ∧ Below w.heap.size w w'

set_option maxRecDepth 100000 in
theorem cloneI_any (A : Option Addr) (n c B : Nat) (l : List Int) (w : World) (hr : IReads w B A n l) (hB : B ≤ w.heap.size) (hn : n ≤ 100000000) (hA : A = none → c = 0) :
    Calls Tryz.prog 43 #[.slice A n c] w (IPost l w) := by
  have hl := hr.len
  rcases A with _ | a
  · have hn0 : n = 0 := by
      rcases Nat.eq_zero_or_pos n with h | h
      · exact h
      · obtain ⟨_, _, e, _⟩ := Reads.spot hr h (by omega); cases e
    obtain rfl := hA rfl
    subst hn0
    obtain rfl : l = [] := List.eq_nil_of_length_eq_zero hl
    have hq := fun (W : World) => Lib.run_eql_slice_nil (P := Tryz.prog) W 23 3 none 0 0 0 0 Tryz.underlying23
    go_enter Tryz.func43, Tryz.ntmps43
    go_wp2_with fail
    go_ret
    exact ⟨_, rfl, IOwn.nil_ _ _, Below.refl _ _⟩
  · have hq := fun (W : World) => Lib.run_eql_slice_nil (P := Tryz.prog) W 23 3 (some a) n c 0 0 Tryz.underlying23
    have hown0 := own_new (w := w) (B := w.heap.size) [] 3 1 0 rfl (by decide) (Nat.le_refl _)
    have hra := Reads.alloc hr hB (.cells #[] 3)
    go_enter Tryz.func43, Tryz.ntmps43
    go_wp2_with (at_builtin; refine app_many elem_int (.tmp 5) (.tmp 6) rfl rfl rfl hown0 rfl hra (ints_one l) (by omega) (by rw [World.size_alloc]; omega) ?_; intro v2 w2 hown2 hb2 _)
    go_ret
    refine ⟨v2, rfl, ?_, ((Below.refl _ _).alloc (Nat.le_refl _) _).trans hb2⟩
    unfold IOwn; rw [hl]; simpa using hown2

theorem sort_any (v : Value) (l : List Int) (base : Nat) (w : World) (h : IOwn w base v l) (hB : base ≤ w.heap.size) (hn : l.length ≤ 100000000) :
    Calls Tryz.prog 58 #[v] w fun e w' => e = .returned (.tuple #[]) ∧ IOwn w' base v (sortL l) ∧ w.grownBy w' v.ownBlock ∧ Below base w w' := by
  rcases h.2 with ⟨rfl, h0⟩ | ⟨g, cap, cur, rfl, hg, hh, h1, h2, h3, h4⟩
  · have : l = [] := List.length_eq_zero_iff.1 h0
    subst this
    refine (Tryz.slices_Sort_int_none none 0 w).mono ?_
    rintro e w' ⟨rfl, rfl⟩
    exact ⟨rfl, by rw [show sortL [] = [] by simp [sortL]]; exact IOwn.nil_ _ _, World.grownBy.refl _ _, Below.refl _ _⟩
  · have hlt : g < w.heap.size := (Array.getElem?_eq_some_iff.1 hh).1
    refine (Tryz.slices_Sort_int g 0 cap l w (holds_of_blockI hh (by simpa using h4)) hlt (by omega)).mono ?_
    rintro e w' ⟨rfl, n, os, rfl⟩
    have hgr : w.grownBy _ (some g) := grownBy_sortedI (w := w) (n := n) (os := os) (sortL l).toArray
    refine ⟨rfl, ?_, hgr, (Below.refl base w).grown hgr hB (fun k e => by cases e; exact hg)⟩
    have := ownsRow_sortedI (w := w) (n := n) (os := os) (ss := l) (ts := sortL l) (sortL_len l) hg hh h1 h2 (by simpa using h3)
    unfold IOwn; rw [sortL_len]; exact this
end Go.Proofs.YtdpijhnbhopnbaaGreatDoor
/- path.Region, path.Reach. Conditions: as each lemma names. -/
namespace Go.Proofs.YtdpijhnbhopnbaaGreatDoor
set_option linter.unusedVariables false
set_option linter.unusedSimpArgs false
open Go.RowKit

/-! ### Region's listener -/
def RegT (go : Nat) : World → Nat → Prop := fun _ k => k = go
def regE (t : List Nd) (fe leaf : Int) : Int := if treeE t fe = 0 then (match t[leaf.toNat]? with
  | some x => if leaf < 0 then 1 else if x.f = -1 then 0 else 1
  | none => 1) else treeE t fe
def mixL (l : List Sp) (k : Nat) : List Sp := (l.take k).map fixS ++ l.drop k
theorem mixL_at {l : List Sp} {k : Nat} : (mixL l k)[k]? = l[k]? := by
  unfold mixL
  by_cases h : k ≤ l.length
  · rw [List.getElem?_append_right (by simp; omega), List.getElem?_drop]
    congr 1
    simp; omega
  · rw [List.getElem?_append_right (by simp; omega), List.getElem?_drop, List.getElem?_eq_none (by simp; omega), List.getElem?_eq_none (by omega)]
theorem mixL_next {l : List Sp} {k : Nat} {s : Sp} (h : l[k]? = some s) : (mixL l k).set k (fixS s) = mixL l (k + 1) := by
  have hk : k < l.length := (List.getElem?_eq_some_iff.1 h).1
  unfold mixL
  rw [take_next h, drop_at h, List.set_append_right _ _ (by simp; omega), List.map_append, List.append_assoc]
  congr 1
  simp
  rw [show k - min k l.length = 0 by omega]
  rfl
theorem mixL_keep {l : List Sp} {k : Nat} {s : Sp} (h : l[k]? = some s) (hs : fixS s = s) : mixL l (k + 1) = mixL l k := by
  rw [← mixL_next h, hs]
  refine List.ext_getElem? fun j => ?_
  rw [List.getElem?_set]
  split
  · rename_i e; subst e
    split
    · rw [mixL_at, h]
    · rename_i h2; rw [List.getElem?_eq_none (by omega)]
  · rfl
/-- what Region tells -/
def RegPost (t : List Nd) (fe leaf : Int) (w : World) (e : Ending) (w' : World) : Prop :=
  ∃ A n c l, e = .returned (.tuple #[.slice A n c, .bool (regE t fe leaf == 0 && anyB l), errV (regE t fe leaf)]) ∧ SReads w' w'.heap.size A n l ∧ (regE t fe leaf = 0 → (n : Int) = fe ∧ l = (regL t fe.toNat leaf.toNat).map fixS) ∧ (regE t fe leaf ≠ 0 → n = 0) ∧ Below w.heap.size w w'
theorem RegPost.fault {t : List Nd} {fe leaf : Int} {w w' : World} (h : regE t fe leaf ≠ 0) (hb : Below w.heap.size w w') : RegPost t fe leaf w (.returned (.tuple #[.slice none 0 0, .bool false, errV (regE t fe leaf)])) w' :=
  ⟨none, 0, 0, [], by rw [show (regE t fe leaf == 0) = false by simpa using h]; rfl, ⟨rfl, fun h => absurd h (by omega)⟩, fun h' => absurd h' h, fun _ => rfl, hb⟩

end Go.Proofs.YtdpijhnbhopnbaaGreatDoor
/- path.Reach. Conditions: as each lemma names. -/
namespace Go.Proofs.YtdpijhnbhopnbaaGreatDoor
set_option linter.unusedVariables false
set_option linter.unusedSimpArgs false
open Go.RowKit

/-- append of one element onto a row of the call's own: and where it lies -/
theorem app_one_at {P : Program} {T E : TypeId} {z : Value} {size bytes : Nat} (hE : Elem P T E z size bytes) {ops : Array Oper} {rest : List Oper} {o : Oper} {a : Act} {Q : Exit → Act → World → Prop} {wr : World}
    (s x : Operand) (cs : List Value) (hgd : o.guard = none) (ho : o.op = .call { callee := .builtin .append, args := #[s, x], argTypes := #[T, T] })
    {base : Nat} {v : Value} {n : Nat} {xs : List Value} (hs : a.eval s = v) (hown : wr.ownsRow base E size v n xs) {g : Nat} (hx : a.eval x = .slice (some ⟨g, 0, none⟩) 1 1) (hgs : wr.heap.size = g)
    (hcs : cs.length = size) (h1 : ∀ u ∈ cs, u.oneCell' = true) (hn : n < 1000000000) (hbase : base ≤ wr.heap.size)
    (h : ∀ v' w', w'.ownsRow base E size v' (n + 1) (xs ++ cs) → Below base wr w' → (wr.alloc (.cells cs.toArray E)).grownBy w' v.ownBlock → (v'.ownBlock = v.ownBlock ∨ v'.ownBlock = some (wr.heap.size + 1)) → wpList P ops Q rest (a.put o.dst v') w') : wpList P ops Q (o :: rest) a (wr.alloc (.cells cs.toArray E)) := by
  subst hgs
  obtain ⟨i, hi, hz, hsz, hby⟩ := info_parts hE.info
  have hw := hE.wide
  refine wpList_append_any _ hgd s x T ho base E i z size bytes hE.und hi hz hsz hby hE.zs hE.pos v n xs hs (hown.alloc _) (wr.heap.size + 1) (some ⟨wr.heap.size, 0, none⟩) 1 1 cs hx (Reads.new_ wr size 1 cs E (by omega)) h1 (by unfold maxLen; omega) ?_ (by simp; omega) ?_
  · have : (n + 1) * bytes ≤ (n + 1) * 1000 := Nat.mul_le_mul_left _ hw
    omega
  · intro v' w' h2 h3 h4
    refine h v' w' h2 (((Below.refl base wr).alloc hbase _).grown h3 (by simp; omega) (own_block_ge hown)) h3 ?_
    rwa [World.size_alloc] at h4

def reachX (ys : List (Nat × List Sp)) : List Int := (ys.filter fun p => anyB p.2).map fun p => (p.1 : Int)
theorem reachX_add (ys : List (Nat × List Sp)) (k : Nat) (l : List Sp) : reachX (ys ++ [(k, l)]) = reachX ys ++ if anyB l then [(k : Int)] else [] := by
  unfold reachX
  rw [List.filter_append, List.map_append, List.filter_cons]
  dsimp only
  split <;> simp
theorem reachX_len (ys : List (Nat × List Sp)) : (reachX ys).length ≤ ys.length := by unfold reachX; rw [List.length_map]; exact List.length_filter_le _ _
def ReT (go : Nat) : World → Nat → Prop := fun w g => g = go ∨ ∃ v, w.cell? ⟨go, 0, none⟩ = some v ∧ v.ownBlock = some g
def ReJ (go B0 : Nat) (ys : List (Nat × List Sp)) (w : World) : Prop := ∃ v, Blk w go 23 #[v] ∧ IOwn w B0 v (reachX ys)
theorem own_lt {w : World} {base : Nat} {e : TypeId} {size n : Nat} {v : Value} {xs : List Value} (h : w.ownsRow base e size v n xs) : ∀ k, v.ownBlock = some k → k < w.heap.size := by
  intro k hk
  rcases h.2 with ⟨rfl, _⟩ | ⟨g, cap, cur, rfl, hg, hh, _⟩
  · simp [Value.ownBlock] at hk
  · simp [Value.ownBlock] at hk; subst hk; exact Blk.lt (t := e) hh
theorem re_ear (go B0 : Nat) (h : B0 ≤ go) : Ear (ReT go) (ReJ go B0) B0 :=
  ⟨fun pre w k hJ hk => by
    obtain ⟨v, hv, ho⟩ := hJ
    rcases hk with rfl | ⟨u, hu, he⟩
    · exact ⟨hv.lt, h⟩
    · have := hv.cell 0
      rw [hu] at this
      simp at this
      subst this
      exact ⟨own_lt ho k he, own_block_ge ho k he⟩, fun pre w w' hJ hb => by
    obtain ⟨v, hv, ho⟩ := hJ
    refine ⟨⟨v, hv.below hb hv.lt, ho.below hb (Nat.le_refl _)⟩, fun g hg => ?_⟩
    rcases hg with rfl | ⟨u, hu, he⟩
    · exact .inl rfl
    · exact .inr ⟨u, by rw [← hu]; exact (hb.cell (p := ⟨go, 0, none⟩) hv.lt).symm, he⟩⟩
def reachV (t : List Nd) (fe : Int) : List Int := if treeE t fe = 0 then sortL (reachX (lv t t.length 0 (wideL fe.toNat))) else []
end Go.Proofs.YtdpijhnbhopnbaaGreatDoor
