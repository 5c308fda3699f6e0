/- Rows of ints of the call's own: slices.Clone, slices.Sort and slices.Compact at them, by the shelf's contracts. Conditions: as each lemma names. -/
import Derived.Test.YtopncifebldklaaCut
import Derived.Test.YtopncifebldklaaCutMath
import Derived.Test.YtopncifebldklaaShelf
import Derived.Sort.OwnSortedInts
import Derived.Lib.SliceRun
namespace Go.Proofs.Ytopncifebldklaa
set_option linter.unusedVariables false
set_option linter.unusedSimpArgs false
open Go.RowKit

theorem ints_one (l : List Int) : ∀ u ∈ l.map (Value.int .i64), u.oneCell' = true := by
  intro u hu
  obtain ⟨x, _, rfl⟩ := List.mem_map.1 hu
  rfl

/-- a row of ints of the call's own -/
def IOwn (w : World) (base : Nat) (v : Value) (l : List Int) : Prop := w.ownsRow base 3 1 v l.length (l.map (Value.int .i64))
theorem IOwn.nil_ (w : World) (base : Nat) : IOwn w base (.slice none 0 0) [] := World.ownsRow_nil _ _ _ _
theorem IOwn.slice_ {w : World} {base : Nat} {v : Value} {l : List Int} (h : IOwn w base v l) : ∃ A c, v = .slice A l.length c ∧ IReads w w.heap.size A l.length l ∧ l.length ≤ maxLen ∧ l.length ≤ c ∧ (A = none → c = 0) := by
  rcases h.2 with ⟨rfl, h0⟩ | ⟨g, cap, cur, rfl, _, _, h1, h2, _⟩
  · rw [h0]
    exact ⟨none, 0, rfl, ⟨by rw [h.1, h0], fun h => absurd h (by omega)⟩, Nat.zero_le _, Nat.le_refl _, fun _ => rfl⟩
  · exact ⟨_, _, rfl, Reads.of_own h, Nat.le_trans h1 h2, h1, fun h => by cases h⟩
theorem own_cap {w : World} {base n c : Nat} {A : Option Addr} {l : List Int} (h : IOwn w base (.slice A n c) l) : c ≤ maxLen := by
  rcases h.2 with ⟨e, _⟩ | ⟨g, cap, cur, e, _, _, h1, h2, _⟩
  · injection e with _ _ e3; omega
  · injection e with _ _ e3; omega
/-- owned rows over a call that leaves all below a bound -/
theorem IOwn.below {w w' : World} {base B : Nat} {v : Value} {l : List Int} (h : IOwn w base v l) (hb : Below B w w') (hB : w.heap.size ≤ B) : IOwn w' base v l := by
  rcases h.2 with ⟨rfl, h0⟩ | ⟨g, cap, cur, rfl, hg, hh, h1⟩
  · have : l = [] := List.length_eq_zero_iff.1 h0
    subst this; exact IOwn.nil_ _ _
  · have hlt : g < w.heap.size := (Array.getElem?_eq_some_iff.1 hh).1
    exact ⟨h.1, .inr ⟨g, cap, cur, rfl, hg, (hb.block g (by omega)).trans hh, h1⟩⟩
theorem IOwn.low {w : World} {base base' : Nat} {v : Value} {l : List Int} (h : IOwn w base v l) (hb : base' ≤ base) : IOwn w base' v l := by
  rcases h.2 with ⟨rfl, h0⟩ | ⟨g, cap, cur, rfl, hg, h1⟩
  · have : l = [] := List.length_eq_zero_iff.1 h0
    subst this; exact IOwn.nil_ _ _
  · exact ⟨h.1, .inr ⟨g, cap, cur, rfl, by omega, h1⟩⟩

theorem IReads.take_ {w : World} {B n m : Nat} {A : Option Addr} {l : List Int} (h : IReads w B A n l) (hm : m ≤ n) : IReads w B A m (l.take m) := by
  have hl := h.len
  refine ⟨by simp; omega, fun h0 => ?_⟩
  obtain ⟨ad, e, hb, hc⟩ := h.2 (by omega)
  refine ⟨ad, e, hb, fun j u hu => hc j u ?_⟩
  rw [List.map_take] at hu
  rw [List.getElem?_take] at hu
  split at hu
  · exact hu
  · cases hu
theorem IOwn.at_ {w : World} {base n cap : Nat} {A : Option Addr} {l : List Int} (h : IOwn w base (.slice A n cap) l) (hl : l.length = n) {k : Nat} {x : Int} (hx : l[k]? = some x) :
    ∃ g, A = some ⟨g, 0, none⟩ ∧ base ≤ g ∧ g < w.heap.size ∧ w.cell? ⟨g, k, none⟩ = some (.int .i64 x) ∧ w.frozen? ⟨g, k, none⟩ = false := by
  unfold IOwn at h
  rw [hl] at h
  have hk : k < n := by rw [← hl]; exact (List.getElem?_eq_some_iff.1 hx).1
  rcases h.2 with ⟨e, h0⟩ | ⟨g, cap', cur, e, hg, hh, _⟩
  · omega
  · injection e with e1 e2 e3
    subst e1
    exact ⟨g, rfl, hg, (Array.getElem?_eq_some_iff.1 hh).1, by rw [h.cellAt k (by omega)]; simp [hx], h.frozenAt k⟩
theorem IOwn.stored {w : World} {base n cap g : Nat} {l : List Int} (h : IOwn w base (.slice (some ⟨g, 0, none⟩) n cap) l) (hl : l.length = n) (k : Nat) (x : Int) :
    IOwn (w.setCell ⟨g, k, none⟩ (.int .i64 x)) base (.slice (some ⟨g, 0, none⟩) n cap) (l.set k x) := by
  unfold IOwn at h ⊢
  rw [List.length_set]
  rw [hl] at h ⊢
  have := (h.stored k (.int .i64 x)).1
  rwa [← List.map_set] at this
theorem IOwn.alloc {w : World} {base : Nat} {v : Value} {l : List Int} (h : IOwn w base v l) (o : Obj) : IOwn (w.alloc o) base v l := World.ownsRow.alloc h o
theorem IOwn.drew {w : World} {base : Nat} {v : Value} {l : List Int} (h : IOwn w base v l) : IOwn w.drew base v l := h

/-- what makes a row of ints -/
def IPost (l : List Int) (w : World) (e : Ending) (w' : World) : Prop := ∃ v, e = .returned v ∧ IOwn w' w.heap.size v l ∧ Below w.heap.size w w'

set_option maxRecDepth 100000 in
theorem cloneI_any (A : Option Addr) (n c B : Nat) (l : List Int) (w : World) (hr : IReads w B A n l) (hB : B ≤ w.heap.size) (hn : n ≤ 100000000) (hA : A = none → c = 0) :
    Calls Try.prog 37 #[.slice A n c] w (IPost l w) := by
  have hl := hr.len
  rcases A with _ | a
  · have hn0 : n = 0 := by
      rcases Nat.eq_zero_or_pos n with h | h
      · exact h
      · obtain ⟨_, _, e, _⟩ := Reads.spot hr h (by omega); cases e
    obtain rfl := hA rfl
    subst hn0
    obtain rfl : l = [] := List.eq_nil_of_length_eq_zero hl
    have hq := fun (W : World) => Lib.run_eql_slice_nil (P := Try.prog) W 22 3 none 0 0 0 0 Try.underlying22
    go_enter Try.func37, Try.ntmps37
    go_wp2_with fail
    go_ret
    exact ⟨_, rfl, IOwn.nil_ _ _, Below.refl _ _⟩
  · have hq := fun (W : World) => Lib.run_eql_slice_nil (P := Try.prog) W 22 3 (some a) n c 0 0 Try.underlying22
    have hown0 := own_new (w := w) (B := w.heap.size) [] 3 1 0 rfl (by decide) (Nat.le_refl _)
    have hra := Reads.alloc hr hB (.cells #[] 3)
    go_enter Try.func37, Try.ntmps37
    go_wp2_with (at_builtin; refine app_many elem_int (.tmp 5) (.tmp 6) rfl rfl rfl hown0 rfl hra (ints_one l) (by omega) (by rw [World.size_alloc]; omega) ?_; intro v2 w2 hown2 hb2 _)
    go_ret
    refine ⟨v2, rfl, ?_, ((Below.refl _ _).alloc (Nat.le_refl _) _).trans hb2⟩
    unfold IOwn; rw [hl]; simpa using hown2

theorem sort_any (v : Value) (l : List Int) (base : Nat) (w : World) (h : IOwn w base v l) (hB : base ≤ w.heap.size) (hn : l.length ≤ 100000000) :
    Calls Try.prog 65 #[v] w fun e w' => e = .returned (.tuple #[]) ∧ IOwn w' base v (sortL l) ∧ w.grownBy w' v.ownBlock ∧ Below base w w' := by
  rcases h.2 with ⟨rfl, h0⟩ | ⟨g, cap, cur, rfl, hg, hh, h1, h2, h3, h4⟩
  · have : l = [] := List.length_eq_zero_iff.1 h0
    subst this
    refine (Try.slices_Sort_int_none none 0 w).mono ?_
    rintro e w' ⟨rfl, rfl⟩
    exact ⟨rfl, by rw [show sortL [] = [] by simp [sortL]]; exact IOwn.nil_ _ _, World.grownBy.refl _ _, Below.refl _ _⟩
  · have hlt : g < w.heap.size := (Array.getElem?_eq_some_iff.1 hh).1
    refine (Try.slices_Sort_int g 0 cap l w (holds_of_blockI hh (by simpa using h4)) hlt (by omega)).mono ?_
    rintro e w' ⟨rfl, n, os, rfl⟩
    have hgr : w.grownBy _ (some g) := grownBy_sortedI (w := w) (n := n) (os := os) (sortL l).toArray
    refine ⟨rfl, ?_, hgr, (Below.refl base w).grown hgr hB (fun k e => by cases e; exact hg)⟩
    have := ownsRow_sortedI (w := w) (n := n) (os := os) (ss := l) (ts := sortL l) (sortL_len l) hg hh h1 h2 (by simpa using h3)
    unfold IOwn; rw [sortL_len]; exact this
end Go.Proofs.Ytopncifebldklaa
