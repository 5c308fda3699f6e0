/- Part 24 of what LawBoostTells needs: GroveClone, Votes, Maps, Together, Together2. Conditions: as each lemma names. -/
import Derived.Test.YtdpijhnbhopnbaaGreatDoorPkBoostTells17
import Derived.Test.YtdpijhnbhopnbaaGreatDoorPkBoostTells09
import Derived.Test.YtdpijhnbhopnbaaGreatDoorPkBoostTells04
import Derived.Deep.RegionHeld3
import Derived.Lib.Slices
import Derived.Lib.Hide
import Derived.Test.YtdpijhnbhopnbaaGreatDoorPkBoostTells01
import Derived.Maps.Own
import Derived.Maps.OwnOps
import Derived.Maps.OwnSet
import Derived.Maps.Views
import Derived.Test.YtdpijhnbhopnbaaGreatDoorPkBoostTells13
import Derived.Test.YtdpijhnbhopnbaaGreatDoorShelf
import Derived.Test.YtdpijhnbhopnbaaGreatDoorShelfZ
import Derived.StillTailTactics
/- grove.Clone, with slices.Clone at nodes and at trees. Conditions: as each lemma names. -/
namespace Go.Proofs.YtdpijhnbhopnbaaGreatDoor
set_option linter.unusedVariables false
set_option linter.unusedSimpArgs false
open Go.RowKit

theorem elem_node : Elem Tryz.prog 48 51 (.agg #[.int .i64 0, .int .i64 0, .int .i64 0, .int .i64 0, .bool false, .int .i64 0]) 6 48 := ⟨Tryz.underlying48, by kernel_rfl, rfl, by omega, by omega⟩
theorem elem_trees : Elem Tryz.prog 24 48 (.slice none 0 0) 1 24 := ⟨Tryz.underlying24, by kernel_rfl, rfl, by omega, by omega⟩
theorem nodes_one (l : List Nd) : ∀ u ∈ l.flatMap Nd.cells, u.oneCell' = true := by
  intro u hu
  obtain ⟨s, _, h⟩ := List.mem_flatMap.1 hu
  simp [Nd.cells] at h
  rcases h with rfl | rfl | rfl | rfl | rfl | rfl <;> rfl
theorem trees_one (l : List Tr) : ∀ u ∈ l.map Tr.val, u.oneCell' = true := by
  intro u hu
  obtain ⟨s, _, h⟩ := List.mem_map.1 hu
  subst h
  rfl

theorem Reads.far {w : World} {B size n : Nat} {A : Option Addr} {xs : List Value} (h : Reads w B size A n xs) {p : Addr} (hne : 0 < n → ∀ a, A = some a → a.block ≠ p.block) (u : Value) : Reads (w.setCell p u) B size A n xs :=
  ⟨h.1, fun hn => by
    obtain ⟨ad, e, hb, hc⟩ := h.2 hn
    refine ⟨ad, e, hb, fun j v hv => ?_⟩
    rw [← hc j v hv]
    exact World.cell?_of_block (by rw [block_of_add]; exact Below.heap_setCell w p u _ (hne hn ad e))⟩
theorem set_self {α : Type} {l : List α} {k : Nat} {x : α} (h : l[k]? = some x) : l.set k x = l := by
  obtain ⟨hk, e⟩ := List.getElem?_eq_some_iff.1 h
  rw [← e]; exact List.set_getElem_self hk
theorem own_far {w : World} {base : Nat} {e : TypeId} {size n : Nat} {v : Value} {xs : List Value} (h : w.ownsRow base e size v n xs) {p : Addr} (hne : ∀ k, v.ownBlock = some k → k ≠ p.block) (u : Value) : (w.setCell p u).ownsRow base e size v n xs := by
  refine h.kept (row := some p.block) (only_setCell (World.grownBy.refl w _) (.inl rfl) u) ?_
  rcases hv : v.ownBlock with _ | k
  · exact .inl rfl
  · exact .inr fun e => hne k hv (by injection e)
theorem own_low {w : World} {base base' : Nat} {e : TypeId} {size n : Nat} {v : Value} {xs : List Value} (h : w.ownsRow base e size v n xs) (hb : base' ≤ base) : w.ownsRow base' e size v n xs := by
  rcases h.2 with h0 | ⟨g, cap, cur, hv, hg, h1⟩
  · exact ⟨h.1, .inl h0⟩
  · exact ⟨h.1, .inr ⟨g, cap, cur, hv, by omega, h1⟩⟩
theorem Reads.none0 {w : World} {B size n : Nat} {xs : List Value} (h : Reads w B size none n xs) : n = 0 := by
  rcases Nat.eq_zero_or_pos n with h0 | h0
  · exact h0
  · obtain ⟨_, e, _⟩ := h.2 h0; cases e

/-- a grove whose weights and whose row of trees are the call's own -/
structure GOwn (w : World) (base : Nat) (g : Gv) : Prop where
  ws : w.ownsRow base 3 1 (.slice g.Aw g.nw g.cw) g.nw (g.ws.map (Value.int .i64))
  ts : w.ownsRow base 48 1 (.slice g.At g.nt g.ct) g.nt (g.ts.map Tr.val)
  each : ∀ r ∈ g.ts, TrOk w w.heap.size r ∧ (0 < r.n → ∀ a, r.A = some a → (Value.slice g.At g.nt g.ct).ownBlock ≠ some a.block ∧ (Value.slice g.Aw g.nw g.cw).ownBlock ≠ some a.block ∧ base ≤ a.block)
theorem own_nil {w : World} {base : Nat} {e : TypeId} {size n c : Nat} {xs : List Value} (h : w.ownsRow base e size (.slice none n c) n xs) : c = 0 ∧ n = 0 := by
  rcases h.2 with ⟨e, h⟩ | ⟨g, cap, cur, e, _⟩
  · injection e with _ _ e; exact ⟨e, h⟩
  · cases e
theorem own_len {w : World} {base : Nat} {e : TypeId} {size n : Nat} {v : Value} {xs : List Value} (h : w.ownsRow base e size v n xs) : n ≤ maxLen := by
  rcases h.2 with ⟨_, rfl⟩ | ⟨g, cap, cur, _, _, _, h1, h2, _⟩
  · exact Nat.zero_le _
  · omega
theorem GOwn.reads {w : World} {base : Nat} {g : Gv} (h : GOwn w base g) : GReads w w.heap.size g :=
  ⟨Reads.of_own h.ws, ⟨Reads.of_own h.ts, fun r hr => (h.each r hr).1⟩, own_len h.ws, own_len h.ts, fun e => by have := h.ws; rw [e] at this; exact (own_nil this).1, fun e => by have := h.ts; rw [e] at this; exact (own_nil this).1⟩

/-- a copy of a grove -/
def ClonePost (g : Gv) (w : World) (e : Ending) (w' : World) : Prop :=
  ∃ g' : Gv, e = .returned g'.val ∧ g'.f = g.f ∧ g'.way = g.way ∧ g'.ws = g.ws ∧ g'.trees = g.trees ∧ GOwn w' w.heap.size g' ∧ Below w.heap.size w w'

end Go.Proofs.YtdpijhnbhopnbaaGreatDoor
/- Votes: the plain maths of what values of trees come to together. Conditions: none beyond what each lemma names. -/
namespace Go.Proofs.YtdpijhnbhopnbaaGreatDoor
set_option linter.unusedVariables false
set_option linter.unusedSimpArgs false

/-- values, each with its weight -/
abbrev Ps := List (Int × Int)
def pSum (ps : Ps) : Int := (ps.map fun p => p.1 * p.2).sum
def pAll (ps : Ps) : Int := (ps.map fun p => p.2).sum
def pVotes (ps : Ps) (v : Int) : Int := ((ps.filter fun p => p.1 == v).map fun p => p.2).sum
theorem pSum_snoc (ps : Ps) (p : Int × Int) : pSum (ps ++ [p]) = pSum ps + p.1 * p.2 := by simp [pSum, List.sum_append]
theorem pAll_snoc (ps : Ps) (p : Int × Int) : pAll (ps ++ [p]) = pAll ps + p.2 := by simp [pAll, List.sum_append]
theorem pVotes_snoc_same (ps : Ps) (p : Int × Int) : pVotes (ps ++ [p]) p.1 = pVotes ps p.1 + p.2 := by
  unfold pVotes
  rw [List.filter_append, List.map_append, List.sum_append]
  simp
theorem pVotes_snoc_other (ps : Ps) (p : Int × Int) {v : Int} (h : p.1 ≠ v) : pVotes (ps ++ [p]) v = pVotes ps v := by
  unfold pVotes
  rw [List.filter_append, List.map_append, List.sum_append]
  simp [h]
theorem pVotes_none {ps : Ps} {v : Int} (h : v ∉ ps.map (·.1)) : pVotes ps v = 0 := by
  unfold pVotes
  rw [List.filter_eq_nil_iff.2]
  · rfl
  · intro p hp
    simp only [beq_iff_eq]
    rintro rfl
    exact h (List.mem_map.2 ⟨p, hp, rfl⟩)
theorem pVotes_in {ps : Ps} {v : Int} (hw : ∀ p ∈ ps, 0 ≤ p.2 ∧ p.2 ≤ 1000) : 0 ≤ pVotes ps v ∧ pVotes ps v ≤ 1000 * ps.length := by
  induction ps with
  | nil => simp [pVotes]
  | cons p r ih =>
    have h1 := hw p (List.mem_cons_self ..)
    obtain ⟨h2, h3⟩ := ih fun q hq => hw q (List.mem_cons_of_mem _ hq)
    unfold pVotes at h2 h3 ⊢
    rw [List.filter_cons, List.length_cons]
    split
    · rw [List.map_cons, List.sum_cons]; omega
    · omega
theorem pVotes_pos {ps : Ps} {v : Int} (hw : ∀ p ∈ ps, 1 ≤ p.2) (h : v ∈ ps.map (·.1)) : 1 ≤ pVotes ps v := by
  induction ps with
  | nil => simp at h
  | cons p r ih =>
    have h1 := hw p (List.mem_cons_self ..)
    have h0 : 0 ≤ pVotes r v := by
      by_cases hv : v ∈ r.map (·.1)
      · have := ih (fun q hq => hw q (List.mem_cons_of_mem _ hq)) hv; omega
      · rw [pVotes_none hv]; exact Int.le_refl _
    rw [List.map_cons, List.mem_cons] at h
    by_cases e : p.1 = v
    · unfold pVotes at h0 ⊢
      rw [List.filter_cons, if_pos (by simpa using e), List.map_cons, List.sum_cons]; omega
    · rcases h with h | h
      · exact absurd h.symm e
      · have := ih (fun q hq => hw q (List.mem_cons_of_mem _ hq)) h
        unfold pVotes at this ⊢
        rw [List.filter_cons, if_neg (by simpa using e)]; exact this
theorem pSum_in {ps : Ps} (hv : ∀ p ∈ ps, -1000000000 ≤ p.1 * p.2 ∧ p.1 * p.2 ≤ 1000000000) : -1000000000 * (ps.length : Int) ≤ pSum ps ∧ pSum ps ≤ 1000000000 * ps.length := by
  induction ps with
  | nil => simp [pSum]
  | cons p r ih =>
    have h1 := hv p (List.mem_cons_self ..)
    obtain ⟨h2, h3⟩ := ih fun q hq => hv q (List.mem_cons_of_mem _ hq)
    unfold pSum at h2 h3 ⊢
    rw [List.map_cons, List.sum_cons, List.length_cons]
    omega
theorem pAll_in {ps : Ps} (hw : ∀ p ∈ ps, 1 ≤ p.2 ∧ p.2 ≤ 1000) : (ps.length : Int) ≤ pAll ps ∧ pAll ps ≤ 1000 * ps.length := by
  induction ps with
  | nil => simp [pAll]
  | cons p r ih =>
    have h1 := hw p (List.mem_cons_self ..)
    obtain ⟨h2, h3⟩ := ih fun q hq => hw q (List.mem_cons_of_mem _ hq)
    unfold pAll at h2 h3 ⊢
    rw [List.map_cons, List.sum_cons, List.length_cons]
    omega
theorem mul_in {x y : Int} (hx : -1000000 ≤ x ∧ x ≤ 1000000) (hy : 0 ≤ y ∧ y ≤ 1000) : -1000000000 ≤ x * y ∧ x * y ≤ 1000000000 := by
  have h1 : x * y ≤ 1000000 * y := Int.mul_le_mul_of_nonneg_right hx.2 hy.1
  have h2 : -1000000 * y ≤ x * y := Int.mul_le_mul_of_nonneg_right hx.1 hy.1
  omega

/-- the vote: of the values with most weight the least -/
structure IsVote (ps : Ps) (b : Int) : Prop where
  mem : b ∈ ps.map (·.1)
  most : ∀ v ∈ ps.map (·.1), pVotes ps v ≤ pVotes ps b
  least : ∀ v ∈ ps.map (·.1), pVotes ps v = pVotes ps b → b ≤ v
theorem IsVote.eq {ps : Ps} {a b : Int} (ha : IsVote ps a) (hb : IsVote ps b) : a = b := by
  have h1 := ha.most b hb.mem
  have h2 := hb.most a ha.mem
  have h3 := ha.least b hb.mem (by omega)
  have h4 := hb.least a ha.mem (by omega)
  omega
noncomputable def voteV (ps : Ps) : Int := Classical.epsilon (IsVote ps)
theorem voteV_eq {ps : Ps} {b : Int} (h : IsVote ps b) : voteV ps = b := (Classical.epsilon_spec (p := IsVote ps) ⟨b, h⟩).eq h
/-- what values come to -/
noncomputable def togV (way : Int) (ws l : List Int) : Int :=
  if way = 1 then pSum (l.zip ws) else if way = 2 then pSum (l.zip ws) / pAll (l.zip ws) else voteV (l.zip ws)

theorem foldl_max_ge (l : List Int) (a : Int) : a ≤ l.foldl max a ∧ (∀ x ∈ l, x ≤ l.foldl max a) ∧ (l.foldl max a = a ∨ l.foldl max a ∈ l) := by
  induction l generalizing a with
  | nil => simp
  | cons y r ih =>
    obtain ⟨h1, h2, h3⟩ := ih (max a y)
    rw [List.foldl_cons]
    refine ⟨by omega, fun x hx => ?_, ?_⟩
    · rcases List.mem_cons.1 hx with rfl | hx
      · omega
      · exact h2 x hx
    · rcases h3 with h3 | h3
      · rcases Int.le_total a y with h | h
        · exact .inr (by rw [h3, Int.max_eq_right h]; exact List.mem_cons_self ..)
        · exact .inl (by rw [h3, Int.max_eq_left h])
      · exact .inr (List.mem_cons_of_mem _ h3)
theorem foldl_min_le (l : List Int) (a : Int) : l.foldl min a ≤ a ∧ (∀ x ∈ l, l.foldl min a ≤ x) ∧ (l.foldl min a = a ∨ l.foldl min a ∈ l) := by
  induction l generalizing a with
  | nil => simp
  | cons y r ih =>
    obtain ⟨h1, h2, h3⟩ := ih (min a y)
    rw [List.foldl_cons]
    refine ⟨by omega, fun x hx => ?_, ?_⟩
    · rcases List.mem_cons.1 hx with rfl | hx
      · omega
      · exact h2 x hx
    · rcases h3 with h3 | h3
      · rcases Int.le_total a y with h | h
        · exact .inl (by rw [h3, Int.min_eq_left h])
        · exact .inr (by rw [h3, Int.min_eq_right h]; exact List.mem_cons_self ..)
      · exact .inr (List.mem_cons_of_mem _ h3)
theorem maxOf_spec {l : List Int} (h : l ≠ []) : Lib.maxOf l ∈ l ∧ ∀ x ∈ l, x ≤ Lib.maxOf l := by
  cases l with
  | nil => exact absurd rfl h
  | cons a r =>
    obtain ⟨h1, h2, h3⟩ := foldl_max_ge (a :: r) a
    unfold Lib.maxOf
    rw [List.headD_cons]
    refine ⟨?_, h2⟩
    rcases h3 with h3 | h3
    · rw [h3]; exact List.mem_cons_self ..
    · exact h3
theorem minOf_spec {l : List Int} (h : l ≠ []) : Lib.minOf l ∈ l ∧ ∀ x ∈ l, Lib.minOf l ≤ x := by
  cases l with
  | nil => exact absurd rfl h
  | cons a r =>
    obtain ⟨h1, h2, h3⟩ := foldl_min_le (a :: r) a
    unfold Lib.minOf
    rw [List.headD_cons]
    refine ⟨?_, h2⟩
    rcases h3 with h3 | h3
    · rw [h3]; exact List.mem_cons_self ..
    · exact h3
end Go.Proofs.YtdpijhnbhopnbaaGreatDoor
/- Maps of the call's own, with elements of whatever kind: each element is held as the value that it is. Conditions: as each lemma names. -/
namespace Go.Proofs.YtdpijhnbhopnbaaGreatDoor
set_option linter.unusedVariables false
set_option linter.unusedSimpArgs false
open Go.RowKit Go.Maps

/-- an element, held as it is -/
def heldR (v : Value) : Option (DataW Value × List MemPlace) := some (.held v, [])
theorem heldR_inv {v : Value} {d : DataW Value} {ps : List MemPlace} (h : heldR v = some (d, ps)) : d = .held v := by
  unfold heldR at h; injection h with h; exact (Prod.mk.inj h).1.symm
def keyI (x : Int) : Lit := .int .i64 x
theorem keyI_key {P : Program} {k : TypeId} (hk : P.underlying k = some (.int .i64)) {x : Int} (h : -9223372036854775808 ≤ x ∧ x ≤ 9223372036854775807) : keyOf P k (.int .i64 x) = some (keyI x) := keyOf_int_mk hk (WalkArith.wf_i64 h)
theorem keyI_ne {x y : Int} (h : x ≠ y) : keyI x ≠ keyI y := by intro e; injection e with _ e; exact h e
theorem keyI_is (x : Int) : WideAt.IsKeyLit (keyI x) := trivial

/-- block b is a map (of at most n entries) -/
structure MapIs (P : Program) (w : World) (k : TypeId) (b n : Nat) (D : DataW Value) : Prop where
  own : w.ownsMap P k heldR b n D
  tidy : Tidy D
section
variable {P : Program} {w w' : World} {k : TypeId} {b n : Nat} {D : DataW Value}
theorem MapIs.lt (h : MapIs P w k b n D) : b < w.heap.size := h.own.lt
theorem MapIs.is_map (h : MapIs P w k b n D) : ∃ es c, w.heap[b]? = some (.map es c) := by
  obtain ⟨es, c, hb, _⟩ := h.own; exact ⟨es, c, hb⟩
theorem MapIs.kept {row : Option Nat} (h : MapIs P w k b n D) (hg : w.grownBy w' row) (hne : some b ≠ row) : MapIs P w' k b n D := ⟨h.own.kept hg hne, h.tidy⟩
theorem MapIs.below {B : Nat} (h : MapIs P w k b n D) (hb : Below B w w') (hB : b < B) : MapIs P w' k b n D := by
  obtain ⟨es, c, h1, h2⟩ := h.own
  exact ⟨⟨es, c, (hb.block b hB).trans h1, h2⟩, h.tidy⟩
theorem MapIs.alloc (h : MapIs P w k b n D) (o : Obj) : MapIs P (w.alloc o) k b n D := ⟨h.own.alloc o, h.tidy⟩
theorem MapIs.drew (h : MapIs P w k b n D) : MapIs P w.drew k b n D := ⟨h.own.drew, h.tidy⟩
theorem MapIs.drewN (h : MapIs P w k b n D) (q : Nat) : MapIs P (w.drewN q) k b n D := ⟨h.own, h.tidy⟩
/-- a map's block has no cells -/
theorem MapIs.no_cell (h : MapIs P w k b n D) (p : Addr) (hp : p.block = b) : w.cell? p = none := by
  obtain ⟨es, c, hb⟩ := h.is_map
  obtain ⟨pb, po, ps⟩ := p
  simp only at hp
  subst hp
  simp [World.cell?, hb]
/-- where only a map has turned all cells are as they were -/
theorem MapIs.cells {n' : Nat} {D' : DataW Value} (h : MapIs P w k b n D) (h' : MapIs P w' k b n' D') (hg : w.grownBy w' (some b)) (p : Addr) (hp : p.block < w.heap.size) : w'.cell? p = w.cell? p := by
  by_cases e : p.block = b
  · rw [h.no_cell p e, h'.no_cell p e]
  · exact World.cell?_of_block (hg.block p.block hp (fun h => e (by injection h with h)))
theorem MapIs.ne_blk {g : Nat} {t : TypeId} {cs : Array Value} (h : MapIs P w k b n D) (hg : Blk w g t cs) : b ≠ g := by
  rintro rfl
  obtain ⟨es, c, hb⟩ := h.is_map
  unfold Blk at hg
  rw [hb] at hg
  cases hg
theorem MapIs.ne_own {base : Nat} {e : TypeId} {size m : Nat} {v : Value} {xs : List Value} (h : MapIs P w k b n D) (ho : w.ownsRow base e size v m xs) : v.ownBlock = none ∨ v.ownBlock ≠ some b := by
  rcases ho.2 with ⟨rfl, _⟩ | ⟨g, cap, cur, rfl, _, hh, _⟩
  · exact .inl rfl
  · refine .inr fun e => ?_
    obtain ⟨es, c, hb⟩ := h.is_map
    have : g = b := by simpa [Value.ownBlock] using e
    subst this
    rw [hb] at hh; cases hh
theorem MapIs.made (w : World) (P : Program) (k : TypeId) : MapIs P (w.alloc (.map #[] 0)) k w.heap.size 0 (.map []) := ⟨World.ownsMap_made w P k heldR, tidy_empty⟩
end
theorem below_of_grown {w w' : World} {base b : Nat} (hg : w.grownBy w' (some b)) (hB : base ≤ w.heap.size) (hb : base ≤ b) : Below base w w' :=
  (Below.refl base w).grown hg hB (fun k e => by injection e with e; omega)

theorem own_map_below {P : Program} {w w' : World} {B b n : Nat} {k : TypeId} {D : DataW Value} (h : w.ownsMap P k heldR b n D) (hb : Below B w w') (hB : b < B) : w'.ownsMap P k heldR b n D := by
  obtain ⟨es, cl, h1, h2⟩ := h
  exact ⟨es, cl, (hb.block b hB).trans h1, h2⟩
/-- m[k] = v inside a region that draws -/
theorem step_mapUpdate_own {H : Type} {P : Program} (w : World) {ops : Array Oper} {o : Oper} {a : Act} {K : Act → World → Prop} {Q : Exit → Act → World → Prop} {E : Prop}
    (hgd : o.guard = none) (m x v : Operand) (t : TypeId) (hop : o.op = Op.mapUpdate t m x v)
    (k e : TypeId) (Kd : Keyed P k) (ht : P.underlying t = some (.map k e)) (R : Value → Option (DataW H × List MemPlace)) (b n : Nat) (D : DataW H)
    (hm : a.eval m = .map (some b)) (hown : w.ownsMap P k R b n D) (hn : n < maxLen) (key val : Value) (kl : Lit) (hx : a.eval x = key) (hv : a.eval v = val) (hkey : keyOf P k key = some kl)
    (d : DataW H) (ps : List MemPlace) (hval : R val = some (d, ps))
    (hK : ∀ w', w'.ownsMap P k R b (n + 1) (D.put kl d) → w.grownBy w' (some b) → K (a.put o.dst undef) w') :
    if Region.wanted o (yielded ops a.tmps) = true then Oper.wp P o a w K Q else E := by
  have hw : Region.wanted o (yielded ops a.tmps) = true := by simp [Region.wanted, hgd]
  rw [if_pos hw]
  obtain ⟨w', hrun, r1, r2⟩ := hown.update Kd ht hn hkey hval
  unfold Oper.wp
  simp [execOp, hop, hm, hx, hv, hrun, Result.andThen]
  exact hK w' r1 r2
end Go.Proofs.YtdpijhnbhopnbaaGreatDoor
/- grove.Together: what values of trees come to together, with maps.Values, Keys, DeleteFunc and slices.Collect at map[int]int. Conditions: as each lemma names. -/
namespace Go.Proofs.YtdpijhnbhopnbaaGreatDoor
set_option linter.unusedVariables false
set_option linter.unusedSimpArgs false
open Go.RowKit Go.Maps Go.Sort Go.Shelf

/-- the values of a map, in some order -/
def ValsOf (D : DataW Value) (ss : List Int) : Prop :=
  ∃ ps : List (Int × Int), (∀ x, x ∈ ps.map (·.1) ↔ has D (.int .i64 x) = true) ∧ (∀ p ∈ ps, ∀ zd, D.atKey (.int .i64 p.1) zd = .lit (.int .i64 p.2)) ∧ ss = ps.map (·.2)

set_option maxRecDepth 100000 in
set_option maxHeartbeats 1000000 in
theorem mvals1_in (n : Nat) (hn : 1 ≤ n) (l Bm b nn : Nat) (D0 : DataW Value) (J : List Int → World → Prop)
    (hY : ∀ pre x W, J pre W → pre.length < Maps.size D0 → YieldAt Fence.wide (n - 1) Tryz.prog l #[encZ x] W fun e W' => e = .returned (.bool true) ∧ J (pre ++ [x]) W' ∧ KeepsWalks W W')
    (W : World) (hJ : AbidesFrom W.heap.size J) (hm : W.cell? ⟨Bm, 0, none⟩ = some (.map (some b))) (hown : W.ownsMap Tryz.prog 3 (plainElem Tryz.prog 3) b nn D0) (h0 : J [] W) :
    CallsIn Fence.wide n Tryz.prog 83 #[.func (.yield l) #[] #[], .pointer (some ⟨Bm, 0, none⟩)] W fun e W' => (∃ v, e = .returned v) ∧ ∃ ss : List Int, ValsOf D0 ss ∧ J ss W' := by
  refine callsIn_of_wp Tryz.func83 rfl trivial ?_ rfl
  simp only [Tryz.ntmps83, List.size_toArray, List.length_cons, List.length_nil, Nat.reduceAdd, Nat.reduceSub, Array.replicate_succ, Array.replicate_zero, List.push_toArray, List.append_toArray, List.nil_append, List.cons_append]
  gi_wp2_with (first
    | (gi_at_range; refine wpListIn_range_own _ rfl _ 104 rfl 3 3 (int_keyed Tryz.underlying3) Tryz.underlying104 _ b nn _ rfl hown ?_; intro w0 hrg0 hg0 hs0)
    | gi_in)
  go_frame
  gi_loopw [4] (fun _ wr => ∃ (left : Lit → Bool) (cnt : Nat) (ps : List (Int × Int)), wr.ranges Tryz.prog 3 (plainElem Tryz.prog 3) b W.heap.size nn D0 left cnt ∧ ps.length + cnt ≤ Maps.size D0 ∧ CollectedI D0 left (ps.map (·.1)) ∧ (∀ p ∈ ps, ∀ zd, D0.atKey (.int .i64 p.1) zd = .lit (.int .i64 p.2)) ∧ J (ps.map (·.2)) wr)
    (fun _ wr => wr.rangeLeft b W.heap.size)
  case atStart =>
    exact ⟨_, _, [], hrg0, by simp, CollectedI.start D0, by simp, hJ [] W w0 none h0 hg0 (fun r e => by cases e)⟩
  case round =>
    obtain ⟨left, cnt, ps, hrg, hcs, hC, hV, hJs⟩ := hrel
    gi_wp2_with (first
      | (gi_at_next; refine wpListIn_next_ranges _ rfl _ rfl 3 (int_keyed Tryz.underlying3) (plainElem Tryz.prog 3) encZ (Value.int .i64) (fun key kl hk => by obtain ⟨x, hx, _⟩ := Maps.keyOf_i64 Tryz.underlying3 hk; exact ⟨x, hx⟩) (fun v y hv => by obtain ⟨c, rfl, _⟩ := plainElem_int_inv Tryz.underlying3 hv; exact ⟨c, rfl⟩) b W.heap.size nn _ _ _ rfl hrg ?_ ?_)
      | gi_in)
    · intro hc0 hl0
      gi_wp2
      go_end0
      exact ⟨⟨_, rfl⟩, _, ⟨ps, fun x => by rw [hC.2 x, hl0]; simp, hV, rfl⟩, hJs⟩
    · intro x c kl yd yp w2 cnt2 hkey hlk hv hat hrg2 hlt hg2 hs2 hen
      obtain ⟨x', ex, rfl, _⟩ := Maps.keyOf_i64 Tryz.underlying3 hkey
      obtain rfl : x = x' := encZ_inj ex
      obtain ⟨c', ec, ez, _⟩ := plainElem_int_inv Tryz.underlying3 hv
      obtain rfl : c = c' := by simpa using ec
      obtain rfl : yd = .lit (.int .i64 c) := (Prod.mk.inj ez).1
      have hJ2 : J (ps.map (·.2)) w2 := hJ _ wr w2 (some W.heap.size) hJs hg2 (fun r e => by cases e; exact ⟨Nat.le_refl _, hrg.iter_walk⟩)
      obtain ⟨fn, tmps, assign, body, hy, hR⟩ := hY (ps.map (·.2)) c w2 hJ2 (by simp; omega)
      dsimp only [encZ] at hy
      clear hs2
      gi_wp2
      refine hR.mono ?_
      have hC2 : CollectedI D0 (fun z => left z && !z.sameKey (.int .i64 x)) ((ps ++ [(x, c)]).map (·.1)) := by simpa using hC.step hlk hat
      have hV2 : ∀ p ∈ ps ++ [(x, c)], ∀ zd, D0.atKey (.int .i64 p.1) zd = .lit (.int .i64 p.2) := fun p hp => (List.mem_append.1 hp).elim (hV p) (fun e => by simp at e; subst e; exact hat)
      rintro e W3 ⟨rfl, hJ3, hk3⟩
      gi_wp2
      have hrg3 := hrg2.of_walks hk3
      go_roundw
      case rel => exact ⟨_, cnt2, ps ++ [(x, c)], hrg3, by simp; omega, hC2, hV2, by simpa using hJ3⟩
      case measure => rw [hrg3.left_eq, hrg.left_eq]; exact hlt
theorem own_map_of_below {P : Program} {w w' : World} {k : TypeId} {R : Value → Option (DataW Value × List MemPlace)} {B b n : Nat} {D : DataW Value} (h : w.ownsMap P k R b n D) (hb : Below B w w') (hB : b < B) : w'.ownsMap P k R b n D := by
  obtain ⟨es, cl, h1, h2⟩ := h
  exact ⟨es, cl, (hb.block b hB).trans h1, h2⟩
theorem mvals_gives (n : Nat) (hn : 1 ≤ n) (Bm b nn : Nat) (D0 : DataW Value) (w : World) (hBm : Bm < w.heap.size) (hm : w.cell? ⟨Bm, 0, none⟩ = some (.map (some b))) (hown : w.ownsMap Tryz.prog 3 (plainElem Tryz.prog 3) b nn D0) :
    SeqGives Fence.wide n Tryz.prog 83 #[.pointer (some ⟨Bm, 0, none⟩)] encZ (ValsOf D0) (Maps.size D0) w := fun l J W hW hJ hY h0 =>
  mvals1_in n hn l Bm b nn D0 J hY W hJ ((hW.cell (p := ⟨Bm, 0, none⟩) hBm).trans hm) (own_map_of_below hown hW hown.lt) h0
theorem mvals_any (mb : Option Nat) (w : World) :
    Calls Tryz.prog 71 #[.map mb] w fun e w' => e = .returned (.func (.func 83) #[] #[.pointer (some ⟨w.heap.size, 0, none⟩)]) ∧ w' = w.alloc (.cells #[.map mb] 104) := by
  go_enter Tryz.func71, Tryz.ntmps71
  go_wp2_with fail
  go_ret
  exact ⟨rfl, rfl⟩
theorem mkeys_any (mb : Option Nat) (w : World) :
    Calls Tryz.prog 75 #[.map mb] w fun e w' => e = .returned (.func (.func 84) #[] #[.pointer (some ⟨w.heap.size, 0, none⟩)]) ∧ w' = w.alloc (.cells #[.map mb] 104) := by
  go_enter Tryz.func75, Tryz.ntmps75
  go_wp2_with fail
  go_ret
  exact ⟨rfl, rfl⟩
theorem mcollect_any (g : Nat) (lb : Array Value) (eg : ∀ args w, (callFunc g args).run Tryz.prog w = .ok (.enter g args) w) (S : List Int → Prop) (N : Nat) (hN : N ≤ 1000000) (w : World) (hseq : SeqGives Fence.wide 3 Tryz.prog g lb encZ S N w) :
    Calls Tryz.prog 70 #[.func (.func g) #[] lb] w fun e w' => ∃ (v : Value) (ss : List Int), e = .returned v ∧ S ss ∧ IOwn w' w.heap.size v ss ∧ Below w.heap.size w w' := by
  refine (callsIn_wide (n := 5)).1 ?_
  have h := AnyZI.collect_in Tryz.collectZ Fence.wide 5 trivial trivial rfl (by omega) g lb trivial eg S N (by unfold maxLen; omega) (by omega) w hseq
  refine CallsIn.mono h ?_
  rintro e w' ⟨v, ss, rfl, hS, hrow, _, hb⟩
  exact ⟨v, ss, rfl, hS, hrow, hb⟩
theorem mkeys_gives (n : Nat) (hn : 1 ≤ n) (Bm b nn : Nat) (D0 : DataW Value) (w : World) (hBm : Bm < w.heap.size) (hm : w.cell? ⟨Bm, 0, none⟩ = some (.map (some b))) (hown : w.ownsMap Tryz.prog 3 (plainElem Tryz.prog 3) b nn D0) :
    SeqGives Fence.wide n Tryz.prog 84 #[.pointer (some ⟨Bm, 0, none⟩)] encZ (fun ss => ss.Perm (intKeys D0)) (Maps.size D0) w :=
  AnyZI.keys_gives (ρ := Tryz.keysZ_ren) { Tryz.keysZ with } Fence.wide n trivial rfl hn Bm b nn D0 w hBm hm hown
end Go.Proofs.YtdpijhnbhopnbaaGreatDoor
/- grove.Together: the contract. Conditions: as each lemma names. -/
namespace Go.Proofs.YtdpijhnbhopnbaaGreatDoor
set_option linter.unusedVariables false
set_option linter.unusedSimpArgs false
open Go.RowKit Go.Maps Go.Sort Go.Shelf

/-- the map of votes -/
structure VoteMap (D : DataW Value) (ps : Ps) : Prop where
  has_ : ∀ x : Int, Maps.has D (.int .i64 x) = decide (x ∈ ps.map (·.1))
  at_ : ∀ x ∈ ps.map (·.1), ∀ z, D.atKey (.int .i64 x) z = .lit (.int .i64 (pVotes ps x))
theorem VoteMap.zero : VoteMap (.map []) [] := ⟨fun x => by simp [Maps.has], fun x hx => by simp at hx⟩
theorem VoteMap.next {D : DataW Value} {ps : Ps} (h : VoteMap D ps) (hD : IsMap D) (p : Int × Int) {c : Int} (hc : D.atKey (.int .i64 p.1) (.lit (.int .i64 0)) = .lit (.int .i64 c)) :
    VoteMap (D.put (.int .i64 p.1) (.lit (.int .i64 (c + p.2)))) (ps ++ [p]) ∧ c = pVotes ps p.1 := by
  have hcv : c = pVotes ps p.1 := by
    by_cases hm : p.1 ∈ ps.map (·.1)
    · rw [h.at_ _ hm] at hc; simpa using hc.symm
    · rw [atKey_of_not_has (by rw [h.has_]; simpa using hm)] at hc
      rw [pVotes_none hm]; simpa using hc.symm
  refine ⟨⟨fun x => ?_, fun x hx z => ?_⟩, hcv⟩
  · by_cases e : x = p.1
    · subst e; rw [has_put_same hD (show WideAt.IsKeyLit (Lit.int .i64 p.1) from trivial)]; simp
    · rw [has_put_other (by intro h; injection h with _ h; exact e h), h.has_]; simp [e]
  · by_cases e : x = p.1
    · subst e; rw [atKey_put_same hD (show WideAt.IsKeyLit (Lit.int .i64 p.1) from trivial), pVotes_snoc_same, hcv]
    · rw [atKey_put_other (by intro h; injection h with _ h; exact e h), pVotes_snoc_other _ _ (Ne.symm e)]
      refine h.at_ x ?_ z
      simp [e] at hx ⊢
      exact hx
/-- has an entry fewer votes? -/
def fewD (best : Int) (_ : Lit) : DataW Value → Bool
  | .lit (.int _ v) => decide (v < best)
  | _ => false
theorem keys_left {P : Program} {w : World} {k : TypeId} {b n : Nat} {D : DataW Value} {ps : Ps} {best : Int} (K : Keyed P k) (hk : P.underlying k = some (.int .i64)) {R : Value → Option (DataW Value × List MemPlace)} (hown : w.ownsMap P k R b n D) (hv : VoteMap D ps) {ss : List Int}
    (hs : ss.Perm (intKeys (Lib.deleteFuncD (fewD best) D))) : ∀ x, x ∈ ss ↔ x ∈ ps.map (·.1) ∧ best ≤ pVotes ps x := by
  intro x
  obtain ⟨es, hD, hpw, _⟩ := hown.entries K
  obtain ⟨es', hD', hko⟩ := hown.keysOf
  obtain rfl : es = es' := by rw [hD] at hD'; simpa using hD'
  subst hD
  rw [hs.mem_iff]
  show x ∈ (es.filter fun p => !fewD best p.1 p.2).map (fun p => Go.intOf p.1) ↔ _
  have key : ∀ p ∈ es, ∃ y, p.1 = .int .i64 y ∧ p.2 = .lit (.int .i64 (pVotes ps y)) ∧ y ∈ ps.map (·.1) := by
    intro p hp
    obtain ⟨v, hv'⟩ := hko p hp
    obtain ⟨y, _, hy, _⟩ := Maps.keyOf_i64 hk hv'
    have hh : Maps.has (.map es) (.int .i64 y) = true := by
      rw [has_eq, List.any_eq_true]
      exact ⟨p, hp, by rw [hy]; simp [Lit.sameKey]⟩
    rw [hv.has_] at hh
    have hy2 : y ∈ ps.map (·.1) := by simpa using hh
    have h1 := hv.at_ y hy2 .nil
    have h2 := WideAt.atKey_mem (.nil : DataW Value) (k := .int .i64 y) trivial hpw (d := p.2) (by rw [← hy]; exact hp)
    exact ⟨y, hy, h2.symm.trans h1, hy2⟩
  rw [List.mem_map]
  constructor
  · rintro ⟨p, hp, rfl⟩
    obtain ⟨hp1, hp2⟩ := List.mem_filter.1 hp
    obtain ⟨y, hy, hd, hm⟩ := key p hp1
    rw [hy]
    rw [hd] at hp2
    simp [fewD] at hp2
    exact ⟨hm, hp2⟩
  · rintro ⟨hm, hb⟩
    have hh : Maps.has (.map es) (.int .i64 x) = true := by rw [hv.has_]; simpa using hm
    rw [has_eq, List.any_eq_true] at hh
    obtain ⟨p, hp, hsk⟩ := hh
    obtain ⟨y, hy, hd, _⟩ := key p hp
    rw [hy] at hsk
    have hxy : y = x := by simpa [Lit.sameKey] using hsk
    subst hxy
    refine ⟨p, List.mem_filter.2 ⟨hp, ?_⟩, by rw [hy]; rfl⟩
    rw [hd]
    simp [fewD]
    exact hb
theorem vote_of {ps : Ps} {vs ss : List Int} {D : DataW Value} (hv : VoteMap D ps) (hvs : ValsOf D vs) (hne : ps ≠ []) (hss : ∀ x, x ∈ ss ↔ x ∈ ps.map (·.1) ∧ Lib.maxOf vs ≤ pVotes ps x) : vs ≠ [] ∧ ss ≠ [] ∧ IsVote ps (Lib.minOf ss) := by
  obtain ⟨qs, h1, h2, rfl⟩ := hvs
  have hq : ∀ p ∈ qs, p.1 ∈ ps.map (·.1) ∧ p.2 = pVotes ps p.1 := by
    intro p hp
    have hh := (h1 p.1).1 (List.mem_map.2 ⟨p, hp, rfl⟩)
    rw [hv.has_] at hh
    have hm : p.1 ∈ ps.map (·.1) := by simpa using hh
    have := h2 p hp .nil
    rw [hv.at_ _ hm] at this
    exact ⟨hm, by simpa using this.symm⟩
  have hq2 : ∀ x ∈ ps.map (·.1), pVotes ps x ∈ qs.map (·.2) := by
    intro x hx
    have := (h1 x).2 (by rw [hv.has_]; simpa using hx)
    obtain ⟨p, hp, rfl⟩ := List.mem_map.1 this
    exact List.mem_map.2 ⟨p, hp, (hq p hp).2⟩
  have hvn : qs.map (·.2) ≠ [] := by
    cases ps with
    | nil => exact absurd rfl hne
    | cons a r =>
      intro e
      have := hq2 a.1 (by simp)
      rw [e] at this; cases this
  obtain ⟨hmx, hall⟩ := maxOf_spec hvn
  obtain ⟨p, hp, hpe⟩ := List.mem_map.1 hmx
  have hpm := hq p hp
  have hsn : ss ≠ [] := by
    intro e
    have := (hss p.1).2 ⟨hpm.1, by rw [← hpe, hpm.2]; exact Int.le_refl _⟩
    rw [e] at this; cases this
  obtain ⟨hmin, hmall⟩ := minOf_spec hsn
  obtain ⟨hm1, hm2⟩ := (hss _).1 hmin
  refine ⟨hvn, hsn, hm1, fun v hv' => ?_, fun v hv' e => hmall v ((hss v).2 ⟨hv', by rw [e]; exact hm2⟩)⟩
  exact Int.le_trans (hall _ (hq2 v hv')) hm2

theorem few_any (key : Value) (v best : Int) (bx : Nat) (W : World) (hx : W.cell? ⟨bx, 0, none⟩ = some (.int .i64 best)) :
    Calls Tryz.prog 73 (#[key, .int .i64 v] ++ #[.pointer (some ⟨bx, 0, none⟩)]) W fun e w' => e = .returned (.bool (decide (v < best))) ∧ w' = W := by
  go_enter Tryz.func73, Tryz.ntmps73
  go_wp2
  go_ret
  exact ⟨rfl, rfl⟩
theorem mdel_any (b n bx : Nat) (D : DataW Value) (best : Int) (w : World) (hown : w.ownsMap Tryz.prog 3 (plainElem Tryz.prog 3) b n D) (hx : w.cell? ⟨bx, 0, none⟩ = some (.int .i64 best)) (hne : bx ≠ b) :
    Calls Tryz.prog 72 #[.map (some b), .func (.func 73) #[] #[.pointer (some ⟨bx, 0, none⟩)]] w fun e w' => e = .returned (.tuple #[]) ∧ w'.ownsMap Tryz.prog 3 (plainElem Tryz.prog 3) b n (Lib.deleteFuncD (fewD best) D) ∧ w.grownBy w' (some b) :=
  AnyDf.maps_DeleteFunc Tryz.delZ (int_keyed Tryz.underlying3) (plainElem Tryz.prog 3) (fewD best) 73 #[.pointer (some ⟨bx, 0, none⟩)] b n D w (enters_of Tryz.func73 (by kernel_rfl) rfl) hown (fun W key val kl yd yp hg _ hv => by
    obtain ⟨c, rfl, hy, _⟩ := plainElem_int_inv Tryz.underlying3 hv
    obtain rfl : yd = .lit (.int .i64 c) := by simpa using (congrArg Prod.fst hy)
    exact (few_any key c best bx W (hg.cell hx (fun e => hne (by injection e)))).mono fun _ _ ⟨he, hw⟩ => ⟨he, hw ▸ World.grownBy.refl _ _⟩)

theorem max_any (v : Value) (l : List Int) (base : Nat) (w : World) (ho : IOwn w base v l) (hne : l ≠ []) : Calls Tryz.prog 69 #[v] w fun e w' => e = .returned (.int .i64 (Lib.maxOf l)) ∧ w = w' := by
  obtain ⟨A, c, rfl, hr, hm, _, _⟩ := ho.slice_
  have hpos : 0 < l.length := List.length_pos_iff.2 hne
  obtain ⟨b, off, rfl, _, hc⟩ := Reads.spot hr hpos (by omega)
  have := Tryz.slices_Max_int b off l.length c l w hpos (Nat.le_refl _) (by unfold maxLen at hm; omega) (fun j hj => hc j _ (by rw [List.getElem?_map, List.getElem?_eq_getElem hj, List.getD_eq_getElem?_getD, List.getElem?_eq_getElem hj]; rfl))
  refine this.mono ?_
  rintro e w' ⟨rfl, rfl⟩
  exact ⟨by rw [List.take_of_length_le (Nat.le_refl _)], rfl⟩
theorem min_any (v : Value) (l : List Int) (base : Nat) (w : World) (ho : IOwn w base v l) (hne : l ≠ []) : Calls Tryz.prog 74 #[v] w fun e w' => e = .returned (.int .i64 (Lib.minOf l)) ∧ w = w' := by
  obtain ⟨A, c, rfl, hr, hm, _, _⟩ := ho.slice_
  have hpos : 0 < l.length := List.length_pos_iff.2 hne
  obtain ⟨b, off, rfl, _, hc⟩ := Reads.spot hr hpos (by omega)
  have := Tryz.slices_Min_int b off l.length c l w hpos (Nat.le_refl _) (by unfold maxLen at hm; omega) (fun j hj => hc j _ (by rw [List.getElem?_map, List.getElem?_eq_getElem hj, List.getD_eq_getElem?_getD, List.getElem?_eq_getElem hj]; rfl))
  refine this.mono ?_
  rintro e w' ⟨rfl, rfl⟩
  exact ⟨by rw [List.take_of_length_le (Nat.le_refl _)], rfl⟩
end Go.Proofs.YtdpijhnbhopnbaaGreatDoor
