/- Maps of the call's own, with elements of whatever kind: each element is held as the value that it is. Conditions: as each lemma names. -/
import Derived.Test.YtijgiieoinmjhaaDoorWords
import Derived.Maps.Own
import Derived.Maps.OwnOps
import Derived.Maps.OwnSet
import Derived.Maps.Views
namespace Go.Proofs.YtijgiieoinmjhaaDoor
set_option linter.unusedVariables false
set_option linter.unusedSimpArgs false
open Go.RowKit Go.Maps

/-- an element, held as it is -/
def heldR (v : Value) : Option (DataW Value × List MemPlace) := some (.held v, [])
theorem heldR_inv {v : Value} {d : DataW Value} {ps : List MemPlace} (h : heldR v = some (d, ps)) : d = .held v := by
  unfold heldR at h; injection h with h; exact (Prod.mk.inj h).1.symm
def keyI (x : Int) : Lit := .int .i64 x
theorem keyI_key {P : Program} {k : TypeId} (hk : P.underlying k = some (.int .i64)) {x : Int} (h : -9223372036854775808 ≤ x ∧ x ≤ 9223372036854775807) : keyOf P k (.int .i64 x) = some (keyI x) := keyOf_int_mk hk (WalkArith.wf_i64 h)
theorem keyI_ne {x y : Int} (h : x ≠ y) : keyI x ≠ keyI y := by intro e; injection e with _ e; exact h e
theorem keyI_is (x : Int) : WideAt.IsKeyLit (keyI x) := trivial

/-- block b is a map (of at most n entries) -/
structure MapIs (P : Program) (w : World) (k : TypeId) (b n : Nat) (D : DataW Value) : Prop where
  own : w.ownsMap P k heldR b n D
  tidy : Tidy D
section
variable {P : Program} {w w' : World} {k : TypeId} {b n : Nat} {D : DataW Value}
theorem MapIs.lt (h : MapIs P w k b n D) : b < w.heap.size := h.own.lt
theorem MapIs.is_map (h : MapIs P w k b n D) : ∃ es c, w.heap[b]? = some (.map es c) := by
  obtain ⟨es, c, hb, _⟩ := h.own; exact ⟨es, c, hb⟩
theorem MapIs.kept {row : Option Nat} (h : MapIs P w k b n D) (hg : w.grownBy w' row) (hne : some b ≠ row) : MapIs P w' k b n D := ⟨h.own.kept hg hne, h.tidy⟩
theorem MapIs.below {B : Nat} (h : MapIs P w k b n D) (hb : Below B w w') (hB : b < B) : MapIs P w' k b n D := by
  obtain ⟨es, c, h1, h2⟩ := h.own
  exact ⟨⟨es, c, (hb.block b hB).trans h1, h2⟩, h.tidy⟩
theorem MapIs.alloc (h : MapIs P w k b n D) (o : Obj) : MapIs P (w.alloc o) k b n D := ⟨h.own.alloc o, h.tidy⟩
theorem MapIs.drew (h : MapIs P w k b n D) : MapIs P w.drew k b n D := ⟨h.own.drew, h.tidy⟩
theorem MapIs.drewN (h : MapIs P w k b n D) (q : Nat) : MapIs P (w.drewN q) k b n D := ⟨h.own, h.tidy⟩
/-- a map's block has no cells -/
theorem MapIs.no_cell (h : MapIs P w k b n D) (p : Addr) (hp : p.block = b) : w.cell? p = none := by
  obtain ⟨es, c, hb⟩ := h.is_map
  obtain ⟨pb, po, ps⟩ := p
  simp only at hp
  subst hp
  simp [World.cell?, hb]
/-- where only a map has turned all cells are as they were -/
theorem MapIs.cells {n' : Nat} {D' : DataW Value} (h : MapIs P w k b n D) (h' : MapIs P w' k b n' D') (hg : w.grownBy w' (some b)) (p : Addr) (hp : p.block < w.heap.size) : w'.cell? p = w.cell? p := by
  by_cases e : p.block = b
  · rw [h.no_cell p e, h'.no_cell p e]
  · exact World.cell?_of_block (hg.block p.block hp (fun h => e (by injection h with h)))
theorem MapIs.ne_blk {g : Nat} {t : TypeId} {cs : Array Value} (h : MapIs P w k b n D) (hg : Blk w g t cs) : b ≠ g := by
  rintro rfl
  obtain ⟨es, c, hb⟩ := h.is_map
  unfold Blk at hg
  rw [hb] at hg
  cases hg
theorem MapIs.ne_own {base : Nat} {e : TypeId} {size m : Nat} {v : Value} {xs : List Value} (h : MapIs P w k b n D) (ho : w.ownsRow base e size v m xs) : v.ownBlock = none ∨ v.ownBlock ≠ some b := by
  rcases ho.2 with ⟨rfl, _⟩ | ⟨g, cap, cur, rfl, _, hh, _⟩
  · exact .inl rfl
  · refine .inr fun e => ?_
    obtain ⟨es, c, hb⟩ := h.is_map
    have : g = b := by simpa [Value.ownBlock] using e
    subst this
    rw [hb] at hh; cases hh
theorem MapIs.made (w : World) (P : Program) (k : TypeId) : MapIs P (w.alloc (.map #[] 0)) k w.heap.size 0 (.map []) := ⟨World.ownsMap_made w P k heldR, tidy_empty⟩
end
theorem below_of_grown {w w' : World} {base b : Nat} (hg : w.grownBy w' (some b)) (hB : base ≤ w.heap.size) (hb : base ≤ b) : Below base w w' :=
  (Below.refl base w).grown hg hB (fun k e => by injection e with e; omega)

theorem own_map_below {P : Program} {w w' : World} {B b n : Nat} {k : TypeId} {D : DataW Value} (h : w.ownsMap P k heldR b n D) (hb : Below B w w') (hB : b < B) : w'.ownsMap P k heldR b n D := by
  obtain ⟨es, cl, h1, h2⟩ := h
  exact ⟨es, cl, (hb.block b hB).trans h1, h2⟩
/-- m[k] = v inside a region that draws -/
theorem step_mapUpdate_own {H : Type} {P : Program} (w : World) {ops : Array Oper} {o : Oper} {a : Act} {K : Act → World → Prop} {Q : Exit → Act → World → Prop} {E : Prop}
    (hgd : o.guard = none) (m x v : Operand) (t : TypeId) (hop : o.op = Op.mapUpdate t m x v)
    (k e : TypeId) (Kd : Keyed P k) (ht : P.underlying t = some (.map k e)) (R : Value → Option (DataW H × List MemPlace)) (b n : Nat) (D : DataW H)
    (hm : a.eval m = .map (some b)) (hown : w.ownsMap P k R b n D) (hn : n < maxLen) (key val : Value) (kl : Lit) (hx : a.eval x = key) (hv : a.eval v = val) (hkey : keyOf P k key = some kl)
    (d : DataW H) (ps : List MemPlace) (hval : R val = some (d, ps))
    (hK : ∀ w', w'.ownsMap P k R b (n + 1) (D.put kl d) → w.grownBy w' (some b) → K (a.put o.dst undef) w') :
    if Region.wanted o (yielded ops a.tmps) = true then Oper.wp P o a w K Q else E := by
  have hw : Region.wanted o (yielded ops a.tmps) = true := by simp [Region.wanted, hgd]
  rw [if_pos hw]
  obtain ⟨w', hrun, r1, r2⟩ := hown.update Kd ht hn hkey hval
  unfold Oper.wp
  simp [execOp, hop, hm, hx, hv, hrun, Result.andThen]
  exact hK w' r1 r2
end Go.Proofs.YtijgiieoinmjhaaDoor
