/- path.Region, path.Reach. Conditions: as each lemma names. -/
import Derived.Test.YtefkjpcgcgofgaaRegion
import Derived.Test.YtefkjpcgcgofgaaInts
namespace Go.Proofs.Ytefkjpcgcgofgaa
set_option linter.unusedVariables false
set_option linter.unusedSimpArgs false
open Go.RowKit

/-! ### Region's listener -/
def RegT (go : Nat) : World → Nat → Prop := fun _ k => k = go
def RegOf (go n B0 : Nat) (w : World) (v : Value) : Option (List Sp) → Prop
  | none => v = .slice none 0 0
  | some l => ∃ A c, v = .slice A n c ∧ SReads w w.heap.size A n l ∧ Soft B0 w A ∧ (∀ a, A = some a → a.block ≠ go) ∧ l.length = n ∧ (A = none → c = 0)
def RegJ (go n leaf B0 : Nat) (pl : Addr) (ys : List (Nat × List Sp)) (w : World) : Prop := w.cell? pl = some (.int .i64 leaf) ∧ pl.block ≠ go ∧ ∃ v, Blk w go 54 #[v] ∧ RegOf go n B0 w v (lastAt ys leaf)
theorem reg_ear (go n leaf B0 : Nat) (pl : Addr) (h : B0 ≤ go) : Ear (RegT go) (RegJ go n leaf B0 pl) B0 :=
  ⟨fun pre w k hJ hk => by obtain ⟨_, _, v, hv, _⟩ := hJ; cases hk; exact ⟨hv.lt, h⟩, fun pre w w' hJ hb => by
    obtain ⟨h1, h2, v, hv, h3⟩ := hJ
    refine ⟨⟨(hb.cell (p := pl) (cell_lt h1)).trans h1, h2, v, hv.below hb hv.lt, ?_⟩, fun _ h => h⟩
    cases hl : lastAt pre leaf with
    | none => rw [hl] at h3; exact h3
    | some l =>
      rw [hl] at h3
      obtain ⟨A, c, e, hr, hs, hn, hl2, hc⟩ := h3
      exact ⟨A, c, e, (hr.below hb).more hb.size, hs.below hb, hn, hl2, hc⟩⟩
def regE (t : List Nd) (fe leaf : Int) : Int := if treeE t fe = 0 then (match t[leaf.toNat]? with
  | some x => if leaf < 0 then 1 else if x.f = -1 then 0 else 1
  | none => 1) else treeE t fe
def mixL (l : List Sp) (k : Nat) : List Sp := (l.take k).map fixS ++ l.drop k
theorem mixL_at {l : List Sp} {k : Nat} : (mixL l k)[k]? = l[k]? := by
  unfold mixL
  by_cases h : k ≤ l.length
  · rw [List.getElem?_append_right (by simp; omega), List.getElem?_drop]
    congr 1
    simp; omega
  · rw [List.getElem?_append_right (by simp; omega), List.getElem?_drop, List.getElem?_eq_none (by simp; omega), List.getElem?_eq_none (by omega)]
theorem mixL_next {l : List Sp} {k : Nat} {s : Sp} (h : l[k]? = some s) : (mixL l k).set k (fixS s) = mixL l (k + 1) := by
  have hk : k < l.length := (List.getElem?_eq_some_iff.1 h).1
  unfold mixL
  rw [take_next h, drop_at h, List.set_append_right _ _ (by simp; omega), List.map_append, List.append_assoc]
  congr 1
  simp
  rw [show k - min k l.length = 0 by omega]
  rfl
theorem mixL_keep {l : List Sp} {k : Nat} {s : Sp} (h : l[k]? = some s) (hs : fixS s = s) : mixL l (k + 1) = mixL l k := by
  rw [← mixL_next h, hs]
  refine List.ext_getElem? fun j => ?_
  rw [List.getElem?_set]
  split
  · rename_i e; subst e
    split
    · rw [mixL_at, h]
    · rename_i h2; rw [List.getElem?_eq_none (by omega)]
  · rfl
/-- what Region tells -/
def RegPost (t : List Nd) (fe leaf : Int) (w : World) (e : Ending) (w' : World) : Prop :=
  ∃ A n c l, e = .returned (.tuple #[.slice A n c, .bool (regE t fe leaf == 0 && anyB l), errV (regE t fe leaf)]) ∧ SReads w' w'.heap.size A n l ∧ (regE t fe leaf = 0 → (n : Int) = fe ∧ l = (regL t fe.toNat leaf.toNat).map fixS) ∧ (regE t fe leaf ≠ 0 → n = 0) ∧ Below w.heap.size w w'
theorem RegPost.fault {t : List Nd} {fe leaf : Int} {w w' : World} (h : regE t fe leaf ≠ 0) (hb : Below w.heap.size w w') : RegPost t fe leaf w (.returned (.tuple #[.slice none 0 0, .bool false, errV (regE t fe leaf)])) w' :=
  ⟨none, 0, 0, [], by rw [show (regE t fe leaf == 0) = false by simpa using h]; rfl, ⟨rfl, fun h => absurd h (by omega)⟩, fun h' => absurd h' h, fun _ => rfl, hb⟩

end Go.Proofs.Ytefkjpcgcgofgaa
