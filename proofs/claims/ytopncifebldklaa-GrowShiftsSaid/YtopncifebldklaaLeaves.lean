/- path.Leaves: the leaves below a node, each handed with its spans to a listener. Conditions: as each lemma names. -/
import Derived.Test.YtopncifebldklaaSide
import Derived.Deep.RegionHeld3
import Derived.Shelf.Abstract
namespace Go.Proofs.Ytopncifebldklaa
set_option linter.unusedVariables false
set_option linter.unusedSimpArgs false
open Go.RowKit

/-- the leaves below a node, with their spans -/
def lv (t : List Nd) : Nat → Nat → List Sp → List (Nat × List Sp)
  | 0, _, _ => []
  | k + 1, i, l => match t[i]? with
    | some n => if n.f = -1 then [(i, l)] else lv t k n.l.toNat (sideL l n true) ++ lv t k n.r.toNat (sideL l n false)
    | none => []
theorem lv_leaf {t : List Nd} {k i : Nat} {n : Nd} {l : List Sp} (h : t[i]? = some n) (hf : n.f = -1) : lv t (k + 1) i l = [(i, l)] := by simp only [lv, h, hf, if_true]
theorem lv_step {t : List Nd} {k i : Nat} {n : Nd} {l : List Sp} (h : t[i]? = some n) (hf : n.f ≠ -1) : lv t (k + 1) i l = lv t k n.l.toNat (sideL l n true) ++ lv t k n.r.toNat (sideL l n false) := by simp only [lv, h, hf, if_false]
theorem sideL_len (l : List Sp) (n : Nd) (b : Bool) : (sideL l n b).length = l.length := by unfold sideL; split <;> simp

/-- only the blocks that T names may have turned -/
structure Touch (T : World → Nat → Prop) (w w' : World) : Prop where
  os : w'.os = w.os
  tape : w'.tape = w.tape
  output : w'.output = w.output
  size : w.heap.size ≤ w'.heap.size
  block : ∀ g, g < w.heap.size → ¬ T w g → w'.heap[g]? = w.heap[g]?
  less : ∀ g, g < w.heap.size → T w' g → T w g
theorem Touch.refl (T : World → Nat → Prop) (w : World) : Touch T w w := ⟨rfl, rfl, rfl, Nat.le_refl _, fun _ _ _ => rfl, fun _ _ h => h⟩
theorem Touch.trans {T : World → Nat → Prop} {a b c : World} (h : Touch T a b) (k : Touch T b c) : Touch T a c :=
  ⟨k.os.trans h.os, k.tape.trans h.tape, k.output.trans h.output, Nat.le_trans h.size k.size, fun g hg hn => (k.block g (Nat.lt_of_lt_of_le hg h.size) (fun e => hn (h.less g hg e))).trans (h.block g hg hn), fun g hg e => h.less g hg (k.less g (Nat.lt_of_lt_of_le hg h.size) e)⟩
/-- what a listener holds: T's blocks are laid, and where nothing that lay has turned it holds still -/
structure Ear {α : Type} (T : World → Nat → Prop) (J : List α → World → Prop) (B0 : Nat) : Prop where
  lt : ∀ pre w g, J pre w → T w g → g < w.heap.size ∧ B0 ≤ g
  keep : ∀ pre w w', J pre w → Below w.heap.size w w' → J pre w' ∧ ∀ g, T w' g → T w g
theorem Touch.of_below {T : World → Nat → Prop} {w w' : World} (hb : Below w.heap.size w w') (h : ∀ g, T w' g → T w g) : Touch T w w' :=
  ⟨hb.os, hb.tape, hb.output, hb.size, fun g hg _ => hb.block g hg, fun g _ e => h g e⟩
theorem Touch.below {T : World → Nat → Prop} {w w' : World} {B0 : Nat} (h : Touch T w w') (hB : B0 ≤ w.heap.size) (hlt : ∀ g, T w g → B0 ≤ g) : Below B0 w w' :=
  ⟨h.os, h.tape, h.output, h.size, fun g hg => h.block g (by omega) (fun e => by have := hlt g e; omega)⟩
theorem Reads.touch {T : World → Nat → Prop} {w w' : World} {B size n : Nat} {A : Option Addr} {xs : List Value} (h : Reads w B size A n xs) (ht : Touch T w w') (hB : B ≤ w.heap.size) (hA : ∀ a, A = some a → ¬ T w a.block) : Reads w' B size A n xs :=
  ⟨h.1, fun hn => by
    obtain ⟨ad, e, hb, hc⟩ := h.2 hn
    refine ⟨ad, e, hb, fun j u hu => ?_⟩
    rw [← hc j u hu]
    exact World.cell?_of_block (by rw [block_of_add]; exact ht.block _ (by omega) (hA ad e))⟩

/-- cells that a listener leaves as they are -/
def Still (T : World → Nat → Prop) (cs : List (Addr × Value)) (w : World) : Prop := ∀ c ∈ cs, w.cell? c.1 = some c.2 ∧ ¬ T w c.1.block ∧ c.1.block < w.heap.size
theorem Still.touch {T : World → Nat → Prop} {cs : List (Addr × Value)} {w w' : World} (h : Still T cs w) (ht : Touch T w w') : Still T cs w' := fun c hc => by
  obtain ⟨h1, h2, h3⟩ := h c hc
  exact ⟨(World.cell?_of_block (ht.block _ h3 h2)).trans h1, fun e => h2 (ht.less _ h3 e), Nat.lt_of_lt_of_le h3 ht.size⟩
theorem Still.below {T : World → Nat → Prop} {cs : List (Addr × Value)} {w w' : World} (h : Still T cs w) (hb : Below w.heap.size w w') (hT : ∀ g, T w' g → T w g) : Still T cs w' := h.touch (Touch.of_below hb hT)
theorem Still.cons {T : World → Nat → Prop} {cs : List (Addr × Value)} {w : World} {p : Addr} {v : Value} (h : Still T cs w) (h1 : w.cell? p = some v) (h2 : ¬ T w p.block) (h3 : p.block < w.heap.size) : Still T ((p, v) :: cs) w := fun c hc => by
  rcases List.mem_cons.1 hc with rfl | hc
  · exact ⟨h1, h2, h3⟩
  · exact h c hc
/-- what two listeners hold together with still cells and two trees of the arguments -/
theorem Ear.with_ {α β : Type} {T : World → Nat → Prop} {J : List β → World → Prop} {B0 : Nat} (hE : Ear T J B0) (f : List α → List β) (cs : List (Addr × Value)) (R : World → Prop) (hR : ∀ w w', R w → Below B0 w w' → R w') :
    Ear T (fun (pre : List α) w => J (f pre) w ∧ Still T cs w ∧ R w ∧ B0 ≤ w.heap.size) B0 :=
  ⟨fun pre w g h hg => hE.lt _ w g h.1 hg, fun pre w w' h hb => by
    obtain ⟨h1, h2⟩ := hE.keep _ w w' h.1 hb
    exact ⟨⟨h1, h.2.1.below hb h2, hR _ _ h.2.2.1 (hb.mono h.2.2.2), Nat.le_trans h.2.2.2 hb.size⟩, h2⟩⟩

def Hear {α : Type} (T : World → Nat → Prop) (J : List α → World → Prop) (ys : List α) (w : World) (e : Ending) (w' : World) : Prop :=
  (∃ v, e = .returned v) ∧ J ys w' ∧ Touch T w w'

end Go.Proofs.Ytopncifebldklaa
