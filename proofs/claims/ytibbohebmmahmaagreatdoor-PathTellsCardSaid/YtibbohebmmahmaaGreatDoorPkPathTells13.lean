/- Part 13 of what LawPathTells needs: Leaves. Conditions: as each lemma names. -/
import Derived.Test.YtibbohebmmahmaaGreatDoorPkPathTells12
import Derived.Deep.RegionHeld3
import Derived.Shelf.Abstract
/- path.Leaves: the leaves below a node, each handed with its spans to a listener. Conditions: as each lemma names. -/
namespace Go.Proofs.YtibbohebmmahmaaGreatDoor
set_option linter.unusedVariables false
set_option linter.unusedSimpArgs false
open Go.RowKit

/-- the leaves below a node, with their spans -/
def lv (t : List Nd) : Nat → Nat → List Sp → List (Nat × List Sp)
  | 0, _, _ => []
  | k + 1, i, l => match t[i]? with
    | some n => if n.f = -1 then [(i, l)] else lv t k n.l.toNat (sideL l n true) ++ lv t k n.r.toNat (sideL l n false)
    | none => []
theorem lv_leaf {t : List Nd} {k i : Nat} {n : Nd} {l : List Sp} (h : t[i]? = some n) (hf : n.f = -1) : lv t (k + 1) i l = [(i, l)] := by simp only [lv, h, hf, if_true]
theorem lv_step {t : List Nd} {k i : Nat} {n : Nd} {l : List Sp} (h : t[i]? = some n) (hf : n.f ≠ -1) : lv t (k + 1) i l = lv t k n.l.toNat (sideL l n true) ++ lv t k n.r.toNat (sideL l n false) := by simp only [lv, h, hf, if_false]
theorem sideL_len (l : List Sp) (n : Nd) (b : Bool) : (sideL l n b).length = l.length := by unfold sideL; split <;> simp

/-- only the blocks that T names may have turned -/
structure Touch (T : World → Nat → Prop) (w w' : World) : Prop where
  os : w'.os = w.os
  tape : w'.tape = w.tape
  output : w'.output = w.output
  size : w.heap.size ≤ w'.heap.size
  block : ∀ g, g < w.heap.size → ¬ T w g → w'.heap[g]? = w.heap[g]?
  less : ∀ g, g < w.heap.size → T w' g → T w g
theorem Touch.refl (T : World → Nat → Prop) (w : World) : Touch T w w := ⟨rfl, rfl, rfl, Nat.le_refl _, fun _ _ _ => rfl, fun _ _ h => h⟩
theorem Touch.trans {T : World → Nat → Prop} {a b c : World} (h : Touch T a b) (k : Touch T b c) : Touch T a c :=
  ⟨k.os.trans h.os, k.tape.trans h.tape, k.output.trans h.output, Nat.le_trans h.size k.size, fun g hg hn => (k.block g (Nat.lt_of_lt_of_le hg h.size) (fun e => hn (h.less g hg e))).trans (h.block g hg hn), fun g hg e => h.less g hg (k.less g (Nat.lt_of_lt_of_le hg h.size) e)⟩
/-- what a listener holds: T's blocks are laid, and where nothing that lay has turned it holds still -/
structure Ear {α : Type} (T : World → Nat → Prop) (J : List α → World → Prop) (B0 : Nat) : Prop where
  lt : ∀ pre w g, J pre w → T w g → g < w.heap.size ∧ B0 ≤ g
  keep : ∀ pre w w', J pre w → Below w.heap.size w w' → J pre w' ∧ ∀ g, T w' g → T w g
theorem Touch.of_below {T : World → Nat → Prop} {w w' : World} (hb : Below w.heap.size w w') (h : ∀ g, T w' g → T w g) : Touch T w w' :=
  ⟨hb.os, hb.tape, hb.output, hb.size, fun g hg _ => hb.block g hg, fun g _ e => h g e⟩
theorem Touch.below {T : World → Nat → Prop} {w w' : World} {B0 : Nat} (h : Touch T w w') (hB : B0 ≤ w.heap.size) (hlt : ∀ g, T w g → B0 ≤ g) : Below B0 w w' :=
  ⟨h.os, h.tape, h.output, h.size, fun g hg => h.block g (by omega) (fun e => by have := hlt g e; omega)⟩
theorem Reads.touch {T : World → Nat → Prop} {w w' : World} {B size n : Nat} {A : Option Addr} {xs : List Value} (h : Reads w B size A n xs) (ht : Touch T w w') (hB : B ≤ w.heap.size) (hA : ∀ a, A = some a → ¬ T w a.block) : Reads w' B size A n xs :=
  ⟨h.1, fun hn => by
    obtain ⟨ad, e, hb, hc⟩ := h.2 hn
    refine ⟨ad, e, hb, fun j u hu => ?_⟩
    rw [← hc j u hu]
    exact World.cell?_of_block (by rw [block_of_add]; exact ht.block _ (by omega) (hA ad e))⟩

/-- cells that a listener leaves as they are -/
def Still (T : World → Nat → Prop) (cs : List (Addr × Value)) (w : World) : Prop := ∀ c ∈ cs, w.cell? c.1 = some c.2 ∧ ¬ T w c.1.block ∧ c.1.block < w.heap.size
theorem Still.touch {T : World → Nat → Prop} {cs : List (Addr × Value)} {w w' : World} (h : Still T cs w) (ht : Touch T w w') : Still T cs w' := fun c hc => by
  obtain ⟨h1, h2, h3⟩ := h c hc
  exact ⟨(World.cell?_of_block (ht.block _ h3 h2)).trans h1, fun e => h2 (ht.less _ h3 e), Nat.lt_of_lt_of_le h3 ht.size⟩
theorem Still.below {T : World → Nat → Prop} {cs : List (Addr × Value)} {w w' : World} (h : Still T cs w) (hb : Below w.heap.size w w') (hT : ∀ g, T w' g → T w g) : Still T cs w' := h.touch (Touch.of_below hb hT)
theorem Still.cons {T : World → Nat → Prop} {cs : List (Addr × Value)} {w : World} {p : Addr} {v : Value} (h : Still T cs w) (h1 : w.cell? p = some v) (h2 : ¬ T w p.block) (h3 : p.block < w.heap.size) : Still T ((p, v) :: cs) w := fun c hc => by
  rcases List.mem_cons.1 hc with rfl | hc
  · exact ⟨h1, h2, h3⟩
  · exact h c hc
/-- what two listeners hold together with still cells and two trees of the arguments -/
theorem Ear.with_ {α β : Type} {T : World → Nat → Prop} {J : List β → World → Prop} {B0 : Nat} (hE : Ear T J B0) (f : List α → List β) (cs : List (Addr × Value)) (R : World → Prop) (hR : ∀ w w', R w → Below B0 w w' → R w') :
    Ear T (fun (pre : List α) w => J (f pre) w ∧ Still T cs w ∧ R w ∧ B0 ≤ w.heap.size) B0 :=
  ⟨fun pre w g h hg => hE.lt _ w g h.1 hg, fun pre w w' h hb => by
    obtain ⟨h1, h2⟩ := hE.keep _ w w' h.1 hb
    exact ⟨⟨h1, h.2.1.below hb h2, hR _ _ h.2.2.1 (hb.mono h.2.2.2), Nat.le_trans h.2.2.2 hb.size⟩, h2⟩⟩

def Hear {α : Type} (T : World → Nat → Prop) (J : List α → World → Prop) (ys : List α) (w : World) (e : Ending) (w' : World) : Prop :=
  (∃ v, e = .returned v) ∧ J ys w' ∧ Touch T w w'

set_option maxRecDepth 100000 in
set_option maxHeartbeats 4000000 in
theorem leavesW_any (T : World → Nat → Prop) (J : List (Nat × List Sp) → World → Prop) (B0 : Nat) (hE : Ear T J B0) (F : FuncId) (caps : Array Value) (hF : Enters Tryz.prog F) (n : Nat) (hn : n ≤ 100000000)
    (A : Option Addr) (m d : Nat) (t : List Nd) (hm : m ≤ maxLen) (hb : Behind t) (ha : Asks t n) (hcut : ∀ (i : Nat) x, t[i]? = some x → x.f ≠ -1 → -1000000 ≤ x.c ∧ x.c ≤ 1000000) (P : Prop) (M : Nat)
    (step : ∀ pre (leaf : Nat) (l' : List Sp) (A' : Option Addr) (c' : Nat) (w : World), (∃ x, t[leaf]? = some x ∧ x.f = -1) → J pre w → SReads w w.heap.size A' n l' → (A' = none → c' = 0) → (∀ a, A' = some a → ¬ T w a.block) → (P → Soft B0 w A') → pre.length < M →
      Calls Tryz.prog F (#[.int .i64 leaf, .slice A' n c'] ++ caps) w (Hear T J (pre ++ [(leaf, l')]) w)) :
    ∀ (k i : Nat) (l : List Sp) (pre : List (Nat × List Sp)) (Al : Option Addr) (cl : Nat) (w : World), m ≤ i + k → i < m → NReads w B0 A m t → B0 ≤ w.heap.size → J pre w → SReads w w.heap.size Al n l → (Al = none → cl = 0) → (∀ a, Al = some a → ¬ T w a.block) → (P → Soft B0 w Al) → pre.length + (lv t k i l).length ≤ M →
      Calls Tryz.prog 33 #[.slice A m d, .int .i64 i, .slice Al n cl, .func (.func F) #[] caps] w (Hear T J (pre ++ lv t k i l) w) := by
  intro k
  induction k with
  | zero => intro i l pre Al cl w h1 h2; omega
  | succ k ih =>
    intro i l pre Al cl w h1 h2 ht hB0 hJ hl hcl hT hSo hM
    obtain ⟨b, o, x, hA, hbb, hx, g0, g1, g2, g3, g4, g5⟩ := ht.get h2
    subst hA
    by_cases hf : x.f = -1
    · have HL : Hid (lv t (k + 1) i l = [(i, l)]) := hide (lv_leaf hx hf)
      obtain ⟨hJ2, hT2⟩ := hE.keep pre w (w.alloc (.cells #[.int .i64 x.f, .int .i64 x.c, .int .i64 x.l, .int .i64 x.r, .bool x.less, .int .i64 x.v] 40)) hJ ((Below.refl _ _).alloc (Nat.le_refl _) _)
      have hs := step pre i l Al cl _ ⟨x, hx, hf⟩ hJ2 ((Reads.alloc hl (Nat.le_refl _) _).more (by simp)) hcl (fun a e h => hT a e (hT2 _ h)) (fun h => (hSo h).below ((Below.refl _ _).alloc (Nat.le_refl _) _)) (by rw [unhide HL] at hM; simp at hM; omega)
      obtain ⟨xf, xc, xlf, xr, xs, xv⟩ := x
      simp only at hf g0 g1 g2 g3 g4 g5 hs
      subst hf
      clear hx
      have hent := fun (ars : Array Value) (W : World) => hF ars W
      go_enter Tryz.func33, Tryz.ntmps33
      go_wp2_with fail
      refine hs.mono ?_
      rintro e w2 ⟨⟨v, rfl⟩, hJ3, hT3⟩
      go_wp2_with fail
      go_end0
      refine ⟨⟨_, rfl⟩, by rw [unhide HL]; exact hJ3, (Touch.of_below ((Below.refl _ _).alloc (Nat.le_refl _) _) hT2).trans hT3⟩
    · have HL := hide (lv_step (k := k) (l := l) hx hf)
      obtain ⟨hb1, hb2, hb3, hb4⟩ := hb i x hx hf
      obtain ⟨ha1, ha2⟩ := ha i x hx hf
      obtain ⟨hc1, hc2⟩ := hcut i x hx hf
      obtain ⟨jl, hjl⟩ : ∃ j : Nat, x.l = j := ⟨x.l.toNat, by omega⟩
      obtain ⟨jr, hjr⟩ : ∃ j : Nat, x.r = j := ⟨x.r.toNat, by omega⟩
      have hlen := ht.len
      have hnf : (x.f == -1) = false := by simpa using hf
      rw [unhide HL, List.length_append] at hM
      obtain ⟨xf, xc, xlf, xr, xs, xv⟩ := x
      simp only at hjl hjr
      subst hjl hjr
      obtain ⟨Z, hZ⟩ : ∃ Z, Z = Obj.cells #[.int .i64 xf, .int .i64 xc, .int .i64 jl, .int .i64 jr, .bool xs, .int .i64 xv] 40 := ⟨_, rfl⟩
      have bx : Blk (w.alloc Z) w.heap.size 40 #[.int .i64 xf, .int .i64 xc, .int .i64 jl, .int .i64 jr, .bool xs, .int .i64 xv] := by rw [hZ]; exact Blk.new _ _ _
      have hWs : (w.alloc Z).heap.size = w.heap.size + 1 := by simp
      have hWb : Below w.heap.size w (w.alloc Z) := (Below.refl _ _).alloc (Nat.le_refl _) _
      obtain ⟨hJ1, hT1⟩ := hE.keep pre w (w.alloc Z) hJ hWb
      have hl1 : SReads (w.alloc Z) (w.alloc Z).heap.size Al n l := (Reads.below hl hWb).more (by rw [hWs]; omega)
      have ht1 : NReads (w.alloc Z) B0 (some ⟨b, o, none⟩) m t := ht.below (hWb.mono hB0)
      have hTw : ∀ g, T (w.alloc Z) g → g < w.heap.size := fun g h => (hE.lt pre w g hJ (hT1 g h)).1
      have hTA : ∀ a, Al = some a → ¬ T (w.alloc Z) a.block := fun a e h => hT a e (hT1 _ h)
      have hSo1 : P → Soft B0 (w.alloc Z) Al := fun h => (hSo h).below hWb
      have hTW : Touch T w (w.alloc Z) := Touch.of_below hWb hT1
      simp only at hnf g0 g1 g2 g3 g4 g5 hb1 hb2 hb3 hb4 ha1 ha2 hc1 hc2 HL hM
      rw [Int.toNat_natCast, Int.toNat_natCast] at hM
      have HM := hide hM
      clear hM
      have HZ := hide hZ
      go_enter Tryz.func33, Tryz.ntmps33
      go_wp2_with fail
      rw [← unhide HZ]
      clear hZ HZ hx hf hl ht hJ hWb hT1 hT g0 g1 g2 g3 g4 g5
      generalize w.alloc Z = W at *
      have c0 := bx.cell 0
      have c1 := bx.cell 1
      have c2 := bx.cell 2
      have c3 := bx.cell 3
      have c4 := bx.cell 4
      have c5 := bx.cell 5
      simp at c0 c1 c2 c3 c4 c5
      go_region_held3 (fun w' => w'.cell? ⟨w.heap.size, 0, none⟩ = some (.int .i64 xf) ∧ w'.cell? ⟨w.heap.size, 1, none⟩ = some (.int .i64 xc) ∧ w'.cell? ⟨w.heap.size, 2, none⟩ = some (.int .i64 jl) ∧ w'.cell? ⟨w.heap.size, 3, none⟩ = some (.int .i64 jr) ∧ w'.cell? ⟨w.heap.size, 4, none⟩ = some (.bool xs) ∧ w'.cell? ⟨w.heap.size, 5, none⟩ = some (.int .i64 xv))
        (go_keep)
        (first
          | (go_at_call 49
             refine (side_any Al n cl W.heap.size l ⟨xf, xc, jl, jr, xs, xv⟩ true _ (Reads.drew hl1) (Nat.le_refl _) hn hcl ha1 ha2 hc1 hc2).mono ?_
             rintro e w2 ⟨A2, d2, rfl, hr2, hA2, hnew2, hso2, hb2⟩
             have hk2 : ∀ o, w2.cell? ⟨w.heap.size, o, none⟩ = W.cell? ⟨w.heap.size, o, none⟩ := fun o => hb2.cell (p := ⟨w.heap.size, o, none⟩) (by show w.heap.size < W.heap.size; omega)
             have hb2' : Below W.heap.size W w2 := ⟨hb2.os, hb2.tape, hb2.output, hb2.size, hb2.block⟩
             obtain ⟨hJ2, hT2⟩ := hE.keep pre W w2 hJ1 hb2')
          | (go_at_call 33
             refine (ih jl (sideL l ⟨xf, xc, jl, jr, xs, xv⟩ true) pre A2 d2 w2 (by omega) (by omega) (ht1.below (hb2'.mono (by omega))) (by have := hb2'.size; omega) hJ2 hr2 hA2 (fun a e h => by have h3 := hTw _ (hT2 _ h); have h4 : W.heap.size ≤ a.block := hnew2 a e; omega) (fun _ => Soft.low hso2 (by show B0 ≤ W.heap.size; omega)) (by have := unhide HM; omega)).mono ?_
             rintro e w3 ⟨⟨v3, rfl⟩, hJ3, hT3⟩
             have hk3 : ∀ o, w3.cell? ⟨w.heap.size, o, none⟩ = W.cell? ⟨w.heap.size, o, none⟩ := fun o => (World.cell?_of_block (a := ⟨w.heap.size, o, none⟩) (hT3.block _ (by have := hb2'.size; show w.heap.size < _; omega) (fun h => by have := hTw _ (hT2 _ h); simp at this))).trans (hk2 o)))
      have hT13 : Touch T W w3 := (Touch.of_below hb2' hT2).trans hT3
      have hl3 : SReads w3 w3.heap.size Al n l := (Reads.touch hl1 hT13 (Nat.le_refl _) hTA).more hT13.size
      have ht3 : NReads w3 B0 (some ⟨b, o, none⟩) m t := Reads.touch ht1 hT13 (by omega) (fun a e h => by have := (hE.lt pre W _ hJ1 h).2; cases e; simp at this; omega)
      have hT3W : ∀ g, g < W.heap.size → T w3 g → T W g := hT13.less
      have e0 := (hk3 0).trans c0
      have e1 := (hk3 1).trans c1
      have e2 := (hk3 2).trans c2
      have e3 := (hk3 3).trans c3
      have e4 := (hk3 4).trans c4
      have e5 := (hk3 5).trans c5
      have hs3 := hT13.size
      have hTA3 : ∀ a, Al = some a → ¬ T w3 a.block := fun a e h => by
        by_cases hlt : a.block < W.heap.size
        · exact hTA a e (hT3W _ hlt h)
        · rcases Nat.eq_zero_or_pos n with h0 | h0
          · subst h0; omega
          · obtain ⟨ad, e', hbd, _⟩ := hl1.2 h0
            rw [e] at e'; cases e'; omega
      have hTw3 : ∀ g, g < W.heap.size → T w3 g → g < w.heap.size := fun g hg h => hTw g (hT3W g hg h)
      have hJ1' := hide hJ1
      have hT13' := hide hT13
      clear hk3 hk2 c0 c1 c2 c3 c4 c5 hT3 hT2 hJ2 hb2 hb2' hr2 hA2 hnew2 hJ1 hT13 bx hl1 ht1 hTA
      go_wp2_with fail
      go_region_held3 (fun w' => w'.cell? ⟨w.heap.size, 0, none⟩ = some (.int .i64 xf) ∧ w'.cell? ⟨w.heap.size, 1, none⟩ = some (.int .i64 xc) ∧ w'.cell? ⟨w.heap.size, 2, none⟩ = some (.int .i64 jl) ∧ w'.cell? ⟨w.heap.size, 3, none⟩ = some (.int .i64 jr) ∧ w'.cell? ⟨w.heap.size, 4, none⟩ = some (.bool xs) ∧ w'.cell? ⟨w.heap.size, 5, none⟩ = some (.int .i64 xv))
        (go_keep)
        (first
          | (go_at_call 49
             refine (side_any Al n cl w3.heap.size l ⟨xf, xc, jl, jr, xs, xv⟩ false _ (Reads.drew hl3) (Nat.le_refl _) hn hcl ha1 ha2 hc1 hc2).mono ?_
             rintro e w4 ⟨A4, d4, rfl, hr4, hA4, hnew4, hso4, hb4⟩
             have hk4 : ∀ o, w4.cell? ⟨w.heap.size, o, none⟩ = w3.cell? ⟨w.heap.size, o, none⟩ := fun o => hb4.cell (p := ⟨w.heap.size, o, none⟩) (by show w.heap.size < w3.heap.size; omega)
             have hb4' : Below w3.heap.size w3 w4 := ⟨hb4.os, hb4.tape, hb4.output, hb4.size, hb4.block⟩
             obtain ⟨hJ4, hT4⟩ := hE.keep _ w3 w4 hJ3 hb4')
          | (go_at_call 33
             refine (ih jr (sideL l ⟨xf, xc, jl, jr, xs, xv⟩ false) _ A4 d4 w4 (by omega) (by omega) (ht3.below (hb4'.mono (by omega))) (by have := hb4'.size; omega) hJ4 hr4 hA4 (fun a e h => by have h3 := hE.lt _ w3 _ hJ3 (hT4 _ h); have h4 : w3.heap.size ≤ a.block := hnew4 a e; omega) (fun _ => Soft.low hso4 (by show B0 ≤ w3.heap.size; omega)) (by have := unhide HM; rw [List.length_append]; omega)).mono ?_
             rintro e w5 ⟨⟨v5, rfl⟩, hJ5, hT5⟩
             have hk5 : ∀ o, w5.cell? ⟨w.heap.size, o, none⟩ = w3.cell? ⟨w.heap.size, o, none⟩ := fun o => (World.cell?_of_block (a := ⟨w.heap.size, o, none⟩) (hT5.block _ (by have := hb4'.size; show w.heap.size < _; omega) (fun h => by have := hTw3 _ (by simp; omega) (hT4 _ h); simp at this))).trans (hk4 o)))
      go_wp2_with fail
      go_end0
      refine ⟨⟨_, rfl⟩, ?_, hTW.trans ((unhide hT13').trans ((Touch.of_below hb4' hT4).trans hT5))⟩
      rw [unhide HL]
      simpa using hJ5
end Go.Proofs.YtibbohebmmahmaaGreatDoor
