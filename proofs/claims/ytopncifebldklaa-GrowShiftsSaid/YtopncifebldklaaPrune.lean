/- Package prune: nodes with their kids in memory, Of, pruned, Lay, Tree. Conditions: as each lemma names. -/
import Derived.Test.YtopncifebldklaaKin
import Derived.Test.YtopncifebldklaaPick
import Derived.Test.YtopncifebldklaaTreeCheck
namespace Go.Proofs.Ytopncifebldklaa
set_option linter.unusedVariables false
set_option linter.unusedSimpArgs false
open Go.RowKit

/-- cells of a node with its kids -/
def kcells (x : Nd) (u v : Option Addr) : Array Value := #[.int .i64 x.f, .int .i64 x.c, .int .i64 x.l, .int .i64 x.r, .bool x.less, .int .i64 x.v, .pointer u, .pointer v]
/-- a node with its kids lies in memory, in blocks of which S holds -/
def KReads (w : World) (S : Nat → Prop) : Kt → Nat → Prop
  | .leaf x, g => S g ∧ Blk w g 83 (kcells x none none)
  | .node x l r, g => S g ∧ ∃ p q, Blk w g 83 (kcells x (some ⟨p, 0, none⟩) (some ⟨q, 0, none⟩)) ∧ KReads w S l p ∧ KReads w S r q
theorem KReads.keep {w w' : World} {S S' : Nat → Prop} (hS : ∀ b, S b → S' b) (hb : ∀ b, S b → w'.heap[b]? = w.heap[b]?) : ∀ {k : Kt} {g : Nat}, KReads w S k g → KReads w' S' k g := by
  intro k
  induction k with
  | leaf x => intro g h; exact ⟨hS _ h.1, (hb _ h.1).trans h.2⟩
  | node x l r il ir =>
    intro g h
    obtain ⟨h1, p, q, h2, h3, h4⟩ := h
    exact ⟨hS _ h1, p, q, (hb _ h1).trans h2, il h3, ir h4⟩
theorem KReads.in_ {w : World} {S : Nat → Prop} {k : Kt} {g : Nat} (h : KReads w S k g) : S g := by cases k <;> exact h.1
theorem KReads.drewN {w : World} {S : Nat → Prop} {k : Kt} {g : Nat} (h : KReads w S k g) (n : Nat) : KReads (w.drewN n) S k g := KReads.keep (w := w) (w' := w.drewN n) (S := S) (fun _ h => h) (fun _ _ => rfl) h
theorem KReads.drew {w : World} {S : Nat → Prop} {k : Kt} {g : Nat} (h : KReads w S k g) : KReads w.drew S k g := KReads.keep (w := w) (w' := w.drew) (S := S) (fun _ h => h) (fun _ _ => rfl) h
def Till (B : Nat) (b : Nat) : Prop := b < B
def Span2 (A B : Nat) (b : Nat) : Prop := A ≤ b ∧ b < B
theorem KReads.below {w w' : World} {B : Nat} (hb : Below B w w') {k : Kt} {g : Nat} (h : KReads w (Till B) k g) : KReads w' (Till B) k g := h.keep (fun _ h => h) (fun b h => hb.block b h)
theorem KReads.more {w : World} {B B' : Nat} (hB : B ≤ B') {k : Kt} {g : Nat} (h : KReads w (Till B) k g) : KReads w (Till B') k g := h.keep (fun _ h => Nat.lt_of_lt_of_le h hB) (fun _ _ => rfl)

set_option maxRecDepth 100000 in
set_option maxHeartbeats 1000000 in
theorem of_any (A : Option Addr) (m d B : Nat) (t : List Nd) (hm : m ≤ maxLen) (hb : Behind t) : ∀ (k i : Nat) (w : World), m ≤ i + k → i < m → NReads w B A m t → B ≤ w.heap.size →
    Calls Try.prog 23 #[.slice A m d, .int .i64 i] w fun e w' => ∃ g, e = .returned (.pointer (some ⟨g, 0, none⟩)) ∧ KReads w' (Span2 w.heap.size w'.heap.size) (kof t k i) g ∧ Below w.heap.size w w' := by
  intro k
  induction k with
  | zero => intro i w h1 h2; omega
  | succ k ih =>
    intro i w h1 h2 ht hB
    have hlen := ht.len
    obtain ⟨b, o, x, hA, hbb, hx, g0, g1, g2, g3, g4, g5⟩ := ht.get h2
    subst hA
    have bx := Blk.new w 83 (kcells x none none)
    by_cases hf : x.f = -1
    · have HK : Hid (kof t (k + 1) i = .leaf x) := hide (kof_leaf hx hf)
      have HR : Hid (KReads (w.alloc (.cells (kcells x none none) 83)) (Span2 w.heap.size (w.heap.size + 1)) (.leaf x) w.heap.size) := hide ⟨⟨Nat.le_refl _, Nat.lt_succ_self _⟩, bx⟩
      have b0 := bx.cell 0
      obtain ⟨xf, xc, xlf, xr, xs, xv⟩ := x
      simp only [kcells] at hf g0 g1 g2 g3 g4 g5 b0 HR
      simp at b0
      subst hf
      clear hx bx
      go_enter Try.func23, Try.ntmps23
      go_wp2_with fail
      go_ret
      exact ⟨_, rfl, by rw [unhide HK, World.size_alloc]; exact unhide HR, (Below.refl _ _).alloc (Nat.le_refl _) _⟩
    · have HK := hide (kof_node (k := k) hx hf)
      obtain ⟨hb1, hb2, hb3, hb4⟩ := hb i x hx hf
      obtain ⟨jl, hjl⟩ : ∃ j : Nat, x.l = j := ⟨x.l.toNat, by omega⟩
      obtain ⟨jr, hjr⟩ : ∃ j : Nat, x.r = j := ⟨x.r.toNat, by omega⟩
      rw [hjl] at hb1 hb2
      rw [hjr] at hb3 hb4
      rw [hjl, hjr] at HK
      rw [hjl] at g2
      rw [hjr] at g3
      have hnf : (x.f == -1) = false := by simpa using hf
      obtain ⟨xf, xc, xlf, xr, xs, xv⟩ := x
      simp only at hjl hjr
      subst hjl hjr
      obtain ⟨Z, hZ⟩ : ∃ Z, Z = Obj.cells #[.int .i64 xf, .int .i64 xc, .int .i64 jl, .int .i64 jr, .bool xs, .int .i64 xv, .pointer none, .pointer none] 83 := ⟨_, rfl⟩
      have bx : Blk (w.alloc Z) w.heap.size 83 #[.int .i64 xf, .int .i64 xc, .int .i64 jl, .int .i64 jr, .bool xs, .int .i64 xv, .pointer none, .pointer none] := by rw [hZ]; exact Blk.new _ _ _
      have hWs : (w.alloc Z).heap.size = w.heap.size + 1 := by simp
      have hWb : Below w.heap.size w (w.alloc Z) := (Below.refl _ _).alloc (Nat.le_refl _) _
      have ht1 : NReads (w.alloc Z) B (some ⟨b, o, none⟩) m t := ht.below (hWb.mono hB)
      simp only at hnf g0 g1 g2 g3 g4 g5 hb1 hb2 hb3 hb4 HK
      rw [Int.toNat_natCast, Int.toNat_natCast] at HK
      have HZ := hide hZ
      go_enter Try.func23, Try.ntmps23
      go_wp2_with fail
      rw [← unhide HZ]
      clear hZ HZ hx hf ht g0 g1 g2 g3 g4 g5
      generalize w.alloc Z = W at *
      have c0 := bx.cell 0
      have c2 := bx.cell 2
      have c3 := bx.cell 3
      simp at c0 c2 c3
      have HA := hide (ih jl W.drew (by omega) (by omega) (Reads.drew ht1) (by simp; omega))
      have HB := hide (fun (w2 : World) (h : Below W.heap.size W w2) => ih jr w2 (by omega) (by omega) (ht1.below (h.mono (by omega))) (by have := h.size; omega))
      clear ih
      go_region_held3 (fun w' => w'.cell? ⟨w.heap.size, 2, none⟩ = some (.int .i64 jl) ∧ w'.cell? ⟨w.heap.size, 3, none⟩ = some (.int .i64 jr))
        (first | go_keep | exact ⟨(unhide hkk2 2).trans c2, (unhide hkk2 3).trans c3⟩ | exact ⟨(unhide hkk3 2).trans c2, (unhide hkk3 3).trans c3⟩ | exact ⟨(World.cell?_setCell_other _ _ _ _ (fun e => by injection e; omega)).trans ((unhide hkk3 2).trans c2), (World.cell?_setCell_other _ _ _ _ (fun e => by injection e; omega)).trans ((unhide hkk3 3).trans c3)⟩ | exact ⟨(World.cell?_setCell_other _ _ _ _ (fun e => by injection e; omega)).trans ((World.cell?_setCell_other _ _ _ _ (fun e => by injection e; omega)).trans ((unhide hkk3 2).trans c2)), (World.cell?_setCell_other _ _ _ _ (fun e => by injection e; omega)).trans ((World.cell?_setCell_other _ _ _ _ (fun e => by injection e; omega)).trans ((unhide hkk3 3).trans c3))⟩)
        (first
          | (go_at_call 23
             (with_reducible refine (unhide HA).mono ?_)
             rintro e w2 ⟨p, rfl, hk2, hb2⟩
             have hb2' : Below W.heap.size W w2 := ⟨hb2.os, hb2.tape, hb2.output, hb2.size, hb2.block⟩
             have hs2 := hb2'.size
             have hkk2 : Hid (∀ o, w2.cell? ⟨w.heap.size, o, none⟩ = W.cell? ⟨w.heap.size, o, none⟩) := hide (fun o => hb2'.cell (p := ⟨w.heap.size, o, none⟩) (by show w.heap.size < W.heap.size; omega)))
          | (go_at_call 23
             (with_reducible refine (unhide HB w2 hb2').mono ?_)
             rintro e w3 ⟨q, rfl, hk3, hb3'⟩
             have hkk3 : Hid (∀ o, w3.cell? ⟨w.heap.size, o, none⟩ = W.cell? ⟨w.heap.size, o, none⟩) := hide (fun o => (hb3'.cell (p := ⟨w.heap.size, o, none⟩) (by show w.heap.size < w2.heap.size; omega)).trans (unhide hkk2 o))
             have bx3 := (bx.below hb2' (by omega)).below hb3' (by omega)
             have d6 : w3.cell? ⟨w.heap.size, 6, none⟩ = some (.pointer none) := bx3.cell 6
             have d7 : w3.cell? ⟨w.heap.size, 7, none⟩ = some (.pointer none) := bx3.cell 7
             have f6 := bx3.frozen 6
             have f7 := bx3.frozen 7))
      have hs3 := hb3'.size
      have hsz : ((w3.setCell ⟨w.heap.size, 6, none⟩ (.pointer (some ⟨p, 0, none⟩))).setCell ⟨w.heap.size, 7, none⟩ (.pointer (some ⟨q, 0, none⟩))).heap.size = w3.heap.size := by simp [World.setCell]
      have far : ∀ g, g ≠ w.heap.size → ((w3.setCell ⟨w.heap.size, 6, none⟩ (.pointer (some ⟨p, 0, none⟩))).setCell ⟨w.heap.size, 7, none⟩ (.pointer (some ⟨q, 0, none⟩))).heap[g]? = w3.heap[g]? := fun g hg => (Below.heap_setCell _ ⟨w.heap.size, 7, none⟩ _ g hg).trans (Below.heap_setCell _ ⟨w.heap.size, 6, none⟩ _ g hg)
      have HR : Hid (KReads ((w3.setCell ⟨w.heap.size, 6, none⟩ (.pointer (some ⟨p, 0, none⟩))).setCell ⟨w.heap.size, 7, none⟩ (.pointer (some ⟨q, 0, none⟩))) (Span2 w.heap.size w3.heap.size) (.node ⟨xf, xc, jl, jr, xs, xv⟩ (kof t k jl) (kof t k jr)) w.heap.size) := by
        refine hide ⟨⟨Nat.le_refl _, by omega⟩, p, q, ?_, ?_, ?_⟩
        · exact (bx3.set_ 6 _).set_ 7 _
        · refine hk2.keep (fun b h => ⟨by have := h.1; simp at this; omega, by have := h.2; omega⟩) (fun b h => (far b (by have := h.1; simp at this; omega)).trans (hb3'.block b h.2))
        · refine hk3.keep (fun b h => ⟨by have := h.1; omega, h.2⟩) (fun b h => far b (by have := h.1; omega))
      have hbel : Below w.heap.size w w3 := (hWb.trans (hb2'.mono (by omega))).trans (hb3'.mono (by omega))
      clear hk2 hk3 hb2 hb2' hb3' hkk2 hkk3 bx3 d6 d7 f6 f7 far c0 c2 c3 bx HA HB ht1
      go_wp2_with fail
      go_ret
      exact ⟨_, rfl, by rw [unhide HK, hsz]; exact unhide HR, (hbel.setCell (p := ⟨w.heap.size, 6, none⟩) (Nat.le_refl _) _).setCell (p := ⟨w.heap.size, 7, none⟩) (Nat.le_refl _) _⟩

theorem KReads.lt {w : World} {B : Nat} {k : Kt} {g : Nat} (h : KReads w (Till B) k g) : g < B := h.in_
theorem KReads.of_span {w : World} {A B : Nat} {k : Kt} {g : Nat} (h : KReads w (Span2 A B) k g) : KReads w (Till B) k g := h.keep (fun _ h => h.2) (fun _ _ => rfl)
/-- what a question in a tree with kids is about -/
def Fits (n : Nat) (k : Kt) : Prop := ∀ y ∈ k.asks, 0 ≤ y.f ∧ y.f < n ∧ -1000000 ≤ y.c ∧ y.c ≤ 1000000
theorem Fits.left {n : Nat} {x : Nd} {l r : Kt} (h : Fits n (.node x l r)) : Fits n l := fun y hy => h y (by simp [Kt.asks, hy])
theorem Fits.right {n : Nat} {x : Nd} {l r : Kt} (h : Fits n (.node x l r)) : Fits n r := fun y hy => h y (by simp [Kt.asks, hy])

end Go.Proofs.Ytopncifebldklaa
