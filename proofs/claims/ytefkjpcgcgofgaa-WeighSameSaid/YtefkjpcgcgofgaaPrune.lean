/- Package prune: nodes with their kids in memory, Of, pruned, Lay, Tree. Conditions: as each lemma names. -/
import Derived.Test.YtefkjpcgcgofgaaKin
import Derived.Test.YtefkjpcgcgofgaaPick
import Derived.Test.YtefkjpcgcgofgaaTreeCheck
namespace Go.Proofs.Ytefkjpcgcgofgaa
set_option linter.unusedVariables false
set_option linter.unusedSimpArgs false
open Go.RowKit

/-- cells of a node with its kids -/
def kcells (x : Nd) (u v : Option Addr) : Array Value := #[.int .i64 x.f, .int .i64 x.c, .int .i64 x.l, .int .i64 x.r, .bool x.less, .int .i64 x.v, .pointer u, .pointer v]
/-- a node with its kids lies in memory, in blocks of which S holds -/
def KReads (w : World) (S : Nat → Prop) : Kt → Nat → Prop
  | .leaf x, g => S g ∧ Blk w g 98 (kcells x none none)
  | .node x l r, g => S g ∧ ∃ p q, Blk w g 98 (kcells x (some ⟨p, 0, none⟩) (some ⟨q, 0, none⟩)) ∧ KReads w S l p ∧ KReads w S r q
theorem KReads.keep {w w' : World} {S S' : Nat → Prop} (hS : ∀ b, S b → S' b) (hb : ∀ b, S b → w'.heap[b]? = w.heap[b]?) : ∀ {k : Kt} {g : Nat}, KReads w S k g → KReads w' S' k g := by
  intro k
  induction k with
  | leaf x => intro g h; exact ⟨hS _ h.1, (hb _ h.1).trans h.2⟩
  | node x l r il ir =>
    intro g h
    obtain ⟨h1, p, q, h2, h3, h4⟩ := h
    exact ⟨hS _ h1, p, q, (hb _ h1).trans h2, il h3, ir h4⟩
theorem KReads.in_ {w : World} {S : Nat → Prop} {k : Kt} {g : Nat} (h : KReads w S k g) : S g := by cases k <;> exact h.1
theorem KReads.drewN {w : World} {S : Nat → Prop} {k : Kt} {g : Nat} (h : KReads w S k g) (n : Nat) : KReads (w.drewN n) S k g := KReads.keep (w := w) (w' := w.drewN n) (S := S) (fun _ h => h) (fun _ _ => rfl) h
theorem KReads.drew {w : World} {S : Nat → Prop} {k : Kt} {g : Nat} (h : KReads w S k g) : KReads w.drew S k g := KReads.keep (w := w) (w' := w.drew) (S := S) (fun _ h => h) (fun _ _ => rfl) h
def Till (B : Nat) (b : Nat) : Prop := b < B
def Span2 (A B : Nat) (b : Nat) : Prop := A ≤ b ∧ b < B
theorem KReads.below {w w' : World} {B : Nat} (hb : Below B w w') {k : Kt} {g : Nat} (h : KReads w (Till B) k g) : KReads w' (Till B) k g := h.keep (fun _ h => h) (fun b h => hb.block b h)
theorem KReads.more {w : World} {B B' : Nat} (hB : B ≤ B') {k : Kt} {g : Nat} (h : KReads w (Till B) k g) : KReads w (Till B') k g := h.keep (fun _ h => Nat.lt_of_lt_of_le h hB) (fun _ _ => rfl)

set_option maxRecDepth 100000 in
set_option maxHeartbeats 1000000 in
theorem of_any (A : Option Addr) (m d B : Nat) (t : List Nd) (hm : m ≤ maxLen) (hb : Behind t) : ∀ (k i : Nat) (w : World), m ≤ i + k → i < m → NReads w B A m t → B ≤ w.heap.size →
    Calls Try.prog 26 #[.slice A m d, .int .i64 i] w fun e w' => ∃ g, e = .returned (.pointer (some ⟨g, 0, none⟩)) ∧ KReads w' (Span2 w.heap.size w'.heap.size) (kof t k i) g ∧ Below w.heap.size w w' := by
  intro k
  induction k with
  | zero => intro i w h1 h2; omega
  | succ k ih =>
    intro i w h1 h2 ht hB
    have hlen := ht.len
    obtain ⟨b, o, x, hA, hbb, hx, g0, g1, g2, g3, g4, g5⟩ := ht.get h2
    subst hA
    have bx := Blk.new w 98 (kcells x none none)
    by_cases hf : x.f = -1
    · have HK : Hid (kof t (k + 1) i = .leaf x) := hide (kof_leaf hx hf)
      have HR : Hid (KReads (w.alloc (.cells (kcells x none none) 98)) (Span2 w.heap.size (w.heap.size + 1)) (.leaf x) w.heap.size) := hide ⟨⟨Nat.le_refl _, Nat.lt_succ_self _⟩, bx⟩
      have b0 := bx.cell 0
      obtain ⟨xf, xc, xlf, xr, xs, xv⟩ := x
      simp only [kcells] at hf g0 g1 g2 g3 g4 g5 b0 HR
      simp at b0
      subst hf
      clear hx bx
      go_enter Try.func26, Try.ntmps26
      go_wp2_with fail
      go_ret
      exact ⟨_, rfl, by rw [unhide HK, World.size_alloc]; exact unhide HR, (Below.refl _ _).alloc (Nat.le_refl _) _⟩
    · have HK := hide (kof_node (k := k) hx hf)
      obtain ⟨hb1, hb2, hb3, hb4⟩ := hb i x hx hf
      obtain ⟨jl, hjl⟩ : ∃ j : Nat, x.l = j := ⟨x.l.toNat, by omega⟩
      obtain ⟨jr, hjr⟩ : ∃ j : Nat, x.r = j := ⟨x.r.toNat, by omega⟩
      rw [hjl] at hb1 hb2
      rw [hjr] at hb3 hb4
      rw [hjl, hjr] at HK
      rw [hjl] at g2
      rw [hjr] at g3
      have hnf : (x.f == -1) = false := by simpa using hf
      obtain ⟨xf, xc, xlf, xr, xs, xv⟩ := x
      simp only at hjl hjr
      subst hjl hjr
      obtain ⟨Z, hZ⟩ : ∃ Z, Z = Obj.cells #[.int .i64 xf, .int .i64 xc, .int .i64 jl, .int .i64 jr, .bool xs, .int .i64 xv, .pointer none, .pointer none] 98 := ⟨_, rfl⟩
      have bx : Blk (w.alloc Z) w.heap.size 98 #[.int .i64 xf, .int .i64 xc, .int .i64 jl, .int .i64 jr, .bool xs, .int .i64 xv, .pointer none, .pointer none] := by rw [hZ]; exact Blk.new _ _ _
      have hWs : (w.alloc Z).heap.size = w.heap.size + 1 := by simp
      have hWb : Below w.heap.size w (w.alloc Z) := (Below.refl _ _).alloc (Nat.le_refl _) _
      have ht1 : NReads (w.alloc Z) B (some ⟨b, o, none⟩) m t := ht.below (hWb.mono hB)
      simp only at hnf g0 g1 g2 g3 g4 g5 hb1 hb2 hb3 hb4 HK
      rw [Int.toNat_natCast, Int.toNat_natCast] at HK
      have HZ := hide hZ
      go_enter Try.func26, Try.ntmps26
      go_wp2_with fail
      rw [← unhide HZ]
      clear hZ HZ hx hf ht g0 g1 g2 g3 g4 g5
      generalize w.alloc Z = W at *
      have c0 := bx.cell 0
      have c2 := bx.cell 2
      have c3 := bx.cell 3
      simp at c0 c2 c3
      have HA := hide (ih jl W.drew (by omega) (by omega) (Reads.drew ht1) (by simp; omega))
      have HB := hide (fun (w2 : World) (h : Below W.heap.size W w2) => ih jr w2 (by omega) (by omega) (ht1.below (h.mono (by omega))) (by have := h.size; omega))
      clear ih
      go_region_held3 (fun w' => w'.cell? ⟨w.heap.size, 2, none⟩ = some (.int .i64 jl) ∧ w'.cell? ⟨w.heap.size, 3, none⟩ = some (.int .i64 jr))
        (first | go_keep | exact ⟨(unhide hkk2 2).trans c2, (unhide hkk2 3).trans c3⟩ | exact ⟨(unhide hkk3 2).trans c2, (unhide hkk3 3).trans c3⟩ | exact ⟨(World.cell?_setCell_other _ _ _ _ (fun e => by injection e; omega)).trans ((unhide hkk3 2).trans c2), (World.cell?_setCell_other _ _ _ _ (fun e => by injection e; omega)).trans ((unhide hkk3 3).trans c3)⟩ | exact ⟨(World.cell?_setCell_other _ _ _ _ (fun e => by injection e; omega)).trans ((World.cell?_setCell_other _ _ _ _ (fun e => by injection e; omega)).trans ((unhide hkk3 2).trans c2)), (World.cell?_setCell_other _ _ _ _ (fun e => by injection e; omega)).trans ((World.cell?_setCell_other _ _ _ _ (fun e => by injection e; omega)).trans ((unhide hkk3 3).trans c3))⟩)
        (first
          | (go_at_call 26
             (with_reducible refine (unhide HA).mono ?_)
             rintro e w2 ⟨p, rfl, hk2, hb2⟩
             have hb2' : Below W.heap.size W w2 := ⟨hb2.os, hb2.tape, hb2.output, hb2.size, hb2.block⟩
             have hs2 := hb2'.size
             have hkk2 : Hid (∀ o, w2.cell? ⟨w.heap.size, o, none⟩ = W.cell? ⟨w.heap.size, o, none⟩) := hide (fun o => hb2'.cell (p := ⟨w.heap.size, o, none⟩) (by show w.heap.size < W.heap.size; omega)))
          | (go_at_call 26
             (with_reducible refine (unhide HB w2 hb2').mono ?_)
             rintro e w3 ⟨q, rfl, hk3, hb3'⟩
             have hkk3 : Hid (∀ o, w3.cell? ⟨w.heap.size, o, none⟩ = W.cell? ⟨w.heap.size, o, none⟩) := hide (fun o => (hb3'.cell (p := ⟨w.heap.size, o, none⟩) (by show w.heap.size < w2.heap.size; omega)).trans (unhide hkk2 o))
             have bx3 := (bx.below hb2' (by omega)).below hb3' (by omega)
             have d6 : w3.cell? ⟨w.heap.size, 6, none⟩ = some (.pointer none) := bx3.cell 6
             have d7 : w3.cell? ⟨w.heap.size, 7, none⟩ = some (.pointer none) := bx3.cell 7
             have f6 := bx3.frozen 6
             have f7 := bx3.frozen 7))
      have hs3 := hb3'.size
      have hsz : ((w3.setCell ⟨w.heap.size, 6, none⟩ (.pointer (some ⟨p, 0, none⟩))).setCell ⟨w.heap.size, 7, none⟩ (.pointer (some ⟨q, 0, none⟩))).heap.size = w3.heap.size := by simp [World.setCell]
      have far : ∀ g, g ≠ w.heap.size → ((w3.setCell ⟨w.heap.size, 6, none⟩ (.pointer (some ⟨p, 0, none⟩))).setCell ⟨w.heap.size, 7, none⟩ (.pointer (some ⟨q, 0, none⟩))).heap[g]? = w3.heap[g]? := fun g hg => (Below.heap_setCell _ ⟨w.heap.size, 7, none⟩ _ g hg).trans (Below.heap_setCell _ ⟨w.heap.size, 6, none⟩ _ g hg)
      have HR : Hid (KReads ((w3.setCell ⟨w.heap.size, 6, none⟩ (.pointer (some ⟨p, 0, none⟩))).setCell ⟨w.heap.size, 7, none⟩ (.pointer (some ⟨q, 0, none⟩))) (Span2 w.heap.size w3.heap.size) (.node ⟨xf, xc, jl, jr, xs, xv⟩ (kof t k jl) (kof t k jr)) w.heap.size) := by
        refine hide ⟨⟨Nat.le_refl _, by omega⟩, p, q, ?_, ?_, ?_⟩
        · exact (bx3.set_ 6 _).set_ 7 _
        · refine hk2.keep (fun b h => ⟨by have := h.1; simp at this; omega, by have := h.2; omega⟩) (fun b h => (far b (by have := h.1; simp at this; omega)).trans (hb3'.block b h.2))
        · refine hk3.keep (fun b h => ⟨by have := h.1; omega, h.2⟩) (fun b h => far b (by have := h.1; omega))
      have hbel : Below w.heap.size w w3 := (hWb.trans (hb2'.mono (by omega))).trans (hb3'.mono (by omega))
      clear hk2 hk3 hb2 hb2' hb3' hkk2 hkk3 bx3 d6 d7 f6 f7 far c0 c2 c3 bx HA HB ht1
      go_wp2_with fail
      go_ret
      exact ⟨_, rfl, by rw [unhide HK, hsz]; exact unhide HR, (hbel.setCell (p := ⟨w.heap.size, 6, none⟩) (Nat.le_refl _) _).setCell (p := ⟨w.heap.size, 7, none⟩) (Nat.le_refl _) _⟩

theorem KReads.lt {w : World} {B : Nat} {k : Kt} {g : Nat} (h : KReads w (Till B) k g) : g < B := h.in_
theorem KReads.of_span {w : World} {A B : Nat} {k : Kt} {g : Nat} (h : KReads w (Span2 A B) k g) : KReads w (Till B) k g := h.keep (fun _ h => h.2) (fun _ _ => rfl)
/-- what a question in a tree with kids is about -/
def Fits (n : Nat) (k : Kt) : Prop := ∀ y ∈ k.asks, 0 ≤ y.f ∧ y.f < n ∧ -1000000 ≤ y.c ∧ y.c ≤ 1000000
theorem Fits.left {n : Nat} {x : Nd} {l r : Kt} (h : Fits n (.node x l r)) : Fits n l := fun y hy => h y (by simp [Kt.asks, hy])
theorem Fits.right {n : Nat} {x : Nd} {l r : Kt} (h : Fits n (.node x l r)) : Fits n r := fun y hy => h y (by simp [Kt.asks, hy])

set_option maxRecDepth 100000 in
set_option maxHeartbeats 2000000 in
theorem pruned_any (n : Nat) (hn : n ≤ 100000000) : ∀ (k : Kt) (g : Nat) (l : List Sp) (A : Option Addr) (c : Nat) (w : World), KReads w (Till w.heap.size) k g → SReads w w.heap.size A n l → (A = none → c = 0) → Fits n k →
    Calls Try.prog 27 #[.pointer (some ⟨g, 0, none⟩), .slice A n c] w fun e w' => ∃ g', e = .returned (.pointer (some ⟨g', 0, none⟩)) ∧ KReads w' (Till w'.heap.size) (kpr k l) g' ∧ Below w.heap.size w w' := by
  intro k
  induction k with
  | leaf x =>
    intro g l A c w hk hl hA hF
    obtain ⟨hg, bx⟩ := id hk
    have b6 : w.cell? ⟨g, 6, none⟩ = some (.pointer none) := bx.cell 6
    have HK := hide hk
    clear hk bx
    go_enter Try.func27, Try.ntmps27
    go_wp2_with fail
    go_ret
    exact ⟨_, rfl, unhide HK, Below.refl _ _⟩
  | node x a b ia ib =>
    intro g l A c w hk hl hA hF
    obtain ⟨hg, p, q, bx, hp, hq⟩ := id hk
    have hgs : g < w.heap.size := hg
    obtain ⟨f1, f2, f3, f4⟩ := hF x (by simp [Kt.asks])
    have hFa := hF.left
    have hFb := hF.right
    have HA := hide (side_any A n c w.heap.size l x true w.drew (Reads.drew hl) (Nat.le_refl _) hn hA f1 f2 f3 f4)
    have HB := hide (fun (w2 : World) (h : Below w.heap.size w w2) => side_any A n c w2.heap.size l x false w2 ((Reads.below hl h).more h.size) (Nat.le_refl _) hn hA f1 f2 f3 f4)
    have HKP : Hid (kpr (.node x a b) l = if anyB (sideL l x true) = false then kpr b (sideL l x false) else if anyB (sideL l x false) = false then kpr a (sideL l x true) else kjoin x (kpr a (sideL l x true)) (kpr b (sideL l x false))) := hide rfl
    generalize sideL l x true = L at *
    generalize sideL l x false = R at *
    have HX := hide (rfl : x = x)
    obtain ⟨xf, xc, xlf, xr, xs, xv⟩ := x
    have c0 : w.cell? ⟨g, 0, none⟩ = some (.int .i64 xf) := bx.cell 0
    have c1 : w.cell? ⟨g, 1, none⟩ = some (.int .i64 xc) := bx.cell 1
    have c2 : w.cell? ⟨g, 2, none⟩ = some (.int .i64 xlf) := bx.cell 2
    have c3 : w.cell? ⟨g, 3, none⟩ = some (.int .i64 xr) := bx.cell 3
    have c4 : w.cell? ⟨g, 4, none⟩ = some (.bool xs) := bx.cell 4
    have c5 : w.cell? ⟨g, 5, none⟩ = some (.int .i64 xv) := bx.cell 5
    have c6 : w.cell? ⟨g, 6, none⟩ = some (.pointer (some ⟨p, 0, none⟩)) := bx.cell 6
    have c7 : w.cell? ⟨g, 7, none⟩ = some (.pointer (some ⟨q, 0, none⟩)) := bx.cell 7
    clear HX hF f1 f2 f3 f4
    go_enter Try.func27, Try.ntmps27
    go_wp2_with fail
    go_region_held3 (fun w' => w'.cell? ⟨g, 0, none⟩ = some (.int .i64 xf) ∧ w'.cell? ⟨g, 1, none⟩ = some (.int .i64 xc) ∧ w'.cell? ⟨g, 2, none⟩ = some (.int .i64 xlf) ∧ w'.cell? ⟨g, 3, none⟩ = some (.int .i64 xr) ∧ w'.cell? ⟨g, 4, none⟩ = some (.bool xs) ∧ w'.cell? ⟨g, 5, none⟩ = some (.int .i64 xv))
      (first | go_keep | exact ⟨(unhide hkk2 0).trans c0, (unhide hkk2 1).trans c1, (unhide hkk2 2).trans c2, (unhide hkk2 3).trans c3, (unhide hkk2 4).trans c4, (unhide hkk2 5).trans c5⟩ | exact ⟨(unhide hkk3 0).trans c0, (unhide hkk3 1).trans c1, (unhide hkk3 2).trans c2, (unhide hkk3 3).trans c3, (unhide hkk3 4).trans c4, (unhide hkk3 5).trans c5⟩)
      (first
        | (go_at_call 51
           (with_reducible refine (unhide HA).mono ?_)
           rintro e w2 ⟨A2, d2, rfl, hr2, hA2, hnew2, hso2, hb2⟩
           have hb2' : Below w.heap.size w w2 := ⟨hb2.os, hb2.tape, hb2.output, hb2.size, hb2.block⟩
           have hs2 := hb2'.size
           have hkk2 : Hid (∀ o, w2.cell? ⟨g, o, none⟩ = w.cell? ⟨g, o, none⟩) := hide (fun o => hb2'.cell (p := ⟨g, o, none⟩) hgs))
        | (go_at_call 51
           (with_reducible refine (unhide HB w2 hb2').mono ?_)
           rintro e w3 ⟨A3, d3, rfl, hr3, hA3, hnew3, hso3, hb3⟩
           have hkk3 : Hid (∀ o, w3.cell? ⟨g, o, none⟩ = w.cell? ⟨g, o, none⟩) := hide (fun o => (hb3.cell (p := ⟨g, o, none⟩) (Nat.lt_of_lt_of_le hgs hs2)).trans (unhide hkk2 o))))
    have hb13 : Below w.heap.size w w3 := hb2'.trans (hb3.mono hs2)
    have hs3 := hb3.size
    have hr2' : SReads w3 w3.heap.size A2 n L := (Reads.below hr2 hb3).more hs3
    have hL := hr2'.len
    have hk3 : KReads w3 (Till w3.heap.size) a p := (KReads.below hb13 hp).more (by omega)
    have hk3' : KReads w3 (Till w3.heap.size) b q := (KReads.below hb13 hq).more (by omega)
    have bx3 : Blk w3 g 98 (kcells ⟨xf, xc, xlf, xr, xs, xv⟩ (some ⟨p, 0, none⟩) (some ⟨q, 0, none⟩)) := bx.below hb13 hgs
    clear HA HB hkk2 hkk3 hb2 hb2' hb3 c0 c1 c2 c3 c4 c5 c6 c7 hr2 hp hq hk hl bx hnew2 hnew3 hso2 hso3
    go_wp2_with fail
    refine (any_any A2 n d2 w3.heap.size L w3 hr2' (Nat.le_refl _) hn).mono ?_
    rintro e w4 ⟨rfl, hb4⟩
    have hs4 := hb4.size
    have hb14 := hb13.trans (hb4.mono (by omega))
    have bx4 := bx3.below hb4 (by omega)
    have hr2b := (Reads.below hr2' hb4).more hs4
    have hr3b := (Reads.below hr3 hb4).more hs4
    have hk4 : KReads w4 (Till w4.heap.size) a p := (hk3.below hb4).more (by omega)
    have hk4' : KReads w4 (Till w4.heap.size) b q := (hk3'.below hb4).more (by omega)
    clear hr2' hr3 bx3 hk3 hk3' hb13 hb4
    by_cases h1 : anyB L = false
    · rw [h1]
      have HK2 := hide (show kpr (.node ⟨xf, xc, xlf, xr, xs, xv⟩ a b) l = kpr b R by rw [unhide HKP, if_pos h1])
      have d7 : w4.cell? ⟨g, 7, none⟩ = some (.pointer (some ⟨q, 0, none⟩)) := bx4.cell 7
      clear h1 HKP
      go_wp2_with fail
      refine (ib q R A3 d3 w4 hk4' hr3b hA3 hFb).mono ?_
      rintro e w5 ⟨g', rfl, hk5, hb5⟩
      go_wp2_with fail
      go_ret
      exact ⟨_, rfl, by rw [unhide HK2]; exact hk5, hb14.trans (hb5.mono (by omega))⟩
    have h1t : anyB L = true := by simpa using h1
    rw [h1t]
    have HKP2 := hide ((unhide HKP).trans (if_neg h1))
    clear h1 h1t HKP
    go_wp2_with fail
    refine (any_any A3 n d3 w4.heap.size R w4 hr3b (Nat.le_refl _) hn).mono ?_
    rintro e w5 ⟨rfl, hb5⟩
    have hs5 := hb5.size
    have hb15 := hb14.trans (hb5.mono (by omega))
    have bx5 := bx4.below hb5 (by omega)
    have hr2c := (Reads.below hr2b hb5).more hs5
    have hr3c := (Reads.below hr3b hb5).more hs5
    have hk5 : KReads w5 (Till w5.heap.size) a p := (hk4.below hb5).more (by omega)
    have hk5' : KReads w5 (Till w5.heap.size) b q := (hk4'.below hb5).more (by omega)
    clear hr2b hr3b bx4 hk4 hk4' hb14 hb5
    by_cases h2 : anyB R = false
    · rw [h2]
      have HK2 := hide ((unhide HKP2).trans (if_pos h2))
      have d6 : w5.cell? ⟨g, 6, none⟩ = some (.pointer (some ⟨p, 0, none⟩)) := bx5.cell 6
      clear h2 HKP2
      go_wp2_with fail
      refine (ia p L A2 d2 w5 hk5 hr2c hA2 hFa).mono ?_
      rintro e w6 ⟨g', rfl, hk6, hb6⟩
      go_wp2_with fail
      go_ret
      exact ⟨_, rfl, by rw [unhide HK2]; exact hk6, hb15.trans (hb6.mono (by omega))⟩
    have h2t : anyB R = true := by simpa using h2
    rw [h2t]
    have HKP3 := hide ((unhide HKP2).trans (if_neg h2))
    have HA := hide (ia p L A2 d2 w5.drew (KReads.drew hk5) (Reads.drew hr2c) hA2 hFa)
    have HB := hide (fun (w6 : World) (h : Below w5.heap.size w5 w6) => ib q R A3 d3 w6 ((hk5'.below h).more h.size) ((Reads.below hr3c h).more h.size) hA3 hFb)
    have hgs5 : g < w5.heap.size := by omega
    have c0 : w5.cell? ⟨g, 0, none⟩ = some (.int .i64 xf) := bx5.cell 0
    have c1 : w5.cell? ⟨g, 1, none⟩ = some (.int .i64 xc) := bx5.cell 1
    have c2 : w5.cell? ⟨g, 2, none⟩ = some (.int .i64 xlf) := bx5.cell 2
    have c3 : w5.cell? ⟨g, 3, none⟩ = some (.int .i64 xr) := bx5.cell 3
    have c4 : w5.cell? ⟨g, 4, none⟩ = some (.bool xs) := bx5.cell 4
    have c5 : w5.cell? ⟨g, 5, none⟩ = some (.int .i64 xv) := bx5.cell 5
    have c6 : w5.cell? ⟨g, 6, none⟩ = some (.pointer (some ⟨p, 0, none⟩)) := bx5.cell 6
    have c7 : w5.cell? ⟨g, 7, none⟩ = some (.pointer (some ⟨q, 0, none⟩)) := bx5.cell 7
    clear h2 h2t HKP2 hk5 hk5' hr2c hr3c ia ib bx5
    generalize kpr a L = KA at *
    generalize kpr b R = KB at *
    go_wp2_with fail
    go_region_held3 (fun w' => w'.cell? ⟨g, 0, none⟩ = some (.int .i64 xf) ∧ w'.cell? ⟨g, 1, none⟩ = some (.int .i64 xc) ∧ w'.cell? ⟨g, 2, none⟩ = some (.int .i64 xlf) ∧ w'.cell? ⟨g, 3, none⟩ = some (.int .i64 xr) ∧ w'.cell? ⟨g, 4, none⟩ = some (.bool xs) ∧ w'.cell? ⟨g, 5, none⟩ = some (.int .i64 xv) ∧ w'.cell? ⟨g, 6, none⟩ = some (.pointer (some ⟨p, 0, none⟩)) ∧ w'.cell? ⟨g, 7, none⟩ = some (.pointer (some ⟨q, 0, none⟩)))
      (first | go_keep | exact ⟨(unhide hkk6 0).trans c0, (unhide hkk6 1).trans c1, (unhide hkk6 2).trans c2, (unhide hkk6 3).trans c3, (unhide hkk6 4).trans c4, (unhide hkk6 5).trans c5, (unhide hkk6 6).trans c6, (unhide hkk6 7).trans c7⟩ | exact ⟨(unhide hkk7 0).trans c0, (unhide hkk7 1).trans c1, (unhide hkk7 2).trans c2, (unhide hkk7 3).trans c3, (unhide hkk7 4).trans c4, (unhide hkk7 5).trans c5, (unhide hkk7 6).trans c6, (unhide hkk7 7).trans c7⟩ | exact ⟨(unhide hkk8 _ 0).trans c0, (unhide hkk8 _ 1).trans c1, (unhide hkk8 _ 2).trans c2, (unhide hkk8 _ 3).trans c3, (unhide hkk8 _ 4).trans c4, (unhide hkk8 _ 5).trans c5, (unhide hkk8 _ 6).trans c6, (unhide hkk8 _ 7).trans c7⟩)
      (first
        | (go_at_call 27
           (with_reducible refine (unhide HA).mono ?_)
           rintro e w6 ⟨g6, rfl, hk6, hb6⟩
           have hb6' : Below w5.heap.size w5 w6 := ⟨hb6.os, hb6.tape, hb6.output, hb6.size, hb6.block⟩
           have hs6 := hb6'.size
           have hkk6 : Hid (∀ o, w6.cell? ⟨g, o, none⟩ = w5.cell? ⟨g, o, none⟩) := hide (fun o => hb6'.cell (p := ⟨g, o, none⟩) hgs5))
        | (go_at_call 27
           (with_reducible refine (unhide HB w6 hb6').mono ?_)
           rintro e w7 ⟨g7, rfl, hk7, hb7⟩
           have hkk7 : Hid (∀ o, w7.cell? ⟨g, o, none⟩ = w5.cell? ⟨g, o, none⟩) := hide (fun o => (hb7.cell (p := ⟨g, o, none⟩) (Nat.lt_of_lt_of_le hgs5 hs6)).trans (unhide hkk6 o))
           have hkk8 : Hid (∀ Z o, (w7.alloc Z).cell? ⟨g, o, none⟩ = w5.cell? ⟨g, o, none⟩) := hide (fun Z o => (World.cell?_alloc_lt w7 Z ⟨g, o, none⟩ (Nat.lt_of_lt_of_le (Nat.lt_of_lt_of_le hgs5 hs6) hb7.size)).trans (unhide hkk7 o))))
    have hs7 := hb7.size
    have hbel : Below w.heap.size w w7 := (hb15.trans (hb6'.mono (by omega))).trans (hb7.mono (by omega))
    have hka : KReads w7 (Till w7.heap.size) KA g6 := (hk6.below hb7).more (by omega)
    have bx8 := Blk.new w7 98 (kcells ⟨xf, xc, xlf, xr, xs, xv⟩ (some ⟨g6, 0, none⟩) (some ⟨g7, 0, none⟩))
    simp only [kcells] at bx8
    have hb8 := (Below.refl w7.heap.size w7).alloc (Nat.le_refl _) (.cells #[.int .i64 xf, .int .i64 xc, .int .i64 xlf, .int .i64 xr, .bool xs, .int .i64 xv, .pointer (some ⟨g6, 0, none⟩), .pointer (some ⟨g7, 0, none⟩)] 98)
    have hz8 : (w7.alloc (.cells #[.int .i64 xf, .int .i64 xc, .int .i64 xlf, .int .i64 xr, .bool xs, .int .i64 xv, .pointer (some ⟨g6, 0, none⟩), .pointer (some ⟨g7, 0, none⟩)] 98)).heap.size = w7.heap.size + 1 := World.size_alloc _ _
    clear HA HB hkk6 hkk7 hkk8 hk6 hb6 hb6' c0 c1 c2 c3 c4 c5 c6 c7 hb15 hb7 hgs5
    generalize w7.alloc (.cells #[.int .i64 xf, .int .i64 xc, .int .i64 xlf, .int .i64 xr, .bool xs, .int .i64 xv, .pointer (some ⟨g6, 0, none⟩), .pointer (some ⟨g7, 0, none⟩)] 98) = W8 at *
    have hbw8 : Below w.heap.size w W8 := hbel.trans (hb8.mono (by omega))
    have ka8 : KReads W8 (Till W8.heap.size) KA g6 := (hka.below hb8).more (by omega)
    have kb8 : KReads W8 (Till W8.heap.size) KB g7 := (hk7.below hb8).more (by omega)
    have e5 : W8.cell? ⟨w7.heap.size, 5, none⟩ = some (.int .i64 xv) := bx8.cell 5
    have e6 : W8.cell? ⟨w7.heap.size, 6, none⟩ = some (.pointer (some ⟨g6, 0, none⟩)) := bx8.cell 6
    have e7 : W8.cell? ⟨w7.heap.size, 7, none⟩ = some (.pointer (some ⟨g7, 0, none⟩)) := bx8.cell 7
    have hkn : KReads W8 (Till W8.heap.size) (.node ⟨xf, xc, xlf, xr, xs, xv⟩ KA KB) w7.heap.size := ⟨by show _ < _; omega, g6, g7, bx8, ka8, kb8⟩
    have HKN := hide hkn
    have HKA := hide ka8
    have HBW := hide hbw8
    clear hkn bx8 hbel hka hb8 hk7 hbw8 hs7 hz8 hs2 hs3 hs4 hs5 hs6 hL hgs hFa hFb hA hA2 hA3
    cases KA with
    | node y yl yr =>
      obtain ⟨_, yp, yq, by8, _, _⟩ := ka8
      have y6 : W8.cell? ⟨g6, 6, none⟩ = some (.pointer (some ⟨yp, 0, none⟩)) := by8.cell 6
      have y5 : W8.cell? ⟨g6, 5, none⟩ = some (.int .i64 y.v) := by8.cell 5
      clear by8
      cases KB with
      | node z zl zr =>
        obtain ⟨_, zp, zq, bz8, _, _⟩ := kb8
        have z6 : W8.cell? ⟨g7, 6, none⟩ = some (.pointer (some ⟨zp, 0, none⟩)) := bz8.cell 6
        have z5 : W8.cell? ⟨g7, 5, none⟩ = some (.int .i64 z.v) := bz8.cell 5
        clear bz8
        go_wp2_with fail
        go_quiet (fail)
        go_wp2_with fail
        go_ret
        exact ⟨_, rfl, by rw [unhide HKP3]; exact KReads.drewN (unhide HKN) _, below_drewN (unhide HBW) _⟩
      | leaf z =>
        obtain ⟨_, bz8⟩ := kb8
        have z6 : W8.cell? ⟨g7, 6, none⟩ = some (.pointer none) := bz8.cell 6
        have z5 : W8.cell? ⟨g7, 5, none⟩ = some (.int .i64 z.v) := bz8.cell 5
        clear bz8
        go_wp2_with fail
        go_quiet (fail)
        go_wp2_with fail
        go_ret
        exact ⟨_, rfl, by rw [unhide HKP3]; exact KReads.drewN (unhide HKN) _, below_drewN (unhide HBW) _⟩
    | leaf y =>
      obtain ⟨_, by8⟩ := ka8
      have y6 : W8.cell? ⟨g6, 6, none⟩ = some (.pointer none) := by8.cell 6
      have y5 : W8.cell? ⟨g6, 5, none⟩ = some (.int .i64 y.v) := by8.cell 5
      clear by8
      cases KB with
      | node z zl zr =>
        obtain ⟨_, zp, zq, bz8, _, _⟩ := kb8
        have z6 : W8.cell? ⟨g7, 6, none⟩ = some (.pointer (some ⟨zp, 0, none⟩)) := bz8.cell 6
        have z5 : W8.cell? ⟨g7, 5, none⟩ = some (.int .i64 z.v) := bz8.cell 5
        clear bz8
        go_wp2_with fail
        go_quiet (fail)
        go_wp2_with fail
        go_ret
        exact ⟨_, rfl, by rw [unhide HKP3]; exact KReads.drewN (unhide HKN) _, below_drewN (unhide HBW) _⟩
      | leaf z =>
        obtain ⟨_, bz8⟩ := kb8
        have z6 : W8.cell? ⟨g7, 6, none⟩ = some (.pointer none) := bz8.cell 6
        have z5 : W8.cell? ⟨g7, 5, none⟩ = some (.int .i64 z.v) := bz8.cell 5
        clear bz8
        by_cases hv : y.v = z.v
        · have hvb : (y.v == z.v) = true := by simpa using hv
          go_wp2_with fail
          go_quiet (fail)
          go_wp2_with fail
          go_ret
          exact ⟨_, rfl, by rw [unhide HKP3]; simp only [kjoin]; rw [if_pos hv]; exact KReads.drewN (unhide HKA) _, below_drewN (unhide HBW) _⟩
        · have hvb : (y.v == z.v) = false := by simpa using hv
          go_wp2_with fail
          go_quiet (fail)
          go_wp2_with fail
          go_ret
          exact ⟨_, rfl, by rw [unhide HKP3]; simp only [kjoin]; rw [if_neg hv]; exact KReads.drewN (unhide HKN) _, below_drewN (unhide HBW) _⟩
end Go.Proofs.Ytefkjpcgcgofgaa
