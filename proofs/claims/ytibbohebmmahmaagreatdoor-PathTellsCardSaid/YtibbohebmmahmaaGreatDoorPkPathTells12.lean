/- Part 12 of what LawPathTells needs: Side. Conditions: as each lemma names. -/
import Derived.Test.YtibbohebmmahmaaGreatDoorPkPathTells11
/- Chapter 5: path.Wide, path.Side. Conditions: as each lemma names. -/
namespace Go.Proofs.YtibbohebmmahmaaGreatDoor
set_option linter.unusedVariables false
set_option linter.unusedSimpArgs false
open Go.RowKit

theorem elem_span : Elem Tryz.prog 24 44 (.agg #[.int .i64 0, .int .i64 0, .bool false]) 3 24 := ⟨Tryz.underlying24, by kernel_rfl, rfl, by omega, by omega⟩
def sideS (s : Sp) (c : Int) (less left : Bool) : Sp := if left then ⟨s.low, min s.high (c - 1), s.ab && (less == left)⟩ else ⟨max s.low c, s.high, s.ab && (less == left)⟩
def sideL (l : List Sp) (n : Nd) (left : Bool) : List Sp := match l[n.f.toNat]? with | none => l | some s => l.set n.f.toNat (sideS s n.c n.less left)

theorem SReads.set_ {w w' : World} {B n g o k : Nat} {l : List Sp} (h : SReads w B (some ⟨g, o, none⟩) n l) (hk : k < n) (s : Sp)
    (hsame : ∀ j, j ≠ k * 3 → j ≠ k * 3 + 1 → j ≠ k * 3 + 2 → w'.cell? ⟨g, o + j, none⟩ = w.cell? ⟨g, o + j, none⟩)
    (c0 : w'.cell? ⟨g, o + k * 3, none⟩ = some (.int .i64 s.low)) (c1 : w'.cell? ⟨g, o + (k * 3 + 1), none⟩ = some (.int .i64 s.high)) (c2 : w'.cell? ⟨g, o + (k * 3 + 2), none⟩ = some (.bool s.ab)) :
    SReads w' B (some ⟨g, o, none⟩) n (l.set k s) := by
  have hl := h.len
  obtain ⟨_, _, e, hb, hc⟩ := Reads.spot h (by omega) (by omega)
  cases e
  refine ⟨by rw [flatMap_len Sp.cells 3 (fun _ => rfl), List.length_set, hl], fun _ => ⟨_, rfl, hb, fun j u hu => ?_⟩⟩
  have hj : j < n * 3 := by
    have := (List.getElem?_eq_some_iff.1 hu).1
    rw [flatMap_len Sp.cells 3 (fun _ => rfl), List.length_set, hl] at this
    exact this
  obtain ⟨k', r, hr, rfl⟩ : ∃ k' r, r < 3 ∧ j = k' * 3 + r := ⟨j / 3, j % 3, Nat.mod_lt _ (by omega), by omega⟩
  have hk' : k' < n := by omega
  have hadd : (⟨g, o, none⟩ : Addr).add (k' * 3 + r) = ⟨g, o + (k' * 3 + r), none⟩ := by
    unfold Addr.add
    split
    · rename_i e; rw [e]; rfl
    · rfl
  rw [hadd]
  by_cases he : k' = k
  · subst he
    rw [flatMap_at Sp.cells 3 (fun _ => rfl) (l.set k' s) k' r s (by rw [List.getElem?_set_self (by omega)]) hr] at hu
    match r, hr with
    | 0, _ => simp [Sp.cells] at hu; subst hu; exact c0
    | 1, _ => simp [Sp.cells] at hu; subst hu; exact c1
    | 2, _ => simp [Sp.cells] at hu; subst hu; exact c2
  · have hs : l[k']? = some l[k'] := List.getElem?_eq_getElem (by omega)
    rw [flatMap_at Sp.cells 3 (fun _ => rfl) (l.set k s) k' r l[k'] (by rw [List.getElem?_set_ne (by omega)]; exact hs) hr] at hu
    rw [hsame _ (by omega) (by omega) (by omega)]
    refine hc _ u ?_
    rw [flatMap_at Sp.cells 3 (fun _ => rfl) l k' r l[k'] hs hr]
    exact hu

/-- a block of spans that may be written, from block B on -/
def Soft (B : Nat) (w : World) (A : Option Addr) : Prop := ∀ a, A = some a → B ≤ a.block ∧ ∃ cs, Blk w a.block 44 cs
theorem Soft.keep {B : Nat} {w w' : World} {A : Option Addr} (h : Soft B w A) (hk : ∀ a, A = some a → w'.heap[a.block]? = w.heap[a.block]?) : Soft B w' A := fun a e => by
  obtain ⟨h0, cs, hb⟩ := h a e
  exact ⟨h0, cs, (hk a e).trans hb⟩
theorem Soft.below {B : Nat} {w w' : World} {A : Option Addr} (h : Soft B w A) (hb : Below w.heap.size w w') : Soft B w' A := fun a e => by
  obtain ⟨h0, cs, hc⟩ := h a e
  exact ⟨h0, cs, hc.below hb hc.lt⟩
theorem Soft.low {B B' : Nat} {w : World} {A : Option Addr} (h : Soft B w A) (hB : B' ≤ B) : Soft B' w A := fun a e => ⟨Nat.le_trans hB (h a e).1, (h a e).2⟩
/-- a row of spans of the call's own -/
def SpPost (n : Nat) (l : List Sp) (w : World) (e : Ending) (w' : World) : Prop :=
  ∃ A c, e = .returned (.slice A n c) ∧ SReads w' w'.heap.size A n l ∧ (A = none → c = 0) ∧ (∀ a, A = some a → w.heap.size ≤ a.block) ∧ Soft w.heap.size w' A ∧ Below w.heap.size w w'

theorem sp_cells_one (l : List Sp) : ∀ u ∈ l.flatMap Sp.cells, u.oneCell' = true := by
  intro u hu
  obtain ⟨s, _, h⟩ := List.mem_flatMap.1 hu
  simp [Sp.cells] at h
  rcases h with rfl | rfl | rfl <;> rfl

set_option maxRecDepth 100000 in
theorem cloneS_any (A : Option Addr) (n c B : Nat) (l : List Sp) (w : World) (hr : SReads w B A n l) (hB : B ≤ w.heap.size) (hn : n ≤ 100000000) (hA : A = none → c = 0) :
    Calls Tryz.prog 64 #[.slice A n c] w fun e w' => ∃ v, e = .returned v ∧ w'.ownsRow w.heap.size 44 3 v n (l.flatMap Sp.cells) ∧ Below w.heap.size w w' := by
  have hl := hr.len
  rcases A with _ | a
  · have hn0 : n = 0 := by
      rcases Nat.eq_zero_or_pos n with h | h
      · exact h
      · obtain ⟨_, _, e, _⟩ := Reads.spot hr h (by omega); cases e
    obtain rfl := hA rfl
    subst hn0
    obtain rfl : l = [] := List.eq_nil_of_length_eq_zero hl
    have hq := fun (W : World) => Lib.run_eql_slice_nil (P := Tryz.prog) W 24 44 none 0 0 0 0 Tryz.underlying24
    go_enter Tryz.func64, Tryz.ntmps64
    go_wp2_with fail
    go_ret
    exact ⟨_, rfl, World.ownsRow_nil _ _ _ _, Below.refl _ _⟩
  · have hq := fun (W : World) => Lib.run_eql_slice_nil (P := Tryz.prog) W 24 44 (some a) n c 0 0 Tryz.underlying24
    have hown0 := own_new (w := w) (B := w.heap.size) [] 44 3 0 rfl (by decide) (Nat.le_refl _)
    have hra := Reads.alloc hr hB (.cells #[] 44)
    go_enter Tryz.func64, Tryz.ntmps64
    go_wp2_with (at_builtin; refine app_many elem_span (.tmp 5) (.tmp 6) rfl rfl rfl hown0 rfl hra (sp_cells_one l) (by omega) (by rw [World.size_alloc]; omega) ?_; intro v2 w2 hown2 hb2 _)
    go_ret
    refine ⟨v2, rfl, ?_, ((Below.refl _ _).alloc (Nat.le_refl _) _).trans hb2⟩
    simpa using hown2

theorem two_other {w : World} {g a b : Nat} {u v : Value} {j : Nat} (h1 : j ≠ a) (h2 : j ≠ b) : ((w.setCell ⟨g, a, none⟩ u).setCell ⟨g, b, none⟩ v).drew.cell? ⟨g, j, none⟩ = w.cell? ⟨g, j, none⟩ := by
  show ((w.setCell ⟨g, a, none⟩ u).setCell ⟨g, b, none⟩ v).cell? ⟨g, j, none⟩ = _
  rw [World.cell?_setCell_other _ _ _ _ (by intro e; injection e; omega), World.cell?_setCell_other _ _ _ _ (by intro e; injection e; omega)]
theorem two_first {w : World} {g a b : Nat} {u v x : Value} (h : a ≠ b) (hx : w.cell? ⟨g, a, none⟩ = some x) : ((w.setCell ⟨g, a, none⟩ u).setCell ⟨g, b, none⟩ v).drew.cell? ⟨g, a, none⟩ = some u := by
  show ((w.setCell ⟨g, a, none⟩ u).setCell ⟨g, b, none⟩ v).cell? ⟨g, a, none⟩ = _
  rw [World.cell?_setCell_other _ _ _ _ (by intro e; injection e; omega)]
  exact World.cell?_setCell_same' _ _ _ (by rw [hx]; rfl)
theorem two_last {w : World} {g a b : Nat} {u v x : Value} (h : b ≠ a) (hx : w.cell? ⟨g, b, none⟩ = some x) : ((w.setCell ⟨g, a, none⟩ u).setCell ⟨g, b, none⟩ v).drew.cell? ⟨g, b, none⟩ = some v := by
  show ((w.setCell ⟨g, a, none⟩ u).setCell ⟨g, b, none⟩ v).cell? ⟨g, b, none⟩ = _
  exact World.cell?_setCell_same' _ _ _ (by rw [World.cell?_setCell_other _ _ _ _ (by intro e; injection e; omega), hx]; rfl)

set_option maxRecDepth 100000 in
set_option maxHeartbeats 2000000 in
theorem side_any (A : Option Addr) (n c B : Nat) (l : List Sp) (x : Nd) (left : Bool) (w : World) (hr : SReads w B A n l) (hB : B ≤ w.heap.size) (hn : n ≤ 100000000) (hA : A = none → c = 0) (hf0 : 0 ≤ x.f) (hfn : x.f < n) (hc1 : -1000000 ≤ x.c) (hc2 : x.c ≤ 1000000) :
    Calls Tryz.prog 49 #[.slice A n c, .agg #[.int .i64 x.f, .int .i64 x.c, .int .i64 x.l, .int .i64 x.r, .bool x.less, .int .i64 x.v], .bool left] w (SpPost n (sideL l x left) w) := by
  obtain ⟨xf, xc, xl, xr, xs, xv⟩ := x
  dsimp only at hf0 hfn hc1 hc2 ⊢
  obtain ⟨f, rfl⟩ : ∃ f : Nat, xf = f := ⟨xf.toNat, by omega⟩
  have hf : f < n := by omega
  have hra := Reads.alloc hr hB (.cells #[.int .i64 f, .int .i64 xc, .int .i64 xl, .int .i64 xr, .bool xs, .int .i64 xv] 40)
  have bx := Blk.new w 40 #[.int .i64 f, .int .i64 xc, .int .i64 xl, .int .i64 xr, .bool xs, .int .i64 xv]
  have hcl := cloneS_any A n c B l (w.alloc (.cells #[.int .i64 f, .int .i64 xc, .int .i64 xl, .int .i64 xr, .bool xs, .int .i64 xv] 40)) hra (by rw [World.size_alloc]; omega) hn hA
  go_enter Tryz.func49, Tryz.ntmps49
  go_wp2_with fail
  refine hcl.mono ?_
  clear hcl
  rintro e w1 ⟨v, rfl, hown, hb1⟩
  rw [World.size_alloc] at hown hb1
  have bx1 := bx.below hb1 (by omega)
  have hb0 : Below w.heap.size w w1 := ((Below.refl _ w).alloc (Nat.le_refl _) _).trans (hb1.mono (by omega))
  rcases hown.2 with ⟨_, h0⟩ | ⟨g, cap, cur, rfl, hg, hblk, hcap, _⟩
  · omega
  have hrd : SReads w1 w1.heap.size (some ⟨g, 0, none⟩) n l := Reads.of_own hown
  obtain ⟨_, _, s, e0, hgl, hs, d0, d1, d2⟩ := hrd.get hf
  cases e0
  obtain ⟨s0, s1, s2⟩ := s
  simp only [Nat.zero_add] at d0 d1 d2
  have hfz : ∀ i, w1.frozen? ⟨g, i, none⟩ = false := fun i => by simp [World.frozen?, hblk]
  have f0 := hfz (f * 3)
  have f1 := hfz (f * 3 + 1)
  have f2 := hfz (f * 3 + 2)
  have b0 := bx1.cell 0
  have b1 := bx1.cell 1
  have b4 := bx1.cell 4
  simp at b0 b1 b4
  have HS := hide hs
  have HR := hide hrd
  have HB0 := hide hb0
  have hgne : ¬ g = w.heap.size := by omega
  have HBK : Hid (Blk w1 g 44 cur) := hide hblk
  clear hs hrd hown hblk hfz bx hra hr bx1
  have HL : ∀ lf, sideL l ⟨f, xc, xl, xr, xs, xv⟩ lf = l.set f (sideS ⟨s0, s1, s2⟩ xc xs lf) := fun lf => by
    unfold sideL
    simp only [Int.toNat_natCast, unhide HS]
  have HLH := hide HL
  clear HL
  rcases left with _ | _
  · by_cases hm : s0 < xc
    all_goals
      rcases s2 with _ | _
      all_goals
        go_wp2_with fail
        go_region
        go_wp2_with fail
        go_ret
        refine ⟨some ⟨g, 0, none⟩, cap, rfl, ?_, (by intro h; cases h), (by intro a h; cases h; dsimp only; omega), (by intro a h; cases h; exact ⟨by dsimp only; omega, _, (((unhide HBK).set_ _ _).set_ _ _).drew⟩), (((unhide HB0).setCell (p := ⟨g, f * 3 + 2, none⟩) (by dsimp only; omega) _).setCell (p := ⟨g, f * 3, none⟩) (by dsimp only; omega) _).drew⟩
        rw [unhide HLH]
        refine (SReads.set_ (w := w1) (unhide HR) hf _ (fun j h1 h2 h3 => two_other (by omega) (by omega)) ?_ ?_ ?_).more (by simp)
        all_goals simp only [Nat.zero_add, sideS]
        · rw [two_last (by omega) d0]; simp; omega
        · rw [two_other (by omega) (by omega)]; exact d1
        · rw [two_first (by omega) d2]; cases xs <;> rfl
  · by_cases hm : xc - 1 < s1
    all_goals
      rcases s2 with _ | _
      all_goals
        go_wp2_with fail
        go_region
        go_wp2_with fail
        go_ret
        refine ⟨some ⟨g, 0, none⟩, cap, rfl, ?_, (by intro h; cases h), (by intro a h; cases h; dsimp only; omega), (by intro a h; cases h; exact ⟨by dsimp only; omega, _, (((unhide HBK).set_ _ _).set_ _ _).drew⟩), (((unhide HB0).setCell (p := ⟨g, f * 3 + 2, none⟩) (by dsimp only; omega) _).setCell (p := ⟨g, f * 3 + 1, none⟩) (by dsimp only; omega) _).drew⟩
        rw [unhide HLH]
        refine (SReads.set_ (w := w1) (unhide HR) hf _ (fun j h1 h2 h3 => two_other (by omega) (by omega)) ?_ ?_ ?_).more (by simp)
        all_goals simp only [Nat.zero_add, sideS]
        · rw [two_other (by omega) (by omega)]; exact d0
        · rw [two_last (by omega) d1]; simp; omega
        · rw [two_first (by omega) d2]; cases xs <;> rfl
end Go.Proofs.YtibbohebmmahmaaGreatDoor
