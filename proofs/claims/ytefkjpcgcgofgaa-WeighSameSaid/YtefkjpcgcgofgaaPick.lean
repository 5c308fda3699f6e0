/- path.Wide, path.Pick. Conditions: as each lemma names. -/
import Derived.Test.YtefkjpcgcgofgaaLeaves
namespace Go.Proofs.Ytefkjpcgcgofgaa
set_option linter.unusedVariables false
set_option linter.unusedSimpArgs false
open Go.RowKit

def wideS : Sp := ⟨-1000000, 1000000, true⟩
def wideL (n : Nat) : List Sp := List.replicate n wideS
def pickS (s : Sp) : Int := if s.low ≤ s.high then s.low else -1125899906842624
def pickL (l : List Sp) : List Int := l.map pickS
theorem pick_next {l : List Sp} {k : Nat} {s : Sp} (h : l[k]? = some s) : pickL (l.take (k + 1)) = pickL (l.take k) ++ [pickS s] := by unfold pickL; rw [take_next h]; simp

set_option maxRecDepth 100000 in
set_option maxHeartbeats 1000000 in
theorem pick_any (A : Option Addr) (n c B : Nat) (l : List Sp) (w : World) (hr : SReads w B A n l) (hB : B ≤ w.heap.size) (hn : n ≤ 100000000) :
    Calls Try.prog 66 #[.slice A n c] w fun e w' => ∃ v, e = .returned v ∧ w'.ownsRow w.heap.size 3 1 v n ((pickL l).map (Value.int .i64)) ∧ (v = .slice none 0 0 ↔ n = 0) ∧ Below w.heap.size w w' := by
  have HL := hide hr.len
  go_enter Try.func66, Try.ntmps66
  go_wp2_with fail
  go_loopw [3, 8] (fun v i wr => ∃ k : Nat, k ≤ n ∧ i = .int .i64 k ∧ wr.ownsRow w.heap.size 3 1 v k ((pickL (l.take k)).map (Value.int .i64)) ∧ Hid (v = .slice none 0 0 ↔ k = 0) ∧ Below w.heap.size w wr) (fun _ i _ => n - (intOf i).toNat)
  case atStart => exact ⟨0, Nat.zero_le _, rfl, by simpa [pickL] using World.ownsRow_nil _ _ _ _, hide (by simp), Below.refl _ _⟩
  case round =>
    obtain ⟨k, hk, rfl, hown, HV, hbel⟩ := hrel
    have hsz := hbel.size
    by_cases hlt : k < n
    · obtain ⟨b, o, s, rfl, hb, hx, c0, c1, c2⟩ := (hr.below (hbel.mono hB)).get hlt
      have HX := hide (pick_next hx)
      obtain ⟨s0, s1, s2⟩ := s
      dsimp only at c0 c1 c2
      have hb9 : ∀ o, w.heap.size ≤ (wr.alloc o).heap.size := fun o => by rw [World.size_alloc]; omega
      clear hx
      by_cases h1 : s0 ≤ s1
      · have HY : Hid (pickL (l.take (k + 1)) = pickL (l.take k) ++ [s0]) := hide (by rw [unhide HX]; simp [pickS, h1])
        have hk9 : k < 1000000000 := by omega
        go_wp2_with (at_builtin; refine app_one elem_int (.tmp 17) (.tmp 20) [.int .i64 s0] rfl rfl rfl (hown.alloc _) rfl (World.size_alloc _ _) rfl (ints_oneCell .i64 [s0]) hk9 (hb9 _) ?_; intro v' w2 hown2 hb2 hne _)
        go_roundw
        case rel => exact ⟨k + 1, by omega, by go_num, by rw [unhide HY]; simpa using hown2, hide (by constructor <;> intro h <;> first | exact absurd h hne | omega), (hbel.alloc hsz _).trans hb2⟩
        case measure => simp [intOf] <;> omega
      · have HY : Hid (pickL (l.take (k + 1)) = pickL (l.take k) ++ [-1125899906842624]) := hide (by rw [unhide HX]; simp [pickS, h1])
        have hk9 : k < 1000000000 := by omega
        go_wp2_with (at_builtin; refine app_one elem_int (.tmp 22) (.tmp 23) [.int .i64 (-1125899906842624)] rfl rfl rfl (hown.alloc _) rfl (World.size_alloc _ _) rfl (ints_oneCell .i64 [-1125899906842624]) hk9 (hb9 _) ?_; intro v' w2 hown2 hb2 hne _)
        go_roundw
        case rel => exact ⟨k + 1, by omega, by go_num, by rw [unhide HY]; simpa using hown2, hide (by constructor <;> intro h <;> first | exact absurd h hne | omega), (hbel.alloc hsz _).trans hb2⟩
        case measure => simp [intOf] <;> omega
    · obtain rfl : k = n := by omega
      rw [List.take_of_length_le (by have := unhide HL; omega)] at hown
      go_wp2_with fail
      go_ret
      exact ⟨_, rfl, hown, unhide HV, hbel⟩

def zeroS : Sp := ⟨0, 0, false⟩
theorem made_span (n : Nat) (hn : n ≤ 8) : madeCells (Value.agg #[.int .i64 0, .int .i64 0, .bool false]).cells (n * 3) = ((List.replicate n zeroS).flatMap Sp.cells).toArray := by
  rcases n with _ | _ | _ | _ | _ | _ | _ | _ | _ | n <;> first | omega | kernel_rfl
theorem run_make_span (n : Nat) (hn : n ≤ 8) (w : World) : (Instr.makeSlice 54 (.int .i64 (n : Int)) (.int .i64 (n : Int))).run Try.prog w = .ok (.slice (some ⟨w.heap.size, 0, none⟩) n n) (w.alloc (.cells ((List.replicate n zeroS).flatMap Sp.cells).toArray 58)) := by
  obtain ⟨i, hi, hz, hs, hb⟩ := info_parts elem_span.info
  have := run_makeSlice (P := Try.prog) w 54 58 i _ elem_span.und hi hz .i64 .i64 n n (by omega) (by omega) (by rw [hs]; omega) (by rw [hb]; omega) (by omega)
  rw [hs, Int.toNat_natCast, made_span n hn] at this
  exact this
def wideK (n k : Nat) : List Sp := List.replicate k wideS ++ List.replicate (n - k) zeroS
theorem wideK_set {n k : Nat} (h : k < n) : (wideK n k).set k wideS = wideK n (k + 1) := by
  unfold wideK
  obtain ⟨m, hm⟩ : ∃ m, n - k = m + 1 := ⟨n - k - 1, by omega⟩
  rw [List.set_append_right _ _ (by simp), hm, show n - (k + 1) = m by omega, List.length_replicate, Nat.sub_self, List.replicate_succ, List.set_cons_zero, List.replicate_succ', List.append_assoc]
  rfl

theorem set3 {w : World} {g a : Nat} {u0 u1 u2 x0 x1 x2 : Value} (c0 : w.cell? ⟨g, a, none⟩ = some x0) (c1 : w.cell? ⟨g, a + 1, none⟩ = some x1) (c2 : w.cell? ⟨g, a + 2, none⟩ = some x2) :
    (∀ j, j ≠ a → j ≠ a + 1 → j ≠ a + 2 → (((w.setCell ⟨g, a, none⟩ u0).setCell ⟨g, a + 1, none⟩ u1).setCell ⟨g, a + 2, none⟩ u2).cell? ⟨g, j, none⟩ = w.cell? ⟨g, j, none⟩) ∧
    (((w.setCell ⟨g, a, none⟩ u0).setCell ⟨g, a + 1, none⟩ u1).setCell ⟨g, a + 2, none⟩ u2).cell? ⟨g, a, none⟩ = some u0 ∧
    (((w.setCell ⟨g, a, none⟩ u0).setCell ⟨g, a + 1, none⟩ u1).setCell ⟨g, a + 2, none⟩ u2).cell? ⟨g, a + 1, none⟩ = some u1 ∧
    (((w.setCell ⟨g, a, none⟩ u0).setCell ⟨g, a + 1, none⟩ u1).setCell ⟨g, a + 2, none⟩ u2).cell? ⟨g, a + 2, none⟩ = some u2 := by
  have N : ∀ (W : World) (i j : Nat) (u : Value), i ≠ j → (W.setCell ⟨g, i, none⟩ u).cell? ⟨g, j, none⟩ = W.cell? ⟨g, j, none⟩ := fun W i j u h => World.cell?_setCell_other _ _ _ _ (by intro e; injection e; omega)
  refine ⟨fun j h0 h1 h2 => ?_, ?_, ?_, ?_⟩
  · rw [N _ _ _ _ (by omega), N _ _ _ _ (by omega), N _ _ _ _ (by omega)]
  · rw [N _ _ _ _ (by omega), N _ _ _ _ (by omega)]; exact World.cell?_setCell_same' _ _ _ (by rw [c0]; rfl)
  · rw [N _ _ _ _ (by omega)]; exact World.cell?_setCell_same' _ _ _ (by rw [N _ _ _ _ (by omega), c1]; rfl)
  · exact World.cell?_setCell_same' _ _ _ (by rw [N _ _ _ _ (by omega), N _ _ _ _ (by omega), c2]; rfl)
set_option maxRecDepth 100000 in
set_option maxHeartbeats 1000000 in
theorem wide_any (n : Nat) (hn : n ≤ 8) (w : World) :
    Calls Try.prog 28 #[.int .i64 n] w (SpPost n (wideL n) w) := by
  have hmk := run_make_span n hn
  have hbk := Blk.new w 58 ((List.replicate n zeroS).flatMap Sp.cells).toArray
  have hrd := Reads.new_ w 3 n ((List.replicate n zeroS).flatMap Sp.cells) 58 (by rw [flatMap_len Sp.cells 3 (fun _ => rfl)]; simp)
  go_enter Try.func28, Try.ntmps28
  go_wp2_with fail
  go_loopw [4, 9] (fun _ i wr => ∃ k : Nat, k ≤ n ∧ i = .int .i64 k ∧ SReads wr (w.heap.size + 1) (some ⟨w.heap.size, 0, none⟩) n (wideK n k) ∧ Hid (∃ cs, Blk wr w.heap.size 58 cs) ∧ Below w.heap.size w wr) (fun _ i _ => n - (intOf i).toNat)
  case atStart => exact ⟨0, Nat.zero_le _, rfl, by unfold wideK; simpa [SReads] using hrd, hide ⟨_, hbk⟩, (Below.refl _ _).alloc (Nat.le_refl _) _⟩
  case round =>
    obtain ⟨k, hk, rfl, hs, hblk, hbel⟩ := hrel
    obtain ⟨cs, hblk⟩ := unhide hblk
    clear hmk hbk hrd
    by_cases hlt : k < n
    · obtain ⟨b, o, s, e, hb, hx, c0, c1, c2⟩ := hs.get hlt
      cases e
      have f0 := hblk.frozen (k * 3)
      have f1 := hblk.frozen (k * 3 + 1)
      have f2 := hblk.frozen (k * 3 + 2)
      simp only [Nat.zero_add] at c0 c1 c2
      obtain ⟨s3a, s3b, s3c, s3d⟩ := set3 (u0 := .int .i64 (-1000000)) (u1 := .int .i64 1000000) (u2 := .bool true) c0 c1 c2
      have HS : Hid (SReads (((wr.setCell ⟨w.heap.size, k * 3, none⟩ (.int .i64 (-1000000))).setCell ⟨w.heap.size, k * 3 + 1, none⟩ (.int .i64 1000000)).setCell ⟨w.heap.size, k * 3 + 2, none⟩ (.bool true)) (w.heap.size + 1) (some ⟨w.heap.size, 0, none⟩) n (wideK n (k + 1))) := hide (by
        rw [← wideK_set hlt]
        refine SReads.set_ hs hlt wideS (fun j h1 h2 h3 => ?_) ?_ ?_ ?_
        all_goals rw [Nat.zero_add]
        · exact s3a j h1 h2 h3
        · exact s3b
        · exact s3c
        · exact s3d)
      clear s3a s3b s3c s3d
      go_wp2_with fail
      go_roundw
      case rel => exact ⟨k + 1, by omega, by go_num, unhide HS, hide ⟨_, ((hblk.set_ _ _).set_ _ _).set_ _ _⟩, ((hbel.setCell (by simp) _).setCell (by simp) _).setCell (by simp) _⟩
      case measure => simp [intOf] <;> omega
    · obtain rfl : k = n := by omega
      have hw : wideK k k = wideL k := by simp [wideK, wideL]
      rw [hw] at hs
      clear hw
      go_wp2_with fail
      go_ret
      exact ⟨_, _, rfl, hs.more (by have := hblk.lt; omega), (by intro h; cases h), (by intro a h; cases h; exact Nat.le_refl _), (by intro a h; cases h; exact ⟨Nat.le_refl _, _, hblk⟩), hbel⟩
end Go.Proofs.Ytefkjpcgcgofgaa
