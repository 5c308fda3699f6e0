/- Chapter 15: chunk.Plan. Conditions: a slice that reads as bytes. -/
import Derived.Test.YtijgiieoinmjhaaDoorChunkSeq
import Derived.Test.YtijgiieoinmjhaaDoorCodeRow
namespace Go.Proofs.YtijgiieoinmjhaaDoor
set_option linter.unusedVariables false
set_option linter.unusedSimpArgs false
open Go.RowKit Go.Shelf

/-- append under a name of its own: so a region's walk meets a fact on it before it opens it -/
@[irreducible] def appB (ts : Array TypeId) (ty : TypeId) (args : Array Value) : Sem Value := Builtin.append_ ts ty args
theorem to_appB (ts : Array TypeId) (ty : TypeId) (args : Array Value) : Builtin.append_ ts ty args = appB ts ty args := by unfold appB; rfl
attribute [local go_sem] Oper.semAt_some
attribute [local go_sem ↓] to_appB

def planE (n : Nat) (sz : Int) : Int := if 6000 < n then 4 else if sz < 1 then 1 else if 6000 < sz then 1 else if 100 * sz < n then 4 else 0
def piece (l : List Int) (sz k : Nat) : List Int := (l.drop (k * sz)).take sz
def ptOf (l : List Int) (sz k : Nat) : Pt := ⟨((piece l sz k).length : Int), sumV (piece l sz k)⟩
def ptsOf {n : Nat} (l : List Int) (sz : Nat) (pre : List (Pc n sz)) : List Value := pre.flatMap fun x => (ptOf l sz x.1).cells
theorem ptsOf_next {n : Nat} (l : List Int) (sz : Nat) (pre : List (Pc n sz)) (x : Pc n sz) : ptsOf l sz (pre ++ [x]) = ptsOf l sz pre ++ [.int .i64 ((piece l sz x.1).length : Int), .int .i64 (sumV (piece l sz x.1))] := by
  simp [ptsOf, ptOf, Pt.cells]
theorem piece_len (l : List Int) (sz k : Nat) : (piece l sz k).length = min sz (l.length - k * sz) := by simp [piece]
theorem reads_piece {w : World} {B b off n sz k : Nat} {l : List Int} (hr : BReads w B (some ⟨b, off, none⟩) n l) (hk : k * sz < n) (hs : 1 ≤ sz) : BReads w B (some ⟨b, off + k * sz, none⟩) (min sz (n - k * sz)) (piece l sz k) := by
  have hl := hr.len
  obtain ⟨b', off', e, hb, hc⟩ := Reads.spot hr (by omega) (by omega)
  cases e
  refine ⟨by rw [List.length_map, piece_len, hl, Nat.mul_one], fun h0 => ⟨_, rfl, hb, fun j u hu => ?_⟩⟩
  have hj : j < sz := by
    rcases Nat.lt_or_ge j sz with h | h
    · exact h
    · rw [List.getElem?_eq_none (by rw [List.length_map, piece_len]; omega)] at hu; cases hu
  have h1 := hc (k * sz + j) u (by
    rw [← hu, List.getElem?_map, List.getElem?_map, piece, List.getElem?_take, if_pos hj, List.getElem?_drop])
  unfold Addr.add
  split
  · rename_i e; subst e; simpa using h1
  · simpa [Nat.add_assoc] using h1
theorem elem_part : Elem Tryd.prog 24 30 (.agg #[.int .i64 0, .int .i64 0]) 2 16 := ⟨Tryd.underlying24, by kernel_rfl, rfl, by omega, by omega⟩

def PlanPost (base n : Nat) (l : List Int) (sz : Int) (w : World) (e : Ending) (w' : World) : Prop :=
  ∃ v, e = .returned (.tuple #[v, errV (planE n sz)]) ∧ (planE n sz ≠ 0 → v = .slice none 0 0) ∧
    (planE n sz = 0 → ∃ k, n ≤ k * sz.toNat ∧ (k = 0 ∨ (k - 1) * sz.toNat < n) ∧ w'.ownsRow base 30 2 v (pcs n sz.toNat k).length (ptsOf l sz.toNat (pcs n sz.toNat k))) ∧ Below base w w'
theorem planE_1 {n : Nat} {sz : Int} (h : 6000 < n) : planE n sz = 4 := by unfold planE; rw [if_pos h]
theorem planE_2 {n : Nat} {sz : Int} (h : ¬ 6000 < n) (h2 : sz < 1 ∨ 6000 < sz) : planE n sz = 1 := by unfold planE; rw [if_neg h]; split; rfl; rw [if_pos (by omega)]
theorem planE_3 {n : Nat} {sz : Int} (h : ¬ 6000 < n) (h2 : ¬ sz < 1) (h3 : ¬ 6000 < sz) (h4 : 100 * sz < n) : planE n sz = 4 := by unfold planE; rw [if_neg h, if_neg h2, if_neg h3, if_pos h4]
theorem planE_4 {n : Nat} {sz : Int} (h : ¬ 6000 < n) (h2 : ¬ sz < 1) (h3 : ¬ 6000 < sz) (h4 : ¬ 100 * sz < n) : planE n sz = 0 := by unfold planE; rw [if_neg h, if_neg h2, if_neg h3, if_neg h4]

set_option maxRecDepth 100000 in
set_option maxHeartbeats 4000000 in
theorem plan_any (A : Option Addr) (n c B : Nat) (l : List Int) (sz : Int) (w : World) (hr : BReads w B A n l) (hB : B ≤ w.heap.size) (hn : n ≤ maxLen) (hnc : n ≤ c) (hby : ∀ x ∈ l, 0 ≤ x ∧ x < 256) :
    Calls Tryd.prog 9 #[.slice A n c, .int .i64 sz] w (PlanPost w.heap.size n l sz w) := by
  have hnm := hn
  unfold maxLen at hn
  by_cases h1 : 6000 < n
  · have HE := hide (planE_1 (sz := sz) h1)
    go_enter Tryd.func9, Tryd.ntmps9
    go_wp2
    go_ret2
    exact ⟨_, by rw [unhide HE]; rfl, fun _ => rfl, fun h => (by rw [unhide HE] at h; cases h), Below.refl _ _⟩
  by_cases h2 : sz < 1
  · have HE := hide (planE_2 h1 (.inl h2))
    go_enter Tryd.func9, Tryd.ntmps9
    go_wp2
    go_ret2
    exact ⟨_, by rw [unhide HE]; rfl, fun _ => rfl, fun h => (by rw [unhide HE] at h; cases h), Below.refl _ _⟩
  by_cases h3 : 6000 < sz
  · have HE := hide (planE_2 h1 (.inr h3))
    go_enter Tryd.func9, Tryd.ntmps9
    go_wp2
    go_ret2
    exact ⟨_, by rw [unhide HE]; rfl, fun _ => rfl, fun h => (by rw [unhide HE] at h; cases h), Below.refl _ _⟩
  by_cases h4 : 100 * sz < n
  · have HE := hide (planE_3 h1 h2 h3 h4)
    go_enter Tryd.func9, Tryd.ntmps9
    go_wp2
    go_ret2
    exact ⟨_, by rw [unhide HE]; rfl, fun _ => rfl, fun h => (by rw [unhide HE] at h; cases h), Below.refl _ _⟩
  have HE := hide (planE_4 h1 h2 h3 h4)
  obtain ⟨s, rfl⟩ : ∃ s : Nat, sz = s := ⟨sz.toNat, by omega⟩
  have hs1 : 1 ≤ s := by omega
  have hs2 : s ≤ 6000 := by omega
  have HBY := hide hby
  clear hby
  refine (callsIn_wide (n := 5)).1 ?_
  refine callsIn_of_wp_marks Tryd.func9 rfl trivial ?_ rfl
  simp only [Tryd.ntmps9, List.size_toArray, List.length_cons, List.length_nil, Nat.reduceAdd, Nat.reduceSub, Array.replicate_succ, Array.replicate_zero, List.push_toArray, List.append_toArray, List.nil_append, List.cons_append]
  gi_wp2_with (refine ⟨trivial, ?_⟩; gi_at_call 43; refine (chunk_any _ A n c s hs1 _).mono ?_; rintro e w' ⟨rfl, rfl⟩)
  have bL := Boxed.new w 24 (.slice none 0 0)
  have bS := Boxed.new (w.alloc (.cells #[.slice none 0 0] 24)) 22 (.slice A n c)
  rw [World.size_alloc] at bS
  have bN := Boxed.new ((w.alloc (.cells #[.slice none 0 0] 24)).alloc (.cells #[.slice A n c] 22)) 3 (.int .i64 s)
  rw [World.size_alloc, World.size_alloc] at bN
  have hB0 : Below w.heap.size w (((w.alloc (.cells #[.slice none 0 0] 24)).alloc (.cells #[.slice A n c] 22)).alloc (.cells #[.int .i64 s] 3)) := (((Below.refl _ w).alloc (Nat.le_refl _) _).alloc (by simp) _).alloc (by simp; omega) _
  refine' wpIn_rangeFunc_ownG rfl (by omega) (gf := 65) (lb := #[.pointer (some ⟨w.heap.size + 1, 0, none⟩), .pointer (some ⟨w.heap.size + 1 + 1, 0, none⟩)]) rfl trivial (enters_of Tryd.func65 (by kernel_rfl) rfl)
    (chunk_stops _ (w.heap.size + 1) (w.heap.size + 1 + 1) B n c s A l (by omega) hs1 (by omega) (by omega) hnc (((w.alloc (.cells #[.slice none 0 0] 24)).alloc (.cells #[.slice A n c] 22)).alloc (.cells #[.int .i64 s] 3)) (Reads.below hr (hB0.mono hB)) (by simp) (by simp) (bS.alloc _).cell bN.cell)
    (KeepBox.trans) (KeepBox.put (by simp) (by simp)) (Below.refl _ _) (fun _ => rfl)
    (fun pre W => ((∃ v, Boxed W w.heap.size 24 v ∧ W.ownsRow w.heap.size 30 2 v pre.length (ptsOf l s pre) ∧ True) ∧ (Boxed W (w.heap.size + 1) 22 (.slice A n c) ∧ Boxed W (w.heap.size + 1 + 1) 3 (.int .i64 s))) ∧ Below w.heap.size w W)
    (fun _ _ _ => False)
    (OwnFrom.and (OwnFrom.and (Own.from (holdsRow_own w.heap.size w.heap.size 24 30 2 (fun pre => pre.length) (fun pre => ptsOf l s pre) (fun _ _ => True)) _) (OwnFrom.and (Own.from (boxed_own _ _ _) _) (Own.from (boxed_own _ _ _) _))) (ownFrom_below (Nat.le_refl _) (by simp; omega)))
    (fun _ _ _ _ _ hs _ _ => hs)
    ⟨⟨⟨_, (bL.alloc _).alloc _, World.ownsRow_nil _ _ _ _, trivial⟩, bS.alloc _, bN⟩, hB0⟩
    _ ?assign ?body ?done ?stop
  case assign =>
    intro lp x W K hK
    gi_wp2
    exact hK
  case body =>
    rintro lp pre x W ⟨⟨⟨v, hv, hrow, _⟩, hb1, hb2⟩, hbel⟩ hlt
    obtain ⟨vA, vc, rfl, _, _, _⟩ := own_slice hrow
    have hx0 : 0 < n := by omega
    obtain ⟨b, off, rfl, hbB, _⟩ := Reads.spot hr hx0 (by omega)
    have hrp : BReads W.drew B (some ⟨b, off + x.1 * s, none⟩) (min s (n - x.1 * s)) (piece l s x.1) := reads_piece (w := W) (Reads.below hr (hbel.mono hB)) x.2 hs1
    have hpl := hrp.len
    have HPB : Hid (∀ y ∈ piece l s x.1, 0 ≤ y ∧ y < 256) := hide (fun y hy => unhide HBY y (List.mem_of_mem_drop (List.mem_of_mem_take hy)))
    have HNX := hide (ptsOf_next l s pre x)
    rw [hpl] at HNX
    clear hpl hr bL bS bN hB0
    obtain ⟨i, hi, hz, hsz, hbyt⟩ := info_parts elem_part.info
    obtain ⟨e, he, he6⟩ : ∃ e, min s (n - x.1 * s) = e ∧ e ≤ 6000 := ⟨_, rfl, by omega⟩
    rw [he] at hrp HNX
    have hszW := hbel.size
    obtain ⟨v', w1, hrun, hown', hgrow, _⟩ := run_append_own (P := Tryd.prog) (W.alloc (.cells #[.int .i64 e, .int .i64 (sumV (piece l s x.1))] 30)).drew w.heap.size 24 24 30 i _ 2 16 elem_part.und hi hz hsz hbyt elem_part.zs elem_part.pos (.slice vA pre.length vc) pre.length (ptsOf l s pre) (World.ownsRow.alloc hrow _)
      ⟨W.heap.size, 0, none⟩ 1 1 [.int .i64 e, .int .i64 (sumV (piece l s x.1))] rfl (cells_new_row W _ 30) (by intro u hu; simp at hu; rcases hu with rfl | rfl <;> rfl) (by unfold maxLen; omega) (by omega) (by show w.heap.size ≤ (W.alloc _).heap.size; rw [World.size_alloc]; omega)
    rw [to_appB] at hrun
    obtain ⟨g', cap', rfl⟩ := ownsRow_succ hown'
    have hgrow2 : (W.alloc (.cells #[.int .i64 e, .int .i64 (sumV (piece l s x.1))] 30)).grownBy w1 (Value.slice vA pre.length vc).ownBlock := ⟨hgrow.os, hgrow.tape, hgrow.output, hgrow.size, hgrow.block⟩
    obtain ⟨hv1, hv2, hr2, hk2, hb2'⟩ := hv.appended (by decide) hrow hbel.size (Nat.le_refl _) hown' hgrow2
    have hc0 := hv.cell
    have hcA := (hv.alloc (.cells #[.int .i64 e, .int .i64 (sumV (piece l s x.1))] 30)).cell
    have hc1 := hv1.cell
    have hf1 := hv1.frozen
    have o1 := ((hb1.alloc (.cells #[.int .i64 e, .int .i64 (sumV (piece l s x.1))] 30)).kept hgrow2 (hb1.not_row (by decide) hrow)).other (B' := w.heap.size) (by omega) (.slice (some ⟨g', 0, none⟩) (pre.length + 1) cap')
    have o2 := ((hb2.alloc (.cells #[.int .i64 e, .int .i64 (sumV (piece l s x.1))] 30)).kept hgrow2 (hb2.not_row (by decide) hrow)).other (B' := w.heap.size) (by omega) (.slice (some ⟨g', 0, none⟩) (pre.length + 1) cap')
    have hmx : Tryd.prog.follows .mixedOrders = true := by kernel_rfl
    have hd : 1 ≤ 5 - 1 - 1 := by omega
    rw [show pieceV (baseV (some ⟨b, off, none⟩)).1 (baseV (some ⟨b, off, none⟩)).2 n s x.1 = .slice (some ⟨b, off + x.1 * s, none⟩) e e from by unfold pieceV baseV; rw [he]]
    gi_wp2
    gi_region_with_o (refine ⟨trivial, ?_⟩; gi_at_call 15; refine (CallsIn.inRound lp (callsIn_wide.2 (sum_any (some ⟨b, off + x.1 * s, none⟩) e e B (piece l s x.1) _ hrp (by unfold maxLen; omega) (unhide HPB)))).mono ?_; rintro e w' ⟨rfl, rfl⟩)
    all_goals gi_wp2
    all_goals exact ⟨hk2.from _, ⟨o1.cell.trans hb1.cell.symm, o2.cell.trans hb2.cell.symm⟩, ⟨⟨⟨_, hv2, by rw [unhide HNX]; simpa using hr2, trivial⟩, o1, o2⟩, hbel.trans hb2'⟩⟩
  case done =>
    rintro D ys W hD ⟨k, rfl, hk1, hk2⟩ ⟨⟨⟨v, hv, hrow, _⟩, hb1, hb2⟩, hbel⟩ hK
    obtain ⟨vA, vc, rfl, _, _, _⟩ := own_slice hrow
    have hc := hv.cell
    gi_wp2
    refine ⟨by simp, .inl ⟨_, _, rfl, run_takeDeferred hK, ?_⟩⟩
    refine ⟨_, results_tmp2 rfl _ _ _, ?_⟩
    refine ⟨.slice vA (pcs n s k).length vc, ?_, fun h => absurd (unhide HE) h, fun _ => ⟨k, hk1, hk2, ownsRow_putObj hrow _ hK rfl⟩, hbel.trans (belowK_b (w := w) (Nat.le_refl _) W D _ _ (by simp at hD; omega) hK rfl rfl)⟩
    rw [unhide HE]
    rfl
  case stop =>
    rintro D c pre W _ _ h _
    exact h.elim
end Go.Proofs.YtijgiieoinmjhaaDoor
