/- slices.Values, AppendSeq, Collect, Sorted at ints. Conditions: a slice that reads as a list, of at most 100000. -/
import Derived.Test.YtlicgpjcnkabiaaDoorInts
import Derived.RangeFuncNested
import Derived.RangeFuncBound
import Derived.RangeFuncBox
import Derived.RangeFuncCalls
import Derived.RangeFuncLeaves
import Derived.Shelf.Abstract
import Derived.Shelf.RegionOpen
import Derived.OwnWalkIn
import Derived.TacticsInMore
import Derived.LoopNIn
import Derived.LoopIn
namespace Go.Proofs.YtlicgpjcnkabiaaDoor
set_option linter.unusedVariables false
set_option linter.unusedSimpArgs false
open Go.RowKit Go.Shelf
/-- append under a name of its own: so a region's walk meets a fact on it before it opens it -/
@[irreducible] def appC (ts : Array TypeId) (ty : TypeId) (args : Array Value) : Sem Value := Builtin.append_ ts ty args
theorem to_appC (ts : Array TypeId) (ty : TypeId) (args : Array Value) : Builtin.append_ ts ty args = appC ts ty args := by unfold appC; rfl
attribute [local go_sem] Oper.semAt_some
attribute [local go_sem ↓] to_appC

/-- what lies below a block is as it lay -/
def KeepB (B : Nat) (W W' : World) : Prop := ∀ p : Addr, p.block < B → W'.cell? p = W.cell? p
theorem KeepB.refl {B : Nat} (W : World) : KeepB B W W := fun _ _ => rfl
theorem KeepB.trans {B : Nat} {X Y Z : World} (h : KeepB B X Y) (k : KeepB B Y Z) : KeepB B X Z := fun p hp => (k p hp).trans (h p hp)
theorem KeepB.put {B : Nat} {w : World} (h1 : B ≤ w.heap.size) (W : World) (l : Nat) (o o' : Obj) (hl : w.heap.size ≤ l) (h : W.heap[l]? = some o) (_ : o.isCells = false) (_ : o.isWalk = false) : KeepB B W (W.putObj l o') :=
  fun p hp => World.cell?_of_block (World.putObj_heap_other (by omega))
theorem KeepB.below {B : Nat} {W W' : World} (h : Below B W W') : KeepB B W W' := fun _ hp => h.cell hp

theorem values_any (A : Option Addr) (n c : Nat) (w : World) :
    Calls Tryd.prog 60 #[.slice A n c] w fun e w' => e = .returned (.func (.func 90) #[] #[.pointer (some ⟨w.heap.size, 0, none⟩)]) ∧ w' = w.alloc (.cells #[.slice A n c] 22) := by
  go_enter Tryd.func60, Tryd.ntmps60
  go_wp2_with fail
  go_ret
  exact ⟨rfl, rfl⟩

set_option maxRecDepth 100000 in
set_option maxHeartbeats 4000000 in
theorem values1_in (m lp Bs n c B : Nat) (A : Option Addr) (l : List Int) (hm : 1 ≤ m) (hn : n ≤ 100000) (J Jx : List Int → World → Prop)
    (hY : ∀ pre x W, J pre W → pre.length < n → YieldAt Fence.wide (m - 1) Tryd.prog lp #[.int .i64 x] W fun e W' =>
      (e = .returned (.bool true) ∧ J (pre ++ [x]) W' ∧ KeepB B W W') ∨ (e = .returned (.bool false) ∧ Jx (pre ++ [x]) W'))
    (W : World) (hr : IReads W B A n l) (hlt : Bs < B) (hBs : W.cell? ⟨Bs, 0, none⟩ = some (.slice A n c)) (h0 : J [] W) :
    CallsIn Fence.wide m Tryd.prog 90 #[.func (.yield lp) #[] #[], .pointer (some ⟨Bs, 0, none⟩)] W fun e W' => (∃ v, e = .returned v) ∧
      ((∃ ys, ys = l ∧ J ys W') ∨ (∃ pre, True ∧ Jx pre W')) := by
  have hln := hr.len
  refine callsIn_of_wp Tryd.func90 rfl trivial ?_ rfl
  simp only [Tryd.ntmps90, List.size_toArray, List.length_cons, List.length_nil, Nat.reduceAdd, Nat.reduceSub, Array.replicate_succ, Array.replicate_zero, List.push_toArray, List.append_toArray, List.nil_append, List.cons_append]
  have HL := hide hln
  clear hln
  gi_wp2
  gi_loopw [7] (fun i wr => ∃ k : Nat, k ≤ n ∧ i = .int .i64 k ∧ J (l.take k) wr ∧ KeepB B W wr) (fun i _ => n - (intOf i).toNat)
  case atStart => exact ⟨0, Nat.zero_le _, rfl, by simpa using h0, KeepB.refl _⟩
  case round =>
    obtain ⟨k, hk, rfl, hJ, hkp⟩ := hrel
    by_cases hkn : k < n
    · obtain ⟨b, o, x, rfl, _, hx, cx⟩ := (hr.keep hkp).get hkn
      have HT := hide (take_next hx)
      obtain ⟨fn, tmps, assign, body, hy, hRn⟩ := hY _ x wr hJ (by rw [List.length_take]; omega)
      clear hx
      gi_wp2
      refine hRn.mono ?_
      rintro e W3 (⟨rfl, hJ3, hk3⟩ | ⟨rfl, hJx3⟩)
      · gi_wp2
        go_roundw
        case rel => exact ⟨k + 1, by omega, by go_num, by rw [unhide HT]; exact hJ3, hkp.trans hk3⟩
        case measure => simp [intOf]; omega
      · gi_wp2
        refine bodyPost_ret (results_none rfl _ _ _) rfl ?_
        exact ⟨⟨_, rfl⟩, .inr ⟨_, trivial, hJx3⟩⟩
    · rw [List.take_of_length_le (by have := unhide HL; omega)] at hJ
      gi_wp2
      go_end0
      exact ⟨⟨_, rfl⟩, .inl ⟨_, rfl, hJ⟩⟩
theorem values_stops (m Bs B n cap : Nat) (A : Option Addr) (l : List Int) (hm : 1 ≤ m) (hn : n ≤ 100000) (w : World) (hr : IReads w B A n l) (hlt : Bs < B) (hB : B ≤ w.heap.size) (hBs : w.cell? ⟨Bs, 0, none⟩ = some (.slice A n cap)) :
    SeqStopsK Fence.wide m Tryd.prog 90 #[.pointer (some ⟨Bs, 0, none⟩)] (fun x : Int => #[.int .i64 x]) (KeepB B) (fun ys => ys = l) (fun _ => True) n w := fun lp J Jx W hW hJ _ hY h0 => by
  have hk : KeepB B w W := fun p hp => hW.cell (by omega)
  exact values1_in m lp Bs n cap B A l hm hn J Jx hY W (hr.keep hk) hlt ((hk ⟨Bs, 0, none⟩ hlt).trans hBs) h0

set_option maxRecDepth 100000 in
set_option maxHeartbeats 4000000 in
theorem appendSeq_any (Bs n cap : Nat) (A : Option Addr) (l : List Int) (hn : n ≤ 100000) (w : World) (hr : IReads w w.heap.size A n l) (hBs : w.cell? ⟨Bs, 0, none⟩ = some (.slice A n cap)) (hlt : Bs < w.heap.size) :
    Calls Tryd.prog 104 #[.slice none 0 0, .func (.func 90) #[] #[.pointer (some ⟨Bs, 0, none⟩)]] w (IPost l w) := by
  refine (callsIn_wide (n := 5)).1 ?_
  refine callsIn_of_wp_marks Tryd.func104 rfl trivial ?_ rfl
  simp only [Tryd.ntmps104, List.size_toArray, List.length_cons, List.length_nil, Nat.reduceAdd, Nat.reduceSub, Array.replicate_succ, Array.replicate_zero, List.push_toArray, List.append_toArray, List.nil_append, List.cons_append]
  gi_wp2
  have bS := Boxed.new w 22 (.slice none 0 0)
  have hB0 : Below w.heap.size w (w.alloc (.cells #[.slice none 0 0] 22)) := (Below.refl _ w).alloc (Nat.le_refl _) _
  have hln := hr.len
  refine' wpIn_rangeFunc_ownG rfl (by omega) (gf := 90) (lb := #[.pointer (some ⟨Bs, 0, none⟩)]) rfl trivial (enters_of Tryd.func90 (by kernel_rfl) rfl)
    (values_stops _ Bs w.heap.size n cap A l (by omega) hn (w.alloc (.cells #[.slice none 0 0] 22)) (hr.below hB0) hlt hB0.size ((hB0.cell (p := ⟨Bs, 0, none⟩) hlt).trans hBs))
    (KeepB.trans) (KeepB.put hB0.size) (Below.refl _ _) (fun _ => rfl)
    (fun pre W => (∃ v, Boxed W w.heap.size 22 v ∧ W.ownsRow w.heap.size 3 1 v pre.length (pre.map (Value.int .i64)) ∧ True) ∧ Below w.heap.size w W)
    (fun _ _ _ => False)
    (OwnFrom.and (Own.from (holdsRow_own w.heap.size w.heap.size 22 3 1 (fun (pre : List Int) => pre.length) (fun (pre : List Int) => pre.map (Value.int .i64)) (fun _ _ => True)) _) (ownFrom_below (Nat.le_refl _) (by simp)))
    (fun _ _ _ _ _ hs _ _ => hs)
    ⟨⟨_, bS, World.ownsRow_nil _ _ _ _, trivial⟩, hB0⟩
    _ ?assign ?body ?done ?stop
  case assign =>
    intro lp x W K hK
    gi_wp2
    exact hK
  case body =>
    rintro lp pre x W ⟨⟨v, hv, hrow, _⟩, hbel⟩ hlt2
    obtain ⟨vA, vc, rfl, _, _, _⟩ := own_slice hrow
    obtain ⟨i, hi, hz, hsz, hbyt⟩ := info_parts elem_int.info
    have hszW := hbel.size
    obtain ⟨v', w1, hrun, hown', hgrow, _⟩ := run_append_own (P := Tryd.prog) (W.alloc (.cells #[.int .i64 x] 3)) w.heap.size 22 22 3 i _ 1 8 elem_int.und hi hz hsz hbyt elem_int.zs elem_int.pos (.slice vA pre.length vc) pre.length (pre.map (Value.int .i64)) (World.ownsRow.alloc hrow _)
      ⟨W.heap.size, 0, none⟩ 1 1 [.int .i64 x] rfl (cells_new_row W _ 3) (by intro u hu; simp at hu; rcases hu with rfl; rfl) (by unfold maxLen; omega) (by omega) (by rw [World.size_alloc]; omega)
    rw [to_appC] at hrun
    obtain ⟨g', cap', rfl⟩ := ownsRow_succ hown'
    obtain ⟨hv1, hv2, hr2, hk2, hb2'⟩ := hv.appended (by decide) hrow hbel.size (Nat.le_refl _) hown' hgrow
    have hc0 := hv.cell
    have hcA := (hv.alloc (.cells #[.int .i64 x] 3)).cell
    have hc1 := hv1.cell
    have hf1 := hv1.frozen
    have hd : 1 ≤ 5 - 1 - 1 := by omega
    gi_wp2
    exact ⟨hk2.from _, KeepB.below hb2', ⟨⟨_, hv2, by simpa using hr2, trivial⟩, hbel.trans hb2'⟩⟩
  case done =>
    rintro D ys W hD rfl ⟨⟨v, hv, hrow, _⟩, hbel⟩ hK
    obtain ⟨vA, vc, rfl, _, _, _⟩ := own_slice hrow
    have hc := hv.cell
    gi_wp2
    refine ⟨by simp, .inl ⟨_, _, rfl, run_takeDeferred hK, ?_⟩⟩
    refine ⟨_, results_tmp rfl _ _ _, ?_⟩
    refine ⟨.slice vA n vc, rfl, by rw [← hln]; exact ownsRow_putObj hrow _ hK rfl, hbel.trans (belowK_b (w := w) (Nat.le_refl _) W D _ _ (by simp at hD; omega) hK rfl rfl)⟩
  case stop =>
    rintro D c pre W _ _ h _
    exact h.elim

set_option maxRecDepth 100000 in
theorem collect_any (Bs n cap : Nat) (A : Option Addr) (l : List Int) (hn : n ≤ 100000) (w : World) (hr : IReads w w.heap.size A n l) (hBs : w.cell? ⟨Bs, 0, none⟩ = some (.slice A n cap)) (hlt : Bs < w.heap.size) :
    Calls Tryd.prog 89 #[.func (.func 90) #[] #[.pointer (some ⟨Bs, 0, none⟩)]] w (IPost l w) := by
  have h := hide (appendSeq_any Bs n cap A l hn w hr hBs hlt)
  clear hBs
  go_enter Tryd.func89, Tryd.ntmps89
  go_wp2_with fail
  refine (unhide h).mono ?_
  rintro e w1 ⟨v, rfl, ho, hb⟩
  go_wp2_with fail
  go_ret
  exact ⟨v, rfl, ho, hb⟩
set_option maxRecDepth 100000 in
theorem sorted_any (Bs n cap : Nat) (A : Option Addr) (l : List Int) (hn : n ≤ 100000) (w : World) (hr : IReads w w.heap.size A n l) (hBs : w.cell? ⟨Bs, 0, none⟩ = some (.slice A n cap)) (hlt : Bs < w.heap.size) :
    Calls Tryd.prog 59 #[.func (.func 90) #[] #[.pointer (some ⟨Bs, 0, none⟩)]] w (IPost (sortL l) w) := by
  have h := hide (collect_any Bs n cap A l hn w hr hBs hlt)
  have HL := hide hr.len
  clear hBs
  go_enter Tryd.func59, Tryd.ntmps59
  go_wp2_with fail
  refine (unhide h).mono ?_
  rintro e w1 ⟨v, rfl, ho, hb⟩
  have hz := hb.size
  go_wp2_with fail
  refine (sort_any v l w.heap.size w1 ho hz (by have := unhide HL; omega)).mono ?_
  rintro e w2 ⟨rfl, ho2, _, hb2⟩
  go_wp2_with fail
  go_ret
  exact ⟨v, rfl, ho2, hb.trans hb2⟩
end Go.Proofs.YtlicgpjcnkabiaaDoor
