/- Package slices' Chunk at bytes: its iterator hands on the pieces, one behind the other. Conditions: a size of at least one; lengths within 100000. -/
import Derived.Test.YtijgiieoinmjhaaDoorChunk
import Derived.RangeFuncNested
import Derived.RangeFuncBound
import Derived.RangeFuncBox
import Derived.RangeFuncCalls
import Derived.RangeFuncLeaves
import Derived.Shelf.Abstract
import Derived.Shelf.RegionOpen
import Derived.OwnWalkIn
import Derived.TacticsInMore
import Derived.LoopNIn
import Derived.LoopIn
namespace Go.Proofs.YtijgiieoinmjhaaDoor
set_option linter.unusedVariables false
set_option linter.unusedSimpArgs false
open Go.RowKit Go.Shelf

attribute [local go_sem] Oper.semAt_some

abbrev Pc (n sz : Nat) := { k : Nat // k * sz < n }
def pcs (n sz : Nat) : Nat → List (Pc n sz)
  | 0 => []
  | k + 1 => pcs n sz k ++ (if h : k * sz < n then [⟨k, h⟩] else [])
theorem pcs_next {n sz k : Nat} (h : k * sz < n) : pcs n sz (k + 1) = pcs n sz k ++ [⟨k, h⟩] := by rw [pcs, dif_pos h]
theorem pcs_len (n sz : Nat) : ∀ k, (pcs n sz k).length ≤ k := by
  intro k
  induction k with
  | zero => simp [pcs]
  | succ k ih => rw [pcs, List.length_append]; split <;> simp <;> omega
def pieceV (b off n sz k : Nat) : Value := .slice (some ⟨b, off + k * sz, none⟩) (min sz (n - k * sz)) (min sz (n - k * sz))
/-- what a round keeps: the two boxes of the iterator -/
def KeepBox (Bs Bn : Nat) (W W' : World) : Prop := W'.cell? ⟨Bs, 0, none⟩ = W.cell? ⟨Bs, 0, none⟩ ∧ W'.cell? ⟨Bn, 0, none⟩ = W.cell? ⟨Bn, 0, none⟩
theorem KeepBox.refl {Bs Bn : Nat} (W : World) : KeepBox Bs Bn W W := ⟨rfl, rfl⟩
theorem KeepBox.trans {Bs Bn : Nat} {A B C : World} (h : KeepBox Bs Bn A B) (k : KeepBox Bs Bn B C) : KeepBox Bs Bn A C := ⟨k.1.trans h.1, k.2.trans h.2⟩
theorem KeepBox.put {Bs Bn : Nat} {w : World} (h1 : Bs < w.heap.size) (h2 : Bn < w.heap.size) (W : World) (l : Nat) (o o' : Obj) (hl : w.heap.size ≤ l) (h : W.heap[l]? = some o) (_ : o.isCells = false) (_ : o.isWalk = false) : KeepBox Bs Bn W (W.putObj l o') :=
  ⟨World.cell?_of_block (World.putObj_heap_other (by dsimp only; omega)), World.cell?_of_block (World.putObj_heap_other (by dsimp only; omega))⟩

theorem k_le_mul {k sz n : Nat} (h : k * sz < n) (hs : 1 ≤ sz) : k < n := Nat.lt_of_le_of_lt (by have := Nat.mul_le_mul_left k hs; omega) h

set_option maxRecDepth 100000 in
set_option maxHeartbeats 4000000 in
theorem chunk1_in (m l Bs Bn b off n cap sz : Nat) (hm : 1 ≤ m) (hs1 : 1 ≤ sz) (hs2 : sz ≤ 100000) (hn : n ≤ 100000) (hcap : n ≤ cap) (J Jx : List (Pc n sz) → World → Prop) (hD : ∀ pre W, J pre W → J pre W.drew)
    (hY : ∀ pre x W, J pre W → pre.length < n → YieldAt Fence.wide (m - 1) Tryd.prog l #[pieceV b off n sz x.1] W fun e W' =>
      (e = .returned (.bool true) ∧ J (pre ++ [x]) W' ∧ KeepBox Bs Bn W W') ∨ (e = .returned (.bool false) ∧ Jx (pre ++ [x]) W'))
    (W : World) (hBs : W.cell? ⟨Bs, 0, none⟩ = some (.slice (some ⟨b, off, none⟩) n cap)) (hBn : W.cell? ⟨Bn, 0, none⟩ = some (.int .i64 sz)) (h0 : J [] W) :
    CallsIn Fence.wide m Tryd.prog 65 #[.func (.yield l) #[] #[], .pointer (some ⟨Bs, 0, none⟩), .pointer (some ⟨Bn, 0, none⟩)] W fun e W' => (∃ v, e = .returned v) ∧
      ((∃ ys, (∃ k, ys = pcs n sz k ∧ n ≤ k * sz ∧ (k = 0 ∨ (k - 1) * sz < n)) ∧ J ys W') ∨ (∃ pre, True ∧ Jx pre W')) := by

  refine callsIn_of_wp Tryd.func65 rfl trivial ?_ rfl
  simp only [Tryd.ntmps65, List.size_toArray, List.length_cons, List.length_nil, Nat.reduceAdd, Nat.reduceSub, Array.replicate_succ, Array.replicate_zero, List.push_toArray, List.append_toArray, List.nil_append, List.cons_append]
  gi_wp2
  gi_loopw [4] (fun i wr => ∃ k q : Nat, i = .int .i64 q ∧ Hid (q = k * sz) ∧ q ≤ 200000 ∧ Hid (k = 0 ∨ (k - 1) * sz < n) ∧ J (pcs n sz k) wr ∧ KeepBox Bs Bn W wr) (fun i _ => n - (intOf i).toNat)
  case atStart => exact ⟨0, 0, rfl, hide (by simp), by omega, hide (.inl rfl), h0, KeepBox.refl _⟩
  case round =>
    obtain ⟨k, q, rfl, HQ, hq, HK, hJs, hkp⟩ := hrel
    have c1 := hkp.1.trans hBs
    have c2 := hkp.2.trans hBn
    by_cases hlt : q < n
    · have hkn : k * sz < n := by rw [← unhide HQ]; exact hlt
      obtain ⟨fn, tmps, assign, body, hy, hR⟩ := hY _ ⟨k, hkn⟩ wr.drew (hD _ _ hJs) (Nat.lt_of_le_of_lt (pcs_len n sz k) (k_le_mul hkn hs1))
      have HP : Hid (pcs n sz k ++ [⟨k, hkn⟩] = pcs n sz (k + 1)) := hide (pcs_next hkn).symm
      unfold pieceV at hy
      rw [← unhide HQ] at hy
      have hcq : ¬ cap = q := by omega
      obtain ⟨e, he, he1, he2⟩ : ∃ e : Nat, min sz (n - q) = e ∧ 1 ≤ e ∧ q + e ≤ n := ⟨_, rfl, by omega, by omega⟩
      rw [he] at hy
      by_cases hms : sz ≤ n - q
      · obtain rfl : sz = e := by omega
        gi_wp2
        gi_region
        gi_wp2
        refine hR.mono ?_
        rintro e W3 (⟨rfl, hJ3, hk3⟩ | ⟨rfl, hJx3⟩)
        · have hkp3 : KeepBox Bs Bn W W3 := hkp.trans hk3
          have c3 := hkp3.1.trans hBs
          have c4 := hkp3.2.trans hBn
          gi_wp2
          go_roundw
          case rel => exact ⟨k + 1, q + sz, by go_num, hide (by rw [unhide HQ, Nat.add_mul, Nat.one_mul]), by omega, hide (.inr (by simpa using hkn)), by rw [← unhide HP]; exact hJ3, hkp3⟩
          case measure => simp [intOf]; omega
        · gi_wp2
          refine bodyPost_ret (results_none rfl _ _ _) rfl ?_
          exact ⟨⟨_, rfl⟩, .inr ⟨_, trivial, hJx3⟩⟩
      · obtain rfl : n - q = e := by omega
        gi_wp2
        gi_region
        gi_wp2
        refine hR.mono ?_
        rintro e W3 (⟨rfl, hJ3, hk3⟩ | ⟨rfl, hJx3⟩)
        · have hkp3 : KeepBox Bs Bn W W3 := hkp.trans hk3
          have c3 := hkp3.1.trans hBs
          have c4 := hkp3.2.trans hBn
          gi_wp2
          go_roundw
          case rel => exact ⟨k + 1, q + sz, by go_num, hide (by rw [unhide HQ, Nat.add_mul, Nat.one_mul]), by omega, hide (.inr (by simpa using hkn)), by rw [← unhide HP]; exact hJ3, hkp3⟩
          case measure => simp [intOf]; omega
        · gi_wp2
          refine bodyPost_ret (results_none rfl _ _ _) rfl ?_
          exact ⟨⟨_, rfl⟩, .inr ⟨_, trivial, hJx3⟩⟩
    · gi_wp2
      go_end0
      exact ⟨⟨_, rfl⟩, .inl ⟨_, ⟨k, rfl, by have := unhide HQ; omega, unhide HK⟩, hJs⟩⟩

set_option maxRecDepth 100000 in
set_option maxHeartbeats 1000000 in
theorem chunk0_in (m l Bs Bn c sz : Nat) (A : Option Addr) (J : List (Pc 0 sz) → World → Prop)
    (W : World) (hBs : W.cell? ⟨Bs, 0, none⟩ = some (.slice A 0 c)) (h0 : J [] W) :
    CallsIn Fence.wide m Tryd.prog 65 #[.func (.yield l) #[] #[], .pointer (some ⟨Bs, 0, none⟩), .pointer (some ⟨Bn, 0, none⟩)] W fun e W' => (∃ v, e = .returned v) ∧ J [] W' := by
  refine callsIn_of_wp Tryd.func65 rfl trivial ?_ rfl
  simp only [Tryd.ntmps65, List.size_toArray, List.length_cons, List.length_nil, Nat.reduceAdd, Nat.reduceSub, Array.replicate_succ, Array.replicate_zero, List.push_toArray, List.append_toArray, List.nil_append, List.cons_append]
  gi_wp2
  gi_loopw [4] (fun i wr => i = .int .i64 0 ∧ J [] wr ∧ wr = W) (fun _ _ => 0)
  case atStart => exact ⟨rfl, h0, rfl⟩
  case round =>
    obtain ⟨rfl, hJs, rfl⟩ := hrel
    gi_wp2
    go_end0
    exact ⟨⟨_, rfl⟩, hJs⟩

def baseV (A : Option Addr) : Nat × Nat := match A with | none => (0, 0) | some a => (a.block, a.off)
abbrev enP (A : Option Addr) (n sz : Nat) (x : Pc n sz) : Array Value := #[pieceV (baseV A).1 (baseV A).2 n sz x.1]

theorem chunk_stops (m Bs Bn B n cap sz : Nat) (A : Option Addr) (l : List Int) (hm : 1 ≤ m) (hs1 : 1 ≤ sz) (hs2 : sz ≤ 100000) (hn : n ≤ 100000) (hcap : n ≤ cap) (w : World)
    (hr : BReads w B A n l) (hB1 : Bs < w.heap.size) (hB2 : Bn < w.heap.size) (hBs : w.cell? ⟨Bs, 0, none⟩ = some (.slice A n cap)) (hBn : w.cell? ⟨Bn, 0, none⟩ = some (.int .i64 sz)) :
    SeqStopsK Fence.wide m Tryd.prog 65 #[.pointer (some ⟨Bs, 0, none⟩), .pointer (some ⟨Bn, 0, none⟩)] (enP A n sz) (KeepBox Bs Bn)
      (fun ys => ∃ k, ys = pcs n sz k ∧ n ≤ k * sz ∧ (k = 0 ∨ (k - 1) * sz < n)) (fun _ => True) n w := fun lp J Jx W hW hJ _ hY h0 => by
  have c1 := (hW.cell (p := ⟨Bs, 0, none⟩) hB1).trans hBs
  have c2 := (hW.cell (p := ⟨Bn, 0, none⟩) hB2).trans hBn
  rcases Nat.eq_zero_or_pos n with rfl | hn0
  · refine (chunk0_in m lp Bs Bn cap sz A J W c1 h0).mono fun e W' ⟨he, hj⟩ => ⟨he, .inl ⟨[], ⟨0, rfl, by omega, .inl rfl⟩, hj⟩⟩
  · obtain ⟨b, off, rfl, hb, _⟩ := Reads.spot hr hn0 (by omega)
    exact chunk1_in m lp Bs Bn b off n cap sz hm hs1 hs2 hn hcap J Jx (fun pre W h => hJ pre W W.drew none h ⟨rfl, rfl, rfl, Nat.le_refl _, fun _ _ _ => rfl⟩ (fun r e => by cases e)) hY W c1 c2 h0

set_option maxHeartbeats 1000000 in
theorem chunk_any (m : Nat) (A : Option Addr) (n c sz : Nat) (hs1 : 1 ≤ sz) (w : World) :
    CallsIn Fence.wide m Tryd.prog 43 #[.slice A n c, .int .i64 sz] w fun e w' =>
      e = .returned (.func (.func 65) #[] #[.pointer (some ⟨w.heap.size, 0, none⟩), .pointer (some ⟨w.heap.size + 1, 0, none⟩)]) ∧
      w' = (w.alloc (.cells #[.slice A n c] 22)).alloc (.cells #[.int .i64 sz] 3) := by
  refine callsIn_of_wp Tryd.func43 rfl trivial ?_ rfl
  simp only [Tryd.ntmps43, List.size_toArray, List.length_cons, List.length_nil, Nat.reduceAdd, Nat.reduceSub, Array.replicate_succ, Array.replicate_zero, List.push_toArray, List.append_toArray, List.nil_append, List.cons_append]
  gi_wp2
  go_ret
  exact ⟨rfl, rfl⟩
end Go.Proofs.YtijgiieoinmjhaaDoor
