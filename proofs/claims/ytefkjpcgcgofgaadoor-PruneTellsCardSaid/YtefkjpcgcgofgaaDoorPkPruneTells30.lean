/- Part 30 of what LawPruneTells needs: SameNd, SameGr, RefRow, RefTree. Conditions: as each lemma names. -/
import Derived.Test.YtefkjpcgcgofgaaDoorPkPruneTells05
import Derived.Laws.StructEq
import Derived.Test.YtefkjpcgcgofgaaDoorPkPruneTells25
import Derived.StillTailTactics
import Derived.Test.YtefkjpcgcgofgaaDoorPkPruneTells02
import Derived.BigGuardPart
/- orchsame.Nodes of two trees that are the same. Conditions: arguments read as nodes. -/
namespace Go.Proofs.YtefkjpcgcgofgaaDoor
set_option linter.unusedVariables false
set_option linter.unusedSimpArgs false
open Go.RowKit

def ndEq (a b : Nd) : Bool := a.f == b.f && a.c == b.c && a.l == b.l && a.r == b.r && a.less == b.less && a.v == b.v
theorem ndEq_t {a b : Nd} : ndEq a b = true ↔ a = b := by
  obtain ⟨a0, a1, a2, a3, a4, a5⟩ := a
  obtain ⟨b0, b1, b2, b3, b4, b5⟩ := b
  simp [ndEq, and_assoc]
set_option maxRecDepth 100000 in
theorem neq_node (a b : Nd) (W : World) : (binOp .neq 43 (.agg #[.int .i64 a.f, .int .i64 a.c, .int .i64 a.l, .int .i64 a.r, .bool a.less, .int .i64 a.v]) (.agg #[.int .i64 b.f, .int .i64 b.c, .int .i64 b.l, .int .i64 b.r, .bool b.less, .int .i64 b.v])).run Tryd.prog W = .ok (.bool (!(ndEq a b))) W := by
  have u := Tryd.underlying43
  have ui := Tryd.underlying3
  have ub := Tryd.underlying4
  rw [run_neq_struct, run_equalIn_agg _ _ _ _ _ (by unfold Program.fieldsOf; rw [u]) (by kernel_rfl)]
  simp only [Program.fieldsOf, u]
  simp [Op.eqFields, part, go_sem, ui, ub]
  unfold ndEq
  by_cases h0 : a.f = b.f <;> by_cases h1 : a.c = b.c <;> by_cases h2 : a.l = b.l <;> by_cases h3 : a.r = b.r <;> by_cases h4 : a.less = b.less <;> by_cases h5 : a.v = b.v <;> simp [h0, h1, h2, h3, h4, h5]
theorem same_node (f c l r : Int) (less : Bool) (v : Int) (W : World) : (binOp .neq 43 (.agg #[.int .i64 f, .int .i64 c, .int .i64 l, .int .i64 r, .bool less, .int .i64 v]) (.agg #[.int .i64 f, .int .i64 c, .int .i64 l, .int .i64 r, .bool less, .int .i64 v])).run Tryd.prog W = .ok (.bool false) W := by
  have := neq_node ⟨f, c, l, r, less, v⟩ ⟨f, c, l, r, less, v⟩ W
  rw [ndEq_t.2 rfl] at this
  exact this
set_option maxRecDepth 100000 in
set_option maxHeartbeats 1000000 in
theorem sameNodes_any (A C : Option Addr) (n ca cc : Nat) (xs : List Nd) (w : World) (BA BC : Nat) (ha : NReads w BA A n xs) (hc : NReads w BC C n xs) (hn : n ≤ maxLen) :
    Calls Tryd.prog 13 #[.slice A n ca, .slice C n cc] w fun e w' => e = .returned (.bool true) ∧ ∃ q, w' = w.drewN q := by
  unfold maxLen at hn
  have e0 : ((n : Int) != (n : Int)) = false := by simp
  go_enter Tryd.func13, Tryd.ntmps13
  go_wp2
  go_loopw [5] (fun i wr => ∃ k q : Nat, k ≤ n ∧ i = .int .i64 k ∧ wr = w.drewN q) (fun i _ => n - (intOf i).toNat)
  case atStart => exact ⟨0, 0, Nat.zero_le _, rfl, rfl⟩
  case round =>
    obtain ⟨k, q, hk, rfl, rfl⟩ := hrel
    by_cases hlt : k < n
    · obtain ⟨b, o, x, rfl, _, hx, c0, c1, c2, c3, c4, c5⟩ := ha.get hlt
      obtain ⟨b2, o2, y, rfl, _, hy, d0, d1, d2, d3, d4, d5⟩ := hc.get hlt
      rw [hx] at hy
      injection hy with hy
      subst hy
      obtain ⟨f, c, l, r, less, v⟩ := x
      dsimp only at c0 c1 c2 c3 c4 c5 d0 d1 d2 d3 d4 d5
      have hneq := same_node f c l r less v
      clear hx
      go_wp2_with fail
      go_quiet (fail)
      go_wp2_with fail
      go_roundw
      case rel => exact ⟨k + 1, q + nq, by omega, by go_num, by first | rfl | rw [World.drewN_drewN]⟩
      case measure => simp [intOf]; omega
    · go_wp2
      go_ret
      exact ⟨rfl, q, rfl⟩
end Go.Proofs.YtefkjpcgcgofgaaDoor
/- orchsame.Grove of two groves that are the same. Conditions: both read as data. -/
namespace Go.Proofs.YtefkjpcgcgofgaaDoor
set_option linter.unusedVariables false
set_option linter.unusedSimpArgs false
open Go.RowKit

set_option maxRecDepth 100000 in
set_option maxHeartbeats 4000000 in
theorem sameGrove_any (g h : Gv) (w : World) (hg : GReads w w.heap.size g) (hh : GReads w w.heap.size h) (e1 : h.f = g.f) (e2 : h.way = g.way) (e3 : h.ws = g.ws) (e4 : h.trees = g.trees) :
    Calls Tryd.prog 16 #[g.val, h.val] w fun e w' => e = .returned (.bool true) ∧ Below w.heap.size w w' := by
  obtain ⟨f, way, Aw, nw, cw, ws, At, nt, ct, ts⟩ := g
  obtain ⟨f', way', Aw', nw', cw', ws', At', nt', ct', ts'⟩ := h
  dsimp only at e1 e2 e3
  subst e1
  subst e2
  subst e3
  have hgt := hg.ts
  have hht := hh.ts
  have hgw := hg.ws
  have hhw := hh.ws
  have hnw := hg.nw
  have hnw' := hh.nw
  have hnt := hg.nt
  dsimp only at hgt hht hgw hhw hnw hnw' hnt
  have hlt := hgt.len
  have hlt' := hht.len
  have e5 : nt' = nt := by
    have h1 := congrArg List.length e4
    rw [Gv.trees_len, Gv.trees_len] at h1
    have h2 : ts'.length = ts.length := h1
    omega
  subst e5
  have HT : Hid (∀ (k : Nat) r r', ts[k]? = some r → ts'[k]? = some r' → r'.l = r.l) := hide (fun k r r' h1 h2 => by
    have h3 := congrArg (fun l => l[k]?) e4
    have h4 : (ts'.map Tr.l)[k]? = (ts.map Tr.l)[k]? := h3
    rw [List.getElem?_map, List.getElem?_map, h1, h2] at h4
    simpa using h4)
  simp only [Gv.val]
  obtain ⟨W, hW, b1, b2, hWs, hb0⟩ : ∃ W, W = (w.alloc (.cells #[.int .i64 f', .int .i64 way', .slice Aw nw cw, .slice At nt' ct] 26)).alloc (.cells #[.int .i64 f', .int .i64 way', .slice Aw' nw' cw', .slice At' nt' ct'] 26) ∧
      Blk W w.heap.size 26 #[.int .i64 f', .int .i64 way', .slice Aw nw cw, .slice At nt' ct] ∧ Blk W (w.heap.size + 1) 26 #[.int .i64 f', .int .i64 way', .slice Aw' nw' cw', .slice At' nt' ct'] ∧ W.heap.size = w.heap.size + 1 + 1 ∧ Below w.heap.size w W := by
    refine ⟨_, rfl, (Blk.new _ _ _).alloc _, ?_, by simp, ((Below.refl _ _).alloc (Nat.le_refl _) _).alloc (by simp) _⟩
    have := Blk.new (w.alloc (.cells #[.int .i64 f', .int .i64 way', .slice Aw nw cw, .slice At nt' ct] 26)) 26 #[.int .i64 f', .int .i64 way', .slice Aw' nw' cw', .slice At' nt' ct']
    rwa [World.size_alloc] at this
  have c2 := b1.cell 2
  have d2 := b2.cell 2
  simp at c2 d2
  unfold maxLen at hnt
  clear e4 hg hh hlt hlt'
  go_enter Tryd.func16, Tryd.ntmps16
  go_wp2_with fail
  rw [← hW]
  clear hW
  go_wp2_with fail
  refine (ints_any Aw Aw' nw nw' cw cw' ws' ws' W w.heap.size w.heap.size (hgw.below hb0) (hhw.below hb0) hnw hnw').mono ?_
  rintro e w1 ⟨rfl, q1, hw1⟩
  rw [beq_self_eq_true]
  have hb1 : Below W.heap.size W w1 := by rw [hw1]; exact below_drewN (Below.refl _ _) _
  have b11 := b1.below hb1 (by omega)
  have b21 := b2.below hb1 (by omega)
  have hB1 := hb0.trans (hb1.mono hb0.size)
  clear hw1 hb1 b1 b2 c2 d2 hb0
  have c0 := b11.cell 0
  have c1 := b11.cell 1
  have c3 := b11.cell 3
  have d0 := b21.cell 0
  have d1 := b21.cell 1
  have d3 := b21.cell 3
  simp at c0 c1 c3 d0 d1 d3
  have e1 : (f' != f') = false := by simp
  have e2 : (way' != way') = false := by simp
  have e3 : ((nt' : Int) != (nt' : Int)) = false := by simp
  have hz1 : w.heap.size + 1 + 1 ≤ w1.heap.size := by have := b11.lt; have := b21.lt; omega
  go_wp2_with fail
  clear c0 c1 c3 d0 d1 d3 e1 e2 e3
  go_loopw [6] (fun i wr => ∃ k : Nat, k ≤ nt' ∧ i = .int .i64 k ∧ Blk wr w.heap.size 26 #[.int .i64 f', .int .i64 way', .slice Aw nw cw, .slice At nt' ct] ∧ Blk wr (w.heap.size + 1) 26 #[.int .i64 f', .int .i64 way', .slice Aw' nw' cw', .slice At' nt' ct'] ∧ Below w.heap.size w wr) (fun i _ => nt' - (intOf i).toNat)
  case atStart => exact ⟨0, Nat.zero_le _, rfl, b11, b21, hB1⟩
  case round =>
    clear b11 b21 hB1
    obtain ⟨k, hk, rfl, b11, b21, hbel⟩ := hrel
    have c3 := b11.cell 3
    have d3 := b21.cell 3
    simp at c3 d3
    by_cases hlk : k < nt'
    · obtain ⟨b, o, r, rfl, _, hx, hcx, hok⟩ := (hgt.below hbel).get hlk
      obtain ⟨b', o', r', rfl, _, hy, hcy, hok'⟩ := (hht.below hbel).get hlk
      have hl := unhide HT k r r' hx hy
      have hr1 := hok.reads
      have hr2 := hok'.reads
      have hln := hok.len
      rw [hl] at hr2
      obtain ⟨rA, rn, rc, rl⟩ := r
      obtain ⟨sA, sn, sc, sl⟩ := r'
      dsimp only at hcx hcy hr1 hr2 hl hln
      have hn1 := hr1.len
      have hn2 := hr2.len
      obtain rfl : sn = rn := by omega
      have HC := hide (sameNodes_any rA sA sn rc sc rl wr.drew w.heap.size w.heap.size (Reads.drew hr1) (Reads.drew hr2) hln)
      clear hx hy hok hok' hr1 hr2 hl hn1 hn2 hln
      go_wp2_with fail
      go_still_tail 10, (by kernel_rfl)
      go_wp2_with fail
      refine (unhide HC).mono ?_
      rintro e w3 ⟨rfl, q3, hw3⟩
      have hb3 : Below wr.heap.size wr w3 := by rw [hw3]; exact below_drewN ((Below.refl _ _).drew) _
      have b12 := b11.below hb3 b11.lt
      have b22 := b21.below hb3 b21.lt
      have hB3 := hbel.trans (hb3.mono hbel.size)
      clear hw3 hb3 HC b11 b21 hbel c3 d3 hcx hcy
      go_wp2_with fail
      go_roundw
      case rel => exact ⟨k + 1, by omega, by go_num, b12, b22, hB3⟩
      case measure => simp [intOf]; omega
    · obtain rfl : k = nt' := by omega
      go_wp2_with fail
      go_ret
      exact ⟨rfl, hbel⟩
end Go.Proofs.YtefkjpcgcgofgaaDoor
/- The references of chapter 3: Cell, none, Row. Conditions: a slice that reads as a list. -/
namespace Go.Proofs.YtefkjpcgcgofgaaDoor
set_option linter.unusedVariables false
set_option linter.unusedSimpArgs false
open Go.RowKit

theorem rcell_any (n : Int) (w : World) : Calls Tryd.prog 25 #[.int .i64 n] w fun e w' => e = .returned (.bool (cellB n)) ∧ w = w' := by
  by_cases h1 : -1000000 ≤ n
  · by_cases h2 : n ≤ 1000000
    · go_enter Tryd.func25, Tryd.ntmps25
      go_wp2
      go_ret
      exact ⟨by rw [cellB_t.2 ⟨h1, h2⟩]; rfl, rfl⟩
    · go_enter Tryd.func25, Tryd.ntmps25
      go_wp2
      go_ret
      exact ⟨by rw [cellB_f.2 (by omega)]; rfl, rfl⟩
  · go_enter Tryd.func25, Tryd.ntmps25
    go_wp2
    go_ret
    exact ⟨by rw [cellB_f.2 (by omega)]; rfl, rfl⟩

end Go.Proofs.YtefkjpcgcgofgaaDoor
/- The references of chapter 4: Depth, Tree, Ready, Left, Leaf. Conditions: a tree that reads as a list of nodes. -/
namespace Go.Proofs.YtefkjpcgcgofgaaDoor
set_option linter.unusedVariables false
set_option linter.unusedSimpArgs false
open Go.RowKit

theorem rdepth_any (A : Option Addr) (m d B : Nat) (t : List Nd) (hm : m ≤ 63) (hb : Behind t) : ∀ (k i : Nat) (w : World), m ≤ i + k → i < m → NReads w B A m t →
    Calls Tryd.prog 26 #[.slice A m d, .int .i64 i] w fun e w' => e = .returned (.int .i64 (dep t i)) ∧ w = w' := by
  intro k
  induction k with
  | zero => intro i w h1 h2; omega
  | succ k ih =>
    intro i w h1 h2 ht
    have hlt := ht.len
    obtain ⟨b, o, n, rfl, hbb, hn, g0, g1, g2, g3, g4, g5⟩ := ht.get h2
    have hda := dep_at hn (fun hf => (hb i n hn hf).1) (fun hf => (hb i n hn hf).2.2.1)
    by_cases hf : n.f = -1
    · rw [if_pos hf] at hda
      have HD := hide hda
      rw [hf] at g0
      clear hda hn hlt
      go_enter Tryd.func26, Tryd.ntmps26
      go_wp2_with fail
      go_ret
      exact ⟨ret_int (by rw [unhide HD]; rfl), rfl⟩
    · rw [if_neg hf] at hda
      obtain ⟨a1, a2, a3, a4⟩ := hb i n hn hf
      obtain ⟨ln, hln⟩ : ∃ ln : Nat, n.l = ln := ⟨n.l.toNat, by omega⟩
      obtain ⟨rn, hrn⟩ : ∃ rn : Nat, n.r = rn := ⟨n.r.toNat, by omega⟩
      rw [hln, hrn] at hda
      rw [hln] at a1 a2 g2
      rw [hrn] at a3 a4 g3
      have c1 := ih ln w (by omega) (by omega) ht
      have c2 := ih rn w (by omega) (by omega) ht
      have l1 := dep_le t ln
      have l2 := dep_le t rn
      simp only [Int.toNat_natCast] at hda
      generalize dep t ln = x at *
      generalize dep t rn = y at *
      have HD := hide hda
      have hq : (n.f == -1) = false := by simpa using hf
      clear hda hn hf ih
      by_cases hxy : x < y
      · go_enter Tryd.func26, Tryd.ntmps26
        go_wp2_with fail
        refine c1.mono ?_; rintro e w1 ⟨rfl, rfl⟩
        go_wp2_with fail
        refine c2.mono ?_; rintro e w1 ⟨rfl, rfl⟩
        clear c1 c2
        go_wp2_with fail
        go_ret
        exact ⟨ret_int (by rw [unhide HD]; omega), rfl⟩
      · go_enter Tryd.func26, Tryd.ntmps26
        go_wp2_with fail
        refine c1.mono ?_; rintro e w1 ⟨rfl, rfl⟩
        go_wp2_with fail
        refine c2.mono ?_; rintro e w1 ⟨rfl, rfl⟩
        clear c1 c2
        go_wp2_with fail
        go_ret
        exact ⟨ret_int (by rw [unhide HD]; omega), rfl⟩

end Go.Proofs.YtefkjpcgcgofgaaDoor
