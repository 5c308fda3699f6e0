/- orchsame.Nodes, Grove, Spans: contracts. Conditions: arguments read as data. -/
import Derived.Test.YtliacpdbeghmlaaDoorGroveOps
import Derived.Laws.StructEq
namespace Go.Proofs.YtliacpdbeghmlaaDoor
set_option linter.unusedVariables false
set_option linter.unusedSimpArgs false
open Go.RowKit

def ndEq (a b : Nd) : Bool := a.f == b.f && a.c == b.c && a.l == b.l && a.r == b.r && a.less == b.less && a.v == b.v
theorem ndEq_t {a b : Nd} : ndEq a b = true ↔ a = b := by
  obtain ⟨a0, a1, a2, a3, a4, a5⟩ := a
  obtain ⟨b0, b1, b2, b3, b4, b5⟩ := b
  simp [ndEq, and_assoc]
set_option maxRecDepth 100000 in
theorem neq_node (a b : Nd) (W : World) : (binOp .neq 33 (.agg #[.int .i64 a.f, .int .i64 a.c, .int .i64 a.l, .int .i64 a.r, .bool a.less, .int .i64 a.v]) (.agg #[.int .i64 b.f, .int .i64 b.c, .int .i64 b.l, .int .i64 b.r, .bool b.less, .int .i64 b.v])).run Tryd.prog W = .ok (.bool (!(ndEq a b))) W := by
  have u := Tryd.underlying33
  have ui := Tryd.underlying3
  have ub := Tryd.underlying4
  rw [run_neq_struct, run_equalIn_agg _ _ _ _ _ (by unfold Program.fieldsOf; rw [u]) (by kernel_rfl)]
  simp only [Program.fieldsOf, u]
  simp [Op.eqFields, part, go_sem, ui, ub]
  unfold ndEq
  by_cases h0 : a.f = b.f <;> by_cases h1 : a.c = b.c <;> by_cases h2 : a.l = b.l <;> by_cases h3 : a.r = b.r <;> by_cases h4 : a.less = b.less <;> by_cases h5 : a.v = b.v <;> simp [h0, h1, h2, h3, h4, h5]
theorem same_node (f c l r : Int) (less : Bool) (v : Int) (W : World) : (binOp .neq 33 (.agg #[.int .i64 f, .int .i64 c, .int .i64 l, .int .i64 r, .bool less, .int .i64 v]) (.agg #[.int .i64 f, .int .i64 c, .int .i64 l, .int .i64 r, .bool less, .int .i64 v])).run Tryd.prog W = .ok (.bool false) W := by
  have := neq_node ⟨f, c, l, r, less, v⟩ ⟨f, c, l, r, less, v⟩ W
  rw [ndEq_t.2 rfl] at this
  exact this
set_option maxRecDepth 100000 in
set_option maxHeartbeats 1000000 in
theorem sameNodes_any (A C : Option Addr) (n ca cc : Nat) (xs : List Nd) (w : World) (BA BC : Nat) (ha : NReads w BA A n xs) (hc : NReads w BC C n xs) (hn : n ≤ maxLen) :
    Calls Tryd.prog 43 #[.slice A n ca, .slice C n cc] w fun e w' => e = .returned (.bool true) ∧ ∃ q, w' = w.drewN q := by
  unfold maxLen at hn
  have e0 : ((n : Int) != (n : Int)) = false := by simp
  go_enter Tryd.func43, Tryd.ntmps43
  go_wp2
  go_loopw [5] (fun i wr => ∃ k q : Nat, k ≤ n ∧ i = .int .i64 k ∧ wr = w.drewN q) (fun i _ => n - (Lib.intOf i).toNat)
  case atStart => exact ⟨0, 0, Nat.zero_le _, rfl, rfl⟩
  case round =>
    obtain ⟨k, q, hk, rfl, rfl⟩ := hrel
    by_cases hlt : k < n
    · obtain ⟨b, o, x, rfl, _, hx, c0, c1, c2, c3, c4, c5⟩ := ha.get hlt
      obtain ⟨b2, o2, y, rfl, _, hy, d0, d1, d2, d3, d4, d5⟩ := hc.get hlt
      rw [hx] at hy
      injection hy with hy
      subst hy
      obtain ⟨f, c, l, r, less, v⟩ := x
      dsimp only at c0 c1 c2 c3 c4 c5 d0 d1 d2 d3 d4 d5
      have hneq := same_node f c l r less v
      clear hx
      go_wp2_with fail
      go_quiet (fail)
      go_wp2_with fail
      go_roundw
      case rel => exact ⟨k + 1, q + nq, by omega, by go_num, by first | rfl | rw [World.drewN_drewN]⟩
      case measure => simp [Lib.intOf]; omega
    · go_wp2
      go_ret
      exact ⟨rfl, q, rfl⟩
theorem quiet_drewN {P : Program} {f : FuncId} {args : Array Value} {w : World} {n : Nat} {v : Value}
    (h : Calls P f args (w.drewN n) fun e w' => e = .returned v ∧ ∃ q, w' = (w.drewN n).drewN q) : Calls P f args (w.drewN n) fun e w' => e = .returned v ∧ ∃ m, w' = w.drewN m :=
  h.mono fun _ _ ⟨he, q, hq⟩ => ⟨he, n + q, by rw [hq, World.drewN_drewN]⟩
theorem TReads.drewN {w : World} {B n : Nat} {A : Option Addr} {ts : List Tr} (h : TReads w B A n ts) (q : Nat) : TReads (w.drewN q) B A n ts := ⟨h.1.drewN q, fun r hr => ⟨(h.2 r hr).reads.drewN q, (h.2 r hr).len, (h.2 r hr).nil⟩⟩

set_option maxRecDepth 100000 in
set_option maxHeartbeats 2000000 in
theorem sameGrove_any (g h : Gv) (w : World) (hg : GReads w w.heap.size g) (hh : GReads w w.heap.size h) (h1 : g.f = h.f) (h2 : g.way = h.way) (h3 : g.ws = h.ws) (h4 : g.trees = h.trees) :
    Calls Tryd.prog 27 #[g.val, h.val] w fun e w' => e = .returned (.bool true) ∧ Below w.heap.size w w' := by
  obtain ⟨f, way, Aw, nw, cw, ws, At, nt, ct, ts⟩ := g
  obtain ⟨f', way', Aw', nw', cw', ws', At', nt', ct', ts'⟩ := h
  dsimp only at h1 h2 h3
  subst h1 h2 h3
  have hlen : nt = nt' := by
    have e1 := hg.ts.len
    have e2 := hh.ts.len
    have e3 := congrArg List.length h4
    simp [Gv.trees] at e3
    dsimp only at e1 e2
    omega
  have hwl : nw = nw' := by have e1 := hg.ws.len; have e2 := hh.ws.len; dsimp only at e1 e2; omega
  subst hlen hwl
  obtain ⟨W, hW, bg, bo, hWs, hb0⟩ : ∃ W, W = (w.alloc (.cells #[.int .i64 f, .int .i64 way, .slice Aw nw cw, .slice At nt ct] 45)).alloc (.cells #[.int .i64 f, .int .i64 way, .slice Aw' nw cw', .slice At' nt ct'] 45) ∧
      Blk W w.heap.size 45 #[.int .i64 f, .int .i64 way, .slice Aw nw cw, .slice At nt ct] ∧ Blk W (w.heap.size + 1) 45 #[.int .i64 f, .int .i64 way, .slice Aw' nw cw', .slice At' nt ct'] ∧ W.heap.size = w.heap.size + 1 + 1 ∧ Below w.heap.size w W := by
    refine ⟨_, rfl, (Blk.new _ _ _).alloc _, ?_, by simp, ((Below.refl _ _).alloc (Nat.le_refl _) _).alloc (by simp) _⟩
    have := Blk.new (w.alloc (.cells #[.int .i64 f, .int .i64 way, .slice Aw nw cw, .slice At nt ct] 45)) 45 #[.int .i64 f, .int .i64 way, .slice Aw' nw cw', .slice At' nt ct']
    rwa [World.size_alloc] at this
  obtain ⟨x0, x1, x2, x3⟩ := bg.cells4
  obtain ⟨y0, y1, y2, y3⟩ := bo.cells4
  have hnw := hg.nw
  have hnt := hg.nt
  have hin := hide (ints_any Aw Aw' nw nw cw cw' ws ws W _ _ (hg.ws.below hb0) (hh.ws.below hb0) hnw hnw)
  have htg := hg.ts.below hb0
  have hth := hh.ts.below hb0
  have HTR : Hid (∀ (k : Nat) r r', ts[k]? = some r → ts'[k]? = some r' → r.l = r'.l) := hide (fun k r r' e1 e2 => by
    have q1 : (ts.map Tr.l)[k]? = some r.l := by rw [List.getElem?_map, e1]; rfl
    have q2 : (ts'.map Tr.l)[k]? = some r'.l := by rw [List.getElem?_map, e2]; rfl
    have h4' : ts.map Tr.l = ts'.map Tr.l := h4
    rw [h4', q2] at q1
    injection q1 with q1
    exact q1.symm)
  dsimp only at htg hth hnt
  unfold maxLen at hnt
  clear hg hh h4 hnw
  have e1 : (f != f) = false := by simp
  have e2 : (way != way) = false := by simp
  have e3 : ((nt : Int) != (nt : Int)) = false := by simp
  simp only [Gv.val]
  go_enter Tryd.func27, Tryd.ntmps27
  go_wp2_with fail
  rw [← hW]
  clear hW
  refine (unhide hin).mono ?_
  rintro e w1 ⟨rfl, q1, rfl⟩
  rw [beq_self_eq_true]
  clear hin
  go_wp2_with fail
  go_loopw [6] (fun i wr => ∃ k q : Nat, k ≤ nt ∧ i = .int .i64 k ∧ wr = W.drewN q) (fun i _ => nt - (Lib.intOf i).toNat)
  case atStart => exact ⟨0, q1, Nat.zero_le _, rfl, rfl⟩
  case round =>
    obtain ⟨k, q, hk, rfl, rfl⟩ := hrel
    by_cases hlt : k < nt
    · obtain ⟨b, o, r, rfl, _, hx, hcx, hok⟩ := htg.get hlt
      obtain ⟨b2, o2, r', rfl, _, hx', hcx', hok'⟩ := hth.get hlt
      have hll := unhide HTR k r r' hx hx'
      have hr1 := hok.reads
      have hr2 := hok'.reads
      have hn1 := hok.len
      rw [← hll] at hr2
      have hnn : r.n = r'.n := by rw [← hr1.len, ← hr2.len]
      obtain ⟨rA, rn, rc, rl⟩ := r
      obtain ⟨rA', rn', rc', rl'⟩ := r'
      dsimp only at hcx hcx' hr1 hr2 hn1 hnn
      subst hnn
      have hcon := hide (fun (m : Nat) => sameNodes_any rA rA' rn rc rc' rl (W.drewN m) _ _ (Reads.drewN hr1 m) (Reads.drewN hr2 m) hn1)
      clear hx hx' hll hok hok' hr1 hr2
      go_wp2_with fail
      go_quiet ((go_at_call 43; exact quiet_add (unhide hcon _)))
      go_wp2_with fail
      go_roundw
      case rel => exact ⟨k + 1, q + nq, by omega, by go_num, by first | rfl | rw [World.drewN_drewN]⟩
      case measure => simp [Lib.intOf]; omega
    · go_wp2_with fail
      go_ret
      exact ⟨rfl, below_drewN hb0 q⟩
end Go.Proofs.YtliacpdbeghmlaaDoor
