/- Part 34 of what LawFlatTells needs: SameNd, SameGr, Told. Conditions: as each lemma names. -/
import Derived.Test.YtcneacooedefjaaDoorPkFlatTells05
import Derived.Laws.StructEq
import Derived.Test.YtcneacooedefjaaDoorPkFlatTells20
import Derived.StillTailTactics
import Derived.Test.YtcneacooedefjaaDoorPkFlatTells02
import Derived.LaidEql
import Derived.Stop.Asserts
import Derived.RowKitTokens
/- orchsame.Nodes of two trees that are the same. Conditions: arguments read as nodes. -/
namespace Go.Proofs.YtcneacooedefjaaDoor
set_option linter.unusedVariables false
set_option linter.unusedSimpArgs false
open Go.RowKit

def ndEq (a b : Nd) : Bool := a.f == b.f && a.c == b.c && a.l == b.l && a.r == b.r && a.less == b.less && a.v == b.v
theorem ndEq_t {a b : Nd} : ndEq a b = true ↔ a = b := by
  obtain ⟨a0, a1, a2, a3, a4, a5⟩ := a
  obtain ⟨b0, b1, b2, b3, b4, b5⟩ := b
  simp [ndEq, and_assoc]
set_option maxRecDepth 100000 in
theorem neq_node (a b : Nd) (W : World) : (binOp .neq 41 (.agg #[.int .i64 a.f, .int .i64 a.c, .int .i64 a.l, .int .i64 a.r, .bool a.less, .int .i64 a.v]) (.agg #[.int .i64 b.f, .int .i64 b.c, .int .i64 b.l, .int .i64 b.r, .bool b.less, .int .i64 b.v])).run Tryd.prog W = .ok (.bool (!(ndEq a b))) W := by
  have u := Tryd.underlying41
  have ui := Tryd.underlying3
  have ub := Tryd.underlying4
  rw [run_neq_struct, run_equalIn_agg _ _ _ _ _ (by unfold Program.fieldsOf; rw [u]) (by kernel_rfl)]
  simp only [Program.fieldsOf, u]
  simp [Op.eqFields, part, go_sem, ui, ub]
  unfold ndEq
  by_cases h0 : a.f = b.f <;> by_cases h1 : a.c = b.c <;> by_cases h2 : a.l = b.l <;> by_cases h3 : a.r = b.r <;> by_cases h4 : a.less = b.less <;> by_cases h5 : a.v = b.v <;> simp [h0, h1, h2, h3, h4, h5]
theorem same_node (f c l r : Int) (less : Bool) (v : Int) (W : World) : (binOp .neq 41 (.agg #[.int .i64 f, .int .i64 c, .int .i64 l, .int .i64 r, .bool less, .int .i64 v]) (.agg #[.int .i64 f, .int .i64 c, .int .i64 l, .int .i64 r, .bool less, .int .i64 v])).run Tryd.prog W = .ok (.bool false) W := by
  have := neq_node ⟨f, c, l, r, less, v⟩ ⟨f, c, l, r, less, v⟩ W
  rw [ndEq_t.2 rfl] at this
  exact this
set_option maxRecDepth 100000 in
set_option maxHeartbeats 1000000 in
theorem sameNodes_any (A C : Option Addr) (n ca cc : Nat) (xs : List Nd) (w : World) (BA BC : Nat) (ha : NReads w BA A n xs) (hc : NReads w BC C n xs) (hn : n ≤ maxLen) :
    Calls Tryd.prog 22 #[.slice A n ca, .slice C n cc] w fun e w' => e = .returned (.bool true) ∧ ∃ q, w' = w.drewN q := by
  unfold maxLen at hn
  have e0 : ((n : Int) != (n : Int)) = false := by simp
  go_enter Tryd.func22, Tryd.ntmps22
  go_wp2
  go_loopw [5] (fun i wr => ∃ k q : Nat, k ≤ n ∧ i = .int .i64 k ∧ wr = w.drewN q) (fun i _ => n - (intOf i).toNat)
  case atStart => exact ⟨0, 0, Nat.zero_le _, rfl, rfl⟩
  case round =>
    obtain ⟨k, q, hk, rfl, rfl⟩ := hrel
    by_cases hlt : k < n
    · obtain ⟨b, o, x, rfl, _, hx, c0, c1, c2, c3, c4, c5⟩ := ha.get hlt
      obtain ⟨b2, o2, y, rfl, _, hy, d0, d1, d2, d3, d4, d5⟩ := hc.get hlt
      rw [hx] at hy
      injection hy with hy
      subst hy
      obtain ⟨f, c, l, r, less, v⟩ := x
      dsimp only at c0 c1 c2 c3 c4 c5 d0 d1 d2 d3 d4 d5
      have hneq := same_node f c l r less v
      clear hx
      go_wp2_with fail
      go_quiet (fail)
      go_wp2_with fail
      go_roundw
      case rel => exact ⟨k + 1, q + nq, by omega, by go_num, by first | rfl | rw [World.drewN_drewN]⟩
      case measure => simp [intOf]; omega
    · go_wp2
      go_ret
      exact ⟨rfl, q, rfl⟩
end Go.Proofs.YtcneacooedefjaaDoor
/- orchsame.Grove of two groves that are the same. Conditions: both read as data. -/
namespace Go.Proofs.YtcneacooedefjaaDoor
set_option linter.unusedVariables false
set_option linter.unusedSimpArgs false
open Go.RowKit

set_option maxRecDepth 100000 in
set_option maxHeartbeats 4000000 in
theorem sameGrove_any (g h : Gv) (w : World) (hg : GReads w w.heap.size g) (hh : GReads w w.heap.size h) (e1 : h.f = g.f) (e2 : h.way = g.way) (e3 : h.ws = g.ws) (e4 : h.trees = g.trees) :
    Calls Tryd.prog 8 #[g.val, h.val] w fun e w' => e = .returned (.bool true) ∧ Below w.heap.size w w' := by
  obtain ⟨f, way, Aw, nw, cw, ws, At, nt, ct, ts⟩ := g
  obtain ⟨f', way', Aw', nw', cw', ws', At', nt', ct', ts'⟩ := h
  dsimp only at e1 e2 e3
  subst e1
  subst e2
  subst e3
  have hgt := hg.ts
  have hht := hh.ts
  have hgw := hg.ws
  have hhw := hh.ws
  have hnw := hg.nw
  have hnw' := hh.nw
  have hnt := hg.nt
  dsimp only at hgt hht hgw hhw hnw hnw' hnt
  have hlt := hgt.len
  have hlt' := hht.len
  have e5 : nt' = nt := by
    have h1 := congrArg List.length e4
    rw [Gv.trees_len, Gv.trees_len] at h1
    have h2 : ts'.length = ts.length := h1
    omega
  subst e5
  have HT : Hid (∀ (k : Nat) r r', ts[k]? = some r → ts'[k]? = some r' → r'.l = r.l) := hide (fun k r r' h1 h2 => by
    have h3 := congrArg (fun l => l[k]?) e4
    have h4 : (ts'.map Tr.l)[k]? = (ts.map Tr.l)[k]? := h3
    rw [List.getElem?_map, List.getElem?_map, h1, h2] at h4
    simpa using h4)
  simp only [Gv.val]
  obtain ⟨W, hW, b1, b2, hWs, hb0⟩ : ∃ W, W = (w.alloc (.cells #[.int .i64 f', .int .i64 way', .slice Aw nw cw, .slice At nt' ct] 25)).alloc (.cells #[.int .i64 f', .int .i64 way', .slice Aw' nw' cw', .slice At' nt' ct'] 25) ∧
      Blk W w.heap.size 25 #[.int .i64 f', .int .i64 way', .slice Aw nw cw, .slice At nt' ct] ∧ Blk W (w.heap.size + 1) 25 #[.int .i64 f', .int .i64 way', .slice Aw' nw' cw', .slice At' nt' ct'] ∧ W.heap.size = w.heap.size + 1 + 1 ∧ Below w.heap.size w W := by
    refine ⟨_, rfl, (Blk.new _ _ _).alloc _, ?_, by simp, ((Below.refl _ _).alloc (Nat.le_refl _) _).alloc (by simp) _⟩
    have := Blk.new (w.alloc (.cells #[.int .i64 f', .int .i64 way', .slice Aw nw cw, .slice At nt' ct] 25)) 25 #[.int .i64 f', .int .i64 way', .slice Aw' nw' cw', .slice At' nt' ct']
    rwa [World.size_alloc] at this
  have c2 := b1.cell 2
  have d2 := b2.cell 2
  simp at c2 d2
  unfold maxLen at hnt
  clear e4 hg hh hlt hlt'
  go_enter Tryd.func8, Tryd.ntmps8
  go_wp2_with fail
  rw [← hW]
  clear hW
  go_wp2_with fail
  refine (ints_any Aw Aw' nw nw' cw cw' ws' ws' W w.heap.size w.heap.size (hgw.below hb0) (hhw.below hb0) hnw hnw').mono ?_
  rintro e w1 ⟨rfl, q1, hw1⟩
  rw [beq_self_eq_true]
  have hb1 : Below W.heap.size W w1 := by rw [hw1]; exact below_drewN (Below.refl _ _) _
  have b11 := b1.below hb1 (by omega)
  have b21 := b2.below hb1 (by omega)
  have hB1 := hb0.trans (hb1.mono hb0.size)
  clear hw1 hb1 b1 b2 c2 d2 hb0
  have c0 := b11.cell 0
  have c1 := b11.cell 1
  have c3 := b11.cell 3
  have d0 := b21.cell 0
  have d1 := b21.cell 1
  have d3 := b21.cell 3
  simp at c0 c1 c3 d0 d1 d3
  have e1 : (f' != f') = false := by simp
  have e2 : (way' != way') = false := by simp
  have e3 : ((nt' : Int) != (nt' : Int)) = false := by simp
  have hz1 : w.heap.size + 1 + 1 ≤ w1.heap.size := by have := b11.lt; have := b21.lt; omega
  go_wp2_with fail
  clear c0 c1 c3 d0 d1 d3 e1 e2 e3
  go_loopw [6] (fun i wr => ∃ k : Nat, k ≤ nt' ∧ i = .int .i64 k ∧ Blk wr w.heap.size 25 #[.int .i64 f', .int .i64 way', .slice Aw nw cw, .slice At nt' ct] ∧ Blk wr (w.heap.size + 1) 25 #[.int .i64 f', .int .i64 way', .slice Aw' nw' cw', .slice At' nt' ct'] ∧ Below w.heap.size w wr) (fun i _ => nt' - (intOf i).toNat)
  case atStart => exact ⟨0, Nat.zero_le _, rfl, b11, b21, hB1⟩
  case round =>
    clear b11 b21 hB1
    obtain ⟨k, hk, rfl, b11, b21, hbel⟩ := hrel
    have c3 := b11.cell 3
    have d3 := b21.cell 3
    simp at c3 d3
    by_cases hlk : k < nt'
    · obtain ⟨b, o, r, rfl, _, hx, hcx, hok⟩ := (hgt.below hbel).get hlk
      obtain ⟨b', o', r', rfl, _, hy, hcy, hok'⟩ := (hht.below hbel).get hlk
      have hl := unhide HT k r r' hx hy
      have hr1 := hok.reads
      have hr2 := hok'.reads
      have hln := hok.len
      rw [hl] at hr2
      obtain ⟨rA, rn, rc, rl⟩ := r
      obtain ⟨sA, sn, sc, sl⟩ := r'
      dsimp only at hcx hcy hr1 hr2 hl hln
      have hn1 := hr1.len
      have hn2 := hr2.len
      obtain rfl : sn = rn := by omega
      have HC := hide (sameNodes_any rA sA sn rc sc rl wr.drew w.heap.size w.heap.size (Reads.drew hr1) (Reads.drew hr2) hln)
      clear hx hy hok hok' hr1 hr2 hl hn1 hn2 hln
      go_wp2_with fail
      go_still_tail 10, (by kernel_rfl)
      go_wp2_with fail
      refine (unhide HC).mono ?_
      rintro e w3 ⟨rfl, q3, hw3⟩
      have hb3 : Below wr.heap.size wr w3 := by rw [hw3]; exact below_drewN ((Below.refl _ _).drew) _
      have b12 := b11.below hb3 b11.lt
      have b22 := b21.below hb3 b21.lt
      have hB3 := hbel.trans (hb3.mono hbel.size)
      clear hw3 hb3 HC b11 b21 hbel c3 d3 hcx hcy
      go_wp2_with fail
      go_roundw
      case rel => exact ⟨k + 1, by omega, by go_num, b12, b22, hB3⟩
      case measure => simp [intOf]; omega
    · obtain rfl : k = nt' := by omega
      go_wp2_with fail
      go_ret
      exact ⟨rfl, hbel⟩
end Go.Proofs.YtcneacooedefjaaDoor
/- plain.Told and orchsame.Error: errors.As by its text at an error of the program's own (api.Errno) and at nil, over the model's entries for internal/reflectlite. Conditions: the error is nil or an Errno; the variable errors.errorType holds the handle of error. (Turned from the worked proof ToyasAs.) -/
namespace Go.Proofs.YtcneacooedefjaaDoor
set_option linter.unusedVariables false
set_option linter.unusedSimpArgs false
open Go.RowKit Go.Extern.Stop Go.Stop Go.Extern

/-- what the laid variable gives -/
def ErrT (w : World) : Prop := w.cell? ⟨0, 0, none⟩ = some (.iface 117 (.agg #[.pointer (some ⟨1, 28, none⟩)]))
theorem ErrT.lt {w : World} (h : ErrT w) : 0 < w.heap.size := by
  rcases Nat.eq_zero_or_pos w.heap.size with h0 | h0
  · simp [ErrT, World.cell?, h0] at h
  · exact h0
theorem ErrT.below {w w' : World} {B : Nat} (h : ErrT w) (hb : Below B w w') (hB : 0 < B) : ErrT w' := (hb.cell (p := ⟨0, 0, none⟩) hB).trans h
theorem ErrT.alloc {w : World} (h : ErrT w) (o : Obj) : ErrT (w.alloc o) := (World.cell?_alloc_lt _ _ ⟨0, 0, none⟩ h.lt).trans h
theorem ErrT.drew {w : World} (h : ErrT w) : ErrT w.drew := h

theorem vo_p (t : Addr) (w : World) : (ReflectliteValue.unpack (.iface 79 (.pointer (some t)))).run Tryd.prog w
    = .ok (.agg #[.pointer (some ⟨1, 79, none⟩), .pointer (some ⟨w.heap.size, 0, none⟩), .int .u64 150]) (w.alloc (.cells #[.pointer (some t)] 79)) := by kernel_rfl
theorem ty_p (a : Addr) (w : World) : (ReflectliteValue.methodAny (ReflectliteValue.valueError "reflectlite.Value.Type" 0) (fun t _ _ _ => ReflectliteType.toType t) #[.agg #[.pointer (some ⟨1, 79, none⟩), .pointer (some a), .int .u64 150]]).run Tryd.prog w
    = .ok (.iface 117 (.agg #[.pointer (some ⟨1, 79, none⟩)])) w := by kernel_rfl
theorem m_kind (h : Value) (w : World) : (Go.method 104 117 (.agg #[h]) "Kind").run Tryd.prog w = .ok (91, h) w := by kernel_rfl
theorem k_p (w : World) : ((ReflectliteType.abiMethod fun t => (fun a : Nat => Value.int IntKind.u8 (a : Int)) <$> Rtype.kind t) #[.pointer (some ⟨1, 79, none⟩)]).run Tryd.prog w = .ok (.int .u8 22) w := by kernel_rfl
theorem k_e (w : World) : ((ReflectliteType.abiMethod fun t => (fun a : Nat => Value.int IntKind.u8 (a : Int)) <$> Rtype.kind t) #[.pointer (some ⟨1, 57, none⟩)]).run Tryd.prog w = .ok (.int .u8 2) w := by kernel_rfl
theorem rlm (z : Sem Value) (f : TypeId → Addr → Nat → Nat → Sem Value) (v : Value) :
    ReflectliteValue.method z f #[v] = (do match ← ReflectliteValue.parts v with | none => z | some (t, a, fl) => f t a fl (fl % 32)) := rfl
theorem pa_p (a : Addr) (w : World) : (ReflectliteValue.parts (.agg #[.pointer (some ⟨1, 79, none⟩), .pointer (some a), .int .u64 150])).run Tryd.prog w = .ok (some (79, a, 150)) w := by kernel_rfl
theorem nil_p (a p : Addr) (W : World) (ha : W.cell? a = some (.pointer (some p))) :
    (ReflectliteValue.method (ReflectliteValue.valueError "reflectlite.Value.IsNil" 0) ReflectliteValue.isNil #[.agg #[.pointer (some ⟨1, 79, none⟩), .pointer (some a), .int .u64 150]]).run Tryd.prog W = .ok (.bool false) W := by
  rw [rlm]
  simp only [Sem.run_bind, pa_p, Result.andThen]
  simp [ReflectliteValue.isNil, loadVar, isAgg, underlying, Tryd.underlying79, ha, Result.andThen]
theorem m_elem (h : Value) (w : World) : (Go.method 104 117 (.agg #[h]) "Elem").run Tryd.prog w = .ok (101, .agg #[h]) w := by kernel_rfl
theorem m_impl (h : Value) (w : World) : (Go.method 104 117 (.agg #[h]) "Implements").run Tryd.prog w = .ok (102, .agg #[h]) w := by kernel_rfl
theorem m_assi (h : Value) (w : World) : (Go.method 104 117 (.agg #[h]) "AssignableTo").run Tryd.prog w = .ok (99, .agg #[h]) w := by kernel_rfl
theorem el_p (w : World) : (ReflectliteType.method ReflectliteType.elem #[.agg #[.pointer (some ⟨1, 79, none⟩)]]).run Tryd.prog w = .ok (.iface 117 (.agg #[.pointer (some ⟨1, 57, none⟩)])) w := by kernel_rfl
theorem im_e (w : World) : (ReflectliteType.relation "Implements" ReflectliteType.implements_ #[.agg #[.pointer (some ⟨1, 57, none⟩)], .iface 117 (.agg #[.pointer (some ⟨1, 28, none⟩)])]).run Tryd.prog w = .ok (.bool true) w := by kernel_rfl
theorem to_e (v : Value) (w : World) : (ReflectliteType.typeOf #[.iface 57 v]).run Tryd.prog w = .ok (.iface 117 (.agg #[.pointer (some ⟨1, 57, none⟩)])) w := by kernel_rfl
theorem as_e (w : World) : (ReflectliteType.relation "AssignableTo" ReflectliteType.assignableTo #[.agg #[.pointer (some ⟨1, 57, none⟩)], .iface 117 (.agg #[.pointer (some ⟨1, 57, none⟩)])]).run Tryd.prog w = .ok (.bool true) w := by kernel_rfl
theorem vo_e (z : Int) (w : World) : (ReflectliteValue.unpack (.iface 57 (.int .i64 z))).run Tryd.prog w
    = .ok (.agg #[.pointer (some ⟨1, 57, none⟩), .pointer (some ⟨w.heap.size, 0, none⟩), .int .u64 130]) (w.alloc (.cells #[.int .i64 z] 57)) := by kernel_rfl
theorem eo_p (w : World) : (Rtype.elem? 79).run Tryd.prog w = .ok (some 57) w := by kernel_rfl
theorem mk_e (p : Addr) (w : World) : (ReflectliteValue.mk 57 p ReflectliteValue.flagAddr).run Tryd.prog w = .ok (.agg #[.pointer (some ⟨1, 57, none⟩), .pointer (some p), .int .u64 386]) w := by kernel_rfl
theorem ev_p (a p : Addr) (W : World) (ha : W.cell? a = some (.pointer (some p))) :
    (ReflectliteValue.method (ReflectliteValue.valueError "reflectlite.Value.Elem" 0) ReflectliteValue.elem #[.agg #[.pointer (some ⟨1, 79, none⟩), .pointer (some a), .int .u64 150]]).run Tryd.prog W
      = .ok (.agg #[.pointer (some ⟨1, 57, none⟩), .pointer (some p), .int .u64 386]) W := by
  rw [rlm]
  simp only [Sem.run_bind, pa_p, Result.andThen]
  simp [ReflectliteValue.elem, loadVar, isAgg, underlying, Tryd.underlying79, ha, Result.andThen, eo_p, mk_e]
theorem rls (v x : Value) : ReflectliteValue.set #[v, x] = (do
    let (some (dst, a, fl), some (src, b, _)) := (← ReflectliteValue.parts v, ← ReflectliteValue.parts x)
      | unsupported (.noEntry "extern/(internal/reflectlite.Value).Set.zeroValue")
    if fl / ReflectliteValue.flagAddr % 2 == 0 then unsupported (.noEntry "extern/(internal/reflectlite.Value).Set.unaddressable")
    let val ← loadVar src b
    if ← Rtype.directlyAssignable dst src then storeVar dst a val
    else if ← Rtype.implements dst src then
      if (← Rtype.kind src) == 20 then
        match val with
        | .nilIface => unsupported (.noEntry "extern/reflectlite: a nil value of one interface type handed on as a value of another")
        | _ => storeVar dst a val
      else storeVar dst a (.iface src val)
    else panicString ("reflectlite.Set: value of type " ++ (← Rtype.spelt src) ++ " is not assignable to type " ++ (← Rtype.spelt dst))
    pure (.tuple #[])) := rfl
theorem pa_a (a : Addr) (w : World) : (ReflectliteValue.parts (.agg #[.pointer (some ⟨1, 57, none⟩), .pointer (some a), .int .u64 386])).run Tryd.prog w = .ok (some (57, a, 386)) w := by kernel_rfl
theorem pa_e (a : Addr) (w : World) : (ReflectliteValue.parts (.agg #[.pointer (some ⟨1, 57, none⟩), .pointer (some a), .int .u64 130])).run Tryd.prog w = .ok (some (57, a, 130)) w := by kernel_rfl
theorem di_e (w : World) : (Rtype.directlyAssignable 57 57).run Tryd.prog w = .ok true w := by kernel_rfl
theorem set_e (ta b : Addr) (z : Int) (old : Value) (W : World) (hb : W.cell? b = some (.int .i64 z)) (ht : W.cell? ta = some old) (hf : W.frozen? ta = false) :
    (ReflectliteValue.set #[.agg #[.pointer (some ⟨1, 57, none⟩), .pointer (some ta), .int .u64 386], .agg #[.pointer (some ⟨1, 57, none⟩), .pointer (some b), .int .u64 130]]).run Tryd.prog W
      = .ok (.tuple #[]) (W.setCell ta (.int .i64 z)) := by
  rw [rls]
  simp only [Sem.run_bind, pa_a, pa_e, Result.andThen]
  simp [ReflectliteValue.flagAddr, loadVar, isAgg, underlying, Tryd.underlying57, hb, Result.andThen, di_e, storeVar, Value.cells, storeCells, Addr.add]
  rw [run_store Tryd.prog W ta _ _ (by rfl)]
  simp [ht, hf]
end Go.Proofs.YtcneacooedefjaaDoor
