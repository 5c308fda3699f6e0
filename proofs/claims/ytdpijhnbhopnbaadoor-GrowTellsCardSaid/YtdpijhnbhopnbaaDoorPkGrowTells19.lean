/- Part 19 of what LawGrowTells needs: Told, Told2, GrowT. Conditions: as each lemma names. -/
import Derived.Test.YtdpijhnbhopnbaaDoorPkGrowTells01
import Derived.LaidEql
import Derived.Stop.Asserts
import Derived.RowKitTokens
import Derived.Test.YtdpijhnbhopnbaaDoorPkGrowTells11
/- plain.Told and orchsame.Error: errors.As by its text at an error of the program's own (api.Errno) and at nil, over the model's entries for internal/reflectlite. Conditions: the error is nil or an Errno; the variable errors.errorType holds the handle of error. (Turned from the worked proof ToyasAs.) -/
namespace Go.Proofs.YtdpijhnbhopnbaaDoor
set_option linter.unusedVariables false
set_option linter.unusedSimpArgs false
open Go.RowKit Go.Extern.Stop Go.Stop Go.Extern

/-- what the laid variable gives -/
def ErrT (w : World) : Prop := w.cell? ⟨0, 0, none⟩ = some (.iface 93 (.agg #[.pointer (some ⟨1, 27, none⟩)]))
theorem ErrT.lt {w : World} (h : ErrT w) : 0 < w.heap.size := by
  rcases Nat.eq_zero_or_pos w.heap.size with h0 | h0
  · simp [ErrT, World.cell?, h0] at h
  · exact h0
theorem ErrT.below {w w' : World} {B : Nat} (h : ErrT w) (hb : Below B w w') (hB : 0 < B) : ErrT w' := (hb.cell (p := ⟨0, 0, none⟩) hB).trans h
theorem ErrT.alloc {w : World} (h : ErrT w) (o : Obj) : ErrT (w.alloc o) := (World.cell?_alloc_lt _ _ ⟨0, 0, none⟩ h.lt).trans h
theorem ErrT.drew {w : World} (h : ErrT w) : ErrT w.drew := h

theorem vo_p (t : Addr) (w : World) : (ReflectliteValue.unpack (.iface 62 (.pointer (some t)))).run Tryd.prog w
    = .ok (.agg #[.pointer (some ⟨1, 62, none⟩), .pointer (some ⟨w.heap.size, 0, none⟩), .int .u64 150]) (w.alloc (.cells #[.pointer (some t)] 62)) := by kernel_rfl
theorem ty_p (a : Addr) (w : World) : (ReflectliteValue.methodAny (ReflectliteValue.valueError "reflectlite.Value.Type" 0) (fun t _ _ _ => ReflectliteType.toType t) #[.agg #[.pointer (some ⟨1, 62, none⟩), .pointer (some a), .int .u64 150]]).run Tryd.prog w
    = .ok (.iface 93 (.agg #[.pointer (some ⟨1, 62, none⟩)])) w := by kernel_rfl
theorem m_kind (h : Value) (w : World) : (Go.method 79 93 (.agg #[h]) "Kind").run Tryd.prog w = .ok (88, h) w := by kernel_rfl
theorem k_p (w : World) : ((ReflectliteType.abiMethod fun t => (fun a : Nat => Value.int IntKind.u8 (a : Int)) <$> Rtype.kind t) #[.pointer (some ⟨1, 62, none⟩)]).run Tryd.prog w = .ok (.int .u8 22) w := by kernel_rfl
theorem k_e (w : World) : ((ReflectliteType.abiMethod fun t => (fun a : Nat => Value.int IntKind.u8 (a : Int)) <$> Rtype.kind t) #[.pointer (some ⟨1, 46, none⟩)]).run Tryd.prog w = .ok (.int .u8 2) w := by kernel_rfl
theorem rlm (z : Sem Value) (f : TypeId → Addr → Nat → Nat → Sem Value) (v : Value) :
    ReflectliteValue.method z f #[v] = (do match ← ReflectliteValue.parts v with | none => z | some (t, a, fl) => f t a fl (fl % 32)) := rfl
theorem pa_p (a : Addr) (w : World) : (ReflectliteValue.parts (.agg #[.pointer (some ⟨1, 62, none⟩), .pointer (some a), .int .u64 150])).run Tryd.prog w = .ok (some (62, a, 150)) w := by kernel_rfl
theorem nil_p (a p : Addr) (W : World) (ha : W.cell? a = some (.pointer (some p))) :
    (ReflectliteValue.method (ReflectliteValue.valueError "reflectlite.Value.IsNil" 0) ReflectliteValue.isNil #[.agg #[.pointer (some ⟨1, 62, none⟩), .pointer (some a), .int .u64 150]]).run Tryd.prog W = .ok (.bool false) W := by
  rw [rlm]
  simp only [Sem.run_bind, pa_p, Result.andThen]
  simp [ReflectliteValue.isNil, loadVar, isAgg, underlying, Tryd.underlying62, ha, Result.andThen]
theorem m_elem (h : Value) (w : World) : (Go.method 79 93 (.agg #[h]) "Elem").run Tryd.prog w = .ok (98, .agg #[h]) w := by kernel_rfl
theorem m_impl (h : Value) (w : World) : (Go.method 79 93 (.agg #[h]) "Implements").run Tryd.prog w = .ok (99, .agg #[h]) w := by kernel_rfl
theorem m_assi (h : Value) (w : World) : (Go.method 79 93 (.agg #[h]) "AssignableTo").run Tryd.prog w = .ok (96, .agg #[h]) w := by kernel_rfl
theorem el_p (w : World) : (ReflectliteType.method ReflectliteType.elem #[.agg #[.pointer (some ⟨1, 62, none⟩)]]).run Tryd.prog w = .ok (.iface 93 (.agg #[.pointer (some ⟨1, 46, none⟩)])) w := by kernel_rfl
theorem im_e (w : World) : (ReflectliteType.relation "Implements" ReflectliteType.implements_ #[.agg #[.pointer (some ⟨1, 46, none⟩)], .iface 93 (.agg #[.pointer (some ⟨1, 27, none⟩)])]).run Tryd.prog w = .ok (.bool true) w := by kernel_rfl
theorem to_e (v : Value) (w : World) : (ReflectliteType.typeOf #[.iface 46 v]).run Tryd.prog w = .ok (.iface 93 (.agg #[.pointer (some ⟨1, 46, none⟩)])) w := by kernel_rfl
theorem as_e (w : World) : (ReflectliteType.relation "AssignableTo" ReflectliteType.assignableTo #[.agg #[.pointer (some ⟨1, 46, none⟩)], .iface 93 (.agg #[.pointer (some ⟨1, 46, none⟩)])]).run Tryd.prog w = .ok (.bool true) w := by kernel_rfl
theorem vo_e (z : Int) (w : World) : (ReflectliteValue.unpack (.iface 46 (.int .i64 z))).run Tryd.prog w
    = .ok (.agg #[.pointer (some ⟨1, 46, none⟩), .pointer (some ⟨w.heap.size, 0, none⟩), .int .u64 130]) (w.alloc (.cells #[.int .i64 z] 46)) := by kernel_rfl
theorem eo_p (w : World) : (Rtype.elem? 62).run Tryd.prog w = .ok (some 46) w := by kernel_rfl
theorem mk_e (p : Addr) (w : World) : (ReflectliteValue.mk 46 p ReflectliteValue.flagAddr).run Tryd.prog w = .ok (.agg #[.pointer (some ⟨1, 46, none⟩), .pointer (some p), .int .u64 386]) w := by kernel_rfl
theorem ev_p (a p : Addr) (W : World) (ha : W.cell? a = some (.pointer (some p))) :
    (ReflectliteValue.method (ReflectliteValue.valueError "reflectlite.Value.Elem" 0) ReflectliteValue.elem #[.agg #[.pointer (some ⟨1, 62, none⟩), .pointer (some a), .int .u64 150]]).run Tryd.prog W
      = .ok (.agg #[.pointer (some ⟨1, 46, none⟩), .pointer (some p), .int .u64 386]) W := by
  rw [rlm]
  simp only [Sem.run_bind, pa_p, Result.andThen]
  simp [ReflectliteValue.elem, loadVar, isAgg, underlying, Tryd.underlying62, ha, Result.andThen, eo_p, mk_e]
theorem rls (v x : Value) : ReflectliteValue.set #[v, x] = (do
    let (some (dst, a, fl), some (src, b, _)) := (← ReflectliteValue.parts v, ← ReflectliteValue.parts x)
      | unsupported (.noEntry "extern/(internal/reflectlite.Value).Set.zeroValue")
    if fl / ReflectliteValue.flagAddr % 2 == 0 then unsupported (.noEntry "extern/(internal/reflectlite.Value).Set.unaddressable")
    let val ← loadVar src b
    if ← Rtype.directlyAssignable dst src then storeVar dst a val
    else if ← Rtype.implements dst src then
      if (← Rtype.kind src) == 20 then
        match val with
        | .nilIface => unsupported (.noEntry "extern/reflectlite: a nil value of one interface type handed on as a value of another")
        | _ => storeVar dst a val
      else storeVar dst a (.iface src val)
    else panicString ("reflectlite.Set: value of type " ++ (← Rtype.spelt src) ++ " is not assignable to type " ++ (← Rtype.spelt dst))
    pure (.tuple #[])) := rfl
theorem pa_a (a : Addr) (w : World) : (ReflectliteValue.parts (.agg #[.pointer (some ⟨1, 46, none⟩), .pointer (some a), .int .u64 386])).run Tryd.prog w = .ok (some (46, a, 386)) w := by kernel_rfl
theorem pa_e (a : Addr) (w : World) : (ReflectliteValue.parts (.agg #[.pointer (some ⟨1, 46, none⟩), .pointer (some a), .int .u64 130])).run Tryd.prog w = .ok (some (46, a, 130)) w := by kernel_rfl
theorem di_e (w : World) : (Rtype.directlyAssignable 46 46).run Tryd.prog w = .ok true w := by kernel_rfl
theorem set_e (ta b : Addr) (z : Int) (old : Value) (W : World) (hb : W.cell? b = some (.int .i64 z)) (ht : W.cell? ta = some old) (hf : W.frozen? ta = false) :
    (ReflectliteValue.set #[.agg #[.pointer (some ⟨1, 46, none⟩), .pointer (some ta), .int .u64 386], .agg #[.pointer (some ⟨1, 46, none⟩), .pointer (some b), .int .u64 130]]).run Tryd.prog W
      = .ok (.tuple #[]) (W.setCell ta (.int .i64 z)) := by
  rw [rls]
  simp only [Sem.run_bind, pa_a, pa_e, Result.andThen]
  simp [ReflectliteValue.flagAddr, loadVar, isAgg, underlying, Tryd.underlying46, hb, Result.andThen, di_e, storeVar, Value.cells, storeCells, Addr.add]
  rw [run_store Tryd.prog W ta _ _ (by rfl)]
  simp [ht, hf]
end Go.Proofs.YtdpijhnbhopnbaaDoor
/- plain.Told and orchsame.Error: errors.As at an Errno, then the two functions. Conditions: the error is nil or an Errno; the variable errors.errorType holds the handle of error. (Turned from the worked proof ToyasAs.) -/
namespace Go.Proofs.YtdpijhnbhopnbaaDoor
set_option linter.unusedVariables false
set_option linter.unusedSimpArgs false
open Go.RowKit Go.Extern.Stop Go.Stop Go.Extern

set_option maxHeartbeats 4000000 in
theorem as_hit (z : Int) (t : Addr) (old : Value) (w : World) (hg : ErrT w) (ht0 : w.cell? t = some old) (hf0 : w.frozen? t = false) :
    Calls Tryd.prog 33 #[.iface 46 (.int .i64 z), .iface 62 (.pointer (some t))] w fun ev w' => ev = .returned (.bool true) ∧ w' = ((((w.alloc (.cells #[.pointer (some t)] 62)).alloc (.cells #[.pointer (some ⟨1, 62, none⟩), .pointer (some ⟨w.heap.size, 0, none⟩), .int .u64 150] 76)).alloc (.cells #[.pointer (some ⟨1, 62, none⟩), .pointer (some ⟨w.heap.size, 0, none⟩), .int .u64 150] 76)).alloc (.cells #[.int .i64 z] 46)).setCell t (.int .i64 z) := by
  have h6 := @run_callFunc_extern Tryd.prog 43 _ (fun args => ReflectliteValue.unpack (args.getD 0 (.tuple #[]))) Tryd.func43 (by kernel_rfl) (by kernel_rfl) (by kernel_rfl) (by kernel_rfl)
  have h7 := @run_callFunc_extern Tryd.prog 44 _ (ReflectliteValue.methodAny (ReflectliteValue.valueError "reflectlite.Value.Type" 0) (fun t _ _ _ => ReflectliteType.toType t)) Tryd.func44 (by kernel_rfl) (by kernel_rfl) (by kernel_rfl) (by kernel_rfl)
  have h8 := @run_callFunc_extern Tryd.prog 45 _ (ReflectliteValue.method (ReflectliteValue.valueError "reflectlite.Value.IsNil" 0) ReflectliteValue.isNil) Tryd.func45 (by kernel_rfl) (by kernel_rfl) (by kernel_rfl) (by kernel_rfl)
  have h27 := @run_callFunc_extern Tryd.prog 88 _ (ReflectliteType.abiMethod fun t => do pure (.int .u8 (← Rtype.kind t))) Tryd.func88 (by kernel_rfl) (by kernel_rfl) (by kernel_rfl) (by kernel_rfl)
  have h37 := @run_callFunc_extern Tryd.prog 98 _ (ReflectliteType.method ReflectliteType.elem) Tryd.func98 (by kernel_rfl) (by kernel_rfl) (by kernel_rfl) (by kernel_rfl)
  have h38 := @run_callFunc_extern Tryd.prog 99 _ (ReflectliteType.relation "Implements" ReflectliteType.implements_) Tryd.func99 (by kernel_rfl) (by kernel_rfl) (by kernel_rfl) (by kernel_rfl)
  have h10 := @run_callFunc_extern Tryd.prog 52 _ ReflectliteType.typeOf Tryd.func52 (by kernel_rfl) (by kernel_rfl) (by kernel_rfl) (by kernel_rfl)
  have h35 := @run_callFunc_extern Tryd.prog 96 _ (ReflectliteType.relation "AssignableTo" ReflectliteType.assignableTo) Tryd.func96 (by kernel_rfl) (by kernel_rfl) (by kernel_rfl) (by kernel_rfl)
  have h11 := @run_callFunc_extern Tryd.prog 53 _ (ReflectliteValue.method (ReflectliteValue.valueError "reflectlite.Value.Elem" 0) ReflectliteValue.elem) Tryd.func53 (by kernel_rfl) (by kernel_rfl) (by kernel_rfl) (by kernel_rfl)
  have h12 := @run_callFunc_extern Tryd.prog 54 _ ReflectliteValue.set Tryd.func54 (by kernel_rfl) (by kernel_rfl) (by kernel_rfl) (by kernel_rfl)
  have tO := to_e
  have mA := m_assi
  have a25 := as_e
  have v25 := vo_e
  have f6 := vo_p
  have f7 := ty_p
  have mK := m_kind
  have mE := m_elem
  have mI := m_impl
  have k27 := k_p
  have k25 := k_e
  have e27 := el_p
  have i25 := im_e
  have n8 := nil_p ⟨w.heap.size, 0, none⟩ t ((w.alloc (.cells #[.pointer (some t)] 62)).alloc (.cells #[.pointer (some ⟨1, 62, none⟩), .pointer (some ⟨w.heap.size, 0, none⟩), .int .u64 150] 76)) (by simp)
  have hlt : 0 < w.heap.size := hg.lt
  have hg2 : ((w.alloc (.cells #[.pointer (some t)] 62)).alloc (.cells #[.pointer (some ⟨1, 62, none⟩), .pointer (some ⟨w.heap.size, 0, none⟩), .int .u64 150] 76)).cell? ⟨0, 0, none⟩ = some (.iface 93 (.agg #[.pointer (some ⟨1, 27, none⟩)])) := (hg.alloc _).alloc _
  have htl : t.block < w.heap.size := by
    rcases Nat.lt_or_ge t.block w.heap.size with h | h
    · exact h
    · simp [World.cell?, Array.getElem?_eq_none h] at ht0
  have el := ev_p ⟨w.heap.size, 0, none⟩ t (((w.alloc (.cells #[.pointer (some t)] 62)).alloc (.cells #[.pointer (some ⟨1, 62, none⟩), .pointer (some ⟨w.heap.size, 0, none⟩), .int .u64 150] 76)).alloc (.cells #[.pointer (some ⟨1, 62, none⟩), .pointer (some ⟨w.heap.size, 0, none⟩), .int .u64 150] 76)) (by rw [World.cell?_alloc_lt _ _ ⟨w.heap.size, 0, none⟩ (by simp; omega)]; simp)
  have st := set_e t ⟨w.heap.size + 1 + 1 + 1, 0, none⟩ z old ((((w.alloc (.cells #[.pointer (some t)] 62)).alloc (.cells #[.pointer (some ⟨1, 62, none⟩), .pointer (some ⟨w.heap.size, 0, none⟩), .int .u64 150] 76)).alloc (.cells #[.pointer (some ⟨1, 62, none⟩), .pointer (some ⟨w.heap.size, 0, none⟩), .int .u64 150] 76)).alloc (.cells #[.int .i64 z] 46))
    (by rw [World.cell?_alloc_at _ _ _ _ (by simp)]; rfl)
    (by rw [World.cell?_alloc_lt _ _ t (by simp; omega), World.cell?_alloc_lt _ _ t (by simp; omega), World.cell?_alloc_lt _ _ t (by simp; omega), World.cell?_alloc_lt _ _ t htl]; exact ht0)
    (by rw [World.frozen?_alloc_old _ _ t (by simp; omega), World.frozen?_alloc_old _ _ t (by simp; omega), World.frozen?_alloc_old _ _ t (by simp; omega), World.frozen?_alloc_old _ _ t (Nat.ne_of_lt htl)]; exact hf0)
  unfold ErrT at hg
  go_enter Tryd.func33, Tryd.ntmps33
  go_wp2
  refine wp_loop_rounds 1 ?_
  rw [rounds_succ]
  go_wp2
  go_ret
  exact ⟨rfl, rfl⟩

theorem told_nil (w : World) : Calls Tryd.prog 18 #[.nilIface] w fun e w' => e = .returned (.int .i64 0) ∧ w = w' := by
  go_enter Tryd.func18, Tryd.ntmps18
  go_wp2
  go_ret
  exact ⟨rfl, rfl⟩

theorem told_no (z : Int) (w : World) (hg : ErrT w) : Calls Tryd.prog 18 #[.iface 46 (.int .i64 z)] w fun e w' => e = .returned (.int .i64 z) ∧ Below w.heap.size w w' := by
  have hA := as_hit z ⟨w.heap.size, 0, none⟩ (.int .i64 0) (w.alloc (.cells #[.int .i64 0] 46)) (hg.alloc _) (by simp) (by simp)
  go_enter Tryd.func18, Tryd.ntmps18
  go_wp2_with fail
  refine hA.mono ?_
  clear hA
  rintro e w1 ⟨rfl, rfl⟩
  go_wp2_with fail
  go_ret
  exact ⟨rfl, by go_grown⟩

/-- any error of the program, told -/
theorem told_any (e : Int) (w : World) (hg : ErrT w) : Calls Tryd.prog 18 #[errV e] w fun r w' => r = .returned (.int .i64 e) ∧ Below w.heap.size w w' := by
  by_cases h : e = 0
  · rw [errV_0 h, h]
    refine (told_nil w).mono ?_
    rintro r w' ⟨rfl, rfl⟩
    exact ⟨rfl, Below.refl _ _⟩
  · rw [errV_1 h]; exact told_no e w hg

theorem error_any (e k : Int) (w : World) (hg : ErrT w) : Calls Tryd.prog 6 #[errV e, .int .i64 k] w fun r w' => r = .returned (.bool (e == k)) ∧ Below w.heap.size w w' := by
  go_enter Tryd.func6, Tryd.ntmps6
  go_wp2_with fail
  refine (told_any e w hg).mono ?_
  rintro r w1 ⟨rfl, hb1⟩
  go_wp2_with fail
  go_ret
  exact ⟨rfl, hb1⟩
end Go.Proofs.YtdpijhnbhopnbaaDoor
/- Package grow in plain words: two samples, a tree of them; what is told of samples with all targets a little more. Conditions: none. -/
namespace Go.Proofs.YtdpijhnbhopnbaaDoor
set_option linter.unusedVariables false
set_option linter.unusedSimpArgs false
open Go.RowKit

theorem sort_two {a b : Int} (h : a ≤ b) : sortL [a, b] = [a, b] := (sortL_of (List.Perm.refl _) (by simp [h])).symm
theorem compact_two : compactL [1, 2] = [1, 2] := by decide
theorem two_fit (A B : Option Addr) (c d : Nat) : fitE [⟨A, 1, c, [1], 5⟩, ⟨B, 1, d, [2], 9⟩] 1 1 1 = 0 ∧ fitT [⟨A, 1, c, [1], 5⟩, ⟨B, 1, d, [2], 9⟩] 1 1 1 = [⟨0, 2, 1, 2, false, 0⟩, ⟨-1, 0, 0, 0, false, 5⟩, ⟨-1, 0, 0, 0, false, 9⟩] := by
  have hE : fitE [⟨A, 1, c, [1], 5⟩, ⟨B, 1, d, [2], 9⟩] 1 1 1 = 0 := by kernel_rfl
  refine ⟨hE, ?_⟩
  unfold fitT
  rw [if_pos hE]
  have hc : cutsF [⟨A, 1, c, [1], 5⟩, ⟨B, 1, d, [2], 9⟩] 0 = [2] := by
    unfold cutsF
    rw [show [(⟨A, 1, c, [1], 5⟩ : Sm), ⟨B, 1, d, [2], 9⟩].map (cellS 0) = [1, 2] from rfl, sort_two (by omega), compact_two]
    rfl
  have hb : bestB [⟨A, 1, c, [1], 5⟩, ⟨B, 1, d, [2], 9⟩] 1 1 = ⟨0, 2, 106, 1⟩ := by
    show bestF _ 1 (startB _) 0 = _
    unfold bestF
    rw [hc]
    kernel_rfl
  show layK 0 (growK 1 1 1 _) = _
  simp only [growK]
  rw [hb]
  kernel_rfl

theorem leaf_v {ss : List Sm} {n : Nat} (hs : SRight ss n) : -1000 ≤ (leafG ss).v ∧ (leafG ss).v ≤ 1000 := by
  have h := sumM_le hs.tlo hs.thi
  have hp := hs.pos
  unfold leafG
  dsimp only
  have h0 : (0 : Int) < (ss.length : Int) := by omega
  constructor
  · rw [Int.le_ediv_iff_mul_le h0]; omega
  · have := (Int.ediv_le_iff_le_mul h0 (x := sumM ss) (y := 1000)).2 (by omega)
    exact this
theorem growK_v {n least : Nat} (hl : 1 ≤ least) : ∀ (d : Nat) (ss : List Sm) (k : Nat), SRight ss n → ∀ y ∈ layK k (growK n least d ss), -1000 ≤ y.v ∧ y.v ≤ 1000 := by
  intro d
  induction d with
  | zero =>
    intro ss k hs y hy
    simp only [growK, layK, List.mem_singleton] at hy
    subst hy
    exact leaf_v hs
  | succ d ih =>
    intro ss k hs y hy
    have hB := bestB_ok hs hl
    simp only [growK] at hy
    by_cases h : (bestB ss n least).f < 0
    · rw [if_pos h] at hy
      simp only [layK, List.mem_singleton] at hy
      subst hy
      exact leaf_v hs
    · rw [if_neg h] at hy
      obtain ⟨_, _, _, _, _, _, _, _, hz⟩ := hB
      rcases hz with hz | ⟨h1, h2⟩
      · exact absurd hz h
      simp only [layK, List.mem_cons, List.mem_append] at hy
      rcases hy with rfl | hy | hy
      · exact ⟨by dsimp only; omega, by dsimp only; omega⟩
      · exact ih _ _ (hs.low (by omega)) y hy
      · exact ih _ _ (hs.high (by omega)) y hy
theorem fit_parts {ss : List Sm} {fe depth least : Int} (h : fitE ss fe depth least = 0) : ∃ n : Nat, fe = n ∧ SRight ss n ∧ 1 ≤ least.toNat ∧ fitT ss fe depth least = layK 0 (growK n least.toNat depth.toNat ss) := by
  have h' := h
  unfold fitE at h
  by_cases h0 : sampE ss fe = 0
  · rw [if_pos h0] at h
    by_cases h1 : depth < 0 ∨ 5 < depth ∨ least < 1 ∨ 60 < least
    · rw [if_pos h1] at h; cases h
    · obtain ⟨n, hn, hs⟩ := samp_right h0
      refine ⟨n, hn, hs, by omega, ?_⟩
      unfold fitT
      rw [if_pos h', hn]
      rfl
  · rw [if_neg h0] at h; exact absurd h h0
theorem fit_v {ss : List Sm} {fe depth least : Int} (h : fitE ss fe depth least = 0) : ∀ y ∈ fitT ss fe depth least, -1000 ≤ y.v ∧ y.v ≤ 1000 := by
  obtain ⟨n, hn, hs, hl, e⟩ := fit_parts h
  rw [e]
  exact growK_v hl _ _ _ hs
theorem fit_len {ss : List Sm} {fe depth least : Int} (h : fitE ss fe depth least = 0) : (fitT ss fe depth least).length ≤ 1000000 := by
  obtain ⟨n, hn, hs, hl, e⟩ := fit_parts h
  have h' := h
  unfold fitE at h
  rw [e, layK_len]
  have := growK_size n least.toNat depth.toNat ss
  have hd : depth.toNat ≤ 5 := by
    by_cases h0 : sampE ss fe = 0
    · rw [if_pos h0] at h
      by_cases h1 : depth < 0 ∨ 5 < depth ∨ least < 1 ∨ 60 < least
      · rw [if_pos h1] at h; cases h
      · omega
    · rw [if_neg h0] at h; exact absurd h h0
  have hp : 2 ^ (depth.toNat + 1) ≤ 2 ^ 6 := Nat.pow_le_pow_right (by omega) (by omega)
  omega
theorem fitT_sh {ss : List Sm} {fe depth least b : Int} (h : fitE ss fe depth least = 0) (h2 : fitE (ss.map (shS b)) fe depth least = 0) : fitT (ss.map (shS b)) fe depth least = (fitT ss fe depth least).map (shN b) := by
  obtain ⟨n, hn, hs, hl, e⟩ := fit_parts h
  obtain ⟨n', hn', hs', _, e'⟩ := fit_parts h2
  obtain rfl : n = n' := by omega
  rw [e, e', growK_sh hl _ _ hs, layK_sh b _ _ (growK_ok _ _ _ _)]
theorem fitE_samp {ss m : List Sm} {fe depth least : Int} (h : fitE ss fe depth least = 0) (h2 : fitE m fe depth least ≠ 0) : sampE m fe ≠ 0 := by
  intro e
  unfold fitE at h h2
  rw [if_pos e] at h2
  by_cases h0 : sampE ss fe = 0
  · rw [if_pos h0] at h; exact h2 h
  · rw [if_neg h0] at h; exact absurd h h0
theorem shS_next {b : Int} {ss : List Sm} {k : Nat} {s : Sm} (h : ss[k]? = some s) : (ss.take (k + 1)).map (shS b) = (ss.take k).map (shS b) ++ [shS b s] := by rw [take_next h, List.map_append]; rfl
end Go.Proofs.YtdpijhnbhopnbaaDoor
