/- Part 35 of what LawLimitTells needs: StepLen, Upto, Told, Told2. Conditions: as each lemma names. -/
import Derived.Test.YtafaedhjlmkamaaGreatDoorPkLimitTells30
import Derived.Test.YtafaedhjlmkamaaGreatDoorPkLimitTells29
import Derived.Test.YtafaedhjlmkamaaGreatDoorPkLimitTells11
import Derived.Test.YtafaedhjlmkamaaGreatDoorPkLimitTells02
import Derived.LaidEql
import Derived.Stop.Asserts
import Derived.RowKitTokens
/- How many cuts of a feature a tree has; a walk depends on what is below the cuts alone. Plain. Conditions: as each lemma names. -/
namespace Go.Proofs.YtafaedhjlmkamaaGreatDoor
set_option linter.unusedVariables false
set_option linter.unusedSimpArgs false
open Go.RowKit

theorem asks_len (fe : Int) (h : fe ≠ -1) : ∀ t : List Nd, (cutsOf t fe).length + nLeaf t ≤ t.length := by
  intro t
  induction t with
  | nil => exact Nat.le_refl _
  | cons n r ih =>
    have hn : nLeaf (n :: r) = (if n.f = -1 then 1 else 0) + nLeaf r := rfl
    rw [hn]
    unfold cutsOf at *
    rw [List.filter_cons]
    by_cases h1 : n.f = fe
    · have h2 : (n.f == fe) = true := by simpa using h1
      rw [h2, if_pos rfl, if_neg (by omega)]
      simp only [List.map_cons, List.length_cons] at ih ⊢
      omega
    · have h2 : (n.f == fe) = false := by simpa using h1
      rw [h2]
      simp only [Bool.false_eq_true, if_false, List.length_cons]
      split <;> omega
theorem cuts_mem {t : List Nd} {fe x : Int} : x ∈ cutsOf t fe ↔ ∃ n ∈ t, n.f = fe ∧ n.c = x := by
  unfold cutsOf
  rw [List.mem_map]
  constructor
  · rintro ⟨n, hn, rfl⟩
    obtain ⟨h1, h2⟩ := List.mem_filter.1 hn
    exact ⟨n, h1, by simpa using h2, rfl⟩
  · rintro ⟨n, hn, h1, h2⟩
    exact ⟨n, List.mem_filter.2 ⟨hn, by simpa using h1⟩, h2⟩
theorem stepC_spec (t : List Nd) (fe : Int) : (stepC t fe).Pairwise (· < ·) ∧ ∀ x, x ∈ stepC t fe ↔ ∃ n ∈ t, n.f = fe ∧ n.c = x := by
  unfold stepC
  obtain ⟨h1, h2⟩ := compactL_sorted (sortL_sorted (cutsOf t fe))
  exact ⟨h1, fun x => by rw [h2, (sortL_perm _).mem_iff, cuts_mem]⟩
theorem stepC_len {t : List Nd} {n : Nat} (hR : Right t n) (fe : Int) (h : fe ≠ -1) : (stepC t fe).length ≤ 31 := by
  have h1 := compactL_len (sortL (cutsOf t fe))
  rw [sortL_len] at h1
  have h2 := asks_len fe h t
  have h3 := hR.halves
  have h4 := hR.most
  unfold stepC
  omega
theorem leaf_same {t : List Nd} {r s : List Int} (h : ∀ (i : Nat) n, t[i]? = some n → n.f ≠ -1 → goes n (cellAt r n.f) = goes n (cellAt s n.f)) : ∀ (F i : Nat), leafFrom t r F i = leafFrom t s F i := by
  intro F
  induction F with
  | zero => intro i; rfl
  | succ F ih =>
    intro i
    cases hn : t[i]? with
    | none => simp only [leafFrom, hn]
    | some n =>
      by_cases hf : n.f = -1
      · rw [leafFrom_leaf hn hf, leafFrom_leaf hn hf]
      · rw [leafFrom_step hn hf, leafFrom_step hn hf]
        have : nextOf n (cellAt r n.f) = nextOf n (cellAt s n.f) := by unfold nextOf; rw [h i n hn hf]
        rw [this, ih]
theorem cellAt_self {r : List Int} {f : Nat} (h : f < r.length) (c : Int) : cellAt (r.set f c) (f : Int) = c := by
  unfold cellAt
  rw [Int.toNat_natCast, List.getD_eq_getElem?_getD, List.getElem?_set_self h]
  rfl
/-- below all cuts it is as below all cuts -/
theorem step_low {t : List Nd} {row : List Int} {n f : Nat} (hR : Right t n) (hl : row.length = n) (hf : f < n) : valOf t (row.set f (-2000000)) = valOf t (row.set f (-1000001)) := by
  unfold valOf leafOf
  rw [leaf_same (r := row.set f (-2000000)) (s := row.set f (-1000001))]
  intro i m hi hmf
  by_cases he : m.f = f
  · rw [he, cellAt_self (by omega), cellAt_self (by omega)]
    unfold goes
    rw [if_neg (by decide), if_neg (by decide)]
    rcases node_of (hR.node i m hi) with h3 | h3
    · exact absurd h3.1 hmf
    · have := h3.2.2.1
      rw [Bool.eq_iff_iff]; simp; omega
  · rw [cellAt_set (hR.asks i m hi hmf).1 he, cellAt_set (hR.asks i m hi hmf).1 he]
theorem stepV_low {t : List Nd} {row : List Int} {n f : Nat} (hR : Right t n) (hl : row.length = n) (hf : f < n) (cs : List Int) : stepV t row f cs = valOf t (row.set f (-2000000)) :: cs.map fun c => valOf t (row.set f c) := by
  unfold stepV; rw [step_low hR hl hf]
theorem stepsE_0 {t : List Nd} {row : List Int} {fe : Int} (h : stepsE t row fe = 0) : Right t row.length ∧ 0 ≤ fe ∧ fe < row.length ∧ readyE t row = 0 := by
  unfold stepsE at h
  by_cases h0 : readyE t row = 0
  · rw [if_pos h0] at h
    by_cases h1 : fe < 0
    · rw [if_pos h1] at h; cases h
    · rw [if_neg h1] at h
      by_cases h2 : (row.length : Int) ≤ fe
      · rw [if_pos h2] at h; cases h
      · refine ⟨?_, by omega, by omega, h0⟩
        unfold readyE at h0
        by_cases h3 : rowE row = 0
        · rw [if_pos h3] at h0; exact right_of h0
        · rw [if_neg h3] at h0; exact absurd h0 h3
  · rw [if_neg h0] at h; exact absurd h h0
end Go.Proofs.YtafaedhjlmkamaaGreatDoor
/- A list without what stands twice side by side, step by step. Plain. Conditions: as each lemma names. -/
namespace Go.Proofs.YtafaedhjlmkamaaGreatDoor
set_option linter.unusedVariables false
set_option linter.unusedSimpArgs false


def uptoL (s : List Int) (k : Nat) : List Int := Lib.compactUpTo s.toArray k
theorem uptoL_zero (s : List Int) : uptoL s 0 = [] := by simp [uptoL, Lib.compactUpTo]
theorem uptoL_len (s : List Int) : ∀ k, (uptoL s k).length ≤ k := by
  intro k
  unfold uptoL Lib.compactUpTo
  rw [List.length_map]
  exact Nat.le_trans (List.length_filter_le _ _) (by simp)
theorem uptoL_first {s : List Int} {x : Int} (h : s[0]? = some x) : uptoL s 1 = [x] := by
  have := Lib.compactUpTo_succ s.toArray 0
  unfold uptoL
  rw [this]
  cases s with
  | nil => cases h
  | cons y r => simp at h; subst h; simp [Lib.compactUpTo, Lib.keeps]
theorem get_bang {s : List Int} {k : Nat} {x : Int} (h : s[k]? = some x) : s.toArray[k]! = x := by
  obtain ⟨hk, e⟩ := List.getElem?_eq_some_iff.1 h
  simp [hk, e]
theorem uptoL_take {s : List Int} {k : Nat} {x y : Int} (hx : s[k + 1]? = some x) (hy : s[k]? = some y) (h : x ≠ y) : uptoL s (k + 1 + 1) = uptoL s (k + 1) ++ [x] := by
  unfold uptoL
  rw [Lib.compactUpTo_succ, if_pos (Lib.keeps_pos (by rw [get_bang hx, Nat.add_sub_cancel, get_bang hy]; exact h)), get_bang hx]
theorem uptoL_skip {s : List Int} {k : Nat} {x y : Int} (hx : s[k + 1]? = some x) (hy : s[k]? = some y) (h : x = y) : uptoL s (k + 1 + 1) = uptoL s (k + 1) := by
  unfold uptoL
  rw [Lib.compactUpTo_succ, Lib.keeps_neg (by omega) (by rw [get_bang hx, Nat.add_sub_cancel, get_bang hy]; exact h)]
  simp
theorem uptoL_all (s : List Int) : uptoL s s.length = compactL s := rfl

end Go.Proofs.YtafaedhjlmkamaaGreatDoor
/- plain.Told and orchsame.Error: errors.As by its text at an error of the program's own (api.Errno) and at nil, over the model's entries for internal/reflectlite. Conditions: the error is nil or an Errno; the variable errors.errorType holds the handle of error. (Turned from the worked proof ToyasAs.) -/
namespace Go.Proofs.YtafaedhjlmkamaaGreatDoor
set_option linter.unusedVariables false
set_option linter.unusedSimpArgs false
open Go.RowKit Go.Extern.Stop Go.Stop Go.Extern

/-- what the laid variable gives -/
def ErrT (w : World) : Prop := w.cell? ⟨0, 0, none⟩ = some (.iface 128 (.agg #[.pointer (some ⟨1, 34, none⟩)]))
theorem ErrT.lt {w : World} (h : ErrT w) : 0 < w.heap.size := by
  rcases Nat.eq_zero_or_pos w.heap.size with h0 | h0
  · simp [ErrT, World.cell?, h0] at h
  · exact h0
theorem ErrT.below {w w' : World} {B : Nat} (h : ErrT w) (hb : Below B w w') (hB : 0 < B) : ErrT w' := (hb.cell (p := ⟨0, 0, none⟩) hB).trans h
theorem ErrT.alloc {w : World} (h : ErrT w) (o : Obj) : ErrT (w.alloc o) := (World.cell?_alloc_lt _ _ ⟨0, 0, none⟩ h.lt).trans h
theorem ErrT.drew {w : World} (h : ErrT w) : ErrT w.drew := h

theorem vo_p (t : Addr) (w : World) : (ReflectliteValue.unpack (.iface 78 (.pointer (some t)))).run Tryz.prog w
    = .ok (.agg #[.pointer (some ⟨1, 78, none⟩), .pointer (some ⟨w.heap.size, 0, none⟩), .int .u64 150]) (w.alloc (.cells #[.pointer (some t)] 78)) := by kernel_rfl
theorem ty_p (a : Addr) (w : World) : (ReflectliteValue.methodAny (ReflectliteValue.valueError "reflectlite.Value.Type" 0) (fun t _ _ _ => ReflectliteType.toType t) #[.agg #[.pointer (some ⟨1, 78, none⟩), .pointer (some a), .int .u64 150]]).run Tryz.prog w
    = .ok (.iface 128 (.agg #[.pointer (some ⟨1, 78, none⟩)])) w := by kernel_rfl
theorem m_kind (h : Value) (w : World) : (Go.method 98 128 (.agg #[h]) "Kind").run Tryz.prog w = .ok (113, h) w := by kernel_rfl
theorem k_p (w : World) : ((ReflectliteType.abiMethod fun t => (fun a : Nat => Value.int IntKind.u8 (a : Int)) <$> Rtype.kind t) #[.pointer (some ⟨1, 78, none⟩)]).run Tryz.prog w = .ok (.int .u8 22) w := by kernel_rfl
theorem k_e (w : World) : ((ReflectliteType.abiMethod fun t => (fun a : Nat => Value.int IntKind.u8 (a : Int)) <$> Rtype.kind t) #[.pointer (some ⟨1, 62, none⟩)]).run Tryz.prog w = .ok (.int .u8 2) w := by kernel_rfl
theorem rlm (z : Sem Value) (f : TypeId → Addr → Nat → Nat → Sem Value) (v : Value) :
    ReflectliteValue.method z f #[v] = (do match ← ReflectliteValue.parts v with | none => z | some (t, a, fl) => f t a fl (fl % 32)) := rfl
theorem pa_p (a : Addr) (w : World) : (ReflectliteValue.parts (.agg #[.pointer (some ⟨1, 78, none⟩), .pointer (some a), .int .u64 150])).run Tryz.prog w = .ok (some (78, a, 150)) w := by kernel_rfl
theorem nil_p (a p : Addr) (W : World) (ha : W.cell? a = some (.pointer (some p))) :
    (ReflectliteValue.method (ReflectliteValue.valueError "reflectlite.Value.IsNil" 0) ReflectliteValue.isNil #[.agg #[.pointer (some ⟨1, 78, none⟩), .pointer (some a), .int .u64 150]]).run Tryz.prog W = .ok (.bool false) W := by
  rw [rlm]
  simp only [Sem.run_bind, pa_p, Result.andThen]
  simp [ReflectliteValue.isNil, loadVar, isAgg, underlying, Tryz.underlying78, ha, Result.andThen]
theorem m_elem (h : Value) (w : World) : (Go.method 98 128 (.agg #[h]) "Elem").run Tryz.prog w = .ok (123, .agg #[h]) w := by kernel_rfl
theorem m_impl (h : Value) (w : World) : (Go.method 98 128 (.agg #[h]) "Implements").run Tryz.prog w = .ok (124, .agg #[h]) w := by kernel_rfl
theorem m_assi (h : Value) (w : World) : (Go.method 98 128 (.agg #[h]) "AssignableTo").run Tryz.prog w = .ok (121, .agg #[h]) w := by kernel_rfl
theorem el_p (w : World) : (ReflectliteType.method ReflectliteType.elem #[.agg #[.pointer (some ⟨1, 78, none⟩)]]).run Tryz.prog w = .ok (.iface 128 (.agg #[.pointer (some ⟨1, 62, none⟩)])) w := by kernel_rfl
theorem im_e (w : World) : (ReflectliteType.relation "Implements" ReflectliteType.implements_ #[.agg #[.pointer (some ⟨1, 62, none⟩)], .iface 128 (.agg #[.pointer (some ⟨1, 34, none⟩)])]).run Tryz.prog w = .ok (.bool true) w := by kernel_rfl
theorem to_e (v : Value) (w : World) : (ReflectliteType.typeOf #[.iface 62 v]).run Tryz.prog w = .ok (.iface 128 (.agg #[.pointer (some ⟨1, 62, none⟩)])) w := by kernel_rfl
theorem as_e (w : World) : (ReflectliteType.relation "AssignableTo" ReflectliteType.assignableTo #[.agg #[.pointer (some ⟨1, 62, none⟩)], .iface 128 (.agg #[.pointer (some ⟨1, 62, none⟩)])]).run Tryz.prog w = .ok (.bool true) w := by kernel_rfl
theorem vo_e (z : Int) (w : World) : (ReflectliteValue.unpack (.iface 62 (.int .i64 z))).run Tryz.prog w
    = .ok (.agg #[.pointer (some ⟨1, 62, none⟩), .pointer (some ⟨w.heap.size, 0, none⟩), .int .u64 130]) (w.alloc (.cells #[.int .i64 z] 62)) := by kernel_rfl
theorem eo_p (w : World) : (Rtype.elem? 78).run Tryz.prog w = .ok (some 62) w := by kernel_rfl
theorem mk_e (p : Addr) (w : World) : (ReflectliteValue.mk 62 p ReflectliteValue.flagAddr).run Tryz.prog w = .ok (.agg #[.pointer (some ⟨1, 62, none⟩), .pointer (some p), .int .u64 386]) w := by kernel_rfl
theorem ev_p (a p : Addr) (W : World) (ha : W.cell? a = some (.pointer (some p))) :
    (ReflectliteValue.method (ReflectliteValue.valueError "reflectlite.Value.Elem" 0) ReflectliteValue.elem #[.agg #[.pointer (some ⟨1, 78, none⟩), .pointer (some a), .int .u64 150]]).run Tryz.prog W
      = .ok (.agg #[.pointer (some ⟨1, 62, none⟩), .pointer (some p), .int .u64 386]) W := by
  rw [rlm]
  simp only [Sem.run_bind, pa_p, Result.andThen]
  simp [ReflectliteValue.elem, loadVar, isAgg, underlying, Tryz.underlying78, ha, Result.andThen, eo_p, mk_e]
theorem rls (v x : Value) : ReflectliteValue.set #[v, x] = (do
    let (some (dst, a, fl), some (src, b, _)) := (← ReflectliteValue.parts v, ← ReflectliteValue.parts x)
      | unsupported (.noEntry "extern/(internal/reflectlite.Value).Set.zeroValue")
    if fl / ReflectliteValue.flagAddr % 2 == 0 then unsupported (.noEntry "extern/(internal/reflectlite.Value).Set.unaddressable")
    let val ← loadVar src b
    if ← Rtype.directlyAssignable dst src then storeVar dst a val
    else if ← Rtype.implements dst src then
      if (← Rtype.kind src) == 20 then
        match val with
        | .nilIface => unsupported (.noEntry "extern/reflectlite: a nil value of one interface type handed on as a value of another")
        | _ => storeVar dst a val
      else storeVar dst a (.iface src val)
    else panicString ("reflectlite.Set: value of type " ++ (← Rtype.spelt src) ++ " is not assignable to type " ++ (← Rtype.spelt dst))
    pure (.tuple #[])) := rfl
theorem pa_a (a : Addr) (w : World) : (ReflectliteValue.parts (.agg #[.pointer (some ⟨1, 62, none⟩), .pointer (some a), .int .u64 386])).run Tryz.prog w = .ok (some (62, a, 386)) w := by kernel_rfl
theorem pa_e (a : Addr) (w : World) : (ReflectliteValue.parts (.agg #[.pointer (some ⟨1, 62, none⟩), .pointer (some a), .int .u64 130])).run Tryz.prog w = .ok (some (62, a, 130)) w := by kernel_rfl
theorem di_e (w : World) : (Rtype.directlyAssignable 62 62).run Tryz.prog w = .ok true w := by kernel_rfl
theorem set_e (ta b : Addr) (z : Int) (old : Value) (W : World) (hb : W.cell? b = some (.int .i64 z)) (ht : W.cell? ta = some old) (hf : W.frozen? ta = false) :
    (ReflectliteValue.set #[.agg #[.pointer (some ⟨1, 62, none⟩), .pointer (some ta), .int .u64 386], .agg #[.pointer (some ⟨1, 62, none⟩), .pointer (some b), .int .u64 130]]).run Tryz.prog W
      = .ok (.tuple #[]) (W.setCell ta (.int .i64 z)) := by
  rw [rls]
  simp only [Sem.run_bind, pa_a, pa_e, Result.andThen]
  simp [ReflectliteValue.flagAddr, loadVar, isAgg, underlying, Tryz.underlying62, hb, Result.andThen, di_e, storeVar, Value.cells, storeCells, Addr.add]
  rw [run_store Tryz.prog W ta _ _ (by rfl)]
  simp [ht, hf]
end Go.Proofs.YtafaedhjlmkamaaGreatDoor
/- plain.Told and orchsame.Error: errors.As at an Errno, then the two functions. Conditions: the error is nil or an Errno; the variable errors.errorType holds the handle of error. (Turned from the worked proof ToyasAs.) -/
namespace Go.Proofs.YtafaedhjlmkamaaGreatDoor
set_option linter.unusedVariables false
set_option linter.unusedSimpArgs false
open Go.RowKit Go.Extern.Stop Go.Stop Go.Extern

set_option maxHeartbeats 4000000 in
theorem as_hit (z : Int) (t : Addr) (old : Value) (w : World) (hg : ErrT w) (ht0 : w.cell? t = some old) (hf0 : w.frozen? t = false) :
    Calls Tryz.prog 44 #[.iface 62 (.int .i64 z), .iface 78 (.pointer (some t))] w fun ev w' => ev = .returned (.bool true) ∧ w' = ((((w.alloc (.cells #[.pointer (some t)] 78)).alloc (.cells #[.pointer (some ⟨1, 78, none⟩), .pointer (some ⟨w.heap.size, 0, none⟩), .int .u64 150] 95)).alloc (.cells #[.pointer (some ⟨1, 78, none⟩), .pointer (some ⟨w.heap.size, 0, none⟩), .int .u64 150] 95)).alloc (.cells #[.int .i64 z] 62)).setCell t (.int .i64 z) := by
  have h6 := @run_callFunc_extern Tryz.prog 62 _ (fun args => ReflectliteValue.unpack (args.getD 0 (.tuple #[]))) Tryz.func62 (by kernel_rfl) (by kernel_rfl) (by kernel_rfl) (by kernel_rfl)
  have h7 := @run_callFunc_extern Tryz.prog 63 _ (ReflectliteValue.methodAny (ReflectliteValue.valueError "reflectlite.Value.Type" 0) (fun t _ _ _ => ReflectliteType.toType t)) Tryz.func63 (by kernel_rfl) (by kernel_rfl) (by kernel_rfl) (by kernel_rfl)
  have h8 := @run_callFunc_extern Tryz.prog 64 _ (ReflectliteValue.method (ReflectliteValue.valueError "reflectlite.Value.IsNil" 0) ReflectliteValue.isNil) Tryz.func64 (by kernel_rfl) (by kernel_rfl) (by kernel_rfl) (by kernel_rfl)
  have h27 := @run_callFunc_extern Tryz.prog 113 _ (ReflectliteType.abiMethod fun t => do pure (.int .u8 (← Rtype.kind t))) Tryz.func113 (by kernel_rfl) (by kernel_rfl) (by kernel_rfl) (by kernel_rfl)
  have h37 := @run_callFunc_extern Tryz.prog 123 _ (ReflectliteType.method ReflectliteType.elem) Tryz.func123 (by kernel_rfl) (by kernel_rfl) (by kernel_rfl) (by kernel_rfl)
  have h38 := @run_callFunc_extern Tryz.prog 124 _ (ReflectliteType.relation "Implements" ReflectliteType.implements_) Tryz.func124 (by kernel_rfl) (by kernel_rfl) (by kernel_rfl) (by kernel_rfl)
  have h10 := @run_callFunc_extern Tryz.prog 86 _ ReflectliteType.typeOf Tryz.func86 (by kernel_rfl) (by kernel_rfl) (by kernel_rfl) (by kernel_rfl)
  have h35 := @run_callFunc_extern Tryz.prog 121 _ (ReflectliteType.relation "AssignableTo" ReflectliteType.assignableTo) Tryz.func121 (by kernel_rfl) (by kernel_rfl) (by kernel_rfl) (by kernel_rfl)
  have h11 := @run_callFunc_extern Tryz.prog 87 _ (ReflectliteValue.method (ReflectliteValue.valueError "reflectlite.Value.Elem" 0) ReflectliteValue.elem) Tryz.func87 (by kernel_rfl) (by kernel_rfl) (by kernel_rfl) (by kernel_rfl)
  have h12 := @run_callFunc_extern Tryz.prog 88 _ ReflectliteValue.set Tryz.func88 (by kernel_rfl) (by kernel_rfl) (by kernel_rfl) (by kernel_rfl)
  have tO := to_e
  have mA := m_assi
  have a25 := as_e
  have v25 := vo_e
  have f6 := vo_p
  have f7 := ty_p
  have mK := m_kind
  have mE := m_elem
  have mI := m_impl
  have k27 := k_p
  have k25 := k_e
  have e27 := el_p
  have i25 := im_e
  have n8 := nil_p ⟨w.heap.size, 0, none⟩ t ((w.alloc (.cells #[.pointer (some t)] 78)).alloc (.cells #[.pointer (some ⟨1, 78, none⟩), .pointer (some ⟨w.heap.size, 0, none⟩), .int .u64 150] 95)) (by simp)
  have hlt : 0 < w.heap.size := hg.lt
  have hg2 : ((w.alloc (.cells #[.pointer (some t)] 78)).alloc (.cells #[.pointer (some ⟨1, 78, none⟩), .pointer (some ⟨w.heap.size, 0, none⟩), .int .u64 150] 95)).cell? ⟨0, 0, none⟩ = some (.iface 128 (.agg #[.pointer (some ⟨1, 34, none⟩)])) := (hg.alloc _).alloc _
  have htl : t.block < w.heap.size := by
    rcases Nat.lt_or_ge t.block w.heap.size with h | h
    · exact h
    · simp [World.cell?, Array.getElem?_eq_none h] at ht0
  have el := ev_p ⟨w.heap.size, 0, none⟩ t (((w.alloc (.cells #[.pointer (some t)] 78)).alloc (.cells #[.pointer (some ⟨1, 78, none⟩), .pointer (some ⟨w.heap.size, 0, none⟩), .int .u64 150] 95)).alloc (.cells #[.pointer (some ⟨1, 78, none⟩), .pointer (some ⟨w.heap.size, 0, none⟩), .int .u64 150] 95)) (by rw [World.cell?_alloc_lt _ _ ⟨w.heap.size, 0, none⟩ (by simp; omega)]; simp)
  have st := set_e t ⟨w.heap.size + 1 + 1 + 1, 0, none⟩ z old ((((w.alloc (.cells #[.pointer (some t)] 78)).alloc (.cells #[.pointer (some ⟨1, 78, none⟩), .pointer (some ⟨w.heap.size, 0, none⟩), .int .u64 150] 95)).alloc (.cells #[.pointer (some ⟨1, 78, none⟩), .pointer (some ⟨w.heap.size, 0, none⟩), .int .u64 150] 95)).alloc (.cells #[.int .i64 z] 62))
    (by rw [World.cell?_alloc_at _ _ _ _ (by simp)]; rfl)
    (by rw [World.cell?_alloc_lt _ _ t (by simp; omega), World.cell?_alloc_lt _ _ t (by simp; omega), World.cell?_alloc_lt _ _ t (by simp; omega), World.cell?_alloc_lt _ _ t htl]; exact ht0)
    (by rw [World.frozen?_alloc_old _ _ t (by simp; omega), World.frozen?_alloc_old _ _ t (by simp; omega), World.frozen?_alloc_old _ _ t (by simp; omega), World.frozen?_alloc_old _ _ t (Nat.ne_of_lt htl)]; exact hf0)
  unfold ErrT at hg
  go_enter Tryz.func44, Tryz.ntmps44
  go_wp2
  refine wp_loop_rounds 1 ?_
  rw [rounds_succ]
  go_wp2
  go_ret
  exact ⟨rfl, rfl⟩

theorem told_nil (w : World) : Calls Tryz.prog 26 #[.nilIface] w fun e w' => e = .returned (.int .i64 0) ∧ w = w' := by
  go_enter Tryz.func26, Tryz.ntmps26
  go_wp2
  go_ret
  exact ⟨rfl, rfl⟩

theorem told_no (z : Int) (w : World) (hg : ErrT w) : Calls Tryz.prog 26 #[.iface 62 (.int .i64 z)] w fun e w' => e = .returned (.int .i64 z) ∧ Below w.heap.size w w' := by
  have hA := as_hit z ⟨w.heap.size, 0, none⟩ (.int .i64 0) (w.alloc (.cells #[.int .i64 0] 62)) (hg.alloc _) (by simp) (by simp)
  go_enter Tryz.func26, Tryz.ntmps26
  go_wp2_with fail
  refine hA.mono ?_
  clear hA
  rintro e w1 ⟨rfl, rfl⟩
  go_wp2_with fail
  go_ret
  exact ⟨rfl, by go_grown⟩

/-- any error of the program, told -/
theorem told_any (e : Int) (w : World) (hg : ErrT w) : Calls Tryz.prog 26 #[errV e] w fun r w' => r = .returned (.int .i64 e) ∧ Below w.heap.size w w' := by
  by_cases h : e = 0
  · rw [errV_0 h, h]
    refine (told_nil w).mono ?_
    rintro r w' ⟨rfl, rfl⟩
    exact ⟨rfl, Below.refl _ _⟩
  · rw [errV_1 h]; exact told_no e w hg

theorem error_any (e k : Int) (w : World) (hg : ErrT w) : Calls Tryz.prog 8 #[errV e, .int .i64 k] w fun r w' => r = .returned (.bool (e == k)) ∧ Below w.heap.size w w' := by
  go_enter Tryz.func8, Tryz.ntmps8
  go_wp2_with fail
  refine (told_any e w hg).mono ?_
  rintro r w1 ⟨rfl, hb1⟩
  go_wp2_with fail
  go_ret
  exact ⟨rfl, hb1⟩
end Go.Proofs.YtafaedhjlmkamaaGreatDoor
