/- code.reader.node. Conditions: a reader as it lies, of bytes that are bytes. -/
import Derived.Test.YtijgiieoinmjhaaDoorCodeW
namespace Go.Proofs.YtijgiieoinmjhaaDoor
set_option linter.unusedVariables false
set_option linter.unusedSimpArgs false
open Go.RowKit

def Nd.agg (n : Nd) : Value := .agg #[.int .i64 n.f, .int .i64 n.c, .int .i64 n.l, .int .i64 n.r, .bool n.less, .int .i64 n.v]
theorem Chg.setNew {g b : Nat} {w w' : World} (h : Chg g w w') (hb : w.heap.size ≤ b) (i : Nat) (v : Value) : Chg g w (w'.setCell ⟨b, i, none⟩ v) :=
  ⟨h.os, h.tape, h.output, by have := h.size; simpa [World.setCell] using this, fun j hj hn => (Below.heap_setCell w' _ _ j (by show j ≠ b; omega)).trans (h.block j hj hn)⟩
/-- six cells are written -/
def set6 (w : World) (g : Nat) (v0 v1 v2 v3 v4 v5 : Value) : World := (((((w.setCell ⟨g, 0, none⟩ v0).setCell ⟨g, 1, none⟩ v1).setCell ⟨g, 2, none⟩ v2).setCell ⟨g, 3, none⟩ v3).setCell ⟨g, 4, none⟩ v4).setCell ⟨g, 5, none⟩ v5
theorem Blk.set6_ {w : World} {g : Nat} {t : TypeId} {x0 x1 x2 x3 x4 x5 : Value} (h : Blk w g t #[x0, x1, x2, x3, x4, x5]) (v0 v1 v2 v3 v4 v5 : Value) : Blk (set6 w g v0 v1 v2 v3 v4 v5) g t #[v0, v1, v2, v3, v4, v5] := by
  have := (((((h.set_ 0 v0).set_ 1 v1).set_ 2 v2).set_ 3 v3).set_ 4 v4).set_ 5 v5
  unfold set6
  simpa [List.setIfInBounds_toArray] using this
theorem Chg.set6_ {g b : Nat} {w w' : World} (h : Chg g w w') (hb : w.heap.size ≤ b) (v0 v1 v2 v3 v4 v5 : Value) : Chg g w (set6 w' b v0 v1 v2 v3 v4 v5) :=
  (((((h.setNew hb 0 v0).setNew hb 1 v1).setNew hb 2 v2).setNew hb 3 v3).setNew hb 4 v4).setNew hb 5 v5
theorem Blk.cells6 {w : World} {g : Nat} {t : TypeId} {x0 x1 x2 x3 x4 x5 : Value} (h : Blk w g t #[x0, x1, x2, x3, x4, x5]) : w.cell? ⟨g, 0, none⟩ = some x0 ∧ w.cell? ⟨g, 1, none⟩ = some x1 ∧ w.cell? ⟨g, 2, none⟩ = some x2 ∧ w.cell? ⟨g, 3, none⟩ = some x3 ∧ w.cell? ⟨g, 4, none⟩ = some x4 ∧ w.cell? ⟨g, 5, none⟩ = some x5 :=
  ⟨h.cell 0, h.cell 1, h.cell 2, h.cell 3, h.cell 4, h.cell 5⟩
theorem RdIs.chg {w w' : World} {g b n c : Nat} {A : Option Addr} {s : Rd} (h : RdIs w g A n c s) (hc : Chg b w w') (hne : g ≠ b) : RdIs w' g A n c s := ⟨h.blk.chg hc hne, h.nx⟩
theorem RdIs.set_ {w : World} {g b n c : Nat} {A : Option Addr} {s : Rd} (h : RdIs w g A n c s) (hne : g ≠ b) (i : Nat) (v : Value) : RdIs (w.setCell ⟨b, i, none⟩ v) g A n c s := h.chg ((Chg.refl b w).set_ i v) hne

theorem node_ret {g n c : Nat} {A : Option Addr} {w X : World} {tmps : Array Value} {x : Nd} {s : Rd} (hb : Blk X w.heap.size 111 #[.int .i64 x.f, .int .i64 x.c, .int .i64 x.l, .int .i64 x.r, .bool x.less, .int .i64 x.v]) (h : RdIs X g A n c s) (hc : Chg g w X)
    (h2 : tmps[2]? = some (.pointer (some ⟨w.heap.size, 0, none⟩))) : bodyPost Tryd.prog Tryd.f62 (fun e w' => e = .returned x.agg ∧ RdIs w' g A n c s ∧ Chg g w w') Exit.ret ⟨tmps, []⟩ X := by
  obtain ⟨c0, c1, c2, c3, c4, c5⟩ := hb.cells6
  refine bodyPost_ret (v := x.agg) ?_ rfl ⟨rfl, h, hc⟩
  simp [results, Tryd.results62, go_sem, h2, c0, c1, c2, c3, c4, c5]
  rfl

/-- the node is copied into the result's cells -/
theorem node_copy {w X : World} {g m n c : Nat} {A : Option Addr} {S : Rd} {v0 v1 v2 v3 v4 v5 u0 u1 u2 u3 u4 u5 : Value} (hk : Blk X w.heap.size 111 #[u0, u1, u2, u3, u4, u5]) (hv : Blk X m 111 #[v0, v1, v2, v3, v4, v5]) (hm : m ≠ w.heap.size)
    (h : RdIs X g A n c S) (hg : g ≠ w.heap.size) (hc : Chg g w X) : Blk (set6 X w.heap.size v0 v1 v2 v3 v4 v5) w.heap.size 111 #[v0, v1, v2, v3, v4, v5] ∧ RdIs (set6 X w.heap.size v0 v1 v2 v3 v4 v5) g A n c S ∧ Chg g w (set6 X w.heap.size v0 v1 v2 v3 v4 v5) :=
  ⟨hk.set6_ _ _ _ _ _ _, ((((((h.set_ hg 0 _).set_ hg 1 _).set_ hg 2 _).set_ hg 3 _).set_ hg 4 _).set_ hg 5 _), hc.set6_ (b := w.heap.size) (Nat.le_refl _) _ _ _ _ _ _⟩
theorem node_done {g n c : Nat} {A : Option Addr} {w X : World} {tmps : Array Value} {x : Nd} {s : Rd} (h : Blk (set6 X w.heap.size (.int .i64 x.f) (.int .i64 x.c) (.int .i64 x.l) (.int .i64 x.r) (.bool x.less) (.int .i64 x.v)) w.heap.size 111 #[.int .i64 x.f, .int .i64 x.c, .int .i64 x.l, .int .i64 x.r, .bool x.less, .int .i64 x.v] ∧ RdIs (set6 X w.heap.size (.int .i64 x.f) (.int .i64 x.c) (.int .i64 x.l) (.int .i64 x.r) (.bool x.less) (.int .i64 x.v)) g A n c s ∧ Chg g w (set6 X w.heap.size (.int .i64 x.f) (.int .i64 x.c) (.int .i64 x.l) (.int .i64 x.r) (.bool x.less) (.int .i64 x.v)))
    (h2 : tmps[2]? = some (.pointer (some ⟨w.heap.size, 0, none⟩))) : bodyPost Tryd.prog Tryd.f62 (fun e w' => e = .returned x.agg ∧ RdIs w' g A n c s ∧ Chg g w w') Exit.ret ⟨tmps, []⟩ ((((((X.setCell ⟨w.heap.size, 0, none⟩ (.int .i64 x.f)).setCell ⟨w.heap.size, 1, none⟩ (.int .i64 x.c)).setCell ⟨w.heap.size, 2, none⟩ (.int .i64 x.l)).setCell ⟨w.heap.size, 3, none⟩ (.int .i64 x.r)).setCell ⟨w.heap.size, 4, none⟩ (.bool x.less)).setCell ⟨w.heap.size, 5, none⟩ (.int .i64 x.v)) :=
  node_ret h.1 h.2.1 h.2.2 h2

set_option maxRecDepth 100000 in
set_option maxHeartbeats 8000000 in
theorem crnode_any (g : Nat) (A : Option Addr) (n c B : Nat) (b : List Int) (s : Rd) (w : World) (h : RdIs w g A n c s) (hr : BReads w B A n b) (hB : B ≤ g) (hn : n ≤ 10000000) (hnc : n ≤ c) (hby : Bys b) :
    Calls Tryd.prog 62 #[.pointer (some ⟨g, 0, none⟩)] w fun e w' => e = .returned (rdNode b s).1.agg ∧ RdIs w' g A n c (rdNode b s).2 ∧ Chg g w w' := by
  have hg := h.blk.lt
  obtain ⟨W, hW⟩ : ∃ W, W = w.alloc (.cells #[.int .i64 0, .int .i64 0, .int .i64 0, .int .i64 0, .bool false, .int .i64 0] 111) := ⟨_, rfl⟩
  have hk : Blk W w.heap.size 111 #[.int .i64 0, .int .i64 0, .int .i64 0, .int .i64 0, .bool false, .int .i64 0] := by rw [hW]; exact Blk.new _ _ _
  have hcW : Chg g w W := by rw [hW]; exact (Chg.refl g w).alloc _
  have hsW : W.heap.size = w.heap.size + 1 := by rw [hW]; simp
  have hW1 : RdIs W g A n c s := by rw [hW]; exact h.alloc _
  have hrW : BReads W B A n b := breads_chg hr hB hg hcW
  have HN : Hid (∀ (w' : World) (s' : Rd), RdIs w' g A n c s' → Chg g w w' → Calls Tryd.prog 60 #[.pointer (some ⟨g, 0, none⟩)] w' fun e w'' => e = .returned (.int .i64 (rdNum b s').1) ∧ RdIs w'' g A n c (rdNum b s').2 ∧ Chg g w' w'') := hide (fun w' s' h' hc' => crnum_any g A n c B b s' w' h' (breads_chg hr hB hg hc') hB hn hnc hby)
  clear h hr hrW
  obtain ⟨f, s', hf⟩ : ∃ (f : Int) (s' : Rd), rdNum b s = (f, s') := ⟨_, _, rfl⟩
  have s1 := hide (unhide HN W s hW1 hcW)
  rw [hf] at s1
  have e : rdNode b s = if f = -1 then (⟨-1, 0, 0, 0, false, (rdNum b s').1⟩, (rdNum b s').2) else rdAsk b f s' := by unfold rdNode; rw [hf]
  rw [e]
  obtain ⟨R, hR⟩ : ∃ R, R = if f = -1 then ((⟨-1, 0, 0, 0, false, (rdNum b s').1⟩ : Nd), (rdNum b s').2) else rdAsk b f s' := ⟨_, rfl⟩
  rw [← hR]
  have HR := hide hR
  clear e hf hW1 hR
  go_enter Tryd.func62, Tryd.ntmps62
  go_wp2_with fail
  rw [← hW]
  clear hW
  refine (unhide s1).mono ?_
  rintro e w1 ⟨rfl, h1, hc1⟩
  try dsimp only at h1
  clear s1
  have hk1 := hk.chg hc1 (by omega)
  have hc1 := hcW.trans hc1
  have hz1 := hc1.size
  have hzk := hk1.lt
  clear hk hcW
  obtain ⟨V, hV⟩ : ∃ V, V = w1.alloc (.cells #[.int .i64 f, .int .i64 0, .int .i64 0, .int .i64 0, .bool false, .int .i64 0] 111) := ⟨_, rfl⟩
  obtain ⟨m, hm⟩ : ∃ m, m = w1.heap.size := ⟨_, rfl⟩
  have hv : Blk V m 111 #[.int .i64 f, .int .i64 0, .int .i64 0, .int .i64 0, .bool false, .int .i64 0] := by rw [hV, hm]; exact Blk.new _ _ _
  have hcV : Chg g w V := by rw [hV]; exact hc1.alloc _
  have hV1 : RdIs V g A n c s' := by rw [hV]; exact h1.alloc _
  have hkV := hk1.alloc (.cells #[.int .i64 f, .int .i64 0, .int .i64 0, .int .i64 0, .bool false, .int .i64 0] 111)
  rw [← hV] at hkV
  have hmg : m ≠ g := by omega
  have hmw : m ≠ w.heap.size := by omega
  have hmw2 : w.heap.size ≤ m := by omega
  clear hk1 hc1 h1 hzk
  have v0 := hv.cell 0
  simp at v0
  by_cases hf : f = -1
  · have hR := unhide HR
    rw [if_pos hf] at hR
    have d : (f == -1) = true := by simpa using hf
    clear HR
    have s2 := hide (unhide HN V s' hV1 hcV)
    clear HN
    obtain ⟨x, s2', hx⟩ : ∃ (x : Int) (s2' : Rd), rdNum b s' = (x, s2') := ⟨_, _, rfl⟩
    rw [hx] at s2 hR
    dsimp only at hR
    subst hR
    subst hf
    clear hx
    go_wp2_with fail
    rw [← hV, ← hm]
    clear hV hm
    refine (unhide s2).mono ?_
    rintro e w2 ⟨rfl, h2, hc2⟩
    try dsimp only at h2 ⊢
    clear s2 v0
    have hv2 := hv.chg hc2 hmg
    have hk2 := hkV.chg hc2 (by omega)
    have hc2 := hcV.trans hc2
    obtain ⟨e0, e1, e2, e3, e4, e5⟩ := hv2.cells6
    have g5 := hv2.frozen 5
    obtain ⟨U, hU⟩ : ∃ U, U = w2.setCell ⟨m, 5, none⟩ (.int .i64 x) := ⟨_, rfl⟩
    have hvU := hv2.set_ 5 (.int .i64 x)
    have hkU := hk2.far (p := ⟨m, 5, none⟩) (Ne.symm hmw) (.int .i64 x)
    have hcU := hc2.setNew hmw2 5 (.int .i64 x)
    have hU1 := h2.set_ (Ne.symm hmg) 5 (.int .i64 x)
    simp only [List.setIfInBounds_toArray, List.set_cons_zero, List.set_cons_succ] at hvU
    rw [← hU] at hvU hkU hcU hU1
    clear h2 hc2 hv2 hk2 hv hkV hV1 hcV
    go_upto_region 4 with (fail)
    rw [← hU]
    clear hU e0 e1 e2 e3 e4 e5 g5
    have hS := hide (node_copy hkU hvU hmw hU1 (by omega) hcU)
    obtain ⟨e0, e1, e2, e3, e4, e5⟩ := hvU.cells6
    obtain ⟨q0, q1, q2, q3, q4, q5⟩ := hkU.cells6
    have k0 := hkU.frozen 0; have k1 := hkU.frozen 1; have k2 := hkU.frozen 2; have k3 := hkU.frozen 3; have k4 := hkU.frozen 4; have k5 := hkU.frozen 5
    clear hkU hvU hU1 hcU
    go_wp2_with fail
    exact node_done (unhide hS) rfl
  · have hR := unhide HR
    rw [if_neg hf] at hR
    have d : (f == -1) = false := by simpa using hf
    clear hf HR
    obtain ⟨x1, s1, hx1⟩ : ∃ (x : Int) (s2' : Rd), rdNum b s' = (x, s2') := ⟨_, _, rfl⟩
    obtain ⟨x2, s2, hx2⟩ : ∃ (x : Int) (s2' : Rd), rdNum b s1 = (x, s2') := ⟨_, _, rfl⟩
    obtain ⟨x3, s3, hx3⟩ : ∃ (x : Int) (s2' : Rd), rdNum b s2 = (x, s2') := ⟨_, _, rfl⟩
    obtain ⟨x4, s4, hx4⟩ : ∃ (x : Int) (s2' : Rd), rdNum b s3 = (x, s2') := ⟨_, _, rfl⟩
    have e : rdAsk b f s' = (⟨f, x1, x2, x3, decide (x4 = 1), 0⟩, rdMust (mayLess x4) 2 s4) := by
      unfold rdAsk rdLess
      rw [hx1]; dsimp only
      rw [hx2]; dsimp only
      rw [hx3]; dsimp only
      rw [hx4]
    rw [e] at hR
    clear e
    have t1 := hide (unhide HN V s' hV1 hcV)
    have t2 := hide (fun w' h' hc' => unhide HN w' s1 h' hc')
    have t3 := hide (fun w' h' hc' => unhide HN w' s2 h' hc')
    have t4 := hide (fun w' h' hc' => unhide HN w' s3 h' hc')
    rw [hx1] at t1
    rw [hx2] at t2
    rw [hx3] at t3
    rw [hx4] at t4
    clear hx1 hx2 hx3 hx4 HN
    obtain ⟨S, hS⟩ : ∃ S, S = rdMust (mayLess x4) 2 s4 := ⟨_, rfl⟩
    have t5 : Hid (∀ w' ok, ok = mayLess x4 → RdIs w' g A n c s4 → Calls Tryd.prog 63 #[.pointer (some ⟨g, 0, none⟩), .bool ok, .int .i64 2] w' fun e w'' => e = .returned (.tuple #[]) ∧ RdIs w'' g A n c S ∧ Chg g w' w'') := hide (fun w' ok hok h' => by
      rw [hS, ← hok]
      exact crmust_any g A n c s4 ok 2 w' h' (by decide))
    rw [← hS] at hR
    subst hR
    clear hS
    go_wp2_with fail
    rw [← hV, ← hm]
    clear hV hm
    refine (unhide t1).mono ?_
    rintro e w2 ⟨rfl, h2, hc2⟩
    try dsimp only at h2 ⊢
    have hv := hv.chg hc2 hmg
    have hk := hkV.chg hc2 (by omega)
    have hc := hcV.trans hc2
    have t2 := hide (unhide t2 w2 h2 hc)
    clear t1 hkV h2 hcV hV1 hc2 v0
    go_wp2_with fail
    refine (unhide t2).mono ?_
    rintro e w3 ⟨rfl, h3, hc3⟩
    try dsimp only at h3 ⊢
    have hv := hv.chg hc3 hmg
    have hk := hk.chg hc3 (by omega)
    have hc := hc.trans hc3
    have t3 := hide (unhide t3 w3 h3 hc)
    clear t2 h3 hc3
    go_wp2_with fail
    refine (unhide t3).mono ?_
    rintro e w4 ⟨rfl, h4, hc4⟩
    try dsimp only at h4 ⊢
    have hv := hv.chg hc4 hmg
    have hk := hk.chg hc4 (by omega)
    have hc := hc.trans hc4
    obtain ⟨U, hU⟩ : ∃ U, U = ((w4.setCell ⟨m, 1, none⟩ (.int .i64 x1)).setCell ⟨m, 2, none⟩ (.int .i64 x2)).setCell ⟨m, 3, none⟩ (.int .i64 x3) := ⟨_, rfl⟩
    have hvU := ((hv.set_ 1 (.int .i64 x1)).set_ 2 (.int .i64 x2)).set_ 3 (.int .i64 x3)
    have hkU := ((hk.far (p := ⟨m, 1, none⟩) (Ne.symm hmw) (.int .i64 x1)).far (p := ⟨m, 2, none⟩) (Ne.symm hmw) (.int .i64 x2)).far (p := ⟨m, 3, none⟩) (Ne.symm hmw) (.int .i64 x3)
    have hcU := ((hc.setNew hmw2 1 (.int .i64 x1)).setNew hmw2 2 (.int .i64 x2)).setNew hmw2 3 (.int .i64 x3)
    have hU1 : RdIs (((w4.setCell ⟨m, 1, none⟩ (.int .i64 x1)).setCell ⟨m, 2, none⟩ (.int .i64 x2)).setCell ⟨m, 3, none⟩ (.int .i64 x3)) g A n c s3 := ((h4.set_ (Ne.symm hmg) 1 _).set_ (Ne.symm hmg) 2 _).set_ (Ne.symm hmg) 3 _
    simp only [List.setIfInBounds_toArray, List.set_cons_zero, List.set_cons_succ] at hvU
    rw [← hU] at hvU hkU hcU hU1
    have t4 := hide (unhide t4 U hU1 hcU)
    have g1 := hv.frozen 1
    have g2 := hv.frozen 2
    have g3 := hv.frozen 3
    have z1 := hv.cell 1
    have z2 := hv.cell 2
    have z3 := hv.cell 3
    simp at z1 z2 z3
    clear t3 h4 hc4 hv hk hc hU1
    go_wp2_with fail
    rw [← hU]
    clear hU g1 g2 g3 z1 z2 z3
    refine (unhide t4).mono ?_
    rintro e w5 ⟨rfl, h5, hc5⟩
    try dsimp only at h5 ⊢
    have hv := hvU.chg hc5 hmg
    have hk := hkU.chg hc5 (by omega)
    have hc := hcU.trans hc5
    clear t4 hvU hkU hcU hc5
    have fin : Hid (∀ bl, bl = decide (x4 = 1) → ∀ w6, RdIs w6 g A n c S → Chg g w5 w6 → (Blk w6 m 111 #[.int .i64 f, .int .i64 x1, .int .i64 x2, .int .i64 x3, .bool false, .int .i64 0]) ∧
        Blk (w6.setCell ⟨m, 4, none⟩ (.bool bl)) m 111 #[.int .i64 f, .int .i64 x1, .int .i64 x2, .int .i64 x3, .bool (decide (x4 = 1)), .int .i64 0] ∧ (Blk (w6.setCell ⟨m, 4, none⟩ (.bool bl)) w.heap.size 111 #[.int .i64 0, .int .i64 0, .int .i64 0, .int .i64 0, .bool false, .int .i64 0]) ∧
        RdIs (w6.setCell ⟨m, 4, none⟩ (.bool bl)) g A n c S ∧ Chg g w (w6.setCell ⟨m, 4, none⟩ (.bool bl))) := hide (by
      intro bl hbl w6 h6 hc6
      have hv6 := hv.chg hc6 hmg
      have hk6 := hk.chg hc6 (by omega)
      have hvU := hv6.set_ 4 (.bool bl)
      simp only [List.setIfInBounds_toArray, List.set_cons_zero, List.set_cons_succ] at hvU
      rw [← hbl]
      exact ⟨hv6, hvU, hk6.far (p := ⟨m, 4, none⟩) (Ne.symm hmw) (.bool bl), h6.set_ (Ne.symm hmg) 4 _, (hc.trans hc6).setNew hmw2 4 _⟩)
    have hgk : g ≠ w.heap.size := by omega
    clear hv hk hc
    by_cases q0 : x4 = 0
    · subst q0
      have t6 := hide (unhide t5 w5 true rfl h5)
      have fin := hide (unhide fin false rfl)
      clear t5 h5
      go_wp2_with fail
      refine (unhide t6).mono ?_
      rintro e w6 ⟨rfl, h6, hc6⟩
      obtain ⟨hv, hvU, hkU, hU1, hcU⟩ := unhide fin w6 h6 hc6
      have e4 := hv.cell 4
      simp at e4
      have g4 := hv.frozen 4
      obtain ⟨U, hU⟩ : ∃ U, U = w6.setCell ⟨m, 4, none⟩ (.bool false) := ⟨_, rfl⟩
      rw [← hU] at hvU hkU hcU hU1
      clear t6 fin hv h6 hc6
      go_upto_region 9 with (fail)
      rw [← hU]
      clear hU e4 g4
      have hS := hide (node_copy hkU hvU hmw hU1 hgk hcU)
      obtain ⟨e0, e1, e2, e3, e4, e5⟩ := hvU.cells6
      obtain ⟨q0, q1, q2, q3, q4, q5⟩ := hkU.cells6
      have k0 := hkU.frozen 0; have k1 := hkU.frozen 1; have k2 := hkU.frozen 2; have k3 := hkU.frozen 3; have k4 := hkU.frozen 4; have k5 := hkU.frozen 5
      clear hkU hvU hU1 hcU
      go_wp2_with fail
      exact node_done (x := ⟨f, x1, x2, x3, _, 0⟩) (unhide hS) rfl
    by_cases q1 : x4 = 1
    · subst q1
      have t6 := hide (unhide t5 w5 true rfl h5)
      have fin := hide (unhide fin true rfl)
      clear t5 h5
      go_wp2_with fail
      refine (unhide t6).mono ?_
      rintro e w6 ⟨rfl, h6, hc6⟩
      obtain ⟨hv, hvU, hkU, hU1, hcU⟩ := unhide fin w6 h6 hc6
      have e4 := hv.cell 4
      simp at e4
      have g4 := hv.frozen 4
      obtain ⟨U, hU⟩ : ∃ U, U = w6.setCell ⟨m, 4, none⟩ (.bool true) := ⟨_, rfl⟩
      rw [← hU] at hvU hkU hcU hU1
      clear t6 fin hv h6 hc6
      go_upto_region 9 with (fail)
      rw [← hU]
      clear hU e4 g4
      have hS := hide (node_copy hkU hvU hmw hU1 hgk hcU)
      obtain ⟨e0, e1, e2, e3, e4, e5⟩ := hvU.cells6
      obtain ⟨q0, q1, q2, q3, q4, q5⟩ := hkU.cells6
      have k0 := hkU.frozen 0; have k1 := hkU.frozen 1; have k2 := hkU.frozen 2; have k3 := hkU.frozen 3; have k4 := hkU.frozen 4; have k5 := hkU.frozen 5
      clear hkU hvU hU1 hcU
      go_wp2_with fail
      exact node_done (x := ⟨f, x1, x2, x3, _, 0⟩) (unhide hS) rfl
    · have d0 : (x4 == 0) = false := by simpa using q0
      have d1 : (x4 == 1) = false := by simpa using q1
      have t6 := hide (unhide t5 w5 false (by unfold mayLess; simp [q0, q1]) h5)
      have fin := hide (unhide fin false (by simp [q1]))
      clear t5 h5 q0 q1
      go_wp2_with fail
      refine (unhide t6).mono ?_
      rintro e w6 ⟨rfl, h6, hc6⟩
      obtain ⟨hv, hvU, hkU, hU1, hcU⟩ := unhide fin w6 h6 hc6
      have e4 := hv.cell 4
      simp at e4
      have g4 := hv.frozen 4
      obtain ⟨U, hU⟩ : ∃ U, U = w6.setCell ⟨m, 4, none⟩ (.bool false) := ⟨_, rfl⟩
      rw [← hU] at hvU hkU hcU hU1
      clear t6 fin hv h6 hc6
      go_upto_region 9 with (fail)
      rw [← hU]
      clear hU e4 g4
      have hS := hide (node_copy hkU hvU hmw hU1 hgk hcU)
      obtain ⟨e0, e1, e2, e3, e4, e5⟩ := hvU.cells6
      obtain ⟨q0, q1, q2, q3, q4, q5⟩ := hkU.cells6
      have k0 := hkU.frozen 0; have k1 := hkU.frozen 1; have k2 := hkU.frozen 2; have k3 := hkU.frozen 3; have k4 := hkU.frozen 4; have k5 := hkU.frozen 5
      clear hkU hvU hU1 hcU
      go_wp2_with fail
      exact node_done (x := ⟨f, x1, x2, x3, _, 0⟩) (unhide hS) rfl
end Go.Proofs.YtijgiieoinmjhaaDoor
