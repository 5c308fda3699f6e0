/- code.reader: num, must, many, node. Conditions: a reader as it lies, of bytes that are bytes. -/
import Derived.Test.YtijgiieoinmjhaaDoorCodeP
import Derived.Test.YtijgiieoinmjhaaDoorChgD
import Derived.Deep.RegionHeld3
import Derived.BigQuiet
namespace Go.Proofs.YtijgiieoinmjhaaDoor
set_option linter.unusedVariables false
set_option linter.unusedSimpArgs false
open Go.RowKit

/-- a reader as it lies -/
structure RdIs (w : World) (g : Nat) (A : Option Addr) (n c : Nat) (s : Rd) : Prop where
  blk : Blk w g 119 #[.slice A n c, .int .i64 (s.at_ : Int), .int .i64 (s.nx : Int), errV s.bad]
  nx : s.nx ≤ n
section
variable {w w' : World} {g n c B : Nat} {A : Option Addr} {s : Rd}
theorem RdIs.cells (h : RdIs w g A n c s) : w.cell? ⟨g, 0, none⟩ = some (.slice A n c) ∧ w.cell? ⟨g, 1, none⟩ = some (.int .i64 (s.at_ : Int)) ∧ w.cell? ⟨g, 2, none⟩ = some (.int .i64 (s.nx : Int)) ∧ w.cell? ⟨g, 3, none⟩ = some (errV s.bad) ∧ w.frozen? ⟨g, 1, none⟩ = false ∧ w.frozen? ⟨g, 2, none⟩ = false ∧ w.frozen? ⟨g, 3, none⟩ = false :=
  ⟨h.blk.cell 0, h.blk.cell 1, h.blk.cell 2, h.blk.cell 3, h.blk.frozen 1, h.blk.frozen 2, h.blk.frozen 3⟩
theorem RdIs.below (h : RdIs w g A n c s) (hb : Below w.heap.size w w') : RdIs w' g A n c s := ⟨h.blk.below hb h.blk.lt, h.nx⟩
theorem RdIs.alloc (h : RdIs w g A n c s) (o : Obj) : RdIs (w.alloc o) g A n c s := ⟨h.blk.alloc o, h.nx⟩
end
theorem rdNum_to {b : List Int} {s : Rd} {n : Nat} (hb : Bys b) (hl : b.length = n) (h : s.nx ≤ n) : (rdNum b s).2.nx ≤ n := by
  unfold rdNum
  by_cases h0 : s.bad = 0
  · rw [if_pos h0]
    have := getV_len (hb.drop s.nx)
    rw [List.length_drop] at this
    show s.nx + _ ≤ n
    omega
  · rw [if_neg h0]; exact h

theorem errV_two (e : Int) : errV e = .nilIface ∨ ∃ x, errV e = .iface 89 (.int .i64 x) := by
  by_cases h : e = 0
  · exact .inl (errV_0 h)
  · exact .inr ⟨e, errV_1 h⟩
set_option maxRecDepth 100000 in
set_option maxHeartbeats 4000000 in
theorem crnum_any (g : Nat) (A : Option Addr) (n c B : Nat) (b : List Int) (s : Rd) (w : World) (h : RdIs w g A n c s) (hr : BReads w B A n b) (hB : B ≤ g) (hn : n ≤ 10000000) (hnc : n ≤ c) (hby : Bys b) :
    Calls Tryd.prog 60 #[.pointer (some ⟨g, 0, none⟩)] w fun e w' => e = .returned (.int .i64 (rdNum b s).1) ∧ RdIs w' g A n c (rdNum b s).2 ∧ Chg g w w' := by
  obtain ⟨at_, nx, bad⟩ := s
  obtain ⟨c0, c1, c2, c3, f1, f2, f3⟩ := h.cells
  have hto := h.nx
  have hl := hr.len
  dsimp only at c0 c1 c2 c3 hto
  by_cases h0 : bad = 0
  · subst h0
    rw [errV_0 rfl] at c3
    have hlen := getV_len (hby.drop nx)
    obtain ⟨z, u, er, hg⟩ : ∃ (z : Int) (u : Nat) (er : Int), getV (b.drop nx) = (z, u, er) := ⟨_, _, _, rfl⟩
    have e : rdNum b ⟨at_, nx, 0⟩ = (z, ⟨nx, nx + u, er⟩) := by unfold rdNum; rw [if_pos rfl]; show (_, _) = _; rw [hg]
    rw [e]
    rw [hg, List.length_drop, hl] at hlen
    dsimp only at hlen
    have hb1 := h.blk.set_ 1 (.int .i64 (nx : Int))
    have hne : ∀ a, A = some a → n ≠ 0 → a.block ≠ g := by
      intro a ha hn0
      obtain ⟨ad, e2, hb, _⟩ := hr.2 (by omega)
      rw [ha] at e2
      injection e2 with e2
      subst e2
      omega
    obtain ⟨W, hW⟩ : ∃ W, W = w.setCell ⟨g, 1, none⟩ (.int .i64 (nx : Int)) := ⟨_, rfl⟩
    have hbW : Below g w W := by rw [hW]; exact (Below.refl _ _).setCell (p := ⟨g, 1, none⟩) (Nat.le_refl _) _
    have hcW : Chg g w W := by rw [hW]; exact (Chg.refl g w).set_ 1 _
    have hrW : BReads W B A n b := Reads.below hr (hbW.mono hB)
    have hrC : BReads W B (if c = nx then A else Option.map (fun x => x.add nx) A) (n - nx) (b.drop nx) := by
      have := Reads.cut (k := nx) (cap := c) hrW hto hnc
      rw [Nat.mul_one, ← List.map_drop] at this
      exact this
    have HS := hide (fun W' (hW' : BReads W' B (if c = nx then A else Option.map (fun x => x.add nx) A) (n - nx) (b.drop nx)) => get_any (if c = nx then A else Option.map (fun x => x.add nx) A) (n - nx) (c - nx) B (b.drop nx) W' hW' (by unfold maxLen; omega) (hby.drop nx))
    rw [hg] at HS
    rw [← hW] at hb1
    have hbW1 : Blk W g 119 #[.slice A n c, .int .i64 (nx : Int), .int .i64 (nx : Int), .nilIface] := by simpa [List.setIfInBounds_toArray, errV_0] using hb1
    have k0 : W.cell? ⟨g, 0, none⟩ = some (.slice A n c) := by have := hb1.cell 0; simpa using this
    have k1 : W.cell? ⟨g, 1, none⟩ = some (.int .i64 (nx : Int)) := by have := hb1.cell 1; simpa using this
    have j2 := hb1.frozen 2
    have j3 := hb1.frozen 3
    have HU10 : Hid (nx + u ≤ 10000000) := hide (by omega)
    have HUN : Hid (nx + u ≤ n) := hide (by omega)
    clear hne hrW hb1 hr h e hg hbW
    go_enter Tryd.func60, Tryd.ntmps60
    go_upto_region 4 with (fail)
    rw [← hW]
    clear hW c0 c1 c2 c3 f1 f2 f3
    go_quiet ((go_at_call 40; exact quiet_left (unhide HS _ (Reads.drewN hrC _))))
    generalize (Value.slice (if c = nx then A else Option.map (fun x => x.add nx) A) (n - nx) (c - nx)) = V27
    have hu10 := unhide HU10
    clear hlen hto hl hnc hn hrC HS HU10
    obtain ⟨X, hX⟩ : ∃ X, X = W.drewN nq := ⟨_, rfl⟩
    have hbX : Blk ((X.setCell ⟨g, 2, none⟩ (.int .i64 ((nx : Int) + (u : Int)))).setCell ⟨g, 3, none⟩ (errV er)) g 119 #[.slice A n c, .int .i64 (nx : Int), .int .i64 ((nx + u : Nat) : Int), errV er] := by
      rw [hX]
      have := ((hbW1.drewN nq).set_ 2 (.int .i64 ((nx : Int) + (u : Int)))).set_ 3 (errV er)
      simpa [List.setIfInBounds_toArray] using this
    have hcX : Chg g w ((X.setCell ⟨g, 2, none⟩ (.int .i64 ((nx : Int) + (u : Int)))).setCell ⟨g, 3, none⟩ (errV er)) := by
      rw [hX]
      exact ((hcW.drewN nq).set_ 2 _).set_ 3 _
    have k0 : X.cell? ⟨g, 1, none⟩ = some (.int .i64 (nx : Int)) := by rw [hX]; exact k1
    have m2 : X.cell? ⟨g, 2, none⟩ = some (.int .i64 (nx : Int)) := by rw [hX]; simpa using (hbW1.drewN nq).cell 2
    have m3 : X.cell? ⟨g, 3, none⟩ = some .nilIface := by rw [hX]; simpa using (hbW1.drewN nq).cell 3
    have k2 : X.frozen? ⟨g, 2, none⟩ = false := by rw [hX]; exact j2
    have k3 : X.frozen? ⟨g, 3, none⟩ = false := by rw [hX]; exact j3
    rw [← hX]
    clear hX k1 j2 j3 hbW1 hcW
    rcases errV_two er with e1 | ⟨x, e1⟩
    all_goals
      rw [e1] at hbX hcX ⊢
      have HE1 := hide e1
      clear e1
      go_wp2_with fail
      go_ret
      exact ⟨rfl, ⟨by rw [unhide HE1]; exact hbX, unhide HUN⟩, hcX⟩
  · rw [errV_1 h0] at c3
    rw [rdNum_bad (by exact h0)]
    go_enter Tryd.func60, Tryd.ntmps60
    go_wp2_with fail
    go_ret
    exact ⟨rfl, h, Chg.refl _ _⟩

set_option maxHeartbeats 1000000 in
theorem crmust_any (g : Nat) (A : Option Addr) (n c : Nat) (s : Rd) (ok : Bool) (er : Int) (w : World) (h : RdIs w g A n c s) (he : er ≠ 0) :
    Calls Tryd.prog 63 #[.pointer (some ⟨g, 0, none⟩), .bool ok, .int .i64 er] w fun e w' => e = .returned (.tuple #[]) ∧ RdIs w' g A n c (rdMust ok er s) ∧ Chg g w w' := by
  obtain ⟨at_, nx, bad⟩ := s
  obtain ⟨c0, c1, c2, c3, f1, f2, f3⟩ := h.cells
  have hto := h.nx
  dsimp only at c0 c1 c2 c3 hto
  by_cases h0 : bad = 0
  · subst h0
    rw [errV_0 rfl] at c3
    cases ok with
    | true =>
      rw [rdMust_ok]
      go_enter Tryd.func63, Tryd.ntmps63
      go_wp2_with fail
      refine end0 (by kernel_rfl) rfl ?_
      exact ⟨rfl, h, Chg.refl _ _⟩
    | false =>
      rw [rdMust_no rfl]
      have hb := h.blk.set_ 3 (errV er)
      have hc := (Chg.refl g w).set_ 3 (errV er)
      rw [errV_1 he] at hb hc
      go_enter Tryd.func63, Tryd.ntmps63
      go_wp2_with fail
      refine end0 (by kernel_rfl) rfl ?_
      refine ⟨rfl, ⟨?_, hto⟩, hc⟩
      rw [errV_1 he]
      exact hb
  · rw [errV_1 h0] at c3
    rw [rdMust_bad (by exact h0)]
    go_enter Tryd.func63, Tryd.ntmps63
    go_wp2_with fail
    refine end0 (by kernel_rfl) rfl ?_
    exact ⟨rfl, h, Chg.refl _ _⟩

theorem breads_chg {w w' : World} {B g n : Nat} {A : Option Addr} {b : List Int} (h : BReads w B A n b) (hB : B ≤ g) (hg : g < w.heap.size) (hc : Chg g w w') : BReads w' B A n b :=
  Reads.below h (hc.below hB (by omega))
set_option maxHeartbeats 1000000 in
theorem crmany_any (g : Nat) (A : Option Addr) (n c B : Nat) (b : List Int) (m : Int) (s : Rd) (w : World) (h : RdIs w g A n c s) (hr : BReads w B A n b) (hB : B ≤ g) (hn : n ≤ 10000000) (hnc : n ≤ c) (hby : Bys b) :
    Calls Tryd.prog 61 #[.pointer (some ⟨g, 0, none⟩), .int .i64 m] w fun e w' => e = .returned (.int .i64 (rdMany b m s).1) ∧ RdIs w' g A n c (rdMany b m s).2 ∧ Chg g w w' := by
  have s1 := hide (crnum_any g A n c B b s w h hr hB hn hnc hby)
  unfold rdMany
  obtain ⟨z, s', hz⟩ : ∃ (z : Int) (s' : Rd), rdNum b s = (z, s') := ⟨_, _, rfl⟩
  rw [hz] at s1 ⊢
  dsimp only at s1 ⊢
  have s2 := fun w1 (h1 : RdIs w1 g A n c s') => hide (crmust_any g A n c s' (mayMany m z) 1 w1 h1 (by decide))
  obtain ⟨T, hT⟩ : ∃ T, T = rdMust (mayMany m z) 1 s' := ⟨_, rfl⟩
  rw [← hT] at s2 ⊢
  have HM : Hid (mayMany m z = decide (1 ≤ z ∧ z ≤ m)) := hide rfl
  obtain ⟨ok, hok⟩ : ∃ ok, ok = mayMany m z := ⟨_, rfl⟩
  rw [← hok] at s2
  rw [← hok] at HM
  have s2 := hide s2
  obtain ⟨Z, hZ⟩ : ∃ Z, Z = if T.bad = 0 then z else 0 := ⟨_, rfl⟩
  rw [← hZ]
  have HZ := hide hZ
  clear hT hz h hr hok hZ
  go_enter Tryd.func61, Tryd.ntmps61
  go_wp2_with fail
  refine (unhide s1).mono ?_
  rintro e w1 ⟨rfl, h1, hc1⟩
  have s3 := unhide s2 w1 h1
  clear s1 s2 h1
  by_cases d1 : 1 ≤ z
  · have e1 : decide (1 ≤ z) = true := decide_eq_true d1
    by_cases d2 : z ≤ m
    · have e2 : decide (z ≤ m) = true := decide_eq_true d2
      have hk : ok = true := by rw [unhide HM]; exact decide_eq_true ⟨d1, d2⟩
      subst hk
      go_wp2_with fail
      refine (unhide s3).mono ?_
      rintro e w2 ⟨rfl, h2, hc2⟩
      obtain ⟨c0, c1, c2, c3, f1, f2, f3⟩ := h2.cells
      have hc := hc1.trans hc2
      by_cases h0 : T.bad = 0
      · obtain rfl : Z = z := by rw [unhide HZ, if_pos h0]
        rw [errV_0 h0] at c3
        clear h0 HZ
        go_wp2_with fail
        go_ret
        exact ⟨rfl, h2, hc⟩
      · obtain rfl : Z = 0 := by rw [unhide HZ, if_neg h0]
        rw [errV_1 h0] at c3
        clear h0 HZ
        go_wp2_with fail
        go_ret
        exact ⟨rfl, h2, hc⟩
    · have e2 : decide (z ≤ m) = false := decide_eq_false d2
      have hk : ok = false := by rw [unhide HM]; exact decide_eq_false (fun h => d2 h.2)
      subst hk
      go_wp2_with fail
      refine (unhide s3).mono ?_
      rintro e w2 ⟨rfl, h2, hc2⟩
      obtain ⟨c0, c1, c2, c3, f1, f2, f3⟩ := h2.cells
      have hc := hc1.trans hc2
      by_cases h0 : T.bad = 0
      · obtain rfl : Z = z := by rw [unhide HZ, if_pos h0]
        rw [errV_0 h0] at c3
        clear h0 HZ
        go_wp2_with fail
        go_ret
        exact ⟨rfl, h2, hc⟩
      · obtain rfl : Z = 0 := by rw [unhide HZ, if_neg h0]
        rw [errV_1 h0] at c3
        clear h0 HZ
        go_wp2_with fail
        go_ret
        exact ⟨rfl, h2, hc⟩
  · have e1 : decide (1 ≤ z) = false := decide_eq_false d1
    have hk : ok = false := by rw [unhide HM]; exact decide_eq_false (fun h => d1 h.1)
    subst hk
    go_wp2_with fail
    refine (unhide s3).mono ?_
    rintro e w2 ⟨rfl, h2, hc2⟩
    obtain ⟨c0, c1, c2, c3, f1, f2, f3⟩ := h2.cells
    have hc := hc1.trans hc2
    by_cases h0 : T.bad = 0
    · obtain rfl : Z = z := by rw [unhide HZ, if_pos h0]
      rw [errV_0 h0] at c3
      clear h0 HZ
      go_wp2_with fail
      go_ret
      exact ⟨rfl, h2, hc⟩
    · obtain rfl : Z = 0 := by rw [unhide HZ, if_neg h0]
      rw [errV_1 h0] at c3
      clear h0 HZ
      go_wp2_with fail
      go_ret
      exact ⟨rfl, h2, hc⟩
end Go.Proofs.YtijgiieoinmjhaaDoor
