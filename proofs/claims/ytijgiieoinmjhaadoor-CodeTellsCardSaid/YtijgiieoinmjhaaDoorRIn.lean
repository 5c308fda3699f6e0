/- orchref3.In: Num, Many. Conditions: an In as it lies, of bytes that are bytes. -/
import Derived.Test.YtijgiieoinmjhaaDoorRGet
import Derived.Test.YtijgiieoinmjhaaDoorCodeN
namespace Go.Proofs.YtijgiieoinmjhaaDoor
set_option linter.unusedVariables false
set_option linter.unusedSimpArgs false
open Go.RowKit

/-- an In as it lies -/
structure RiIs (w : World) (g : Nat) (A : Option Addr) (n c : Nat) (s : Rd) : Prop where
  blk : Blk w g 115 #[.slice A n c, .int .i64 (s.at_ : Int), .int .i64 (s.nx : Int), .int .i64 s.bad]
  nx : s.nx ≤ n
section
variable {w w' : World} {g n c B b : Nat} {A : Option Addr} {s : Rd}
theorem RiIs.cells (h : RiIs w g A n c s) : w.cell? ⟨g, 0, none⟩ = some (.slice A n c) ∧ w.cell? ⟨g, 1, none⟩ = some (.int .i64 (s.at_ : Int)) ∧ w.cell? ⟨g, 2, none⟩ = some (.int .i64 (s.nx : Int)) ∧ w.cell? ⟨g, 3, none⟩ = some (.int .i64 s.bad) ∧ w.frozen? ⟨g, 1, none⟩ = false ∧ w.frozen? ⟨g, 2, none⟩ = false ∧ w.frozen? ⟨g, 3, none⟩ = false :=
  ⟨h.blk.cell 0, h.blk.cell 1, h.blk.cell 2, h.blk.cell 3, h.blk.frozen 1, h.blk.frozen 2, h.blk.frozen 3⟩
theorem RiIs.below (h : RiIs w g A n c s) (hb : Below w.heap.size w w') : RiIs w' g A n c s := ⟨h.blk.below hb h.blk.lt, h.nx⟩
theorem RiIs.alloc (h : RiIs w g A n c s) (o : Obj) : RiIs (w.alloc o) g A n c s := ⟨h.blk.alloc o, h.nx⟩
theorem RiIs.chg (h : RiIs w g A n c s) (hc : Chg b w w') (hne : g ≠ b) : RiIs w' g A n c s := ⟨h.blk.chg hc hne, h.nx⟩
theorem RiIs.set_ (h : RiIs w g A n c s) (hne : g ≠ b) (i : Nat) (v : Value) : RiIs (w.setCell ⟨b, i, none⟩ v) g A n c s := h.chg ((Chg.refl b w).set_ i v) hne
end

set_option maxRecDepth 100000 in
set_option maxHeartbeats 4000000 in
theorem rinum_any (g : Nat) (A : Option Addr) (n c B : Nat) (b : List Int) (s : Rd) (w : World) (h : RiIs w g A n c s) (hr : BReads w B A n b) (hB : B ≤ g) (hn : n ≤ 10000000) (hnc : n ≤ c) (hby : Bys b) :
    Calls Tryd.prog 58 #[.pointer (some ⟨g, 0, none⟩)] w fun e w' => e = .returned (.int .i64 (rdNum b s).1) ∧ RiIs w' g A n c (rdNum b s).2 ∧ Chg g w w' := by
  obtain ⟨at_, nx, bad⟩ := s
  obtain ⟨c0, c1, c2, c3, f1, f2, f3⟩ := h.cells
  have hto := h.nx
  have hl := hr.len
  dsimp only at c0 c1 c2 c3 hto
  by_cases h0 : bad = 0
  · subst h0
    have hlen := getV_len (hby.drop nx)
    obtain ⟨z, u, er, hg⟩ : ∃ (z : Int) (u : Nat) (er : Int), getV (b.drop nx) = (z, u, er) := ⟨_, _, _, rfl⟩
    have e : rdNum b ⟨at_, nx, 0⟩ = (z, ⟨nx, nx + u, er⟩) := by unfold rdNum; rw [if_pos rfl]; show (_, _) = _; rw [hg]
    rw [e]
    rw [hg, List.length_drop, hl] at hlen
    dsimp only at hlen
    have hb1 := h.blk.set_ 1 (.int .i64 (nx : Int))
    obtain ⟨W, hW⟩ : ∃ W, W = w.setCell ⟨g, 1, none⟩ (.int .i64 (nx : Int)) := ⟨_, rfl⟩
    have hbW : Below g w W := by rw [hW]; exact (Below.refl _ _).setCell (p := ⟨g, 1, none⟩) (Nat.le_refl _) _
    have hcW : Chg g w W := by rw [hW]; exact (Chg.refl g w).set_ 1 _
    have hrW : BReads W B A n b := Reads.below hr (hbW.mono hB)
    have hrC : BReads W B (if c = nx then A else Option.map (fun x => x.add nx) A) (n - nx) (b.drop nx) := by
      have := Reads.cut (k := nx) (cap := c) hrW hto hnc
      rw [Nat.mul_one, ← List.map_drop] at this
      exact this
    have HS := hide (fun W' (hW' : BReads W' B (if c = nx then A else Option.map (fun x => x.add nx) A) (n - nx) (b.drop nx)) => rget_any (if c = nx then A else Option.map (fun x => x.add nx) A) (n - nx) (c - nx) B (b.drop nx) W' hW' (by unfold maxLen; omega) (hby.drop nx))
    rw [hg] at HS
    rw [← hW] at hb1
    have hbW1 : Blk W g 115 #[.slice A n c, .int .i64 (nx : Int), .int .i64 (nx : Int), .int .i64 0] := by simpa [List.setIfInBounds_toArray] using hb1
    have k0 : W.cell? ⟨g, 0, none⟩ = some (.slice A n c) := by have := hb1.cell 0; simpa using this
    have k1 : W.cell? ⟨g, 1, none⟩ = some (.int .i64 (nx : Int)) := by have := hb1.cell 1; simpa using this
    have j2 := hb1.frozen 2
    have j3 := hb1.frozen 3
    have HU10 : Hid (nx + u ≤ 10000000) := hide (by omega)
    have HUN : Hid (nx + u ≤ n) := hide (by omega)
    clear hrW hb1 hr h e hg hbW
    go_enter Tryd.func58, Tryd.ntmps58
    go_upto_region 4 with (fail)
    rw [← hW]
    clear hW c0 c1 c2 c3 f1 f2 f3
    go_quiet ((go_at_call 39; exact quiet_left (unhide HS _ (Reads.drewN hrC _))))
    generalize (Value.slice (if c = nx then A else Option.map (fun x => x.add nx) A) (n - nx) (c - nx)) = V27
    have hu10 := unhide HU10
    clear hlen hto hl hnc hn hrC HS HU10
    obtain ⟨X, hX⟩ : ∃ X, X = W.drewN nq := ⟨_, rfl⟩
    have hbX : Blk ((X.setCell ⟨g, 2, none⟩ (.int .i64 ((nx : Int) + (u : Int)))).setCell ⟨g, 3, none⟩ (.int .i64 er)) g 115 #[.slice A n c, .int .i64 (nx : Int), .int .i64 ((nx + u : Nat) : Int), .int .i64 er] := by
      rw [hX]
      have := ((hbW1.drewN nq).set_ 2 (.int .i64 ((nx : Int) + (u : Int)))).set_ 3 (.int .i64 er)
      simpa [List.setIfInBounds_toArray] using this
    have hcX : Chg g w ((X.setCell ⟨g, 2, none⟩ (.int .i64 ((nx : Int) + (u : Int)))).setCell ⟨g, 3, none⟩ (.int .i64 er)) := by
      rw [hX]
      exact ((hcW.drewN nq).set_ 2 _).set_ 3 _
    have k0 : X.cell? ⟨g, 1, none⟩ = some (.int .i64 (nx : Int)) := by rw [hX]; exact k1
    have m2 : X.cell? ⟨g, 2, none⟩ = some (.int .i64 (nx : Int)) := by rw [hX]; simpa using (hbW1.drewN nq).cell 2
    have m3 : X.cell? ⟨g, 3, none⟩ = some (.int .i64 0) := by rw [hX]; simpa using (hbW1.drewN nq).cell 3
    have k2 : X.frozen? ⟨g, 2, none⟩ = false := by rw [hX]; exact j2
    have k3 : X.frozen? ⟨g, 3, none⟩ = false := by rw [hX]; exact j3
    rw [← hX]
    clear hX k1 j2 j3 hbW1 hcW
    go_wp2_with fail
    go_ret
    exact ⟨rfl, ⟨hbX, unhide HUN⟩, hcX⟩
  · have d0 : (bad == 0) = false := by simpa using h0
    rw [rdNum_bad (by exact h0)]
    clear h0
    go_enter Tryd.func58, Tryd.ntmps58
    go_wp2_with fail
    go_ret
    exact ⟨rfl, h, Chg.refl _ _⟩

set_option maxHeartbeats 1000000 in
theorem rimany_any (g : Nat) (A : Option Addr) (n c B : Nat) (b : List Int) (m : Int) (s : Rd) (w : World) (h : RiIs w g A n c s) (hr : BReads w B A n b) (hB : B ≤ g) (hn : n ≤ 10000000) (hnc : n ≤ c) (hby : Bys b) :
    Calls Tryd.prog 59 #[.pointer (some ⟨g, 0, none⟩), .int .i64 m] w fun e w' => e = .returned (.int .i64 (rdMany b m s).1) ∧ RiIs w' g A n c (rdMany b m s).2 ∧ Chg g w w' := by
  have s1 := hide (rinum_any g A n c B b s w h hr hB hn hnc hby)
  unfold rdMany
  obtain ⟨z, s', hz⟩ : ∃ (z : Int) (s' : Rd), rdNum b s = (z, s') := ⟨_, _, rfl⟩
  rw [hz] at s1 ⊢
  dsimp only at s1 ⊢
  obtain ⟨at_, nx, bad⟩ := s'
  have HM : Hid (mayMany m z = decide (1 ≤ z ∧ z ≤ m)) := hide rfl
  obtain ⟨T, hT⟩ : ∃ T, T = rdMust (mayMany m z) 1 ⟨at_, nx, bad⟩ := ⟨_, rfl⟩
  obtain ⟨Z, hZ⟩ : ∃ Z, Z = if T.bad = 0 then z else 0 := ⟨_, rfl⟩
  rw [← hT, ← hZ]
  have HT := hide hT
  have HZ := hide hZ
  clear hz h hr hT hZ
  go_enter Tryd.func59, Tryd.ntmps59
  go_wp2_with fail
  refine (unhide s1).mono ?_
  rintro e w1 ⟨rfl, h1, hc1⟩
  obtain ⟨c0, c1, c2, c3, f1, f2, f3⟩ := h1.cells
  dsimp only at c0 c1 c2 c3
  clear s1
  by_cases h0 : bad = 0
  · subst h0
    have hno : mayMany m z = false → T = ⟨at_, nx, 1⟩ ∧ Z = 0 := fun hk => by
      have e : T = ⟨at_, nx, 1⟩ := by rw [unhide HT, hk]; exact rdMust_no rfl
      exact ⟨e, by rw [unhide HZ, e]; rfl⟩
    have hset := h1.blk.set_ 3 (.int .i64 1)
    simp only [List.setIfInBounds_toArray, List.set_cons_zero, List.set_cons_succ] at hset
    have hS : RiIs (w1.setCell ⟨g, 3, none⟩ (.int .i64 1)) g A n c ⟨at_, nx, 1⟩ := ⟨hset, h1.nx⟩
    have hcS := hc1.set_ 3 (.int .i64 1)
    clear hset
    by_cases d1 : z < 1
    · obtain ⟨e1, e2⟩ := hno (by rw [unhide HM]; exact decide_eq_false (fun h => by omega))
      subst e1 e2
      have d1 : decide (z < 1) = true := decide_eq_true d1
      clear HT HZ HM hno
      go_wp2_with fail
      go_ret
      exact ⟨rfl, hS, hcS⟩
    · by_cases d2 : m < z
      · obtain ⟨e1, e2⟩ := hno (by rw [unhide HM]; exact decide_eq_false (fun h => by omega))
        subst e1 e2
        have d1 : decide (z < 1) = false := decide_eq_false d1
        have d2 : decide (m < z) = true := decide_eq_true d2
        clear HT HZ HM hno
        go_wp2_with fail
        go_ret
        exact ⟨rfl, hS, hcS⟩
      · have hk : mayMany m z = true := by rw [unhide HM]; exact decide_eq_true ⟨by omega, by omega⟩
        have e1 : T = ⟨at_, nx, 0⟩ := by rw [unhide HT, hk]; exact rdMust_ok
        have e2 : Z = z := by rw [unhide HZ, e1]; rfl
        subst e1 e2
        have d1 : decide (Z < 1) = false := decide_eq_false d1
        have d2 : decide (m < Z) = false := decide_eq_false d2
        clear HT HZ HM hno hS hcS hk
        go_wp2_with fail
        go_ret
        exact ⟨rfl, h1, hc1⟩
  · have e1 : T = ⟨at_, nx, bad⟩ := by rw [unhide HT]; exact rdMust_bad h0
    have e2 : Z = 0 := by rw [unhide HZ, e1]; exact if_neg h0
    subst e1 e2
    have d0 : (bad == 0) = false := by simpa using h0
    clear HT HZ HM h0
    go_wp2_with fail
    go_ret
    exact ⟨rfl, h1, hc1⟩
end Go.Proofs.YtijgiieoinmjhaaDoor
