/- Part 23 of what LawPathTells needs: Reach. Conditions: as each lemma names. -/
import Derived.Test.YtibbohebmmahmaaGreatDoorPkPathTells16
import Derived.Test.YtibbohebmmahmaaGreatDoorPkPathTells22
/- path.Region, path.Reach. Conditions: as each lemma names. -/
namespace Go.Proofs.YtibbohebmmahmaaGreatDoor
set_option linter.unusedVariables false
set_option linter.unusedSimpArgs false
open Go.RowKit

/-! ### Region's listener -/
def RegT (go : Nat) : World → Nat → Prop := fun _ k => k = go
def RegOf (go n B0 : Nat) (w : World) (v : Value) : Option (List Sp) → Prop
  | none => v = .slice none 0 0
  | some l => ∃ A c, v = .slice A n c ∧ SReads w w.heap.size A n l ∧ Soft B0 w A ∧ (∀ a, A = some a → a.block ≠ go) ∧ l.length = n ∧ (A = none → c = 0)
def RegJ (go n leaf B0 : Nat) (pl : Addr) (ys : List (Nat × List Sp)) (w : World) : Prop := w.cell? pl = some (.int .i64 leaf) ∧ pl.block ≠ go ∧ ∃ v, Blk w go 24 #[v] ∧ RegOf go n B0 w v (lastAt ys leaf)
theorem reg_ear (go n leaf B0 : Nat) (pl : Addr) (h : B0 ≤ go) : Ear (RegT go) (RegJ go n leaf B0 pl) B0 :=
  ⟨fun pre w k hJ hk => by obtain ⟨_, _, v, hv, _⟩ := hJ; cases hk; exact ⟨hv.lt, h⟩, fun pre w w' hJ hb => by
    obtain ⟨h1, h2, v, hv, h3⟩ := hJ
    refine ⟨⟨(hb.cell (p := pl) (cell_lt h1)).trans h1, h2, v, hv.below hb hv.lt, ?_⟩, fun _ h => h⟩
    cases hl : lastAt pre leaf with
    | none => rw [hl] at h3; exact h3
    | some l =>
      rw [hl] at h3
      obtain ⟨A, c, e, hr, hs, hn, hl2, hc⟩ := h3
      exact ⟨A, c, e, (hr.below hb).more hb.size, hs.below hb, hn, hl2, hc⟩⟩
set_option maxRecDepth 100000 in
theorem reg1_step (go n leaf B0 : Nat) (pl : Addr) (h : B0 ≤ go) (pre : List (Nat × List Sp)) (k : Nat) (l : List Sp) (A : Option Addr) (c : Nat) (w : World) (hJ : RegJ go n leaf B0 pl pre w) (hl : SReads w w.heap.size A n l) (hA : A = none → c = 0) (hT : ∀ a, A = some a → ¬ RegT go w a.block) (hs : Soft B0 w A) (hk : k ≤ maxLen) (hlf : leaf ≤ maxLen) :
    Calls Tryz.prog 35 #[.int .i64 k, .slice A n c, .pointer (some pl), .pointer (some ⟨go, 0, none⟩)] w (Hear (RegT go) (RegJ go n leaf B0 pl) (pre ++ [(k, l)]) w) := by
  obtain ⟨h1, h2, v, hv, h3⟩ := hJ
  have c0 := hv.cell 0
  have f0 := hv.frozen 0
  simp at c0
  unfold maxLen at hk hlf
  by_cases he : k = leaf
  · subst he
    have HL := hide (lastAt_same pre k l)
    have hts : Touch (RegT go) w (w.setCell ⟨go, 0, none⟩ (.slice A n c)) := touch_set (p := ⟨go, 0, none⟩) rfl _
    have hpl : (w.setCell ⟨go, 0, none⟩ (.slice A n c)).cell? pl = some (.int .i64 k) := by
      rw [World.cell?_setCell_other _ _ _ _ (fun e => h2 (by rw [← e]))]; exact h1
    have HP := hide hpl
    clear hpl h3
    go_enter Tryz.func35, Tryz.ntmps35
    go_wp2_with fail
    go_end0
    refine ⟨⟨_, rfl⟩, ⟨unhide HP, h2, .slice A n c, by simpa using hv.set_ 0 (.slice A n c), ?_⟩, hts⟩
    rw [unhide HL]
    refine ⟨A, c, rfl, (Reads.touch hl hts (Nat.le_refl _) hT).more hts.size, hs.keep (fun a e => Below.heap_setCell _ _ _ _ (fun h => hT a e h)), (fun a e h => hT a e h), hl.len, hA⟩
  · have hne : (k == leaf) = false := by simpa using he
    have HJ : Hid (RegJ go n leaf B0 pl (pre ++ [(k, l)]) w) := hide ⟨h1, h2, v, hv, by rw [lastAt_other pre l he]; exact h3⟩
    clear h3
    go_enter Tryz.func35, Tryz.ntmps35
    go_wp2_with fail
    go_end0
    exact ⟨⟨_, rfl⟩, unhide HJ, Touch.refl _ _⟩

def regE (t : List Nd) (fe leaf : Int) : Int := if treeE t fe = 0 then (match t[leaf.toNat]? with
  | some x => if leaf < 0 then 1 else if x.f = -1 then 0 else 1
  | none => 1) else treeE t fe
def mixL (l : List Sp) (k : Nat) : List Sp := (l.take k).map fixS ++ l.drop k
theorem mixL_at {l : List Sp} {k : Nat} : (mixL l k)[k]? = l[k]? := by
  unfold mixL
  by_cases h : k ≤ l.length
  · rw [List.getElem?_append_right (by simp; omega), List.getElem?_drop]
    congr 1
    simp; omega
  · rw [List.getElem?_append_right (by simp; omega), List.getElem?_drop, List.getElem?_eq_none (by simp; omega), List.getElem?_eq_none (by omega)]
theorem mixL_next {l : List Sp} {k : Nat} {s : Sp} (h : l[k]? = some s) : (mixL l k).set k (fixS s) = mixL l (k + 1) := by
  have hk : k < l.length := (List.getElem?_eq_some_iff.1 h).1
  unfold mixL
  rw [take_next h, drop_at h, List.set_append_right _ _ (by simp; omega), List.map_append, List.append_assoc]
  congr 1
  simp
  rw [show k - min k l.length = 0 by omega]
  rfl
theorem mixL_keep {l : List Sp} {k : Nat} {s : Sp} (h : l[k]? = some s) (hs : fixS s = s) : mixL l (k + 1) = mixL l k := by
  rw [← mixL_next h, hs]
  refine List.ext_getElem? fun j => ?_
  rw [List.getElem?_set]
  split
  · rename_i e; subst e
    split
    · rw [mixL_at, h]
    · rename_i h2; rw [List.getElem?_eq_none (by omega)]
  · rfl
/-- what Region tells -/
def RegPost (t : List Nd) (fe leaf : Int) (w : World) (e : Ending) (w' : World) : Prop :=
  ∃ A n c l, e = .returned (.tuple #[.slice A n c, .bool (regE t fe leaf == 0 && anyB l), errV (regE t fe leaf)]) ∧ SReads w' w'.heap.size A n l ∧ (regE t fe leaf = 0 → (n : Int) = fe ∧ l = (regL t fe.toNat leaf.toNat).map fixS) ∧ (regE t fe leaf ≠ 0 → n = 0) ∧ Below w.heap.size w w'
theorem RegPost.fault {t : List Nd} {fe leaf : Int} {w w' : World} (h : regE t fe leaf ≠ 0) (hb : Below w.heap.size w w') : RegPost t fe leaf w (.returned (.tuple #[.slice none 0 0, .bool false, errV (regE t fe leaf)])) w' :=
  ⟨none, 0, 0, [], by rw [show (regE t fe leaf == 0) = false by simpa using h]; rfl, ⟨rfl, fun h => absurd h (by omega)⟩, fun h' => absurd h' h, fun _ => rfl, hb⟩

set_option maxRecDepth 100000 in
set_option maxHeartbeats 4000000 in
theorem Region_any (A : Option Addr) (m d : Nat) (t : List Nd) (fe leaf : Int) (w : World) (ht : NReads w w.heap.size A m t) (hm : m ≤ maxLen) :
    Calls Tryz.prog 14 #[.slice A m d, .int .i64 fe, .int .i64 leaf] w (RegPost t fe leaf w) := by
  have hlen := ht.len
  have hs0 : (w.alloc (.cells #[.int .i64 leaf] 3)).heap.size = w.heap.size + 1 := by simp
  have bl := Blk.new w 3 #[.int .i64 leaf]
  have hb0 : Below w.heap.size w (w.alloc (.cells #[.int .i64 leaf] 3)) := (Below.refl _ _).alloc (Nat.le_refl _) _
  have hck := check_any A m d fe t (w.alloc (.cells #[.int .i64 leaf] 3)) ((ht.below hb0).more hb0.size) hm
  by_cases h0 : treeE t fe = 0
  · have hR := right_of h0
    have hv := errV_0 h0
    by_cases h1 : leaf < 0
    · have HE : Hid (regE t fe leaf = 1) := hide (by unfold regE; rw [if_pos h0]; split <;> simp [h1])
      have d1 : decide (leaf < 0) = true := by simpa using h1
      clear hR h0
      go_enter Tryz.func14, Tryz.ntmps14
      go_wp2_with fail
      refine hck.mono ?_
      rintro e w1 ⟨rfl, hb1⟩
      rw [hv]
      clear hv hck
      have c1 := (bl.below hb1 (by omega)).cell 0
      simp at c1
      go_wp2_with fail
      go_ret3
      have := RegPost.fault (t := t) (fe := fe) (leaf := leaf) (w' := w1) (by rw [unhide HE]; decide) (hb0.trans (hb1.mono hb0.size))
      rw [unhide HE] at this
      exact this
    by_cases h2 : (m : Int) ≤ leaf
    · have HE : Hid (regE t fe leaf = 1) := hide (by
        unfold regE; rw [if_pos h0]
        have hn : t[leaf.toNat]? = none := List.getElem?_eq_none (by omega)
        rw [hn])
      have d1 : decide (leaf < 0) = false := by simp; omega
      have d2 : decide ((m : Int) ≤ leaf) = true := by simpa using h2
      clear hR h0
      go_enter Tryz.func14, Tryz.ntmps14
      go_wp2_with fail
      refine hck.mono ?_
      rintro e w1 ⟨rfl, hb1⟩
      rw [hv]
      clear hv hck
      have c1 := (bl.below hb1 (by omega)).cell 0
      simp at c1
      go_wp2_with fail
      go_ret3
      have := RegPost.fault (t := t) (fe := fe) (leaf := leaf) (w' := w1) (by rw [unhide HE]; decide) (hb0.trans (hb1.mono hb0.size))
      rw [unhide HE] at this
      exact this
    obtain ⟨lf, rfl⟩ : ∃ k : Nat, leaf = k := ⟨leaf.toNat, by omega⟩
    have hlm : lf < m := by omega
    obtain ⟨b, o, x, rfl, hbb, hx, g0, g1, g2, g3, g4, g5⟩ := ht.get hlm
    have d1 : decide ((lf : Int) < 0) = false := by simp
    have d2 : decide ((m : Int) ≤ (lf : Int)) = false := by simp; omega
    have q0 := hb0.cell (p := ⟨b, o + lf * 6, none⟩) hbb
    by_cases hf : x.f = -1
    case neg =>
      have HE : Hid (regE t fe lf = 1) := hide (by
        unfold regE; rw [if_pos h0, Int.toNat_natCast, hx]; simp [hf])
      have hnf : (x.f != -1) = true := by simpa using hf
      have g9 := q0.trans g0
      clear hR h0 hf hx
      go_enter Tryz.func14, Tryz.ntmps14
      go_wp2_with fail
      refine hck.mono ?_
      rintro e w1 ⟨rfl, hb1⟩
      rw [hv]
      clear hv hck
      have c1 := (bl.below hb1 (by omega)).cell 0
      simp at c1
      have g10 := (hb1.cell (p := ⟨b, o + lf * 6, none⟩) (by show b < _; omega)).trans g9
      go_wp2_with fail
      go_ret3
      have := RegPost.fault (t := t) (fe := fe) (leaf := lf) (w' := w1) (by rw [unhide HE]; decide) (hb0.trans (hb1.mono hb0.size))
      rw [unhide HE] at this
      exact this
    obtain ⟨n, rfl⟩ : ∃ n : Nat, fe = n := ⟨fe.toNat, by have := hR.fe0; omega⟩
    have hn8 : n ≤ 8 := by have := hR.fe8; omega
    have hm63 : m ≤ 63 := by have := hR.most; omega
    have HE : Hid (regE t n lf = 0) := hide (by
      unfold regE; rw [if_pos h0, Int.toNat_natCast, hx]; simp [hf])
    have HRI := hide (regL_is hR hx hf)
    have HR := hide hR
    have g9 := q0.trans g0
    rw [hf] at g9
    clear hR h0 hf hx g0 g1 g2 g3 g4 g5
    go_enter Tryz.func14, Tryz.ntmps14
    go_wp2_with fail
    refine hck.mono ?_
    rintro e w1 ⟨rfl, hb1⟩
    rw [hv]
    clear hv hck
    have c1 := (bl.below hb1 (by omega)).cell 0
    simp at c1
    have g10 := (hb1.cell (p := ⟨b, o + lf * 6, none⟩) (by show b < _; omega)).trans g9
    have hz1 := hb1.size
    have hB1 : Below w.heap.size w w1 := hb0.trans (hb1.mono hb0.size)
    have bo := Blk.new w1 24 #[.slice none 0 0]
    have hB2 : Below w.heap.size w (w1.alloc (.cells #[.slice none 0 0] 24)) := hB1.alloc hB1.size _
    have c2 := (World.cell?_alloc_lt w1 (.cells #[.slice none 0 0] 24) ⟨w.heap.size, 0, none⟩ (by show w.heap.size < _; omega)).trans c1
    have hs2 : (w1.alloc (.cells #[.slice none 0 0] 24)).heap.size = w1.heap.size + 1 := by simp
    go_wp2_with fail
    refine (wide_any n hn8 _).mono ?_
    rintro e w3 ⟨A3, k3, rfl, hr3, hA3, hnew3, hso3, hb3⟩
    rw [hs2] at hnew3 hb3
    have hB3 := hB2.trans (hb3.mono (by omega))
    have c3 := (hb3.cell (p := ⟨w.heap.size, 0, none⟩) (by show w.heap.size < _; omega)).trans c2
    have bo3 := bo.below hb3 (by omega)
    have hlv := leavesW_any (RegT w1.heap.size) (RegJ w1.heap.size n lf w.heap.size ⟨w.heap.size, 0, none⟩) w.heap.size (reg_ear _ _ _ _ _ (by omega)) 35 #[.pointer (some ⟨w.heap.size, 0, none⟩), .pointer (some ⟨w1.heap.size, 0, none⟩)] (enters_of Tryz.func35 (by kernel_rfl) rfl) n (by omega) (some ⟨b, o, none⟩) m d t hm (unhide HR).behind (unhide HR).asks (unhide HR).fit.cut True (lv t m 0 (wideL n)).length
      (fun pre k l' A' c' w' hy hJ hl' hc' hT' hS' _ => by
        obtain ⟨y, hy, _⟩ := hy
        have hk := (List.getElem?_eq_some_iff.1 hy).1
        exact reg1_step _ n lf w.heap.size _ (by omega) pre k l' A' c' w' hJ hl' hc' hT' (hS' trivial) (by unfold maxLen; omega) (by unfold maxLen; omega))
      m 0 (wideL n) [] A3 k3 w3 (by omega) (by omega) (ht.below hB3) hB3.size ⟨c3, by show w.heap.size ≠ _; omega, _, bo3, rfl⟩ hr3 hA3 (fun a e h => by have := hnew3 a e; unfold RegT at h; omega) (fun _ => hso3.low (by omega)) (by simp)
    go_wp2_with fail
    refine hlv.mono ?_
    clear hlv
    rintro e w4 ⟨⟨v4, rfl⟩, ⟨c4, _, v, hv4, hof⟩, hT4⟩
    have hB4 : Below w.heap.size w w4 := hB3.trans (hT4.below hB3.size (fun g hg => by unfold RegT at hg; omega))
    rw [List.nil_append, ← hlen, (unhide HRI).1] at hof
    obtain ⟨A4, k4, rfl, hr4, hso4, hne4, hln4, hA4⟩ := hof
    have c5 := hv4.cell 0
    simp at c5
    clear c1 c2 c3 c4 g9 g10 bo bo3 bl hr3 hso3 hb3 hB3 hB2 hB1 hb1 hb0 q0 d1 d2
    obtain ⟨R, hRL⟩ : ∃ R, R = regL t n lf := ⟨_, rfl⟩
    rw [← hRL] at hr4 hln4
    have HLN := hide hln4
    have HRL := hide hRL
    clear hRL hln4 hT4 ht hv4
    go_wp2_with fail
    go_loopw [12, 13, 47] (fun _ _ i wr => ∃ k : Nat, k ≤ n ∧ i = .int .i64 k ∧ SReads wr w4.heap.size A4 n (mixL R k) ∧ Soft w.heap.size wr A4 ∧ wr.cell? ⟨w1.heap.size, 0, none⟩ = some (.slice A4 n k4) ∧ w4.heap.size ≤ wr.heap.size ∧ Below w.heap.size w wr) (fun _ _ i _ => n - (intOf i).toNat)
    case atStart => exact ⟨0, Nat.zero_le _, rfl, by simpa [mixL] using hr4, hso4, c5, Nat.le_refl _, hB4⟩
    case round =>
      obtain ⟨k, hk, rfl, hs, hso, hc, hz, hbel⟩ := hrel
      clear c5 hr4 hso4 hB4
      by_cases hlt : k < n
      · obtain ⟨b6, o6, s, rfl, hb6, hx6, e0, e1, e2⟩ := hs.get hlt
        have hx7 : R[k]? = some s := by rw [← mixL_at]; exact hx6
        have HNX := hide (mixL_next hx7)
        have HKP := hide (mixL_keep hx7)
        obtain ⟨s0, s1, s2⟩ := s
        dsimp only at e0 e1 e2
        have hbs : b6 < wr.heap.size := by omega
        have hcn := cell_alloc hc (by have := cell_lt hc; exact this)
        obtain ⟨hge, cs, hblk⟩ := hso _ rfl
        dsimp only at hge hblk
        have hblk2 : ∀ o, Blk (wr.alloc o) b6 44 cs := fun o => hblk.alloc o
        have f0 := fun o => (hblk2 o).frozen (o6 + k * 3)
        have f1 := fun o => (hblk2 o).frozen (o6 + k * 3 + 1)
        have e0' := cell_alloc e0 (by exact hbs)
        have e1' := cell_alloc e1 (by exact hbs)
        clear hx6 hx7
        by_cases hle : s0 ≤ s1
        · have HK2 := hide (unhide HKP (by simp [fixS, hle]))
          go_wp2_with fail
          go_roundw
          case rel => exact ⟨k + 1, by omega, by go_num, by rw [unhide HK2]; exact Reads.alloc hs hz _, hso.below ((Below.refl _ _).alloc (Nat.le_refl _) _), hcn _, by simp; omega, hbel.alloc hbel.size _⟩
          case measure => simp [intOf]; omega
        · have hfx : fixS ⟨s0, s1, s2⟩ = ⟨1, 0, s2⟩ := by simp [fixS, hle]
          have HN2 := hide (by have := unhide HNX; rwa [hfx] at this)
          obtain ⟨Z, hZ⟩ : ∃ Z, Z = Obj.cells #[.int .i64 s0, .int .i64 s1, .bool s2] 44 := ⟨_, rfl⟩
          have bs := Blk.new wr 44 #[.int .i64 s0, .int .i64 s1, .bool s2]
          rw [← hZ] at bs
          have a0 : SReads (wr.alloc Z) w4.heap.size (some ⟨b6, o6, none⟩) n (mixL R k) := Reads.alloc hs hz Z
          have a1 := e0' Z
          have a2 := e1' Z
          have a3 := cell_alloc e2 (by exact hbs) Z
          have a4 := hcn Z
          have a5 : Soft w.heap.size (wr.alloc Z) (some ⟨b6, o6, none⟩) := hso.below ((Below.refl _ _).alloc (Nat.le_refl _) _)
          have a6 : Below w.heap.size w (wr.alloc Z) := hbel.alloc hbel.size _
          have a7 : (wr.alloc Z).heap.size = wr.heap.size + 1 := by simp
          have hd0 : decide (s1 < s0) = true := by simp; omega
          have HZ := hide hZ
          clear hZ hcn hblk hblk2 f0 f1 e0' e1' hs hso hc hbel
          go_wp2_with fail
          rw [← unhide HZ]
          generalize wr.alloc Z = W1 at *
          obtain ⟨_, cs2, hblk⟩ := a5 _ rfl
          dsimp only at hblk
          have f0 := hblk.frozen (o6 + k * 3)
          have f1 := hblk.frozen (o6 + k * 3 + 1)
          have hne6 : b6 ≠ w1.heap.size := hne4 _ rfl
          have k0 : ∀ u, (W1.setCell ⟨b6, o6 + k * 3, none⟩ u).cell? ⟨w1.heap.size, 0, none⟩ = some (.slice (some ⟨b6, o6, none⟩) n k4) := fun u => by rw [World.cell?_setCell_other _ _ _ _ (by intro e; injection e; omega)]; exact a4
          have k1 : ∀ u, (W1.setCell ⟨b6, o6 + k * 3 + 1, none⟩ u).cell? ⟨w1.heap.size, 0, none⟩ = some (.slice (some ⟨b6, o6, none⟩) n k4) := fun u => by rw [World.cell?_setCell_other _ _ _ _ (by intro e; injection e; omega)]; exact a4
          go_region
          go_wp2_with fail
          go_roundw
          case rel =>
            refine ⟨k + 1, by omega, by go_num, ?_, ?_, ?_, by show w4.heap.size ≤ ((W1.setCell _ _).setCell _ _).heap.size; simp [World.setCell]; omega, ((a6.setCell (p := ⟨b6, o6 + k * 3, none⟩) hge _).setCell (p := ⟨b6, o6 + k * 3 + 1, none⟩) hge _).drew⟩
            · rw [← unhide HN2]
              refine SReads.set_ (w := W1) a0 hlt _ (fun j h1 h2 h3 => two_other (by omega) (by omega)) ?_ ?_ ?_
              · exact two_first (by omega) a1
              · exact two_last (by omega) a2
              · exact (two_other (by omega) (by omega)).trans a3
            · intro a e
              cases e
              exact ⟨hge, _, ((hblk.set_ _ _).set_ _ _).drew⟩
            · show ((W1.setCell _ _).setCell _ _).cell? _ = _
              rw [World.cell?_setCell_other _ _ _ _ (by intro e; injection e; omega)]
              exact k0 _
          case measure => simp [intOf]; omega
      · obtain rfl : k = n := by omega
        have hmx : mixL R k = R.map fixS := by
          unfold mixL
          rw [List.take_of_length_le (by rw [unhide HLN]; exact Nat.le_refl _), List.drop_of_length_le (by rw [unhide HLN]; exact Nat.le_refl _), List.append_nil]
        rw [hmx] at hs
        have hlc := cell_lt hc
        go_wp2_with fail
        go_region_held3 (fun w' => w'.cell? ⟨w1.heap.size, 0, none⟩ = some (.slice A4 k k4))
          (go_keep)
          ((go_at_call 36; refine (any_any A4 k k4 w4.heap.size (R.map fixS) _ (Reads.drew hs) hz (by omega)).mono ?_; rintro e w5 ⟨rfl, hb5⟩; have q5 := hb5.cell (p := ⟨w1.heap.size, 0, none⟩) hlc))
        go_wp2_with fail
        go_ret3
        have hb6 : Below wr.heap.size wr w5 := ⟨hb5.os, hb5.tape, hb5.output, hb5.size, hb5.block⟩
        refine ⟨A4, k, k4, R.map fixS, by rw [unhide HE]; rfl, (hs.below (hb6.mono hz)).more (Nat.le_trans hz hb6.size), fun _ => ⟨rfl, ?_⟩, fun h => absurd (unhide HE) h, hbel.trans (hb6.mono hbel.size)⟩
        rw [Int.toNat_natCast, Int.toNat_natCast, ← unhide HRL]
  · have hv := errV_1 h0
    have HV := hide hv
    have HE : Hid (regE t fe leaf = treeE t fe) := hide (by unfold regE; rw [if_neg h0])
    have HN := hide h0
    clear h0
    go_enter Tryz.func14, Tryz.ntmps14
    go_wp2_with fail
    refine hck.mono ?_
    rintro e w1 ⟨rfl, hb1⟩
    rw [hv]
    clear hv hck
    go_wp2_with fail
    go_ret3
    have := RegPost.fault (t := t) (fe := fe) (leaf := leaf) (w' := w1) (by rw [unhide HE]; exact unhide HN) (hb0.trans (hb1.mono hb0.size))
    rw [unhide HE, unhide HV] at this
    exact this
end Go.Proofs.YtibbohebmmahmaaGreatDoor
