/- Part 13 of what LawLimitTells needs: Limit. Conditions: as each lemma names. -/
import Derived.Test.YtafaedhjlmkamaaGreatDoorPkLimitTells12
/- Package limit: of's listener, of. Conditions: as each lemma names. -/
namespace Go.Proofs.YtafaedhjlmkamaaGreatDoor
set_option linter.unusedVariables false
set_option linter.unusedSimpArgs false
open Go.RowKit

/-- the spans of a leaf to which some row comes, as they were heard -/
def rowOf (ys : List (Nat × List Sp)) (i : Nat) : Option (List Sp) := ((ys.filter fun p => p.1 == i && anyB p.2).map (·.2)).getLast?
theorem rowOf_same (ys : List (Nat × List Sp)) (i : Nat) (l : List Sp) (h : anyB l = true) : rowOf (ys ++ [(i, l)]) i = some l := by unfold rowOf; simp [h]
theorem rowOf_other (ys : List (Nat × List Sp)) {i k : Nat} (l : List Sp) (h : k ≠ i) : rowOf (ys ++ [(k, l)]) i = rowOf ys i := by unfold rowOf; rw [List.filter_append]; simp [h]
theorem rowOf_none (ys : List (Nat × List Sp)) (i k : Nat) (l : List Sp) (h : anyB l = false) : rowOf (ys ++ [(k, l)]) i = rowOf ys i := by unfold rowOf; rw [List.filter_append]; simp [h]

def LimT (r : Nat) : World → Nat → Prop := fun _ k => k = r
/-- what lies at a leaf's place -/
def LimAt (r n : Nat) (w : World) (v : Value) : Option (List Sp) → Prop
  | none => v = .slice none 0 0
  | some l => ∃ a c, v = .slice (some a) n c ∧ IReads w w.heap.size (some a) n (pickL l) ∧ r < a.block ∧ a.block < w.heap.size ∧ n ≤ c
def LimJ (r m n B0 : Nat) (pl : Addr) (ys : List (Nat × List Sp)) (w : World) : Prop :=
  w.cell? pl = some (.slice (some ⟨r, 0, none⟩) m m) ∧ pl.block ≠ r ∧ ∃ vals : List Value, vals.length = m ∧ Blk w r 24 vals.toArray ∧ ∀ (i : Nat) v, vals[i]? = some v → LimAt r n w v (rowOf ys i)
theorem LimAt.below {r n : Nat} {w w' : World} {v : Value} {o : Option (List Sp)} (h : LimAt r n w v o) (hb : Below w.heap.size w w') : LimAt r n w' v o := by
  cases o with
  | none => exact h
  | some l =>
    obtain ⟨a, c, e, h1, h2, h3, h4⟩ := h
    exact ⟨a, c, e, (h1.below hb).more hb.size, h2, Nat.lt_of_lt_of_le h3 hb.size, h4⟩
theorem LimAt.set_ {r n : Nat} {w : World} {v : Value} {o : Option (List Sp)} (h : LimAt r n w v o) (i : Nat) (u : Value) : LimAt r n (w.setCell ⟨r, i, none⟩ u) v o := by
  cases o with
  | none => exact h
  | some l =>
    obtain ⟨a, c, e, h1, h2, h3, h4⟩ := h
    have hz : (w.setCell ⟨r, i, none⟩ u).heap.size = w.heap.size := by simp [World.setCell]
    refine ⟨a, c, e, ?_, h2, by rw [hz]; exact h3, h4⟩
    rw [hz]
    exact Reads.touch h1 (T := LimT r) (touch_set (p := ⟨r, i, none⟩) rfl u) (Nat.le_refl _) (fun a' e' h' => by cases e'; have : a.block = r := h'; omega)
theorem lim_ear (r m n B0 : Nat) (pl : Addr) (h : B0 ≤ r) : Ear (LimT r) (LimJ r m n B0 pl) B0 :=
  ⟨fun pre w k hJ hk => by obtain ⟨_, _, vals, _, hv, _⟩ := hJ; cases hk; exact ⟨hv.lt, h⟩, fun pre w w' hJ hb => by
    obtain ⟨h1, h2, vals, hl, hv, h3⟩ := hJ
    exact ⟨⟨(hb.cell (p := pl) (cell_lt h1)).trans h1, h2, vals, hl, hv.below hb hv.lt, fun i v hi => (h3 i v hi).below hb⟩, fun _ h => h⟩⟩

set_option maxRecDepth 100000 in
set_option maxHeartbeats 1000000 in
theorem lim1_step (r m n B0 : Nat) (hn : n ≤ 100000000) (pl : Addr) (h : B0 ≤ r) (pre : List (Nat × List Sp)) (k : Nat) (hkm : k < m) (hm : m ≤ maxLen) (l : List Sp) (A : Option Addr) (c : Nat) (w : World) (hJ : LimJ r m n B0 pl pre w) (hl : SReads w w.heap.size A n l) :
    Calls Tryz.prog 41 #[.int .i64 k, .slice A n c, .pointer (some pl)] w (Hear (LimT r) (LimJ r m n B0 pl) (pre ++ [(k, l)]) w) := by
  obtain ⟨h1, h2, vals, hvl, hv, h3⟩ := id hJ
  unfold maxLen at hm
  have hrl := hv.lt
  have hpl := cell_lt h1
  have HJ := hide hJ
  have H3 := hide h3
  clear hJ h3
  go_enter Tryz.func41, Tryz.ntmps41
  go_wp2_with fail
  refine (any_any A n c w.heap.size l w hl (Nat.le_refl _) hn).mono ?_
  rintro e w1 ⟨rfl, hb1⟩
  have hJ1 := ((lim_ear r m n B0 pl h).keep _ _ _ (unhide HJ) hb1).1
  by_cases ha : anyB l = true
  · rw [ha]
    obtain ⟨q1, q2, vals1, hvl1, hv1, h31⟩ := hJ1
    have hs1 := hb1.size
    have hl1 : SReads w1 w1.heap.size A n l := (Reads.below hl hb1).more hs1
    have HP := hide (pick_any A n c w1.heap.size l w1.drew (Reads.drew hl1) (Nat.le_refl _) hn)
    have HS := hide (rowOf_same pre k l ha)
    have HO := hide (fun i (hi : k ≠ i) => rowOf_other pre (i := i) l hi)
    have hr1 := hv1.lt
    have hp1 := cell_lt q1
    have hkl : k < vals1.length := by omega
    have ck : w1.cell? ⟨r, k, none⟩ = some vals1[k] := by rw [hv1.cell k]; simp [hkl]
    have fk : w1.frozen? ⟨r, k, none⟩ = false := hv1.frozen k
    have H31 := hide h31
    have hl0 := hl.len
    clear ha HJ H3 h31 h1 hv hl hl1 hpl hrl
    go_wp2_with fail
    go_region_held3 (fun w' => w'.cell? pl = some (.slice (some ⟨r, 0, none⟩) m m))
      (first | go_keep | exact unhide hkk | (rw [World.cell?_setCell_other _ _ _ _ (fun e => q2 (by rw [← e]))]; exact unhide hkk))
      ((go_at_call 43
        refine (unhide HP).mono ?_
        rintro e w2 ⟨v2, rfl, hown, hnil, hb2⟩
        obtain ⟨A2, c2, hv2, hr2, _, hc2⟩ := own_slice hown
        subst hv2
        have hb2' : Below w1.heap.size w1 w2 := ⟨hb2.os, hb2.tape, hb2.output, hb2.size, hb2.block⟩
        have hkk : Hid (w2.cell? pl = some (.slice (some ⟨r, 0, none⟩) m m)) := hide ((hb2'.cell (p := pl) hp1).trans q1)
        have ck2 := (hb2'.cell (p := ⟨r, k, none⟩) hr1).trans ck
        have fk2 := (hb2'.frozen (p := ⟨r, k, none⟩) hr1).trans fk))
    have hs2 := hb2'.size
    have hT12 : Touch (LimT r) w w2 := Touch.of_below (hb1.trans (hb2'.mono hs1)) (fun _ h => h)
    have hb2L : ∀ (i : Nat) v, vals1[i]? = some v → LimAt r n w2 v (rowOf pre i) := fun i v hi => (unhide H31 i v hi).below hb2'
    have hv2 := hv1.below hb2' hr1
    have cX : ∀ u, (w2.setCell ⟨r, k, none⟩ u).cell? pl = some (.slice (some ⟨r, 0, none⟩) m m) := fun u => by rw [World.cell?_setCell_other _ _ _ _ (fun e => q2 (by rw [← e]))]; exact unhide hkk
    have bX : ∀ u, Blk (w2.setCell ⟨r, k, none⟩ u) r 24 (vals1.set k u).toArray := fun u => by rw [← List.setIfInBounds_toArray]; exact hv2.set_ k u
    have hTX : ∀ u, Touch (LimT r) w2 (w2.setCell ⟨r, k, none⟩ u) := fun u => touch_set (p := ⟨r, k, none⟩) rfl u
    have hrl2 := hv2.lt
    have HFin : Hid (∀ (W : World) (u : Value), (∀ i v, vals1[i]? = some v → LimAt r n W v (rowOf pre i)) → LimAt r n W u (some l) → ∀ i v, (vals1.set k u)[i]? = some v → LimAt r n W v (rowOf (pre ++ [(k, l)]) i)) := hide (fun W u g1 g2 i v hi => by
      by_cases hik : k = i
      · subst hik
        rw [List.getElem?_set_self hkl] at hi
        injection hi with hi
        subst hi
        rw [unhide HS]; exact g2
      · rw [List.getElem?_set_ne hik] at hi
        rw [unhide HO i hik]; exact g1 i v hi)
    rename_i hHeld
    clear hb1 hb2 hv1 H31 ck ck2 fk fk2 HP hb2' hkk q1 hHeld HS HO
    by_cases hn0 : n = 0
    · subst hn0
      have hz := hnil.2 rfl
      injection hz with hz1 hz2 hz3
      subst hz1 hz3
      have hq := fun (W : World) => Lib.run_eql_slice_nil (P := Tryz.prog) W 24 3 none 0 0 0 0 Tryz.underlying24
      obtain ⟨X, hX⟩ : ∃ X, X = w2.setCell ⟨r, k, none⟩ (.slice none 0 0) := ⟨_, rfl⟩
      rw [← hX]
      have cX1 := cX (.slice none 0 0)
      have bX1 := bX (.slice none 0 0)
      have hTX1 := hTX (.slice none 0 0)
      rw [← hX] at cX1 bX1 hTX1
      have hLX : ∀ (i : Nat) v, vals1[i]? = some v → LimAt r 0 X v (rowOf pre i) := fun i v hi => by rw [hX]; exact (hb2L i v hi).set_ k _
      have hrX : r < X.heap.size := bX1.lt
      have ckX : X.cell? ⟨r, k, none⟩ = some (.slice none 0 0) := by rw [bX1.cell k]; simp [hkl]
      have fkX : X.frozen? ⟨r, k, none⟩ = false := bX1.frozen k
      have HB := hide bX1
      have HLX := hide hLX
      have HTX := hide (hT12.trans hTX1)
      clear hX cX bX hTX bX1 hTX1 hLX hb2L hv2 hT12 hown hr2 hnil
      go_wp2_with fail
      go_end0
      have hzY : (X.setCell ⟨r, k, none⟩ (.slice (some ⟨X.heap.size, 0, none⟩) 0 0)).heap.size = X.heap.size := by simp [World.setCell]
      have hbZ : Below (X.setCell ⟨r, k, none⟩ (.slice (some ⟨X.heap.size, 0, none⟩) 0 0)).heap.size (X.setCell ⟨r, k, none⟩ (.slice (some ⟨X.heap.size, 0, none⟩) 0 0)) ((X.setCell ⟨r, k, none⟩ (.slice (some ⟨X.heap.size, 0, none⟩) 0 0)).alloc (.cells #[] 3)) := (Below.refl _ _).alloc (Nat.le_refl _) _
      have hpX := cell_lt cX1
      refine ⟨⟨_, rfl⟩, ⟨?_, q2, vals1.set k (.slice (some ⟨X.heap.size, 0, none⟩) 0 0), by rw [List.length_set]; exact hvl1, ?_, ?_⟩, (unhide HTX).trans ((touch_set (p := ⟨r, k, none⟩) rfl _).trans (Touch.of_below hbZ (fun _ h => h)))⟩
      · rw [World.cell?_alloc_lt _ _ pl (by rw [hzY]; exact hpX), World.cell?_setCell_other _ _ _ _ (fun e => q2 (by rw [← e]))]; exact cX1
      · have := ((unhide HB).set_ k (.slice (some ⟨X.heap.size, 0, none⟩) 0 0)).alloc (.cells #[] 3)
        rw [List.setIfInBounds_toArray, List.set_set] at this
        exact this
      · refine unhide HFin _ _ (fun i v hi => ((unhide HLX i v hi).set_ k _).below hbZ) ⟨_, 0, rfl, ⟨by simp [pickL, List.eq_nil_of_length_eq_zero hl0], fun h => absurd h (by omega)⟩, by show r < X.heap.size; omega, by rw [World.size_alloc, hzY]; exact Nat.lt_succ_self _, Nat.le_refl _⟩
    · have hAx : ∃ a, A2 = some a := by
        obtain ⟨a, e, _⟩ := hr2.2 (by omega)
        exact ⟨a, e⟩
      obtain ⟨a, rfl⟩ := hAx
      have hfr := own_fresh hown a rfl
      have hfr1 : w1.heap.size ≤ a.block := hfr.1
      have hr2' : IReads w2 w2.heap.size (some a) n (pickL l) := hr2
      have hq := fun (W : World) => Lib.run_eql_slice_nil (P := Tryz.prog) W 24 3 (some a) n c2 0 0 Tryz.underlying24
      obtain ⟨X, hX⟩ : ∃ X, X = w2.setCell ⟨r, k, none⟩ (.slice (some a) n c2) := ⟨_, rfl⟩
      rw [← hX]
      have cX1 := cX (.slice (some a) n c2)
      have bX1 := bX (.slice (some a) n c2)
      have hTX1 := hTX (.slice (some a) n c2)
      rw [← hX] at cX1 bX1 hTX1
      have hLX : ∀ (i : Nat) v, vals1[i]? = some v → LimAt r n X v (rowOf pre i) := fun i v hi => by rw [hX]; exact (hb2L i v hi).set_ k _
      have hne : r < a.block := by omega
      have hLl : LimAt r n X (.slice (some a) n c2) (some l) := by
        rw [hX]
        have hla : LimAt r n w2 (.slice (some a) n c2) (some l) := ⟨a, c2, rfl, hr2', hne, hfr.2, hc2⟩
        exact hla.set_ k _
      have ckX : X.cell? ⟨r, k, none⟩ = some (.slice (some a) n c2) := by rw [bX1.cell k]; simp [hkl]
      have HB := hide bX1
      have HLX := hide hLX
      have HLl := hide hLl
      have HTX := hide (hT12.trans hTX1)
      clear hX cX bX hTX bX1 hTX1 hLX hb2L hv2 hT12 hown hr2 hr2' hnil hLl hfr hfr1
      go_wp2_with fail
      go_end0
      exact ⟨⟨_, rfl⟩, ⟨cX1, q2, _, by rw [List.length_set]; exact hvl1, unhide HB, unhide HFin _ _ (unhide HLX) (unhide HLl)⟩, unhide HTX⟩
  · have ha' : anyB l = false := by simpa using ha
    rw [ha']
    have HJ2 : Hid (LimJ r m n B0 pl (pre ++ [(k, l)]) w1) := hide (by
      obtain ⟨q1, q2, vals', q3, q4, q5⟩ := hJ1
      exact ⟨q1, q2, vals', q3, q4, fun i v hi => by rw [rowOf_none _ _ _ _ ha']; exact q5 i v hi⟩)
    clear ha ha' hJ1
    go_wp2_with fail
    go_end0
    exact ⟨⟨_, rfl⟩, unhide HJ2, Touch.of_below hb1 (fun _ h => h)⟩
end Go.Proofs.YtafaedhjlmkamaaGreatDoor
