/- Part 39 of what LawFlatTells needs: RefLeaf, RefGrove, Fixed2, RefFix, RefGrove2. Conditions: as each lemma names. -/
import Derived.Test.YtcneacooedefjaaDoorPkFlatTells37
import Derived.Test.YtcneacooedefjaaDoorPkFlatTells06
import Derived.Test.YtcneacooedefjaaDoorPkFlatTells38
import Derived.Test.YtcneacooedefjaaDoorPkFlatTells20
import Derived.Lib.Agree
import Derived.Test.YtcneacooedefjaaDoorPkFlatTells23
import Derived.Test.YtcneacooedefjaaDoorPkFlatTells15
import Derived.Test.YtcneacooedefjaaDoorPkFlatTells25
/- The reference of the walk to a leaf: orchref1.Leaf (the leaf, and the way). Conditions: a tree in which what is below stands behind; a row that has the cells it asks. -/
namespace Go.Proofs.YtcneacooedefjaaDoor
set_option linter.unusedVariables false
set_option linter.unusedSimpArgs false
open Go.RowKit

def RLPost (t : List Nd) (row : List Int) (w : World) (e : Ending) (w' : World) : Prop :=
  ∃ v, e = .returned (.tuple #[.int .i64 (leafOf t row : Nat), v]) ∧ w'.ownsRow w.heap.size 3 1 v ((0 :: wayFrom t row t.length 0).length) ((0 :: wayFrom t row t.length 0).map (Value.int .i64)) ∧ Below w.heap.size w w'

end Go.Proofs.YtcneacooedefjaaDoor
/- The references of groves: orchref1.Grove, Stand, Each. Conditions: arguments read as groves and rows. -/
namespace Go.Proofs.YtcneacooedefjaaDoor
set_option linter.unusedVariables false
set_option linter.unusedSimpArgs false
open Go.RowKit

set_option maxRecDepth 100000 in
set_option maxHeartbeats 2000000 in
theorem rgrove_any (g : Gv) (w : World) (hr : GReads w w.heap.size g) :
    Calls Tryd.prog 13 #[g.val] w fun e w' => e = .returned (.int .i64 g.e) ∧ Below w.heap.size w w' := by
  obtain ⟨f, way, Aw, nw, cw, ws, At, nt, ct, ts⟩ := g
  have hlw := hr.ws.len
  have hlt := hr.ts.len
  have hnw := hr.nw
  have hnt := hr.nt
  have hwr := hr.ws
  have htr := hr.ts
  clear hr
  dsimp only at hlw hlt hnw hnt hwr htr
  unfold maxLen at hnw hnt
  simp only [Gv.val]
  have hlt' : (Gv.trees ⟨f, way, Aw, nw, cw, ws, At, nt, ct, ts⟩).length = nt := by rw [Gv.trees_len]; exact hlt
  obtain ⟨T, hT⟩ : ∃ T, T = Gv.trees ⟨f, way, Aw, nw, cw, ws, At, nt, ct, ts⟩ := ⟨_, rfl⟩
  have hE : (Gv.e ⟨f, way, Aw, nw, cw, ws, At, nt, ct, ts⟩) = groveE f way ws T := by rw [hT]; rfl
  rw [hE]
  rw [← hT] at hlt'
  have HT := hide hT
  have HLT := hide hlt'
  have HLW := hide hlw
  have HL := hide hlt
  clear hE hT hlt' hlw hlt
  have hb0 : Below w.heap.size w (w.alloc (.cells #[.int .i64 f, .int .i64 way, .slice Aw nw cw, .slice At nt ct] 25)) := (Below.refl _ _).alloc (Nat.le_refl _) _
  by_cases h1 : f < 0
  · have HE : Hid (groveE f way ws T = 1) := hide (by unfold groveE; rw [if_pos h1])
    have d1 : decide (f < 0) = true := decide_eq_true h1
    go_enter Tryd.func13, Tryd.ntmps13
    go_wp2_with fail
    go_ret
    exact ⟨by rw [unhide HE]; rfl, hb0⟩
  have d1 : decide (f < 0) = false := decide_eq_false h1
  by_cases h2 : 8 < f
  · have HE : Hid (groveE f way ws T = 1) := hide (by unfold groveE; rw [if_neg h1, if_pos h2])
    have d2 : decide (8 < f) = true := decide_eq_true h2
    go_enter Tryd.func13, Tryd.ntmps13
    go_wp2_with fail
    go_ret
    exact ⟨by rw [unhide HE]; rfl, hb0⟩
  have d2 : decide (8 < f) = false := decide_eq_false h2
  by_cases h3 : way < 1
  · have HE : Hid (groveE f way ws T = 1) := hide (by unfold groveE; rw [if_neg h1, if_neg h2, if_pos h3])
    have d3 : decide (way < 1) = true := decide_eq_true h3
    go_enter Tryd.func13, Tryd.ntmps13
    go_wp2_with fail
    go_ret
    exact ⟨by rw [unhide HE]; rfl, hb0⟩
  have d3 : decide (way < 1) = false := decide_eq_false h3
  by_cases h4 : 3 < way
  · have HE : Hid (groveE f way ws T = 1) := hide (by unfold groveE; rw [if_neg h1, if_neg h2, if_neg h3, if_pos h4])
    have d4 : decide (3 < way) = true := decide_eq_true h4
    go_enter Tryd.func13, Tryd.ntmps13
    go_wp2_with fail
    go_ret
    exact ⟨by rw [unhide HE]; rfl, hb0⟩
  have d4 : decide (3 < way) = false := decide_eq_false h4
  by_cases h5 : nt = 0
  · have HE : Hid (groveE f way ws T = 5) := hide (by unfold groveE; rw [if_neg h1, if_neg h2, if_neg h3, if_neg h4, unhide HLT, if_pos h5])
    have d5 : ((nt : Int) == 0) = true := by simp [h5]
    clear h5
    go_enter Tryd.func13, Tryd.ntmps13
    go_wp2_with fail
    go_ret
    exact ⟨by rw [unhide HE]; rfl, hb0⟩
  have d5 : ((nt : Int) == 0) = false := by simp; omega
  by_cases h6 : 12 < nt
  · have HE : Hid (groveE f way ws T = 4) := hide (by unfold groveE; rw [if_neg h1, if_neg h2, if_neg h3, if_neg h4, unhide HLT, if_neg h5, if_pos h6])
    have d6 : decide (12 < nt) = true := decide_eq_true h6
    go_enter Tryd.func13, Tryd.ntmps13
    go_wp2_with fail
    go_ret
    exact ⟨by rw [unhide HE]; rfl, hb0⟩
  have d6 : decide (12 < nt) = false := decide_eq_false h6
  by_cases h7 : nw = nt
  case neg =>
    have HE : Hid (groveE f way ws T = 3) := hide (by unfold groveE; rw [if_neg h1, if_neg h2, if_neg h3, if_neg h4, unhide HLT, if_neg h5, if_neg h6, if_neg (by rw [unhide HLW]; exact h7)])
    have d7 : ((nw : Int) != (nt : Int)) = true := by simp; omega
    go_enter Tryd.func13, Tryd.ntmps13
    go_wp2_with fail
    go_ret
    exact ⟨by rw [unhide HE]; rfl, hb0⟩
  subst h7
  have HE : Hid (groveE f way ws T = if weightsE ws = 0 then treesE f T else weightsE ws) := hide (by unfold groveE; rw [if_neg h1, if_neg h2, if_neg h3, if_neg h4, unhide HLT, if_neg h5, if_neg h6, if_pos (unhide HLW)])
  have hn12 : nw ≤ 12 := by omega
  clear h6 h5
  go_enter Tryd.func13, Tryd.ntmps13
  go_wp2_with fail
  obtain ⟨W, hW⟩ : ∃ W, W = w.alloc (.cells #[.int .i64 f, .int .i64 way, .slice Aw nw cw, .slice At nw ct] 25) := ⟨_, rfl⟩
  rw [← hW] at hb0 ⊢
  have bx : Blk W w.heap.size 25 #[.int .i64 f, .int .i64 way, .slice Aw nw cw, .slice At nw ct] := by rw [hW]; exact Blk.new _ _ _
  have hWs : W.heap.size = w.heap.size + 1 := by rw [hW]; simp
  clear hW
  obtain ⟨c0, c1, c2, c3⟩ : W.cell? ⟨w.heap.size, 0, none⟩ = some (.int .i64 f) ∧ W.cell? ⟨w.heap.size, 1, none⟩ = some (.int .i64 way) ∧ W.cell? ⟨w.heap.size, 2, none⟩ = some (.slice Aw nw cw) ∧ W.cell? ⟨w.heap.size, 3, none⟩ = some (.slice At nw ct) := ⟨bx.cell 0, bx.cell 1, bx.cell 2, bx.cell 3⟩
  have hwr1 := hwr.below hb0
  have htr1 := htr.below hb0
  clear hwr d5 d6 htr1
  go_loop [3] (fun i => ∃ k : Nat, k ≤ nw ∧ i = .int .i64 k ∧ Hid (∀ x ∈ ws.take k, 1 ≤ x ∧ x ≤ 1000)) (fun i => nw - (Lib.intOf i).toNat)
  case atStart => exact ⟨0, Nat.zero_le _, rfl, hide (by simp)⟩
  case round =>
    obtain ⟨k, hk, rfl, HG⟩ := hrel
    by_cases hlt : k < nw
    · obtain ⟨b, o, x, rfl, _, hx, hcx⟩ := hwr1.get hlt
      have HX := hide hx
      clear hx
      by_cases hx1 : x < 1
      · have HZ : Hid (groveE f way ws T = 1) := hide (by rw [unhide HE, weightsE_bad (unhide HX) (.inl hx1)]; rfl)
        have e1 : decide (x < 1) = true := decide_eq_true hx1
        go_wp2_with fail
        go_ret
        exact ⟨by rw [unhide HZ]; rfl, hb0⟩
      · have e1 : decide (x < 1) = false := decide_eq_false hx1
        by_cases hx2 : 1000 < x
        · have HZ : Hid (groveE f way ws T = 1) := hide (by rw [unhide HE, weightsE_bad (unhide HX) (.inr hx2)]; rfl)
          have e2 : decide (1000 < x) = true := decide_eq_true hx2
          go_wp2_with fail
          go_ret
          exact ⟨by rw [unhide HZ]; rfl, hb0⟩
        · have e2 : decide (1000 < x) = false := decide_eq_false hx2
          go_wp2_with fail
          go_round
          case rel => exact ⟨k + 1, by omega, by go_num, hide (by
            rw [take_next (unhide HX)]
            intro y hy
            rcases List.mem_append.1 hy with hy | hy
            · exact (unhide HG) y hy
            · simp at hy; subst hy; omega)⟩
          case measure => simp [Lib.intOf]; omega
    · obtain rfl : k = nw := by omega
      have hG := unhide HG
      rw [List.take_of_length_le (by rw [unhide HLW]; exact Nat.le_refl _)] at hG
      have HZ : Hid (groveE f way ws T = treesE f (T.drop 0)) := hide (by rw [unhide HE, if_pos (weightsE_of hG), List.drop_zero])
      clear hG
      go_wp2_with fail
      go_loopw [4] (fun i wr => ∃ j : Nat, j ≤ k ∧ i = .int .i64 j ∧ Hid (groveE f way ws T = treesE f (T.drop j)) ∧ Below w.heap.size w wr ∧ wr.cell? ⟨w.heap.size, 0, none⟩ = some (.int .i64 f) ∧ wr.cell? ⟨w.heap.size, 3, none⟩ = some (.slice At k ct) ∧ w.heap.size + 1 ≤ wr.heap.size) (fun i _ => k - (Lib.intOf i).toNat)
      case atStart => exact ⟨0, Nat.zero_le _, rfl, HZ, hb0, c0, c3, by omega⟩
      case round =>
        obtain ⟨j, hj, rfl, HY, hbel, cc0, cc3, hws⟩ := hrel
        by_cases hlj : j < k
        · obtain ⟨b, o, r, rfl, _, hx, hcx, hok⟩ := (htr.below hbel).get hlj
          have hTk : T[j]? = some r.l := by rw [unhide HT]; exact Gv.trees_at hx
          have HD := hide (treesE_drop (fe := f) hTk)
          have hz := hbel.size
          obtain ⟨rA, rn, rc, rl⟩ := r
          dsimp only at hcx HD
          have hck := fun (W : World) (hW : Below wr.heap.size wr W) => rtree_any rA rn rc f rl W ((hok.reads.below (hW.mono hz)).more (Nat.le_trans hz hW.size)) hok.len
          have HCK := hide hck
          clear hck hx hTk hok c0 c1 c2 c3
          by_cases ht0 : treeE rl f = 0
          · have HN : Hid (groveE f way ws T = treesE f (T.drop (j + 1))) := hide (by rw [unhide HY, unhide HD, if_pos ht0])
            have HT0 : Hid ((treeC rl f).2 = 0) := hide ht0
            clear ht0
            go_wp2_with fail
            go_region_held3 (fun w' => w'.cell? ⟨w.heap.size, 0, none⟩ = some (.int .i64 f) ∧ w'.cell? ⟨w.heap.size, 3, none⟩ = some (.slice (some ⟨b, o, none⟩) k ct) ∧ w'.cell? ⟨b, o + j, none⟩ = some (.slice rA rn rc))
              (first | go_keep | (go_split_ands <;> assumption))
              ((go_at_call 27; refine (unhide HCK _ ((Below.refl _ _).drew)).mono ?_; rintro e w2 ⟨rfl, hb2⟩; have k0 := (hb2.cell (p := ⟨w.heap.size, 0, none⟩) (by show w.heap.size < wr.heap.size; omega)).trans cc0; have k3 := (hb2.cell (p := ⟨w.heap.size, 3, none⟩) (by show w.heap.size < wr.heap.size; omega)).trans cc3; have kj := (hb2.cell (p := ⟨b, o + j, none⟩) (by show b < wr.heap.size; omega)).trans hcx))
            rw [unhide HT0]
            have hb3 : Below wr.heap.size wr w2 := ((Below.refl _ _).drew).trans hb2
            have hc2 : w2.cell? ⟨w.heap.size, 0, none⟩ = some (.int .i64 f) := (hb3.cell (p := ⟨w.heap.size, 0, none⟩) (by show w.heap.size < _; omega)).trans cc0
            have hc3 : w2.cell? ⟨w.heap.size, 3, none⟩ = some (.slice (some ⟨b, o, none⟩) k ct) := (hb3.cell (p := ⟨w.heap.size, 3, none⟩) (by show w.heap.size < _; omega)).trans cc3
            have hz2 := hb3.size
            clear HCK
            go_wp2_with fail
            go_roundw
            case rel => exact ⟨j + 1, by omega, by go_num, HN, hbel.trans (hb3.mono hz), hc2, hc3, by omega⟩
            case measure => simp [Lib.intOf]; omega
          · have HN : Hid (groveE f way ws T = treeE rl f) := hide (by rw [unhide HY, unhide HD, if_neg ht0])
            obtain ⟨E, hE⟩ : ∃ E, E = (treeC rl f).2 := ⟨_, rfl⟩
            have HEE : Hid (treeE rl f = E) := hide (by rw [hE]; rfl)
            have hE0 : (E != 0) = true := by rw [bne_iff_ne, hE]; exact ht0
            unfold RTPost at HCK
            rw [← hE] at HCK
            clear ht0 hE
            go_wp2_with fail
            go_region_held3 (fun w' => w'.cell? ⟨w.heap.size, 0, none⟩ = some (.int .i64 f) ∧ w'.cell? ⟨w.heap.size, 3, none⟩ = some (.slice (some ⟨b, o, none⟩) k ct) ∧ w'.cell? ⟨b, o + j, none⟩ = some (.slice rA rn rc))
              (first | go_keep | (go_split_ands <;> assumption))
              ((go_at_call 27; refine (unhide HCK _ ((Below.refl _ _).drew)).mono ?_; rintro e w2 ⟨rfl, hb2⟩; have k0 := (hb2.cell (p := ⟨w.heap.size, 0, none⟩) (by show w.heap.size < wr.heap.size; omega)).trans cc0; have k3 := (hb2.cell (p := ⟨w.heap.size, 3, none⟩) (by show w.heap.size < wr.heap.size; omega)).trans cc3; have kj := (hb2.cell (p := ⟨b, o + j, none⟩) (by show b < wr.heap.size; omega)).trans hcx))
            have hb3 : Below wr.heap.size wr w2 := ((Below.refl _ _).drew).trans hb2
            clear HCK
            go_wp2_with fail
            go_ret
            exact ⟨by rw [unhide HN, unhide HEE]; rfl, hbel.trans (hb3.mono hz)⟩
        · obtain rfl : j = k := by omega
          have HZ2 : Hid (groveE f way ws T = 0) := hide (by rw [unhide HY, List.drop_eq_nil_of_le (by rw [unhide HLT]; exact Nat.le_refl _)]; rfl)
          go_wp2_with fail
          go_ret
          exact ⟨by rw [unhide HZ2]; rfl, hbel⟩
end Go.Proofs.YtcneacooedefjaaDoor
/- Chapter 1: the contracts of package fixed on lists. Conditions: as each lemma names. -/
namespace Go.Proofs.YtcneacooedefjaaDoor
set_option linter.unusedVariables false
set_option linter.unusedSimpArgs false
open Go.RowKit

/-- the row half way: the first k made fit -/
def halfL (L : List Int) (k : Nat) : List Int := (L.take k).map fitV ++ L.drop k
theorem halfL_len (L : List Int) (k : Nat) : (halfL L k).length = L.length := by unfold halfL; simp; omega
theorem halfL_0 (L : List Int) : halfL L 0 = L := by simp [halfL]
theorem halfL_all (L : List Int) : halfL L L.length = L.map fitV := by simp [halfL]
theorem halfL_at {L : List Int} {k : Nat} {x : Int} (h : L[k]? = some x) : (halfL L k)[k]? = some x := by
  have hk := (List.getElem?_eq_some_iff.1 h).1
  unfold halfL
  rw [List.getElem?_append_right (by simp; omega)]
  simp only [List.length_map, List.length_take, List.getElem?_drop]
  rw [show k + (k - min k L.length) = k by omega]; exact h
theorem halfL_set {L : List Int} {k : Nat} {x : Int} (h : L[k]? = some x) : (halfL L k).set k (fitV x) = halfL L (k + 1) := by
  have hk := (List.getElem?_eq_some_iff.1 h).1
  unfold halfL
  rw [drop_at h, take_next h, List.map_append, List.append_assoc]
  rw [List.set_append_right _ _ (by simp; omega)]
  simp [show k - min k L.length = 0 by omega]

end Go.Proofs.YtcneacooedefjaaDoor
/- Chapter 1 in the references: Fit, Add, Mul, Floor, Round, Total, firsts, Sorted, Mean, Median. Conditions: as each lemma names. -/
namespace Go.Proofs.YtcneacooedefjaaDoor
set_option linter.unusedVariables false
set_option linter.unusedSimpArgs false
open Go.RowKit










end Go.Proofs.YtcneacooedefjaaDoor
/- The references of groves: orchref1.Stand, Each, Together, Between. Conditions: arguments read as groves and rows. -/
namespace Go.Proofs.YtcneacooedefjaaDoor
set_option linter.unusedVariables false
set_option linter.unusedSimpArgs false
open Go.RowKit

set_option maxRecDepth 100000 in
set_option maxHeartbeats 1000000 in
theorem rstand_any (g : Gv) (C : Option Addr) (k q : Nat) (r : List Int) (w : World) (hg : GReads w w.heap.size g) (hr : IReads w w.heap.size C k r) (hk : k ≤ maxLen) :
    Calls Tryd.prog 14 #[g.val, .slice C k q] w fun e w' => e = .returned (.int .i64 (standE g r)) ∧ Below w.heap.size w w' := by
  obtain ⟨W, hW, bx, hWs, hb0⟩ := gbox w g.f g.way g.Aw g.nw g.cw g.At g.nt g.ct
  have hck := hide (rgrove_any g W ((hg.below hb0).more (by omega)))
  have hrk := hr.len
  obtain ⟨c0, c1, c2, c3⟩ := bx.cells4
  unfold maxLen at hk
  have HK := hide hrk
  have HS : Hid (standE g r = if g.e = 0 then (if rowE r = 0 then (if (r.length : Int) = g.f then 0 else 3) else rowE r) else g.e) := hide rfl
  generalize standE g r = SE at *
  clear hg hrk
  obtain ⟨E, hE⟩ : ∃ E, E = g.e := ⟨_, rfl⟩
  rw [← hE] at hck HS
  clear hE
  obtain ⟨f, way, Aw, nw, cw, ws, At, nt, ct, ts⟩ := g
  simp only [Gv.val] at hck ⊢
  dsimp only at hW bx c0 c1 c2 c3 HS
  go_enter Tryd.func14, Tryd.ntmps14
  go_wp2_with fail
  rw [← hW]
  clear hW
  refine (unhide hck).mono ?_
  rintro e w1 ⟨rfl, hb1⟩
  have z1 := hb1.size
  have d0 : w1.cell? ⟨w.heap.size, 0, none⟩ = some (.int .i64 f) := (hb1.cell (p := ⟨w.heap.size, 0, none⟩) (by show w.heap.size < _; omega)).trans c0
  have hB1 := hb0.trans (hb1.mono (by omega))
  have hrc := hide (rrow_any C k q r w1 _ (hr.below hB1) (by unfold maxLen; omega))
  clear hck c0 c1 c2 c3 bx
  by_cases h1 : E = 0
  · have e1 : (E == 0) = true := by simp [h1]
    have HS1 : Hid (SE = (if rowE r = 0 then (if (r.length : Int) = f then 0 else 3) else rowE r)) := hide (by rw [unhide HS, if_pos h1])
    clear h1
    go_wp2_with fail
    refine (unhide hrc).mono ?_
    rintro e w2 ⟨rfl, rfl⟩
    by_cases h2 : rowE r = 0
    · have e2 : (rowE r == 0) = true := by simp [h2]
      have HS2 : Hid (SE = if (r.length : Int) = f then 0 else 3) := hide (by rw [unhide HS1, if_pos h2])
      have H2 := hide h2
      clear h2
      by_cases h3 : (k : Int) = f
      · have HS3 : Hid (SE = 0) := hide (by rw [unhide HS2, unhide HK, if_pos h3])
        have e3 : ((k : Int) != f) = false := by simp [h3]
        clear h3
        go_wp2_with fail
        go_ret
        exact ⟨by rw [unhide HS3]; exact ret_int (unhide H2), hB1⟩
      · have HS3 : Hid (SE = 3) := hide (by rw [unhide HS2, unhide HK, if_neg h3])
        have e3 : ((k : Int) != f) = true := by simp [h3]
        clear h3
        go_wp2_with fail
        go_ret
        exact ⟨by rw [unhide HS3]; rfl, hB1⟩
    · have e2 : (rowE r == 0) = false := by simp [h2]
      have HS2 : Hid (SE = rowE r) := hide (by rw [unhide HS1, if_neg h2])
      clear h2
      go_wp2_with fail
      go_ret
      exact ⟨by rw [unhide HS2]; rfl, hB1⟩
  · have e1 : (E == 0) = false := by simp [h1]
    have HS1 : Hid (SE = E) := hide (by rw [unhide HS, if_neg h1])
    clear h1
    go_wp2_with fail
    go_ret
    exact ⟨by rw [unhide HS1]; rfl, hB1⟩

end Go.Proofs.YtcneacooedefjaaDoor
