/- Part 32 of what LawPruneTells needs: RefLeaf, RefGrove, Told. Conditions: as each lemma names. -/
import Derived.Test.YtefkjpcgcgofgaaDoorPkPruneTells30
import Derived.Test.YtefkjpcgcgofgaaDoorPkPruneTells07
import Derived.Test.YtefkjpcgcgofgaaDoorPkPruneTells31
import Derived.Test.YtefkjpcgcgofgaaDoorPkPruneTells25
import Derived.Lib.Agree
import Derived.Test.YtefkjpcgcgofgaaDoorPkPruneTells02
import Derived.LaidEql
import Derived.Stop.Asserts
import Derived.RowKitTokens
/- The reference of the walk to a leaf: orchref1.Leaf (the leaf, and the way). Conditions: a tree in which what is below stands behind; a row that has the cells it asks. -/
namespace Go.Proofs.YtefkjpcgcgofgaaDoor
set_option linter.unusedVariables false
set_option linter.unusedSimpArgs false
open Go.RowKit

def RLPost (t : List Nd) (row : List Int) (w : World) (e : Ending) (w' : World) : Prop :=
  ∃ v, e = .returned (.tuple #[.int .i64 (leafOf t row : Nat), v]) ∧ w'.ownsRow w.heap.size 3 1 v ((0 :: wayFrom t row t.length 0).length) ((0 :: wayFrom t row t.length 0).map (Value.int .i64)) ∧ Below w.heap.size w w'

end Go.Proofs.YtefkjpcgcgofgaaDoor
/- The references of groves: orchref1.Grove, Stand, Each. Conditions: arguments read as groves and rows. -/
namespace Go.Proofs.YtefkjpcgcgofgaaDoor
set_option linter.unusedVariables false
set_option linter.unusedSimpArgs false
open Go.RowKit

set_option maxRecDepth 100000 in
set_option maxHeartbeats 2000000 in
theorem rgrove_any (g : Gv) (w : World) (hr : GReads w w.heap.size g) :
    Calls Tryd.prog 14 #[g.val] w fun e w' => e = .returned (.int .i64 g.e) ∧ Below w.heap.size w w' := by
  obtain ⟨f, way, Aw, nw, cw, ws, At, nt, ct, ts⟩ := g
  have hlw := hr.ws.len
  have hlt := hr.ts.len
  have hnw := hr.nw
  have hnt := hr.nt
  have hwr := hr.ws
  have htr := hr.ts
  clear hr
  dsimp only at hlw hlt hnw hnt hwr htr
  unfold maxLen at hnw hnt
  simp only [Gv.val]
  have hlt' : (Gv.trees ⟨f, way, Aw, nw, cw, ws, At, nt, ct, ts⟩).length = nt := by rw [Gv.trees_len]; exact hlt
  obtain ⟨T, hT⟩ : ∃ T, T = Gv.trees ⟨f, way, Aw, nw, cw, ws, At, nt, ct, ts⟩ := ⟨_, rfl⟩
  have hE : (Gv.e ⟨f, way, Aw, nw, cw, ws, At, nt, ct, ts⟩) = groveE f way ws T := by rw [hT]; rfl
  rw [hE]
  rw [← hT] at hlt'
  have HT := hide hT
  have HLT := hide hlt'
  have HLW := hide hlw
  have HL := hide hlt
  clear hE hT hlt' hlw hlt
  have hb0 : Below w.heap.size w (w.alloc (.cells #[.int .i64 f, .int .i64 way, .slice Aw nw cw, .slice At nt ct] 26)) := (Below.refl _ _).alloc (Nat.le_refl _) _
  by_cases h1 : f < 0
  · have HE : Hid (groveE f way ws T = 1) := hide (by unfold groveE; rw [if_pos h1])
    have d1 : decide (f < 0) = true := decide_eq_true h1
    go_enter Tryd.func14, Tryd.ntmps14
    go_wp2_with fail
    go_ret
    exact ⟨by rw [unhide HE]; rfl, hb0⟩
  have d1 : decide (f < 0) = false := decide_eq_false h1
  by_cases h2 : 8 < f
  · have HE : Hid (groveE f way ws T = 1) := hide (by unfold groveE; rw [if_neg h1, if_pos h2])
    have d2 : decide (8 < f) = true := decide_eq_true h2
    go_enter Tryd.func14, Tryd.ntmps14
    go_wp2_with fail
    go_ret
    exact ⟨by rw [unhide HE]; rfl, hb0⟩
  have d2 : decide (8 < f) = false := decide_eq_false h2
  by_cases h3 : way < 1
  · have HE : Hid (groveE f way ws T = 1) := hide (by unfold groveE; rw [if_neg h1, if_neg h2, if_pos h3])
    have d3 : decide (way < 1) = true := decide_eq_true h3
    go_enter Tryd.func14, Tryd.ntmps14
    go_wp2_with fail
    go_ret
    exact ⟨by rw [unhide HE]; rfl, hb0⟩
  have d3 : decide (way < 1) = false := decide_eq_false h3
  by_cases h4 : 3 < way
  · have HE : Hid (groveE f way ws T = 1) := hide (by unfold groveE; rw [if_neg h1, if_neg h2, if_neg h3, if_pos h4])
    have d4 : decide (3 < way) = true := decide_eq_true h4
    go_enter Tryd.func14, Tryd.ntmps14
    go_wp2_with fail
    go_ret
    exact ⟨by rw [unhide HE]; rfl, hb0⟩
  have d4 : decide (3 < way) = false := decide_eq_false h4
  by_cases h5 : nt = 0
  · have HE : Hid (groveE f way ws T = 5) := hide (by unfold groveE; rw [if_neg h1, if_neg h2, if_neg h3, if_neg h4, unhide HLT, if_pos h5])
    have d5 : ((nt : Int) == 0) = true := by simp [h5]
    clear h5
    go_enter Tryd.func14, Tryd.ntmps14
    go_wp2_with fail
    go_ret
    exact ⟨by rw [unhide HE]; rfl, hb0⟩
  have d5 : ((nt : Int) == 0) = false := by simp; omega
  by_cases h6 : 12 < nt
  · have HE : Hid (groveE f way ws T = 4) := hide (by unfold groveE; rw [if_neg h1, if_neg h2, if_neg h3, if_neg h4, unhide HLT, if_neg h5, if_pos h6])
    have d6 : decide (12 < nt) = true := decide_eq_true h6
    go_enter Tryd.func14, Tryd.ntmps14
    go_wp2_with fail
    go_ret
    exact ⟨by rw [unhide HE]; rfl, hb0⟩
  have d6 : decide (12 < nt) = false := decide_eq_false h6
  by_cases h7 : nw = nt
  case neg =>
    have HE : Hid (groveE f way ws T = 3) := hide (by unfold groveE; rw [if_neg h1, if_neg h2, if_neg h3, if_neg h4, unhide HLT, if_neg h5, if_neg h6, if_neg (by rw [unhide HLW]; exact h7)])
    have d7 : ((nw : Int) != (nt : Int)) = true := by simp; omega
    go_enter Tryd.func14, Tryd.ntmps14
    go_wp2_with fail
    go_ret
    exact ⟨by rw [unhide HE]; rfl, hb0⟩
  subst h7
  have HE : Hid (groveE f way ws T = if weightsE ws = 0 then treesE f T else weightsE ws) := hide (by unfold groveE; rw [if_neg h1, if_neg h2, if_neg h3, if_neg h4, unhide HLT, if_neg h5, if_neg h6, if_pos (unhide HLW)])
  have hn12 : nw ≤ 12 := by omega
  clear h6 h5
  go_enter Tryd.func14, Tryd.ntmps14
  go_wp2_with fail
  obtain ⟨W, hW⟩ : ∃ W, W = w.alloc (.cells #[.int .i64 f, .int .i64 way, .slice Aw nw cw, .slice At nw ct] 26) := ⟨_, rfl⟩
  rw [← hW] at hb0 ⊢
  have bx : Blk W w.heap.size 26 #[.int .i64 f, .int .i64 way, .slice Aw nw cw, .slice At nw ct] := by rw [hW]; exact Blk.new _ _ _
  have hWs : W.heap.size = w.heap.size + 1 := by rw [hW]; simp
  clear hW
  obtain ⟨c0, c1, c2, c3⟩ : W.cell? ⟨w.heap.size, 0, none⟩ = some (.int .i64 f) ∧ W.cell? ⟨w.heap.size, 1, none⟩ = some (.int .i64 way) ∧ W.cell? ⟨w.heap.size, 2, none⟩ = some (.slice Aw nw cw) ∧ W.cell? ⟨w.heap.size, 3, none⟩ = some (.slice At nw ct) := ⟨bx.cell 0, bx.cell 1, bx.cell 2, bx.cell 3⟩
  have hwr1 := hwr.below hb0
  have htr1 := htr.below hb0
  clear hwr d5 d6 htr1
  go_loop [3] (fun i => ∃ k : Nat, k ≤ nw ∧ i = .int .i64 k ∧ Hid (∀ x ∈ ws.take k, 1 ≤ x ∧ x ≤ 1000)) (fun i => nw - (Lib.intOf i).toNat)
  case atStart => exact ⟨0, Nat.zero_le _, rfl, hide (by simp)⟩
  case round =>
    obtain ⟨k, hk, rfl, HG⟩ := hrel
    by_cases hlt : k < nw
    · obtain ⟨b, o, x, rfl, _, hx, hcx⟩ := hwr1.get hlt
      have HX := hide hx
      clear hx
      by_cases hx1 : x < 1
      · have HZ : Hid (groveE f way ws T = 1) := hide (by rw [unhide HE, weightsE_bad (unhide HX) (.inl hx1)]; rfl)
        have e1 : decide (x < 1) = true := decide_eq_true hx1
        go_wp2_with fail
        go_ret
        exact ⟨by rw [unhide HZ]; rfl, hb0⟩
      · have e1 : decide (x < 1) = false := decide_eq_false hx1
        by_cases hx2 : 1000 < x
        · have HZ : Hid (groveE f way ws T = 1) := hide (by rw [unhide HE, weightsE_bad (unhide HX) (.inr hx2)]; rfl)
          have e2 : decide (1000 < x) = true := decide_eq_true hx2
          go_wp2_with fail
          go_ret
          exact ⟨by rw [unhide HZ]; rfl, hb0⟩
        · have e2 : decide (1000 < x) = false := decide_eq_false hx2
          go_wp2_with fail
          go_round
          case rel => exact ⟨k + 1, by omega, by go_num, hide (by
            rw [take_next (unhide HX)]
            intro y hy
            rcases List.mem_append.1 hy with hy | hy
            · exact (unhide HG) y hy
            · simp at hy; subst hy; omega)⟩
          case measure => simp [Lib.intOf]; omega
    · obtain rfl : k = nw := by omega
      have hG := unhide HG
      rw [List.take_of_length_le (by rw [unhide HLW]; exact Nat.le_refl _)] at hG
      have HZ : Hid (groveE f way ws T = treesE f (T.drop 0)) := hide (by rw [unhide HE, if_pos (weightsE_of hG), List.drop_zero])
      clear hG
      go_wp2_with fail
      go_loopw [4] (fun i wr => ∃ j : Nat, j ≤ k ∧ i = .int .i64 j ∧ Hid (groveE f way ws T = treesE f (T.drop j)) ∧ Below w.heap.size w wr ∧ wr.cell? ⟨w.heap.size, 0, none⟩ = some (.int .i64 f) ∧ wr.cell? ⟨w.heap.size, 3, none⟩ = some (.slice At k ct) ∧ w.heap.size + 1 ≤ wr.heap.size) (fun i _ => k - (Lib.intOf i).toNat)
      case atStart => exact ⟨0, Nat.zero_le _, rfl, HZ, hb0, c0, c3, by omega⟩
      case round =>
        obtain ⟨j, hj, rfl, HY, hbel, cc0, cc3, hws⟩ := hrel
        by_cases hlj : j < k
        · obtain ⟨b, o, r, rfl, _, hx, hcx, hok⟩ := (htr.below hbel).get hlj
          have hTk : T[j]? = some r.l := by rw [unhide HT]; exact Gv.trees_at hx
          have HD := hide (treesE_drop (fe := f) hTk)
          have hz := hbel.size
          obtain ⟨rA, rn, rc, rl⟩ := r
          dsimp only at hcx HD
          have hck := fun (W : World) (hW : Below wr.heap.size wr W) => rtree_any rA rn rc f rl W ((hok.reads.below (hW.mono hz)).more (Nat.le_trans hz hW.size)) hok.len
          have HCK := hide hck
          clear hck hx hTk hok c0 c1 c2 c3
          by_cases ht0 : treeE rl f = 0
          · have HN : Hid (groveE f way ws T = treesE f (T.drop (j + 1))) := hide (by rw [unhide HY, unhide HD, if_pos ht0])
            have HT0 : Hid ((treeC rl f).2 = 0) := hide ht0
            clear ht0
            go_wp2_with fail
            go_region_held3 (fun w' => w'.cell? ⟨w.heap.size, 0, none⟩ = some (.int .i64 f) ∧ w'.cell? ⟨w.heap.size, 3, none⟩ = some (.slice (some ⟨b, o, none⟩) k ct) ∧ w'.cell? ⟨b, o + j, none⟩ = some (.slice rA rn rc))
              (first | go_keep | (go_split_ands <;> assumption))
              ((go_at_call 7; refine (unhide HCK _ ((Below.refl _ _).drew)).mono ?_; rintro e w2 ⟨rfl, hb2⟩; have k0 := (hb2.cell (p := ⟨w.heap.size, 0, none⟩) (by show w.heap.size < wr.heap.size; omega)).trans cc0; have k3 := (hb2.cell (p := ⟨w.heap.size, 3, none⟩) (by show w.heap.size < wr.heap.size; omega)).trans cc3; have kj := (hb2.cell (p := ⟨b, o + j, none⟩) (by show b < wr.heap.size; omega)).trans hcx))
            rw [unhide HT0]
            have hb3 : Below wr.heap.size wr w2 := ((Below.refl _ _).drew).trans hb2
            have hc2 : w2.cell? ⟨w.heap.size, 0, none⟩ = some (.int .i64 f) := (hb3.cell (p := ⟨w.heap.size, 0, none⟩) (by show w.heap.size < _; omega)).trans cc0
            have hc3 : w2.cell? ⟨w.heap.size, 3, none⟩ = some (.slice (some ⟨b, o, none⟩) k ct) := (hb3.cell (p := ⟨w.heap.size, 3, none⟩) (by show w.heap.size < _; omega)).trans cc3
            have hz2 := hb3.size
            clear HCK
            go_wp2_with fail
            go_roundw
            case rel => exact ⟨j + 1, by omega, by go_num, HN, hbel.trans (hb3.mono hz), hc2, hc3, by omega⟩
            case measure => simp [Lib.intOf]; omega
          · have HN : Hid (groveE f way ws T = treeE rl f) := hide (by rw [unhide HY, unhide HD, if_neg ht0])
            obtain ⟨E, hE⟩ : ∃ E, E = (treeC rl f).2 := ⟨_, rfl⟩
            have HEE : Hid (treeE rl f = E) := hide (by rw [hE]; rfl)
            have hE0 : (E != 0) = true := by rw [bne_iff_ne, hE]; exact ht0
            unfold RTPost at HCK
            rw [← hE] at HCK
            clear ht0 hE
            go_wp2_with fail
            go_region_held3 (fun w' => w'.cell? ⟨w.heap.size, 0, none⟩ = some (.int .i64 f) ∧ w'.cell? ⟨w.heap.size, 3, none⟩ = some (.slice (some ⟨b, o, none⟩) k ct) ∧ w'.cell? ⟨b, o + j, none⟩ = some (.slice rA rn rc))
              (first | go_keep | (go_split_ands <;> assumption))
              ((go_at_call 7; refine (unhide HCK _ ((Below.refl _ _).drew)).mono ?_; rintro e w2 ⟨rfl, hb2⟩; have k0 := (hb2.cell (p := ⟨w.heap.size, 0, none⟩) (by show w.heap.size < wr.heap.size; omega)).trans cc0; have k3 := (hb2.cell (p := ⟨w.heap.size, 3, none⟩) (by show w.heap.size < wr.heap.size; omega)).trans cc3; have kj := (hb2.cell (p := ⟨b, o + j, none⟩) (by show b < wr.heap.size; omega)).trans hcx))
            have hb3 : Below wr.heap.size wr w2 := ((Below.refl _ _).drew).trans hb2
            clear HCK
            go_wp2_with fail
            go_ret
            exact ⟨by rw [unhide HN, unhide HEE]; rfl, hbel.trans (hb3.mono hz)⟩
        · obtain rfl : j = k := by omega
          have HZ2 : Hid (groveE f way ws T = 0) := hide (by rw [unhide HY, List.drop_eq_nil_of_le (by rw [unhide HLT]; exact Nat.le_refl _)]; rfl)
          go_wp2_with fail
          go_ret
          exact ⟨by rw [unhide HZ2]; rfl, hbel⟩
end Go.Proofs.YtefkjpcgcgofgaaDoor
/- plain.Told and orchsame.Error: errors.As by its text at an error of the program's own (api.Errno) and at nil, over the model's entries for internal/reflectlite. Conditions: the error is nil or an Errno; the variable errors.errorType holds the handle of error. (Turned from the worked proof ToyasAs.) -/
namespace Go.Proofs.YtefkjpcgcgofgaaDoor
set_option linter.unusedVariables false
set_option linter.unusedSimpArgs false
open Go.RowKit Go.Extern.Stop Go.Stop Go.Extern

/-- what the laid variable gives -/
def ErrT (w : World) : Prop := w.cell? ⟨0, 0, none⟩ = some (.iface 130 (.agg #[.pointer (some ⟨5, 32, none⟩)]))
theorem ErrT.lt {w : World} (h : ErrT w) : 0 < w.heap.size := by
  rcases Nat.eq_zero_or_pos w.heap.size with h0 | h0
  · simp [ErrT, World.cell?, h0] at h
  · exact h0
theorem ErrT.below {w w' : World} {B : Nat} (h : ErrT w) (hb : Below B w w') (hB : 0 < B) : ErrT w' := (hb.cell (p := ⟨0, 0, none⟩) hB).trans h
theorem ErrT.alloc {w : World} (h : ErrT w) (o : Obj) : ErrT (w.alloc o) := (World.cell?_alloc_lt _ _ ⟨0, 0, none⟩ h.lt).trans h
theorem ErrT.drew {w : World} (h : ErrT w) : ErrT w.drew := h

theorem vo_p (t : Addr) (w : World) : (ReflectliteValue.unpack (.iface 94 (.pointer (some t)))).run Tryd.prog w
    = .ok (.agg #[.pointer (some ⟨5, 94, none⟩), .pointer (some ⟨w.heap.size, 0, none⟩), .int .u64 150]) (w.alloc (.cells #[.pointer (some t)] 94)) := by kernel_rfl
theorem ty_p (a : Addr) (w : World) : (ReflectliteValue.methodAny (ReflectliteValue.valueError "reflectlite.Value.Type" 0) (fun t _ _ _ => ReflectliteType.toType t) #[.agg #[.pointer (some ⟨5, 94, none⟩), .pointer (some a), .int .u64 150]]).run Tryd.prog w
    = .ok (.iface 130 (.agg #[.pointer (some ⟨5, 94, none⟩)])) w := by kernel_rfl
theorem m_kind (h : Value) (w : World) : (Go.method 119 130 (.agg #[h]) "Kind").run Tryd.prog w = .ok (113, h) w := by kernel_rfl
theorem k_p (w : World) : ((ReflectliteType.abiMethod fun t => (fun a : Nat => Value.int IntKind.u8 (a : Int)) <$> Rtype.kind t) #[.pointer (some ⟨5, 94, none⟩)]).run Tryd.prog w = .ok (.int .u8 22) w := by kernel_rfl
theorem k_e (w : World) : ((ReflectliteType.abiMethod fun t => (fun a : Nat => Value.int IntKind.u8 (a : Int)) <$> Rtype.kind t) #[.pointer (some ⟨5, 70, none⟩)]).run Tryd.prog w = .ok (.int .u8 2) w := by kernel_rfl
theorem rlm (z : Sem Value) (f : TypeId → Addr → Nat → Nat → Sem Value) (v : Value) :
    ReflectliteValue.method z f #[v] = (do match ← ReflectliteValue.parts v with | none => z | some (t, a, fl) => f t a fl (fl % 32)) := rfl
theorem pa_p (a : Addr) (w : World) : (ReflectliteValue.parts (.agg #[.pointer (some ⟨5, 94, none⟩), .pointer (some a), .int .u64 150])).run Tryd.prog w = .ok (some (94, a, 150)) w := by kernel_rfl
theorem nil_p (a p : Addr) (W : World) (ha : W.cell? a = some (.pointer (some p))) :
    (ReflectliteValue.method (ReflectliteValue.valueError "reflectlite.Value.IsNil" 0) ReflectliteValue.isNil #[.agg #[.pointer (some ⟨5, 94, none⟩), .pointer (some a), .int .u64 150]]).run Tryd.prog W = .ok (.bool false) W := by
  rw [rlm]
  simp only [Sem.run_bind, pa_p, Result.andThen]
  simp [ReflectliteValue.isNil, loadVar, isAgg, underlying, Tryd.underlying94, ha, Result.andThen]
theorem m_elem (h : Value) (w : World) : (Go.method 119 130 (.agg #[h]) "Elem").run Tryd.prog w = .ok (124, .agg #[h]) w := by kernel_rfl
theorem m_impl (h : Value) (w : World) : (Go.method 119 130 (.agg #[h]) "Implements").run Tryd.prog w = .ok (125, .agg #[h]) w := by kernel_rfl
theorem m_assi (h : Value) (w : World) : (Go.method 119 130 (.agg #[h]) "AssignableTo").run Tryd.prog w = .ok (122, .agg #[h]) w := by kernel_rfl
theorem el_p (w : World) : (ReflectliteType.method ReflectliteType.elem #[.agg #[.pointer (some ⟨5, 94, none⟩)]]).run Tryd.prog w = .ok (.iface 130 (.agg #[.pointer (some ⟨5, 70, none⟩)])) w := by kernel_rfl
theorem im_e (w : World) : (ReflectliteType.relation "Implements" ReflectliteType.implements_ #[.agg #[.pointer (some ⟨5, 70, none⟩)], .iface 130 (.agg #[.pointer (some ⟨5, 32, none⟩)])]).run Tryd.prog w = .ok (.bool true) w := by kernel_rfl
theorem to_e (v : Value) (w : World) : (ReflectliteType.typeOf #[.iface 70 v]).run Tryd.prog w = .ok (.iface 130 (.agg #[.pointer (some ⟨5, 70, none⟩)])) w := by kernel_rfl
theorem as_e (w : World) : (ReflectliteType.relation "AssignableTo" ReflectliteType.assignableTo #[.agg #[.pointer (some ⟨5, 70, none⟩)], .iface 130 (.agg #[.pointer (some ⟨5, 70, none⟩)])]).run Tryd.prog w = .ok (.bool true) w := by kernel_rfl
theorem vo_e (z : Int) (w : World) : (ReflectliteValue.unpack (.iface 70 (.int .i64 z))).run Tryd.prog w
    = .ok (.agg #[.pointer (some ⟨5, 70, none⟩), .pointer (some ⟨w.heap.size, 0, none⟩), .int .u64 130]) (w.alloc (.cells #[.int .i64 z] 70)) := by kernel_rfl
theorem eo_p (w : World) : (Rtype.elem? 94).run Tryd.prog w = .ok (some 70) w := by kernel_rfl
theorem mk_e (p : Addr) (w : World) : (ReflectliteValue.mk 70 p ReflectliteValue.flagAddr).run Tryd.prog w = .ok (.agg #[.pointer (some ⟨5, 70, none⟩), .pointer (some p), .int .u64 386]) w := by kernel_rfl
theorem ev_p (a p : Addr) (W : World) (ha : W.cell? a = some (.pointer (some p))) :
    (ReflectliteValue.method (ReflectliteValue.valueError "reflectlite.Value.Elem" 0) ReflectliteValue.elem #[.agg #[.pointer (some ⟨5, 94, none⟩), .pointer (some a), .int .u64 150]]).run Tryd.prog W
      = .ok (.agg #[.pointer (some ⟨5, 70, none⟩), .pointer (some p), .int .u64 386]) W := by
  rw [rlm]
  simp only [Sem.run_bind, pa_p, Result.andThen]
  simp [ReflectliteValue.elem, loadVar, isAgg, underlying, Tryd.underlying94, ha, Result.andThen, eo_p, mk_e]
theorem rls (v x : Value) : ReflectliteValue.set #[v, x] = (do
    let (some (dst, a, fl), some (src, b, _)) := (← ReflectliteValue.parts v, ← ReflectliteValue.parts x)
      | unsupported (.noEntry "extern/(internal/reflectlite.Value).Set.zeroValue")
    if fl / ReflectliteValue.flagAddr % 2 == 0 then unsupported (.noEntry "extern/(internal/reflectlite.Value).Set.unaddressable")
    let val ← loadVar src b
    if ← Rtype.directlyAssignable dst src then storeVar dst a val
    else if ← Rtype.implements dst src then
      if (← Rtype.kind src) == 20 then
        match val with
        | .nilIface => unsupported (.noEntry "extern/reflectlite: a nil value of one interface type handed on as a value of another")
        | _ => storeVar dst a val
      else storeVar dst a (.iface src val)
    else panicString ("reflectlite.Set: value of type " ++ (← Rtype.spelt src) ++ " is not assignable to type " ++ (← Rtype.spelt dst))
    pure (.tuple #[])) := rfl
theorem pa_a (a : Addr) (w : World) : (ReflectliteValue.parts (.agg #[.pointer (some ⟨5, 70, none⟩), .pointer (some a), .int .u64 386])).run Tryd.prog w = .ok (some (70, a, 386)) w := by kernel_rfl
theorem pa_e (a : Addr) (w : World) : (ReflectliteValue.parts (.agg #[.pointer (some ⟨5, 70, none⟩), .pointer (some a), .int .u64 130])).run Tryd.prog w = .ok (some (70, a, 130)) w := by kernel_rfl
theorem di_e (w : World) : (Rtype.directlyAssignable 70 70).run Tryd.prog w = .ok true w := by kernel_rfl
theorem set_e (ta b : Addr) (z : Int) (old : Value) (W : World) (hb : W.cell? b = some (.int .i64 z)) (ht : W.cell? ta = some old) (hf : W.frozen? ta = false) :
    (ReflectliteValue.set #[.agg #[.pointer (some ⟨5, 70, none⟩), .pointer (some ta), .int .u64 386], .agg #[.pointer (some ⟨5, 70, none⟩), .pointer (some b), .int .u64 130]]).run Tryd.prog W
      = .ok (.tuple #[]) (W.setCell ta (.int .i64 z)) := by
  rw [rls]
  simp only [Sem.run_bind, pa_a, pa_e, Result.andThen]
  simp [ReflectliteValue.flagAddr, loadVar, isAgg, underlying, Tryd.underlying70, hb, Result.andThen, di_e, storeVar, Value.cells, storeCells, Addr.add]
  rw [run_store Tryd.prog W ta _ _ (by rfl)]
  simp [ht, hf]
end Go.Proofs.YtefkjpcgcgofgaaDoor
