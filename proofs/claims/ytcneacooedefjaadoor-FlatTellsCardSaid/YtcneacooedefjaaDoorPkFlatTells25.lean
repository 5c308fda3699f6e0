/- Part 25 of what LawFlatTells needs: TreeDeep, TreeHalves, GroveOps. Conditions: as each lemma names. -/
import Derived.Test.YtcneacooedefjaaDoorPkFlatTells06
import Derived.Test.YtcneacooedefjaaDoorPkFlatTells24
/- TreeDeep: the walk of the law's function. Conditions: arguments read as lists. -/
namespace Go.Proofs.YtcneacooedefjaaDoor
set_option linter.unusedVariables false
set_option linter.unusedSimpArgs false
open Go.RowKit

def tree3 (a b : Int) : List Nd := [⟨0, 0, 1, 2, false, 0⟩, ⟨-1, 0, 0, 0, false, a⟩, ⟨-1, 0, 0, 0, false, b⟩]
theorem tree3_right : treeE (tree3 0 0) 8 = 0 := by decide
theorem tree3_depth : depthV (tree3 0 0) = 1 := by decide

theorem pow_step {k x : Nat} (h : x = 2 ^ k) : x * 2 = 2 ^ (k + 1) := by rw [h, Nat.pow_succ]
theorem pow_le10 {k : Nat} (h : k ≤ 10) : 2 ^ k ≤ 1024 := Nat.le_trans (Nat.pow_le_pow_right (by omega) h) (by decide)

end Go.Proofs.YtcneacooedefjaaDoor
/- TreeHalves: the walk of the law's function. Conditions: arguments read as lists. -/
namespace Go.Proofs.YtcneacooedefjaaDoor
set_option linter.unusedVariables false
set_option linter.unusedSimpArgs false
open Go.RowKit

/-! ### plain -/
theorem leaves_mem {t : List Nd} : ∀ (i k : Nat) (n : Nd), t[k]? = some n → n.f = -1 → ((i + k : Nat) : Int) ∈ leavesFrom i t := by
  induction t with
  | nil => intro i k n h; simp at h
  | cons x r ih =>
    intro i k n h hf
    rw [leavesFrom]
    cases k with
    | zero =>
      simp at h; subst h
      rw [if_pos hf]; simp
    | succ k =>
      have := ih (i + 1) k n (by simpa using h) hf
      rw [show i + 1 + k = i + (k + 1) by omega] at this
      split
      · exact List.mem_cons_of_mem _ this
      · exact this
theorem leafFrom_is {t : List Nd} {row : List Int} (hb : Behind t) : ∀ (F i : Nat), i < t.length → t.length ≤ i + F → ∃ n, t[leafFrom t row F i]? = some n ∧ n.f = -1 := by
  intro F
  induction F with
  | zero => intro i h1 h2; omega
  | succ F ih =>
    intro i h1 h2
    have hn : t[i]? = some t[i] := List.getElem?_eq_getElem h1
    by_cases hf : (t[i]).f = -1
    · rw [leafFrom_leaf hn hf]; exact ⟨_, hn, hf⟩
    · rw [leafFrom_step hn hf]
      obtain ⟨j, hj, hlt, hjl⟩ := nextOf_lt (c := cellAt row (t[i]).f) hb hn hf
      rw [hj, Int.toNat_natCast]
      exact ih j hjl (by omega)
theorem leafOf_is {t : List Nd} {row : List Int} (hb : Behind t) (h0 : 0 < t.length) : ∃ n, t[leafOf t row]? = some n ∧ n.f = -1 := leafFrom_is hb t.length 0 h0 (by omega)
theorem leafFrom_same {t : List Nd} {r s : List Int} (h : ∀ (i : Nat) n, t[i]? = some n → n.f ≠ -1 → cellAt r n.f = cellAt s n.f) : ∀ (F i : Nat), leafFrom t r F i = leafFrom t s F i := by
  intro F
  induction F with
  | zero => intro i; rfl
  | succ F ih =>
    intro i
    cases hn : t[i]? with
    | none => simp only [leafFrom, hn]
    | some n =>
      by_cases hf : n.f = -1
      · rw [leafFrom_leaf hn hf, leafFrom_leaf hn hf]
      · rw [leafFrom_step hn hf, leafFrom_step hn hf, h i n hn hf, ih]
theorem cellAt_set {r : List Int} {f : Nat} {g c : Int} (hg : 0 ≤ g) (h : g ≠ f) : cellAt (r.set f c) g = cellAt r g := by
  unfold cellAt
  rw [List.getD_eq_getElem?_getD, List.getD_eq_getElem?_getD, List.getElem?_set_ne (by omega)]
theorem rowE_set {r : List Int} {f : Nat} {c : Int} (h : rowE r = 0) (hc : -1000000 ≤ c ∧ c ≤ 1000000) : rowE (r.set f c) = 0 := by
  unfold rowE at h ⊢
  split at h
  · cases h
  · rename_i h8
    split at h
    · rename_i ha
      rw [if_neg (by simpa using h8), if_pos]
      rw [List.all_eq_true] at ha ⊢
      intro x hx
      rcases List.mem_or_eq_of_mem_set hx with hx | rfl
      · exact ha x hx
      · exact rowGood_cell hc.1 hc.2
    · cases h
theorem readyE_set {t : List Nd} {r : List Int} {f : Nat} {c : Int} (h : readyE t r = 0) (hc : -1000000 ≤ c ∧ c ≤ 1000000) : readyE t (r.set f c) = 0 := by
  unfold readyE at h ⊢
  split at h
  · rename_i h1
    rw [if_pos (rowE_set h1 hc), List.length_set]; exact h
  · rename_i h1; exact absurd h h1
theorem leafV_set {t : List Nd} {r : List Int} {f : Nat} {c : Int} (h : readyE t r = 0) (hc : -1000000 ≤ c ∧ c ≤ 1000000) (hf : ∀ (i : Nat) n, t[i]? = some n → n.f ≠ f) : leafV t (r.set f c) = leafV t r := by
  have h2 := readyE_set (f := f) h hc
  obtain ⟨_, hR, _⟩ := readyE_right h
  unfold leafV leafOf
  rw [if_pos h, if_pos h2, leafFrom_same (r := r.set f c) (s := r)]
  intro i n hn hf2
  exact cellAt_set (hR.asks i n hn hf2).1 (hf i n hn)

theorem tree3_eval4 : evalV [⟨0, 5, 1, 2, false, 0⟩, ⟨-1, 0, 0, 0, false, 7⟩, ⟨-1, 0, 0, 0, false, 9⟩] [4] = 7 ∧ readyE [⟨0, 5, 1, 2, false, 0⟩, ⟨-1, 0, 0, 0, false, 7⟩, ⟨-1, 0, 0, 0, false, 9⟩] [4] = 0 := by decide
theorem tree3_eval5 : evalV [⟨0, 5, 1, 2, false, 0⟩, ⟨-1, 0, 0, 0, false, 7⟩, ⟨-1, 0, 0, 0, false, 9⟩] [5] = 9 ∧ readyE [⟨0, 5, 1, 2, false, 0⟩, ⟨-1, 0, 0, 0, false, 7⟩, ⟨-1, 0, 0, 0, false, 9⟩] [5] = 0 := by decide

end Go.Proofs.YtcneacooedefjaaDoor
/- grove.Ready, Each, Eval: contracts. Conditions: arguments read as lists. -/
namespace Go.Proofs.YtcneacooedefjaaDoor
set_option linter.unusedVariables false
set_option linter.unusedSimpArgs false
open Go.RowKit

def standE (g : Gv) (r : List Int) : Int := if g.e = 0 then (if rowE r = 0 then (if (r.length : Int) = g.f then 0 else 3) else rowE r) else g.e
def eachV (g : Gv) (r : List Int) : List Int := g.ts.map fun t => valAt t.l (leafOf t.l r)
def eachR (g : Gv) (r : List Int) : List Int := if standE g r = 0 then eachV g r else []
noncomputable def gevalV (g : Gv) (r : List Int) : Int := if standE g r = 0 then togV g.way g.ws (eachV g r) else 0
theorem standE_0 {g : Gv} {r : List Int} (h : standE g r = 0) : GRight g ∧ rowE r = 0 ∧ (r.length : Int) = g.f := by
  unfold standE at h
  by_cases h1 : g.e = 0
  · rw [if_pos h1] at h
    by_cases h2 : rowE r = 0
    · rw [if_pos h2] at h
      by_cases h3 : (r.length : Int) = g.f
      · exact ⟨groveE_right h1, h2, h3⟩
      · rw [if_neg h3] at h; cases h
    · rw [if_neg h2] at h; exact absurd h h2
  · rw [if_neg h1] at h; exact absurd h h1
theorem Blk.cells4 {w : World} {g : Nat} {T : TypeId} {x0 x1 x2 x3 : Value} (h : Blk w g T #[x0, x1, x2, x3]) : w.cell? ⟨g, 0, none⟩ = some x0 ∧ w.cell? ⟨g, 1, none⟩ = some x1 ∧ w.cell? ⟨g, 2, none⟩ = some x2 ∧ w.cell? ⟨g, 3, none⟩ = some x3 :=
  ⟨h.cell 0, h.cell 1, h.cell 2, h.cell 3⟩
theorem gbox (w : World) (f way : Int) (Aw : Option Addr) (nw cw : Nat) (At : Option Addr) (nt ct : Nat) : ∃ W, W = w.alloc (.cells #[.int .i64 f, .int .i64 way, .slice Aw nw cw, .slice At nt ct] 25) ∧
    Blk W w.heap.size 25 #[.int .i64 f, .int .i64 way, .slice Aw nw cw, .slice At nt ct] ∧ W.heap.size = w.heap.size + 1 ∧ Below w.heap.size w W :=
  ⟨_, rfl, Blk.new _ _ _, by simp, (Below.refl _ _).alloc (Nat.le_refl _) _⟩

set_option maxRecDepth 100000 in
set_option maxHeartbeats 1000000 in
theorem gready_any (g : Gv) (C : Option Addr) (k q : Nat) (r : List Int) (w : World) (hg : GReads w w.heap.size g) (hr : IReads w w.heap.size C k r) (hk : k ≤ maxLen) :
    Calls Tryd.prog 44 #[g.val, .slice C k q] w fun e w' => e = .returned (errV (standE g r)) ∧ Below w.heap.size w w' := by
  obtain ⟨W, hW, bx, hWs, hb0⟩ := gbox w g.f g.way g.Aw g.nw g.cw g.At g.nt g.ct
  have hck := hide (gcheck_any g W ((hg.below hb0).more (by omega)))
  have hrk := hr.len
  have c0 := bx.cell 0
  have c1 := bx.cell 1
  have c2 := bx.cell 2
  have c3 := bx.cell 3
  simp at c0 c1 c2 c3
  unfold maxLen at hk
  have HK := hide hrk
  have HS : Hid (standE g r = if g.e = 0 then (if rowE r = 0 then (if (r.length : Int) = g.f then 0 else 3) else rowE r) else g.e) := hide rfl
  generalize standE g r = SE at *
  have HG := hide hg
  clear hg hrk
  by_cases h1 : g.e = 0
  · have hv := errV_0 h1
    have HV := hide hv
    have HS1 : Hid (SE = (if rowE r = 0 then (if (r.length : Int) = g.f then 0 else 3) else rowE r)) := hide (by rw [unhide HS, if_pos h1])
    clear h1
    obtain ⟨f, way, Aw, nw, cw, ws, At, nt, ct, ts⟩ := g
    simp only [Gv.val] at hck ⊢
    dsimp only at hW bx c0 c1 c2 c3 hv HS1
    have HE := hide hv
    go_enter Tryd.func44, Tryd.ntmps44
    go_wp2_with fail
    rw [← hW]
    refine (unhide hck).mono ?_
    rintro e w1 ⟨rfl, hb1⟩
    rw [hv]
    have z1 := hb1.size
    have d0 : w1.cell? ⟨w.heap.size, 0, none⟩ = some (.int .i64 f) := (hb1.cell (p := ⟨w.heap.size, 0, none⟩) (by show w.heap.size < _; omega)).trans c0
    have hB1 := hb0.trans (hb1.mono (by omega))
    have hrc := hide (rowCheck_any C k q r w1 _ (hr.below hB1) (by unfold maxLen; omega))
    clear hv hck hW c0 c1 c2 c3 bx
    by_cases h2 : rowE r = 0
    · have hv2 := errV_0 h2
      have HS2 : Hid (SE = if (r.length : Int) = f then 0 else 3) := hide (by rw [unhide HS1, if_pos h2])
      clear h2
      go_wp2_with fail
      refine (unhide hrc).mono ?_
      rintro e w2 ⟨rfl, rfl⟩
      rw [hv2]
      clear hv2
      by_cases h3 : (k : Int) = f
      · have HS3 : Hid (SE = 0) := hide (by rw [unhide HS2, unhide HK, if_pos h3])
        have e3 : ((k : Int) != f) = false := by simp [h3]
        clear h3
        go_wp2_with fail
        go_ret
        exact ⟨by rw [unhide HS3]; rfl, hB1⟩
      · have HS3 : Hid (SE = 3) := hide (by rw [unhide HS2, unhide HK, if_neg h3])
        have e3 : ((k : Int) != f) = true := by simp [h3]
        clear h3
        go_wp2_with fail
        go_ret
        exact ⟨by rw [unhide HS3]; rfl, hB1⟩
    · have hv2 := errV_1 h2
      have HV2 := hide hv2
      have HS2 : Hid (SE = rowE r) := hide (by rw [unhide HS1, if_neg h2])
      clear h2
      go_wp2_with fail
      refine (unhide hrc).mono ?_
      rintro e w2 ⟨rfl, rfl⟩
      rw [hv2]
      clear hv2
      go_wp2_with fail
      go_ret
      exact ⟨by rw [unhide HS2, unhide HV2]; rfl, hB1⟩
  · have hv := errV_1 h1
    have HV := hide hv
    have HS1 : Hid (SE = g.e) := hide (by rw [unhide HS, if_neg h1])
    clear h1
    obtain ⟨E, hE⟩ : ∃ E, E = g.e := ⟨_, rfl⟩
    rw [← hE] at HS1 hck hv HV
    clear hE
    obtain ⟨f, way, Aw, nw, cw, ws, At, nt, ct, ts⟩ := g
    simp only [Gv.val] at hck ⊢
    dsimp only at hW bx c0 c1 c2 c3
    go_enter Tryd.func44, Tryd.ntmps44
    go_wp2_with fail
    rw [← hW]
    refine (unhide hck).mono ?_
    rintro e w1 ⟨rfl, hb1⟩
    rw [hv]
    clear hv hck
    go_wp2_with fail
    go_ret
    exact ⟨by rw [unhide HS1, unhide HV]; rfl, hb0.trans (hb1.mono (by omega))⟩

/-- what Each answers -/
def EachPost (g : Gv) (r : List Int) (w : World) (e : Ending) (w' : World) : Prop :=
  ∃ v, e = .returned (.tuple #[v, errV (standE g r)]) ∧ IOwn w' w.heap.size v (eachR g r) ∧ Below w.heap.size w w'
theorem leaf_in {t : List Nd} {fe : Int} {r : List Int} (h : Right t fe) : ∃ n, t[leafOf t r]? = some n ∧ n.f = -1 ∧ -1000000 ≤ n.v ∧ n.v ≤ 1000000 := by
  obtain ⟨n, hn, hf⟩ := leafOf_is (row := r) h.behind h.pos
  rcases node_of (h.node _ n hn) with h1 | h1
  · exact ⟨n, hn, hf, h1.2.1, h1.2.2.1⟩
  · omega

set_option maxRecDepth 100000 in
set_option maxHeartbeats 2000000 in
theorem each_any (g : Gv) (C : Option Addr) (k q : Nat) (r : List Int) (w : World) (hg : GReads w w.heap.size g) (hr : IReads w w.heap.size C k r) (hk : k ≤ maxLen) :
    Calls Tryd.prog 29 #[g.val, .slice C k q] w (EachPost g r w) := by
  obtain ⟨W, hW, bx, hWs, hb0⟩ := gbox w g.f g.way g.Aw g.nw g.cw g.At g.nt g.ct
  have hrd := hide (gready_any g C k q r W ((hg.below hb0).more (by omega)) ((hr.below hb0).more (by omega)) hk)
  have c0 := bx.cell 0
  have c1 := bx.cell 1
  have c2 := bx.cell 2
  have c3 := bx.cell 3
  simp at c0 c1 c2 c3
  by_cases h0 : standE g r = 0
  · have hv := errV_0 h0
    have HR : Hid (eachR g r = eachV g r) := hide (by unfold eachR; rw [if_pos h0])
    obtain ⟨hG, hrow, hlen⟩ := standE_0 h0
    have hrl := hr.len
    have h8 : k ≤ 8 := by have := hG.f8; omega
    have hnt : g.ts.length = g.nt := hg.ts.len
    have hn12 : g.nt ≤ 12 := by have := hG.most; omega
    have HTR : Hid (∀ t ∈ g.ts, Right t.l (k : Int)) := hide (fun t ht => by
      have := right_of (hG.trees t ht)
      rwa [← hlen, hrl] at this)
    have HE : Hid (eachV g r = g.ts.map fun t => valAt t.l (leafOf t.l r)) := hide rfl
    have HV := hide hv
    have htr := hg.ts
    have HNT := hide hnt
    clear hG hrow hlen hrl h0 hg hnt
    obtain ⟨f, way, Aw, nw, cw, ws, At, nt, ct, ts⟩ := g
    simp only [Gv.val] at hrd ⊢
    dsimp only at hW bx c0 c1 c2 c3 htr hn12 HTR HE HNT
    go_enter Tryd.func29, Tryd.ntmps29
    go_wp2_with fail
    rw [← hW]
    refine (unhide hrd).mono ?_
    rintro e w1 ⟨rfl, hb1⟩
    rw [hv]
    have z1 := hb1.size
    have d3 : w1.cell? ⟨w.heap.size, 3, none⟩ = some (.slice At nt ct) := (hb1.cell (p := ⟨w.heap.size, 3, none⟩) (by show w.heap.size < _; omega)).trans c3
    have hB1 := hb0.trans (hb1.mono (by omega))
    clear hv hrd hW c0 c1 c2 c3 bx hb1
    go_wp2_with fail
    go_loopw [7, 19] (fun v i wr => ∃ j : Nat, j ≤ nt ∧ i = .int .i64 j ∧ wr.ownsRow w.heap.size 3 1 v j (((ts.map fun t => valAt t.l (leafOf t.l r)).take j).map (Value.int .i64)) ∧ Below w.heap.size w wr) (fun _ i _ => nt - (Lib.intOf i).toNat)
    case atStart => exact ⟨0, Nat.zero_le _, rfl, World.ownsRow_nil _ _ _ _, hB1⟩
    case round =>
      obtain ⟨j, hj, rfl, hown, hbel⟩ := hrel
      have hsz := hbel.size
      by_cases hlt : j < nt
      · obtain ⟨b, o, t, rfl, _, hx, hcx, hok⟩ := (htr.below hbel).get hlt
        have hRt := unhide HTR t (List.mem_of_getElem? hx)
        have hln := hok.reads.len
        obtain ⟨n, hn, _, hn1, hn2⟩ := leaf_in (r := r) hRt
        have hp := hRt.pos
        have hmost := hRt.most
        have hlf : leafOf t.l r < t.n := by rw [← hln]; exact (List.getElem?_eq_some_iff.1 hn).1
        have HX : Hid ((ts.map fun t => valAt t.l (leafOf t.l r)).take (j + 1) = (ts.map fun t => valAt t.l (leafOf t.l r)).take j ++ [n.v]) := hide (take_next (by rw [List.getElem?_map, hx]; simp [valAt, hn]))
        have hwk := hide (walk_any t.A C t.n t.c k q t.l r wr (hok.reads.more hsz) ((hr.below hbel).more hsz) (by omega) (by omega) h8 hRt.behind hRt.asks)
        obtain ⟨i, hi⟩ : ∃ i, i = leafOf t.l r := ⟨_, rfl⟩
        rw [← hi] at hlf hn hwk
        have hrr := hok.reads
        obtain ⟨tA, tn, tc, tl⟩ := t
        dsimp only at hcx hln hlf hn hwk hrr HX hi
        clear hi hx hok hRt hp hmost hln
        go_wp2_with fail
        refine (unhide hwk).mono ?_
        rintro e w2 ⟨rfl, hb2⟩
        clear hwk
        obtain ⟨b5, o5, n', rfl, _, hn', _, _, _, _, _, g5⟩ := (hrr.below (hb2.mono hsz)).get hlf
        rw [hn] at hn'
        injection hn' with hn'
        subst hn'
        have hown2 := own_below hown hb2
        have hs2 := Nat.le_trans hsz hb2.size
        obtain ⟨x, hxe⟩ : ∃ x, x = n.v := ⟨_, rfl⟩
        rw [← hxe] at g5 hn1 hn2 HX
        have hbel2 := hbel.trans (hb2.mono hsz)
        clear hn hrr hown hxe
        go_wp2_with (at_builtin; refine app_one elem_int (.tmp 23) (.tmp 31) [.int .i64 x] rfl rfl rfl hown2 rfl rfl rfl (ints_oneCell .i64 [x]) (by omega) hs2 ?_; intro v' w3 hown3 hb3 _ _)
        go_wp2_with fail
        go_roundw
        case rel => exact ⟨j + 1, by omega, by go_num, by rw [unhide HX, List.map_append]; exact hown3, hbel2.trans hb3⟩
        case measure => simp [Lib.intOf]; omega
      · obtain rfl : j = nt := by omega
        rw [List.take_of_length_le (by rw [List.length_map, unhide HNT]; exact Nat.le_refl _), ← unhide HE, ← unhide HR] at hown
        have HL : Hid (j = (eachR ⟨f, way, Aw, nw, cw, ws, At, j, ct, ts⟩ r).length) := hide (by rw [unhide HR, unhide HE, List.length_map, unhide HNT])
        go_wp2_with fail
        go_ret2
        refine ⟨_, by rw [unhide HV]; rfl, ?_, hbel⟩
        unfold IOwn
        rw [← unhide HL]
        exact hown
  · have hv := errV_1 h0
    have HV := hide hv
    have HR : Hid (eachR g r = []) := hide (by unfold eachR; rw [if_neg h0])
    obtain ⟨E, hE⟩ : ∃ E, E = standE g r := ⟨_, rfl⟩
    rw [← hE] at hrd hv HV
    have HEE := hide hE
    clear hE h0
    obtain ⟨f, way, Aw, nw, cw, ws, At, nt, ct, ts⟩ := g
    simp only [Gv.val] at hrd ⊢
    dsimp only at hW bx c0 c1 c2 c3
    go_enter Tryd.func29, Tryd.ntmps29
    go_wp2_with fail
    rw [← hW]
    refine (unhide hrd).mono ?_
    rintro e w1 ⟨rfl, hb1⟩
    rw [hv]
    clear hv hrd
    go_wp2_with fail
    go_ret2
    exact ⟨_, by rw [← unhide HEE, unhide HV]; rfl, by rw [unhide HR]; exact IOwn.nil_ _ _, hb0.trans (hb1.mono (by omega))⟩
end Go.Proofs.YtcneacooedefjaaDoor
