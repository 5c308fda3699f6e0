/- Package prune: Lay, Tree, Sort. Conditions: as each lemma names. -/
import Derived.Test.YtopncifebldklaaPrune
import Derived.Test.YtopncifebldklaaDiffer2
import Derived.Deep.CutRange
namespace Go.Proofs.Ytopncifebldklaa
set_option linter.unusedVariables false
set_option linter.unusedSimpArgs false
open Go.RowKit

theorem elem_nodeP : Elem Try.prog 26 29 (.agg #[.int .i64 0, .int .i64 0, .int .i64 0, .int .i64 0, .bool false, .int .i64 0]) 6 48 := ⟨Try.underlying26, by kernel_rfl, rfl, by omega, by omega⟩
theorem node_one (x : Nd) : ∀ u ∈ [Value.int .i64 x.f, .int .i64 x.c, .int .i64 x.l, .int .i64 x.r, .bool x.less, .int .i64 x.v], u.oneCell' = true := by
  intro u hu
  simp at hu
  rcases hu with rfl | rfl | rfl | rfl | rfl | rfl <;> rfl
theorem nodes_set (xs zs : List Nd) (x y : Nd) (r : Nat) (u : Value) (hr : r < 6) (h : x.cells.set r u = y.cells) :
    ((xs ++ x :: zs).flatMap Nd.cells).set (xs.length * 6 + r) u = (xs ++ y :: zs).flatMap Nd.cells := by
  have hl := flatMap_len Nd.cells 6 (fun _ => rfl) xs
  rw [List.flatMap_append, List.flatMap_append, List.set_append_right _ _ (by omega)]
  congr 1
  rw [List.flatMap_cons, List.flatMap_cons, hl, show xs.length * 6 + r - xs.length * 6 = r by omega, List.set_append_left _ _ (by simpa [Nd.cells] using hr), h]

/-- a row of nodes of a call's own -/
def NOwn (w : World) (base : Nat) (v : Value) (l : List Nd) : Prop := w.ownsRow base 29 6 v l.length (l.flatMap Nd.cells)
theorem NOwn.nil_ (w : World) (base : Nat) : NOwn w base (.slice none 0 0) [] := World.ownsRow_nil _ _ _ _
theorem NOwn.low {w : World} {base base' : Nat} {v : Value} {l : List Nd} (h : NOwn w base v l) (hb : base' ≤ base) : NOwn w base' v l := by
  refine ⟨h.1, ?_⟩
  rcases h.2 with h1 | ⟨g, cap, cur, e, hg, h2⟩
  · exact .inl h1
  · exact .inr ⟨g, cap, cur, e, Nat.le_trans hb hg, h2⟩
theorem NOwn.slice {w : World} {base : Nat} {v : Value} {l : List Nd} (h : NOwn w base v l) : ∃ A c, v = .slice A l.length c ∧ NReads w w.heap.size A l.length l ∧ l.length ≤ c := by
  obtain ⟨A, c, e, hr, _, hc⟩ := own_slice h
  exact ⟨A, c, e, hr, hc⟩
theorem NOwn.at_ {w : World} {base n cap : Nat} {A : Option Addr} {l : List Nd} (h : NOwn w base (.slice A n cap) l) (hl : l.length = n) {k : Nat} {x : Nd} (hx : l[k]? = some x) (r : Nat) (hr : r < 6) :
    ∃ g, A = some ⟨g, 0, none⟩ ∧ base ≤ g ∧ g < w.heap.size ∧ w.cell? ⟨g, k * 6 + r, none⟩ = x.cells[r]? ∧ w.frozen? ⟨g, k * 6 + r, none⟩ = false := by
  unfold NOwn at h
  rw [hl] at h
  have hk : k < n := by rw [← hl]; exact (List.getElem?_eq_some_iff.1 hx).1
  have hc := flatMap_at Nd.cells 6 (fun _ => rfl) l k r x hx hr
  rcases h.2 with ⟨e, h0⟩ | ⟨g, cap', cur, e, hg, hh, _⟩
  · omega
  · injection e with e1 e2 e3
    subst e1
    refine ⟨g, rfl, hg, (Array.getElem?_eq_some_iff.1 hh).1, ?_, h.frozenAt _⟩
    rw [h.cellAt _ (by omega), hc]
theorem NOwn.stored {w : World} {base n cap g : Nat} {xs zs : List Nd} {x y : Nd} (h : NOwn w base (.slice (some ⟨g, 0, none⟩) n cap) (xs ++ x :: zs)) (hl : (xs ++ x :: zs).length = n) (r : Nat) (u : Value) (hr : r < 6) (he : x.cells.set r u = y.cells) :
    NOwn (w.setCell ⟨g, xs.length * 6 + r, none⟩ u) base (.slice (some ⟨g, 0, none⟩) n cap) (xs ++ y :: zs) := by
  unfold NOwn at h ⊢
  have hl' : (xs ++ y :: zs).length = n := by rw [← hl]; simp
  rw [hl] at h
  rw [hl', ← nodes_set xs zs x y r u hr he]
  exact (h.stored _ u).1

set_option maxRecDepth 100000 in
set_option maxHeartbeats 2000000 in
theorem lay_any : ∀ (k : Kt) (g : Nat) (xs : List Nd) (v : Value) (base : Nat) (w : World), KReads w (Till base) k g → NOwn w base v xs → base ≤ w.heap.size → xs.length + k.size ≤ 1000000 →
    Calls Try.prog 24 #[.pointer (some ⟨g, 0, none⟩), v] w fun e w' => ∃ v', e = .returned v' ∧ NOwn w' base v' (xs ++ layK xs.length k) ∧ Below base w w' := by
  intro k
  induction k with
  | leaf x =>
    intro g xs v base w hk ho hB hn
    obtain ⟨hg, bx⟩ := hk
    have hgs : g < base := hg
    obtain ⟨A, c, rfl, hr, _⟩ := ho.slice
    have hown : w.ownsRow base 29 6 (.slice A xs.length c) xs.length (xs.flatMap Nd.cells) := ho
    have HN := hide hn
    simp only [Kt.size] at hn
    obtain ⟨xf, xc, xlf, xr, xs', xv⟩ := x
    have c0 : w.cell? ⟨g, 0, none⟩ = some (.int .i64 xf) := bx.cell 0
    have c1 : w.cell? ⟨g, 1, none⟩ = some (.int .i64 xc) := bx.cell 1
    have c2 : w.cell? ⟨g, 2, none⟩ = some (.int .i64 xlf) := bx.cell 2
    have c3 : w.cell? ⟨g, 3, none⟩ = some (.int .i64 xr) := bx.cell 3
    have c4 : w.cell? ⟨g, 4, none⟩ = some (.bool xs') := bx.cell 4
    have c5 : w.cell? ⟨g, 5, none⟩ = some (.int .i64 xv) := bx.cell 5
    have b6 : w.cell? ⟨g, 6, none⟩ = some (.pointer none) := bx.cell 6
    clear bx
    go_enter Try.func24, Try.ntmps24
    go_wp2_with (at_builtin; refine app_one elem_nodeP (.tmp 8) (.tmp 13) [.int .i64 xf, .int .i64 xc, .int .i64 xlf, .int .i64 xr, .bool xs', .int .i64 xv] rfl rfl rfl hown rfl rfl rfl (node_one ⟨xf, xc, xlf, xr, xs', xv⟩) (by omega) hB ?_; intro v1 w1 hown1 hb1 _ _; have d6 := (hb1.cell (p := ⟨g, 6, none⟩) hgs).trans b6)
    go_ret
    refine ⟨v1, rfl, ?_, hb1⟩
    unfold NOwn
    rw [layK, List.length_append, List.flatMap_append]
    exact hown1
  | node x a b ia ib =>
    intro g xs v base w hk ho hB hn
    obtain ⟨hg, p, q, bx, hp, hq⟩ := hk
    have hgs : g < base := hg
    obtain ⟨A, c, rfl, hr, _⟩ := ho.slice
    have hown : w.ownsRow base 29 6 (.slice A xs.length c) xs.length (xs.flatMap Nd.cells) := ho
    simp only [Kt.size] at hn
    have HKL : Hid (layK xs.length (.node x a b) = ⟨x.f, x.c, ((xs.length + 1 : Nat) : Int), ((xs.length + 1 + a.size : Nat) : Int), x.less, x.v⟩ :: (layK (xs.length + 1) a ++ layK (xs.length + 1 + a.size) b)) := hide rfl
    obtain ⟨xf, xc, xlf, xr, xs', xv⟩ := x
    have c0 : w.cell? ⟨g, 0, none⟩ = some (.int .i64 xf) := bx.cell 0
    have c1 : w.cell? ⟨g, 1, none⟩ = some (.int .i64 xc) := bx.cell 1
    have c2 : w.cell? ⟨g, 2, none⟩ = some (.int .i64 xlf) := bx.cell 2
    have c3 : w.cell? ⟨g, 3, none⟩ = some (.int .i64 xr) := bx.cell 3
    have c4 : w.cell? ⟨g, 4, none⟩ = some (.bool xs') := bx.cell 4
    have c5 : w.cell? ⟨g, 5, none⟩ = some (.int .i64 xv) := bx.cell 5
    have b6 : w.cell? ⟨g, 6, none⟩ = some (.pointer (some ⟨p, 0, none⟩)) := bx.cell 6
    have b7 : w.cell? ⟨g, 7, none⟩ = some (.pointer (some ⟨q, 0, none⟩)) := bx.cell 7
    clear bx
    have HS := hide hn
    go_enter Try.func24, Try.ntmps24
    go_upto_region 3 with (at_builtin; refine app_one elem_nodeP (.tmp 8) (.tmp 13) [.int .i64 xf, .int .i64 xc, .int .i64 xlf, .int .i64 xr, .bool xs', .int .i64 xv] rfl rfl rfl hown rfl rfl rfl (node_one ⟨xf, xc, xlf, xr, xs', xv⟩) (by omega) hB ?_; intro v1 w1 hown1 hb1 _ _)
    have ho1 : NOwn w1 base v1 (xs ++ [⟨xf, xc, xlf, xr, xs', xv⟩]) := by
      unfold NOwn
      rw [List.length_append, List.flatMap_append]
      exact hown1
    obtain ⟨A1, d1, rfl, hr1, hd1⟩ := ho1.slice
    obtain ⟨g1, hA1, hg1, hg1s, e2, f2⟩ := ho1.at_ rfl (k := xs.length) (x := ⟨xf, xc, xlf, xr, xs', xv⟩) (by simp) 2 (by omega)
    subst hA1
    have d6 := (hb1.cell (p := ⟨g, 6, none⟩) hgs).trans b6
    have hlen1 : (xs ++ [(⟨xf, xc, xlf, xr, xs', xv⟩ : Nd)]).length = xs.length + 1 := by simp
    rw [hlen1] at ho1 hr1 hd1
    have e2' : w1.cell? ⟨g1, xs.length * 6 + 2, none⟩ = some (.int .i64 xlf) := e2
    obtain ⟨M, hM⟩ : ∃ M, M = xs.length + 1 + a.size := ⟨_, rfl⟩
    have hC : ∀ W, NOwn W base (.slice (some ⟨g1, 0, none⟩) (xs.length + 1) d1) (xs ++ [⟨xf, xc, (xs.length : Int) + 1, xr, xs', xv⟩]) → Below base w W → Calls Try.prog 24 #[.pointer (some ⟨p, 0, none⟩), .slice (some ⟨g1, 0, none⟩) (xs.length + 1) d1] W
        fun e w' => ∃ g2 d2, e = .returned (.slice (some ⟨g2, 0, none⟩) M d2) ∧ base ≤ g2 ∧ w'.cell? ⟨g2, xs.length * 6 + 3, none⟩ = some (.int .i64 xr) ∧ w'.frozen? ⟨g2, xs.length * 6 + 3, none⟩ = false ∧ (xs ++ (⟨xf, xc, (xs.length : Int) + 1, xr, xs', xv⟩ : Nd) :: layK (xs.length + 1) a).length = M ∧
          NOwn w' base (.slice (some ⟨g2, 0, none⟩) M d2) (xs ++ ⟨xf, xc, (xs.length : Int) + 1, xr, xs', xv⟩ :: layK (xs.length + 1) a) ∧ Below base W w' := by
      intro W h hb
      refine (ia p (xs ++ [⟨xf, xc, (xs.length : Int) + 1, xr, xs', xv⟩]) _ base W (KReads.below hb hp) h (Nat.le_trans hB hb.size) (by simp; omega)).mono ?_
      rintro e w' ⟨v', rfl, ho, hb'⟩
      rw [show (xs ++ [(⟨xf, xc, (xs.length : Int) + 1, xr, xs', xv⟩ : Nd)]).length = xs.length + 1 by simp, List.append_assoc, List.singleton_append] at ho
      obtain ⟨A2, d2, rfl, _, hd⟩ := ho.slice
      have hl : (xs ++ (⟨xf, xc, (xs.length : Int) + 1, xr, xs', xv⟩ : Nd) :: layK (xs.length + 1) a).length = M := by simp [layK_len]; omega
      rw [hl] at ho hd ⊢
      obtain ⟨g2, rfl, h1, _, h2, h3⟩ := ho.at_ hl (k := xs.length) (x := ⟨xf, xc, (xs.length : Int) + 1, xr, xs', xv⟩) (by simp) 3 (by omega)
      exact ⟨g2, d2, rfl, h1, h2, h3, rfl, ho, hb'⟩
    have hST := NOwn.stored (n := xs.length + 1) (zs := []) (y := ⟨xf, xc, (xs.length : Int) + 1, xr, xs', xv⟩) ho1 (by simp) 2 (.int .i64 ((xs.length : Int) + 1)) (by omega) rfl
    have hB2 := hb1.setCell (p := ⟨g1, xs.length * 6 + 2, none⟩) hg1 (.int .i64 ((xs.length : Int) + 1))
    have HC := hide (hC _ hST hB2)
    have hD : ∀ W g2 d2, NOwn W base (.slice (some ⟨g2, 0, none⟩) M d2) (xs ++ ⟨xf, xc, (xs.length : Int) + 1, M, xs', xv⟩ :: layK (xs.length + 1) a) → Below base w W → Calls Try.prog 24 #[.pointer (some ⟨q, 0, none⟩), .slice (some ⟨g2, 0, none⟩) M d2] W
        fun e w' => ∃ v', e = .returned v' ∧ NOwn w' base v' (xs ++ layK xs.length (.node ⟨xf, xc, xlf, xr, xs', xv⟩ a b)) ∧ Below base W w' := by
      intro W g2 d2 h hb
      have hl : (xs ++ (⟨xf, xc, (xs.length : Int) + 1, M, xs', xv⟩ : Nd) :: layK (xs.length + 1) a).length = M := by simp [layK_len]; omega
      refine (ib q (xs ++ (⟨xf, xc, (xs.length : Int) + 1, M, xs', xv⟩ : Nd) :: layK (xs.length + 1) a) _ base W (KReads.below hb hq) h (Nat.le_trans hB hb.size) (by rw [hl]; omega)).mono ?_
      rintro e w' ⟨v', rfl, ho, hb'⟩
      refine ⟨v', rfl, ?_, hb'⟩
      rw [hl] at ho
      rw [unhide HKL]
      have h2 : ((xs.length + 1 : Nat) : Int) = (xs.length : Int) + 1 := by omega
      dsimp only
      rw [← hM, h2]
      simpa using ho
    have HD := hide hD
    have hMlt : xs.length < M := by omega
    have hMle : M ≤ 1000000 := by omega
    have HB2 := hide hB2
    clear hown1 hb1 ho1 hr1 hr hd1 ho hown c0 c1 c2 c3 c4 c5 e2 b6 hC hD hST hB2 ia ib HKL hp hq hlen1 hM
    go_wp2_with fail
    refine (unhide HC).mono ?_
    rintro e w2 ⟨g2, d2, rfl, hg2, e3, f3, hd2, ho2, hb2⟩
    have hST := NOwn.stored (n := M) (y := ⟨xf, xc, (xs.length : Int) + 1, M, xs', xv⟩) ho2 hd2 3 (.int .i64 (M : Int)) (by omega) rfl
    have hbw2 := (unhide HB2).trans hb2
    have d7 := (hbw2.cell (p := ⟨g, 7, none⟩) hgs).trans b7
    have hB3 := hbw2.setCell (p := ⟨g2, xs.length * 6 + 3, none⟩) hg2 (.int .i64 (M : Int))
    have HE := hide (unhide HD _ g2 d2 hST hB3)
    have HB3 := hide hB3
    clear hST hbw2 hB3 ho2 hb2 HD HC HB2 d6 e2' f2 b7
    go_wp2_with fail
    refine (unhide HE).mono ?_
    rintro e w3 ⟨v3, rfl, ho3, hb3⟩
    go_wp2_with fail
    go_ret
    exact ⟨v3, rfl, ho3, (unhide HB3).trans hb3⟩

theorem Right.fits {t : List Nd} {n : Nat} (h : Right t n) : Fits n (kTree t) := fun y hy => by
  obtain ⟨j, hj, hf⟩ := kof_asks _ _ y hy
  obtain ⟨h1, h2⟩ := h.asks j y hj hf
  obtain ⟨h3, h4⟩ := h.fit.cut j y hj hf
  exact ⟨h1, h2, h3, h4⟩
/-- what comes of prune.Tree -/
def prunedR (t : List Nd) (fe : Int) : List Nd := if treeE t fe = 0 then prunedV t fe.toNat else []
def sortedR (t : List Nd) (fe : Int) : List Nd := if treeE t fe = 0 then sortedV t else []
def NodesPost (l : List Nd) (er : Int) (w : World) (e : Ending) (w' : World) : Prop :=
  ∃ v, e = .returned (.tuple #[v, errV er]) ∧ NOwn w' w.heap.size v l ∧ Below w.heap.size w w'
end Go.Proofs.Ytopncifebldklaa
