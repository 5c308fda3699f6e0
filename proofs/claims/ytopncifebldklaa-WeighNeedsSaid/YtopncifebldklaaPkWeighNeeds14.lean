/- Part 14 of what LawWeighNeeds needs: Prune2, KinUp, Reach, Reach2. Conditions: as each lemma names. -/
import Derived.Test.YtopncifebldklaaPkWeighNeeds13
import Derived.Test.YtopncifebldklaaPkWeighNeeds11
import Derived.Deep.CutRange
import Derived.Test.YtopncifebldklaaPkWeighNeeds12
import Derived.Test.YtopncifebldklaaPkWeighNeeds06
/- Package prune: Lay, Tree, Sort. Conditions: as each lemma names. -/
namespace Go.Proofs.Ytopncifebldklaa
set_option linter.unusedVariables false
set_option linter.unusedSimpArgs false
open Go.RowKit

theorem elem_nodeP : Elem Try.prog 26 29 (.agg #[.int .i64 0, .int .i64 0, .int .i64 0, .int .i64 0, .bool false, .int .i64 0]) 6 48 := ⟨Try.underlying26, by kernel_rfl, rfl, by omega, by omega⟩
theorem node_one (x : Nd) : ∀ u ∈ [Value.int .i64 x.f, .int .i64 x.c, .int .i64 x.l, .int .i64 x.r, .bool x.less, .int .i64 x.v], u.oneCell' = true := by
  intro u hu
  simp at hu
  rcases hu with rfl | rfl | rfl | rfl | rfl | rfl <;> rfl
theorem nodes_set (xs zs : List Nd) (x y : Nd) (r : Nat) (u : Value) (hr : r < 6) (h : x.cells.set r u = y.cells) :
    ((xs ++ x :: zs).flatMap Nd.cells).set (xs.length * 6 + r) u = (xs ++ y :: zs).flatMap Nd.cells := by
  have hl := flatMap_len Nd.cells 6 (fun _ => rfl) xs
  rw [List.flatMap_append, List.flatMap_append, List.set_append_right _ _ (by omega)]
  congr 1
  rw [List.flatMap_cons, List.flatMap_cons, hl, show xs.length * 6 + r - xs.length * 6 = r by omega, List.set_append_left _ _ (by simpa [Nd.cells] using hr), h]

/-- a row of nodes of a call's own -/
def NOwn (w : World) (base : Nat) (v : Value) (l : List Nd) : Prop := w.ownsRow base 29 6 v l.length (l.flatMap Nd.cells)
theorem NOwn.nil_ (w : World) (base : Nat) : NOwn w base (.slice none 0 0) [] := World.ownsRow_nil _ _ _ _
theorem NOwn.low {w : World} {base base' : Nat} {v : Value} {l : List Nd} (h : NOwn w base v l) (hb : base' ≤ base) : NOwn w base' v l := by
  refine ⟨h.1, ?_⟩
  rcases h.2 with h1 | ⟨g, cap, cur, e, hg, h2⟩
  · exact .inl h1
  · exact .inr ⟨g, cap, cur, e, Nat.le_trans hb hg, h2⟩
theorem NOwn.slice {w : World} {base : Nat} {v : Value} {l : List Nd} (h : NOwn w base v l) : ∃ A c, v = .slice A l.length c ∧ NReads w w.heap.size A l.length l ∧ l.length ≤ c := by
  obtain ⟨A, c, e, hr, _, hc⟩ := own_slice h
  exact ⟨A, c, e, hr, hc⟩
theorem NOwn.at_ {w : World} {base n cap : Nat} {A : Option Addr} {l : List Nd} (h : NOwn w base (.slice A n cap) l) (hl : l.length = n) {k : Nat} {x : Nd} (hx : l[k]? = some x) (r : Nat) (hr : r < 6) :
    ∃ g, A = some ⟨g, 0, none⟩ ∧ base ≤ g ∧ g < w.heap.size ∧ w.cell? ⟨g, k * 6 + r, none⟩ = x.cells[r]? ∧ w.frozen? ⟨g, k * 6 + r, none⟩ = false := by
  unfold NOwn at h
  rw [hl] at h
  have hk : k < n := by rw [← hl]; exact (List.getElem?_eq_some_iff.1 hx).1
  have hc := flatMap_at Nd.cells 6 (fun _ => rfl) l k r x hx hr
  rcases h.2 with ⟨e, h0⟩ | ⟨g, cap', cur, e, hg, hh, _⟩
  · omega
  · injection e with e1 e2 e3
    subst e1
    refine ⟨g, rfl, hg, (Array.getElem?_eq_some_iff.1 hh).1, ?_, h.frozenAt _⟩
    rw [h.cellAt _ (by omega), hc]
theorem NOwn.stored {w : World} {base n cap g : Nat} {xs zs : List Nd} {x y : Nd} (h : NOwn w base (.slice (some ⟨g, 0, none⟩) n cap) (xs ++ x :: zs)) (hl : (xs ++ x :: zs).length = n) (r : Nat) (u : Value) (hr : r < 6) (he : x.cells.set r u = y.cells) :
    NOwn (w.setCell ⟨g, xs.length * 6 + r, none⟩ u) base (.slice (some ⟨g, 0, none⟩) n cap) (xs ++ y :: zs) := by
  unfold NOwn at h ⊢
  have hl' : (xs ++ y :: zs).length = n := by rw [← hl]; simp
  rw [hl] at h
  rw [hl', ← nodes_set xs zs x y r u hr he]
  exact (h.stored _ u).1

set_option maxRecDepth 100000 in
set_option maxHeartbeats 2000000 in
theorem lay_any : ∀ (k : Kt) (g : Nat) (xs : List Nd) (v : Value) (base : Nat) (w : World), KReads w (Till base) k g → NOwn w base v xs → base ≤ w.heap.size → xs.length + k.size ≤ 1000000 →
    Calls Try.prog 24 #[.pointer (some ⟨g, 0, none⟩), v] w fun e w' => ∃ v', e = .returned v' ∧ NOwn w' base v' (xs ++ layK xs.length k) ∧ Below base w w' := by
  intro k
  induction k with
  | leaf x =>
    intro g xs v base w hk ho hB hn
    obtain ⟨hg, bx⟩ := hk
    have hgs : g < base := hg
    obtain ⟨A, c, rfl, hr, _⟩ := ho.slice
    have hown : w.ownsRow base 29 6 (.slice A xs.length c) xs.length (xs.flatMap Nd.cells) := ho
    have HN := hide hn
    simp only [Kt.size] at hn
    obtain ⟨xf, xc, xlf, xr, xs', xv⟩ := x
    have c0 : w.cell? ⟨g, 0, none⟩ = some (.int .i64 xf) := bx.cell 0
    have c1 : w.cell? ⟨g, 1, none⟩ = some (.int .i64 xc) := bx.cell 1
    have c2 : w.cell? ⟨g, 2, none⟩ = some (.int .i64 xlf) := bx.cell 2
    have c3 : w.cell? ⟨g, 3, none⟩ = some (.int .i64 xr) := bx.cell 3
    have c4 : w.cell? ⟨g, 4, none⟩ = some (.bool xs') := bx.cell 4
    have c5 : w.cell? ⟨g, 5, none⟩ = some (.int .i64 xv) := bx.cell 5
    have b6 : w.cell? ⟨g, 6, none⟩ = some (.pointer none) := bx.cell 6
    clear bx
    go_enter Try.func24, Try.ntmps24
    go_wp2_with (at_builtin; refine app_one elem_nodeP (.tmp 8) (.tmp 13) [.int .i64 xf, .int .i64 xc, .int .i64 xlf, .int .i64 xr, .bool xs', .int .i64 xv] rfl rfl rfl hown rfl rfl rfl (node_one ⟨xf, xc, xlf, xr, xs', xv⟩) (by omega) hB ?_; intro v1 w1 hown1 hb1 _ _; have d6 := (hb1.cell (p := ⟨g, 6, none⟩) hgs).trans b6)
    go_ret
    refine ⟨v1, rfl, ?_, hb1⟩
    unfold NOwn
    rw [layK, List.length_append, List.flatMap_append]
    exact hown1
  | node x a b ia ib =>
    intro g xs v base w hk ho hB hn
    obtain ⟨hg, p, q, bx, hp, hq⟩ := hk
    have hgs : g < base := hg
    obtain ⟨A, c, rfl, hr, _⟩ := ho.slice
    have hown : w.ownsRow base 29 6 (.slice A xs.length c) xs.length (xs.flatMap Nd.cells) := ho
    simp only [Kt.size] at hn
    have HKL : Hid (layK xs.length (.node x a b) = ⟨x.f, x.c, ((xs.length + 1 : Nat) : Int), ((xs.length + 1 + a.size : Nat) : Int), x.less, x.v⟩ :: (layK (xs.length + 1) a ++ layK (xs.length + 1 + a.size) b)) := hide rfl
    obtain ⟨xf, xc, xlf, xr, xs', xv⟩ := x
    have c0 : w.cell? ⟨g, 0, none⟩ = some (.int .i64 xf) := bx.cell 0
    have c1 : w.cell? ⟨g, 1, none⟩ = some (.int .i64 xc) := bx.cell 1
    have c2 : w.cell? ⟨g, 2, none⟩ = some (.int .i64 xlf) := bx.cell 2
    have c3 : w.cell? ⟨g, 3, none⟩ = some (.int .i64 xr) := bx.cell 3
    have c4 : w.cell? ⟨g, 4, none⟩ = some (.bool xs') := bx.cell 4
    have c5 : w.cell? ⟨g, 5, none⟩ = some (.int .i64 xv) := bx.cell 5
    have b6 : w.cell? ⟨g, 6, none⟩ = some (.pointer (some ⟨p, 0, none⟩)) := bx.cell 6
    have b7 : w.cell? ⟨g, 7, none⟩ = some (.pointer (some ⟨q, 0, none⟩)) := bx.cell 7
    clear bx
    have HS := hide hn
    go_enter Try.func24, Try.ntmps24
    go_upto_region 3 with (at_builtin; refine app_one elem_nodeP (.tmp 8) (.tmp 13) [.int .i64 xf, .int .i64 xc, .int .i64 xlf, .int .i64 xr, .bool xs', .int .i64 xv] rfl rfl rfl hown rfl rfl rfl (node_one ⟨xf, xc, xlf, xr, xs', xv⟩) (by omega) hB ?_; intro v1 w1 hown1 hb1 _ _)
    have ho1 : NOwn w1 base v1 (xs ++ [⟨xf, xc, xlf, xr, xs', xv⟩]) := by
      unfold NOwn
      rw [List.length_append, List.flatMap_append]
      exact hown1
    obtain ⟨A1, d1, rfl, hr1, hd1⟩ := ho1.slice
    obtain ⟨g1, hA1, hg1, hg1s, e2, f2⟩ := ho1.at_ rfl (k := xs.length) (x := ⟨xf, xc, xlf, xr, xs', xv⟩) (by simp) 2 (by omega)
    subst hA1
    have d6 := (hb1.cell (p := ⟨g, 6, none⟩) hgs).trans b6
    have hlen1 : (xs ++ [(⟨xf, xc, xlf, xr, xs', xv⟩ : Nd)]).length = xs.length + 1 := by simp
    rw [hlen1] at ho1 hr1 hd1
    have e2' : w1.cell? ⟨g1, xs.length * 6 + 2, none⟩ = some (.int .i64 xlf) := e2
    obtain ⟨M, hM⟩ : ∃ M, M = xs.length + 1 + a.size := ⟨_, rfl⟩
    have hC : ∀ W, NOwn W base (.slice (some ⟨g1, 0, none⟩) (xs.length + 1) d1) (xs ++ [⟨xf, xc, (xs.length : Int) + 1, xr, xs', xv⟩]) → Below base w W → Calls Try.prog 24 #[.pointer (some ⟨p, 0, none⟩), .slice (some ⟨g1, 0, none⟩) (xs.length + 1) d1] W
        fun e w' => ∃ g2 d2, e = .returned (.slice (some ⟨g2, 0, none⟩) M d2) ∧ base ≤ g2 ∧ w'.cell? ⟨g2, xs.length * 6 + 3, none⟩ = some (.int .i64 xr) ∧ w'.frozen? ⟨g2, xs.length * 6 + 3, none⟩ = false ∧ (xs ++ (⟨xf, xc, (xs.length : Int) + 1, xr, xs', xv⟩ : Nd) :: layK (xs.length + 1) a).length = M ∧
          NOwn w' base (.slice (some ⟨g2, 0, none⟩) M d2) (xs ++ ⟨xf, xc, (xs.length : Int) + 1, xr, xs', xv⟩ :: layK (xs.length + 1) a) ∧ Below base W w' := by
      intro W h hb
      refine (ia p (xs ++ [⟨xf, xc, (xs.length : Int) + 1, xr, xs', xv⟩]) _ base W (KReads.below hb hp) h (Nat.le_trans hB hb.size) (by simp; omega)).mono ?_
      rintro e w' ⟨v', rfl, ho, hb'⟩
      rw [show (xs ++ [(⟨xf, xc, (xs.length : Int) + 1, xr, xs', xv⟩ : Nd)]).length = xs.length + 1 by simp, List.append_assoc, List.singleton_append] at ho
      obtain ⟨A2, d2, rfl, _, hd⟩ := ho.slice
      have hl : (xs ++ (⟨xf, xc, (xs.length : Int) + 1, xr, xs', xv⟩ : Nd) :: layK (xs.length + 1) a).length = M := by simp [layK_len]; omega
      rw [hl] at ho hd ⊢
      obtain ⟨g2, rfl, h1, _, h2, h3⟩ := ho.at_ hl (k := xs.length) (x := ⟨xf, xc, (xs.length : Int) + 1, xr, xs', xv⟩) (by simp) 3 (by omega)
      exact ⟨g2, d2, rfl, h1, h2, h3, rfl, ho, hb'⟩
    have hST := NOwn.stored (n := xs.length + 1) (zs := []) (y := ⟨xf, xc, (xs.length : Int) + 1, xr, xs', xv⟩) ho1 (by simp) 2 (.int .i64 ((xs.length : Int) + 1)) (by omega) rfl
    have hB2 := hb1.setCell (p := ⟨g1, xs.length * 6 + 2, none⟩) hg1 (.int .i64 ((xs.length : Int) + 1))
    have HC := hide (hC _ hST hB2)
    have hD : ∀ W g2 d2, NOwn W base (.slice (some ⟨g2, 0, none⟩) M d2) (xs ++ ⟨xf, xc, (xs.length : Int) + 1, M, xs', xv⟩ :: layK (xs.length + 1) a) → Below base w W → Calls Try.prog 24 #[.pointer (some ⟨q, 0, none⟩), .slice (some ⟨g2, 0, none⟩) M d2] W
        fun e w' => ∃ v', e = .returned v' ∧ NOwn w' base v' (xs ++ layK xs.length (.node ⟨xf, xc, xlf, xr, xs', xv⟩ a b)) ∧ Below base W w' := by
      intro W g2 d2 h hb
      have hl : (xs ++ (⟨xf, xc, (xs.length : Int) + 1, M, xs', xv⟩ : Nd) :: layK (xs.length + 1) a).length = M := by simp [layK_len]; omega
      refine (ib q (xs ++ (⟨xf, xc, (xs.length : Int) + 1, M, xs', xv⟩ : Nd) :: layK (xs.length + 1) a) _ base W (KReads.below hb hq) h (Nat.le_trans hB hb.size) (by rw [hl]; omega)).mono ?_
      rintro e w' ⟨v', rfl, ho, hb'⟩
      refine ⟨v', rfl, ?_, hb'⟩
      rw [hl] at ho
      rw [unhide HKL]
      have h2 : ((xs.length + 1 : Nat) : Int) = (xs.length : Int) + 1 := by omega
      dsimp only
      rw [← hM, h2]
      simpa using ho
    have HD := hide hD
    have hMlt : xs.length < M := by omega
    have hMle : M ≤ 1000000 := by omega
    have HB2 := hide hB2
    clear hown1 hb1 ho1 hr1 hr hd1 ho hown c0 c1 c2 c3 c4 c5 e2 b6 hC hD hST hB2 ia ib HKL hp hq hlen1 hM
    go_wp2_with fail
    refine (unhide HC).mono ?_
    rintro e w2 ⟨g2, d2, rfl, hg2, e3, f3, hd2, ho2, hb2⟩
    have hST := NOwn.stored (n := M) (y := ⟨xf, xc, (xs.length : Int) + 1, M, xs', xv⟩) ho2 hd2 3 (.int .i64 (M : Int)) (by omega) rfl
    have hbw2 := (unhide HB2).trans hb2
    have d7 := (hbw2.cell (p := ⟨g, 7, none⟩) hgs).trans b7
    have hB3 := hbw2.setCell (p := ⟨g2, xs.length * 6 + 3, none⟩) hg2 (.int .i64 (M : Int))
    have HE := hide (unhide HD _ g2 d2 hST hB3)
    have HB3 := hide hB3
    clear hST hbw2 hB3 ho2 hb2 HD HC HB2 d6 e2' f2 b7
    go_wp2_with fail
    refine (unhide HE).mono ?_
    rintro e w3 ⟨v3, rfl, ho3, hb3⟩
    go_wp2_with fail
    go_ret
    exact ⟨v3, rfl, ho3, (unhide HB3).trans hb3⟩

theorem Right.fits {t : List Nd} {n : Nat} (h : Right t n) : Fits n (kTree t) := fun y hy => by
  obtain ⟨j, hj, hf⟩ := kof_asks _ _ y hy
  obtain ⟨h1, h2⟩ := h.asks j y hj hf
  obtain ⟨h3, h4⟩ := h.fit.cut j y hj hf
  exact ⟨h1, h2, h3, h4⟩
/-- what comes of prune.Tree -/
def prunedR (t : List Nd) (fe : Int) : List Nd := if treeE t fe = 0 then prunedV t fe.toNat else []
def sortedR (t : List Nd) (fe : Int) : List Nd := if treeE t fe = 0 then sortedV t else []
def NodesPost (l : List Nd) (er : Int) (w : World) (e : Ending) (w' : World) : Prop :=
  ∃ v, e = .returned (.tuple #[v, errV er]) ∧ NOwn w' w.heap.size v l ∧ Below w.heap.size w w'
end Go.Proofs.Ytopncifebldklaa
/- Which node is above another one (R.Up), and the law's 'below'; a tree whose leaves say one value. Conditions: as each lemma names. -/
namespace Go.Proofs.Ytopncifebldklaa
set_option linter.unusedVariables false
set_option linter.unusedSimpArgs false
open Go.RowKit

theorem clashAt_mk {t : List Nd} : ∀ (m i : Nat), (∀ j, i ≤ j → j < i + m → 0 < j → ups t j = 1) → (clashAt t i m).2 = 0 := by
  intro m
  induction m with
  | zero => intro i _; rfl
  | succ m ih =>
    intro i h
    rw [clashAt, if_neg (fun h2 => h2.2 (h i (Nat.le_refl _) (by omega) h2.1))]
    exact ih (i + 1) fun j h1 h2 h3 => h j (by omega) (by omega) h3
theorem treeE_right {t : List Nd} {fe : Int} (h : Right t fe) : treeE t fe = 0 := by
  unfold treeE treeC
  have h1 := h.most
  have h2 := h.pos
  have h3 := h.fe0
  have h4 := h.fe8
  have h5 := h.deep
  rw [if_neg (by omega), if_neg (by omega), if_neg (by omega), if_neg (by omega), badAt_mk t 0 (fun j n hj => by rw [Nat.zero_add]; exact h.node j n hj), if_pos rfl,
    if_pos (clashAt_mk t.length 0 fun j _ hj h0 => h.one j h0 (by omega)), if_neg (by omega)]

/-- each leaf says v -/
def sayV (v : Int) (n : Nd) : Nd := if n.f = -1 then ⟨n.f, n.c, n.l, n.r, n.less, v⟩ else n
theorem sayV_f (v : Int) (n : Nd) : (sayV v n).f = n.f := by unfold sayV; split <;> rfl
theorem sayV_l (v : Int) (n : Nd) : (sayV v n).l = n.l := by unfold sayV; split <;> rfl
theorem sayV_r (v : Int) (n : Nd) : (sayV v n).r = n.r := by unfold sayV; split <;> rfl
theorem nodeE_say {len i : Nat} {fe v : Int} {n : Nd} (h : nodeE len i fe n = 0) (h1 : -1000000 ≤ v) (h2 : v ≤ 1000000) : nodeE len i fe (sayV v n) = 0 := by
  by_cases hf : n.f = -1
  · rcases node_of h with ⟨_, _, _, hc, hl, hr, hs⟩ | h3
    · unfold sayV
      rw [if_pos hf]
      unfold nodeE
      dsimp only
      rw [if_pos hf, if_neg (by omega), if_neg (by omega), if_neg (by omega), if_neg (by omega), if_neg (by omega), if_neg (by simp [hs])]
    · omega
  · unfold sayV; rw [if_neg hf]; exact h
theorem kid_say (v : Int) (n : Nd) (j : Nat) : kid (sayV v n) j = kid n j := by unfold kid; rw [sayV_f, sayV_l, sayV_r]
theorem ups_say (v : Int) : ∀ (t : List Nd) (j : Nat), ups (t.map (sayV v)) j = ups t j := by
  intro t
  induction t with
  | nil => intro j; rfl
  | cons n r ih => intro j; simp only [List.map_cons, ups, kid_say, ih]
theorem deps_say (v : Int) : ∀ (t : List Nd) (i : Nat), deps i (t.map (sayV v)) = deps i t := by
  intro t
  induction t with
  | nil => intro i; rfl
  | cons n r ih => intro i; simp only [List.map_cons, deps, sayV_f, sayV_l, sayV_r, ih]
theorem Right.say {t : List Nd} {fe v : Int} (h : Right t fe) (h1 : -1000000 ≤ v) (h2 : v ≤ 1000000) : Right (t.map (sayV v)) fe := by
  refine ⟨by rw [List.length_map]; exact h.pos, by rw [List.length_map]; exact h.most, h.fe0, h.fe8, ?_, ?_, by unfold dep; rw [deps_say]; exact h.deep⟩
  · intro i n hi
    rw [List.getElem?_map] at hi
    obtain ⟨m, hm, rfl⟩ := Option.map_eq_some_iff.1 hi
    rw [List.length_map]
    exact nodeE_say (h.node i m hm) h1 h2
  · intro i h3 h4
    rw [List.length_map] at h4
    rw [ups_say]
    exact h.one i h3 h4
theorem Right.sayOne {t : List Nd} {fe v : Int} (h : Right t fe) (h1 : -1000000 ≤ v) (h2 : v ≤ 1000000) : ∃ x, prunedR (t.map (sayV v)) fe = [x] ∧ x.v = v := by
  have hr := h.say h1 h2
  obtain ⟨n, rfl⟩ : ∃ n : Nat, fe = n := ⟨fe.toNat, by have := h.fe0; omega⟩
  unfold prunedR
  rw [if_pos (treeE_right hr)]
  refine hr.prunedOne fun j y hj hf => ?_
  rw [List.getElem?_map] at hj
  obtain ⟨m, hm, rfl⟩ := Option.map_eq_some_iff.1 hj
  rw [sayV_f] at hf
  unfold sayV
  rw [if_pos hf]

/-- what is laid has its kids behind -/
theorem layK_kids : ∀ (k : Kt) (n : Nat), k.Ok → ∀ (j : Nat) x, (layK n k)[j]? = some x → x.f ≠ -1 → (n : Int) + j < x.l ∧ x.l < (n : Int) + k.size ∧ (n : Int) + j < x.r ∧ x.r < (n : Int) + k.size := by
  intro k
  induction k with
  | leaf y =>
    intro n hk j x hx hf
    cases j with
    | zero => simp [layK] at hx; subst hx; exact absurd (hk.2 y (by simp [Kt.leaves])) hf
    | succ j => simp [layK] at hx
  | node y a b ia ib =>
    intro n hk j x hx hf
    have hsa := a.size_pos
    have hsb := b.size_pos
    cases j with
    | zero => simp [layK] at hx; subst hx; simp only [Kt.size]; omega
    | succ j =>
      rw [layK, List.getElem?_cons_succ] at hx
      simp only [Kt.size]
      by_cases hj : j < a.size
      · rw [List.getElem?_append_left (by rw [layK_len]; exact hj)] at hx
        have := ia (n + 1) hk.left j x hx hf
        omega
      · rw [List.getElem?_append_right (by rw [layK_len]; omega), layK_len] at hx
        have := ib (n + 1 + a.size) hk.right (j - a.size) x hx hf
        omega
theorem layK_behind {k : Kt} (h : k.Ok) : Behind (layK 0 k) := fun i x hx hf => by
  have := layK_kids k 0 h i x hx hf
  rw [layK_len]
  omega

/-- the node above one -/
def upAt (at_ : Int) : Nat → List Nd → Int
  | _, [] => -1
  | k, n :: r => if n.f ≠ -1 ∧ (n.l = at_ ∨ n.r = at_) then (k : Int) else upAt at_ (k + 1) r
theorem upAt_drop {t : List Nd} {at_ : Int} {k : Nat} {x : Nd} (h : t[k]? = some x) : upAt at_ k (t.drop k) = if x.f ≠ -1 ∧ (x.l = at_ ∨ x.r = at_) then (k : Int) else upAt at_ (k + 1) (t.drop (k + 1)) := by
  obtain ⟨hk, e⟩ := List.getElem?_eq_some_iff.1 h
  rw [List.drop_eq_getElem_cons hk, e, upAt]
theorem upAt_par {at_ : Nat} : ∀ (l : List Nd) (k : Nat), upAt at_ k l = -1 ∨ ∃ j x, l[j]? = some x ∧ x.f ≠ -1 ∧ (x.l = (at_ : Int) ∨ x.r = (at_ : Int)) ∧ upAt at_ k l = ((k + j : Nat) : Int) := by
  intro l
  induction l with
  | nil => intro k; exact .inl rfl
  | cons n r ih =>
    intro k
    rw [upAt]
    by_cases h : n.f ≠ -1 ∧ (n.l = (at_ : Int) ∨ n.r = (at_ : Int))
    · rw [if_pos h]; exact .inr ⟨0, n, rfl, h.1, h.2, rfl⟩
    · rw [if_neg h]
      rcases ih (k + 1) with h1 | ⟨j, x, h1, h2, h3, h4⟩
      · exact .inl h1
      · exact .inr ⟨j + 1, x, by simpa using h1, h2, h3, by rw [h4]; omega⟩
theorem up_par {t : List Nd} {at_ : Nat} : upAt at_ 0 t = -1 ∨ ∃ j : Nat, Par t j at_ ∧ upAt at_ 0 t = j := by
  rcases upAt_par t 0 (at_ := at_) with h | ⟨j, x, h1, h2, h3, h4⟩
  · exact .inl h
  · exact .inr ⟨j, ⟨x, h1, h2, h3⟩, by rw [h4]; omega⟩

def BelowPost (t : List Nd) (i j : Nat) (e : Ending) : Prop := ∃ b, e = .returned (.bool b) ∧ (b = true → Chain t i j)
end Go.Proofs.Ytopncifebldklaa
/- path.Region, path.Reach. Conditions: as each lemma names. -/
namespace Go.Proofs.Ytopncifebldklaa
set_option linter.unusedVariables false
set_option linter.unusedSimpArgs false
open Go.RowKit

/-! ### Region's listener -/
def RegT (go : Nat) : World → Nat → Prop := fun _ k => k = go
def regE (t : List Nd) (fe leaf : Int) : Int := if treeE t fe = 0 then (match t[leaf.toNat]? with
  | some x => if leaf < 0 then 1 else if x.f = -1 then 0 else 1
  | none => 1) else treeE t fe
def mixL (l : List Sp) (k : Nat) : List Sp := (l.take k).map fixS ++ l.drop k
theorem mixL_at {l : List Sp} {k : Nat} : (mixL l k)[k]? = l[k]? := by
  unfold mixL
  by_cases h : k ≤ l.length
  · rw [List.getElem?_append_right (by simp; omega), List.getElem?_drop]
    congr 1
    simp; omega
  · rw [List.getElem?_append_right (by simp; omega), List.getElem?_drop, List.getElem?_eq_none (by simp; omega), List.getElem?_eq_none (by omega)]
theorem mixL_next {l : List Sp} {k : Nat} {s : Sp} (h : l[k]? = some s) : (mixL l k).set k (fixS s) = mixL l (k + 1) := by
  have hk : k < l.length := (List.getElem?_eq_some_iff.1 h).1
  unfold mixL
  rw [take_next h, drop_at h, List.set_append_right _ _ (by simp; omega), List.map_append, List.append_assoc]
  congr 1
  simp
  rw [show k - min k l.length = 0 by omega]
  rfl
theorem mixL_keep {l : List Sp} {k : Nat} {s : Sp} (h : l[k]? = some s) (hs : fixS s = s) : mixL l (k + 1) = mixL l k := by
  rw [← mixL_next h, hs]
  refine List.ext_getElem? fun j => ?_
  rw [List.getElem?_set]
  split
  · rename_i e; subst e
    split
    · rw [mixL_at, h]
    · rename_i h2; rw [List.getElem?_eq_none (by omega)]
  · rfl
/-- what Region tells -/
def RegPost (t : List Nd) (fe leaf : Int) (w : World) (e : Ending) (w' : World) : Prop :=
  ∃ A n c l, e = .returned (.tuple #[.slice A n c, .bool (regE t fe leaf == 0 && anyB l), errV (regE t fe leaf)]) ∧ SReads w' w'.heap.size A n l ∧ (regE t fe leaf = 0 → (n : Int) = fe ∧ l = (regL t fe.toNat leaf.toNat).map fixS) ∧ (regE t fe leaf ≠ 0 → n = 0) ∧ Below w.heap.size w w'
theorem RegPost.fault {t : List Nd} {fe leaf : Int} {w w' : World} (h : regE t fe leaf ≠ 0) (hb : Below w.heap.size w w') : RegPost t fe leaf w (.returned (.tuple #[.slice none 0 0, .bool false, errV (regE t fe leaf)])) w' :=
  ⟨none, 0, 0, [], by rw [show (regE t fe leaf == 0) = false by simpa using h]; rfl, ⟨rfl, fun h => absurd h (by omega)⟩, fun h' => absurd h' h, fun _ => rfl, hb⟩

end Go.Proofs.Ytopncifebldklaa
/- path.Reach. Conditions: as each lemma names. -/
namespace Go.Proofs.Ytopncifebldklaa
set_option linter.unusedVariables false
set_option linter.unusedSimpArgs false
open Go.RowKit

/-- append of one element onto a row of the call's own: and where it lies -/
theorem app_one_at {P : Program} {T E : TypeId} {z : Value} {size bytes : Nat} (hE : Elem P T E z size bytes) {ops : Array Oper} {rest : List Oper} {o : Oper} {a : Act} {Q : Exit → Act → World → Prop} {wr : World}
    (s x : Operand) (cs : List Value) (hgd : o.guard = none) (ho : o.op = .call { callee := .builtin .append, args := #[s, x], argTypes := #[T, T] })
    {base : Nat} {v : Value} {n : Nat} {xs : List Value} (hs : a.eval s = v) (hown : wr.ownsRow base E size v n xs) {g : Nat} (hx : a.eval x = .slice (some ⟨g, 0, none⟩) 1 1) (hgs : wr.heap.size = g)
    (hcs : cs.length = size) (h1 : ∀ u ∈ cs, u.oneCell' = true) (hn : n < 1000000000) (hbase : base ≤ wr.heap.size)
    (h : ∀ v' w', w'.ownsRow base E size v' (n + 1) (xs ++ cs) → Below base wr w' → (wr.alloc (.cells cs.toArray E)).grownBy w' v.ownBlock → (v'.ownBlock = v.ownBlock ∨ v'.ownBlock = some (wr.heap.size + 1)) → wpList P ops Q rest (a.put o.dst v') w') : wpList P ops Q (o :: rest) a (wr.alloc (.cells cs.toArray E)) := by
  subst hgs
  obtain ⟨i, hi, hz, hsz, hby⟩ := info_parts hE.info
  have hw := hE.wide
  refine wpList_append_any _ hgd s x T ho base E i z size bytes hE.und hi hz hsz hby hE.zs hE.pos v n xs hs (hown.alloc _) (wr.heap.size + 1) (some ⟨wr.heap.size, 0, none⟩) 1 1 cs hx (Reads.new_ wr size 1 cs E (by omega)) h1 (by unfold maxLen; omega) ?_ (by simp; omega) ?_
  · have : (n + 1) * bytes ≤ (n + 1) * 1000 := Nat.mul_le_mul_left _ hw
    omega
  · intro v' w' h2 h3 h4
    refine h v' w' h2 (((Below.refl base wr).alloc hbase _).grown h3 (by simp; omega) (own_block_ge hown)) h3 ?_
    rwa [World.size_alloc] at h4

def reachX (ys : List (Nat × List Sp)) : List Int := (ys.filter fun p => anyB p.2).map fun p => (p.1 : Int)
theorem reachX_add (ys : List (Nat × List Sp)) (k : Nat) (l : List Sp) : reachX (ys ++ [(k, l)]) = reachX ys ++ if anyB l then [(k : Int)] else [] := by
  unfold reachX
  rw [List.filter_append, List.map_append, List.filter_cons]
  dsimp only
  split <;> simp
theorem reachX_len (ys : List (Nat × List Sp)) : (reachX ys).length ≤ ys.length := by unfold reachX; rw [List.length_map]; exact List.length_filter_le _ _
def ReT (go : Nat) : World → Nat → Prop := fun w g => g = go ∨ ∃ v, w.cell? ⟨go, 0, none⟩ = some v ∧ v.ownBlock = some g
def ReJ (go B0 : Nat) (ys : List (Nat × List Sp)) (w : World) : Prop := ∃ v, Blk w go 22 #[v] ∧ IOwn w B0 v (reachX ys)
theorem own_lt {w : World} {base : Nat} {e : TypeId} {size n : Nat} {v : Value} {xs : List Value} (h : w.ownsRow base e size v n xs) : ∀ k, v.ownBlock = some k → k < w.heap.size := by
  intro k hk
  rcases h.2 with ⟨rfl, _⟩ | ⟨g, cap, cur, rfl, hg, hh, _⟩
  · simp [Value.ownBlock] at hk
  · simp [Value.ownBlock] at hk; subst hk; exact Blk.lt (t := e) hh
theorem re_ear (go B0 : Nat) (h : B0 ≤ go) : Ear (ReT go) (ReJ go B0) B0 :=
  ⟨fun pre w k hJ hk => by
    obtain ⟨v, hv, ho⟩ := hJ
    rcases hk with rfl | ⟨u, hu, he⟩
    · exact ⟨hv.lt, h⟩
    · have := hv.cell 0
      rw [hu] at this
      simp at this
      subst this
      exact ⟨own_lt ho k he, own_block_ge ho k he⟩, fun pre w w' hJ hb => by
    obtain ⟨v, hv, ho⟩ := hJ
    refine ⟨⟨v, hv.below hb hv.lt, ho.below hb (Nat.le_refl _)⟩, fun g hg => ?_⟩
    rcases hg with rfl | ⟨u, hu, he⟩
    · exact .inl rfl
    · exact .inr ⟨u, by rw [← hu]; exact (hb.cell (p := ⟨go, 0, none⟩) hv.lt).symm, he⟩⟩
def reachV (t : List Nd) (fe : Int) : List Int := if treeE t fe = 0 then sortL (reachX (lv t t.length 0 (wideL fe.toNat))) else []
end Go.Proofs.Ytopncifebldklaa
