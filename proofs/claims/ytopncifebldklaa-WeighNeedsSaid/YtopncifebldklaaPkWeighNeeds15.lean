/- Part 15 of what LawWeighNeeds needs: Kin2. Conditions: as each lemma names. -/
import Derived.Test.YtopncifebldklaaPkWeighNeeds14
import Derived.Test.YtopncifebldklaaPkWeighNeeds05
/- Plain maths of pruned trees: what is laid is right; pruned once more it stays; each leaf is reached; it says the same. Conditions: as each lemma names. -/
namespace Go.Proofs.Ytopncifebldklaa
set_option linter.unusedVariables false
set_option linter.unusedSimpArgs false
open Go.RowKit

/-- what stands in a tree with kids that is right -/
def Kt.Fit (fe : Int) (k : Kt) : Prop :=
  (∀ y ∈ k.asks, y.f ≠ -1 ∧ 0 ≤ y.f ∧ y.f < fe ∧ -1000000 ≤ y.c ∧ y.c ≤ 1000000 ∧ y.v = 0) ∧
  (∀ y ∈ k.leaves, y.f = -1 ∧ -1000000 ≤ y.v ∧ y.v ≤ 1000000 ∧ y.c = 0 ∧ y.l = 0 ∧ y.r = 0 ∧ y.less = false)
theorem Kt.Fit.left {fe : Int} {x : Nd} {l r : Kt} (h : (Kt.node x l r).Fit fe) : l.Fit fe := ⟨fun y hy => h.1 y (by simp [Kt.asks, hy]), fun y hy => h.2 y (by simp [Kt.leaves, hy])⟩
theorem Kt.Fit.right {fe : Int} {x : Nd} {l r : Kt} (h : (Kt.node x l r).Fit fe) : r.Fit fe := ⟨fun y hy => h.1 y (by simp [Kt.asks, hy]), fun y hy => h.2 y (by simp [Kt.leaves, hy])⟩
theorem Kt.Fit.ok {fe : Int} {k : Kt} (h : k.Fit fe) : k.Ok := ⟨fun y hy => (h.1 y hy).1, fun y hy => (h.2 y hy).1⟩
theorem Right.kfit {t : List Nd} {fe : Int} (h : Right t fe) : (kTree t).Fit fe := by
  refine ⟨fun y hy => ?_, fun y hy => ?_⟩
  · obtain ⟨j, hj, hf⟩ := kof_asks _ _ y hy
    rcases node_of (h.node j y hj) with h1 | h1
    · exact absurd h1.1 hf
    · exact ⟨hf, h1.1, h1.2.1, h1.2.2.1, h1.2.2.2.1, h1.2.2.2.2.2.2.2.2.1⟩
  · obtain ⟨j, hj, hf⟩ := kof_leaves h.behind t.length 0 h.pos (by omega) y hy
    rcases node_of (h.node j y hj) with h1 | h1
    · exact h1
    · omega
theorem kpr_fit {k : Kt} {fe : Int} (h : k.Fit fe) (l : List Sp) : (kpr k l).Fit fe := ⟨fun y hy => h.1 y (kpr_asks k l y hy), fun y hy => h.2 y (kpr_leaves k l y hy)⟩

theorem lay_node {fe : Int} : ∀ (k : Kt) (n N : Nat), k.Fit fe → n + k.size ≤ N → ∀ (j : Nat) x, (layK n k)[j]? = some x → nodeE N (n + j) fe x = 0 := by
  intro k
  induction k with
  | leaf y =>
    intro n N hk hN j x hx
    cases j with
    | zero =>
      simp [layK] at hx
      subst hx
      obtain ⟨h1, h2, h3, h4, h5, h6, h7⟩ := hk.2 y (by simp [Kt.leaves])
      unfold nodeE
      rw [if_pos h1, if_neg (by omega), if_neg (by omega), if_neg (by omega), if_neg (by omega), if_neg (by omega), if_neg (by simp [h7])]
    | succ j => simp [layK] at hx
  | node y a b ia ib =>
    intro n N hk hN j x hx
    have hsa := a.size_pos
    have hsb := b.size_pos
    simp only [Kt.size] at hN
    cases j with
    | zero =>
      simp [layK] at hx
      subst hx
      obtain ⟨h1, h2, h3, h4, h5, h6⟩ := hk.1 y (by simp [Kt.asks])
      unfold nodeE
      dsimp only
      rw [if_neg h1, if_neg (by omega), if_neg (by omega), if_neg (by omega), if_neg (by omega), if_neg (by omega), if_neg (by omega), if_neg (by omega), if_neg (by omega), if_neg (by omega), if_neg (by omega)]
    | succ j =>
      rw [layK, List.getElem?_cons_succ] at hx
      by_cases hj : j < a.size
      · rw [List.getElem?_append_left (by rw [layK_len]; exact hj)] at hx
        have := ia (n + 1) N hk.left (by omega) j x hx
        rw [show n + (j + 1) = n + 1 + j by omega]
        exact this
      · rw [List.getElem?_append_right (by rw [layK_len]; omega), layK_len] at hx
        have := ib (n + 1 + a.size) N hk.right (by omega) (j - a.size) x hx
        rw [show n + (j + 1) = n + 1 + a.size + (j - a.size) by omega]
        exact this
theorem ups_app (a b : List Nd) (j : Nat) : ups (a ++ b) j = ups a j + ups b j := by
  induction a with
  | nil => simp [ups]
  | cons n r ih => rw [List.cons_append, ups, ups, ih]; omega
theorem ups_lay : ∀ (k : Kt) (n : Nat), k.Ok → ∀ j, ups (layK n k) j = if n < j ∧ j < n + k.size then 1 else 0 := by
  intro k
  induction k with
  | leaf y =>
    intro n hk j
    have hf := hk.2 y (by simp [Kt.leaves])
    rw [if_neg (by simp only [Kt.size]; omega)]
    simp only [layK, ups, kid, hf, if_true]
  | node y a b ia ib =>
    intro n hk j
    have hf := hk.1 y (by simp [Kt.asks])
    have hsa := a.size_pos
    have hsb := b.size_pos
    rw [layK, ups, ups_app, ia _ hk.left, ib _ hk.right]
    simp only [kid, hf, if_false]
    by_cases hc : n < j ∧ j < n + (Kt.node y a b).size
    · rw [if_pos hc]
      simp only [Kt.size] at hc
      repeat' split
      all_goals omega
    · rw [if_neg hc]
      simp only [Kt.size] at hc
      repeat' split
      all_goals omega
def Kt.deep : Kt → Nat
  | .leaf _ => 0
  | .node _ l r => 1 + max l.deep r.deep
theorem seg_self (k : Kt) : Seg (layK 0 k) 0 (layK 0 k) := fun j u hu => by rw [Nat.zero_add]; exact hu
theorem lay_dep {k : Kt} (hk : k.Ok) : ∀ (s : Kt) (i : Nat), At 0 k i s → dep (layK 0 k) i = s.deep := by
  have hb := layK_behind hk
  intro s
  induction s with
  | leaf x =>
    intro i h
    have h1 := h.seg (seg_self k) 0 x rfl
    rw [Nat.add_zero] at h1
    have hf := (h.ok hk).2 x (by simp [Kt.leaves])
    rw [dep_at h1 (fun e => absurd hf e) (fun e => absurd hf e), if_pos hf]
    rfl
  | node x l r il ir =>
    intro i h
    have h1 := h.seg (seg_self k) 0 _ rfl
    rw [Nat.add_zero] at h1
    have hf := (h.ok hk).1 x (by simp [Kt.asks])
    have h2 := hb i _ h1 hf
    rw [dep_at h1 (fun _ => h2.1) (fun _ => h2.2.2.1), if_neg hf]
    dsimp only
    rw [Int.toNat_natCast, Int.toNat_natCast, il _ (h.goL rfl), ir _ (h.goR rfl)]
    rfl
theorem kof_deep {t : List Nd} (hb : Behind t) : ∀ k i, i < t.length → t.length ≤ i + k → (kof t k i).deep = dep t i := by
  intro k
  induction k with
  | zero => intro i h1 h2; omega
  | succ k ih =>
    intro i h1 h2
    have hn : t[i]? = some t[i] := List.getElem?_eq_getElem h1
    by_cases hf : (t[i]).f = -1
    · rw [kof_leaf hn hf, dep_at hn (fun e => absurd hf e) (fun e => absurd hf e), if_pos hf]
      rfl
    · obtain ⟨a, b, c, d⟩ := hb i _ hn hf
      rw [kof_node hn hf, dep_at hn (fun _ => a) (fun _ => c), if_neg hf, Kt.deep, ih _ (by omega) (by omega), ih _ (by omega) (by omega)]
theorem kjoin_deep (x : Nd) (a b : Kt) : (kjoin x a b).deep ≤ 1 + max a.deep b.deep := by
  cases a <;> cases b <;> simp only [kjoin]
  · split <;> simp [Kt.deep]
  all_goals exact Nat.le_refl _
theorem kpr_deep : ∀ (k : Kt) (l : List Sp), (kpr k l).deep ≤ k.deep := by
  intro k
  induction k with
  | leaf x => intro l; exact Nat.le_refl _
  | node x a b ia ib =>
    intro l
    simp only [kpr, Kt.deep]
    split
    · have := ib (sideL l x false); omega
    split
    · have := ia (sideL l x true); omega
    have := kjoin_deep x (kpr a (sideL l x true)) (kpr b (sideL l x false))
    have := ia (sideL l x true)
    have := ib (sideL l x false)
    omega
theorem kof_cnt {t : List Nd} (hb : Behind t) : ∀ k i, i < t.length → t.length ≤ i + k → (kof t k i).leaves.length = cnt t i := by
  intro k
  induction k with
  | zero => intro i h1 h2; omega
  | succ k ih =>
    intro i h1 h2
    have hn : t[i]? = some t[i] := List.getElem?_eq_getElem h1
    by_cases hf : (t[i]).f = -1
    · rw [kof_leaf hn hf, cnt_at hn (fun e => absurd hf e) (fun e => absurd hf e), if_pos hf]
      rfl
    · obtain ⟨a, b, c, d⟩ := hb i _ hn hf
      rw [kof_node hn hf, cnt_at hn (fun _ => a) (fun _ => c), if_neg hf, Kt.leaves, List.length_append, ih _ (by omega) (by omega), ih _ (by omega) (by omega)]
theorem Kt.size_leaves (k : Kt) : k.size + 1 = 2 * k.leaves.length := by
  induction k with
  | leaf x => rfl
  | node x a b ia ib => simp only [Kt.size, Kt.leaves, List.length_append]; omega
theorem Right.sortedLen {t : List Nd} {fe : Int} (h : Right t fe) : (kTree t).size = t.length := by
  have h1 := (kTree t).size_leaves
  have h2 := kof_cnt h.behind t.length 0 h.pos (by omega)
  have h3 := h.all_below
  have h4 := h.halves
  unfold kTree at *
  omega
theorem right_lay {k : Kt} {fe : Int} (hk : k.Fit fe) (h0 : 0 ≤ fe) (h8 : fe ≤ 8) (hs : k.size ≤ 63) (hd : k.deep ≤ 10) : Right (layK 0 k) fe := by
  refine ⟨by rw [layK_len]; exact k.size_pos, by rw [layK_len]; exact hs, h0, h8, ?_, ?_, ?_⟩
  · intro i n hi
    rw [layK_len]
    have := lay_node k 0 k.size hk (by omega) i n hi
    rw [Nat.zero_add] at this
    exact this
  · intro i h1 h2
    rw [layK_len] at h2
    rw [ups_lay k 0 hk.ok, if_pos (by omega)]
  · rw [lay_dep hk.ok k 0 (.here _ _)]
    exact hd
theorem Right.sorted {t : List Nd} {fe : Int} (h : Right t fe) : Right (sortedV t) fe := by
  refine right_lay h.kfit h.fe0 h.fe8 (by rw [h.sortedLen]; exact h.most) ?_
  have := kof_deep h.behind t.length 0 h.pos (by omega)
  have := h.deep
  unfold kTree
  omega
theorem Right.pruned {t : List Nd} {fe : Int} (h : Right t fe) (n : Nat) : Right (prunedV t n) fe := by
  have h1 := kpr_size (kTree t) (wideL n)
  have h2 := h.sortedLen
  have h3 := h.most
  refine right_lay (kpr_fit h.kfit _) h.fe0 h.fe8 (by omega) ?_
  have h4 := kof_deep h.behind t.length 0 h.pos (by omega)
  have h5 := kpr_deep (kTree t) (wideL n)
  have := h.deep
  unfold kTree at *
  omega
theorem Right.prunedLess {t : List Nd} {fe : Int} (h : Right t fe) (n : Nat) : (prunedV t n).length ≤ t.length := by
  unfold prunedV
  rw [layK_len]
  have h1 := kpr_size (kTree t) (wideL n)
  have h2 := h.sortedLen
  omega

/-! ### what is laid is read as it was, but for its numbers -/
def nrm (n : Nat) : Kt → Kt
  | .leaf x => .leaf x
  | .node x l r => .node ⟨x.f, x.c, ((n + 1 : Nat) : Int), ((n + 1 + l.size : Nat) : Int), x.less, x.v⟩ (nrm (n + 1) l) (nrm (n + 1 + l.size) r)
theorem kof_lay {k : Kt} (hk : k.Ok) : ∀ (s : Kt) (i m : Nat), At 0 k i s → s.size ≤ m → kof (layK 0 k) m i = nrm i s := by
  intro s
  induction s with
  | leaf x =>
    intro i m h hm
    simp only [Kt.size] at hm
    obtain ⟨m, rfl⟩ : ∃ q, m = q + 1 := ⟨m - 1, by omega⟩
    have h1 := h.seg (seg_self k) 0 x rfl
    rw [Nat.add_zero] at h1
    rw [kof_leaf h1 ((h.ok hk).2 x (by simp [Kt.leaves]))]
    rfl
  | node x l r il ir =>
    intro i m h hm
    simp only [Kt.size] at hm
    obtain ⟨m, rfl⟩ : ∃ q, m = q + 1 := ⟨m - 1, by omega⟩
    have h1 := h.seg (seg_self k) 0 _ rfl
    rw [Nat.add_zero] at h1
    rw [kof_node h1 ((h.ok hk).1 x (by simp [Kt.asks]))]
    dsimp only
    rw [Int.toNat_natCast, Int.toNat_natCast, il _ m (h.goL rfl) (by omega), ir _ m (h.goR rfl) (by omega)]
    rfl
theorem kTree_lay {k : Kt} (hk : k.Ok) : kTree (layK 0 k) = nrm 0 k := by
  unfold kTree
  exact kof_lay hk k 0 _ (.here _ _) (by rw [layK_len]; exact Nat.le_refl _)
inductive Alike : Kt → Kt → Prop where
  | leaf (x : Nd) : Alike (.leaf x) (.leaf x)
  | node {x y : Nd} {a b c d : Kt} : x.f = y.f → x.c = y.c → x.less = y.less → x.v = y.v → Alike a c → Alike b d → Alike (.node x a b) (.node y c d)
theorem Alike.size_ {a b : Kt} (h : Alike a b) : a.size = b.size := by
  induction h with
  | leaf x => rfl
  | node _ _ _ _ _ _ ia ib => simp only [Kt.size, ia, ib]
theorem Alike.lay {a b : Kt} (h : Alike a b) : ∀ n, layK n a = layK n b := by
  induction h with
  | leaf x => intro n; rfl
  | node h1 h2 h3 h4 h5 h6 ia ib => intro n; simp only [layK, h1, h2, h3, h4, ia, ib, h5.size_]
theorem nrm_alike : ∀ (k : Kt) (n : Nat), Alike (nrm n k) k := by
  intro k
  induction k with
  | leaf x => intro n; exact .leaf x
  | node x l r il ir => intro n; exact .node rfl rfl rfl rfl (il _) (ir _)
theorem sideL_alike {x y : Nd} (h1 : x.f = y.f) (h2 : x.c = y.c) (h3 : x.less = y.less) (l : List Sp) (b : Bool) : sideL l x b = sideL l y b := by unfold sideL; rw [h1, h2, h3]
theorem kjoin_alike {x y : Nd} {a b c d : Kt} (h1 : x.f = y.f) (h2 : x.c = y.c) (h3 : x.less = y.less) (h4 : x.v = y.v) (ha : Alike a c) (hb : Alike b d) : Alike (kjoin x a b) (kjoin y c d) := by
  cases ha with
  | leaf u =>
    cases hb with
    | leaf v =>
      simp only [kjoin]
      split
      · exact .leaf u
      · exact .node h1 h2 h3 h4 (.leaf u) (.leaf v)
    | node g1 g2 g3 g4 g5 g6 => exact .node h1 h2 h3 h4 (.leaf u) (.node g1 g2 g3 g4 g5 g6)
  | node g1 g2 g3 g4 g5 g6 => cases hb with
    | leaf v => exact .node h1 h2 h3 h4 (.node g1 g2 g3 g4 g5 g6) (.leaf v)
    | node f1 f2 f3 f4 f5 f6 => exact .node h1 h2 h3 h4 (.node g1 g2 g3 g4 g5 g6) (.node f1 f2 f3 f4 f5 f6)
theorem Alike.kpr_ {a b : Kt} (h : Alike a b) : ∀ l, Alike (kpr a l) (kpr b l) := by
  induction h with
  | leaf x => intro l; exact .leaf x
  | node h1 h2 h3 h4 h5 h6 ia ib =>
    intro l
    simp only [kpr, sideL_alike h1 h2 h3]
    split
    · exact ib _
    split
    · exact ia _
    exact kjoin_alike h1 h2 h3 h4 (ia _) (ib _)

/-! ### pruned once more it stays -/
def Clean : Kt → List Sp → Prop
  | .leaf _, _ => True
  | .node x a b, l => anyB (sideL l x true) = true ∧ anyB (sideL l x false) = true ∧ kjoin x a b = .node x a b ∧ Clean a (sideL l x true) ∧ Clean b (sideL l x false)
theorem Clean.mono : ∀ {k : Kt} {l' l : List Sp}, Clean k l' → Within l' l → Clean k l := by
  intro k
  induction k with
  | leaf x => intro l' l _ _; trivial
  | node x a b ia ib =>
    intro l' l h hw
    obtain ⟨h1, h2, h3, h4, h5⟩ := h
    exact ⟨any_mono (within_side_mono hw x true) h1, any_mono (within_side_mono hw x false) h2, h3, ia h4 (within_side_mono hw x true), ib h5 (within_side_mono hw x false)⟩
theorem Clean.stays : ∀ {k : Kt} {l : List Sp}, Clean k l → kpr k l = k := by
  intro k
  induction k with
  | leaf x => intro l _; rfl
  | node x a b ia ib =>
    intro l h
    obtain ⟨h1, h2, h3, h4, h5⟩ := h
    simp only [kpr]
    rw [if_neg (by simp [h1]), if_neg (by simp [h2]), ia h4, ib h5, h3]
theorem kpr_clean : ∀ (k : Kt) (l : List Sp), Clean (kpr k l) l := by
  intro k
  induction k with
  | leaf x => intro l; trivial
  | node x a b ia ib =>
    intro l
    simp only [kpr]
    split
    · exact (ib _).mono (within_side l x false)
    split
    · exact (ia _).mono (within_side l x true)
    rename_i h1 h2
    have h1' : anyB (sideL l x true) = true := by simpa using h1
    have h2' : anyB (sideL l x false) = true := by simpa using h2
    have ha := ia (sideL l x true)
    have hb := ib (sideL l x false)
    revert ha hb
    generalize kpr a (sideL l x true) = p
    generalize kpr b (sideL l x false) = q
    intro ha hb
    cases p <;> cases q <;> simp only [kjoin]
    · split
      · trivial
      · rename_i h3
        exact ⟨h1', h2', by simp only [kjoin]; rw [if_neg h3], ha, hb⟩
    all_goals exact ⟨h1', h2', rfl, ha, hb⟩
theorem Right.prunedTwice {t : List Nd} {fe : Int} (h : Right t fe) (n : Nat) : prunedV (prunedV t n) n = prunedV t n := by
  have h1 : kTree (prunedV t n) = nrm 0 (kpr (kTree t) (wideL n)) := kTree_lay (kpr_ok (kof_ok _ _ _) _)
  show layK 0 (kpr (kTree (prunedV t n)) (wideL n)) = _
  rw [h1, ((nrm_alike _ 0).kpr_ (wideL n)).lay 0, (kpr_clean _ _).stays]
  rfl
theorem Right.sortedTwice {t : List Nd} {fe : Int} (h : Right t fe) : sortedV (sortedV t) = sortedV t := by
  have h1 : kTree (sortedV t) = nrm 0 (kTree t) := kTree_lay (kof_ok _ _ _)
  show layK 0 (kTree (sortedV t)) = _
  rw [h1, (nrm_alike _ 0).lay 0]
  rfl

/-! ### each leaf is reached -/
def idxK (n : Nat) : Kt → List Nat
  | .leaf _ => [n]
  | .node _ l r => idxK (n + 1) l ++ idxK (n + 1 + l.size) r
theorem leaves_app : ∀ (a b : List Nd) (i : Nat), leavesFrom i (a ++ b) = leavesFrom i a ++ leavesFrom (i + a.length) b := by
  intro a
  induction a with
  | nil => intro b i; rfl
  | cons n r ih =>
    intro b i
    rw [List.cons_append, leavesFrom, leavesFrom, ih, List.length_cons, show i + (r.length + 1) = i + 1 + r.length by omega]
    split <;> simp
theorem lay_leaves : ∀ (k : Kt) (n : Nat), k.Ok → leavesFrom n (layK n k) = (idxK n k).map (fun j : Nat => (j : Int)) := by
  intro k
  induction k with
  | leaf x => intro n hk; simp [layK, leavesFrom, idxK, hk.2 x (by simp [Kt.leaves])]
  | node x l r il ir =>
    intro n hk
    have hf := hk.1 x (by simp [Kt.asks])
    rw [layK, leavesFrom, if_neg hf, leaves_app, layK_len, il _ hk.left, ir _ hk.right, idxK, List.map_append]
theorem reachX_app (a b : List (Nat × List Sp)) : reachX (a ++ b) = reachX a ++ reachX b := by unfold reachX; rw [List.filter_append, List.map_append]
theorem lay_reach {k : Kt} (hk : k.Ok) : ∀ (s : Kt) (i m : Nat) (l : List Sp), At 0 k i s → s.size ≤ m → Clean s l → anyB l = true → reachX (lv (layK 0 k) m i l) = (idxK i s).map (fun j : Nat => (j : Int)) := by
  intro s
  induction s with
  | leaf x =>
    intro i m l h hm hc ha
    simp only [Kt.size] at hm
    obtain ⟨m, rfl⟩ : ∃ q, m = q + 1 := ⟨m - 1, by omega⟩
    have h1 := h.seg (seg_self k) 0 x rfl
    rw [Nat.add_zero] at h1
    rw [lv_leaf h1 ((h.ok hk).2 x (by simp [Kt.leaves]))]
    simp [reachX, ha, idxK]
  | node x a b ia ib =>
    intro i m l h hm hc ha
    simp only [Kt.size] at hm
    obtain ⟨m, rfl⟩ : ∃ q, m = q + 1 := ⟨m - 1, by omega⟩
    obtain ⟨h1, h2, h3, h4, h5⟩ := hc
    have hs := h.seg (seg_self k) 0 _ rfl
    rw [Nat.add_zero] at hs
    rw [lv_step hs ((h.ok hk).1 x (by simp [Kt.asks]))]
    dsimp only
    have es : ∀ b', sideL l ⟨x.f, x.c, ((i + 1 : Nat) : Int), ((i + 1 + a.size : Nat) : Int), x.less, x.v⟩ b' = sideL l x b' := fun b' => sideL_alike rfl rfl rfl l b'
    rw [Int.toNat_natCast, Int.toNat_natCast, reachX_app, es, es, ia _ m _ (h.goL rfl) (by omega) h4 h1, ib _ m _ (h.goR rfl) (by omega) h5 h2, idxK, List.map_append]
theorem leaves_ge : ∀ (t : List Nd) (i : Nat), ∀ x ∈ leavesFrom i t, (i : Int) ≤ x := by
  intro t
  induction t with
  | nil => intro i x h; cases h
  | cons n r ih =>
    intro i x h
    rw [leavesFrom] at h
    split at h
    · rcases List.mem_cons.1 h with h | h
      · omega
      · have := ih _ x h; omega
    · have := ih _ x h; omega
theorem leaves_sorted : ∀ (t : List Nd) (i : Nat), (leavesFrom i t).Pairwise (· ≤ ·) := by
  intro t
  induction t with
  | nil => intro i; exact .nil
  | cons n r ih =>
    intro i
    rw [leavesFrom]
    split
    · exact .cons (fun x hx => by have := leaves_ge r (i + 1) x hx; omega) (ih _)
    · exact ih _
theorem any_wide (n : Nat) : anyB (wideL n) = true := by unfold anyB wideL; rw [List.all_replicate]; simp [someB, wideS]
theorem Right.prunedReach {t : List Nd} {n : Nat} (h : Right t n) : reachV (prunedV t n) n = leavesFrom 0 (prunedV t n) := by
  have hk : (kpr (kTree t) (wideL n)).Ok := kpr_ok (kof_ok _ _ _) _
  unfold reachV
  rw [if_pos (treeE_right (h.pruned n)), Int.toNat_natCast]
  have h1 : reachX (lv (prunedV t n) (prunedV t n).length 0 (wideL n)) = leavesFrom 0 (prunedV t n) := by
    unfold prunedV
    rw [lay_reach hk _ 0 _ _ (.here _ _) (by rw [layK_len]; exact Nat.le_refl _) (kpr_clean _ _) (any_wide n), lay_leaves _ 0 hk]
  rw [h1]
  exact (sortL_of (List.Perm.refl _) (leaves_sorted _ 0)).symm
theorem At.clean_ {n : Nat} {k : Kt} {i : Nat} {s : Kt} (h : At n k i s) : ∀ l, Clean k l → ∃ l', Clean s l' := by
  induction h with
  | here n k => exact fun l hc => ⟨l, hc⟩
  | left _ ih => exact fun l hc => ih _ hc.2.2.2.1
  | right _ ih => exact fun l hc => ih _ hc.2.2.2.2
/-- of what is laid each left one stands behind its node, and no two leaves side by side say the same -/
theorem Right.prunedSides {t : List Nd} {n : Nat} (h : Right t n) {i : Nat} {x : Nd} (hx : (prunedV t n)[i]? = some x) (hf : x.f ≠ -1) :
    x.l = (i : Int) + 1 ∧ ∃ r a b, x.r = ((r : Nat) : Int) ∧ (prunedV t n)[i + 1]? = some a ∧ (prunedV t n)[r]? = some b ∧ ¬ (a.f = -1 ∧ b.f = -1 ∧ a.v = b.v) := by
  have hk : (kpr (kTree t) (wideL n)).Ok := kpr_ok (kof_ok _ _ _) _
  have hc := kpr_clean (kTree t) (wideL n)
  unfold prunedV at hx ⊢
  generalize kpr (kTree t) (wideL n) = k at *
  have hi : i < k.size := by rw [← layK_len k 0]; exact (List.getElem?_eq_some_iff.1 hx).1
  obtain ⟨s, hat⟩ := At.any k 0 i (Nat.zero_le _) (by omega)
  obtain ⟨l', hcl⟩ := hat.clean_ _ hc
  have h1 := (hat.seg (seg_self k)).top
  cases s with
  | leaf y =>
    have h2 := hat.seg (seg_self k) 0 y rfl
    rw [Nat.add_zero, hx] at h2
    injection h2 with h2
    exact absurd ((hat.ok hk).2 y (by simp [Kt.leaves])) (h2 ▸ hf)
  | node y l r =>
    have h2 := hat.seg (seg_self k) 0 _ rfl
    rw [Nat.add_zero, hx] at h2
    injection h2 with h2
    subst h2
    obtain ⟨a, ha, a1, _, _, a4⟩ := ((hat.goL rfl).seg (seg_self k)).top
    obtain ⟨b, hb, b1, _, _, b4⟩ := ((hat.goR rfl).seg (seg_self k)).top
    refine ⟨by dsimp only; omega, i + 1 + l.size, a, b, rfl, ha, hb, ?_⟩
    rintro ⟨g1, g2, g3⟩
    have hok := hat.ok hk
    have h3 := hcl.2.2.1
    cases l with
    | node z zl zr => exact hok.1 z (by simp [Kt.asks]) (a1.symm.trans g1)
    | leaf z => cases r with
      | node u ul ur => exact hok.1 u (by simp [Kt.asks]) (b1.symm.trans g2)
      | leaf u =>
        have e9 : z.v = u.v := a4.symm.trans (g3.trans b4)
        simp only [kjoin] at h3
        rw [if_pos e9] at h3
        cases h3

/-! ### what it says -/
def kval (r : List Int) : Kt → Int
  | .leaf x => x.v
  | .node x a b => if goes x (cellAt r x.f) = true then kval r a else kval r b
theorem kof_val {t : List Nd} (hb : Behind t) (r : List Int) : ∀ k i, i < t.length → t.length ≤ i + k → valAt t (leafFrom t r k i) = kval r (kof t k i) := by
  intro k
  induction k with
  | zero => intro i h1 h2; omega
  | succ k ih =>
    intro i h1 h2
    have hn : t[i]? = some t[i] := List.getElem?_eq_getElem h1
    by_cases hf : (t[i]).f = -1
    · rw [kof_leaf hn hf, leafFrom_leaf hn hf, valAt, hn]
      rfl
    · obtain ⟨a, b, c, d⟩ := hb i _ hn hf
      rw [kof_node hn hf, leafFrom_step hn hf, kval, nextOf]
      split
      · exact ih _ (by omega) (by omega)
      · exact ih _ (by omega) (by omega)
theorem Alike.val {a b : Kt} (h : Alike a b) (r : List Int) : kval r a = kval r b := by
  induction h with
  | leaf x => rfl
  | node h1 h2 h3 h4 h5 h6 ia ib =>
    rename_i x y a b c d
    have e : goes x (cellAt r x.f) = goes y (cellAt r y.f) := by unfold goes; rw [h1, h2, h3]
    simp only [kval]
    rw [e, ia, ib]
theorem kjoin_val (r : List Int) (x : Nd) (a b : Kt) : kval r (kjoin x a b) = kval r (.node x a b) := by
  cases a <;> cases b <;> simp only [kjoin]
  split
  · rename_i p q h
    simp only [kval, h, ite_self]
  · rfl
theorem kpr_val (r : List Int) : ∀ (k : Kt) (l : List Sp), (∀ y ∈ k.asks, 0 ≤ y.f ∧ y.f < l.length) → inSp r l → kval r (kpr k l) = kval r k := by
  intro k
  induction k with
  | leaf x => intro l _ _; rfl
  | node x a b ia ib =>
    intro l h hr
    have hx := h x (by simp [Kt.asks])
    have ha : ∀ s, ∀ y ∈ a.asks, 0 ≤ y.f ∧ y.f < (sideL l x s).length := fun s y hy => by rw [sideL_len]; exact h y (by simp [Kt.asks, hy])
    have hb : ∀ s, ∀ y ∈ b.asks, 0 ≤ y.f ∧ y.f < (sideL l x s).length := fun s y hy => by rw [sideL_len]; exact h y (by simp [Kt.asks, hy])
    simp only [kpr]
    by_cases hg : goes x (cellAt r x.f) = true
    · have hin := (inSp_side (b := true) hx.1 hx.2).2 ⟨hr, hg⟩
      have h1 := inSp_any hin (fun _ _ => trivial)
      rw [if_neg (by simp [h1])]
      have h2 := ia _ (ha true) hin
      split
      · rw [h2, kval, if_pos hg]
      · rw [kjoin_val, kval, kval, if_pos hg, if_pos hg, h2]
    · have hg' : goes x (cellAt r x.f) = false := by simpa using hg
      have hin := (inSp_side (b := false) hx.1 hx.2).2 ⟨hr, hg'⟩
      have h1 := inSp_any hin (fun _ _ => trivial)
      have h2 := ib _ (hb false) hin
      split
      · rw [h2, kval, if_neg hg]
      · rw [if_neg (by simp [h1]), kjoin_val, kval, kval, if_neg hg, if_neg hg, h2]
theorem row_cellsP {r : List Int} (h : rowE r = 0) : ∀ x ∈ r, x = -1125899906842624 ∨ (-1000000 ≤ x ∧ x ≤ 1000000) := by
  intro x hx
  unfold rowE at h
  by_cases h8 : 8 < r.length
  · rw [if_pos h8] at h; cases h
  · rw [if_neg h8] at h
    by_cases ha : r.all rowGood = true
    · have := List.all_eq_true.1 ha x hx
      unfold rowGood nilC at this
      rw [Bool.or_eq_true, beq_iff_eq] at this
      rcases this with h1 | h1
      · exact .inl h1
      · exact .inr (cellB_t.1 h1)
    · rw [if_neg ha] at h; cases h
theorem in_wideP {r : List Int} (h : rowE r = 0) : inSp r (wideL r.length) := by
  refine ⟨by simp [wideL], fun j x s hx hs => ?_⟩
  have hs2 := List.eq_of_mem_replicate (List.mem_of_getElem? hs)
  subst hs2
  unfold inB wideS
  rcases row_cellsP h x (List.mem_of_getElem? hx) with h1 | ⟨h1, h2⟩
  · rw [if_pos h1]
  · rw [if_neg (by omega)]; simp; omega
theorem Right.value {t : List Nd} {fe : Int} (h : Right t fe) (r : List Int) : valAt t (leafOf t r) = kval r (kTree t) := kof_val h.behind r _ 0 h.pos (by omega)
theorem Right.sortedValue {t : List Nd} {fe : Int} (h : Right t fe) (r : List Int) : valAt (sortedV t) (leafOf (sortedV t) r) = valAt t (leafOf t r) := by
  rw [h.sorted.value r, h.value r]
  have h1 : kTree (sortedV t) = nrm 0 (kTree t) := kTree_lay (kof_ok _ _ _)
  rw [h1]
  exact (nrm_alike _ 0).val r
theorem Right.prunedValue {t : List Nd} {n : Nat} (h : Right t n) {r : List Int} (hr : inSp r (wideL n)) : valAt (prunedV t n) (leafOf (prunedV t n) r) = valAt t (leafOf t r) := by
  rw [(h.pruned n).value r, h.value r]
  have h1 : kTree (prunedV t n) = nrm 0 (kpr (kTree t) (wideL n)) := kTree_lay (kpr_ok (kof_ok _ _ _) _)
  rw [h1, (nrm_alike _ 0).val r]
  refine kpr_val r _ _ (fun y hy => ?_) hr
  rw [wide_len]
  have := h.kfit.1 y hy
  exact ⟨this.2.1, this.2.2.1⟩
end Go.Proofs.Ytopncifebldklaa
