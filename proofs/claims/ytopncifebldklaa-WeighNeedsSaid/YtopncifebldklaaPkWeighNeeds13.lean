/- Part 13 of what LawWeighNeeds needs: Kin, Prune. Conditions: as each lemma names. -/
import Derived.Test.YtopncifebldklaaPkWeighNeeds12
import Derived.Test.YtopncifebldklaaPkWeighNeeds11
import Derived.Test.YtopncifebldklaaPkWeighNeeds03
/- A tree as nodes with their kids: what is pruned, and how it is laid, in plain words. Conditions: none. -/
namespace Go.Proofs.Ytopncifebldklaa
set_option linter.unusedVariables false
set_option linter.unusedSimpArgs false
open Go.RowKit

/-- a node with its kids -/
inductive Kt where
  | leaf (x : Nd)
  | node (x : Nd) (l r : Kt)
def Kt.top : Kt → Nd
  | .leaf x => x
  | .node x _ _ => x
def Kt.size : Kt → Nat
  | .leaf _ => 1
  | .node _ l r => 1 + l.size + r.size
/-- the nodes that ask -/
def Kt.asks : Kt → List Nd
  | .leaf _ => []
  | .node x l r => x :: (l.asks ++ r.asks)
def Kt.leaves : Kt → List Nd
  | .leaf x => [x]
  | .node _ l r => l.leaves ++ r.leaves
def kof (t : List Nd) : Nat → Nat → Kt
  | 0, i => .leaf ⟨-1, 0, 0, 0, false, 0⟩
  | k + 1, i => match t[i]? with
    | some n => if n.f = -1 then .leaf n else .node n (kof t k n.l.toNat) (kof t k n.r.toNat)
    | none => .leaf ⟨-1, 0, 0, 0, false, 0⟩
def kjoin (x : Nd) : Kt → Kt → Kt
  | .leaf p, .leaf q => if p.v = q.v then .leaf p else .node x (.leaf p) (.leaf q)
  | a, b => .node x a b
def kpr : Kt → List Sp → Kt
  | .leaf x, _ => .leaf x
  | .node x a b, l =>
    if anyB (sideL l x true) = false then kpr b (sideL l x false)
    else if anyB (sideL l x false) = false then kpr a (sideL l x true)
    else kjoin x (kpr a (sideL l x true)) (kpr b (sideL l x false))
def layK (n : Nat) : Kt → List Nd
  | .leaf x => [x]
  | .node x l r => ⟨x.f, x.c, ((n + 1 : Nat) : Int), ((n + 1 + l.size : Nat) : Int), x.less, x.v⟩ :: (layK (n + 1) l ++ layK (n + 1 + l.size) r)

theorem Kt.size_pos (k : Kt) : 0 < k.size := by cases k <;> simp [Kt.size] <;> omega
theorem layK_len : ∀ (k : Kt) (n : Nat), (layK n k).length = k.size := by
  intro k
  induction k with
  | leaf x => intro n; rfl
  | node x l r il ir => intro n; simp only [layK, Kt.size, List.length_cons, List.length_append, il, ir]; omega
theorem kof_leaf {t : List Nd} {k i : Nat} {n : Nd} (h : t[i]? = some n) (hf : n.f = -1) : kof t (k + 1) i = .leaf n := by simp only [kof, h, hf, if_true]
theorem kof_node {t : List Nd} {k i : Nat} {n : Nd} (h : t[i]? = some n) (hf : n.f ≠ -1) : kof t (k + 1) i = .node n (kof t k n.l.toNat) (kof t k n.r.toNat) := by simp only [kof, h, hf, if_false]

theorem kjoin_asks {x : Nd} {a b : Kt} {y : Nd} (h : y ∈ (kjoin x a b).asks) : y = x ∨ y ∈ a.asks ∨ y ∈ b.asks := by
  cases a <;> cases b <;> simp only [kjoin] at h
  · split at h <;> simp [Kt.asks] at h ⊢
    exact h
  all_goals simpa [Kt.asks, or_assoc] using h
theorem kjoin_leaves {x : Nd} {a b : Kt} {y : Nd} (h : y ∈ (kjoin x a b).leaves) : y ∈ a.leaves ∨ y ∈ b.leaves := by
  cases a <;> cases b <;> simp only [kjoin] at h
  · split at h <;> simp [Kt.leaves] at h ⊢
    · exact .inl h
    · exact h
  all_goals simpa [Kt.leaves, or_assoc] using h
theorem kpr_asks : ∀ (k : Kt) (l : List Sp), ∀ y ∈ (kpr k l).asks, y ∈ k.asks := by
  intro k
  induction k with
  | leaf x => intro l y h; exact h
  | node x a b ia ib =>
    intro l y h
    simp only [kpr] at h
    simp only [Kt.asks, List.mem_cons, List.mem_append]
    split at h
    · exact .inr (.inr (ib _ _ h))
    split at h
    · exact .inr (.inl (ia _ _ h))
    rcases kjoin_asks h with h | h | h
    · exact .inl h
    · exact .inr (.inl (ia _ _ h))
    · exact .inr (.inr (ib _ _ h))
theorem kpr_leaves : ∀ (k : Kt) (l : List Sp), ∀ y ∈ (kpr k l).leaves, y ∈ k.leaves := by
  intro k
  induction k with
  | leaf x => intro l y h; exact h
  | node x a b ia ib =>
    intro l y h
    simp only [kpr] at h
    simp only [Kt.leaves, List.mem_append]
    split at h
    · exact .inr (ib _ _ h)
    split at h
    · exact .inl (ia _ _ h)
    rcases kjoin_leaves h with h | h
    · exact .inl (ia _ _ h)
    · exact .inr (ib _ _ h)

/-- leaves of one value are one leaf, pruned -/
theorem kpr_one {v : Int} : ∀ (k : Kt) (l : List Sp), (∀ y ∈ k.leaves, y.v = v) → ∃ x, kpr k l = .leaf x ∧ x.v = v := by
  intro k
  induction k with
  | leaf x => intro l h; exact ⟨x, rfl, h x (by simp [Kt.leaves])⟩
  | node x a b ia ib =>
    intro l h
    have ha : ∀ y ∈ a.leaves, y.v = v := fun y hy => h y (by simp [Kt.leaves, hy])
    have hb : ∀ y ∈ b.leaves, y.v = v := fun y hy => h y (by simp [Kt.leaves, hy])
    simp only [kpr]
    split
    · exact ib _ hb
    split
    · exact ia _ ha
    obtain ⟨p, ep, hp⟩ := ia (sideL l x true) ha
    obtain ⟨q, eq, hq⟩ := ib (sideL l x false) hb
    rw [ep, eq]
    simp only [kjoin]
    rw [if_pos (by rw [hp, hq])]
    exact ⟨p, rfl, hp⟩

/-- spans within others -/
def Within (l' l : List Sp) : Prop :=
  l'.length = l.length ∧ ∀ (i : Nat) s' s, l'[i]? = some s' → l[i]? = some s → s.low ≤ s'.low ∧ s'.high ≤ s.high ∧ (s'.ab = true → s.ab = true)
theorem sideL_at {l : List Sp} {x : Nd} {b : Bool} {i : Nat} {s : Sp} (h : l[i]? = some s) : (sideL l x b)[i]? = some (if i = x.f.toNat then sideS s x.c x.less b else s) := by
  unfold sideL
  by_cases hi : i = x.f.toNat
  · subst hi
    rw [h, if_pos rfl]
    simp only
    rw [List.getElem?_set_self (List.getElem?_eq_some_iff.1 h).1]
  · rw [if_neg hi]
    split
    · exact h
    · rw [List.getElem?_set_ne (fun e => hi e.symm)]; exact h
theorem within_refl (l : List Sp) : Within l l := ⟨rfl, fun i s' s h h' => by rw [h] at h'; injection h' with h'; subst h'; exact ⟨Int.le_refl _, Int.le_refl _, id⟩⟩
theorem within_trans {a b c : List Sp} (h : Within a b) (h' : Within b c) : Within a c := by
  refine ⟨h.1.trans h'.1, fun i s t hs ht => ?_⟩
  have hi : i < b.length := by rw [← h.1]; exact (List.getElem?_eq_some_iff.1 hs).1
  have hm : b[i]? = some b[i] := List.getElem?_eq_getElem hi
  obtain ⟨a1, a2, a3⟩ := h.2 i _ _ hs hm
  obtain ⟨b1, b2, b3⟩ := h'.2 i _ _ hm ht
  exact ⟨by omega, by omega, fun e => b3 (a3 e)⟩
theorem within_side (l : List Sp) (x : Nd) (b : Bool) : Within (sideL l x b) l := by
  refine ⟨sideL_len l x b, fun i s' s h h' => ?_⟩
  rw [sideL_at h'] at h
  injection h with h
  subst h
  split
  · cases b
    · refine ⟨by simp [sideS] <;> omega, by simp [sideS], fun e => by simp [sideS] at e; exact e.1⟩
    · refine ⟨by simp [sideS], by simp [sideS] <;> omega, fun e => by simp [sideS] at e; exact e.1⟩
  · exact ⟨Int.le_refl _, Int.le_refl _, id⟩
theorem within_side_mono {l' l : List Sp} (h : Within l' l) (x : Nd) (b : Bool) : Within (sideL l' x b) (sideL l x b) := by
  refine ⟨by rw [sideL_len, sideL_len]; exact h.1, fun i s' s hs' hs => ?_⟩
  have hi : i < l'.length := by rw [← sideL_len l' x b]; exact (List.getElem?_eq_some_iff.1 hs').1
  have hj : i < l.length := by rw [← h.1]; exact hi
  have e1 : l'[i]? = some l'[i] := List.getElem?_eq_getElem hi
  have e2 : l[i]? = some l[i] := List.getElem?_eq_getElem hj
  rw [sideL_at e1] at hs'
  rw [sideL_at e2] at hs
  injection hs' with hs'
  injection hs with hs
  obtain ⟨a1, a2, a3⟩ := h.2 i _ _ e1 e2
  subst hs' hs
  split
  · cases b
    · refine ⟨by simp [sideS]; omega, by simp [sideS]; omega, fun e => ?_⟩
      simp [sideS] at e ⊢
      exact ⟨a3 e.1, e.2⟩
    · refine ⟨by simp [sideS]; omega, by simp [sideS]; omega, fun e => ?_⟩
      simp [sideS] at e ⊢
      exact ⟨a3 e.1, e.2⟩
  · exact ⟨a1, a2, a3⟩
theorem any_mono {l' l : List Sp} (h : Within l' l) (ha : anyB l' = true) : anyB l = true := by
  simp only [anyB, List.all_eq_true] at ha ⊢
  intro s hs
  obtain ⟨i, hi⟩ := List.getElem?_of_mem hs
  have hil : i < l'.length := by rw [h.1]; exact (List.getElem?_eq_some_iff.1 hi).1
  have e1 : l'[i]? = some l'[i] := List.getElem?_eq_getElem hil
  obtain ⟨a1, a2, a3⟩ := h.2 i _ _ e1 hi
  have := ha _ (List.mem_of_getElem? e1)
  simp [someB] at this ⊢
  rcases this with h | h
  · left; omega
  · right; exact a3 h
theorem any_at {l : List Sp} {i : Nat} {s : Sp} (h : anyB l = true) (hs : l[i]? = some s) : someB s = true := by
  simp only [anyB, List.all_eq_true] at h
  exact h _ (List.mem_of_getElem? hs)

/-- a question that has two sides within spans -/
def Open (l : List Sp) (y : Nd) : Prop := anyB (sideL l y true) = true ∧ anyB (sideL l y false) = true
theorem open_mono {l' l : List Sp} {y : Nd} (h : Within l' l) (ho : Open l' y) : Open l y :=
  ⟨any_mono (within_side_mono h y true) ho.1, any_mono (within_side_mono h y false) ho.2⟩
theorem kpr_open : ∀ (k : Kt) (l : List Sp), ∀ y ∈ (kpr k l).asks, Open l y := by
  intro k
  induction k with
  | leaf x => intro l y h; cases h
  | node x a b ia ib =>
    intro l y h
    simp only [kpr] at h
    split at h
    · exact open_mono (within_side l x false) (ib _ _ h)
    split at h
    · exact open_mono (within_side l x true) (ia _ _ h)
    rename_i h1 h2
    rcases kjoin_asks h with h | h | h
    · subst h; exact ⟨by simpa using h1, by simpa using h2⟩
    · exact open_mono (within_side l x true) (ia _ _ h)
    · exact open_mono (within_side l x false) (ib _ _ h)

def SameQ (x y : Nd) : Prop := x.f = y.f ∧ x.c = y.c ∧ x.less = y.less
theorem twice_shut {l : List Sp} {x y : Nd} (h : SameQ x y) (hx : x.f.toNat < l.length) (b : Bool) : ¬ Open (sideL l x b) y := by
  obtain ⟨h1, h2, h3⟩ := h
  intro ho
  have e : l[x.f.toNat]? = some l[x.f.toNat] := List.getElem?_eq_getElem hx
  have e1 := sideL_at (x := x) (b := b) e
  rw [if_pos rfl] at e1
  have e2 := sideL_at (x := y) (b := !b) e1
  rw [if_pos (by rw [h1])] at e2
  cases b
  · have := any_at ho.1 e2
    simp [someB, sideS, ← h2, ← h3] at this
    rcases this with h | ⟨⟨_, h⟩, h'⟩
    · omega
    · rw [h] at h'; cases h'
  · have := any_at ho.2 e2
    simp [someB, sideS, ← h2, ← h3] at this
    rcases this with h | ⟨⟨_, h⟩, h'⟩
    · omega
    · rw [h] at h'; cases h'
/-- no question twice on a way -/
def Kt.Once : Kt → Prop
  | .leaf _ => True
  | .node x l r => (∀ y, y ∈ l.asks ∨ y ∈ r.asks → ¬ SameQ x y) ∧ l.Once ∧ r.Once
theorem kpr_once : ∀ (k : Kt) (l : List Sp), (∀ y ∈ k.asks, y.f.toNat < l.length) → (kpr k l).Once := by
  intro k
  induction k with
  | leaf x => intro l h; exact trivial
  | node x a b ia ib =>
    intro l h
    have ha : ∀ s, ∀ y ∈ a.asks, y.f.toNat < (sideL l x s).length := fun s y hy => by rw [sideL_len]; exact h y (by simp [Kt.asks, hy])
    have hb : ∀ s, ∀ y ∈ b.asks, y.f.toNat < (sideL l x s).length := fun s y hy => by rw [sideL_len]; exact h y (by simp [Kt.asks, hy])
    have hx := h x (by simp [Kt.asks])
    simp only [kpr]
    split
    · exact ib _ (hb _)
    split
    · exact ia _ (ha _)
    have hq : ∀ y, y ∈ (kpr a (sideL l x true)).asks ∨ y ∈ (kpr b (sideL l x false)).asks → ¬ SameQ x y := by
      intro y hy hs
      rcases hy with hy | hy
      · exact twice_shut hs hx true (kpr_open _ _ y hy)
      · exact twice_shut hs hx false (kpr_open _ _ y hy)
    have h1 := ia _ (ha true)
    have h2 := ib _ (hb false)
    revert hq h1 h2
    generalize kpr a (sideL l x true) = p
    generalize kpr b (sideL l x false) = q
    intro hq h1 h2
    cases p <;> cases q <;> simp only [kjoin]
    · split
      · exact trivial
      · exact ⟨hq, h1, h2⟩
    all_goals exact ⟨hq, h1, h2⟩

/-- leaves are leaves, questions are none -/
def Kt.Ok (k : Kt) : Prop := (∀ y ∈ k.asks, y.f ≠ -1) ∧ (∀ y ∈ k.leaves, y.f = -1)
theorem Kt.Ok.left {x : Nd} {l r : Kt} (h : (Kt.node x l r).Ok) : l.Ok := ⟨fun y hy => h.1 y (by simp [Kt.asks, hy]), fun y hy => h.2 y (by simp [Kt.leaves, hy])⟩
theorem Kt.Ok.right {x : Nd} {l r : Kt} (h : (Kt.node x l r).Ok) : r.Ok := ⟨fun y hy => h.1 y (by simp [Kt.asks, hy]), fun y hy => h.2 y (by simp [Kt.leaves, hy])⟩
theorem kpr_ok {k : Kt} (h : k.Ok) (l : List Sp) : (kpr k l).Ok := ⟨fun y hy => h.1 y (kpr_asks k l y hy), fun y hy => h.2 y (kpr_leaves k l y hy)⟩

/-- at a place of what is laid from n on stands a part -/
inductive At : Nat → Kt → Nat → Kt → Prop where
  | here (n : Nat) (k : Kt) : At n k n k
  | left {n i : Nat} {x : Nd} {l r s : Kt} : At (n + 1) l i s → At n (.node x l r) i s
  | right {n i : Nat} {x : Nd} {l r s : Kt} : At (n + 1 + l.size) r i s → At n (.node x l r) i s
def Seg (p : List Nd) (n : Nat) (q : List Nd) : Prop := ∀ (j : Nat) u, q[j]? = some u → p[n + j]? = some u
theorem Seg.left {p : List Nd} {n : Nat} {x : Nd} {l r : Kt} (h : Seg p n (layK n (.node x l r))) : Seg p (n + 1) (layK (n + 1) l) := fun j u hu => by
  rw [show n + 1 + j = n + (j + 1) by omega]
  refine h _ _ ?_
  rw [layK, List.getElem?_cons_succ, List.getElem?_append_left (List.getElem?_eq_some_iff.1 hu).1, hu]
theorem Seg.right {p : List Nd} {n : Nat} {x : Nd} {l r : Kt} (h : Seg p n (layK n (.node x l r))) : Seg p (n + 1 + l.size) (layK (n + 1 + l.size) r) := fun j u hu => by
  rw [show n + 1 + l.size + j = n + (l.size + j + 1) by omega]
  refine h _ _ ?_
  rw [layK, List.getElem?_cons_succ, List.getElem?_append_right (by rw [layK_len]; omega), layK_len, Nat.add_sub_cancel_left, hu]
theorem At.seg {p : List Nd} {n : Nat} {k : Kt} {i : Nat} {s : Kt} (h : At n k i s) : Seg p n (layK n k) → Seg p i (layK i s) := by
  induction h with
  | here n k => exact id
  | left _ ih => exact fun hs => ih hs.left
  | right _ ih => exact fun hs => ih hs.right
theorem At.ok {n : Nat} {k : Kt} {i : Nat} {s : Kt} (h : At n k i s) : k.Ok → s.Ok := by
  induction h with
  | here n k => exact id
  | left _ ih => exact fun hs => ih hs.left
  | right _ ih => exact fun hs => ih hs.right
theorem At.once {n : Nat} {k : Kt} {i : Nat} {s : Kt} (h : At n k i s) : k.Once → s.Once := by
  induction h with
  | here n k => exact id
  | left _ ih => exact fun hs => ih hs.2.1
  | right _ ih => exact fun hs => ih hs.2.2
theorem At.goL {n : Nat} {k : Kt} {i : Nat} {s : Kt} (h : At n k i s) : ∀ {x : Nd} {l r : Kt}, s = .node x l r → At n k (i + 1) l := by
  induction h with
  | here n k => intro x l r e; subst e; exact .left (.here _ _)
  | left _ ih => intro x l r e; exact .left (ih e)
  | right _ ih => intro x l r e; exact .right (ih e)
theorem At.goR {n : Nat} {k : Kt} {i : Nat} {s : Kt} (h : At n k i s) : ∀ {x : Nd} {l r : Kt}, s = .node x l r → At n k (i + 1 + l.size) r := by
  induction h with
  | here n k => intro x l r e; subst e; exact .right (.here _ _)
  | left _ ih => intro x l r e; exact .left (ih e)
  | right _ ih => intro x l r e; exact .right (ih e)
theorem At.ge {n : Nat} {k : Kt} {i : Nat} {s : Kt} (h : At n k i s) : n ≤ i ∧ i + s.size ≤ n + k.size := by
  induction h with
  | here n k => exact ⟨Nat.le_refl _, Nat.le_refl _⟩
  | left _ ih => simp only [Kt.size]; omega
  | right _ ih => simp only [Kt.size]; omega
theorem At.any : ∀ (k : Kt) (n i : Nat), n ≤ i → i < n + k.size → ∃ s, At n k i s := by
  intro k
  induction k with
  | leaf x => intro n i h1 h2; simp only [Kt.size] at h2; obtain rfl : i = n := by omega
              exact ⟨_, .here _ _⟩
  | node x l r il ir =>
    intro n i h1 h2
    simp only [Kt.size] at h2
    by_cases h : i = n
    · subst h; exact ⟨_, .here _ _⟩
    by_cases h3 : i < n + 1 + l.size
    · obtain ⟨s, hs⟩ := il (n + 1) i (by omega) h3
      exact ⟨s, .left hs⟩
    · obtain ⟨s, hs⟩ := ir (n + 1 + l.size) i (by omega) (by omega)
      exact ⟨s, .right hs⟩
theorem At.asks {n : Nat} {k : Kt} {i : Nat} {s : Kt} (h : At n k i s) : ∀ y ∈ s.asks, y ∈ k.asks := by
  induction h with
  | here n k => exact fun y h => h
  | left _ ih => intro y hy; simp [Kt.asks, ih y hy]
  | right _ ih => intro y hy; simp [Kt.asks, ih y hy]
theorem Seg.top {p : List Nd} {i : Nat} {s : Kt} (h : Seg p i (layK i s)) : ∃ u, p[i]? = some u ∧ u.f = s.top.f ∧ u.c = s.top.c ∧ u.less = s.top.less ∧ u.v = s.top.v := by
  cases s with
  | leaf x => exact ⟨x, h 0 x rfl, rfl, rfl, rfl, rfl⟩
  | node x l r => exact ⟨_, h 0 _ rfl, rfl, rfl, rfl, rfl⟩

/-- one is the other's kid -/
def Par (p : List Nd) (a b : Nat) : Prop := ∃ n, p[a]? = some n ∧ n.f ≠ -1 ∧ (n.l = (b : Int) ∨ n.r = (b : Int))
inductive Chain (p : List Nd) : Nat → Nat → Prop where
  | refl (a : Nat) : Chain p a a
  | cons {a b c : Nat} : Par p a b → Chain p b c → Chain p a c
theorem chain_at {p : List Nd} {a b : Nat} (h : Chain p a b) : ∀ {n : Nat} {k s : Kt}, Seg p n (layK n k) → k.Ok → At n k a s → ∃ s', At a s b s' := by
  induction h with
  | refl a => intro n k s _ _ h; exact ⟨s, .here _ _⟩
  | @cons a b c h1 h2 ih =>
    intro n k s hs hok hat
    obtain ⟨u, hu, hf, hlr⟩ := h1
    cases s with
    | leaf x =>
      have hx := (hat.ok hok).2 x (by simp [Kt.leaves])
      have := hat.seg hs 0 x rfl
      rw [Nat.add_zero, hu] at this
      injection this with this
      subst this
      exact absurd hx hf
    | node x l r =>
      have := hat.seg hs 0 _ rfl
      rw [Nat.add_zero, hu] at this
      injection this with this
      subst this
      rcases hlr with hlr | hlr
      · obtain rfl : a + 1 = b := by dsimp only at hlr; omega
        obtain ⟨s', h'⟩ := ih hs hok (hat.goL rfl)
        exact ⟨s', .left h'⟩
      · obtain rfl : a + 1 + l.size = b := by dsimp only at hlr; omega
        obtain ⟨s', h'⟩ := ih hs hok (hat.goR rfl)
        exact ⟨s', .right h'⟩
/-- of what is laid no question stands twice on a way -/
theorem once_below {k : Kt} (hO : k.Once) (hok : k.Ok) {i j : Nat} {x y : Nd} (hx : (layK 0 k)[i]? = some x) (hy : (layK 0 k)[j]? = some y) (hfx : x.f ≠ -1) (hfy : y.f ≠ -1) (hij : i < j) (hch : Chain (layK 0 k) i j) : ¬ SameQ x y := by
  have hs : Seg (layK 0 k) 0 (layK 0 k) := fun j u hu => by rw [Nat.zero_add]; exact hu
  have hi : i < k.size := by rw [← layK_len k 0]; exact (List.getElem?_eq_some_iff.1 hx).1
  obtain ⟨s, hat⟩ := At.any k 0 i (Nat.zero_le _) (by omega)
  obtain ⟨s', hat'⟩ := chain_at hch hs hok hat
  have hseg := hat.seg hs
  obtain ⟨u, hu, u1, u2, u3, u4⟩ := hseg.top
  rw [hx] at hu; injection hu with hu; subst hu
  have hseg' := hat'.seg hseg
  obtain ⟨u', hu', v1, v2, v3, v4⟩ := hseg'.top
  rw [hy] at hu'; injection hu' with hu'; subst hu'
  have hok' := hat'.ok (hat.ok hok)
  cases s' with
  | leaf z => exact absurd (v1.trans (hok'.2 z (by simp [Kt.leaves]))) hfy
  | node z zl zr =>
    intro hq
    have hz : z ∈ (Kt.node z zl zr).asks := by simp [Kt.asks]
    have hO' := hat.once hO
    cases hat' with
    | here => omega
    | left h => exact hO'.1 z (.inl (h.asks z hz)) ⟨u1.symm.trans (hq.1.trans v1), u2.symm.trans (hq.2.1.trans v2), u3.symm.trans (hq.2.2.trans v3)⟩
    | right h => exact hO'.1 z (.inr (h.asks z hz)) ⟨u1.symm.trans (hq.1.trans v1), u2.symm.trans (hq.2.1.trans v2), u3.symm.trans (hq.2.2.trans v3)⟩

/-! ### a tree of nodes as kids -/
theorem kof_ok (t : List Nd) : ∀ k i, (kof t k i).Ok := by
  intro k
  induction k with
  | zero => intro i; exact ⟨fun y h => by simp [kof, Kt.asks] at h, fun y h => by simp [kof, Kt.leaves] at h; subst h; rfl⟩
  | succ k ih =>
    intro i
    simp only [kof]
    split
    · split
      · rename_i n _ hf
        exact ⟨fun y h => by simp [Kt.asks] at h, fun y h => by simp [Kt.leaves] at h; subst h; exact hf⟩
      · rename_i n _ hf
        refine ⟨fun y h => ?_, fun y h => ?_⟩
        · simp only [Kt.asks, List.mem_cons, List.mem_append] at h
          rcases h with h | h | h
          · subst h; exact hf
          · exact (ih _).1 y h
          · exact (ih _).1 y h
        · simp only [Kt.leaves, List.mem_append] at h
          rcases h with h | h
          · exact (ih _).2 y h
          · exact (ih _).2 y h
    · exact ⟨fun y h => by simp [Kt.asks] at h, fun y h => by simp [Kt.leaves] at h; subst h; rfl⟩
theorem kof_asks {t : List Nd} : ∀ k i, ∀ y ∈ (kof t k i).asks, ∃ j : Nat, t[j]? = some y ∧ y.f ≠ -1 := by
  intro k
  induction k with
  | zero => intro i y h; simp [kof, Kt.asks] at h
  | succ k ih =>
    intro i y h
    simp only [kof] at h
    split at h
    · split at h
      · simp [Kt.asks] at h
      · rename_i n hn hf
        simp only [Kt.asks, List.mem_cons, List.mem_append] at h
        rcases h with h | h | h
        · subst h; exact ⟨i, hn, hf⟩
        · exact ih _ y h
        · exact ih _ y h
    · simp [Kt.asks] at h
theorem kof_leaves {t : List Nd} (hb : Behind t) : ∀ k i, i < t.length → t.length ≤ i + k → ∀ y ∈ (kof t k i).leaves, ∃ j : Nat, t[j]? = some y ∧ y.f = -1 := by
  intro k
  induction k with
  | zero => intro i h1 h2; omega
  | succ k ih =>
    intro i h1 h2 y h
    have hn : t[i]? = some t[i] := List.getElem?_eq_getElem h1
    by_cases hf : (t[i]).f = -1
    · rw [kof_leaf hn hf] at h
      simp [Kt.leaves] at h
      subst h
      exact ⟨i, hn, hf⟩
    · obtain ⟨a, b, c, d⟩ := hb i _ hn hf
      rw [kof_node hn hf] at h
      simp only [Kt.leaves, List.mem_append] at h
      rcases h with h | h
      · exact ih _ (by omega) (by omega) y h
      · exact ih _ (by omega) (by omega) y h
theorem kof_size {t : List Nd} (hb : Behind t) : ∀ k i, i < t.length → t.length ≤ i + k → (kof t k i).size < 2 ^ (dep t i + 1) := by
  intro k
  induction k with
  | zero => intro i h1 h2; omega
  | succ k ih =>
    intro i h1 h2
    have hn : t[i]? = some t[i] := List.getElem?_eq_getElem h1
    by_cases hf : (t[i]).f = -1
    · rw [kof_leaf hn hf]
      exact Nat.lt_of_lt_of_le (by simp [Kt.size] : (Kt.leaf t[i]).size < 2 ^ 1) (Nat.pow_le_pow_right (by omega) (by omega))
    · obtain ⟨a, b, c, d⟩ := hb i _ hn hf
      rw [kof_node hn hf, dep_at hn (fun _ => a) (fun _ => c), if_neg hf]
      have h3 := ih (t[i]).l.toNat (by omega) (by omega)
      have h4 := ih (t[i]).r.toNat (by omega) (by omega)
      have h5 : 2 ^ (dep t (t[i]).l.toNat + 1) ≤ 2 ^ (max (dep t (t[i]).l.toNat) (dep t (t[i]).r.toNat) + 1) := Nat.pow_le_pow_right (by omega) (by omega)
      have h6 : 2 ^ (dep t (t[i]).r.toNat + 1) ≤ 2 ^ (max (dep t (t[i]).l.toNat) (dep t (t[i]).r.toNat) + 1) := Nat.pow_le_pow_right (by omega) (by omega)
      have h7 : 2 ^ (1 + max (dep t (t[i]).l.toNat) (dep t (t[i]).r.toNat) + 1) = 2 * 2 ^ (max (dep t (t[i]).l.toNat) (dep t (t[i]).r.toNat) + 1) := by
        rw [show 1 + max (dep t (t[i]).l.toNat) (dep t (t[i]).r.toNat) + 1 = (max (dep t (t[i]).l.toNat) (dep t (t[i]).r.toNat) + 1) + 1 by omega, Nat.pow_succ]; omega
      simp only [Kt.size]
      omega
theorem kjoin_size (x : Nd) (a b : Kt) : (kjoin x a b).size ≤ 1 + a.size + b.size := by
  cases a <;> cases b <;> simp only [kjoin]
  · split <;> simp [Kt.size]
  all_goals exact Nat.le_refl _
theorem kpr_size : ∀ (k : Kt) (l : List Sp), (kpr k l).size ≤ k.size := by
  intro k
  induction k with
  | leaf x => intro l; exact Nat.le_refl _
  | node x a b ia ib =>
    intro l
    simp only [kpr, Kt.size]
    split
    · have := ib (sideL l x false); omega
    split
    · have := ia (sideL l x true); omega
    have := kjoin_size x (kpr a (sideL l x true)) (kpr b (sideL l x false))
    have := ia (sideL l x true)
    have := ib (sideL l x false)
    omega
/-- a tree, pruned -/
def kTree (t : List Nd) : Kt := kof t t.length 0
def prunedV (t : List Nd) (n : Nat) : List Nd := layK 0 (kpr (kTree t) (wideL n))
def sortedV (t : List Nd) : List Nd := layK 0 (kTree t)
theorem Right.ksize {t : List Nd} {fe : Int} (h : Right t fe) : (kTree t).size < 2048 := by
  have h1 := kof_size h.behind t.length 0 h.pos (by omega)
  have h2 : 2 ^ (dep t 0 + 1) ≤ 2 ^ 11 := Nat.pow_le_pow_right (by omega) (by have := h.deep; omega)
  have h3 : (2 : Nat) ^ 11 = 2048 := by decide
  unfold kTree
  omega
theorem Right.prunedLen {t : List Nd} {fe : Int} (h : Right t fe) (n : Nat) : (prunedV t n).length < 2048 := by
  unfold prunedV
  rw [layK_len]
  have := kpr_size (kTree t) (wideL n)
  have := h.ksize
  omega
theorem Right.prunedOnce {t : List Nd} {n : Nat} (h : Right t n) {i j : Nat} {x y : Nd} (hx : (prunedV t n)[i]? = some x) (hy : (prunedV t n)[j]? = some y) (hfx : x.f ≠ -1) (hfy : y.f ≠ -1) (hij : i < j) (hch : Chain (prunedV t n) i j) : ¬ SameQ x y := by
  refine once_below (kpr_once _ _ ?_) (kpr_ok (kof_ok _ _ _) _) hx hy hfx hfy hij hch
  intro z hz
  obtain ⟨q, hq, hf⟩ := kof_asks _ _ z hz
  have := h.asks q z hq hf
  rw [wide_len]
  omega
theorem Right.prunedOne {t : List Nd} {n : Nat} (h : Right t n) {v : Int} (hv : ∀ (j : Nat) y, t[j]? = some y → y.f = -1 → y.v = v) : ∃ x, prunedV t n = [x] ∧ x.v = v := by
  obtain ⟨x, e, hx⟩ := kpr_one (kTree t) (wideL n) (v := v) (fun y hy => by
    obtain ⟨j, hj, hf⟩ := kof_leaves h.behind t.length 0 h.pos (by omega) y hy
    exact hv j y hj hf)
  exact ⟨x, by unfold prunedV; rw [e]; rfl, hx⟩
end Go.Proofs.Ytopncifebldklaa
/- Package prune: nodes with their kids in memory, Of, pruned, Lay, Tree. Conditions: as each lemma names. -/
namespace Go.Proofs.Ytopncifebldklaa
set_option linter.unusedVariables false
set_option linter.unusedSimpArgs false
open Go.RowKit

/-- cells of a node with its kids -/
def kcells (x : Nd) (u v : Option Addr) : Array Value := #[.int .i64 x.f, .int .i64 x.c, .int .i64 x.l, .int .i64 x.r, .bool x.less, .int .i64 x.v, .pointer u, .pointer v]
/-- a node with its kids lies in memory, in blocks of which S holds -/
def KReads (w : World) (S : Nat → Prop) : Kt → Nat → Prop
  | .leaf x, g => S g ∧ Blk w g 83 (kcells x none none)
  | .node x l r, g => S g ∧ ∃ p q, Blk w g 83 (kcells x (some ⟨p, 0, none⟩) (some ⟨q, 0, none⟩)) ∧ KReads w S l p ∧ KReads w S r q
theorem KReads.keep {w w' : World} {S S' : Nat → Prop} (hS : ∀ b, S b → S' b) (hb : ∀ b, S b → w'.heap[b]? = w.heap[b]?) : ∀ {k : Kt} {g : Nat}, KReads w S k g → KReads w' S' k g := by
  intro k
  induction k with
  | leaf x => intro g h; exact ⟨hS _ h.1, (hb _ h.1).trans h.2⟩
  | node x l r il ir =>
    intro g h
    obtain ⟨h1, p, q, h2, h3, h4⟩ := h
    exact ⟨hS _ h1, p, q, (hb _ h1).trans h2, il h3, ir h4⟩
theorem KReads.in_ {w : World} {S : Nat → Prop} {k : Kt} {g : Nat} (h : KReads w S k g) : S g := by cases k <;> exact h.1
theorem KReads.drewN {w : World} {S : Nat → Prop} {k : Kt} {g : Nat} (h : KReads w S k g) (n : Nat) : KReads (w.drewN n) S k g := KReads.keep (w := w) (w' := w.drewN n) (S := S) (fun _ h => h) (fun _ _ => rfl) h
theorem KReads.drew {w : World} {S : Nat → Prop} {k : Kt} {g : Nat} (h : KReads w S k g) : KReads w.drew S k g := KReads.keep (w := w) (w' := w.drew) (S := S) (fun _ h => h) (fun _ _ => rfl) h
def Till (B : Nat) (b : Nat) : Prop := b < B
def Span2 (A B : Nat) (b : Nat) : Prop := A ≤ b ∧ b < B
theorem KReads.below {w w' : World} {B : Nat} (hb : Below B w w') {k : Kt} {g : Nat} (h : KReads w (Till B) k g) : KReads w' (Till B) k g := h.keep (fun _ h => h) (fun b h => hb.block b h)
theorem KReads.more {w : World} {B B' : Nat} (hB : B ≤ B') {k : Kt} {g : Nat} (h : KReads w (Till B) k g) : KReads w (Till B') k g := h.keep (fun _ h => Nat.lt_of_lt_of_le h hB) (fun _ _ => rfl)

set_option maxRecDepth 100000 in
set_option maxHeartbeats 1000000 in
theorem of_any (A : Option Addr) (m d B : Nat) (t : List Nd) (hm : m ≤ maxLen) (hb : Behind t) : ∀ (k i : Nat) (w : World), m ≤ i + k → i < m → NReads w B A m t → B ≤ w.heap.size →
    Calls Try.prog 23 #[.slice A m d, .int .i64 i] w fun e w' => ∃ g, e = .returned (.pointer (some ⟨g, 0, none⟩)) ∧ KReads w' (Span2 w.heap.size w'.heap.size) (kof t k i) g ∧ Below w.heap.size w w' := by
  intro k
  induction k with
  | zero => intro i w h1 h2; omega
  | succ k ih =>
    intro i w h1 h2 ht hB
    have hlen := ht.len
    obtain ⟨b, o, x, hA, hbb, hx, g0, g1, g2, g3, g4, g5⟩ := ht.get h2
    subst hA
    have bx := Blk.new w 83 (kcells x none none)
    by_cases hf : x.f = -1
    · have HK : Hid (kof t (k + 1) i = .leaf x) := hide (kof_leaf hx hf)
      have HR : Hid (KReads (w.alloc (.cells (kcells x none none) 83)) (Span2 w.heap.size (w.heap.size + 1)) (.leaf x) w.heap.size) := hide ⟨⟨Nat.le_refl _, Nat.lt_succ_self _⟩, bx⟩
      have b0 := bx.cell 0
      obtain ⟨xf, xc, xlf, xr, xs, xv⟩ := x
      simp only [kcells] at hf g0 g1 g2 g3 g4 g5 b0 HR
      simp at b0
      subst hf
      clear hx bx
      go_enter Try.func23, Try.ntmps23
      go_wp2_with fail
      go_ret
      exact ⟨_, rfl, by rw [unhide HK, World.size_alloc]; exact unhide HR, (Below.refl _ _).alloc (Nat.le_refl _) _⟩
    · have HK := hide (kof_node (k := k) hx hf)
      obtain ⟨hb1, hb2, hb3, hb4⟩ := hb i x hx hf
      obtain ⟨jl, hjl⟩ : ∃ j : Nat, x.l = j := ⟨x.l.toNat, by omega⟩
      obtain ⟨jr, hjr⟩ : ∃ j : Nat, x.r = j := ⟨x.r.toNat, by omega⟩
      rw [hjl] at hb1 hb2
      rw [hjr] at hb3 hb4
      rw [hjl, hjr] at HK
      rw [hjl] at g2
      rw [hjr] at g3
      have hnf : (x.f == -1) = false := by simpa using hf
      obtain ⟨xf, xc, xlf, xr, xs, xv⟩ := x
      simp only at hjl hjr
      subst hjl hjr
      obtain ⟨Z, hZ⟩ : ∃ Z, Z = Obj.cells #[.int .i64 xf, .int .i64 xc, .int .i64 jl, .int .i64 jr, .bool xs, .int .i64 xv, .pointer none, .pointer none] 83 := ⟨_, rfl⟩
      have bx : Blk (w.alloc Z) w.heap.size 83 #[.int .i64 xf, .int .i64 xc, .int .i64 jl, .int .i64 jr, .bool xs, .int .i64 xv, .pointer none, .pointer none] := by rw [hZ]; exact Blk.new _ _ _
      have hWs : (w.alloc Z).heap.size = w.heap.size + 1 := by simp
      have hWb : Below w.heap.size w (w.alloc Z) := (Below.refl _ _).alloc (Nat.le_refl _) _
      have ht1 : NReads (w.alloc Z) B (some ⟨b, o, none⟩) m t := ht.below (hWb.mono hB)
      simp only at hnf g0 g1 g2 g3 g4 g5 hb1 hb2 hb3 hb4 HK
      rw [Int.toNat_natCast, Int.toNat_natCast] at HK
      have HZ := hide hZ
      go_enter Try.func23, Try.ntmps23
      go_wp2_with fail
      rw [← unhide HZ]
      clear hZ HZ hx hf ht g0 g1 g2 g3 g4 g5
      generalize w.alloc Z = W at *
      have c0 := bx.cell 0
      have c2 := bx.cell 2
      have c3 := bx.cell 3
      simp at c0 c2 c3
      have HA := hide (ih jl W.drew (by omega) (by omega) (Reads.drew ht1) (by simp; omega))
      have HB := hide (fun (w2 : World) (h : Below W.heap.size W w2) => ih jr w2 (by omega) (by omega) (ht1.below (h.mono (by omega))) (by have := h.size; omega))
      clear ih
      go_region_held3 (fun w' => w'.cell? ⟨w.heap.size, 2, none⟩ = some (.int .i64 jl) ∧ w'.cell? ⟨w.heap.size, 3, none⟩ = some (.int .i64 jr))
        (first | go_keep | exact ⟨(unhide hkk2 2).trans c2, (unhide hkk2 3).trans c3⟩ | exact ⟨(unhide hkk3 2).trans c2, (unhide hkk3 3).trans c3⟩ | exact ⟨(World.cell?_setCell_other _ _ _ _ (fun e => by injection e; omega)).trans ((unhide hkk3 2).trans c2), (World.cell?_setCell_other _ _ _ _ (fun e => by injection e; omega)).trans ((unhide hkk3 3).trans c3)⟩ | exact ⟨(World.cell?_setCell_other _ _ _ _ (fun e => by injection e; omega)).trans ((World.cell?_setCell_other _ _ _ _ (fun e => by injection e; omega)).trans ((unhide hkk3 2).trans c2)), (World.cell?_setCell_other _ _ _ _ (fun e => by injection e; omega)).trans ((World.cell?_setCell_other _ _ _ _ (fun e => by injection e; omega)).trans ((unhide hkk3 3).trans c3))⟩)
        (first
          | (go_at_call 23
             (with_reducible refine (unhide HA).mono ?_)
             rintro e w2 ⟨p, rfl, hk2, hb2⟩
             have hb2' : Below W.heap.size W w2 := ⟨hb2.os, hb2.tape, hb2.output, hb2.size, hb2.block⟩
             have hs2 := hb2'.size
             have hkk2 : Hid (∀ o, w2.cell? ⟨w.heap.size, o, none⟩ = W.cell? ⟨w.heap.size, o, none⟩) := hide (fun o => hb2'.cell (p := ⟨w.heap.size, o, none⟩) (by show w.heap.size < W.heap.size; omega)))
          | (go_at_call 23
             (with_reducible refine (unhide HB w2 hb2').mono ?_)
             rintro e w3 ⟨q, rfl, hk3, hb3'⟩
             have hkk3 : Hid (∀ o, w3.cell? ⟨w.heap.size, o, none⟩ = W.cell? ⟨w.heap.size, o, none⟩) := hide (fun o => (hb3'.cell (p := ⟨w.heap.size, o, none⟩) (by show w.heap.size < w2.heap.size; omega)).trans (unhide hkk2 o))
             have bx3 := (bx.below hb2' (by omega)).below hb3' (by omega)
             have d6 : w3.cell? ⟨w.heap.size, 6, none⟩ = some (.pointer none) := bx3.cell 6
             have d7 : w3.cell? ⟨w.heap.size, 7, none⟩ = some (.pointer none) := bx3.cell 7
             have f6 := bx3.frozen 6
             have f7 := bx3.frozen 7))
      have hs3 := hb3'.size
      have hsz : ((w3.setCell ⟨w.heap.size, 6, none⟩ (.pointer (some ⟨p, 0, none⟩))).setCell ⟨w.heap.size, 7, none⟩ (.pointer (some ⟨q, 0, none⟩))).heap.size = w3.heap.size := by simp [World.setCell]
      have far : ∀ g, g ≠ w.heap.size → ((w3.setCell ⟨w.heap.size, 6, none⟩ (.pointer (some ⟨p, 0, none⟩))).setCell ⟨w.heap.size, 7, none⟩ (.pointer (some ⟨q, 0, none⟩))).heap[g]? = w3.heap[g]? := fun g hg => (Below.heap_setCell _ ⟨w.heap.size, 7, none⟩ _ g hg).trans (Below.heap_setCell _ ⟨w.heap.size, 6, none⟩ _ g hg)
      have HR : Hid (KReads ((w3.setCell ⟨w.heap.size, 6, none⟩ (.pointer (some ⟨p, 0, none⟩))).setCell ⟨w.heap.size, 7, none⟩ (.pointer (some ⟨q, 0, none⟩))) (Span2 w.heap.size w3.heap.size) (.node ⟨xf, xc, jl, jr, xs, xv⟩ (kof t k jl) (kof t k jr)) w.heap.size) := by
        refine hide ⟨⟨Nat.le_refl _, by omega⟩, p, q, ?_, ?_, ?_⟩
        · exact (bx3.set_ 6 _).set_ 7 _
        · refine hk2.keep (fun b h => ⟨by have := h.1; simp at this; omega, by have := h.2; omega⟩) (fun b h => (far b (by have := h.1; simp at this; omega)).trans (hb3'.block b h.2))
        · refine hk3.keep (fun b h => ⟨by have := h.1; omega, h.2⟩) (fun b h => far b (by have := h.1; omega))
      have hbel : Below w.heap.size w w3 := (hWb.trans (hb2'.mono (by omega))).trans (hb3'.mono (by omega))
      clear hk2 hk3 hb2 hb2' hb3' hkk2 hkk3 bx3 d6 d7 f6 f7 far c0 c2 c3 bx HA HB ht1
      go_wp2_with fail
      go_ret
      exact ⟨_, rfl, by rw [unhide HK, hsz]; exact unhide HR, (hbel.setCell (p := ⟨w.heap.size, 6, none⟩) (Nat.le_refl _) _).setCell (p := ⟨w.heap.size, 7, none⟩) (Nat.le_refl _) _⟩

theorem KReads.lt {w : World} {B : Nat} {k : Kt} {g : Nat} (h : KReads w (Till B) k g) : g < B := h.in_
theorem KReads.of_span {w : World} {A B : Nat} {k : Kt} {g : Nat} (h : KReads w (Span2 A B) k g) : KReads w (Till B) k g := h.keep (fun _ h => h.2) (fun _ _ => rfl)
/-- what a question in a tree with kids is about -/
def Fits (n : Nat) (k : Kt) : Prop := ∀ y ∈ k.asks, 0 ≤ y.f ∧ y.f < n ∧ -1000000 ≤ y.c ∧ y.c ≤ 1000000
theorem Fits.left {n : Nat} {x : Nd} {l r : Kt} (h : Fits n (.node x l r)) : Fits n l := fun y hy => h y (by simp [Kt.asks, hy])
theorem Fits.right {n : Nat} {x : Nd} {l r : Kt} (h : Fits n (.node x l r)) : Fits n r := fun y hy => h y (by simp [Kt.asks, hy])

end Go.Proofs.Ytopncifebldklaa
