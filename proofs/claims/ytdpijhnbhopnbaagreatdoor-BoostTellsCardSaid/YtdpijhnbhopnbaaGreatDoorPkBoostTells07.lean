/- Part 7 of what LawBoostTells needs: Kin, Prune, Prune2, KinUp. Conditions: as each lemma names. -/
import Derived.Test.YtdpijhnbhopnbaaGreatDoorPkBoostTells06
import Derived.Test.YtdpijhnbhopnbaaGreatDoorPkBoostTells05
import Derived.Test.YtdpijhnbhopnbaaGreatDoorPkBoostTells03
import Derived.Deep.CutRange
/- A tree as nodes with their kids: what is pruned, and how it is laid, in plain words. Conditions: none. -/
namespace Go.Proofs.YtdpijhnbhopnbaaGreatDoor
set_option linter.unusedVariables false
set_option linter.unusedSimpArgs false
open Go.RowKit

/-- a node with its kids -/
inductive Kt where
  | leaf (x : Nd)
  | node (x : Nd) (l r : Kt)
def Kt.top : Kt → Nd
  | .leaf x => x
  | .node x _ _ => x
def Kt.size : Kt → Nat
  | .leaf _ => 1
  | .node _ l r => 1 + l.size + r.size
/-- the nodes that ask -/
def Kt.asks : Kt → List Nd
  | .leaf _ => []
  | .node x l r => x :: (l.asks ++ r.asks)
def Kt.leaves : Kt → List Nd
  | .leaf x => [x]
  | .node _ l r => l.leaves ++ r.leaves
def kof (t : List Nd) : Nat → Nat → Kt
  | 0, i => .leaf ⟨-1, 0, 0, 0, false, 0⟩
  | k + 1, i => match t[i]? with
    | some n => if n.f = -1 then .leaf n else .node n (kof t k n.l.toNat) (kof t k n.r.toNat)
    | none => .leaf ⟨-1, 0, 0, 0, false, 0⟩
def kjoin (x : Nd) : Kt → Kt → Kt
  | .leaf p, .leaf q => if p.v = q.v then .leaf p else .node x (.leaf p) (.leaf q)
  | a, b => .node x a b
def kpr : Kt → List Sp → Kt
  | .leaf x, _ => .leaf x
  | .node x a b, l =>
    if anyB (sideL l x true) = false then kpr b (sideL l x false)
    else if anyB (sideL l x false) = false then kpr a (sideL l x true)
    else kjoin x (kpr a (sideL l x true)) (kpr b (sideL l x false))
def layK (n : Nat) : Kt → List Nd
  | .leaf x => [x]
  | .node x l r => ⟨x.f, x.c, ((n + 1 : Nat) : Int), ((n + 1 + l.size : Nat) : Int), x.less, x.v⟩ :: (layK (n + 1) l ++ layK (n + 1 + l.size) r)

theorem Kt.size_pos (k : Kt) : 0 < k.size := by cases k <;> simp [Kt.size] <;> omega
theorem layK_len : ∀ (k : Kt) (n : Nat), (layK n k).length = k.size := by
  intro k
  induction k with
  | leaf x => intro n; rfl
  | node x l r il ir => intro n; simp only [layK, Kt.size, List.length_cons, List.length_append, il, ir]; omega
theorem kof_leaf {t : List Nd} {k i : Nat} {n : Nd} (h : t[i]? = some n) (hf : n.f = -1) : kof t (k + 1) i = .leaf n := by simp only [kof, h, hf, if_true]
theorem kof_node {t : List Nd} {k i : Nat} {n : Nd} (h : t[i]? = some n) (hf : n.f ≠ -1) : kof t (k + 1) i = .node n (kof t k n.l.toNat) (kof t k n.r.toNat) := by simp only [kof, h, hf, if_false]

theorem kjoin_asks {x : Nd} {a b : Kt} {y : Nd} (h : y ∈ (kjoin x a b).asks) : y = x ∨ y ∈ a.asks ∨ y ∈ b.asks := by
  cases a <;> cases b <;> simp only [kjoin] at h
  · split at h <;> simp [Kt.asks] at h ⊢
    exact h
  all_goals simpa [Kt.asks, or_assoc] using h
theorem kjoin_leaves {x : Nd} {a b : Kt} {y : Nd} (h : y ∈ (kjoin x a b).leaves) : y ∈ a.leaves ∨ y ∈ b.leaves := by
  cases a <;> cases b <;> simp only [kjoin] at h
  · split at h <;> simp [Kt.leaves] at h ⊢
    · exact .inl h
    · exact h
  all_goals simpa [Kt.leaves, or_assoc] using h
theorem kpr_asks : ∀ (k : Kt) (l : List Sp), ∀ y ∈ (kpr k l).asks, y ∈ k.asks := by
  intro k
  induction k with
  | leaf x => intro l y h; exact h
  | node x a b ia ib =>
    intro l y h
    simp only [kpr] at h
    simp only [Kt.asks, List.mem_cons, List.mem_append]
    split at h
    · exact .inr (.inr (ib _ _ h))
    split at h
    · exact .inr (.inl (ia _ _ h))
    rcases kjoin_asks h with h | h | h
    · exact .inl h
    · exact .inr (.inl (ia _ _ h))
    · exact .inr (.inr (ib _ _ h))
theorem kpr_leaves : ∀ (k : Kt) (l : List Sp), ∀ y ∈ (kpr k l).leaves, y ∈ k.leaves := by
  intro k
  induction k with
  | leaf x => intro l y h; exact h
  | node x a b ia ib =>
    intro l y h
    simp only [kpr] at h
    simp only [Kt.leaves, List.mem_append]
    split at h
    · exact .inr (ib _ _ h)
    split at h
    · exact .inl (ia _ _ h)
    rcases kjoin_leaves h with h | h
    · exact .inl (ia _ _ h)
    · exact .inr (ib _ _ h)

/-- leaves of one value are one leaf, pruned -/
theorem kpr_one {v : Int} : ∀ (k : Kt) (l : List Sp), (∀ y ∈ k.leaves, y.v = v) → ∃ x, kpr k l = .leaf x ∧ x.v = v := by
  intro k
  induction k with
  | leaf x => intro l h; exact ⟨x, rfl, h x (by simp [Kt.leaves])⟩
  | node x a b ia ib =>
    intro l h
    have ha : ∀ y ∈ a.leaves, y.v = v := fun y hy => h y (by simp [Kt.leaves, hy])
    have hb : ∀ y ∈ b.leaves, y.v = v := fun y hy => h y (by simp [Kt.leaves, hy])
    simp only [kpr]
    split
    · exact ib _ hb
    split
    · exact ia _ ha
    obtain ⟨p, ep, hp⟩ := ia (sideL l x true) ha
    obtain ⟨q, eq, hq⟩ := ib (sideL l x false) hb
    rw [ep, eq]
    simp only [kjoin]
    rw [if_pos (by rw [hp, hq])]
    exact ⟨p, rfl, hp⟩

/-- spans within others -/
def Within (l' l : List Sp) : Prop :=
  l'.length = l.length ∧ ∀ (i : Nat) s' s, l'[i]? = some s' → l[i]? = some s → s.low ≤ s'.low ∧ s'.high ≤ s.high ∧ (s'.ab = true → s.ab = true)
theorem sideL_at {l : List Sp} {x : Nd} {b : Bool} {i : Nat} {s : Sp} (h : l[i]? = some s) : (sideL l x b)[i]? = some (if i = x.f.toNat then sideS s x.c x.less b else s) := by
  unfold sideL
  by_cases hi : i = x.f.toNat
  · subst hi
    rw [h, if_pos rfl]
    simp only
    rw [List.getElem?_set_self (List.getElem?_eq_some_iff.1 h).1]
  · rw [if_neg hi]
    split
    · exact h
    · rw [List.getElem?_set_ne (fun e => hi e.symm)]; exact h
theorem within_refl (l : List Sp) : Within l l := ⟨rfl, fun i s' s h h' => by rw [h] at h'; injection h' with h'; subst h'; exact ⟨Int.le_refl _, Int.le_refl _, id⟩⟩
theorem within_trans {a b c : List Sp} (h : Within a b) (h' : Within b c) : Within a c := by
  refine ⟨h.1.trans h'.1, fun i s t hs ht => ?_⟩
  have hi : i < b.length := by rw [← h.1]; exact (List.getElem?_eq_some_iff.1 hs).1
  have hm : b[i]? = some b[i] := List.getElem?_eq_getElem hi
  obtain ⟨a1, a2, a3⟩ := h.2 i _ _ hs hm
  obtain ⟨b1, b2, b3⟩ := h'.2 i _ _ hm ht
  exact ⟨by omega, by omega, fun e => b3 (a3 e)⟩
theorem within_side (l : List Sp) (x : Nd) (b : Bool) : Within (sideL l x b) l := by
  refine ⟨sideL_len l x b, fun i s' s h h' => ?_⟩
  rw [sideL_at h'] at h
  injection h with h
  subst h
  split
  · cases b
    · refine ⟨by simp [sideS] <;> omega, by simp [sideS], fun e => by simp [sideS] at e; exact e.1⟩
    · refine ⟨by simp [sideS], by simp [sideS] <;> omega, fun e => by simp [sideS] at e; exact e.1⟩
  · exact ⟨Int.le_refl _, Int.le_refl _, id⟩
theorem within_side_mono {l' l : List Sp} (h : Within l' l) (x : Nd) (b : Bool) : Within (sideL l' x b) (sideL l x b) := by
  refine ⟨by rw [sideL_len, sideL_len]; exact h.1, fun i s' s hs' hs => ?_⟩
  have hi : i < l'.length := by rw [← sideL_len l' x b]; exact (List.getElem?_eq_some_iff.1 hs').1
  have hj : i < l.length := by rw [← h.1]; exact hi
  have e1 : l'[i]? = some l'[i] := List.getElem?_eq_getElem hi
  have e2 : l[i]? = some l[i] := List.getElem?_eq_getElem hj
  rw [sideL_at e1] at hs'
  rw [sideL_at e2] at hs
  injection hs' with hs'
  injection hs with hs
  obtain ⟨a1, a2, a3⟩ := h.2 i _ _ e1 e2
  subst hs' hs
  split
  · cases b
    · refine ⟨by simp [sideS]; omega, by simp [sideS]; omega, fun e => ?_⟩
      simp [sideS] at e ⊢
      exact ⟨a3 e.1, e.2⟩
    · refine ⟨by simp [sideS]; omega, by simp [sideS]; omega, fun e => ?_⟩
      simp [sideS] at e ⊢
      exact ⟨a3 e.1, e.2⟩
  · exact ⟨a1, a2, a3⟩
theorem any_mono {l' l : List Sp} (h : Within l' l) (ha : anyB l' = true) : anyB l = true := by
  simp only [anyB, List.all_eq_true] at ha ⊢
  intro s hs
  obtain ⟨i, hi⟩ := List.getElem?_of_mem hs
  have hil : i < l'.length := by rw [h.1]; exact (List.getElem?_eq_some_iff.1 hi).1
  have e1 : l'[i]? = some l'[i] := List.getElem?_eq_getElem hil
  obtain ⟨a1, a2, a3⟩ := h.2 i _ _ e1 hi
  have := ha _ (List.mem_of_getElem? e1)
  simp [someB] at this ⊢
  rcases this with h | h
  · left; omega
  · right; exact a3 h
theorem any_at {l : List Sp} {i : Nat} {s : Sp} (h : anyB l = true) (hs : l[i]? = some s) : someB s = true := by
  simp only [anyB, List.all_eq_true] at h
  exact h _ (List.mem_of_getElem? hs)

/-- a question that has two sides within spans -/
def Open (l : List Sp) (y : Nd) : Prop := anyB (sideL l y true) = true ∧ anyB (sideL l y false) = true
theorem open_mono {l' l : List Sp} {y : Nd} (h : Within l' l) (ho : Open l' y) : Open l y :=
  ⟨any_mono (within_side_mono h y true) ho.1, any_mono (within_side_mono h y false) ho.2⟩
theorem kpr_open : ∀ (k : Kt) (l : List Sp), ∀ y ∈ (kpr k l).asks, Open l y := by
  intro k
  induction k with
  | leaf x => intro l y h; cases h
  | node x a b ia ib =>
    intro l y h
    simp only [kpr] at h
    split at h
    · exact open_mono (within_side l x false) (ib _ _ h)
    split at h
    · exact open_mono (within_side l x true) (ia _ _ h)
    rename_i h1 h2
    rcases kjoin_asks h with h | h | h
    · subst h; exact ⟨by simpa using h1, by simpa using h2⟩
    · exact open_mono (within_side l x true) (ia _ _ h)
    · exact open_mono (within_side l x false) (ib _ _ h)

def SameQ (x y : Nd) : Prop := x.f = y.f ∧ x.c = y.c ∧ x.less = y.less
theorem twice_shut {l : List Sp} {x y : Nd} (h : SameQ x y) (hx : x.f.toNat < l.length) (b : Bool) : ¬ Open (sideL l x b) y := by
  obtain ⟨h1, h2, h3⟩ := h
  intro ho
  have e : l[x.f.toNat]? = some l[x.f.toNat] := List.getElem?_eq_getElem hx
  have e1 := sideL_at (x := x) (b := b) e
  rw [if_pos rfl] at e1
  have e2 := sideL_at (x := y) (b := !b) e1
  rw [if_pos (by rw [h1])] at e2
  cases b
  · have := any_at ho.1 e2
    simp [someB, sideS, ← h2, ← h3] at this
    rcases this with h | ⟨⟨_, h⟩, h'⟩
    · omega
    · rw [h] at h'; cases h'
  · have := any_at ho.2 e2
    simp [someB, sideS, ← h2, ← h3] at this
    rcases this with h | ⟨⟨_, h⟩, h'⟩
    · omega
    · rw [h] at h'; cases h'
/-- no question twice on a way -/
def Kt.Once : Kt → Prop
  | .leaf _ => True
  | .node x l r => (∀ y, y ∈ l.asks ∨ y ∈ r.asks → ¬ SameQ x y) ∧ l.Once ∧ r.Once
theorem kpr_once : ∀ (k : Kt) (l : List Sp), (∀ y ∈ k.asks, y.f.toNat < l.length) → (kpr k l).Once := by
  intro k
  induction k with
  | leaf x => intro l h; exact trivial
  | node x a b ia ib =>
    intro l h
    have ha : ∀ s, ∀ y ∈ a.asks, y.f.toNat < (sideL l x s).length := fun s y hy => by rw [sideL_len]; exact h y (by simp [Kt.asks, hy])
    have hb : ∀ s, ∀ y ∈ b.asks, y.f.toNat < (sideL l x s).length := fun s y hy => by rw [sideL_len]; exact h y (by simp [Kt.asks, hy])
    have hx := h x (by simp [Kt.asks])
    simp only [kpr]
    split
    · exact ib _ (hb _)
    split
    · exact ia _ (ha _)
    have hq : ∀ y, y ∈ (kpr a (sideL l x true)).asks ∨ y ∈ (kpr b (sideL l x false)).asks → ¬ SameQ x y := by
      intro y hy hs
      rcases hy with hy | hy
      · exact twice_shut hs hx true (kpr_open _ _ y hy)
      · exact twice_shut hs hx false (kpr_open _ _ y hy)
    have h1 := ia _ (ha true)
    have h2 := ib _ (hb false)
    revert hq h1 h2
    generalize kpr a (sideL l x true) = p
    generalize kpr b (sideL l x false) = q
    intro hq h1 h2
    cases p <;> cases q <;> simp only [kjoin]
    · split
      · exact trivial
      · exact ⟨hq, h1, h2⟩
    all_goals exact ⟨hq, h1, h2⟩

/-- leaves are leaves, questions are none -/
def Kt.Ok (k : Kt) : Prop := (∀ y ∈ k.asks, y.f ≠ -1) ∧ (∀ y ∈ k.leaves, y.f = -1)
theorem Kt.Ok.left {x : Nd} {l r : Kt} (h : (Kt.node x l r).Ok) : l.Ok := ⟨fun y hy => h.1 y (by simp [Kt.asks, hy]), fun y hy => h.2 y (by simp [Kt.leaves, hy])⟩
theorem Kt.Ok.right {x : Nd} {l r : Kt} (h : (Kt.node x l r).Ok) : r.Ok := ⟨fun y hy => h.1 y (by simp [Kt.asks, hy]), fun y hy => h.2 y (by simp [Kt.leaves, hy])⟩
theorem kpr_ok {k : Kt} (h : k.Ok) (l : List Sp) : (kpr k l).Ok := ⟨fun y hy => h.1 y (kpr_asks k l y hy), fun y hy => h.2 y (kpr_leaves k l y hy)⟩

/-- at a place of what is laid from n on stands a part -/
inductive At : Nat → Kt → Nat → Kt → Prop where
  | here (n : Nat) (k : Kt) : At n k n k
  | left {n i : Nat} {x : Nd} {l r s : Kt} : At (n + 1) l i s → At n (.node x l r) i s
  | right {n i : Nat} {x : Nd} {l r s : Kt} : At (n + 1 + l.size) r i s → At n (.node x l r) i s
def Seg (p : List Nd) (n : Nat) (q : List Nd) : Prop := ∀ (j : Nat) u, q[j]? = some u → p[n + j]? = some u
theorem Seg.left {p : List Nd} {n : Nat} {x : Nd} {l r : Kt} (h : Seg p n (layK n (.node x l r))) : Seg p (n + 1) (layK (n + 1) l) := fun j u hu => by
  rw [show n + 1 + j = n + (j + 1) by omega]
  refine h _ _ ?_
  rw [layK, List.getElem?_cons_succ, List.getElem?_append_left (List.getElem?_eq_some_iff.1 hu).1, hu]
theorem Seg.right {p : List Nd} {n : Nat} {x : Nd} {l r : Kt} (h : Seg p n (layK n (.node x l r))) : Seg p (n + 1 + l.size) (layK (n + 1 + l.size) r) := fun j u hu => by
  rw [show n + 1 + l.size + j = n + (l.size + j + 1) by omega]
  refine h _ _ ?_
  rw [layK, List.getElem?_cons_succ, List.getElem?_append_right (by rw [layK_len]; omega), layK_len, Nat.add_sub_cancel_left, hu]
theorem At.seg {p : List Nd} {n : Nat} {k : Kt} {i : Nat} {s : Kt} (h : At n k i s) : Seg p n (layK n k) → Seg p i (layK i s) := by
  induction h with
  | here n k => exact id
  | left _ ih => exact fun hs => ih hs.left
  | right _ ih => exact fun hs => ih hs.right
theorem At.ok {n : Nat} {k : Kt} {i : Nat} {s : Kt} (h : At n k i s) : k.Ok → s.Ok := by
  induction h with
  | here n k => exact id
  | left _ ih => exact fun hs => ih hs.left
  | right _ ih => exact fun hs => ih hs.right
theorem At.once {n : Nat} {k : Kt} {i : Nat} {s : Kt} (h : At n k i s) : k.Once → s.Once := by
  induction h with
  | here n k => exact id
  | left _ ih => exact fun hs => ih hs.2.1
  | right _ ih => exact fun hs => ih hs.2.2
theorem At.goL {n : Nat} {k : Kt} {i : Nat} {s : Kt} (h : At n k i s) : ∀ {x : Nd} {l r : Kt}, s = .node x l r → At n k (i + 1) l := by
  induction h with
  | here n k => intro x l r e; subst e; exact .left (.here _ _)
  | left _ ih => intro x l r e; exact .left (ih e)
  | right _ ih => intro x l r e; exact .right (ih e)
theorem At.goR {n : Nat} {k : Kt} {i : Nat} {s : Kt} (h : At n k i s) : ∀ {x : Nd} {l r : Kt}, s = .node x l r → At n k (i + 1 + l.size) r := by
  induction h with
  | here n k => intro x l r e; subst e; exact .right (.here _ _)
  | left _ ih => intro x l r e; exact .left (ih e)
  | right _ ih => intro x l r e; exact .right (ih e)
theorem At.ge {n : Nat} {k : Kt} {i : Nat} {s : Kt} (h : At n k i s) : n ≤ i ∧ i + s.size ≤ n + k.size := by
  induction h with
  | here n k => exact ⟨Nat.le_refl _, Nat.le_refl _⟩
  | left _ ih => simp only [Kt.size]; omega
  | right _ ih => simp only [Kt.size]; omega
theorem At.any : ∀ (k : Kt) (n i : Nat), n ≤ i → i < n + k.size → ∃ s, At n k i s := by
  intro k
  induction k with
  | leaf x => intro n i h1 h2; simp only [Kt.size] at h2; obtain rfl : i = n := by omega
              exact ⟨_, .here _ _⟩
  | node x l r il ir =>
    intro n i h1 h2
    simp only [Kt.size] at h2
    by_cases h : i = n
    · subst h; exact ⟨_, .here _ _⟩
    by_cases h3 : i < n + 1 + l.size
    · obtain ⟨s, hs⟩ := il (n + 1) i (by omega) h3
      exact ⟨s, .left hs⟩
    · obtain ⟨s, hs⟩ := ir (n + 1 + l.size) i (by omega) (by omega)
      exact ⟨s, .right hs⟩
theorem At.asks {n : Nat} {k : Kt} {i : Nat} {s : Kt} (h : At n k i s) : ∀ y ∈ s.asks, y ∈ k.asks := by
  induction h with
  | here n k => exact fun y h => h
  | left _ ih => intro y hy; simp [Kt.asks, ih y hy]
  | right _ ih => intro y hy; simp [Kt.asks, ih y hy]
theorem Seg.top {p : List Nd} {i : Nat} {s : Kt} (h : Seg p i (layK i s)) : ∃ u, p[i]? = some u ∧ u.f = s.top.f ∧ u.c = s.top.c ∧ u.less = s.top.less ∧ u.v = s.top.v := by
  cases s with
  | leaf x => exact ⟨x, h 0 x rfl, rfl, rfl, rfl, rfl⟩
  | node x l r => exact ⟨_, h 0 _ rfl, rfl, rfl, rfl, rfl⟩

/-- one is the other's kid -/
def Par (p : List Nd) (a b : Nat) : Prop := ∃ n, p[a]? = some n ∧ n.f ≠ -1 ∧ (n.l = (b : Int) ∨ n.r = (b : Int))
inductive Chain (p : List Nd) : Nat → Nat → Prop where
  | refl (a : Nat) : Chain p a a
  | cons {a b c : Nat} : Par p a b → Chain p b c → Chain p a c
theorem chain_at {p : List Nd} {a b : Nat} (h : Chain p a b) : ∀ {n : Nat} {k s : Kt}, Seg p n (layK n k) → k.Ok → At n k a s → ∃ s', At a s b s' := by
  induction h with
  | refl a => intro n k s _ _ h; exact ⟨s, .here _ _⟩
  | @cons a b c h1 h2 ih =>
    intro n k s hs hok hat
    obtain ⟨u, hu, hf, hlr⟩ := h1
    cases s with
    | leaf x =>
      have hx := (hat.ok hok).2 x (by simp [Kt.leaves])
      have := hat.seg hs 0 x rfl
      rw [Nat.add_zero, hu] at this
      injection this with this
      subst this
      exact absurd hx hf
    | node x l r =>
      have := hat.seg hs 0 _ rfl
      rw [Nat.add_zero, hu] at this
      injection this with this
      subst this
      rcases hlr with hlr | hlr
      · obtain rfl : a + 1 = b := by dsimp only at hlr; omega
        obtain ⟨s', h'⟩ := ih hs hok (hat.goL rfl)
        exact ⟨s', .left h'⟩
      · obtain rfl : a + 1 + l.size = b := by dsimp only at hlr; omega
        obtain ⟨s', h'⟩ := ih hs hok (hat.goR rfl)
        exact ⟨s', .right h'⟩
/-- of what is laid no question stands twice on a way -/
theorem once_below {k : Kt} (hO : k.Once) (hok : k.Ok) {i j : Nat} {x y : Nd} (hx : (layK 0 k)[i]? = some x) (hy : (layK 0 k)[j]? = some y) (hfx : x.f ≠ -1) (hfy : y.f ≠ -1) (hij : i < j) (hch : Chain (layK 0 k) i j) : ¬ SameQ x y := by
  have hs : Seg (layK 0 k) 0 (layK 0 k) := fun j u hu => by rw [Nat.zero_add]; exact hu
  have hi : i < k.size := by rw [← layK_len k 0]; exact (List.getElem?_eq_some_iff.1 hx).1
  obtain ⟨s, hat⟩ := At.any k 0 i (Nat.zero_le _) (by omega)
  obtain ⟨s', hat'⟩ := chain_at hch hs hok hat
  have hseg := hat.seg hs
  obtain ⟨u, hu, u1, u2, u3, u4⟩ := hseg.top
  rw [hx] at hu; injection hu with hu; subst hu
  have hseg' := hat'.seg hseg
  obtain ⟨u', hu', v1, v2, v3, v4⟩ := hseg'.top
  rw [hy] at hu'; injection hu' with hu'; subst hu'
  have hok' := hat'.ok (hat.ok hok)
  cases s' with
  | leaf z => exact absurd (v1.trans (hok'.2 z (by simp [Kt.leaves]))) hfy
  | node z zl zr =>
    intro hq
    have hz : z ∈ (Kt.node z zl zr).asks := by simp [Kt.asks]
    have hO' := hat.once hO
    cases hat' with
    | here => omega
    | left h => exact hO'.1 z (.inl (h.asks z hz)) ⟨u1.symm.trans (hq.1.trans v1), u2.symm.trans (hq.2.1.trans v2), u3.symm.trans (hq.2.2.trans v3)⟩
    | right h => exact hO'.1 z (.inr (h.asks z hz)) ⟨u1.symm.trans (hq.1.trans v1), u2.symm.trans (hq.2.1.trans v2), u3.symm.trans (hq.2.2.trans v3)⟩

/-! ### a tree of nodes as kids -/
theorem kof_ok (t : List Nd) : ∀ k i, (kof t k i).Ok := by
  intro k
  induction k with
  | zero => intro i; exact ⟨fun y h => by simp [kof, Kt.asks] at h, fun y h => by simp [kof, Kt.leaves] at h; subst h; rfl⟩
  | succ k ih =>
    intro i
    simp only [kof]
    split
    · split
      · rename_i n _ hf
        exact ⟨fun y h => by simp [Kt.asks] at h, fun y h => by simp [Kt.leaves] at h; subst h; exact hf⟩
      · rename_i n _ hf
        refine ⟨fun y h => ?_, fun y h => ?_⟩
        · simp only [Kt.asks, List.mem_cons, List.mem_append] at h
          rcases h with h | h | h
          · subst h; exact hf
          · exact (ih _).1 y h
          · exact (ih _).1 y h
        · simp only [Kt.leaves, List.mem_append] at h
          rcases h with h | h
          · exact (ih _).2 y h
          · exact (ih _).2 y h
    · exact ⟨fun y h => by simp [Kt.asks] at h, fun y h => by simp [Kt.leaves] at h; subst h; rfl⟩
theorem kof_asks {t : List Nd} : ∀ k i, ∀ y ∈ (kof t k i).asks, ∃ j : Nat, t[j]? = some y ∧ y.f ≠ -1 := by
  intro k
  induction k with
  | zero => intro i y h; simp [kof, Kt.asks] at h
  | succ k ih =>
    intro i y h
    simp only [kof] at h
    split at h
    · split at h
      · simp [Kt.asks] at h
      · rename_i n hn hf
        simp only [Kt.asks, List.mem_cons, List.mem_append] at h
        rcases h with h | h | h
        · subst h; exact ⟨i, hn, hf⟩
        · exact ih _ y h
        · exact ih _ y h
    · simp [Kt.asks] at h
theorem kof_leaves {t : List Nd} (hb : Behind t) : ∀ k i, i < t.length → t.length ≤ i + k → ∀ y ∈ (kof t k i).leaves, ∃ j : Nat, t[j]? = some y ∧ y.f = -1 := by
  intro k
  induction k with
  | zero => intro i h1 h2; omega
  | succ k ih =>
    intro i h1 h2 y h
    have hn : t[i]? = some t[i] := List.getElem?_eq_getElem h1
    by_cases hf : (t[i]).f = -1
    · rw [kof_leaf hn hf] at h
      simp [Kt.leaves] at h
      subst h
      exact ⟨i, hn, hf⟩
    · obtain ⟨a, b, c, d⟩ := hb i _ hn hf
      rw [kof_node hn hf] at h
      simp only [Kt.leaves, List.mem_append] at h
      rcases h with h | h
      · exact ih _ (by omega) (by omega) y h
      · exact ih _ (by omega) (by omega) y h
theorem kof_size {t : List Nd} (hb : Behind t) : ∀ k i, i < t.length → t.length ≤ i + k → (kof t k i).size < 2 ^ (dep t i + 1) := by
  intro k
  induction k with
  | zero => intro i h1 h2; omega
  | succ k ih =>
    intro i h1 h2
    have hn : t[i]? = some t[i] := List.getElem?_eq_getElem h1
    by_cases hf : (t[i]).f = -1
    · rw [kof_leaf hn hf]
      exact Nat.lt_of_lt_of_le (by simp [Kt.size] : (Kt.leaf t[i]).size < 2 ^ 1) (Nat.pow_le_pow_right (by omega) (by omega))
    · obtain ⟨a, b, c, d⟩ := hb i _ hn hf
      rw [kof_node hn hf, dep_at hn (fun _ => a) (fun _ => c), if_neg hf]
      have h3 := ih (t[i]).l.toNat (by omega) (by omega)
      have h4 := ih (t[i]).r.toNat (by omega) (by omega)
      have h5 : 2 ^ (dep t (t[i]).l.toNat + 1) ≤ 2 ^ (max (dep t (t[i]).l.toNat) (dep t (t[i]).r.toNat) + 1) := Nat.pow_le_pow_right (by omega) (by omega)
      have h6 : 2 ^ (dep t (t[i]).r.toNat + 1) ≤ 2 ^ (max (dep t (t[i]).l.toNat) (dep t (t[i]).r.toNat) + 1) := Nat.pow_le_pow_right (by omega) (by omega)
      have h7 : 2 ^ (1 + max (dep t (t[i]).l.toNat) (dep t (t[i]).r.toNat) + 1) = 2 * 2 ^ (max (dep t (t[i]).l.toNat) (dep t (t[i]).r.toNat) + 1) := by
        rw [show 1 + max (dep t (t[i]).l.toNat) (dep t (t[i]).r.toNat) + 1 = (max (dep t (t[i]).l.toNat) (dep t (t[i]).r.toNat) + 1) + 1 by omega, Nat.pow_succ]; omega
      simp only [Kt.size]
      omega
theorem kjoin_size (x : Nd) (a b : Kt) : (kjoin x a b).size ≤ 1 + a.size + b.size := by
  cases a <;> cases b <;> simp only [kjoin]
  · split <;> simp [Kt.size]
  all_goals exact Nat.le_refl _
theorem kpr_size : ∀ (k : Kt) (l : List Sp), (kpr k l).size ≤ k.size := by
  intro k
  induction k with
  | leaf x => intro l; exact Nat.le_refl _
  | node x a b ia ib =>
    intro l
    simp only [kpr, Kt.size]
    split
    · have := ib (sideL l x false); omega
    split
    · have := ia (sideL l x true); omega
    have := kjoin_size x (kpr a (sideL l x true)) (kpr b (sideL l x false))
    have := ia (sideL l x true)
    have := ib (sideL l x false)
    omega
/-- a tree, pruned -/
def kTree (t : List Nd) : Kt := kof t t.length 0
def prunedV (t : List Nd) (n : Nat) : List Nd := layK 0 (kpr (kTree t) (wideL n))
def sortedV (t : List Nd) : List Nd := layK 0 (kTree t)
theorem Right.ksize {t : List Nd} {fe : Int} (h : Right t fe) : (kTree t).size < 2048 := by
  have h1 := kof_size h.behind t.length 0 h.pos (by omega)
  have h2 : 2 ^ (dep t 0 + 1) ≤ 2 ^ 11 := Nat.pow_le_pow_right (by omega) (by have := h.deep; omega)
  have h3 : (2 : Nat) ^ 11 = 2048 := by decide
  unfold kTree
  omega
theorem Right.prunedLen {t : List Nd} {fe : Int} (h : Right t fe) (n : Nat) : (prunedV t n).length < 2048 := by
  unfold prunedV
  rw [layK_len]
  have := kpr_size (kTree t) (wideL n)
  have := h.ksize
  omega
theorem Right.prunedOnce {t : List Nd} {n : Nat} (h : Right t n) {i j : Nat} {x y : Nd} (hx : (prunedV t n)[i]? = some x) (hy : (prunedV t n)[j]? = some y) (hfx : x.f ≠ -1) (hfy : y.f ≠ -1) (hij : i < j) (hch : Chain (prunedV t n) i j) : ¬ SameQ x y := by
  refine once_below (kpr_once _ _ ?_) (kpr_ok (kof_ok _ _ _) _) hx hy hfx hfy hij hch
  intro z hz
  obtain ⟨q, hq, hf⟩ := kof_asks _ _ z hz
  have := h.asks q z hq hf
  rw [wide_len]
  omega
theorem Right.prunedOne {t : List Nd} {n : Nat} (h : Right t n) {v : Int} (hv : ∀ (j : Nat) y, t[j]? = some y → y.f = -1 → y.v = v) : ∃ x, prunedV t n = [x] ∧ x.v = v := by
  obtain ⟨x, e, hx⟩ := kpr_one (kTree t) (wideL n) (v := v) (fun y hy => by
    obtain ⟨j, hj, hf⟩ := kof_leaves h.behind t.length 0 h.pos (by omega) y hy
    exact hv j y hj hf)
  exact ⟨x, by unfold prunedV; rw [e]; rfl, hx⟩
end Go.Proofs.YtdpijhnbhopnbaaGreatDoor
/- Package prune: nodes with their kids in memory, Of, pruned, Lay, Tree. Conditions: as each lemma names. -/
namespace Go.Proofs.YtdpijhnbhopnbaaGreatDoor
set_option linter.unusedVariables false
set_option linter.unusedSimpArgs false
open Go.RowKit

/-- cells of a node with its kids -/
def kcells (x : Nd) (u v : Option Addr) : Array Value := #[.int .i64 x.f, .int .i64 x.c, .int .i64 x.l, .int .i64 x.r, .bool x.less, .int .i64 x.v, .pointer u, .pointer v]
def Till (B : Nat) (b : Nat) : Prop := b < B
def Span2 (A B : Nat) (b : Nat) : Prop := A ≤ b ∧ b < B
/-- what a question in a tree with kids is about -/
def Fits (n : Nat) (k : Kt) : Prop := ∀ y ∈ k.asks, 0 ≤ y.f ∧ y.f < n ∧ -1000000 ≤ y.c ∧ y.c ≤ 1000000
theorem Fits.left {n : Nat} {x : Nd} {l r : Kt} (h : Fits n (.node x l r)) : Fits n l := fun y hy => h y (by simp [Kt.asks, hy])
theorem Fits.right {n : Nat} {x : Nd} {l r : Kt} (h : Fits n (.node x l r)) : Fits n r := fun y hy => h y (by simp [Kt.asks, hy])

end Go.Proofs.YtdpijhnbhopnbaaGreatDoor
/- Package prune: Lay, Tree, Sort. Conditions: as each lemma names. -/
namespace Go.Proofs.YtdpijhnbhopnbaaGreatDoor
set_option linter.unusedVariables false
set_option linter.unusedSimpArgs false
open Go.RowKit

theorem elem_nodeP : Elem Tryz.prog 48 51 (.agg #[.int .i64 0, .int .i64 0, .int .i64 0, .int .i64 0, .bool false, .int .i64 0]) 6 48 := ⟨Tryz.underlying48, by kernel_rfl, rfl, by omega, by omega⟩
theorem node_one (x : Nd) : ∀ u ∈ [Value.int .i64 x.f, .int .i64 x.c, .int .i64 x.l, .int .i64 x.r, .bool x.less, .int .i64 x.v], u.oneCell' = true := by
  intro u hu
  simp at hu
  rcases hu with rfl | rfl | rfl | rfl | rfl | rfl <;> rfl
theorem nodes_set (xs zs : List Nd) (x y : Nd) (r : Nat) (u : Value) (hr : r < 6) (h : x.cells.set r u = y.cells) :
    ((xs ++ x :: zs).flatMap Nd.cells).set (xs.length * 6 + r) u = (xs ++ y :: zs).flatMap Nd.cells := by
  have hl := flatMap_len Nd.cells 6 (fun _ => rfl) xs
  rw [List.flatMap_append, List.flatMap_append, List.set_append_right _ _ (by omega)]
  congr 1
  rw [List.flatMap_cons, List.flatMap_cons, hl, show xs.length * 6 + r - xs.length * 6 = r by omega, List.set_append_left _ _ (by simpa [Nd.cells] using hr), h]

/-- a row of nodes of a call's own -/
def NOwn (w : World) (base : Nat) (v : Value) (l : List Nd) : Prop := w.ownsRow base 51 6 v l.length (l.flatMap Nd.cells)
theorem NOwn.nil_ (w : World) (base : Nat) : NOwn w base (.slice none 0 0) [] := World.ownsRow_nil _ _ _ _
theorem NOwn.low {w : World} {base base' : Nat} {v : Value} {l : List Nd} (h : NOwn w base v l) (hb : base' ≤ base) : NOwn w base' v l := by
  refine ⟨h.1, ?_⟩
  rcases h.2 with h1 | ⟨g, cap, cur, e, hg, h2⟩
  · exact .inl h1
  · exact .inr ⟨g, cap, cur, e, Nat.le_trans hb hg, h2⟩
theorem NOwn.slice {w : World} {base : Nat} {v : Value} {l : List Nd} (h : NOwn w base v l) : ∃ A c, v = .slice A l.length c ∧ NReads w w.heap.size A l.length l ∧ l.length ≤ c := by
  obtain ⟨A, c, e, hr, _, hc⟩ := own_slice h
  exact ⟨A, c, e, hr, hc⟩
theorem NOwn.at_ {w : World} {base n cap : Nat} {A : Option Addr} {l : List Nd} (h : NOwn w base (.slice A n cap) l) (hl : l.length = n) {k : Nat} {x : Nd} (hx : l[k]? = some x) (r : Nat) (hr : r < 6) :
    ∃ g, A = some ⟨g, 0, none⟩ ∧ base ≤ g ∧ g < w.heap.size ∧ w.cell? ⟨g, k * 6 + r, none⟩ = x.cells[r]? ∧ w.frozen? ⟨g, k * 6 + r, none⟩ = false := by
  unfold NOwn at h
  rw [hl] at h
  have hk : k < n := by rw [← hl]; exact (List.getElem?_eq_some_iff.1 hx).1
  have hc := flatMap_at Nd.cells 6 (fun _ => rfl) l k r x hx hr
  rcases h.2 with ⟨e, h0⟩ | ⟨g, cap', cur, e, hg, hh, _⟩
  · omega
  · injection e with e1 e2 e3
    subst e1
    refine ⟨g, rfl, hg, (Array.getElem?_eq_some_iff.1 hh).1, ?_, h.frozenAt _⟩
    rw [h.cellAt _ (by omega), hc]
theorem NOwn.stored {w : World} {base n cap g : Nat} {xs zs : List Nd} {x y : Nd} (h : NOwn w base (.slice (some ⟨g, 0, none⟩) n cap) (xs ++ x :: zs)) (hl : (xs ++ x :: zs).length = n) (r : Nat) (u : Value) (hr : r < 6) (he : x.cells.set r u = y.cells) :
    NOwn (w.setCell ⟨g, xs.length * 6 + r, none⟩ u) base (.slice (some ⟨g, 0, none⟩) n cap) (xs ++ y :: zs) := by
  unfold NOwn at h ⊢
  have hl' : (xs ++ y :: zs).length = n := by rw [← hl]; simp
  rw [hl] at h
  rw [hl', ← nodes_set xs zs x y r u hr he]
  exact (h.stored _ u).1

theorem Right.fits {t : List Nd} {n : Nat} (h : Right t n) : Fits n (kTree t) := fun y hy => by
  obtain ⟨j, hj, hf⟩ := kof_asks _ _ y hy
  obtain ⟨h1, h2⟩ := h.asks j y hj hf
  obtain ⟨h3, h4⟩ := h.fit.cut j y hj hf
  exact ⟨h1, h2, h3, h4⟩
/-- what comes of prune.Tree -/
def prunedR (t : List Nd) (fe : Int) : List Nd := if treeE t fe = 0 then prunedV t fe.toNat else []
def sortedR (t : List Nd) (fe : Int) : List Nd := if treeE t fe = 0 then sortedV t else []
def NodesPost (l : List Nd) (er : Int) (w : World) (e : Ending) (w' : World) : Prop :=
  ∃ v, e = .returned (.tuple #[v, errV er]) ∧ NOwn w' w.heap.size v l ∧ Below w.heap.size w w'
end Go.Proofs.YtdpijhnbhopnbaaGreatDoor
/- Which node is above another one (R.Up), and the law's 'below'; a tree whose leaves say one value. Conditions: as each lemma names. -/
namespace Go.Proofs.YtdpijhnbhopnbaaGreatDoor
set_option linter.unusedVariables false
set_option linter.unusedSimpArgs false
open Go.RowKit

theorem clashAt_mk {t : List Nd} : ∀ (m i : Nat), (∀ j, i ≤ j → j < i + m → 0 < j → ups t j = 1) → (clashAt t i m).2 = 0 := by
  intro m
  induction m with
  | zero => intro i _; rfl
  | succ m ih =>
    intro i h
    rw [clashAt, if_neg (fun h2 => h2.2 (h i (Nat.le_refl _) (by omega) h2.1))]
    exact ih (i + 1) fun j h1 h2 h3 => h j (by omega) (by omega) h3
theorem treeE_right {t : List Nd} {fe : Int} (h : Right t fe) : treeE t fe = 0 := by
  unfold treeE treeC
  have h1 := h.most
  have h2 := h.pos
  have h3 := h.fe0
  have h4 := h.fe8
  have h5 := h.deep
  rw [if_neg (by omega), if_neg (by omega), if_neg (by omega), if_neg (by omega), badAt_mk t 0 (fun j n hj => by rw [Nat.zero_add]; exact h.node j n hj), if_pos rfl,
    if_pos (clashAt_mk t.length 0 fun j _ hj h0 => h.one j h0 (by omega)), if_neg (by omega)]

/-- each leaf says v -/
def sayV (v : Int) (n : Nd) : Nd := if n.f = -1 then ⟨n.f, n.c, n.l, n.r, n.less, v⟩ else n
theorem sayV_f (v : Int) (n : Nd) : (sayV v n).f = n.f := by unfold sayV; split <;> rfl
theorem sayV_l (v : Int) (n : Nd) : (sayV v n).l = n.l := by unfold sayV; split <;> rfl
theorem sayV_r (v : Int) (n : Nd) : (sayV v n).r = n.r := by unfold sayV; split <;> rfl
theorem nodeE_say {len i : Nat} {fe v : Int} {n : Nd} (h : nodeE len i fe n = 0) (h1 : -1000000 ≤ v) (h2 : v ≤ 1000000) : nodeE len i fe (sayV v n) = 0 := by
  by_cases hf : n.f = -1
  · rcases node_of h with ⟨_, _, _, hc, hl, hr, hs⟩ | h3
    · unfold sayV
      rw [if_pos hf]
      unfold nodeE
      dsimp only
      rw [if_pos hf, if_neg (by omega), if_neg (by omega), if_neg (by omega), if_neg (by omega), if_neg (by omega), if_neg (by simp [hs])]
    · omega
  · unfold sayV; rw [if_neg hf]; exact h
theorem kid_say (v : Int) (n : Nd) (j : Nat) : kid (sayV v n) j = kid n j := by unfold kid; rw [sayV_f, sayV_l, sayV_r]
theorem ups_say (v : Int) : ∀ (t : List Nd) (j : Nat), ups (t.map (sayV v)) j = ups t j := by
  intro t
  induction t with
  | nil => intro j; rfl
  | cons n r ih => intro j; simp only [List.map_cons, ups, kid_say, ih]
theorem deps_say (v : Int) : ∀ (t : List Nd) (i : Nat), deps i (t.map (sayV v)) = deps i t := by
  intro t
  induction t with
  | nil => intro i; rfl
  | cons n r ih => intro i; simp only [List.map_cons, deps, sayV_f, sayV_l, sayV_r, ih]
theorem Right.say {t : List Nd} {fe v : Int} (h : Right t fe) (h1 : -1000000 ≤ v) (h2 : v ≤ 1000000) : Right (t.map (sayV v)) fe := by
  refine ⟨by rw [List.length_map]; exact h.pos, by rw [List.length_map]; exact h.most, h.fe0, h.fe8, ?_, ?_, by unfold dep; rw [deps_say]; exact h.deep⟩
  · intro i n hi
    rw [List.getElem?_map] at hi
    obtain ⟨m, hm, rfl⟩ := Option.map_eq_some_iff.1 hi
    rw [List.length_map]
    exact nodeE_say (h.node i m hm) h1 h2
  · intro i h3 h4
    rw [List.length_map] at h4
    rw [ups_say]
    exact h.one i h3 h4
theorem Right.sayOne {t : List Nd} {fe v : Int} (h : Right t fe) (h1 : -1000000 ≤ v) (h2 : v ≤ 1000000) : ∃ x, prunedR (t.map (sayV v)) fe = [x] ∧ x.v = v := by
  have hr := h.say h1 h2
  obtain ⟨n, rfl⟩ : ∃ n : Nat, fe = n := ⟨fe.toNat, by have := h.fe0; omega⟩
  unfold prunedR
  rw [if_pos (treeE_right hr)]
  refine hr.prunedOne fun j y hj hf => ?_
  rw [List.getElem?_map] at hj
  obtain ⟨m, hm, rfl⟩ := Option.map_eq_some_iff.1 hj
  rw [sayV_f] at hf
  unfold sayV
  rw [if_pos hf]

/-- what is laid has its kids behind -/
theorem layK_kids : ∀ (k : Kt) (n : Nat), k.Ok → ∀ (j : Nat) x, (layK n k)[j]? = some x → x.f ≠ -1 → (n : Int) + j < x.l ∧ x.l < (n : Int) + k.size ∧ (n : Int) + j < x.r ∧ x.r < (n : Int) + k.size := by
  intro k
  induction k with
  | leaf y =>
    intro n hk j x hx hf
    cases j with
    | zero => simp [layK] at hx; subst hx; exact absurd (hk.2 y (by simp [Kt.leaves])) hf
    | succ j => simp [layK] at hx
  | node y a b ia ib =>
    intro n hk j x hx hf
    have hsa := a.size_pos
    have hsb := b.size_pos
    cases j with
    | zero => simp [layK] at hx; subst hx; simp only [Kt.size]; omega
    | succ j =>
      rw [layK, List.getElem?_cons_succ] at hx
      simp only [Kt.size]
      by_cases hj : j < a.size
      · rw [List.getElem?_append_left (by rw [layK_len]; exact hj)] at hx
        have := ia (n + 1) hk.left j x hx hf
        omega
      · rw [List.getElem?_append_right (by rw [layK_len]; omega), layK_len] at hx
        have := ib (n + 1 + a.size) hk.right (j - a.size) x hx hf
        omega
theorem layK_behind {k : Kt} (h : k.Ok) : Behind (layK 0 k) := fun i x hx hf => by
  have := layK_kids k 0 h i x hx hf
  rw [layK_len]
  omega

/-- the node above one -/
def upAt (at_ : Int) : Nat → List Nd → Int
  | _, [] => -1
  | k, n :: r => if n.f ≠ -1 ∧ (n.l = at_ ∨ n.r = at_) then (k : Int) else upAt at_ (k + 1) r
theorem upAt_drop {t : List Nd} {at_ : Int} {k : Nat} {x : Nd} (h : t[k]? = some x) : upAt at_ k (t.drop k) = if x.f ≠ -1 ∧ (x.l = at_ ∨ x.r = at_) then (k : Int) else upAt at_ (k + 1) (t.drop (k + 1)) := by
  obtain ⟨hk, e⟩ := List.getElem?_eq_some_iff.1 h
  rw [List.drop_eq_getElem_cons hk, e, upAt]
theorem upAt_par {at_ : Nat} : ∀ (l : List Nd) (k : Nat), upAt at_ k l = -1 ∨ ∃ j x, l[j]? = some x ∧ x.f ≠ -1 ∧ (x.l = (at_ : Int) ∨ x.r = (at_ : Int)) ∧ upAt at_ k l = ((k + j : Nat) : Int) := by
  intro l
  induction l with
  | nil => intro k; exact .inl rfl
  | cons n r ih =>
    intro k
    rw [upAt]
    by_cases h : n.f ≠ -1 ∧ (n.l = (at_ : Int) ∨ n.r = (at_ : Int))
    · rw [if_pos h]; exact .inr ⟨0, n, rfl, h.1, h.2, rfl⟩
    · rw [if_neg h]
      rcases ih (k + 1) with h1 | ⟨j, x, h1, h2, h3, h4⟩
      · exact .inl h1
      · exact .inr ⟨j + 1, x, by simpa using h1, h2, h3, by rw [h4]; omega⟩
theorem up_par {t : List Nd} {at_ : Nat} : upAt at_ 0 t = -1 ∨ ∃ j : Nat, Par t j at_ ∧ upAt at_ 0 t = j := by
  rcases upAt_par t 0 (at_ := at_) with h | ⟨j, x, h1, h2, h3, h4⟩
  · exact .inl h
  · exact .inr ⟨j, ⟨x, h1, h2, h3⟩, by rw [h4]; omega⟩

def BelowPost (t : List Nd) (i j : Nat) (e : Ending) : Prop := ∃ b, e = .returned (.bool b) ∧ (b = true → Chain t i j)
end Go.Proofs.YtdpijhnbhopnbaaGreatDoor
