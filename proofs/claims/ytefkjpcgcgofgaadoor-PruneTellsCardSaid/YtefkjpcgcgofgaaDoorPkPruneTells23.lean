/- Part 23 of what LawPruneTells needs: Kin3. Conditions: as each lemma names. -/
import Derived.Test.YtefkjpcgcgofgaaDoorPkPruneTells19
import Derived.Test.YtefkjpcgcgofgaaDoorPkPruneTells22
/- A tree from which a node gave way to one below it, pruned, is as before. Plain. Conditions: as each lemma names. -/
namespace Go.Proofs.YtefkjpcgcgofgaaDoor
set_option linter.unusedVariables false
set_option linter.unusedSimpArgs false
open Go.RowKit

theorem climb_sideL {t : List Nd} : ∀ (m k : Nat) (l : List Sp) (x : Nd) (b : Bool), climb t m k (sideL l x b) = sideL (climb t m k l) x b := by
  intro m
  induction m with
  | zero => intro k l x b; rfl
  | succ m ih =>
    intro k l x b
    unfold climb
    split
    · rfl
    · split
      · rw [sideL_comm, ih]
      · rfl
theorem regR_child {t : List Nd} {n : Nat} (hR : Right t n) {u c : Nat} {x : Nd} (hx : t[u]? = some x) (hf : x.f ≠ -1) (hl : x.l = (c : Int) ∨ x.r = (c : Int)) : regR t n c = sideL (regR t n u) x (x.l == c) := by
  have h := climbT_step hR hx hf hl (wideL n)
  unfold climbT at h
  unfold regR
  rw [h, climb_sideL]
theorem regR_root {t : List Nd} {n : Nat} (hb : Behind t) : regR t n 0 = wideL n := climb_end (up_root hb) _ _
theorem regR_low (t : List Nd) (n k : Nat) : ∀ s ∈ regR t n k, -1000000 ≤ s.low := fun s hs => (regR_in t n k s hs).1

/-- the same rows are within -/
def SameIn (l l' : List Sp) : Prop := l.length = l'.length ∧ ∀ r, inSp r l ↔ inSp r l'
theorem any_iff {l : List Sp} (h : ∀ s ∈ l, -1000000 ≤ s.low) : anyB l = true ↔ ∃ r, inSp r l :=
  ⟨fun ha => ⟨_, pick_in (wf_low h) ha⟩, fun ⟨r, hr⟩ => inSp_any hr (fun _ _ => trivial)⟩
theorem SameIn.any {l l' : List Sp} (h : SameIn l l') (h1 : ∀ s ∈ l, -1000000 ≤ s.low) (h2 : ∀ s ∈ l', -1000000 ≤ s.low) : anyB l = anyB l' := by
  rw [Bool.eq_iff_iff, any_iff h1, any_iff h2]
  exact ⟨fun ⟨r, hr⟩ => ⟨r, (h.2 r).1 hr⟩, fun ⟨r, hr⟩ => ⟨r, (h.2 r).2 hr⟩⟩
theorem side_len (l : List Sp) (x : Nd) (b : Bool) : (sideL l x b).length = l.length := (within_side l x b).1
theorem SameIn.side {l l' : List Sp} (h : SameIn l l') {x : Nd} (h0 : 0 ≤ x.f) (h1 : x.f < l.length) (b : Bool) : SameIn (sideL l x b) (sideL l' x b) :=
  ⟨by rw [side_len, side_len]; exact h.1, fun r => by rw [inSp_side h0 h1, inSp_side h0 (by rw [← h.1]; exact h1), h.2 r]⟩
theorem kpr_same : ∀ (k : Kt) (l l' : List Sp), (∀ y ∈ k.asks, 0 ≤ y.f ∧ y.f < l.length) → (∀ s ∈ l, -1000000 ≤ s.low) → (∀ s ∈ l', -1000000 ≤ s.low) → SameIn l l' → kpr k l = kpr k l' := by
  intro k
  induction k with
  | leaf x => intro l l' _ _ _ _; rfl
  | node x a b ia ib =>
    intro l l' hk h1 h2 h
    obtain ⟨k0, k1⟩ := hk x (by simp [Kt.asks])
    have ha := fun (c : Bool) => ia (sideL l x c) (sideL l' x c) (fun y hy => by rw [side_len]; exact hk y (by simp [Kt.asks, hy])) (low_side h1) (low_side h2) (h.side k0 k1 c)
    have hb := fun (c : Bool) => ib (sideL l x c) (sideL l' x c) (fun y hy => by rw [side_len]; exact hk y (by simp [Kt.asks, hy])) (low_side h1) (low_side h2) (h.side k0 k1 c)
    rw [kpr, kpr, (h.side k0 k1 true).any (low_side h1) (low_side h2), (h.side k0 k1 false).any (low_side h1) (low_side h2), ha, hb]
theorem kpr_shut {x : Nd} {l : List Sp} (h0 : 0 ≤ x.f) (h1 : x.f < l.length) (hl : ∀ s ∈ l, -1000000 ≤ s.low) {b : Bool} (h : anyB (sideL l x b) = false) : SameIn (sideL l x (!b)) l := by
  refine ⟨side_len _ _ _, fun r => ?_⟩
  rw [inSp_side h0 h1]
  refine ⟨fun hr => hr.1, fun hr => ⟨hr, ?_⟩⟩
  cases hg : (goes x (cellAt r x.f) == b)
  · have : goes x (cellAt r x.f) ≠ b := by simpa using hg
    cases b <;> simp_all
  · have hb : goes x (cellAt r x.f) = b := by simpa using hg
    have := (any_iff (low_side (n := x) (b := b) hl)).2 ⟨r, (inSp_side h0 h1).2 ⟨hr, hb⟩⟩
    rw [this] at h; cases h
/-- what a node that is not needed gives way to, pruned, is what the node is, pruned -/
theorem kpr_left_shut {x : Nd} {a b : Kt} {l : List Sp} (hk : ∀ y ∈ (Kt.node x a b).asks, 0 ≤ y.f ∧ y.f < l.length) (hl : ∀ s ∈ l, -1000000 ≤ s.low) (h : anyB (sideL l x true) = false) : kpr (.node x a b) l = kpr b l := by
  obtain ⟨k0, k1⟩ := hk x (by simp [Kt.asks])
  rw [kpr, if_pos h]
  exact kpr_same b _ _ (fun y hy => by rw [side_len]; exact hk y (by simp [Kt.asks, hy])) (low_side hl) hl (kpr_shut k0 k1 hl h)
theorem kpr_right_shut {x : Nd} {a b : Kt} {l : List Sp} (hk : ∀ y ∈ (Kt.node x a b).asks, 0 ≤ y.f ∧ y.f < l.length) (hl : ∀ s ∈ l, -1000000 ≤ s.low) (h' : anyB (sideL l x true) = true) (h : anyB (sideL l x false) = false) : kpr (.node x a b) l = kpr a l := by
  obtain ⟨k0, k1⟩ := hk x (by simp [Kt.asks])
  rw [kpr, if_neg (by rw [h']; decide), if_pos h]
  exact kpr_same a _ _ (fun y hy => by rw [side_len]; exact hk y (by simp [Kt.asks, hy])) (low_side hl) hl (kpr_shut k0 k1 hl h)
theorem kpr_same_leaves {x p q : Nd} {l : List Sp} (hv : p.v = q.v) (h' : anyB (sideL l x true) = true) (h : anyB (sideL l x false) = true) : kpr (.node x (.leaf p) (.leaf q)) l = kpr (.leaf p) l := by
  show kpr (.node x (.leaf p) (.leaf q)) l = .leaf p
  rw [kpr, if_neg (by rw [h']; decide), if_neg (by rw [h]; decide)]
  show kjoin x (.leaf p) (.leaf q) = .leaf p
  rw [kjoin, if_pos hv]
theorem kpr_node_alike {x y : Nd} {a b c d : Kt} {l : List Sp} (h1 : x.f = y.f) (h2 : x.c = y.c) (h3 : x.less = y.less) (h4 : x.v = y.v) (ha : Alike (kpr a (sideL l x true)) (kpr c (sideL l x true))) (hb : Alike (kpr b (sideL l x false)) (kpr d (sideL l x false))) :
    Alike (kpr (.node x a b) l) (kpr (.node y c d) l) := by
  rw [kpr, kpr, ← sideL_alike h1 h2 h3, ← sideL_alike h1 h2 h3]
  split
  · exact hb
  · split
    · exact ha
    · exact kjoin_alike h1 h2 h3 h4 ha hb
theorem Alike.refl : ∀ k, Alike k k := by
  intro k
  induction k with
  | leaf x => exact .leaf x
  | node x a b ia ib => exact .node rfl rfl rfl rfl ia ib
theorem Alike.trans_ {a b : Kt} (h : Alike a b) : ∀ {c}, Alike b c → Alike a c := by
  induction h with
  | leaf x => intro c h; exact h
  | node h1 h2 h3 h4 ha hb ia ib =>
    intro c h
    cases h with
    | node g1 g2 g3 g4 ga gb => exact .node (h1.trans g1) (h2.trans g2) (h3.trans g3) (h4.trans g4) (ia ga) (ib gb)
theorem kof_more {t : List Nd} (hb : Behind t) : ∀ (k k' i : Nat), i < t.length → t.length ≤ i + k → t.length ≤ i + k' → kof t k i = kof t k' i := by
  intro k
  induction k with
  | zero => intro k' i h1 h2; omega
  | succ k ih =>
    intro k' i h1 h2 h3
    obtain ⟨q, rfl⟩ : ∃ q, k' = q + 1 := ⟨k' - 1, by omega⟩
    have hn : t[i]? = some t[i] := List.getElem?_eq_getElem h1
    by_cases hf : (t[i]).f = -1
    · rw [kof_leaf hn hf, kof_leaf hn hf]
    · obtain ⟨a, b, c, d⟩ := hb i _ hn hf
      rw [kof_node hn hf, kof_node hn hf, ih q _ (by omega) (by omega) (by omega), ih q _ (by omega) (by omega) (by omega)]

/-- what a node gives way to -/
def toR (t : List Nd) (n i : Nat) : Option Nat := match t[i]? with
  | none => none
  | some x => if x.f = -1 then none
    else if anyB (regR t n x.l.toNat) = false then some x.r.toNat
    else if anyB (regR t n x.r.toNat) = false then some x.l.toNat
    else match t[x.l.toNat]?, t[x.r.toNat]? with
      | some p, some q => if p.f = -1 ∧ q.f = -1 ∧ p.v = q.v then some x.l.toNat else none
      | _, _ => none
theorem toR_some {t : List Nd} {n i c : Nat} (h : toR t n i = some c) : ∃ x, t[i]? = some x ∧ x.f ≠ -1 ∧ (c = x.l.toNat ∨ c = x.r.toNat) := by
  unfold toR at h
  split at h
  · cases h
  · rename_i x hx
    refine ⟨x, hx, ?_⟩
    split at h
    · cases h
    · rename_i hf
      refine ⟨hf, ?_⟩
      split at h
      · injection h with h; exact .inr h.symm
      · split at h
        · injection h with h; exact .inl h.symm
        · split at h
          · split at h
            · injection h with h; exact .inl h.symm
            · cases h
          · cases h
theorem Right.asksIn {t : List Nd} {n : Nat} (hR : Right t n) (k i : Nat) : ∀ y ∈ (kof t k i).asks, 0 ≤ y.f ∧ y.f < n := fun y hy => by
  obtain ⟨j, hj, hf⟩ := kof_asks k i y hy
  exact hR.asks j y hj hf
theorem step_kpr {t : List Nd} {n i c : Nat} (hR : Right t n) (h : toR t n i = some c) : ∀ k, t.length ≤ i + k → kpr (kof t k i) (regR t n i) = kpr (kof t k c) (regR t n i) := by
  intro k hk
  have hc := toR_some h
  obtain ⟨x, hx, hf, hcx⟩ := hc
  have hi : i < t.length := (List.getElem?_eq_some_iff.1 hx).1
  obtain ⟨q, rfl⟩ : ∃ q, k = q + 1 := ⟨k - 1, by omega⟩
  obtain ⟨b1, b2, b3, b4⟩ := hR.behind i x hx hf
  have hne := kids_ne hR hx hf
  have hl : x.l = ((x.l.toNat : Nat) : Int) := by omega
  have hr : x.r = ((x.r.toNat : Nat) : Int) := by omega
  have eL : regR t n x.l.toNat = sideL (regR t n i) x true := by
    rw [regR_child hR hx hf (.inl hl), show (x.l == ((x.l.toNat : Nat) : Int)) = true by rw [beq_iff_eq]; exact hl]
  have eR : regR t n x.r.toNat = sideL (regR t n i) x false := by
    rw [regR_child hR hx hf (.inr hr), show (x.l == ((x.r.toNat : Nat) : Int)) = false by rw [beq_eq_false_iff_ne]; omega]
  have hkn := kof_node (k := q) hx hf
  have hasks : ∀ y ∈ (Kt.node x (kof t q x.l.toNat) (kof t q x.r.toNat)).asks, 0 ≤ y.f ∧ y.f < (regR t n i).length := fun y hy => by
    rw [regR_len]; rw [← hkn] at hy; exact hR.asksIn _ _ y hy
  have hlow := regR_low t n i
  have mL : kof t (q + 1) x.l.toNat = kof t q x.l.toNat := kof_more hR.behind _ _ _ (by omega) (by omega) (by omega)
  have mR : kof t (q + 1) x.r.toNat = kof t q x.r.toNat := kof_more hR.behind _ _ _ (by omega) (by omega) (by omega)
  rw [hkn]
  unfold toR at h
  rw [hx] at h
  dsimp only at h
  rw [if_neg hf, eL, eR] at h
  by_cases h1 : anyB (sideL (regR t n i) x true) = false
  · rw [if_pos h1] at h
    injection h with h
    subst h
    rw [mR]
    exact kpr_left_shut hasks hlow h1
  · rw [if_neg h1] at h
    have h1' : anyB (sideL (regR t n i) x true) = true := by simpa using h1
    by_cases h2 : anyB (sideL (regR t n i) x false) = false
    · rw [if_pos h2] at h
      injection h with h
      subst h
      rw [mL]
      exact kpr_right_shut hasks hlow h1' h2
    · rw [if_neg h2] at h
      have h2' : anyB (sideL (regR t n i) x false) = true := by simpa using h2
      split at h
      · rename_i p q' hp hq
        split at h
        · rename_i hpq
          injection h with h
          subst h
          obtain ⟨z, rfl⟩ : ∃ z, q = z + 1 := ⟨q - 1, by omega⟩
          rw [mL, kof_leaf hp hpq.1, kof_leaf hq hpq.2.1]
          exact kpr_same_leaves hpq.2.2 h1' h2'
        · cases h
      · cases h
/-- where no node gives way the tree is clean -/
theorem clean_of {t : List Nd} {n : Nat} (hR : Right t n) (h : ∀ i, i < t.length → toR t n i = none) : ∀ k i, i < t.length → t.length ≤ i + k → Clean (kof t k i) (regR t n i) := by
  intro k
  induction k with
  | zero => intro i h1 h2; omega
  | succ q ih =>
    intro i hi hk
    have hx : t[i]? = some t[i] := List.getElem?_eq_getElem hi
    generalize t[i] = x at hx
    by_cases hf : x.f = -1
    · rw [kof_leaf hx hf]; trivial
    · obtain ⟨b1, b2, b3, b4⟩ := hR.behind i x hx hf
      have hl : x.l = ((x.l.toNat : Nat) : Int) := by omega
      have hr : x.r = ((x.r.toNat : Nat) : Int) := by omega
      have hne := kids_ne hR hx hf
      have eL : regR t n x.l.toNat = sideL (regR t n i) x true := by
        rw [regR_child hR hx hf (.inl hl), show (x.l == ((x.l.toNat : Nat) : Int)) = true by rw [beq_iff_eq]; exact hl]
      have eR : regR t n x.r.toNat = sideL (regR t n i) x false := by
        rw [regR_child hR hx hf (.inr hr), show (x.l == ((x.r.toNat : Nat) : Int)) = false by rw [beq_eq_false_iff_ne]; omega]
      have hn := h i hi
      unfold toR at hn
      rw [hx] at hn
      dsimp only at hn
      rw [if_neg hf] at hn
      have c1 := ih x.l.toNat (by omega) (by omega)
      have c2 := ih x.r.toNat (by omega) (by omega)
      rw [eL] at hn c1
      rw [eR] at hn c2
      rw [kof_node hx hf]
      split at hn
      · cases hn
      · rename_i h1
        split at hn
        · cases hn
        · rename_i h2
          refine ⟨by simpa using h1, by simpa using h2, ?_, c1, c2⟩
          have hpl : x.l.toNat < t.length := by omega
          have hql : x.r.toNat < t.length := by omega
          have hp : t[x.l.toNat]? = some t[x.l.toNat] := List.getElem?_eq_getElem hpl
          have hq : t[x.r.toNat]? = some t[x.r.toNat] := List.getElem?_eq_getElem hql
          rw [hp, hq] at hn
          dsimp only at hn
          generalize t[x.l.toNat] = p at *
          generalize t[x.r.toNat] = q' at *
          obtain ⟨z, rfl⟩ : ∃ z, q = z + 1 := ⟨q - 1, by omega⟩
          by_cases fp : p.f = -1
          · by_cases fq : q'.f = -1
            · rw [kof_leaf hp fp, kof_leaf hq fq]
              rw [kjoin, if_neg]
              intro hv
              rw [if_pos ⟨fp, fq, hv⟩] at hn
              cases hn
            · rw [kof_leaf hp fp, kof_node hq fq]; rfl
          · rw [kof_node hp fp]; rfl
end Go.Proofs.YtefkjpcgcgofgaaDoor
