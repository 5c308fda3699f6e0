/- Package grow in plain words: all targets a little more; what a small list grows. Conditions: none. -/
import Derived.Test.YtopncifebldklaaGrowP
namespace Go.Proofs.Ytopncifebldklaa
set_option linter.unusedVariables false
set_option linter.unusedSimpArgs false
open Go.RowKit

def shS (by_ : Int) (s : Sm) : Sm := ⟨s.A, s.n, s.c, s.r, s.t + by_⟩
def shN (by_ : Int) (x : Nd) : Nd := if x.f = -1 then ⟨x.f, x.c, x.l, x.r, x.less, x.v + by_⟩ else x
def shK (by_ : Int) : Kt → Kt
  | .leaf x => .leaf ⟨x.f, x.c, x.l, x.r, x.less, x.v + by_⟩
  | .node x l r => .node x (shK by_ l) (shK by_ r)
theorem sumM_sh (b : Int) (ss : List Sm) : sumM (ss.map (shS b)) = sumM ss + b * (ss.length : Int) := by
  induction ss with
  | nil => simp [sumM]
  | cons s r ih =>
    simp only [List.map_cons, sumM, ih, List.length_cons, shS]
    rw [show ((r.length + 1 : Nat) : Int) = (r.length : Int) + 1 by omega, Int.mul_add]
    omega
theorem lowB_sh (b : Int) (f : Nat) (c : Int) (s : Sm) : lowB f c (shS b s) = lowB f c s := rfl
theorem lowS_sh (b : Int) (f : Nat) (c : Int) (ss : List Sm) : lowS f c (ss.map (shS b)) = (lowS f c ss).map (shS b) := by
  unfold lowS
  rw [List.filter_map]
  rfl
theorem highS_sh (b : Int) (f : Nat) (c : Int) (ss : List Sm) : highS f c (ss.map (shS b)) = (highS f c ss).map (shS b) := by
  unfold highS
  rw [List.filter_map]
  rfl
theorem cutsF_sh (b : Int) (f : Nat) (ss : List Sm) : cutsF (ss.map (shS b)) f = cutsF ss f := by
  unfold cutsF
  rw [List.map_map]
  rfl
/-- how much more each fraction is -/
def moreK (b : Int) (ss : List Sm) : Int := 2 * b * sumM ss + b * b * (ss.length : Int)
def shB (b : Int) (ss : List Sm) (st : Bs) : Bs := ⟨st.f, st.c, st.up + moreK b ss * st.dn, st.dn⟩
theorem upOf_sh (b : Int) (f : Nat) (c : Int) (ss : List Sm) : upOf ((lowS f c ss).map (shS b)) ((highS f c ss).map (shS b)) = upOf (lowS f c ss) (highS f c ss) + moreK b ss * dnOf (lowS f c ss) (highS f c ss) := by
  unfold upOf dnOf moreK
  rw [sumM_sh, sumM_sh, List.length_map, List.length_map, ← parts_sum f c ss, ← parts_len f c ss]
  generalize sumM (lowS f c ss) = x
  generalize sumM (highS f c ss) = y
  rw [Int.natCast_add]
  generalize ((lowS f c ss).length : Int) = n
  generalize ((highS f c ss).length : Int) = m
  grind
theorem dnOf_sh (b : Int) (x y : List Sm) : dnOf (x.map (shS b)) (y.map (shS b)) = dnOf x y := by unfold dnOf; rw [List.length_map, List.length_map]
theorem stepB_sh (b : Int) (ss : List Sm) (least f : Nat) (st : Bs) (c : Int) : stepB (ss.map (shS b)) least f (shB b ss st) c = shB b ss (stepB ss least f st c) := by
  unfold stepB tryB
  rw [lowS_sh, highS_sh, upOf_sh, dnOf_sh, List.length_map, List.length_map]
  split
  · rfl
  split
  · rfl
  have key : (shB b ss st).up * dnOf (lowS f c ss) (highS f c ss) < (upOf (lowS f c ss) (highS f c ss) + moreK b ss * dnOf (lowS f c ss) (highS f c ss)) * (shB b ss st).dn ↔ st.up * dnOf (lowS f c ss) (highS f c ss) < upOf (lowS f c ss) (highS f c ss) * st.dn := by
    unfold shB
    dsimp only
    generalize dnOf (lowS f c ss) (highS f c ss) = y
    generalize upOf (lowS f c ss) (highS f c ss) = x
    generalize moreK b ss = K
    have e : (x + K * y) * st.dn - (st.up + K * st.dn) * y = x * st.dn - st.up * y := by grind
    omega
  by_cases h : st.up * dnOf (lowS f c ss) (highS f c ss) < upOf (lowS f c ss) (highS f c ss) * st.dn
  · rw [if_pos h, if_pos (key.2 h)]
    rfl
  · rw [if_neg h, if_neg (fun e => h (key.1 e))]
theorem fold_sh (b : Int) (ss : List Sm) (least f : Nat) : ∀ (cs : List Int) (st : Bs), cs.foldl (stepB (ss.map (shS b)) least f) (shB b ss st) = shB b ss (cs.foldl (stepB ss least f) st) := by
  intro cs
  induction cs with
  | nil => intro st; rfl
  | cons c r ih => intro st; rw [List.foldl_cons, List.foldl_cons, stepB_sh, ih]
theorem startB_sh (b : Int) (ss : List Sm) : startB (ss.map (shS b)) = shB b ss (startB ss) := by
  unfold startB shB moreK
  rw [sumM_sh, List.length_map]
  dsimp only
  congr 1
  generalize sumM ss = x
  generalize (ss.length : Int) = n
  grind
theorem bestB_sh (b : Int) (ss : List Sm) (n least : Nat) : bestB (ss.map (shS b)) n least = shB b ss (bestB ss n least) := by
  unfold bestB
  rw [startB_sh]
  generalize startB ss = st
  generalize List.range n = fs
  induction fs generalizing st with
  | nil => rfl
  | cons f r ih =>
    rw [List.foldl_cons, List.foldl_cons]
    unfold bestF
    rw [cutsF_sh, fold_sh]
    exact ih _
theorem leafG_sh {b : Int} {ss : List Sm} (h : 0 < ss.length) : leafG (ss.map (shS b)) = ⟨(leafG ss).f, (leafG ss).c, (leafG ss).l, (leafG ss).r, (leafG ss).less, (leafG ss).v + b⟩ := by
  unfold leafG
  rw [sumM_sh, List.length_map, Int.add_mul_ediv_right _ _ (by omega)]
theorem growK_sh {b : Int} {n least : Nat} (hl : 1 ≤ least) : ∀ (d : Nat) (ss : List Sm), SRight ss n → growK n least d (ss.map (shS b)) = shK b (growK n least d ss) := by
  intro d
  induction d with
  | zero => intro ss hs; simp only [growK, shK]; rw [leafG_sh hs.pos]
  | succ d ih =>
    intro ss hs
    have hB := bestB_ok hs hl
    have e1 : (shB b ss (bestB ss n least)).f = (bestB ss n least).f := rfl
    have e2 : (shB b ss (bestB ss n least)).c = (bestB ss n least).c := rfl
    simp only [growK, bestB_sh, e1, e2, lowS_sh, highS_sh, List.length_map]
    by_cases h : (bestB ss n least).f < 0
    · rw [if_pos h, if_pos h, leafG_sh hs.pos]
      rfl
    · rw [if_neg h, if_neg h]
      obtain ⟨_, _, _, _, _, _, _, _, hz⟩ := hB
      rcases hz with hz | ⟨h1, h2⟩
      · exact absurd hz h
      simp only [shK]
      rw [ih _ (hs.low (by omega)), ih _ (hs.high (by omega))]
theorem shK_size (b : Int) (k : Kt) : (shK b k).size = k.size := by
  induction k with
  | leaf x => rfl
  | node x l r il ir => simp only [shK, Kt.size, il, ir]
theorem layK_sh (b : Int) : ∀ (k : Kt) (n : Nat), k.Ok → layK n (shK b k) = (layK n k).map (shN b) := by
  intro k
  induction k with
  | leaf x =>
    intro n hk
    have := hk.2 x (by simp [Kt.leaves])
    simp only [shK, layK, List.map_cons, List.map_nil, shN, if_pos this]
  | node x l r il ir =>
    intro n hk
    have := hk.1 x (by simp [Kt.asks])
    simp only [shK, layK, List.map_cons, List.map_append, shK_size, il _ hk.left, ir _ hk.right]
    rw [show shN b ⟨x.f, x.c, ((n + 1 : Nat) : Int), ((n + 1 + l.size : Nat) : Int), x.less, x.v⟩ = ⟨x.f, x.c, ((n + 1 : Nat) : Int), ((n + 1 + l.size : Nat) : Int), x.less, x.v⟩ by unfold shN; rw [if_neg this]]
theorem growK_ok (n least : Nat) : ∀ (d : Nat) (ss : List Sm), (growK n least d ss).Ok := by
  intro d
  induction d with
  | zero => intro ss; exact ⟨fun y hy => by simp [growK, Kt.asks] at hy, fun y hy => by simp [growK, Kt.leaves] at hy; subst hy; rfl⟩
  | succ d ih =>
    intro ss
    simp only [growK]
    split
    · exact ⟨fun y hy => by simp [Kt.asks] at hy, fun y hy => by simp [Kt.leaves] at hy; subst hy; rfl⟩
    · refine ⟨fun y hy => ?_, fun y hy => ?_⟩
      · simp only [Kt.asks, List.mem_cons, List.mem_append] at hy
        rcases hy with rfl | hy | hy
        · dsimp only; omega
        · exact (ih _).1 y hy
        · exact (ih _).1 y hy
      · simp only [Kt.leaves, List.mem_append] at hy
        rcases hy with hy | hy
        · exact (ih _).2 y hy
        · exact (ih _).2 y hy
theorem growK_size (n least : Nat) : ∀ (d : Nat) (ss : List Sm), (growK n least d ss).size < 2 ^ (d + 1) := by
  intro d
  induction d with
  | zero => intro ss; simp [growK, Kt.size]
  | succ d ih =>
    intro ss
    have hp : (2 : Nat) ^ (d + 1 + 1) = 2 ^ (d + 1) + 2 ^ (d + 1) := by rw [Nat.pow_succ]; omega
    simp only [growK]
    split
    · have := Nat.one_le_two_pow (n := d + 1)
      simp only [Kt.size]; omega
    · have h1 := ih (lowS (bestB ss n least).f.toNat (bestB ss n least).c ss)
      have h2 := ih (highS (bestB ss n least).f.toNat (bestB ss n least).c ss)
      simp only [Kt.size]
      omega
end Go.Proofs.Ytopncifebldklaa
