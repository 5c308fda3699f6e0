/- Part 11 of what LawBoostTells needs: GrowP, GrowQ, GrowT. Conditions: as each lemma names. -/
import Derived.Test.YtdpijhnbhopnbaaGreatDoorPkBoostTells10
import Derived.Test.YtdpijhnbhopnbaaGreatDoorPkBoostTells09
/- Package grow in plain words: samples, what a question puts right, which tree is grown, all targets a little more. Conditions: none. -/
namespace Go.Proofs.YtdpijhnbhopnbaaGreatDoor
set_option linter.unusedVariables false
set_option linter.unusedSimpArgs false
open Go.RowKit

/-- a sample as a value, with what its row reads as -/
structure Sm where
  A : Option Addr
  n : Nat
  c : Nat
  r : List Int
  t : Int
instance : Inhabited Sm := ⟨⟨none, 0, 0, [], 0⟩⟩
def Sm.cells (s : Sm) : List Value := [.slice s.A s.n s.c, .int .i64 s.t]
structure SmOk (w : World) (B : Nat) (s : Sm) : Prop where
  reads : IReads w B s.A s.n s.r
  len : s.n ≤ maxLen
def MReads (w : World) (B : Nat) (A : Option Addr) (n : Nat) (ss : List Sm) : Prop := Reads w B 2 A n (ss.flatMap Sm.cells) ∧ ∀ s ∈ ss, SmOk w B s
section
variable {w w' : World} {B B' n : Nat} {A : Option Addr} {ss : List Sm}
theorem SmOk.below {s : Sm} (h : SmOk w B s) (hb : Below B w w') : SmOk w' B s := ⟨h.reads.below hb, h.len⟩
theorem SmOk.more {s : Sm} (h : SmOk w B s) (hB : B ≤ B') : SmOk w B' s := ⟨h.reads.more hB, h.len⟩
theorem MReads.below (h : MReads w B A n ss) (hb : Below B w w') : MReads w' B A n ss := ⟨h.1.below hb, fun s hs => (h.2 s hs).below hb⟩
theorem MReads.more (h : MReads w B A n ss) (hB : B ≤ B') : MReads w B' A n ss := ⟨h.1.more hB, fun s hs => (h.2 s hs).more hB⟩
theorem MReads.len (h : MReads w B A n ss) : ss.length = n := by
  have := h.1.1
  rw [flatMap_len Sm.cells 2 (fun _ => rfl)] at this
  omega
theorem MReads.get (h : MReads w B A n ss) {k : Nat} (hk : k < n) :
    ∃ b off s, A = some ⟨b, off, none⟩ ∧ b < B ∧ ss[k]? = some s ∧ w.cell? ⟨b, off + k * 2, none⟩ = some (.slice s.A s.n s.c) ∧ w.cell? ⟨b, off + k * 2 + 1, none⟩ = some (.int .i64 s.t) ∧ SmOk w B s := by
  obtain ⟨b, off, rfl, hb, hc⟩ := Reads.spot h.1 (by omega) (by omega)
  have hl : k < ss.length := by rw [h.len]; exact hk
  have hs : ss[k]? = some ss[k] := List.getElem?_eq_getElem hl
  have F := fun j hj => flatMap_at Sm.cells 2 (fun _ => rfl) ss k j ss[k] hs hj
  exact ⟨b, off, ss[k], rfl, hb, hs, hc (k * 2 + 0) _ (F 0 (by omega)), hc (k * 2 + 1) _ (F 1 (by omega)), h.2 _ (List.mem_of_getElem? hs)⟩
end

/-- what is wrong with one sample -/
def oneE (fe : Int) (s : Sm) : Int :=
  if rowE s.r = 0 then (if s.t < -1000 then 1 else if 1000 < s.t then 1 else if (s.r.length : Int) = fe then (if nilC ∈ s.r then 5 else 0) else 3) else rowE s.r
def badS (fe : Int) : Nat → List Sm → Nat × Int
  | _, [] => (0, 0)
  | i, s :: r => if oneE fe s = 0 then badS fe (i + 1) r else (i, oneE fe s)
def sampC (ss : List Sm) (fe : Int) : Nat × Int :=
  if 60 < ss.length then (0, 4) else if ss.length = 0 then (0, 5) else if fe < 0 then (0, 1) else if 8 < fe then (0, 1) else badS fe 0 ss
def sampE (ss : List Sm) (fe : Int) : Int := (sampC ss fe).2
theorem badS_drop {fe : Int} {ss : List Sm} {k : Nat} {s : Sm} (h : ss[k]? = some s) : badS fe k (ss.drop k) = if oneE fe s = 0 then badS fe (k + 1) (ss.drop (k + 1)) else (k, oneE fe s) := by
  rw [drop_at h, badS]
/-- samples that are right -/
structure SRight (ss : List Sm) (n : Nat) : Prop where
  pos : 0 < ss.length
  most : ss.length ≤ 60
  fe8 : n ≤ 8
  tlo : ∀ s ∈ ss, -1000 ≤ s.t
  thi : ∀ s ∈ ss, s.t ≤ 1000
  len : ∀ s ∈ ss, s.r.length = n
  cell : ∀ s ∈ ss, ∀ x ∈ s.r, -1000000 ≤ x ∧ x ≤ 1000000
theorem badS_0 {fe : Int} : ∀ (ss : List Sm) (i : Nat), (badS fe i ss).2 = 0 → ∀ s ∈ ss, oneE fe s = 0 := by
  intro ss
  induction ss with
  | nil => intro i _ s hs; cases hs
  | cons x r ih =>
    intro i h s hs
    rw [badS] at h
    by_cases h0 : oneE fe x = 0
    · rw [if_pos h0] at h
      rcases List.mem_cons.1 hs with rfl | hs
      · exact h0
      · exact ih _ h s hs
    · rw [if_neg h0] at h; exact absurd h h0
theorem badS_of {fe : Int} : ∀ (ss : List Sm) (i : Nat), (∀ s ∈ ss, oneE fe s = 0) → badS fe i ss = (0, 0) := by
  intro ss
  induction ss with
  | nil => intro i _; rfl
  | cons x r ih =>
    intro i h
    rw [badS, if_pos (h x (List.mem_cons_self ..))]
    exact ih _ fun s hs => h s (List.mem_cons_of_mem _ hs)
theorem oneE_0 {fe : Int} {s : Sm} (h : oneE fe s = 0) : rowE s.r = 0 ∧ -1000 ≤ s.t ∧ s.t ≤ 1000 ∧ (s.r.length : Int) = fe ∧ nilC ∉ s.r := by
  unfold oneE at h
  by_cases h0 : rowE s.r = 0
  · rw [if_pos h0] at h
    by_cases h1 : s.t < -1000
    · rw [if_pos h1] at h; cases h
    rw [if_neg h1] at h
    by_cases h2 : 1000 < s.t
    · rw [if_pos h2] at h; cases h
    rw [if_neg h2] at h
    by_cases h3 : (s.r.length : Int) = fe
    · rw [if_pos h3] at h
      by_cases h4 : nilC ∈ s.r
      · rw [if_pos h4] at h; cases h
      · exact ⟨h0, by omega, by omega, h3, h4⟩
    · rw [if_neg h3] at h; cases h
  · rw [if_neg h0] at h; exact absurd h h0
theorem oneE_of {fe : Int} {s : Sm} (h0 : rowE s.r = 0) (h1 : -1000 ≤ s.t) (h2 : s.t ≤ 1000) (h3 : (s.r.length : Int) = fe) (h4 : nilC ∉ s.r) : oneE fe s = 0 := by
  unfold oneE
  rw [if_pos h0, if_neg (by omega), if_neg (by omega), if_pos h3, if_neg h4]
theorem samp_right {ss : List Sm} {fe : Int} (h : sampE ss fe = 0) : ∃ n : Nat, fe = n ∧ SRight ss n := by
  unfold sampE sampC at h
  by_cases h1 : 60 < ss.length
  · rw [if_pos h1] at h; cases h
  rw [if_neg h1] at h
  by_cases h2 : ss.length = 0
  · rw [if_pos h2] at h; cases h
  rw [if_neg h2] at h
  by_cases h3 : fe < 0
  · rw [if_pos h3] at h; cases h
  rw [if_neg h3] at h
  by_cases h4 : 8 < fe
  · rw [if_pos h4] at h; cases h
  rw [if_neg h4] at h
  have hb := badS_0 ss 0 h
  obtain ⟨n, rfl⟩ : ∃ n : Nat, fe = n := ⟨fe.toNat, by omega⟩
  refine ⟨n, rfl, by omega, by omega, by omega, fun s hs => (oneE_0 (hb s hs)).2.1, fun s hs => (oneE_0 (hb s hs)).2.2.1, fun s hs => by have := (oneE_0 (hb s hs)).2.2.2.1; omega, fun s hs x hx => ?_⟩
  obtain ⟨a, _, _, _, b⟩ := oneE_0 (hb s hs)
  rcases row_cellsP a x hx with h | h
  · exact absurd (by rw [h] at hx; exact hx) b
  · exact h

/-! ### what a question puts right -/
def sumM : List Sm → Int
  | [] => 0
  | s :: r => s.t + sumM r
theorem sumM_app (a b : List Sm) : sumM (a ++ b) = sumM a + sumM b := by
  induction a with
  | nil => simp [sumM]
  | cons s r ih => simp only [List.cons_append, sumM, ih]; omega
theorem sumM_next {ss : List Sm} {k : Nat} {s : Sm} (h : ss[k]? = some s) : sumM (ss.take (k + 1)) = sumM (ss.take k) + s.t := by
  rw [take_next h, sumM_app]; simp [sumM]
theorem sumM_le {ss : List Sm} (h1 : ∀ s ∈ ss, -1000 ≤ s.t) (h2 : ∀ s ∈ ss, s.t ≤ 1000) : -1000 * (ss.length : Int) ≤ sumM ss ∧ sumM ss ≤ 1000 * (ss.length : Int) := by
  induction ss with
  | nil => simp [sumM]
  | cons s r ih =>
    have a := h1 s (List.mem_cons_self ..)
    have b := h2 s (List.mem_cons_self ..)
    obtain ⟨c, d⟩ := ih (fun x hx => h1 x (List.mem_cons_of_mem _ hx)) (fun x hx => h2 x (List.mem_cons_of_mem _ hx))
    simp only [sumM, List.length_cons]
    omega
def cellS (f : Nat) (s : Sm) : Int := s.r.getD f 0
def lowB (f : Nat) (c : Int) (s : Sm) : Bool := decide (cellS f s < c)
def lowS (f : Nat) (c : Int) (ss : List Sm) : List Sm := ss.filter (lowB f c)
def highS (f : Nat) (c : Int) (ss : List Sm) : List Sm := ss.filter fun s => !lowB f c s
theorem parts_len (f : Nat) (c : Int) (ss : List Sm) : (lowS f c ss).length + (highS f c ss).length = ss.length := by
  induction ss with
  | nil => rfl
  | cons s r ih =>
    unfold lowS highS at ih ⊢
    cases h : lowB f c s <;> simp [List.filter_cons, h] <;> omega
theorem parts_sum (f : Nat) (c : Int) (ss : List Sm) : sumM (lowS f c ss) + sumM (highS f c ss) = sumM ss := by
  induction ss with
  | nil => rfl
  | cons s r ih =>
    unfold lowS highS at ih ⊢
    cases h : lowB f c s <;> simp [List.filter_cons, h, sumM] <;> omega
theorem lowS_next {f : Nat} {c : Int} {ss : List Sm} {k : Nat} {s : Sm} (h : ss[k]? = some s) : lowS f c (ss.take (k + 1)) = lowS f c (ss.take k) ++ if cellS f s < c then [s] else [] := by
  unfold lowS
  rw [take_next h, List.filter_append]
  congr 1
  unfold lowB
  by_cases hu : cellS f s < c <;> simp [hu]
theorem highS_next {f : Nat} {c : Int} {ss : List Sm} {k : Nat} {s : Sm} (h : ss[k]? = some s) : highS f c (ss.take (k + 1)) = highS f c (ss.take k) ++ if cellS f s < c then [] else [s] := by
  unfold highS
  rw [take_next h, List.filter_append]
  congr 1
  unfold lowB
  by_cases hu : cellS f s < c <;> simp [hu]
theorem lowS_mem {f : Nat} {c : Int} {ss : List Sm} {s : Sm} (h : s ∈ lowS f c ss) : s ∈ ss ∧ cellS f s < c := by
  unfold lowS lowB at h
  simpa using h
theorem highS_mem {f : Nat} {c : Int} {ss : List Sm} {s : Sm} (h : s ∈ highS f c ss) : s ∈ ss ∧ c ≤ cellS f s := by
  unfold highS lowB at h
  simpa using h
/-- the best question so far -/
structure Bs where
  f : Int
  c : Int
  up : Int
  dn : Int
def upOf (a b : List Sm) : Int := sumM a * sumM a * (b.length : Int) + sumM b * sumM b * (a.length : Int)
def dnOf (a b : List Sm) : Int := (a.length : Int) * (b.length : Int)
def tryB (least f : Nat) (c : Int) (a b : List Sm) (st : Bs) : Bs :=
  if a.length < least then st else if b.length < least then st else if st.up * dnOf a b < upOf a b * st.dn then ⟨f, c, upOf a b, dnOf a b⟩ else st
def stepB (ss : List Sm) (least f : Nat) (st : Bs) (c : Int) : Bs := tryB least f c (lowS f c ss) (highS f c ss) st
def cutsF (ss : List Sm) (f : Nat) : List Int := (compactL (sortL (ss.map (cellS f)))).drop 1
def bestF (ss : List Sm) (least : Nat) (st : Bs) (f : Nat) : Bs := (cutsF ss f).foldl (stepB ss least f) st
def startB (ss : List Sm) : Bs := ⟨-1, 0, sumM ss * sumM ss, ss.length⟩
def bestB (ss : List Sm) (n least : Nat) : Bs := (List.range n).foldl (bestF ss least) (startB ss)
theorem bestF_next {ss : List Sm} {least f k : Nat} {c : Int} {st : Bs} (h : (cutsF ss f)[k]? = some c) : ((cutsF ss f).take (k + 1)).foldl (stepB ss least f) st = stepB ss least f (((cutsF ss f).take k).foldl (stepB ss least f) st) c := by
  rw [take_next h, List.foldl_append]; rfl
theorem bestB_next (ss : List Sm) (least k : Nat) (st : Bs) : (List.range (k + 1)).foldl (bestF ss least) st = bestF ss least ((List.range k).foldl (bestF ss least) st) k := by
  rw [List.range_succ, List.foldl_append]; rfl

/-! ### the tree -/
def leafG (ss : List Sm) : Nd := ⟨-1, 0, 0, 0, false, sumM ss / (ss.length : Int)⟩
def growK (n least : Nat) : Nat → List Sm → Kt
  | 0, ss => .leaf (leafG ss)
  | d + 1, ss =>
    if (bestB ss n least).f < 0 then .leaf (leafG ss)
    else .node ⟨(bestB ss n least).f, (bestB ss n least).c, 0, 0, decide ((highS (bestB ss n least).f.toNat (bestB ss n least).c ss).length < (lowS (bestB ss n least).f.toNat (bestB ss n least).c ss).length), 0⟩
      (growK n least d (lowS (bestB ss n least).f.toNat (bestB ss n least).c ss)) (growK n least d (highS (bestB ss n least).f.toNat (bestB ss n least).c ss))
def fitE (ss : List Sm) (fe depth least : Int) : Int :=
  if sampE ss fe = 0 then (if depth < 0 ∨ 5 < depth ∨ least < 1 ∨ 60 < least then 1 else 0) else sampE ss fe
def fitT (ss : List Sm) (fe depth least : Int) : List Nd := if fitE ss fe depth least = 0 then layK 0 (growK fe.toNat least.toNat depth.toNat ss) else []

/-- what the best question is: one of a feature, with both sides as many as must be; or none -/
def BsOk (ss : List Sm) (n least : Nat) (b : Bs) : Prop :=
  0 < b.dn ∧ b.dn ≤ 900 ∧ 0 ≤ b.up ∧ b.up ≤ 1000000000000 ∧ -1 ≤ b.f ∧ b.f < n ∧ -1000000 ≤ b.c ∧ b.c ≤ 1000000 ∧
    (b.f < 0 ∨ (least ≤ (lowS b.f.toNat b.c ss).length ∧ least ≤ (highS b.f.toNat b.c ss).length))
theorem sq_le {a m : Int} (h1 : -m ≤ a) (h2 : a ≤ m) : 0 ≤ a * a ∧ a * a ≤ m * m := by
  have hm : 0 ≤ m := by omega
  constructor
  · rcases Int.le_total 0 a with h | h
    · exact Int.mul_nonneg h h
    · exact Int.mul_nonneg_of_nonpos_of_nonpos h h
  · rcases Int.le_total 0 a with h | h
    · exact Int.mul_le_mul h2 h2 h hm
    · have := Int.mul_le_mul (a := -a) (b := -a) (c := m) (d := m) (by omega) (by omega) (by omega) hm
      rwa [Int.neg_mul_neg] at this
theorem sum_60 {ss : List Sm} (h : ss.length ≤ 60) (h1 : ∀ s ∈ ss, -1000 ≤ s.t) (h2 : ∀ s ∈ ss, s.t ≤ 1000) : -60000 ≤ sumM ss ∧ sumM ss ≤ 60000 := by
  have := sumM_le h1 h2
  omega
theorem prod_900 {a b : Nat} (h : a + b ≤ 60) : (a : Int) * b ≤ 900 := by
  have h1 : (a : Int) + b ≤ 60 := by omega
  have : (a : Int) * b * 4 = (a + b) * (a + b) - (a - b) * (a - b) := by grind
  have h3 := (sq_le (a := (a : Int) + b) (m := 60) (by omega) h1).2
  have h4 : 0 ≤ ((a : Int) - b) * (a - b) := by
    rcases Int.le_total 0 ((a : Int) - b) with h | h
    · exact Int.mul_nonneg h h
    · exact Int.mul_nonneg_of_nonpos_of_nonpos h h
  omega
theorem BsOk.start {ss : List Sm} {n least : Nat} (hs : SRight ss n) : BsOk ss n least (startB ss) := by
  have h := sum_60 hs.most hs.tlo hs.thi
  have hp := hs.pos
  have hm := hs.most
  have h2 := sq_le (a := sumM ss) (m := 60000) (by omega) (by omega)
  unfold startB
  exact ⟨by simp; omega, by simp; omega, by simp; omega, by simp; omega, by simp, by simp; omega, by simp, by simp, .inl (by simp)⟩
theorem upOf_le {a b : List Sm} (h : a.length + b.length ≤ 60) (ha1 : ∀ s ∈ a, -1000 ≤ s.t) (ha2 : ∀ s ∈ a, s.t ≤ 1000) (hb1 : ∀ s ∈ b, -1000 ≤ s.t) (hb2 : ∀ s ∈ b, s.t ≤ 1000) :
    0 ≤ upOf a b ∧ upOf a b ≤ 1000000000000 := by
  have h1 := sum_60 (by omega) ha1 ha2
  have h2 := sum_60 (by omega) hb1 hb2
  have h3 := sq_le (a := sumM a) (m := 60000) (by omega) (by omega)
  have h4 := sq_le (a := sumM b) (m := 60000) (by omega) (by omega)
  have g1 := Int.mul_nonneg h3.1 (show (0 : Int) ≤ (b.length : Int) by omega)
  have g2 := Int.mul_nonneg h4.1 (show (0 : Int) ≤ (a.length : Int) by omega)
  have g3 := Int.mul_le_mul h3.2 (show (b.length : Int) ≤ 60 by omega) (by omega) (by omega)
  have g4 := Int.mul_le_mul h4.2 (show (a.length : Int) ≤ 60 by omega) (by omega) (by omega)
  unfold upOf
  omega
theorem BsOk.try_ {ss : List Sm} {n least f : Nat} {c : Int} {b : Bs} (hs : SRight ss n) (h : BsOk ss n least b) (hf : f < n) (hc : -1000000 ≤ c ∧ c ≤ 1000000) (hl : 1 ≤ least) : BsOk ss n least (stepB ss least f b c) := by
  unfold stepB tryB
  split
  · exact h
  split
  · exact h
  split
  · have hp := parts_len f c ss
    have hm := hs.most
    have hu := upOf_le (a := lowS f c ss) (b := highS f c ss) (by omega) (fun s h => hs.tlo s (lowS_mem h).1) (fun s h => hs.thi s (lowS_mem h).1) (fun s h => hs.tlo s (highS_mem h).1) (fun s h => hs.thi s (highS_mem h).1)
    refine ⟨?_, prod_900 (by omega), hu.1, hu.2, by show (-1 : Int) ≤ (f : Int); omega, by show (f : Int) < n; omega, hc.1, hc.2, .inr ?_⟩
    · show 0 < dnOf _ _
      exact Int.mul_pos (by omega) (by omega)
    · dsimp only
      rw [Int.toNat_natCast]
      exact ⟨by omega, by omega⟩
  · exact h
theorem cutsF_mem {ss : List Sm} {n f : Nat} (hs : SRight ss n) (hf : f < n) {c : Int} (h : c ∈ cutsF ss f) : -1000000 ≤ c ∧ c ≤ 1000000 := by
  have h1 := List.mem_of_mem_drop h
  rw [(compactL_sorted (sortL_sorted _)).2, (sortL_perm _).mem_iff] at h1
  obtain ⟨s, hm, rfl⟩ := List.mem_map.1 h1
  have hl := hs.len s hm
  refine hs.cell s hm _ ?_
  unfold cellS
  rw [List.getD_eq_getElem?_getD, List.getElem?_eq_getElem (by omega)]
  exact List.getElem_mem _
theorem BsOk.fold {ss : List Sm} {n least f : Nat} (hs : SRight ss n) (hf : f < n) (hl : 1 ≤ least) : ∀ (cs : List Int) (b : Bs), (∀ c ∈ cs, -1000000 ≤ c ∧ c ≤ 1000000) → BsOk ss n least b → BsOk ss n least (cs.foldl (stepB ss least f) b) := by
  intro cs
  induction cs with
  | nil => intro b _ h; exact h
  | cons c r ih => intro b hc h; exact ih _ (fun x hx => hc x (List.mem_cons_of_mem _ hx)) (h.try_ hs hf (hc c (List.mem_cons_self ..)) hl)
theorem BsOk.part {ss : List Sm} {n least f k : Nat} {b : Bs} (hs : SRight ss n) (hf : f < n) (hl : 1 ≤ least) (h : BsOk ss n least b) : BsOk ss n least (((cutsF ss f).take k).foldl (stepB ss least f) b) :=
  h.fold hs hf hl _ _ fun c hc => cutsF_mem hs hf (List.mem_of_mem_take hc)
theorem BsOk.range {ss : List Sm} {n least : Nat} (hs : SRight ss n) (hl : 1 ≤ least) : ∀ k, k ≤ n → BsOk ss n least ((List.range k).foldl (bestF ss least) (startB ss)) := by
  intro k
  induction k with
  | zero => intro _; exact BsOk.start hs
  | succ k ih =>
    intro hk
    rw [bestB_next]
    exact (ih (by omega)).fold hs (by omega) hl _ _ fun c hc => cutsF_mem hs (by omega) hc
theorem bestB_ok {ss : List Sm} {n least : Nat} (hs : SRight ss n) (hl : 1 ≤ least) : BsOk ss n least (bestB ss n least) := BsOk.range hs hl n (Nat.le_refl _)
theorem SRight.low {ss : List Sm} {n f : Nat} {c : Int} (hs : SRight ss n) (h : 0 < (lowS f c ss).length) : SRight (lowS f c ss) n :=
  ⟨h, Nat.le_trans (List.length_filter_le _ _) hs.most, hs.fe8, fun s h => hs.tlo s (lowS_mem h).1, fun s h => hs.thi s (lowS_mem h).1, fun s h => hs.len s (lowS_mem h).1, fun s h => hs.cell s (lowS_mem h).1⟩
theorem SRight.high {ss : List Sm} {n f : Nat} {c : Int} (hs : SRight ss n) (h : 0 < (highS f c ss).length) : SRight (highS f c ss) n :=
  ⟨h, Nat.le_trans (List.length_filter_le _ _) hs.most, hs.fe8, fun s h => hs.tlo s (highS_mem h).1, fun s h => hs.thi s (highS_mem h).1, fun s h => hs.len s (highS_mem h).1, fun s h => hs.cell s (highS_mem h).1⟩
end Go.Proofs.YtdpijhnbhopnbaaGreatDoor
/- Package grow in plain words: all targets a little more; what a small list grows. Conditions: none. -/
namespace Go.Proofs.YtdpijhnbhopnbaaGreatDoor
set_option linter.unusedVariables false
set_option linter.unusedSimpArgs false
open Go.RowKit

def shS (by_ : Int) (s : Sm) : Sm := ⟨s.A, s.n, s.c, s.r, s.t + by_⟩
def shN (by_ : Int) (x : Nd) : Nd := if x.f = -1 then ⟨x.f, x.c, x.l, x.r, x.less, x.v + by_⟩ else x
def shK (by_ : Int) : Kt → Kt
  | .leaf x => .leaf ⟨x.f, x.c, x.l, x.r, x.less, x.v + by_⟩
  | .node x l r => .node x (shK by_ l) (shK by_ r)
theorem sumM_sh (b : Int) (ss : List Sm) : sumM (ss.map (shS b)) = sumM ss + b * (ss.length : Int) := by
  induction ss with
  | nil => simp [sumM]
  | cons s r ih =>
    simp only [List.map_cons, sumM, ih, List.length_cons, shS]
    rw [show ((r.length + 1 : Nat) : Int) = (r.length : Int) + 1 by omega, Int.mul_add]
    omega
theorem lowB_sh (b : Int) (f : Nat) (c : Int) (s : Sm) : lowB f c (shS b s) = lowB f c s := rfl
theorem lowS_sh (b : Int) (f : Nat) (c : Int) (ss : List Sm) : lowS f c (ss.map (shS b)) = (lowS f c ss).map (shS b) := by
  unfold lowS
  rw [List.filter_map]
  rfl
theorem highS_sh (b : Int) (f : Nat) (c : Int) (ss : List Sm) : highS f c (ss.map (shS b)) = (highS f c ss).map (shS b) := by
  unfold highS
  rw [List.filter_map]
  rfl
theorem cutsF_sh (b : Int) (f : Nat) (ss : List Sm) : cutsF (ss.map (shS b)) f = cutsF ss f := by
  unfold cutsF
  rw [List.map_map]
  rfl
/-- how much more each fraction is -/
def moreK (b : Int) (ss : List Sm) : Int := 2 * b * sumM ss + b * b * (ss.length : Int)
def shB (b : Int) (ss : List Sm) (st : Bs) : Bs := ⟨st.f, st.c, st.up + moreK b ss * st.dn, st.dn⟩
theorem upOf_sh (b : Int) (f : Nat) (c : Int) (ss : List Sm) : upOf ((lowS f c ss).map (shS b)) ((highS f c ss).map (shS b)) = upOf (lowS f c ss) (highS f c ss) + moreK b ss * dnOf (lowS f c ss) (highS f c ss) := by
  unfold upOf dnOf moreK
  rw [sumM_sh, sumM_sh, List.length_map, List.length_map, ← parts_sum f c ss, ← parts_len f c ss]
  generalize sumM (lowS f c ss) = x
  generalize sumM (highS f c ss) = y
  rw [Int.natCast_add]
  generalize ((lowS f c ss).length : Int) = n
  generalize ((highS f c ss).length : Int) = m
  grind
theorem dnOf_sh (b : Int) (x y : List Sm) : dnOf (x.map (shS b)) (y.map (shS b)) = dnOf x y := by unfold dnOf; rw [List.length_map, List.length_map]
theorem stepB_sh (b : Int) (ss : List Sm) (least f : Nat) (st : Bs) (c : Int) : stepB (ss.map (shS b)) least f (shB b ss st) c = shB b ss (stepB ss least f st c) := by
  unfold stepB tryB
  rw [lowS_sh, highS_sh, upOf_sh, dnOf_sh, List.length_map, List.length_map]
  split
  · rfl
  split
  · rfl
  have key : (shB b ss st).up * dnOf (lowS f c ss) (highS f c ss) < (upOf (lowS f c ss) (highS f c ss) + moreK b ss * dnOf (lowS f c ss) (highS f c ss)) * (shB b ss st).dn ↔ st.up * dnOf (lowS f c ss) (highS f c ss) < upOf (lowS f c ss) (highS f c ss) * st.dn := by
    unfold shB
    dsimp only
    generalize dnOf (lowS f c ss) (highS f c ss) = y
    generalize upOf (lowS f c ss) (highS f c ss) = x
    generalize moreK b ss = K
    have e : (x + K * y) * st.dn - (st.up + K * st.dn) * y = x * st.dn - st.up * y := by grind
    omega
  by_cases h : st.up * dnOf (lowS f c ss) (highS f c ss) < upOf (lowS f c ss) (highS f c ss) * st.dn
  · rw [if_pos h, if_pos (key.2 h)]
    rfl
  · rw [if_neg h, if_neg (fun e => h (key.1 e))]
theorem fold_sh (b : Int) (ss : List Sm) (least f : Nat) : ∀ (cs : List Int) (st : Bs), cs.foldl (stepB (ss.map (shS b)) least f) (shB b ss st) = shB b ss (cs.foldl (stepB ss least f) st) := by
  intro cs
  induction cs with
  | nil => intro st; rfl
  | cons c r ih => intro st; rw [List.foldl_cons, List.foldl_cons, stepB_sh, ih]
theorem startB_sh (b : Int) (ss : List Sm) : startB (ss.map (shS b)) = shB b ss (startB ss) := by
  unfold startB shB moreK
  rw [sumM_sh, List.length_map]
  dsimp only
  congr 1
  generalize sumM ss = x
  generalize (ss.length : Int) = n
  grind
theorem bestB_sh (b : Int) (ss : List Sm) (n least : Nat) : bestB (ss.map (shS b)) n least = shB b ss (bestB ss n least) := by
  unfold bestB
  rw [startB_sh]
  generalize startB ss = st
  generalize List.range n = fs
  induction fs generalizing st with
  | nil => rfl
  | cons f r ih =>
    rw [List.foldl_cons, List.foldl_cons]
    unfold bestF
    rw [cutsF_sh, fold_sh]
    exact ih _
theorem leafG_sh {b : Int} {ss : List Sm} (h : 0 < ss.length) : leafG (ss.map (shS b)) = ⟨(leafG ss).f, (leafG ss).c, (leafG ss).l, (leafG ss).r, (leafG ss).less, (leafG ss).v + b⟩ := by
  unfold leafG
  rw [sumM_sh, List.length_map, Int.add_mul_ediv_right _ _ (by omega)]
theorem growK_sh {b : Int} {n least : Nat} (hl : 1 ≤ least) : ∀ (d : Nat) (ss : List Sm), SRight ss n → growK n least d (ss.map (shS b)) = shK b (growK n least d ss) := by
  intro d
  induction d with
  | zero => intro ss hs; simp only [growK, shK]; rw [leafG_sh hs.pos]
  | succ d ih =>
    intro ss hs
    have hB := bestB_ok hs hl
    have e1 : (shB b ss (bestB ss n least)).f = (bestB ss n least).f := rfl
    have e2 : (shB b ss (bestB ss n least)).c = (bestB ss n least).c := rfl
    simp only [growK, bestB_sh, e1, e2, lowS_sh, highS_sh, List.length_map]
    by_cases h : (bestB ss n least).f < 0
    · rw [if_pos h, if_pos h, leafG_sh hs.pos]
      rfl
    · rw [if_neg h, if_neg h]
      obtain ⟨_, _, _, _, _, _, _, _, hz⟩ := hB
      rcases hz with hz | ⟨h1, h2⟩
      · exact absurd hz h
      simp only [shK]
      rw [ih _ (hs.low (by omega)), ih _ (hs.high (by omega))]
theorem shK_size (b : Int) (k : Kt) : (shK b k).size = k.size := by
  induction k with
  | leaf x => rfl
  | node x l r il ir => simp only [shK, Kt.size, il, ir]
theorem layK_sh (b : Int) : ∀ (k : Kt) (n : Nat), k.Ok → layK n (shK b k) = (layK n k).map (shN b) := by
  intro k
  induction k with
  | leaf x =>
    intro n hk
    have := hk.2 x (by simp [Kt.leaves])
    simp only [shK, layK, List.map_cons, List.map_nil, shN, if_pos this]
  | node x l r il ir =>
    intro n hk
    have := hk.1 x (by simp [Kt.asks])
    simp only [shK, layK, List.map_cons, List.map_append, shK_size, il _ hk.left, ir _ hk.right]
    rw [show shN b ⟨x.f, x.c, ((n + 1 : Nat) : Int), ((n + 1 + l.size : Nat) : Int), x.less, x.v⟩ = ⟨x.f, x.c, ((n + 1 : Nat) : Int), ((n + 1 + l.size : Nat) : Int), x.less, x.v⟩ by unfold shN; rw [if_neg this]]
theorem growK_ok (n least : Nat) : ∀ (d : Nat) (ss : List Sm), (growK n least d ss).Ok := by
  intro d
  induction d with
  | zero => intro ss; exact ⟨fun y hy => by simp [growK, Kt.asks] at hy, fun y hy => by simp [growK, Kt.leaves] at hy; subst hy; rfl⟩
  | succ d ih =>
    intro ss
    simp only [growK]
    split
    · exact ⟨fun y hy => by simp [Kt.asks] at hy, fun y hy => by simp [Kt.leaves] at hy; subst hy; rfl⟩
    · refine ⟨fun y hy => ?_, fun y hy => ?_⟩
      · simp only [Kt.asks, List.mem_cons, List.mem_append] at hy
        rcases hy with rfl | hy | hy
        · dsimp only; omega
        · exact (ih _).1 y hy
        · exact (ih _).1 y hy
      · simp only [Kt.leaves, List.mem_append] at hy
        rcases hy with hy | hy
        · exact (ih _).2 y hy
        · exact (ih _).2 y hy
theorem growK_size (n least : Nat) : ∀ (d : Nat) (ss : List Sm), (growK n least d ss).size < 2 ^ (d + 1) := by
  intro d
  induction d with
  | zero => intro ss; simp [growK, Kt.size]
  | succ d ih =>
    intro ss
    have hp : (2 : Nat) ^ (d + 1 + 1) = 2 ^ (d + 1) + 2 ^ (d + 1) := by rw [Nat.pow_succ]; omega
    simp only [growK]
    split
    · have := Nat.one_le_two_pow (n := d + 1)
      simp only [Kt.size]; omega
    · have h1 := ih (lowS (bestB ss n least).f.toNat (bestB ss n least).c ss)
      have h2 := ih (highS (bestB ss n least).f.toNat (bestB ss n least).c ss)
      simp only [Kt.size]
      omega
end Go.Proofs.YtdpijhnbhopnbaaGreatDoor
/- Package grow in plain words: two samples, a tree of them; what is told of samples with all targets a little more. Conditions: none. -/
namespace Go.Proofs.YtdpijhnbhopnbaaGreatDoor
set_option linter.unusedVariables false
set_option linter.unusedSimpArgs false
open Go.RowKit

theorem sort_two {a b : Int} (h : a ≤ b) : sortL [a, b] = [a, b] := (sortL_of (List.Perm.refl _) (by simp [h])).symm
theorem compact_two : compactL [1, 2] = [1, 2] := by decide
theorem two_fit (A B : Option Addr) (c d : Nat) : fitE [⟨A, 1, c, [1], 5⟩, ⟨B, 1, d, [2], 9⟩] 1 1 1 = 0 ∧ fitT [⟨A, 1, c, [1], 5⟩, ⟨B, 1, d, [2], 9⟩] 1 1 1 = [⟨0, 2, 1, 2, false, 0⟩, ⟨-1, 0, 0, 0, false, 5⟩, ⟨-1, 0, 0, 0, false, 9⟩] := by
  have hE : fitE [⟨A, 1, c, [1], 5⟩, ⟨B, 1, d, [2], 9⟩] 1 1 1 = 0 := by kernel_rfl
  refine ⟨hE, ?_⟩
  unfold fitT
  rw [if_pos hE]
  have hc : cutsF [⟨A, 1, c, [1], 5⟩, ⟨B, 1, d, [2], 9⟩] 0 = [2] := by
    unfold cutsF
    rw [show [(⟨A, 1, c, [1], 5⟩ : Sm), ⟨B, 1, d, [2], 9⟩].map (cellS 0) = [1, 2] from rfl, sort_two (by omega), compact_two]
    rfl
  have hb : bestB [⟨A, 1, c, [1], 5⟩, ⟨B, 1, d, [2], 9⟩] 1 1 = ⟨0, 2, 106, 1⟩ := by
    show bestF _ 1 (startB _) 0 = _
    unfold bestF
    rw [hc]
    kernel_rfl
  show layK 0 (growK 1 1 1 _) = _
  simp only [growK]
  rw [hb]
  kernel_rfl

theorem leaf_v {ss : List Sm} {n : Nat} (hs : SRight ss n) : -1000 ≤ (leafG ss).v ∧ (leafG ss).v ≤ 1000 := by
  have h := sumM_le hs.tlo hs.thi
  have hp := hs.pos
  unfold leafG
  dsimp only
  have h0 : (0 : Int) < (ss.length : Int) := by omega
  constructor
  · rw [Int.le_ediv_iff_mul_le h0]; omega
  · have := (Int.ediv_le_iff_le_mul h0 (x := sumM ss) (y := 1000)).2 (by omega)
    exact this
theorem growK_v {n least : Nat} (hl : 1 ≤ least) : ∀ (d : Nat) (ss : List Sm) (k : Nat), SRight ss n → ∀ y ∈ layK k (growK n least d ss), -1000 ≤ y.v ∧ y.v ≤ 1000 := by
  intro d
  induction d with
  | zero =>
    intro ss k hs y hy
    simp only [growK, layK, List.mem_singleton] at hy
    subst hy
    exact leaf_v hs
  | succ d ih =>
    intro ss k hs y hy
    have hB := bestB_ok hs hl
    simp only [growK] at hy
    by_cases h : (bestB ss n least).f < 0
    · rw [if_pos h] at hy
      simp only [layK, List.mem_singleton] at hy
      subst hy
      exact leaf_v hs
    · rw [if_neg h] at hy
      obtain ⟨_, _, _, _, _, _, _, _, hz⟩ := hB
      rcases hz with hz | ⟨h1, h2⟩
      · exact absurd hz h
      simp only [layK, List.mem_cons, List.mem_append] at hy
      rcases hy with rfl | hy | hy
      · exact ⟨by dsimp only; omega, by dsimp only; omega⟩
      · exact ih _ _ (hs.low (by omega)) y hy
      · exact ih _ _ (hs.high (by omega)) y hy
theorem fit_parts {ss : List Sm} {fe depth least : Int} (h : fitE ss fe depth least = 0) : ∃ n : Nat, fe = n ∧ SRight ss n ∧ 1 ≤ least.toNat ∧ fitT ss fe depth least = layK 0 (growK n least.toNat depth.toNat ss) := by
  have h' := h
  unfold fitE at h
  by_cases h0 : sampE ss fe = 0
  · rw [if_pos h0] at h
    by_cases h1 : depth < 0 ∨ 5 < depth ∨ least < 1 ∨ 60 < least
    · rw [if_pos h1] at h; cases h
    · obtain ⟨n, hn, hs⟩ := samp_right h0
      refine ⟨n, hn, hs, by omega, ?_⟩
      unfold fitT
      rw [if_pos h', hn]
      rfl
  · rw [if_neg h0] at h; exact absurd h h0
theorem fit_v {ss : List Sm} {fe depth least : Int} (h : fitE ss fe depth least = 0) : ∀ y ∈ fitT ss fe depth least, -1000 ≤ y.v ∧ y.v ≤ 1000 := by
  obtain ⟨n, hn, hs, hl, e⟩ := fit_parts h
  rw [e]
  exact growK_v hl _ _ _ hs
theorem fit_len {ss : List Sm} {fe depth least : Int} (h : fitE ss fe depth least = 0) : (fitT ss fe depth least).length ≤ 1000000 := by
  obtain ⟨n, hn, hs, hl, e⟩ := fit_parts h
  have h' := h
  unfold fitE at h
  rw [e, layK_len]
  have := growK_size n least.toNat depth.toNat ss
  have hd : depth.toNat ≤ 5 := by
    by_cases h0 : sampE ss fe = 0
    · rw [if_pos h0] at h
      by_cases h1 : depth < 0 ∨ 5 < depth ∨ least < 1 ∨ 60 < least
      · rw [if_pos h1] at h; cases h
      · omega
    · rw [if_neg h0] at h; exact absurd h h0
  have hp : 2 ^ (depth.toNat + 1) ≤ 2 ^ 6 := Nat.pow_le_pow_right (by omega) (by omega)
  omega
theorem fitT_sh {ss : List Sm} {fe depth least b : Int} (h : fitE ss fe depth least = 0) (h2 : fitE (ss.map (shS b)) fe depth least = 0) : fitT (ss.map (shS b)) fe depth least = (fitT ss fe depth least).map (shN b) := by
  obtain ⟨n, hn, hs, hl, e⟩ := fit_parts h
  obtain ⟨n', hn', hs', _, e'⟩ := fit_parts h2
  obtain rfl : n = n' := by omega
  rw [e, e', growK_sh hl _ _ hs, layK_sh b _ _ (growK_ok _ _ _ _)]
theorem fitE_samp {ss m : List Sm} {fe depth least : Int} (h : fitE ss fe depth least = 0) (h2 : fitE m fe depth least ≠ 0) : sampE m fe ≠ 0 := by
  intro e
  unfold fitE at h h2
  rw [if_pos e] at h2
  by_cases h0 : sampE ss fe = 0
  · rw [if_pos h0] at h; exact h2 h
  · rw [if_neg h0] at h; exact absurd h h0
theorem shS_next {b : Int} {ss : List Sm} {k : Nat} {s : Sm} (h : ss[k]? = some s) : (ss.take (k + 1)).map (shS b) = (ss.take k).map (shS b) ++ [shS b s] := by rw [take_next h, List.map_append]; rfl
end Go.Proofs.YtdpijhnbhopnbaaGreatDoor
