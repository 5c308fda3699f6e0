/- Part 16 of what LawWeighNeeds needs: GrowP, App, GrowS. Conditions: as each lemma names. -/
import Derived.Test.YtopncifebldklaaPkWeighNeeds15
import Derived.Test.YtopncifebldklaaPkWeighNeeds06
import Derived.Test.YtopncifebldklaaPkWeighNeeds01
import Derived.Deep.CutRange
/- Package grow in plain words: samples, what a question puts right, which tree is grown, all targets a little more. Conditions: none. -/
namespace Go.Proofs.Ytopncifebldklaa
set_option linter.unusedVariables false
set_option linter.unusedSimpArgs false
open Go.RowKit

/-- a sample as a value, with what its row reads as -/
structure Sm where
  A : Option Addr
  n : Nat
  c : Nat
  r : List Int
  t : Int
instance : Inhabited Sm := ⟨⟨none, 0, 0, [], 0⟩⟩
def Sm.cells (s : Sm) : List Value := [.slice s.A s.n s.c, .int .i64 s.t]
structure SmOk (w : World) (B : Nat) (s : Sm) : Prop where
  reads : IReads w B s.A s.n s.r
  len : s.n ≤ maxLen
def MReads (w : World) (B : Nat) (A : Option Addr) (n : Nat) (ss : List Sm) : Prop := Reads w B 2 A n (ss.flatMap Sm.cells) ∧ ∀ s ∈ ss, SmOk w B s
section
variable {w w' : World} {B B' n : Nat} {A : Option Addr} {ss : List Sm}
theorem SmOk.below {s : Sm} (h : SmOk w B s) (hb : Below B w w') : SmOk w' B s := ⟨h.reads.below hb, h.len⟩
theorem SmOk.more {s : Sm} (h : SmOk w B s) (hB : B ≤ B') : SmOk w B' s := ⟨h.reads.more hB, h.len⟩
theorem MReads.below (h : MReads w B A n ss) (hb : Below B w w') : MReads w' B A n ss := ⟨h.1.below hb, fun s hs => (h.2 s hs).below hb⟩
theorem MReads.more (h : MReads w B A n ss) (hB : B ≤ B') : MReads w B' A n ss := ⟨h.1.more hB, fun s hs => (h.2 s hs).more hB⟩
theorem MReads.len (h : MReads w B A n ss) : ss.length = n := by
  have := h.1.1
  rw [flatMap_len Sm.cells 2 (fun _ => rfl)] at this
  omega
theorem MReads.get (h : MReads w B A n ss) {k : Nat} (hk : k < n) :
    ∃ b off s, A = some ⟨b, off, none⟩ ∧ b < B ∧ ss[k]? = some s ∧ w.cell? ⟨b, off + k * 2, none⟩ = some (.slice s.A s.n s.c) ∧ w.cell? ⟨b, off + k * 2 + 1, none⟩ = some (.int .i64 s.t) ∧ SmOk w B s := by
  obtain ⟨b, off, rfl, hb, hc⟩ := Reads.spot h.1 (by omega) (by omega)
  have hl : k < ss.length := by rw [h.len]; exact hk
  have hs : ss[k]? = some ss[k] := List.getElem?_eq_getElem hl
  have F := fun j hj => flatMap_at Sm.cells 2 (fun _ => rfl) ss k j ss[k] hs hj
  exact ⟨b, off, ss[k], rfl, hb, hs, hc (k * 2 + 0) _ (F 0 (by omega)), hc (k * 2 + 1) _ (F 1 (by omega)), h.2 _ (List.mem_of_getElem? hs)⟩
end

/-- what is wrong with one sample -/
def oneE (fe : Int) (s : Sm) : Int :=
  if rowE s.r = 0 then (if s.t < -1000 then 1 else if 1000 < s.t then 1 else if (s.r.length : Int) = fe then (if nilC ∈ s.r then 5 else 0) else 3) else rowE s.r
def badS (fe : Int) : Nat → List Sm → Nat × Int
  | _, [] => (0, 0)
  | i, s :: r => if oneE fe s = 0 then badS fe (i + 1) r else (i, oneE fe s)
def sampC (ss : List Sm) (fe : Int) : Nat × Int :=
  if 60 < ss.length then (0, 4) else if ss.length = 0 then (0, 5) else if fe < 0 then (0, 1) else if 8 < fe then (0, 1) else badS fe 0 ss
def sampE (ss : List Sm) (fe : Int) : Int := (sampC ss fe).2
theorem badS_drop {fe : Int} {ss : List Sm} {k : Nat} {s : Sm} (h : ss[k]? = some s) : badS fe k (ss.drop k) = if oneE fe s = 0 then badS fe (k + 1) (ss.drop (k + 1)) else (k, oneE fe s) := by
  rw [drop_at h, badS]
/-- samples that are right -/
structure SRight (ss : List Sm) (n : Nat) : Prop where
  pos : 0 < ss.length
  most : ss.length ≤ 60
  fe8 : n ≤ 8
  tlo : ∀ s ∈ ss, -1000 ≤ s.t
  thi : ∀ s ∈ ss, s.t ≤ 1000
  len : ∀ s ∈ ss, s.r.length = n
  cell : ∀ s ∈ ss, ∀ x ∈ s.r, -1000000 ≤ x ∧ x ≤ 1000000
theorem badS_0 {fe : Int} : ∀ (ss : List Sm) (i : Nat), (badS fe i ss).2 = 0 → ∀ s ∈ ss, oneE fe s = 0 := by
  intro ss
  induction ss with
  | nil => intro i _ s hs; cases hs
  | cons x r ih =>
    intro i h s hs
    rw [badS] at h
    by_cases h0 : oneE fe x = 0
    · rw [if_pos h0] at h
      rcases List.mem_cons.1 hs with rfl | hs
      · exact h0
      · exact ih _ h s hs
    · rw [if_neg h0] at h; exact absurd h h0
theorem badS_of {fe : Int} : ∀ (ss : List Sm) (i : Nat), (∀ s ∈ ss, oneE fe s = 0) → badS fe i ss = (0, 0) := by
  intro ss
  induction ss with
  | nil => intro i _; rfl
  | cons x r ih =>
    intro i h
    rw [badS, if_pos (h x (List.mem_cons_self ..))]
    exact ih _ fun s hs => h s (List.mem_cons_of_mem _ hs)
theorem oneE_0 {fe : Int} {s : Sm} (h : oneE fe s = 0) : rowE s.r = 0 ∧ -1000 ≤ s.t ∧ s.t ≤ 1000 ∧ (s.r.length : Int) = fe ∧ nilC ∉ s.r := by
  unfold oneE at h
  by_cases h0 : rowE s.r = 0
  · rw [if_pos h0] at h
    by_cases h1 : s.t < -1000
    · rw [if_pos h1] at h; cases h
    rw [if_neg h1] at h
    by_cases h2 : 1000 < s.t
    · rw [if_pos h2] at h; cases h
    rw [if_neg h2] at h
    by_cases h3 : (s.r.length : Int) = fe
    · rw [if_pos h3] at h
      by_cases h4 : nilC ∈ s.r
      · rw [if_pos h4] at h; cases h
      · exact ⟨h0, by omega, by omega, h3, h4⟩
    · rw [if_neg h3] at h; cases h
  · rw [if_neg h0] at h; exact absurd h h0
theorem oneE_of {fe : Int} {s : Sm} (h0 : rowE s.r = 0) (h1 : -1000 ≤ s.t) (h2 : s.t ≤ 1000) (h3 : (s.r.length : Int) = fe) (h4 : nilC ∉ s.r) : oneE fe s = 0 := by
  unfold oneE
  rw [if_pos h0, if_neg (by omega), if_neg (by omega), if_pos h3, if_neg h4]
theorem samp_right {ss : List Sm} {fe : Int} (h : sampE ss fe = 0) : ∃ n : Nat, fe = n ∧ SRight ss n := by
  unfold sampE sampC at h
  by_cases h1 : 60 < ss.length
  · rw [if_pos h1] at h; cases h
  rw [if_neg h1] at h
  by_cases h2 : ss.length = 0
  · rw [if_pos h2] at h; cases h
  rw [if_neg h2] at h
  by_cases h3 : fe < 0
  · rw [if_pos h3] at h; cases h
  rw [if_neg h3] at h
  by_cases h4 : 8 < fe
  · rw [if_pos h4] at h; cases h
  rw [if_neg h4] at h
  have hb := badS_0 ss 0 h
  obtain ⟨n, rfl⟩ : ∃ n : Nat, fe = n := ⟨fe.toNat, by omega⟩
  refine ⟨n, rfl, by omega, by omega, by omega, fun s hs => (oneE_0 (hb s hs)).2.1, fun s hs => (oneE_0 (hb s hs)).2.2.1, fun s hs => by have := (oneE_0 (hb s hs)).2.2.2.1; omega, fun s hs x hx => ?_⟩
  obtain ⟨a, _, _, _, b⟩ := oneE_0 (hb s hs)
  rcases row_cellsP a x hx with h | h
  · exact absurd (by rw [h] at hx; exact hx) b
  · exact h

/-! ### what a question puts right -/
def sumM : List Sm → Int
  | [] => 0
  | s :: r => s.t + sumM r
theorem sumM_app (a b : List Sm) : sumM (a ++ b) = sumM a + sumM b := by
  induction a with
  | nil => simp [sumM]
  | cons s r ih => simp only [List.cons_append, sumM, ih]; omega
theorem sumM_next {ss : List Sm} {k : Nat} {s : Sm} (h : ss[k]? = some s) : sumM (ss.take (k + 1)) = sumM (ss.take k) + s.t := by
  rw [take_next h, sumM_app]; simp [sumM]
theorem sumM_le {ss : List Sm} (h1 : ∀ s ∈ ss, -1000 ≤ s.t) (h2 : ∀ s ∈ ss, s.t ≤ 1000) : -1000 * (ss.length : Int) ≤ sumM ss ∧ sumM ss ≤ 1000 * (ss.length : Int) := by
  induction ss with
  | nil => simp [sumM]
  | cons s r ih =>
    have a := h1 s (List.mem_cons_self ..)
    have b := h2 s (List.mem_cons_self ..)
    obtain ⟨c, d⟩ := ih (fun x hx => h1 x (List.mem_cons_of_mem _ hx)) (fun x hx => h2 x (List.mem_cons_of_mem _ hx))
    simp only [sumM, List.length_cons]
    omega
def cellS (f : Nat) (s : Sm) : Int := s.r.getD f 0
def lowB (f : Nat) (c : Int) (s : Sm) : Bool := decide (cellS f s < c)
def lowS (f : Nat) (c : Int) (ss : List Sm) : List Sm := ss.filter (lowB f c)
def highS (f : Nat) (c : Int) (ss : List Sm) : List Sm := ss.filter fun s => !lowB f c s
theorem parts_len (f : Nat) (c : Int) (ss : List Sm) : (lowS f c ss).length + (highS f c ss).length = ss.length := by
  induction ss with
  | nil => rfl
  | cons s r ih =>
    unfold lowS highS at ih ⊢
    cases h : lowB f c s <;> simp [List.filter_cons, h] <;> omega
theorem parts_sum (f : Nat) (c : Int) (ss : List Sm) : sumM (lowS f c ss) + sumM (highS f c ss) = sumM ss := by
  induction ss with
  | nil => rfl
  | cons s r ih =>
    unfold lowS highS at ih ⊢
    cases h : lowB f c s <;> simp [List.filter_cons, h, sumM] <;> omega
theorem lowS_next {f : Nat} {c : Int} {ss : List Sm} {k : Nat} {s : Sm} (h : ss[k]? = some s) : lowS f c (ss.take (k + 1)) = lowS f c (ss.take k) ++ if cellS f s < c then [s] else [] := by
  unfold lowS
  rw [take_next h, List.filter_append]
  congr 1
  unfold lowB
  by_cases hu : cellS f s < c <;> simp [hu]
theorem highS_next {f : Nat} {c : Int} {ss : List Sm} {k : Nat} {s : Sm} (h : ss[k]? = some s) : highS f c (ss.take (k + 1)) = highS f c (ss.take k) ++ if cellS f s < c then [] else [s] := by
  unfold highS
  rw [take_next h, List.filter_append]
  congr 1
  unfold lowB
  by_cases hu : cellS f s < c <;> simp [hu]
theorem lowS_mem {f : Nat} {c : Int} {ss : List Sm} {s : Sm} (h : s ∈ lowS f c ss) : s ∈ ss ∧ cellS f s < c := by
  unfold lowS lowB at h
  simpa using h
theorem highS_mem {f : Nat} {c : Int} {ss : List Sm} {s : Sm} (h : s ∈ highS f c ss) : s ∈ ss ∧ c ≤ cellS f s := by
  unfold highS lowB at h
  simpa using h
/-- the best question so far -/
structure Bs where
  f : Int
  c : Int
  up : Int
  dn : Int
def upOf (a b : List Sm) : Int := sumM a * sumM a * (b.length : Int) + sumM b * sumM b * (a.length : Int)
def dnOf (a b : List Sm) : Int := (a.length : Int) * (b.length : Int)
def tryB (least f : Nat) (c : Int) (a b : List Sm) (st : Bs) : Bs :=
  if a.length < least then st else if b.length < least then st else if st.up * dnOf a b < upOf a b * st.dn then ⟨f, c, upOf a b, dnOf a b⟩ else st
def stepB (ss : List Sm) (least f : Nat) (st : Bs) (c : Int) : Bs := tryB least f c (lowS f c ss) (highS f c ss) st
def cutsF (ss : List Sm) (f : Nat) : List Int := (compactL (sortL (ss.map (cellS f)))).drop 1
def bestF (ss : List Sm) (least : Nat) (st : Bs) (f : Nat) : Bs := (cutsF ss f).foldl (stepB ss least f) st
def startB (ss : List Sm) : Bs := ⟨-1, 0, sumM ss * sumM ss, ss.length⟩
def bestB (ss : List Sm) (n least : Nat) : Bs := (List.range n).foldl (bestF ss least) (startB ss)
theorem bestF_next {ss : List Sm} {least f k : Nat} {c : Int} {st : Bs} (h : (cutsF ss f)[k]? = some c) : ((cutsF ss f).take (k + 1)).foldl (stepB ss least f) st = stepB ss least f (((cutsF ss f).take k).foldl (stepB ss least f) st) c := by
  rw [take_next h, List.foldl_append]; rfl
theorem bestB_next (ss : List Sm) (least k : Nat) (st : Bs) : (List.range (k + 1)).foldl (bestF ss least) st = bestF ss least ((List.range k).foldl (bestF ss least) st) k := by
  rw [List.range_succ, List.foldl_append]; rfl

/-! ### the tree -/
def leafG (ss : List Sm) : Nd := ⟨-1, 0, 0, 0, false, sumM ss / (ss.length : Int)⟩
def growK (n least : Nat) : Nat → List Sm → Kt
  | 0, ss => .leaf (leafG ss)
  | d + 1, ss =>
    if (bestB ss n least).f < 0 then .leaf (leafG ss)
    else .node ⟨(bestB ss n least).f, (bestB ss n least).c, 0, 0, decide ((highS (bestB ss n least).f.toNat (bestB ss n least).c ss).length < (lowS (bestB ss n least).f.toNat (bestB ss n least).c ss).length), 0⟩
      (growK n least d (lowS (bestB ss n least).f.toNat (bestB ss n least).c ss)) (growK n least d (highS (bestB ss n least).f.toNat (bestB ss n least).c ss))
def fitE (ss : List Sm) (fe depth least : Int) : Int :=
  if sampE ss fe = 0 then (if depth < 0 ∨ 5 < depth ∨ least < 1 ∨ 60 < least then 1 else 0) else sampE ss fe
def fitT (ss : List Sm) (fe depth least : Int) : List Nd := if fitE ss fe depth least = 0 then layK 0 (growK fe.toNat least.toNat depth.toNat ss) else []

/-- what the best question is: one of a feature, with both sides as many as must be; or none -/
def BsOk (ss : List Sm) (n least : Nat) (b : Bs) : Prop :=
  0 < b.dn ∧ b.dn ≤ 900 ∧ 0 ≤ b.up ∧ b.up ≤ 1000000000000 ∧ -1 ≤ b.f ∧ b.f < n ∧ -1000000 ≤ b.c ∧ b.c ≤ 1000000 ∧
    (b.f < 0 ∨ (least ≤ (lowS b.f.toNat b.c ss).length ∧ least ≤ (highS b.f.toNat b.c ss).length))
theorem sq_le {a m : Int} (h1 : -m ≤ a) (h2 : a ≤ m) : 0 ≤ a * a ∧ a * a ≤ m * m := by
  have hm : 0 ≤ m := by omega
  constructor
  · rcases Int.le_total 0 a with h | h
    · exact Int.mul_nonneg h h
    · exact Int.mul_nonneg_of_nonpos_of_nonpos h h
  · rcases Int.le_total 0 a with h | h
    · exact Int.mul_le_mul h2 h2 h hm
    · have := Int.mul_le_mul (a := -a) (b := -a) (c := m) (d := m) (by omega) (by omega) (by omega) hm
      rwa [Int.neg_mul_neg] at this
theorem sum_60 {ss : List Sm} (h : ss.length ≤ 60) (h1 : ∀ s ∈ ss, -1000 ≤ s.t) (h2 : ∀ s ∈ ss, s.t ≤ 1000) : -60000 ≤ sumM ss ∧ sumM ss ≤ 60000 := by
  have := sumM_le h1 h2
  omega
theorem prod_900 {a b : Nat} (h : a + b ≤ 60) : (a : Int) * b ≤ 900 := by
  have h1 : (a : Int) + b ≤ 60 := by omega
  have : (a : Int) * b * 4 = (a + b) * (a + b) - (a - b) * (a - b) := by grind
  have h3 := (sq_le (a := (a : Int) + b) (m := 60) (by omega) h1).2
  have h4 : 0 ≤ ((a : Int) - b) * (a - b) := by
    rcases Int.le_total 0 ((a : Int) - b) with h | h
    · exact Int.mul_nonneg h h
    · exact Int.mul_nonneg_of_nonpos_of_nonpos h h
  omega
theorem BsOk.start {ss : List Sm} {n least : Nat} (hs : SRight ss n) : BsOk ss n least (startB ss) := by
  have h := sum_60 hs.most hs.tlo hs.thi
  have hp := hs.pos
  have hm := hs.most
  have h2 := sq_le (a := sumM ss) (m := 60000) (by omega) (by omega)
  unfold startB
  exact ⟨by simp; omega, by simp; omega, by simp; omega, by simp; omega, by simp, by simp; omega, by simp, by simp, .inl (by simp)⟩
theorem upOf_le {a b : List Sm} (h : a.length + b.length ≤ 60) (ha1 : ∀ s ∈ a, -1000 ≤ s.t) (ha2 : ∀ s ∈ a, s.t ≤ 1000) (hb1 : ∀ s ∈ b, -1000 ≤ s.t) (hb2 : ∀ s ∈ b, s.t ≤ 1000) :
    0 ≤ upOf a b ∧ upOf a b ≤ 1000000000000 := by
  have h1 := sum_60 (by omega) ha1 ha2
  have h2 := sum_60 (by omega) hb1 hb2
  have h3 := sq_le (a := sumM a) (m := 60000) (by omega) (by omega)
  have h4 := sq_le (a := sumM b) (m := 60000) (by omega) (by omega)
  have g1 := Int.mul_nonneg h3.1 (show (0 : Int) ≤ (b.length : Int) by omega)
  have g2 := Int.mul_nonneg h4.1 (show (0 : Int) ≤ (a.length : Int) by omega)
  have g3 := Int.mul_le_mul h3.2 (show (b.length : Int) ≤ 60 by omega) (by omega) (by omega)
  have g4 := Int.mul_le_mul h4.2 (show (a.length : Int) ≤ 60 by omega) (by omega) (by omega)
  unfold upOf
  omega
theorem BsOk.try_ {ss : List Sm} {n least f : Nat} {c : Int} {b : Bs} (hs : SRight ss n) (h : BsOk ss n least b) (hf : f < n) (hc : -1000000 ≤ c ∧ c ≤ 1000000) (hl : 1 ≤ least) : BsOk ss n least (stepB ss least f b c) := by
  unfold stepB tryB
  split
  · exact h
  split
  · exact h
  split
  · have hp := parts_len f c ss
    have hm := hs.most
    have hu := upOf_le (a := lowS f c ss) (b := highS f c ss) (by omega) (fun s h => hs.tlo s (lowS_mem h).1) (fun s h => hs.thi s (lowS_mem h).1) (fun s h => hs.tlo s (highS_mem h).1) (fun s h => hs.thi s (highS_mem h).1)
    refine ⟨?_, prod_900 (by omega), hu.1, hu.2, by show (-1 : Int) ≤ (f : Int); omega, by show (f : Int) < n; omega, hc.1, hc.2, .inr ?_⟩
    · show 0 < dnOf _ _
      exact Int.mul_pos (by omega) (by omega)
    · dsimp only
      rw [Int.toNat_natCast]
      exact ⟨by omega, by omega⟩
  · exact h
theorem cutsF_mem {ss : List Sm} {n f : Nat} (hs : SRight ss n) (hf : f < n) {c : Int} (h : c ∈ cutsF ss f) : -1000000 ≤ c ∧ c ≤ 1000000 := by
  have h1 := List.mem_of_mem_drop h
  rw [(compactL_sorted (sortL_sorted _)).2, (sortL_perm _).mem_iff] at h1
  obtain ⟨s, hm, rfl⟩ := List.mem_map.1 h1
  have hl := hs.len s hm
  refine hs.cell s hm _ ?_
  unfold cellS
  rw [List.getD_eq_getElem?_getD, List.getElem?_eq_getElem (by omega)]
  exact List.getElem_mem _
theorem BsOk.fold {ss : List Sm} {n least f : Nat} (hs : SRight ss n) (hf : f < n) (hl : 1 ≤ least) : ∀ (cs : List Int) (b : Bs), (∀ c ∈ cs, -1000000 ≤ c ∧ c ≤ 1000000) → BsOk ss n least b → BsOk ss n least (cs.foldl (stepB ss least f) b) := by
  intro cs
  induction cs with
  | nil => intro b _ h; exact h
  | cons c r ih => intro b hc h; exact ih _ (fun x hx => hc x (List.mem_cons_of_mem _ hx)) (h.try_ hs hf (hc c (List.mem_cons_self ..)) hl)
theorem BsOk.part {ss : List Sm} {n least f k : Nat} {b : Bs} (hs : SRight ss n) (hf : f < n) (hl : 1 ≤ least) (h : BsOk ss n least b) : BsOk ss n least (((cutsF ss f).take k).foldl (stepB ss least f) b) :=
  h.fold hs hf hl _ _ fun c hc => cutsF_mem hs hf (List.mem_of_mem_take hc)
theorem BsOk.range {ss : List Sm} {n least : Nat} (hs : SRight ss n) (hl : 1 ≤ least) : ∀ k, k ≤ n → BsOk ss n least ((List.range k).foldl (bestF ss least) (startB ss)) := by
  intro k
  induction k with
  | zero => intro _; exact BsOk.start hs
  | succ k ih =>
    intro hk
    rw [bestB_next]
    exact (ih (by omega)).fold hs (by omega) hl _ _ fun c hc => cutsF_mem hs (by omega) hc
theorem bestB_ok {ss : List Sm} {n least : Nat} (hs : SRight ss n) (hl : 1 ≤ least) : BsOk ss n least (bestB ss n least) := BsOk.range hs hl n (Nat.le_refl _)
theorem SRight.low {ss : List Sm} {n f : Nat} {c : Int} (hs : SRight ss n) (h : 0 < (lowS f c ss).length) : SRight (lowS f c ss) n :=
  ⟨h, Nat.le_trans (List.length_filter_le _ _) hs.most, hs.fe8, fun s h => hs.tlo s (lowS_mem h).1, fun s h => hs.thi s (lowS_mem h).1, fun s h => hs.len s (lowS_mem h).1, fun s h => hs.cell s (lowS_mem h).1⟩
theorem SRight.high {ss : List Sm} {n f : Nat} {c : Int} (hs : SRight ss n) (h : 0 < (highS f c ss).length) : SRight (highS f c ss) n :=
  ⟨h, Nat.le_trans (List.length_filter_le _ _) hs.most, hs.fe8, fun s h => hs.tlo s (highS_mem h).1, fun s h => hs.thi s (highS_mem h).1, fun s h => hs.len s (highS_mem h).1, fun s h => hs.cell s (highS_mem h).1⟩
end Go.Proofs.Ytopncifebldklaa
/- Appending one element where another row of the call's own lies beside. Conditions: as each lemma names. -/
namespace Go.Proofs.Ytopncifebldklaa
set_option linter.unusedVariables false
set_option linter.unusedSimpArgs false
open Go.RowKit

theorem app_one2 {P : Program} {T E : TypeId} {z : Value} {size bytes : Nat} (hE : Elem P T E z size bytes) {ops : Array Oper} {rest : List Oper} {o : Oper} {a : Act} {Q : Exit → Act → World → Prop} {wr : World}
    (s x : Operand) (cs : List Value) (hgd : o.guard = none) (ho : o.op = .call { callee := .builtin .append, args := #[s, x], argTypes := #[T, T] })
    {base : Nat} {v : Value} {n : Nat} {xs : List Value} (hs : a.eval s = v) (hown : wr.ownsRow base E size v n xs) {g : Nat} (hx : a.eval x = .slice (some ⟨g, 0, none⟩) 1 1) (hgs : wr.heap.size = g)
    (hcs : cs.length = size) (h1 : ∀ u ∈ cs, u.oneCell' = true) (hn : n < 1000000000) (hbase : base ≤ wr.heap.size)
    (h : ∀ v' w', w'.ownsRow base E size v' (n + 1) (xs ++ cs) → Below base wr w' → wr.grownBy w' v.ownBlock → (v'.ownBlock = v.ownBlock ∨ v'.ownBlock = some (wr.heap.size + 1)) → wpList P ops Q rest (a.put o.dst v') w') : wpList P ops Q (o :: rest) a (wr.alloc (.cells cs.toArray E)) := by
  subst hgs
  obtain ⟨i, hi, hz, hsz, hby⟩ := info_parts hE.info
  have hw := hE.wide
  refine wpList_append_any _ hgd s x T ho base E i z size bytes hE.und hi hz hsz hby hE.zs hE.pos v n xs hs (hown.alloc _) (wr.heap.size + 1) (some ⟨wr.heap.size, 0, none⟩) 1 1 cs hx (Reads.new_ wr size 1 cs E (by omega)) h1 (by unfold maxLen; omega) ?_ (by simp; omega) ?_
  · have : (n + 1) * bytes ≤ (n + 1) * 1000 := Nat.mul_le_mul_left _ hw
    omega
  · intro v' w' h2 h3 h4
    refine h v' w' h2 (((Below.refl base wr).alloc hbase _).grown h3 (by simp; omega) (own_block_ge hown)) ?_ (by rwa [World.size_alloc] at h4)
    exact ⟨h3.os, h3.tape, h3.output, Nat.le_trans (by simp) h3.size, fun k hk hne => (h3.block k (by simp; omega) hne).trans (Below.heap_alloc wr _ k hk)⟩

/-- two rows lie apart -/
def Apart (u v : Value) : Prop := ∀ k, u.ownBlock = some k → v.ownBlock ≠ some k
theorem Apart.symm {u v : Value} (h : Apart u v) : Apart v u := fun k hk e => h k e hk
theorem Apart.nil_ (v : Value) (n c : Nat) : Apart (.slice none n c) v := fun k hk => by simp [Value.ownBlock] at hk
/-- behind an append onto the one row the other is as it was, and they lie apart still -/
theorem own_aside {wr w' : World} {base base' : Nat} {e e' : TypeId} {size size' n n' : Nat} {v u v' : Value} {xs xs' : List Value} (hu : wr.ownsRow base e size u n xs) (hv : wr.ownsRow base' e' size' v n' xs') (ha : Apart u v) (hg : wr.grownBy w' v.ownBlock) (hn : v'.ownBlock = v.ownBlock ∨ v'.ownBlock = some (wr.heap.size + 1)) :
    w'.ownsRow base e size u n xs ∧ Apart u v' := by
  constructor
  · refine hu.kept hg ?_
    rcases hb : u.ownBlock with _ | k
    · exact .inl rfl
    · exact .inr fun e => ha k hb e.symm
  · intro k hk e
    rcases hn with hn | hn
    · exact ha k hk (by rw [← hn]; exact e)
    · rw [e] at hn
      injection hn with hn
      have := (hu.lt k hk).2
      omega
end Go.Proofs.Ytopncifebldklaa
/- Package grow: sum, part. Conditions: samples that read as data. -/
namespace Go.Proofs.Ytopncifebldklaa
set_option linter.unusedVariables false
set_option linter.unusedSimpArgs false
open Go.RowKit

theorem elem_smp : Elem Try.prog 27 46 (.agg #[.slice none 0 0, .int .i64 0]) 2 32 := ⟨Try.underlying27, by kernel_rfl, rfl, by omega, by omega⟩
theorem smp_one (A : Option Addr) (n c : Nat) (t : Int) : ∀ u ∈ [Value.slice A n c, .int .i64 t], u.oneCell' = true := by
  intro u hu
  simp at hu
  rcases hu with rfl | rfl <;> rfl
/-- samples of a call's own -/
def MOwn (w : World) (base : Nat) (v : Value) (ss : List Sm) : Prop := w.ownsRow base 46 2 v ss.length (ss.flatMap Sm.cells)
theorem MOwn.nil_ (w : World) (base : Nat) : MOwn w base (.slice none 0 0) [] := World.ownsRow_nil _ _ _ _
theorem MOwn.slice {w : World} {base : Nat} {v : Value} {ss : List Sm} (h : MOwn w base v ss) : ∃ A c, v = .slice A ss.length c ∧ Reads w w.heap.size 2 A ss.length (ss.flatMap Sm.cells) ∧ ss.length ≤ c := by
  obtain ⟨A, c, e, hr, _, hc⟩ := own_slice h
  exact ⟨A, c, e, hr, hc⟩
theorem MOwn.app {w : World} {base : Nat} {v : Value} {ss : List Sm} {s : Sm} (h : w.ownsRow base 46 2 v (ss.length + 1) (ss.flatMap Sm.cells ++ [.slice s.A s.n s.c, .int .i64 s.t])) : MOwn w base v (ss ++ [s]) := by
  unfold MOwn
  rw [List.length_append, List.flatMap_append]
  exact h

set_option maxRecDepth 100000 in
set_option maxHeartbeats 2000000 in
theorem msum_any (A : Option Addr) (n c : Nat) (ss : List Sm) (w : World) (h : MReads w w.heap.size A n ss) (hn : n ≤ 60) (h1 : ∀ s ∈ ss, -1000 ≤ s.t) (h2 : ∀ s ∈ ss, s.t ≤ 1000) :
    Calls Try.prog 54 #[.slice A n c] w fun e w' => e = .returned (.int .i64 (sumM ss)) ∧ Below w.heap.size w w' := by
  have hlen := h.len
  have HB : Hid (∀ k, -60000 ≤ sumM (ss.take k) ∧ sumM (ss.take k) ≤ 60000) := hide fun k => sum_60 (by rw [List.length_take]; omega) (fun s hs => h1 s (List.mem_of_mem_take hs)) (fun s hs => h2 s (List.mem_of_mem_take hs))
  have HT : Hid (ss.take n = ss) := hide (List.take_of_length_le (by omega))
  have HL := hide hlen
  have H1 := hide h1
  have H2 := hide h2
  clear hlen h1 h2
  go_enter Try.func54, Try.ntmps54
  go_wp2_with fail
  go_loopw [3, 8] (fun s i wr => ∃ k : Nat, k ≤ n ∧ s = .int .i64 (sumM (ss.take k)) ∧ i = .int .i64 k ∧ Below w.heap.size w wr) (fun _ i _ => n - (intOf i).toNat)
  case atStart => exact ⟨0, Nat.zero_le _, rfl, rfl, Below.refl _ _⟩
  case round =>
    obtain ⟨k, hk, rfl, rfl, hbel⟩ := hrel
    by_cases hlt : k < n
    · obtain ⟨b, o, s, rfl, _, hx, c0, c1, hok⟩ := (h.below hbel).get hlt
      have HN := hide (sumM_next hx)
      obtain ⟨b1, b2⟩ := unhide HB k
      obtain ⟨S, hS⟩ : ∃ S, S = sumM (ss.take k) := ⟨_, rfl⟩
      rw [← hS] at b1 b2 HN ⊢
      have t1 := unhide H1 s (List.mem_of_getElem? hx)
      have t2 := unhide H2 s (List.mem_of_getElem? hx)
      obtain ⟨sA, sn, sc, sr, st⟩ := s
      dsimp only at c0 c1 HN t1 t2
      have hbA := hbel.alloc hbel.size (.cells #[.slice sA sn sc, .int .i64 st] 46)
      clear hx hok hS
      go_wp2_with fail
      go_roundw
      case rel => exact ⟨k + 1, by omega, by rw [unhide HN], by go_num, hbA⟩
      case measure => simp [intOf]; omega
    · obtain rfl : k = n := by omega
      rw [unhide HT]
      go_wp2_with fail
      go_ret
      exact ⟨rfl, hbel⟩

/-- two rows of samples come back -/
def PartPost (a b : List Sm) (w : World) (e : Ending) (w' : World) : Prop :=
  ∃ A c A' c', e = .returned (.tuple #[.slice A a.length c, .slice A' b.length c']) ∧ (MOwn w' w.heap.size (.slice A a.length c) a ∧ MReads w' w'.heap.size A a.length a) ∧ (MOwn w' w.heap.size (.slice A' b.length c') b ∧ MReads w' w'.heap.size A' b.length b) ∧ Below w.heap.size w w'

set_option maxRecDepth 100000 in
set_option maxHeartbeats 4000000 in
theorem mpart_any (A : Option Addr) (n c f : Nat) (q : Int) (ss : List Sm) (w : World) (h : MReads w w.heap.size A n ss) (hn : n ≤ 60) (hf : ∀ s ∈ ss, f < s.r.length) :
    Calls Try.prog 55 #[.slice A n c, .int .i64 f, .int .i64 q] w (PartPost (lowS f q ss) (highS f q ss) w) := by
  have hlen := h.len
  have HT : Hid (ss.take n = ss) := hide (List.take_of_length_le (by omega))
  have HF := hide hf
  have HL := hide hlen
  clear hlen hf
  go_enter Try.func55, Try.ntmps55
  go_wp2_with fail
  go_loopw [6, 7, 12] (fun u v i wr => ∃ k : Nat, k ≤ n ∧ i = .int .i64 k ∧ Hid (MOwn wr w.heap.size u (lowS f q (ss.take k))) ∧ Hid (MOwn wr w.heap.size v (highS f q (ss.take k))) ∧ Hid (Apart u v) ∧ Below w.heap.size w wr) (fun _ _ i _ => n - (intOf i).toNat)
  case atStart => exact ⟨0, Nat.zero_le _, rfl, hide (MOwn.nil_ _ _), hide (MOwn.nil_ _ _), hide (Apart.nil_ _ _ _), Below.refl _ _⟩
  case round =>
    obtain ⟨k, hk, rfl, HO, HP, HA, hbel⟩ := hrel
    have hsz := hbel.size
    by_cases hlt : k < n
    · obtain ⟨b, o, s, rfl, _, hx, c0, c1, hok⟩ := (h.below hbel).get hlt
      have HN := hide (lowS_next (f := f) (c := q) hx)
      have HM := hide (highS_next (f := f) (c := q) hx)
      have hfl := unhide HF s (List.mem_of_getElem? hx)
      have hrd := hok.reads
      obtain ⟨sA, sn, sc, sr, st⟩ := s
      dsimp only at c0 c1 HN HM hfl hrd
      rw [hrd.len] at hfl
      obtain ⟨rb, ro, x, rfl, hrb, hrx, crx⟩ := hrd.get hfl
      have HX : Hid (cellS f ⟨some ⟨rb, ro, none⟩, sn, sc, sr, st⟩ = x) := hide (by unfold cellS; rw [List.getD_eq_getElem?_getD, hrx]; rfl)
      obtain ⟨La, hLa⟩ : ∃ La, La = lowS f q (ss.take k) := ⟨_, rfl⟩
      obtain ⟨Lb, hLb⟩ : ∃ Lb, Lb = highS f q (ss.take k) := ⟨_, rfl⟩
      have hal : La.length ≤ k := by rw [hLa]; exact Nat.le_trans (List.length_filter_le _ _) (List.length_take_le _ _)
      have hbl : Lb.length ≤ k := by rw [hLb]; exact Nat.le_trans (List.length_filter_le _ _) (List.length_take_le _ _)
      rw [← hLa] at HN HO
      rw [← hLb] at HM HP
      have hl1 : sn ≤ maxLen := hok.len
      unfold maxLen at hl1
      have hbA := hbel.alloc hsz (.cells #[.slice (some ⟨rb, ro, none⟩) sn sc, .int .i64 st] 46)
      have hcx : (wr.alloc (.cells #[.slice (some ⟨rb, ro, none⟩) sn sc, .int .i64 st] 46)).cell? ⟨rb, ro + f, none⟩ = some (.int .i64 x) := (World.cell?_alloc_lt wr _ _ (by show rb < _; omega)).trans crx
      have bS := Blk.new wr 46 #[.slice (some ⟨rb, ro, none⟩) sn sc, .int .i64 st]
      have e0 := bS.cell 0
      have e1 := bS.cell 1
      simp at e0 e1
      have hOA : (wr.alloc (.cells #[.slice (some ⟨rb, ro, none⟩) sn sc, .int .i64 st] 46)).ownsRow w.heap.size 46 2 _ La.length (La.flatMap Sm.cells) := World.ownsRow.alloc (unhide HO) _
      have hPA : (wr.alloc (.cells #[.slice (some ⟨rb, ro, none⟩) sn sc, .int .i64 st] 46)).ownsRow w.heap.size 46 2 _ Lb.length (Lb.flatMap Sm.cells) := World.ownsRow.alloc (unhide HP) _
      have hap := unhide HA
      have hwz : w.heap.size ≤ (wr.alloc (.cells #[.slice (some ⟨rb, ro, none⟩) sn sc, .int .i64 st] 46)).heap.size := by rw [World.size_alloc]; omega
      clear hx hok hrd hrx hLa hLb crx HO HP HA
      by_cases hlo : x < q
      · have HN2 : Hid (lowS f q (ss.take (k + 1)) = La ++ [⟨some ⟨rb, ro, none⟩, sn, sc, sr, st⟩]) := hide (by rw [unhide HN, unhide HX, if_pos hlo])
        have HM2 : Hid (highS f q (ss.take (k + 1)) = Lb) := hide (by rw [unhide HM, unhide HX, if_pos hlo, List.append_nil])
        have d1 : decide (x < q) = true := decide_eq_true hlo
        clear HN HM HX hlo
        go_wp2_with (at_builtin; refine app_one2 elem_smp (.tmp 23) (.tmp 25) [.slice (some ⟨rb, ro, none⟩) sn sc, .int .i64 st] rfl rfl rfl hOA rfl (World.size_alloc _ _) rfl (smp_one _ _ _ _) (by omega) hwz ?_; intro v2 w2 hown2 hb2 hn2 hg2)
        go_wp2_with fail
        go_roundw
        case rel => exact ⟨k + 1, by omega, by go_num, hide (by rw [unhide HN2]; exact MOwn.app (s := ⟨some ⟨rb, ro, none⟩, sn, sc, sr, st⟩) hown2), hide (by rw [unhide HM2]; exact (own_aside hPA hOA hap.symm hn2 hg2).1), hide (own_aside hPA hOA hap.symm hn2 hg2).2.symm, hbA.trans hb2⟩
        case measure => simp [intOf] <;> omega
      · have HN2 : Hid (lowS f q (ss.take (k + 1)) = La) := hide (by rw [unhide HN, unhide HX, if_neg hlo, List.append_nil])
        have HM2 : Hid (highS f q (ss.take (k + 1)) = Lb ++ [⟨some ⟨rb, ro, none⟩, sn, sc, sr, st⟩]) := hide (by rw [unhide HM, unhide HX, if_neg hlo])
        have d1 : decide (x < q) = false := decide_eq_false hlo
        clear HN HM HX hlo
        go_wp2_with (at_builtin; refine app_one2 elem_smp (.tmp 27) (.tmp 29) [.slice (some ⟨rb, ro, none⟩) sn sc, .int .i64 st] rfl rfl rfl hPA rfl (World.size_alloc _ _) rfl (smp_one _ _ _ _) (by omega) hwz ?_; intro v2 w2 hown2 hb2 hn2 hg2)
        go_wp2_with fail
        go_roundw
        case rel => exact ⟨k + 1, by omega, by go_num, hide (by rw [unhide HN2]; exact (own_aside hOA hPA hap hn2 hg2).1), hide (by rw [unhide HM2]; exact MOwn.app (s := ⟨some ⟨rb, ro, none⟩, sn, sc, sr, st⟩) hown2), hide (own_aside hOA hPA hap hn2 hg2).2, hbA.trans hb2⟩
        case measure => simp [intOf] <;> omega
    · obtain rfl : k = n := by omega
      rw [unhide HT] at HO HP
      obtain ⟨A1, d1, rfl, hr1, _⟩ := (unhide HO).slice
      obtain ⟨A2, d2, rfl, hr2, _⟩ := (unhide HP).slice
      go_wp2_with fail
      go_ret2
      refine ⟨A1, d1, A2, d2, rfl, ⟨unhide HO, hr1, fun s hs => ?_⟩, ⟨unhide HP, hr2, fun s hs => ?_⟩, hbel⟩
      · exact ((h.2 s (lowS_mem hs).1).below hbel).more hbel.size
      · exact ((h.2 s (highS_mem hs).1).below hbel).more hbel.size

/-- samples that stay as they are, whatever becomes of a row -/
def MKept (w : World) (v : Value) (A : Option Addr) (n : Nat) (ss : List Sm) : Prop := ∀ w', w.grownBy w' v.ownBlock → MReads w' w'.heap.size A n ss
def OwnNext (w : World) (v v' : Value) : Prop := v'.ownBlock = v.ownBlock ∨ ∃ q, v'.ownBlock = some q ∧ w.heap.size ≤ q
theorem grown_next {w w1 w2 : World} {v v1 : Value} (h1 : w.grownBy w1 v.ownBlock) (hn : OwnNext w v v1) (h2 : w1.grownBy w2 v1.ownBlock) : w.grownBy w2 v.ownBlock :=
  ⟨h2.os.trans h1.os, h2.tape.trans h1.tape, h2.output.trans h1.output, Nat.le_trans h1.size h2.size, fun i hi hne => by
    have hs := h1.size
    rw [h2.block i (by omega) ?_, h1.block i hi hne]
    rcases hn with e | ⟨q, e, hq⟩
    · rw [e]; exact hne
    · rw [e]; intro e'; injection e' with e'; omega⟩
theorem OwnNext.refl (w : World) (v : Value) : OwnNext w v v := .inl rfl
theorem OwnNext.trans {w w1 : World} {v v1 v2 : Value} (h : OwnNext w v v1) (hs : w.heap.size ≤ w1.heap.size) (k : OwnNext w1 v1 v2) : OwnNext w v v2 := by
  rcases k with e | ⟨q, e, hq⟩
  · rcases h with e1 | ⟨p, e1, hp⟩
    · exact .inl (e.trans e1)
    · exact .inr ⟨p, e.trans e1, hp⟩
  · exact .inr ⟨q, e, Nat.le_trans hs hq⟩
theorem MKept.next {w w1 : World} {v v1 : Value} {A : Option Addr} {n : Nat} {ss : List Sm} (h : MKept w v A n ss) (h1 : w.grownBy w1 v.ownBlock) (hn : OwnNext w v v1) : MKept w1 v1 A n ss := fun w2 h2 => h w2 (grown_next h1 hn h2)
theorem MKept.now {w : World} {v : Value} {A : Option Addr} {n : Nat} {ss : List Sm} (h : MKept w v A n ss) : MReads w w.heap.size A n ss := h w (World.grownBy.refl _ _)
/-- samples that were made behind a row stay so -/
theorem MKept.made {w w1 : World} {v : Value} {A : Option Addr} {c : Nat} {ss a : List Sm} {base : Nat} {xs : List Value} {e : TypeId} {size q : Nat} {A0 : Option Addr} {n0 : Nat} (hv : w.ownsRow base e size v q xs) (h : MKept w v A0 n0 ss) (hb : Below w.heap.size w w1) (ho : MOwn w1 w.heap.size (.slice A a.length c) a) (hm : ∀ s ∈ a, s ∈ ss) : MKept w1 v A a.length a := by
  intro w2 h2
  have hk : w2.ownsRow w.heap.size 46 2 (.slice A a.length c) a.length (a.flatMap Sm.cells) := by
    refine World.ownsRow.kept ho h2 ?_
    rcases hk : (Value.slice A a.length c).ownBlock with _ | k
    · exact .inl rfl
    · refine .inr fun e => ?_
      have h3 := own_block_ge ho k hk
      have h4 := (hv.lt k e.symm).2
      omega
  refine ⟨?_, fun s hs => ?_⟩
  · have := MOwn.slice hk
    obtain ⟨A', c', e', hr, _⟩ := this
    injection e' with e1 _ _
    rw [e1]; exact hr
  · exact (h w2 (grown_next (only_of_below hb _) (OwnNext.refl _ _) h2)).2 s (hm s hs)
end Go.Proofs.Ytopncifebldklaa
