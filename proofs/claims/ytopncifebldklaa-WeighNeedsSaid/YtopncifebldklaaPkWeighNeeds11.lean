/- Part 11 of what LawWeighNeeds needs: Leaves, Pick, Args, Differ, Differ2. Conditions: as each lemma names. -/
import Derived.Test.YtopncifebldklaaPkWeighNeeds10
import Derived.Deep.RegionHeld3
import Derived.Shelf.Abstract
import Derived.Test.YtopncifebldklaaPkWeighNeeds01
import Derived.OpenShut
/- path.Leaves: the leaves below a node, each handed with its spans to a listener. Conditions: as each lemma names. -/
namespace Go.Proofs.Ytopncifebldklaa
set_option linter.unusedVariables false
set_option linter.unusedSimpArgs false
open Go.RowKit

/-- the leaves below a node, with their spans -/
def lv (t : List Nd) : Nat → Nat → List Sp → List (Nat × List Sp)
  | 0, _, _ => []
  | k + 1, i, l => match t[i]? with
    | some n => if n.f = -1 then [(i, l)] else lv t k n.l.toNat (sideL l n true) ++ lv t k n.r.toNat (sideL l n false)
    | none => []
theorem lv_leaf {t : List Nd} {k i : Nat} {n : Nd} {l : List Sp} (h : t[i]? = some n) (hf : n.f = -1) : lv t (k + 1) i l = [(i, l)] := by simp only [lv, h, hf, if_true]
theorem lv_step {t : List Nd} {k i : Nat} {n : Nd} {l : List Sp} (h : t[i]? = some n) (hf : n.f ≠ -1) : lv t (k + 1) i l = lv t k n.l.toNat (sideL l n true) ++ lv t k n.r.toNat (sideL l n false) := by simp only [lv, h, hf, if_false]
theorem sideL_len (l : List Sp) (n : Nd) (b : Bool) : (sideL l n b).length = l.length := by unfold sideL; split <;> simp

/-- only the blocks that T names may have turned -/
structure Touch (T : World → Nat → Prop) (w w' : World) : Prop where
  os : w'.os = w.os
  tape : w'.tape = w.tape
  output : w'.output = w.output
  size : w.heap.size ≤ w'.heap.size
  block : ∀ g, g < w.heap.size → ¬ T w g → w'.heap[g]? = w.heap[g]?
  less : ∀ g, g < w.heap.size → T w' g → T w g
theorem Touch.refl (T : World → Nat → Prop) (w : World) : Touch T w w := ⟨rfl, rfl, rfl, Nat.le_refl _, fun _ _ _ => rfl, fun _ _ h => h⟩
theorem Touch.trans {T : World → Nat → Prop} {a b c : World} (h : Touch T a b) (k : Touch T b c) : Touch T a c :=
  ⟨k.os.trans h.os, k.tape.trans h.tape, k.output.trans h.output, Nat.le_trans h.size k.size, fun g hg hn => (k.block g (Nat.lt_of_lt_of_le hg h.size) (fun e => hn (h.less g hg e))).trans (h.block g hg hn), fun g hg e => h.less g hg (k.less g (Nat.lt_of_lt_of_le hg h.size) e)⟩
/-- what a listener holds: T's blocks are laid, and where nothing that lay has turned it holds still -/
structure Ear {α : Type} (T : World → Nat → Prop) (J : List α → World → Prop) (B0 : Nat) : Prop where
  lt : ∀ pre w g, J pre w → T w g → g < w.heap.size ∧ B0 ≤ g
  keep : ∀ pre w w', J pre w → Below w.heap.size w w' → J pre w' ∧ ∀ g, T w' g → T w g
theorem Touch.of_below {T : World → Nat → Prop} {w w' : World} (hb : Below w.heap.size w w') (h : ∀ g, T w' g → T w g) : Touch T w w' :=
  ⟨hb.os, hb.tape, hb.output, hb.size, fun g hg _ => hb.block g hg, fun g _ e => h g e⟩
theorem Touch.below {T : World → Nat → Prop} {w w' : World} {B0 : Nat} (h : Touch T w w') (hB : B0 ≤ w.heap.size) (hlt : ∀ g, T w g → B0 ≤ g) : Below B0 w w' :=
  ⟨h.os, h.tape, h.output, h.size, fun g hg => h.block g (by omega) (fun e => by have := hlt g e; omega)⟩
theorem Reads.touch {T : World → Nat → Prop} {w w' : World} {B size n : Nat} {A : Option Addr} {xs : List Value} (h : Reads w B size A n xs) (ht : Touch T w w') (hB : B ≤ w.heap.size) (hA : ∀ a, A = some a → ¬ T w a.block) : Reads w' B size A n xs :=
  ⟨h.1, fun hn => by
    obtain ⟨ad, e, hb, hc⟩ := h.2 hn
    refine ⟨ad, e, hb, fun j u hu => ?_⟩
    rw [← hc j u hu]
    exact World.cell?_of_block (by rw [block_of_add]; exact ht.block _ (by omega) (hA ad e))⟩

/-- cells that a listener leaves as they are -/
def Still (T : World → Nat → Prop) (cs : List (Addr × Value)) (w : World) : Prop := ∀ c ∈ cs, w.cell? c.1 = some c.2 ∧ ¬ T w c.1.block ∧ c.1.block < w.heap.size
theorem Still.touch {T : World → Nat → Prop} {cs : List (Addr × Value)} {w w' : World} (h : Still T cs w) (ht : Touch T w w') : Still T cs w' := fun c hc => by
  obtain ⟨h1, h2, h3⟩ := h c hc
  exact ⟨(World.cell?_of_block (ht.block _ h3 h2)).trans h1, fun e => h2 (ht.less _ h3 e), Nat.lt_of_lt_of_le h3 ht.size⟩
theorem Still.below {T : World → Nat → Prop} {cs : List (Addr × Value)} {w w' : World} (h : Still T cs w) (hb : Below w.heap.size w w') (hT : ∀ g, T w' g → T w g) : Still T cs w' := h.touch (Touch.of_below hb hT)
theorem Still.cons {T : World → Nat → Prop} {cs : List (Addr × Value)} {w : World} {p : Addr} {v : Value} (h : Still T cs w) (h1 : w.cell? p = some v) (h2 : ¬ T w p.block) (h3 : p.block < w.heap.size) : Still T ((p, v) :: cs) w := fun c hc => by
  rcases List.mem_cons.1 hc with rfl | hc
  · exact ⟨h1, h2, h3⟩
  · exact h c hc
/-- what two listeners hold together with still cells and two trees of the arguments -/
theorem Ear.with_ {α β : Type} {T : World → Nat → Prop} {J : List β → World → Prop} {B0 : Nat} (hE : Ear T J B0) (f : List α → List β) (cs : List (Addr × Value)) (R : World → Prop) (hR : ∀ w w', R w → Below B0 w w' → R w') :
    Ear T (fun (pre : List α) w => J (f pre) w ∧ Still T cs w ∧ R w ∧ B0 ≤ w.heap.size) B0 :=
  ⟨fun pre w g h hg => hE.lt _ w g h.1 hg, fun pre w w' h hb => by
    obtain ⟨h1, h2⟩ := hE.keep _ w w' h.1 hb
    exact ⟨⟨h1, h.2.1.below hb h2, hR _ _ h.2.2.1 (hb.mono h.2.2.2), Nat.le_trans h.2.2.2 hb.size⟩, h2⟩⟩

def Hear {α : Type} (T : World → Nat → Prop) (J : List α → World → Prop) (ys : List α) (w : World) (e : Ending) (w' : World) : Prop :=
  (∃ v, e = .returned v) ∧ J ys w' ∧ Touch T w w'

end Go.Proofs.Ytopncifebldklaa
/- path.Wide, path.Pick. Conditions: as each lemma names. -/
namespace Go.Proofs.Ytopncifebldklaa
set_option linter.unusedVariables false
set_option linter.unusedSimpArgs false
open Go.RowKit

def wideS : Sp := ⟨-1000000, 1000000, true⟩
def wideL (n : Nat) : List Sp := List.replicate n wideS
def pickS (s : Sp) : Int := if s.low ≤ s.high then s.low else -1125899906842624
def pickL (l : List Sp) : List Int := l.map pickS
theorem pick_next {l : List Sp} {k : Nat} {s : Sp} (h : l[k]? = some s) : pickL (l.take (k + 1)) = pickL (l.take k) ++ [pickS s] := by unfold pickL; rw [take_next h]; simp

def zeroS : Sp := ⟨0, 0, false⟩
theorem made_span (n : Nat) (hn : n ≤ 8) : madeCells (Value.agg #[.int .i64 0, .int .i64 0, .bool false]).cells (n * 3) = ((List.replicate n zeroS).flatMap Sp.cells).toArray := by
  rcases n with _ | _ | _ | _ | _ | _ | _ | _ | _ | n <;> first | omega | kernel_rfl
def wideK (n k : Nat) : List Sp := List.replicate k wideS ++ List.replicate (n - k) zeroS
theorem wideK_set {n k : Nat} (h : k < n) : (wideK n k).set k wideS = wideK n (k + 1) := by
  unfold wideK
  obtain ⟨m, hm⟩ : ∃ m, n - k = m + 1 := ⟨n - k - 1, by omega⟩
  rw [List.set_append_right _ _ (by simp), hm, show n - (k + 1) = m by omega, List.length_replicate, Nat.sub_self, List.replicate_succ, List.set_cons_zero, List.replicate_succ', List.append_assoc]
  rfl

theorem set3 {w : World} {g a : Nat} {u0 u1 u2 x0 x1 x2 : Value} (c0 : w.cell? ⟨g, a, none⟩ = some x0) (c1 : w.cell? ⟨g, a + 1, none⟩ = some x1) (c2 : w.cell? ⟨g, a + 2, none⟩ = some x2) :
    (∀ j, j ≠ a → j ≠ a + 1 → j ≠ a + 2 → (((w.setCell ⟨g, a, none⟩ u0).setCell ⟨g, a + 1, none⟩ u1).setCell ⟨g, a + 2, none⟩ u2).cell? ⟨g, j, none⟩ = w.cell? ⟨g, j, none⟩) ∧
    (((w.setCell ⟨g, a, none⟩ u0).setCell ⟨g, a + 1, none⟩ u1).setCell ⟨g, a + 2, none⟩ u2).cell? ⟨g, a, none⟩ = some u0 ∧
    (((w.setCell ⟨g, a, none⟩ u0).setCell ⟨g, a + 1, none⟩ u1).setCell ⟨g, a + 2, none⟩ u2).cell? ⟨g, a + 1, none⟩ = some u1 ∧
    (((w.setCell ⟨g, a, none⟩ u0).setCell ⟨g, a + 1, none⟩ u1).setCell ⟨g, a + 2, none⟩ u2).cell? ⟨g, a + 2, none⟩ = some u2 := by
  have N : ∀ (W : World) (i j : Nat) (u : Value), i ≠ j → (W.setCell ⟨g, i, none⟩ u).cell? ⟨g, j, none⟩ = W.cell? ⟨g, j, none⟩ := fun W i j u h => World.cell?_setCell_other _ _ _ _ (by intro e; injection e; omega)
  refine ⟨fun j h0 h1 h2 => ?_, ?_, ?_, ?_⟩
  · rw [N _ _ _ _ (by omega), N _ _ _ _ (by omega), N _ _ _ _ (by omega)]
  · rw [N _ _ _ _ (by omega), N _ _ _ _ (by omega)]; exact World.cell?_setCell_same' _ _ _ (by rw [c0]; rfl)
  · rw [N _ _ _ _ (by omega)]; exact World.cell?_setCell_same' _ _ _ (by rw [N _ _ _ _ (by omega), c1]; rfl)
  · exact World.cell?_setCell_same' _ _ _ (by rw [N _ _ _ _ (by omega), N _ _ _ _ (by omega), c2]; rfl)
end Go.Proofs.Ytopncifebldklaa
/- From an argument's reading to the words of the walks: slices of numbers. Conditions: none. -/
namespace Go.Proofs.Ytopncifebldklaa
set_option linter.unusedVariables false
set_option linter.unusedSimpArgs false
open Go.RowKit Go.ChangeShapes Go.WideShapes

theorem cell_lt {w : World} {a : Addr} {v : Value} (h : w.cell? a = some v) : a.block < w.heap.size := by
  unfold World.cell? at h
  split at h
  · rename_i c _ _ hh
    exact (Array.getElem?_eq_some_iff.1 hh).1
  · cases h

theorem arg_nums {H : Type} {enc : TypeId × Value → H} {P : Program} {w : World} {sp : Nat → Bool} {t e : TypeId} {k : IntKind} {A : Option Addr} {n c : Nat} {d : DataW H} {p : List MemPlace}
    (ht : P.underlying t = some (.slice e)) (he : P.underlying e = some (.int k)) (hc : P.cellsOf e = 1) (h : DataW.Trod enc P w 0 sp true t (.slice A n c) d p) :
    ∃ l : List Int, Reads w w.heap.size 1 A n (l.map (Value.int k)) ∧ n ≤ maxLen ∧ n ≤ c ∧ ∀ x ∈ l, (Lit.int k x).wf = true := by
  obtain ⟨fuel, hf⟩ := h
  rcases open_ints ht he hc hf with ⟨hcs, _⟩ | ⟨x, l, c', zs, hcs, _, hl, hm, hz, _, hcell, hwz⟩
  · simp [Value.cells] at hcs
    obtain ⟨rfl, rfl, rfl⟩ := hcs
    exact ⟨[], ⟨by simp, fun h0 => absurd h0 (by omega)⟩, Nat.zero_le _, Nat.le_refl _, by simp⟩
  · simp [Value.cells] at hcs
    obtain ⟨rfl, rfl, rfl⟩ := hcs
    have hzn : n ≤ zs.length := by rw [hz]; split <;> omega
    have hlen : (zs.take n).length = n := by rw [List.length_take]; omega
    refine ⟨zs.take n, ⟨by rw [List.length_map, hlen]; omega, fun h0 => ⟨x, rfl, ?_, ?_⟩⟩, by omega, hl, fun y hy => hwz y (List.mem_of_mem_take hy)⟩
    · have := cell_lt (hcell 0 (by omega))
      rwa [block_of_add] at this
    · intro j u hu
      rw [List.getElem?_map, Option.map_eq_some_iff] at hu
      obtain ⟨y, hy, rfl⟩ := hu
      have hj : j < n := by
        have := (List.getElem?_eq_some_iff.1 hy).1
        omega
      rw [List.getElem?_take_of_lt hj] at hy
      rw [hcell j (by omega), List.getD_eq_getElem?_getD, hy]
      rfl

theorem arg_ints {H : Type} {enc : TypeId × Value → H} {P : Program} {w : World} {sp : Nat → Bool} {t e : TypeId} {A : Option Addr} {n c : Nat} {d : DataW H} {p : List MemPlace}
    (ht : P.underlying t = some (.slice e)) (he : P.underlying e = some (.int .i64)) (hc : P.cellsOf e = 1) (h : DataW.Trod enc P w 0 sp true t (.slice A n c) d p) :
    ∃ l : List Int, IReads w w.heap.size A n l ∧ n ≤ maxLen ∧ n ≤ c ∧ ∀ x ∈ l, (Lit.int .i64 x).wf = true := arg_nums ht he hc h

theorem wf_in {x : Int} (h : (Lit.int .i64 x).wf = true) : -9223372036854775808 ≤ x ∧ x ≤ 9223372036854775807 := Go.bounds_i64 h

/-- an argument that is a slice of numbers -/
structure NArg (k : IntKind) (W : World) (A : Option Addr) (n c : Nat) (l : List Int) : Prop where
  reads : Reads W W.heap.size 1 A n (l.map (Value.int k))
  len : n ≤ maxLen
  cap : n ≤ c
  capm : c ≤ maxLen
  nil : A = none → c = 0
  wf : ∀ x ∈ l, (Lit.int k x).wf = true
abbrev IArg := NArg .i64
theorem arg_nums2 {H : Type} {enc : TypeId × Value → H} {P : Program} {w : World} {sp : Nat → Bool} {t e : TypeId} {k : IntKind} {A : Option Addr} {n c : Nat} {d : DataW H} {p : List MemPlace}
    (ht : P.underlying t = some (.slice e)) (he : P.underlying e = some (.int k)) (hc : P.cellsOf e = 1) (h : DataW.Trod enc P w 0 sp true t (.slice A n c) d p) :
    ∃ l : List Int, NArg k w A n c l := by
  obtain ⟨l, h1, h2, h3, h4⟩ := arg_nums ht he hc h
  have hx : c ≤ maxLen ∧ (A = none → c = 0) := by
    obtain ⟨fuel, hf⟩ := h
    rcases open_ints ht he hc hf with ⟨hcs, _⟩ | ⟨x, l, c', zs, hcs, _, hl, hm, hz, _, hcell, hwz⟩
    · simp [Value.cells] at hcs
      obtain ⟨rfl, rfl, rfl⟩ := hcs
      exact ⟨Nat.zero_le _, fun _ => rfl⟩
    · simp [Value.cells] at hcs
      obtain ⟨rfl, rfl, rfl⟩ := hcs
      exact ⟨hm, fun h => by cases h⟩
  exact ⟨l, h1, h2, h3, hx.1, hx.2, h4⟩
end Go.Proofs.Ytopncifebldklaa
/- differ.pairs: of each pair of leaves to which a row comes that differ, their spans. Conditions: as each lemma names. -/
namespace Go.Proofs.Ytopncifebldklaa
set_option linter.unusedVariables false
set_option linter.unusedSimpArgs false
open Go.RowKit

def meets (a b : List Nd) (i : Nat) (q : Nat × List Sp) : Bool := anyB q.2 && (valAt a i != valAt b q.1)
def pairsAt (a b : List Nd) (p : Nat × List Sp) : List (List Sp) := if anyB p.2 then ((lv b b.length 0 p.2).filter (meets a b p.1)).map (·.2) else []
def pairsL (a b : List Nd) (n : Nat) : List (List Sp) := (lv a a.length 0 (wideL n)).flatMap (pairsAt a b)

theorem valAt_of {t : List Nd} {i : Nat} {x : Nd} (h : t[i]? = some x) : valAt t i = x.v := by unfold valAt; rw [h]

/-- a listener for spans -/
def SpanStep (T : World → Nat → Prop) (J : List (List Sp) → World → Prop) (F : FuncId) (caps : Array Value) (n : Nat) : Prop :=
  ∀ pre (l' : List Sp) (A' : Option Addr) (c' : Nat) (w : World), J pre w → SReads w w.heap.size A' n l' → (A' = none → c' = 0) → (∀ a, A' = some a → ¬ T w a.block) →
    Calls Try.prog F (#[.slice A' n c'] ++ caps) w (Hear T J (pre ++ [l']) w)

theorem pairsAt_fold (a b : List Nd) (i : Nat) (ys : List (Nat × List Sp)) (q : Nat × List Sp) :
    ((ys ++ [q]).filter (meets a b i)).map (·.2) = (ys.filter (meets a b i)).map (·.2) ++ if meets a b i q then [q.2] else [] := by
  rw [List.filter_append, List.map_append, List.filter_cons]
  split <;> simp

/-- a tree as Leaves wants it -/
structure Fit_ (t : List Nd) (n : Nat) : Prop where
  len0 : 0 < t.length
  len : t.length ≤ 63
  behind : Behind t
  asks : Asks t n
  cut : ∀ (i : Nat) x, t[i]? = some x → x.f ≠ -1 → -1000000 ≤ x.c ∧ x.c ≤ 1000000

end Go.Proofs.Ytopncifebldklaa
/- differ.both, Moved, witness, Trees. Conditions: as each lemma names. -/
namespace Go.Proofs.Ytopncifebldklaa
set_option linter.unusedVariables false
set_option linter.unusedSimpArgs false
open Go.RowKit

theorem Right.fit {t : List Nd} {n : Nat} (h : Right t n) : Fit_ t n := ⟨h.pos, h.most, h.behind, h.asks, fun i x hx hf => by
  rcases node_of (h.node i x hx) with h1 | h1
  · exact absurd h1.1 hf
  · exact ⟨h1.2.2.1, h1.2.2.2.1⟩⟩
theorem lv_len {t : List Nd} (hb : Behind t) : ∀ (k i : Nat) (l : List Sp), i < t.length → (lv t k i l).length ≤ cnt t i := by
  intro k
  induction k with
  | zero => intro i l _; exact Nat.zero_le _
  | succ k ih =>
    intro i l hi
    have hn : t[i]? = some t[i] := List.getElem?_eq_getElem hi
    by_cases hf : (t[i]).f = -1
    · rw [lv_leaf hn hf, cnt_at hn (fun h => absurd hf h) (fun h => absurd hf h), if_pos hf]; simp
    · obtain ⟨a, b, c, d⟩ := hb i _ hn hf
      rw [lv_step hn hf, cnt_at hn (fun _ => a) (fun _ => c), if_neg hf, List.length_append]
      exact Nat.add_le_add (ih _ _ (by omega)) (ih _ _ (by omega))
theorem lv_1024 {t : List Nd} {n : Nat} (h : Right t n) (k : Nat) (l : List Sp) : (lv t k 0 l).length ≤ 1024 := by
  have h1 := lv_len h.behind k 0 l h.pos
  have h2 := (cnt_dep h.behind t.length 0 h.pos (by omega)).2
  have h3 : 2 ^ dep t 0 ≤ 2 ^ 10 := Nat.pow_le_pow_right (by omega) h.deep
  omega
theorem flat_le {α β : Type} (f : α → List β) (c : Nat) (h : ∀ a, (f a).length ≤ c) : ∀ l : List α, (l.flatMap f).length ≤ l.length * c := by
  intro l
  induction l with
  | nil => simp
  | cons x r ih => rw [List.flatMap_cons, List.length_append, List.length_cons, Nat.succ_mul]; have := h x; omega
theorem pairsL_len {a b : List Nd} {n : Nat} (ha : Right a n) (hb : Right b n) : (pairsL a b n).length ≤ 1048576 := by
  unfold pairsL
  have h1 : ∀ p, (pairsAt a b p).length ≤ 1024 := fun p => by
    unfold pairsAt
    split
    · rw [List.length_map]; exact Nat.le_trans (List.length_filter_le _ _) (lv_1024 hb _ _)
    · simp
  have h2 := flat_le (pairsAt a b) 1024 h1 (lv a a.length 0 (wideL n))
  have h3 := lv_1024 ha a.length (wideL n)
  have : (lv a a.length 0 (wideL n)).length * 1024 ≤ 1024 * 1024 := Nat.mul_le_mul_right _ h3
  omega

def bothE (a b : List Nd) (fe : Int) : Int := if treeE a fe = 0 then treeE b fe else treeE a fe
theorem bothE_right {a b : List Nd} {fe : Int} (h : bothE a b fe = 0) : Right a fe ∧ Right b fe := by
  unfold bothE at h
  by_cases h1 : treeE a fe = 0
  · rw [if_pos h1] at h; exact ⟨right_of h1, right_of h⟩
  · rw [if_neg h1] at h; exact absurd h h1
/-! ### Moved -/
def CntJ (g : Nat) (ys : List (List Sp)) (w : World) : Prop := ∃ v : Int, Blk w g 3 #[.int .i64 v] ∧ (-9223372036854775808 ≤ v ∧ v ≤ 9223372036854775807) ∧ (ys.length ≤ 9223372036854775807 → v = ys.length)
theorem cnt_ear (g B0 : Nat) (h : B0 ≤ g) : Ear (fun _ k => k = g) (CntJ g) B0 :=
  ⟨fun pre w k hJ hk => by obtain ⟨v, hv, _⟩ := hJ; subst hk; exact ⟨hv.lt, h⟩, fun pre w w' hJ hb => by
    obtain ⟨v, hv, h1, h2⟩ := hJ
    exact ⟨⟨v, hv.below hb hv.lt, h1, h2⟩, fun _ h => h⟩⟩
theorem touch_set {g : Nat} {w : World} {p : Addr} (hp : p.block = g) (v : Value) : Touch (fun _ k => k = g) w (w.setCell p v) :=
  ⟨rfl, rfl, rfl, by simp [World.setCell], fun k hk hn => Below.heap_setCell w p v k (by omega), fun _ _ h => h⟩
def movedV (a b : List Nd) (n : Int) : Int := if bothE a b n = 0 then ((pairsL a b n.toNat).length : Int) else 0
/-! ### witness, Trees -/
theorem own_fresh {w : World} {base : Nat} {e : TypeId} {size n : Nat} {A : Option Addr} {c : Nat} {xs : List Value} (h : w.ownsRow base e size (.slice A n c) n xs) : ∀ a, A = some a → base ≤ a.block ∧ a.block < w.heap.size := by
  intro a ha
  rcases h.2 with ⟨h1, _⟩ | ⟨g, cap, cur, h1, hg, hh, _⟩
  · cases h1; cases ha
  · cases h1; cases ha
    exact ⟨hg, Blk.lt (t := e) hh⟩
def WitT (gr gd : Nat) : World → Nat → Prop := fun _ k => k = gr ∨ k = gd
def WitOf (gr gd n : Nat) (w : World) (v : Value) (b : Bool) : List (List Sp) → Prop
  | [] => v = .slice none 0 0 ∧ b = false
  | l :: _ => b = true ∧ ∃ A c, v = .slice A n c ∧ IReads w w.heap.size A n (pickL l) ∧ (∀ a, A = some a → a.block ≠ gr ∧ a.block ≠ gd) ∧ n ≤ c
def WitJ (gr gd n : Nat) (ys : List (List Sp)) (w : World) : Prop := ∃ v b, Blk w gr 22 #[v] ∧ Blk w gd 4 #[.bool b] ∧ WitOf gr gd n w v b ys
theorem wit_ear (gr gd n B0 : Nat) (h : B0 ≤ gr) (h' : B0 ≤ gd) : Ear (WitT gr gd) (WitJ gr gd n) B0 :=
  ⟨fun pre w k hJ hk => by
    obtain ⟨v, b, h1, h2, _⟩ := hJ
    rcases hk with rfl | rfl
    · exact ⟨h1.lt, h⟩
    · exact ⟨h2.lt, h'⟩, fun pre w w' hJ hb => by
    obtain ⟨v, b, h1, h2, h3⟩ := hJ
    refine ⟨⟨v, b, h1.below hb h1.lt, h2.below hb h2.lt, ?_⟩, fun _ h => h⟩
    cases pre with
    | nil => exact h3
    | cons l r =>
      obtain ⟨hb1, A, c, e, hr, hn⟩ := h3
      exact ⟨hb1, A, c, e, (hr.below hb).more hb.size, hn⟩⟩
theorem wit_app {gr gd n : Nat} {w : World} {v : Value} {b : Bool} {x l : List Sp} {r : List (List Sp)} (h : WitOf gr gd n w v b (x :: r)) : WitOf gr gd n w v b (x :: r ++ [l]) := h
theorem wit_touch (gr gd : Nat) (w : World) (u v : Value) : Touch (WitT gr gd) w ((w.setCell ⟨gr, 0, none⟩ u).setCell ⟨gd, 0, none⟩ v) :=
  ⟨rfl, rfl, rfl, by simp [World.setCell], fun k hk hn => by
    rw [Below.heap_setCell _ _ _ _ (fun e => hn (.inr e)), Below.heap_setCell _ _ _ _ (fun e => hn (.inl e))], fun _ _ h => h⟩
def headL : List (List Sp) → List Int
  | [] => []
  | l :: _ => pickL l
theorem wit_out {gr gd n : Nat} {w : World} {v : Value} {b : Bool} {ys : List (List Sp)} (h : WitOf gr gd n w v b ys) : ∃ A c, v = .slice A (if ys = [] then 0 else n) c ∧ b = !ys.isEmpty ∧ IReads w w.heap.size A (if ys = [] then 0 else n) (headL ys) ∧ (∀ a, A = some a → a.block ≠ gr ∧ a.block ≠ gd) ∧ (if ys = [] then 0 else n) ≤ c := by
  cases ys with
  | nil => obtain ⟨rfl, rfl⟩ := h; exact ⟨none, 0, rfl, rfl, IReads.nil_, (fun a e => by cases e), Nat.le_refl _⟩
  | cons l r => obtain ⟨rfl, A, c, rfl, hr, hn⟩ := h; exact ⟨A, c, rfl, rfl, hr, hn⟩
def WitPost (a b : List Nd) (n : Nat) (w : World) (e : Ending) (w' : World) : Prop :=
  ∃ A c, e = .returned (.tuple #[.slice A (if pairsL a b n = [] then 0 else n) c, .bool (!(pairsL a b n).isEmpty)]) ∧ IReads w' w'.heap.size A (if pairsL a b n = [] then 0 else n) (headL (pairsL a b n)) ∧ (if pairsL a b n = [] then 0 else n) ≤ c ∧ Below w.heap.size w w'
def dtreesE (a b : List Nd) (fe : Int) : Int := if bothE a b fe = 0 then (if pairsL a b fe.toNat = [] then 5 else 0) else bothE a b fe
/-- what Trees tells: a row of which they differ, where there is one -/
def TreesPost (a b : List Nd) (fe : Int) (w : World) (e : Ending) (w' : World) : Prop :=
  ∃ A n c l, e = .returned (.tuple #[.slice A n c, errV (dtreesE a b fe)]) ∧ IReads w' w'.heap.size A n l ∧ n ≤ c ∧ (dtreesE a b fe = 0 → l = headL (pairsL a b fe.toNat) ∧ (n : Int) = fe) ∧ (dtreesE a b fe ≠ 0 → n = 0) ∧ Below w.heap.size w w'
end Go.Proofs.Ytopncifebldklaa
