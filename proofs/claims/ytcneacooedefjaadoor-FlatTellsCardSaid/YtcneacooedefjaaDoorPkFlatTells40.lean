/- Part 40 of what LawFlatTells needs: FlatTellsQ. Conditions: as each lemma names. -/
import Derived.Test.YtcneacooedefjaaDoorPkFlatTells36
import Derived.Test.YtcneacooedefjaaDoorPkFlatTells37
import Derived.Test.YtcneacooedefjaaDoorPkFlatTells39
/- FlatTells: plain words, and small contracts. Conditions: as each lemma names. -/
namespace Go.Proofs.YtcneacooedefjaaDoor
set_option linter.unusedVariables false
set_option linter.unusedSimpArgs false
open Go.RowKit

theorem manyE_snoc (g : Gv) : ∀ (l : List (List Int)) (r : List Int), manyE g (l ++ [r]) = if manyE g l = 0 then standE g r else manyE g l := by
  intro l
  induction l with
  | nil =>
    intro r
    show (if standE g r = 0 then manyE g [] else standE g r) = if manyE g [] = 0 then standE g r else manyE g []
    have h0 : manyE g [] = 0 := rfl
    rw [h0]
    by_cases h : standE g r = 0
    · simp [h]
    · simp [h]
  | cons x l ih =>
    intro r
    simp only [List.cons_append, manyE, ih]
    by_cases h : standE g x = 0
    · simp only [if_pos h]
    · simp only [if_neg h]
theorem manyE_take {g : Gv} {l : List (List Int)} {k : Nat} {r : List Int} (h : l[k]? = some r) : manyE g (l.take (k + 1)) = if manyE g (l.take k) = 0 then standE g r else manyE g (l.take k) := by
  rw [take_next h, manyE_snoc]

def oneT : List Nd := [⟨-1, 0, 0, 0, false, 7⟩]
def oneG (A B C : Nat) : Gv := ⟨0, 1, some ⟨A, 0, none⟩, 1, 1, [2], some ⟨B, 0, none⟩, 1, 1, [⟨some ⟨C, 0, none⟩, 1, 1, oneT⟩]⟩
theorem one_e (A B C : Nat) : (oneG A B C).e = 0 := by
  show groveE 0 1 [2] [oneT] = 0
  rfl
theorem one_stand (A B C : Nat) : standE (oneG A B C) [] = 0 := by
  unfold standE
  rw [if_pos (one_e A B C)]
  rfl
theorem one_val (A B C : Nat) : gevalV (oneG A B C) [] = 14 := by
  unfold gevalV
  rw [if_pos (one_stand A B C)]
  show togV 1 [2] [7] = 14
  unfold togV
  rw [if_pos rfl]
  rfl
theorem one_size (A B C : Nat) : (flL (oneG A B C).trees).length = 1 := by
  have hR : Right oneT 0 := right_of rfl
  have h1 := flPre_succ (ts := [oneT]) (k := 0) rfl hR
  exact h1
/-- the levels of a grove -/
theorem Bag.addNew {w0 w w' : World} {base : Nat} {rs ps : List BRow} {bs : List Bk} (h : Bag w0 w base rs ps bs) (hb : Below w.heap.size w w') {e : TypeId} {z n : Nat} {v : Value} {xs : List Value} (ho : w'.ownsRow w.heap.size e z v n xs) : Bag w0 w' base (⟨e, z, v, n, xs⟩ :: rs) ps bs := by
  have h' := h.below hb
  refine ⟨fun r hr => ?_, List.pairwise_cons.2 ⟨fun r hr k hk e => ?_, h'.apart⟩, h'.blk, fun r hr b hb' e => ?_, h'.bne, h'.low, h'.bel⟩
  · rcases List.mem_cons.1 hr with rfl | hr
    · exact own_low ho h.low
    · exact h'.own r hr
  · have h1 := own_block_ge ho k hk
    have h2 := ((h.own r hr).lt k e).2
    omega
  · rcases List.mem_cons.1 hr with rfl | hr
    · have h1 := own_block_ge ho _ e
      have h2 := (h.blk b hb').1.lt
      omega
    · exact h'.ne r hr b hb' e
def LBag (w0 w : World) (base gb : Nat) (f way : Int) (Aw : Option Addr) (nw cw : Nat) (At : Option Addr) (j ct : Nat) (trs : List Tr) : Prop :=
  ∃ kr : List BRow, (∀ r ∈ trs, trow r ∈ kr) ∧ Bag w0 w base (⟨42, 1, .slice At j ct, j, trs.map Tr.val⟩ :: kr) [] [⟨gb, 25, #[.int .i64 f, .int .i64 way, .slice Aw nw cw, .slice At j ct]⟩]
theorem lbag_next {w0 w : World} {base gb : Nat} {f way : Int} {Aw : Option Addr} {nw cw : Nat} {At A9 : Option Addr} {j ct c9 : Nat} {trs : List Tr} {r : Tr} {kr ps : List BRow} (h1 : ∀ r ∈ trs, trow r ∈ kr)
    (h : Bag w0 w base ((trow r :: ⟨42, 1, .slice At j ct, j, trs.map Tr.val⟩ :: kr).set 1 ⟨42, 1, .slice A9 (j + 1) c9, j + 1, trs.map Tr.val ++ [r.val]⟩) ps [⟨gb, 25, #[.int .i64 f, .int .i64 way, .slice Aw nw cw, .slice At j ct]⟩]) :
    LBag w0 (w.setCell ⟨gb, 3, none⟩ (.slice A9 (j + 1) c9)) base gb f way Aw nw cw A9 (j + 1) c9 (trs ++ [r]) := by
  refine ⟨trow r :: kr, fun s hs => ?_, ?_⟩
  · rcases List.mem_append.1 hs with hs | hs
    · exact List.mem_cons_of_mem _ (h1 s hs)
    · rw [List.mem_singleton.1 hs]; exact List.mem_cons_self ..
  · rw [List.map_append]
    exact ((h.store 0 3 (.slice A9 (j + 1) c9) rfl).forget).swap
theorem lbag_reads {w0 w : World} {base gb B : Nat} {f way : Int} {Aw : Option Addr} {nw cw : Nat} {ws : List Int} {At : Option Addr} {j ct : Nat} {trs : List Tr} (h : LBag w0 w base gb f way Aw nw cw At j ct trs) (hw : IReads w0 B Aw nw ws) (hB : B ≤ base) (hnw : nw ≤ maxLen) (hnil : Aw = none → cw = 0) :
    GReads w w.heap.size ⟨f, way, Aw, nw, cw, ws, At, j, ct, trs⟩ := by
  obtain ⟨kr, h1, h⟩ := h
  have ho := h.own _ (List.mem_append_left _ (List.mem_cons_self ..))
  refine ⟨(hw.below (h.bel.mono hB)).more (Nat.le_trans hB h.low), ⟨Reads.of_own ho, fun r hr => ?_⟩, hnw, own_len ho, hnil, fun e => ?_⟩
  · have hr' := h.own _ (List.mem_append_left _ (List.mem_cons_of_mem _ (h1 r hr)))
    refine ⟨Reads.of_own hr', own_len hr', fun e => ?_⟩
    simp only [trow, Tr.val] at hr'
    rw [e] at hr'
    exact (own_nil hr').1
  · dsimp only at e ho
    rw [e] at ho
    exact (own_nil ho).1
theorem one_reads (W : World) (z : Nat) (hz : W.heap.size = z) : ∃ X, X = ((W.alloc (.cells #[.int .i64 (-1), .int .i64 0, .int .i64 0, .int .i64 0, .bool false, .int .i64 7] 41)).alloc (.cells #[.int .i64 2] 3)).alloc (.cells #[.slice (some ⟨z, 0, none⟩) 1 1] 42) ∧
    GReads X X.heap.size (oneG (z + 1) (z + 1 + 1) z) ∧ Below W.heap.size W X := by
  refine ⟨_, rfl, ?_, (((Below.refl _ _).alloc (Nat.le_refl _) _).alloc (by simp) _).alloc (by simp <;> omega) _⟩
  subst hz
  have h1 : NReads (W.alloc (.cells #[.int .i64 (-1), .int .i64 0, .int .i64 0, .int .i64 0, .bool false, .int .i64 7] 41)) (W.heap.size + 1) (some ⟨W.heap.size, 0, none⟩) 1 oneT := Reads.new_ W 6 1 [.int .i64 (-1), .int .i64 0, .int .i64 0, .int .i64 0, .bool false, .int .i64 7] 41 rfl
  have h2 := Reads.new_ (W.alloc (.cells #[.int .i64 (-1), .int .i64 0, .int .i64 0, .int .i64 0, .bool false, .int .i64 7] 41)) 1 1 [.int .i64 2] 3 rfl
  have h3 := Reads.new_ ((W.alloc (.cells #[.int .i64 (-1), .int .i64 0, .int .i64 0, .int .i64 0, .bool false, .int .i64 7] 41)).alloc (.cells #[.int .i64 2] 3)) 1 1 [.slice (some ⟨W.heap.size, 0, none⟩) 1 1] 42 rfl
  simp only [World.size_alloc] at h1 h2 h3
  refine ⟨?_, ⟨?_, fun r hr => ?_⟩, by unfold maxLen; show 1 ≤ _; omega, by unfold maxLen; show 1 ≤ _; omega, (fun e => by cases e), (fun e => by cases e)⟩
  · exact (Reads.alloc h2 (by simp) _).more (by simp)
  · exact h3.more (by simp)
  · have hr : r = ⟨some ⟨W.heap.size, 0, none⟩, 1, 1, oneT⟩ := by
      have h : r ∈ [(⟨some ⟨W.heap.size, 0, none⟩, 1, 1, oneT⟩ : Tr)] := hr
      simpa using h
    subst hr
    refine ⟨?_, by unfold maxLen; show 1 ≤ _; omega, (fun e => by cases e)⟩
    exact (Reads.alloc (Reads.alloc h1 (by simp) _) (by simp) _).more (by simp <;> omega)
end Go.Proofs.YtcneacooedefjaaDoor
