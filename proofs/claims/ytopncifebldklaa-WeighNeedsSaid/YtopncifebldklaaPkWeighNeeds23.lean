/- Part 23 of what LawWeighNeeds needs: RefFix, RefGrove2, WSort, WTable, WList. Conditions: as each lemma names. -/
import Derived.Test.YtopncifebldklaaPkWeighNeeds22
import Derived.Test.YtopncifebldklaaPkWeighNeeds21
import Derived.Test.YtopncifebldklaaPkWeighNeeds10
import Derived.Test.YtopncifebldklaaPkWeighNeeds06
import Derived.Test.YtopncifebldklaaPkWeighNeeds02
import Derived.Test.YtopncifebldklaaShelfU
import Derived.Sort.LotA
import Derived.Test.YtopncifebldklaaPkWeighNeeds03
/- Chapter 1 in the references: Fit, Add, Mul, Floor, Round, Total, firsts, Sorted, Mean, Median. Conditions: as each lemma names. -/
namespace Go.Proofs.Ytopncifebldklaa
set_option linter.unusedVariables false
set_option linter.unusedSimpArgs false
open Go.RowKit










end Go.Proofs.Ytopncifebldklaa
/- The references of groves: orchref1.Stand, Each, Together, Between. Conditions: arguments read as groves and rows. -/
namespace Go.Proofs.Ytopncifebldklaa
set_option linter.unusedVariables false
set_option linter.unusedSimpArgs false
open Go.RowKit

set_option maxRecDepth 100000 in
set_option maxHeartbeats 1000000 in
theorem rstand_any (g : Gv) (C : Option Addr) (k q : Nat) (r : List Int) (w : World) (hg : GReads w w.heap.size g) (hr : IReads w w.heap.size C k r) (hk : k ≤ maxLen) :
    Calls Try.prog 10 #[g.val, .slice C k q] w fun e w' => e = .returned (.int .i64 (standE g r)) ∧ Below w.heap.size w w' := by
  obtain ⟨W, hW, bx, hWs, hb0⟩ := gbox w g.f g.way g.Aw g.nw g.cw g.At g.nt g.ct
  have hck := hide (rgrove_any g W ((hg.below hb0).more (by omega)))
  have hrk := hr.len
  obtain ⟨c0, c1, c2, c3⟩ := bx.cells4
  unfold maxLen at hk
  have HK := hide hrk
  have HS : Hid (standE g r = if g.e = 0 then (if rowE r = 0 then (if (r.length : Int) = g.f then 0 else 3) else rowE r) else g.e) := hide rfl
  generalize standE g r = SE at *
  clear hg hrk
  obtain ⟨E, hE⟩ : ∃ E, E = g.e := ⟨_, rfl⟩
  rw [← hE] at hck HS
  clear hE
  obtain ⟨f, way, Aw, nw, cw, ws, At, nt, ct, ts⟩ := g
  simp only [Gv.val] at hck ⊢
  dsimp only at hW bx c0 c1 c2 c3 HS
  go_enter Try.func10, Try.ntmps10
  go_wp2_with fail
  rw [← hW]
  clear hW
  refine (unhide hck).mono ?_
  rintro e w1 ⟨rfl, hb1⟩
  have z1 := hb1.size
  have d0 : w1.cell? ⟨w.heap.size, 0, none⟩ = some (.int .i64 f) := (hb1.cell (p := ⟨w.heap.size, 0, none⟩) (by show w.heap.size < _; omega)).trans c0
  have hB1 := hb0.trans (hb1.mono (by omega))
  have hrc := hide (rrow_any C k q r w1 _ (hr.below hB1) (by unfold maxLen; omega))
  clear hck c0 c1 c2 c3 bx
  by_cases h1 : E = 0
  · have e1 : (E == 0) = true := by simp [h1]
    have HS1 : Hid (SE = (if rowE r = 0 then (if (r.length : Int) = f then 0 else 3) else rowE r)) := hide (by rw [unhide HS, if_pos h1])
    clear h1
    go_wp2_with fail
    refine (unhide hrc).mono ?_
    rintro e w2 ⟨rfl, rfl⟩
    by_cases h2 : rowE r = 0
    · have e2 : (rowE r == 0) = true := by simp [h2]
      have HS2 : Hid (SE = if (r.length : Int) = f then 0 else 3) := hide (by rw [unhide HS1, if_pos h2])
      have H2 := hide h2
      clear h2
      by_cases h3 : (k : Int) = f
      · have HS3 : Hid (SE = 0) := hide (by rw [unhide HS2, unhide HK, if_pos h3])
        have e3 : ((k : Int) != f) = false := by simp [h3]
        clear h3
        go_wp2_with fail
        go_ret
        exact ⟨by rw [unhide HS3]; exact ret_int (unhide H2), hB1⟩
      · have HS3 : Hid (SE = 3) := hide (by rw [unhide HS2, unhide HK, if_neg h3])
        have e3 : ((k : Int) != f) = true := by simp [h3]
        clear h3
        go_wp2_with fail
        go_ret
        exact ⟨by rw [unhide HS3]; rfl, hB1⟩
    · have e2 : (rowE r == 0) = false := by simp [h2]
      have HS2 : Hid (SE = rowE r) := hide (by rw [unhide HS1, if_neg h2])
      clear h2
      go_wp2_with fail
      go_ret
      exact ⟨by rw [unhide HS2]; rfl, hB1⟩
  · have e1 : (E == 0) = false := by simp [h1]
    have HS1 : Hid (SE = E) := hide (by rw [unhide HS, if_neg h1])
    clear h1
    go_wp2_with fail
    go_ret
    exact ⟨by rw [unhide HS1]; rfl, hB1⟩

end Go.Proofs.Ytopncifebldklaa
/- Package weigh: how uses are sorted (slices.SortStableFunc of no more than eight uses, by how many nodes ask). Conditions: a row of the call's own. -/
namespace Go.Proofs.Ytopncifebldklaa
set_option linter.unusedVariables false
set_option linter.unusedSimpArgs false
open Go.RowKit

structure Us where
  f : Int
  n : Int
  g : Int
instance : Inhabited Us := ⟨⟨0, 0, 0⟩⟩
def Us.cells (u : Us) : List Value := [.int .i64 u.f, .int .i64 u.n, .int .i64 u.g]
def UReads (w : World) (B : Nat) (A : Option Addr) (n : Nat) (us : List Us) : Prop := Reads w B 3 A n (us.flatMap Us.cells)
def UOwn (w : World) (base : Nat) (v : Value) (us : List Us) : Prop := w.ownsRow base 36 3 v us.length (us.flatMap Us.cells)
/-- what is told of two uses -/
def cmpU (x y : Us) : Int := Lib.compareInt y.n x.n
def sortU (us : List Us) : List Us := (Sort.insertionSort (Go.Proofs.ltOf cmpU) us.toArray 0 us.length).toList
theorem ltU (x y : Us) : Go.Proofs.ltOf cmpU x y = decide (y.n < x.n) := by
  unfold Go.Proofs.ltOf cmpU Lib.compareInt
  rw [Bool.eq_iff_iff]
  simp only [decide_eq_true_eq]
  repeat' split
  all_goals omega
theorem swoU : Sort.SWO (Go.Proofs.ltOf cmpU) where
  irrefl x := by rw [ltU]; simp
  trans x y z := by simp only [ltU, decide_eq_true_eq]; omega
  ntrans x y z := by simp only [ltU, decide_eq_false_iff_not]; omega
theorem sortU_perm (us : List Us) : (sortU us).Perm us := by
  have h := (Sort.insertionSort_holds (lt := Go.Proofs.ltOf cmpU) swoU us.toArray 0 us.length (Nat.zero_le _) (by simp)).1
  obtain ⟨h1, _, h2⟩ := h
  unfold sortU
  have e : ∀ d : Array Us, d.size = us.length → d.extract 0 us.length = d := fun d hd => by rw [← hd]; exact Array.extract_size
  rw [e _ (by simpa using h1), e _ (by simp)] at h2
  exact h2
theorem sortU_len (us : List Us) : (sortU us).length = us.length := (sortU_perm us).length_eq
theorem sortU_sorted (us : List Us) : (sortU us).Pairwise fun x y => y.n ≤ x.n := by
  have h := (Sort.insertionSort_holds (lt := Go.Proofs.ltOf cmpU) swoU us.toArray 0 us.length (Nat.zero_le _) (by simp)).2
  rw [List.pairwise_iff_getElem]
  intro i j hi hj hij
  have hl := sortU_len us
  have h2 := h i j (Nat.zero_le _) hij (by omega)
  unfold sortU at hi hj ⊢
  rw [ltU, decide_eq_false_iff_not] at h2
  have e : ∀ (d : Array Us) (k : Nat) (hk : k < d.toList.length), d[k]! = d.toList[k] := fun d k hk => by
    rw [getElem!_pos d k (by simpa using hk)]; rfl
  rw [e _ i hi, e _ j hj] at h2
  omega

set_option maxRecDepth 100000 in
theorem uses1_any (x y : Us) (W : World) : Calls Try.prog 16 #[.agg x.cells.toArray, .agg y.cells.toArray] W fun e w' => e = .returned (.int .i64 (cmpU x y)) ∧ w' = Go.Sort.grow W #[.cells x.cells.toArray 36, .cells y.cells.toArray 36] := by
  obtain ⟨x0, x1, x2⟩ := x
  obtain ⟨y0, y1, y2⟩ := y
  have hgr : Go.Sort.grow W #[.cells #[.int .i64 x0, .int .i64 x1, .int .i64 x2] 36, .cells #[.int .i64 y0, .int .i64 y1, .int .i64 y2] 36] = (W.alloc (.cells #[.int .i64 x0, .int .i64 x1, .int .i64 x2] 36)).alloc (.cells #[.int .i64 y0, .int .i64 y1, .int .i64 y2] 36) := by
    unfold Go.Sort.grow World.alloc
    simp
    exact Array.ext' (by simp)
  have b1 := (Blk.new W 36 #[.int .i64 x0, .int .i64 x1, .int .i64 x2]).alloc (.cells #[.int .i64 y0, .int .i64 y1, .int .i64 y2] 36)
  have c1 := b1.cell 1
  simp at c1
  show Calls Try.prog 16 #[.agg #[.int .i64 x0, .int .i64 x1, .int .i64 x2], .agg #[.int .i64 y0, .int .i64 y1, .int .i64 y2]] W fun e w' => e = .returned (.int .i64 (Lib.compareInt y1 x1)) ∧ w' = Go.Sort.grow W #[.cells #[.int .i64 x0, .int .i64 x1, .int .i64 x2] 36, .cells #[.int .i64 y0, .int .i64 y1, .int .i64 y2] 36]
  rw [hgr]
  go_enter Try.func16, Try.ntmps16
  go_wp2_with fail
  refine (Try.cmp_Compare_int y1 x1 _).mono ?_
  rintro e w' ⟨rfl, rfl⟩
  go_wp2_with fail
  go_ret
  exact ⟨rfl, rfl⟩

theorem flatU_at (us : List Us) (j : Nat) (hj : j < us.length * 3) : (us.flatMap Us.cells)[j]? = some ((Go.Sort.flatK Us.cells 3 us.toArray)[j]!) := by
  have hd : j / 3 < us.length := by omega
  have h1 : us[j / 3]? = some us[j / 3] := List.getElem?_eq_getElem hd
  have h2 := flatMap_at Us.cells 3 (fun _ => rfl) us (j / 3) (j % 3) _ h1 (by omega)
  rw [show j / 3 * 3 + j % 3 = j by omega] at h2
  rw [h2, Go.Sort.get_flatK _ _ _ _ (by simpa using hj)]
  have h3 : us.toArray[j / 3]! = us[j / 3] := by simp [hd]
  rw [h3]
  have h4 : j % 3 < (us[j / 3]).cells.length := by show j % 3 < 3; omega
  rw [List.getElem?_eq_getElem h4, getElem!_pos ((us[j / 3]).cells) (j % 3) h4]
theorem UOwn.holds {w : World} {base g cap : Nat} {us : List Us} (h : UOwn w base (.slice (some ⟨g, 0, none⟩) us.length cap) us) : Go.Sort.HoldsK Us.cells 3 w g 0 us.toArray := by
  intro j hj
  rw [Go.Sort.size_flatK] at hj
  have hj' : j < us.length * 3 := by simpa using hj
  refine ⟨?_, by rw [Nat.zero_add]; exact h.frozenAt j⟩
  rw [Nat.zero_add, h.cellAt j hj', flatU_at us j hj']
  rfl
theorem holds_reads {w : World} {g : Nat} {us : List Us} (h : Go.Sort.HoldsK Us.cells 3 w g 0 us.toArray) (hg : g < w.heap.size) : UReads w w.heap.size (some ⟨g, 0, none⟩) us.length us := by
  refine ⟨flatMap_len Us.cells 3 (fun _ => rfl) us, fun _ => ⟨_, rfl, hg, fun j u hu => ?_⟩⟩
  have hj : j < us.length * 3 := by
    have := (List.getElem?_eq_some_iff.1 hu).1
    rwa [flatMap_len Us.cells 3 (fun _ => rfl)] at this
  have h1 := (h j (by rw [Go.Sort.size_flatK]; simpa using hj)).1
  rw [flatU_at us j hj] at hu
  injection hu with hu
  rw [← hu]
  have h2 : w.cell? ⟨g, 0 + j, none⟩ = some ((Go.Sort.flatK Us.cells 3 us.toArray)[j]!) := h1
  rw [show ((⟨g, 0, none⟩ : Addr).add j) = ⟨g, 0 + j, none⟩ by simp [Addr.add]; omega]
  exact h2
theorem grownU {w : World} {g n : Nat} {os : Array Obj} (d : Array Us) : w.grownBy (Go.Proofs.sortWorldK Us.cells 3 w g 0 n d os) (some g) := by
  unfold Go.Proofs.sortWorldK Go.Sort.putRowK
  refine ⟨rfl, rfl, rfl, by simp, fun k hk hne => ?_⟩
  rw [Go.Sort.heap_grow_old _ _ (by simpa using hk)]
  have : g ≠ k := fun e => hne (by rw [e])
  simp [Go.Sort.putRow, Go.Sort.mapBlock, Go.Sort.ahead, Array.getElem?_modify, this]
def SortedPost (us : List Us) (g : Nat) (w : World) (e : Ending) (w' : World) : Prop := e = .returned (.tuple #[]) ∧ UReads w' w'.heap.size (some ⟨g, 0, none⟩) us.length (sortU us) ∧ w.grownBy w' (some g)
set_option maxRecDepth 100000 in
theorem insU_any (us : List Us) (base g cap : Nat) (w : World) (h : UOwn w base (.slice (some ⟨g, 0, none⟩) us.length cap) us) (hg : g < w.heap.size) (hn : us.length ≤ 1000) :
    Calls Try.prog 68 #[.slice (some ⟨g, 0, none⟩) us.length cap, .int .i64 0, .int .i64 us.length, .func (.func 16) #[] #[]] w (SortedPost us g w) := by
  have hH := h.holds
  have hc : Go.Proofs.CmpLays Try.prog 16 #[] Us.cells 3 cmpU g 0 us.toArray.size w := fun m os dk _ x y => by
    refine (uses1_any x y _).mono ?_
    rintro e w' ⟨rfl, rfl⟩
    exact ⟨rfl, 0, _, rfl⟩
  have key := Go.Proofs.AnyQ.insertionSortCmpFunc Try.insU 3 Try.isAgg36 Try.sizeOf36 Us.cells (fun _ => rfl) (fun x u hu => by
      unfold Us.cells at hu
      simp at hu
      rcases hu with rfl | rfl | rfl <;> rfl) cmpU 16 #[] g 0 cap 0 us.length us.toArray w (fun args W => enters_of Try.func16 (by kernel_rfl) rfl args W) hc hH hg (Nat.zero_le _) (by simp) (by simp; omega)
  simp only [List.size_toArray] at key
  refine Calls.mono key ?_
  rintro e w' ⟨rfl, n, os, rfl⟩
  have hgr := grownU (w := w) (g := g) (n := n) (os := os) (Sort.insertionSort (Go.Proofs.ltOf cmpU) us.toArray 0 us.length)
  refine ⟨rfl, ?_, hgr⟩
  have hsz : (Sort.insertionSort (Go.Proofs.ltOf cmpU) us.toArray 0 us.length).size = us.toArray.size := by
    have := sortU_len us
    unfold sortU at this
    simpa using this
  have hh := Go.Proofs.holdsK_sortWorldK_c Us.cells 3 w g 0 us.toArray (Sort.insertionSort (Go.Proofs.ltOf cmpU) us.toArray 0 us.length) n os hH hg hsz
  have e2 : (Sort.insertionSort (Go.Proofs.ltOf cmpU) us.toArray 0 us.length) = (sortU us).toArray := by unfold sortU; simp
  rw [e2] at hh hgr ⊢
  have := holds_reads hh (Nat.lt_of_lt_of_le hg hgr.size)
  rw [sortU_len] at this
  exact this
set_option maxRecDepth 100000 in
theorem stableCmp_any (us : List Us) (base g cap : Nat) (w : World) (h : UOwn w base (.slice (some ⟨g, 0, none⟩) us.length cap) us) (hg : g < w.heap.size) (hn : us.length ≤ 8) :
    Calls Try.prog 60 #[.slice (some ⟨g, 0, none⟩) us.length cap, .int .i64 us.length, .func (.func 16) #[] #[]] w (SortedPost us g w) := by
  have hc := hide (insU_any us base g cap w h hg (by omega))
  obtain ⟨n, hn'⟩ : ∃ n, n = us.length := ⟨_, rfl⟩
  unfold SortedPost at hc
  unfold SortedPost
  rw [← hn'] at hc hn ⊢
  clear h hn'
  have d1 : decide (20 ≤ n) = false := decide_eq_false (by omega)
  have d2 : decide ((20 : Int) ≤ (n : Int)) = false := decide_eq_false (by omega)
  have d3 : decide (20 < n) = false := decide_eq_false (by omega)
  have d4 : decide ((20 : Int) < (n : Int)) = false := decide_eq_false (by omega)
  go_enter Try.func60, Try.ntmps60
  go_wp2_with fail
  go_loopw [7, 8] (fun a b wr => a = .int .i64 0 ∧ b = .int .i64 20 ∧ wr = w) (fun _ _ _ => 0)
  case atStart => exact ⟨rfl, rfl, rfl⟩
  case round =>
    obtain ⟨rfl, rfl, rfl⟩ := hrel
    go_wp2_with fail
    refine (unhide hc).mono ?_
    rintro e w2 ⟨rfl, hr, hb⟩
    go_wp2_with fail
    go_loopw [6, 7, 8, 9] (fun a b c d wr => a = .int .i64 20 ∧ wr = w2) (fun _ _ _ _ _ => 0)
    case atStart => exact ⟨rfl, rfl⟩
    case round =>
      obtain ⟨rfl, rfl⟩ := hrel
      go_wp2_with fail
      go_end0
      exact ⟨rfl, hr, hb⟩
set_option maxRecDepth 100000 in
theorem stableU_any (us : List Us) (base g cap : Nat) (w : World) (h : UOwn w base (.slice (some ⟨g, 0, none⟩) us.length cap) us) (hg : g < w.heap.size) (hn : us.length ≤ 8) :
    Calls Try.prog 34 #[.slice (some ⟨g, 0, none⟩) us.length cap, .func (.func 16) #[] #[]] w (SortedPost us g w) := by
  have hc := hide (stableCmp_any us base g cap w h hg hn)
  obtain ⟨n, hn'⟩ : ∃ n, n = us.length := ⟨_, rfl⟩
  unfold SortedPost at hc
  unfold SortedPost
  rw [← hn'] at hc hn ⊢
  clear h hn'
  go_enter Try.func34, Try.ntmps34
  go_wp2_with fail
  refine (unhide hc).mono ?_
  rintro e w2 ⟨rfl, hr, hb⟩
  go_wp2_with fail
  go_end0
  exact ⟨rfl, hr, hb⟩
set_option maxRecDepth 100000 in
theorem insU_nil (w : World) :
    Calls Try.prog 68 #[.slice none 0 0, .int .i64 0, .int .i64 0, .func (.func 16) #[] #[]] w fun e w' => e = .returned (.tuple #[]) ∧ w' = w := by
  go_enter Try.func68, Try.ntmps68
  go_wp2_with fail
  go_loopw [8] (fun a wr => a = .int .i64 1 ∧ wr = w) (fun _ _ => 0)
  case atStart => exact ⟨rfl, rfl⟩
  case round =>
    obtain ⟨rfl, rfl⟩ := hrel
    go_wp2_with fail
    go_end0
    exact ⟨rfl, rfl⟩
set_option maxRecDepth 100000 in
theorem stableCmp_nil (w : World) :
    Calls Try.prog 60 #[.slice none 0 0, .int .i64 0, .func (.func 16) #[] #[]] w fun e w' => e = .returned (.tuple #[]) ∧ w' = w := by
  go_enter Try.func60, Try.ntmps60
  go_wp2_with fail
  go_loopw [7, 8] (fun a b wr => a = .int .i64 0 ∧ b = .int .i64 20 ∧ wr = w) (fun _ _ _ => 0)
  case atStart => exact ⟨rfl, rfl, rfl⟩
  case round =>
    obtain ⟨rfl, rfl, rfl⟩ := hrel
    go_wp2_with fail
    refine (insU_nil _).mono ?_
    rintro e w2 ⟨rfl, rfl⟩
    go_wp2_with fail
    go_loopw [6, 7, 8, 9] (fun a b c d wr => a = .int .i64 20 ∧ wr = w2) (fun _ _ _ _ _ => 0)
    case atStart => exact ⟨rfl, rfl⟩
    case round =>
      obtain ⟨rfl, rfl⟩ := hrel
      go_wp2_with fail
      go_end0
      exact ⟨rfl, rfl⟩
set_option maxRecDepth 100000 in
theorem stableU_nil (w : World) :
    Calls Try.prog 34 #[.slice none 0 0, .func (.func 16) #[] #[]] w fun e w' => e = .returned (.tuple #[]) ∧ w' = w := by
  go_enter Try.func34, Try.ntmps34
  go_wp2_with fail
  refine (stableCmp_nil _).mono ?_
  rintro e w2 ⟨rfl, rfl⟩
  go_wp2_with fail
  go_end0
  exact ⟨rfl, rfl⟩
end Go.Proofs.Ytopncifebldklaa
/- Package weigh: the table of uses, count. Conditions: as each lemma names. -/
namespace Go.Proofs.Ytopncifebldklaa
set_option linter.unusedVariables false
set_option linter.unusedSimpArgs false
open Go.RowKit

def tabC (T : List Us) : Array Value := (T.flatMap Us.cells).toArray
def stepT (T : List Us) (f : Nat) : List Us := match T[f]? with
  | some u => T.set f ⟨f, u.n + 1, u.g⟩
  | none => T
def oneT (T : List Us) (x : Nd) : List Us := if x.f = -1 then T else stepT T x.f.toNat
def countT (T : List Us) (t : List Nd) : List Us := t.foldl oneT T
theorem stepT_len (T : List Us) (f : Nat) : (stepT T f).length = T.length := by unfold stepT; split <;> simp
theorem oneT_len (T : List Us) (x : Nd) : (oneT T x).length = T.length := by unfold oneT; split; rfl; exact stepT_len _ _
theorem countT_next (T : List Us) {t : List Nd} {k : Nat} {x : Nd} (h : t[k]? = some x) : countT T (t.take (k + 1)) = oneT (countT T (t.take k)) x := by
  unfold countT
  rw [take_next h, List.foldl_append]
  rfl
theorem countT_len (T : List Us) (t : List Nd) : (countT T t).length = T.length := by
  unfold countT
  induction t generalizing T with
  | nil => rfl
  | cons x r ih => rw [List.foldl_cons, ih, oneT_len]
def Small (T : List Us) (b : Int) : Prop := ∀ u ∈ T, 0 ≤ u.n ∧ u.n ≤ b
theorem Small.step {T : List Us} {b : Int} (h : Small T b) (f : Nat) : Small (stepT T f) (b + 1) := by
  intro u hu
  unfold stepT at hu
  split at hu
  · rename_i v hv
    rcases List.mem_or_eq_of_mem_set hu with hu | rfl
    · have := h u hu; omega
    · have := h v (List.mem_of_getElem? hv)
      dsimp only
      omega
  · have := h u hu; omega
theorem Small.one {T : List Us} {b : Int} (h : Small T b) (x : Nd) : Small (oneT T x) (b + 1) := by
  unfold oneT
  split
  · intro u hu; have := h u hu; omega
  · exact h.step _
theorem flat_set {T : List Us} {f r : Nat} {u v : Us} {z : Value} (hu : T[f]? = some u) (hr : r < 3) (he : u.cells.set r z = v.cells) : (tabC T).setIfInBounds (f * 3 + r) z = tabC (T.set f v) := by
  have hf : f < T.length := (List.getElem?_eq_some_iff.1 hu).1
  have e1 : T = T.take f ++ u :: T.drop (f + 1) := by
    have := List.getElem?_eq_some_iff.1 hu
    rw [← this.2, List.getElem_cons_drop, List.take_append_drop]
  have e2 : T.set f v = T.take f ++ v :: T.drop (f + 1) := by rw [List.set_eq_take_append_cons_drop, if_pos hf]
  have e3 : (T.take f).length = f := by rw [List.length_take]; omega
  have hl := flatMap_len Us.cells 3 (fun _ => rfl) (T.take f)
  unfold tabC
  rw [List.setIfInBounds_toArray]
  congr 1
  rw [e2]
  have key : ((T.take f ++ u :: T.drop (f + 1)).flatMap Us.cells).set (f * 3 + r) z = (T.take f ++ v :: T.drop (f + 1)).flatMap Us.cells := by
    rw [List.flatMap_append, List.flatMap_append, List.set_append_right _ _ (by omega)]
    congr 1
    rw [List.flatMap_cons, List.flatMap_cons, hl, e3, show f * 3 + r - f * 3 = r by omega, List.set_append_left _ _ (by show r < 3; exact hr), he]
  rw [← key, ← e1]
theorem tab_at {T : List Us} {f r : Nat} {u : Us} (hu : T[f]? = some u) (hr : r < 3) : (tabC T)[f * 3 + r]? = u.cells[r]? := by
  unfold tabC
  rw [List.getElem?_toArray]
  exact flatMap_at Us.cells 3 (fun _ => rfl) T f r u hu hr
theorem wp_nameT {P : Program} {c : Code} {Q : Exit → Act → World → Prop} {a : Act} {W : World} (h : ∀ X, X = W → Code.wp P c Q a X) : Code.wp P c Q a W := h W rfl
theorem post_nameT {Q : Exit → Act → World → Prop} {x : Exit} {a : Act} {W : World} (h : ∀ X, X = W → Q x a X) : Q x a W := h W rfl

set_option maxRecDepth 100000 in
set_option maxHeartbeats 4000000 in
theorem count_any (g : Nat) (A : Option Addr) (m d B : Nat) (t : List Nd) (T : List Us) (w : World) (hT : T.length = 8) (hS : Small T 100000) (hb : Blk w g 53 (tabC T)) (ht : NReads w B A m t) (hB : B ≤ g) (hm : m ≤ 100000)
    (hf : ∀ (i : Nat) x, t[i]? = some x → x.f ≠ -1 → 0 ≤ x.f ∧ x.f < 8) :
    Calls Try.prog 14 #[.pointer (some ⟨g, 0, none⟩), .slice A m d] w fun e w' => e = .returned (.tuple #[]) ∧ Blk w' g 53 (tabC (countT T t)) ∧ w.grownBy w' (some g) := by
  have hlen := ht.len
  have hgl := hb.lt
  go_enter Try.func14, Try.ntmps14
  go_wp2_with fail
  go_loopw [8] (fun i wr => ∃ k : Nat, k ≤ m ∧ i = .int .i64 k ∧ Blk wr g 53 (tabC (countT T (t.take k))) ∧ Hid (Small (countT T (t.take k)) (100000 + k)) ∧ w.grownBy wr (some g)) (fun i _ => m - (intOf i).toNat)
  case atStart => exact ⟨0, Nat.zero_le _, rfl, by simpa [countT] using hb, hide (by simpa [countT] using hS), World.grownBy.refl _ _⟩
  case round =>
    clear hb
    obtain ⟨k, hk, rfl, bT, HS, hgr⟩ := hrel
    have hsz := hgr.size
    by_cases hlt : k < m
    · have hne : ∀ a, A = some a → (some g : Option Nat) ≠ some a.block := fun a e h => by
        obtain ⟨ad, e', hbd, _⟩ := ht.2 (by omega)
        rw [e] at e'; injection e' with e'; subst e'
        injection h with h
        omega
      have htr : NReads wr B A m t := ⟨ht.1, fun hn => by
        obtain ⟨ad, e, hbd, hc⟩ := ht.2 hn
        refine ⟨ad, e, hbd, fun j u hu => ?_⟩
        rw [← hc j u hu]
        exact World.cell?_of_block (by rw [block_of_add]; exact hgr.block ad.block (by omega) (fun h' => hne ad e h'.symm))⟩
      obtain ⟨b, o, x, rfl, hbb, hx, c0, c1, c2, c3, c4, c5⟩ := htr.get hlt
      have HN := hide (countT_next T hx)
      by_cases hxf : x.f = -1
      · have HN2 : Hid (countT T (t.take (k + 1)) = countT T (t.take k)) := hide (by rw [unhide HN]; unfold oneT; rw [if_pos hxf])
        obtain ⟨xf, xc, xl, xr, xs, xv⟩ := x
        dsimp only at hxf c0 c1 c2 c3 c4 c5
        subst hxf
        have hgA := only_alloc hgr (.cells #[.int .i64 (-1), .int .i64 xc, .int .i64 xl, .int .i64 xr, .bool xs, .int .i64 xv] 29)
        have bA := bT.alloc (.cells #[.int .i64 (-1), .int .i64 xc, .int .i64 xl, .int .i64 xr, .bool xs, .int .i64 xv] 29)
        clear hx bT hgr htr hne
        go_wp2_with fail
        go_roundw
        case rel => exact ⟨k + 1, by omega, by go_num, by rw [unhide HN2]; exact bA, hide (by rw [unhide HN2]; intro u hu; have := unhide HS u hu; omega), hgA⟩
        case measure => simp [intOf]; omega
      · obtain ⟨f, hfe⟩ : ∃ f : Nat, x.f = f := ⟨x.f.toNat, by have := hf k x hx hxf; omega⟩
        have hf8 : f < 8 := by have := hf k x hx hxf; omega
        have hTl := countT_len T (t.take k)
        obtain ⟨u, hu⟩ : ∃ u, (countT T (t.take k))[f]? = some u := ⟨_, List.getElem?_eq_getElem (by omega)⟩
        have HN2 : Hid (countT T (t.take (k + 1)) = (countT T (t.take k)).set f ⟨f, u.n + 1, u.g⟩) := hide (by rw [unhide HN]; unfold oneT stepT; rw [if_neg hxf, hfe, Int.toNat_natCast, hu])
        have HS2 : Hid (Small (countT T (t.take (k + 1))) (100000 + ((k + 1 : Nat) : Int))) := hide (by rw [unhide HN]; have := (unhide HS).one x; rw [show (100000 : Int) + ((k + 1 : Nat) : Int) = 100000 + (k : Int) + 1 by omega]; exact this)
        have hub := unhide HS u (List.mem_of_getElem? hu)
        have hnf : (x.f != -1) = true := by simpa using hxf
        obtain ⟨xf, xc, xl, xr, xs, xv⟩ := x
        dsimp only at hxf hfe hnf c0 c1 c2 c3 c4 c5
        subst hfe
        obtain ⟨TT, hTT⟩ : ∃ TT, TT = countT T (t.take k) := ⟨_, rfl⟩
        rw [← hTT] at bT hu HN2
        obtain ⟨u0, u1, u2⟩ := u
        dsimp only at hub HN2
        clear hx htr hne hxf hTT HN hTl
        go_upto_region 4 with (fail)
        refine wp_nameT fun W1 hW1 => ?_
        have bN1 : Blk W1 wr.heap.size 29 #[.int .i64 f, .int .i64 xc, .int .i64 xl, .int .i64 xr, .bool xs, .int .i64 xv] := by rw [hW1]; exact Blk.new _ _ _
        have bT1 := bT.alloc (.cells #[.int .i64 f, .int .i64 xc, .int .i64 xl, .int .i64 xr, .bool xs, .int .i64 xv] 29)
        have hg1 := only_alloc hgr (.cells #[.int .i64 f, .int .i64 xc, .int .i64 xl, .int .i64 xr, .bool xs, .int .i64 xv] 29)
        rw [← hW1] at bT1 hg1
        have hgn : g ≠ wr.heap.size := by have := bT.lt; omega
        clear hW1 bT hgr c0 c1 c2 c3 c4 c5
        have a0 := bN1.cell 0
        simp at a0
        have t0 : W1.cell? ⟨g, f * 3, none⟩ = some (.int .i64 u0) := by rw [bT1.cell, show f * 3 = f * 3 + 0 by omega, tab_at hu (by omega)]; rfl
        have f0 := bT1.frozen (f * 3)
        have bT2 := (bT1.set_ (f * 3 + 0) (.int .i64 f)).drew
        rw [flat_set hu (v := ⟨f, u1, u2⟩) (by omega) rfl, Nat.add_zero] at bT2
        have bN2 := (bN1.far (p := ⟨g, f * 3, none⟩) (Ne.symm hgn) (.int .i64 f)).drew
        have hg2 := only_drew (only_setCell hg1 (p := ⟨g, f * 3, none⟩) (.inl rfl) (.int .i64 f))
        have hu2 : (TT.set f ⟨f, u1, u2⟩)[f]? = some ⟨f, u1, u2⟩ := List.getElem?_set_self (List.getElem?_eq_some_iff.1 hu).1
        have HT2 := hide bT2
        have HN3 := hide bN2
        have HG2 := hide hg2
        clear bT2 bN2 hg2 bT1 bN1 hg1
        go_region
        refine post_nameT fun W2 hW2 => ?_
        rw [← hW2] at HT2 HN3 HG2
        clear hW2 t0 f0 a0
        obtain ⟨T2, hT2⟩ : ∃ T2, T2 = TT.set f ⟨f, u1, u2⟩ := ⟨_, rfl⟩
        rw [← hT2] at HT2 hu2
        have HT2e := hide hT2
        clear hT2
        have a0 := (unhide HN3).cell 0
        simp at a0
        have t1 : W2.cell? ⟨g, f * 3 + 1, none⟩ = some (.int .i64 u1) := by rw [(unhide HT2).cell, tab_at hu2 (by omega)]; rfl
        have f1 := (unhide HT2).frozen (f * 3 + 1)
        have bT3 := ((unhide HT2).set_ (f * 3 + 1) (.int .i64 (u1 + 1))).drew
        rw [flat_set hu2 (v := ⟨f, u1 + 1, u2⟩) (by omega) rfl] at bT3
        have hg3 := only_drew (only_setCell (unhide HG2) (p := ⟨g, f * 3 + 1, none⟩) (.inl rfl) (.int .i64 (u1 + 1)))
        have HT3 := hide bT3
        have HG3 := hide hg3
        have HFIN : Hid (T2.set f ⟨f, u1 + 1, u2⟩ = countT T (t.take (k + 1))) := hide (by rw [unhide HN2, unhide HT2e, List.set_set])
        clear bT3 hg3 HT2 HG2 HN3 hu hu2
        go_wp2_with fail
        go_region
        refine post_nameT fun W3 hW3 => ?_
        rw [← hW3] at HT3 HG3
        clear hW3 t1 f1 a0
        go_wp2_with fail
        go_roundw
        case rel => exact ⟨k + 1, by omega, by go_num, by rw [← unhide HFIN]; exact unhide HT3, HS2, unhide HG3⟩
        case measure => simp [intOf]; omega
    · obtain rfl : k = m := by omega
      rw [List.take_of_length_le (by omega)] at bT
      go_wp2_with fail
      go_end0
      exact ⟨rfl, bT, hgr⟩
end Go.Proofs.Ytopncifebldklaa
/- Package weigh: the list of a table. Conditions: as each lemma names. -/
namespace Go.Proofs.Ytopncifebldklaa
set_option linter.unusedVariables false
set_option linter.unusedSimpArgs false
open Go.RowKit

def usedT (T : List Us) : List Us := T.filter fun u => decide (0 < u.n)
def listT (T : List Us) : List Us := sortU (usedT T)
theorem usedT_next {T : List Us} {k : Nat} {u : Us} (h : T[k]? = some u) : usedT (T.take (k + 1)) = usedT (T.take k) ++ if 0 < u.n then [u] else [] := by
  unfold usedT
  rw [take_next h, List.filter_append]
  congr 1
  by_cases hu : 0 < u.n <;> simp [hu]
theorem usedT_len (T : List Us) : (usedT T).length ≤ T.length := List.length_filter_le _ _
theorem elem_use : Elem Try.prog 30 36 (.agg #[.int .i64 0, .int .i64 0, .int .i64 0]) 3 24 := ⟨Try.underlying30, by kernel_rfl, rfl, by omega, by omega⟩
theorem use_one (u : Us) : ∀ v ∈ u.cells, v.oneCell' = true := by
  intro v hv
  unfold Us.cells at hv
  simp at hv
  rcases hv with rfl | rfl | rfl <;> rfl
theorem UOwn.nil_ (w : World) (base : Nat) : UOwn w base (.slice none 0 0) [] := World.ownsRow_nil _ _ _ _
def UListPost (L : List Us) (w : World) (e : Ending) (w' : World) : Prop := ∃ A c, e = .returned (.slice A L.length c) ∧ UReads w' w'.heap.size A L.length L ∧ Below w.heap.size w w'

set_option maxRecDepth 100000 in
set_option maxHeartbeats 4000000 in
theorem wlist_any (g : Nat) (T : List Us) (w : World) (hT : T.length = 8) (hb : Blk w g 53 (tabC T)) :
    Calls Try.prog 15 #[.pointer (some ⟨g, 0, none⟩), .func (.func 16) #[] #[]] w (UListPost (listT T) w) := by
  have hgl := hb.lt
  go_enter Try.func15, Try.ntmps15
  go_wp2_with fail
  go_loopw [5, 10] (fun v i wr => ∃ k : Nat, k ≤ 8 ∧ i = .int .i64 k ∧ Hid (UOwn wr w.heap.size v (usedT (T.take k))) ∧ Below w.heap.size w wr) (fun _ i _ => 8 - (intOf i).toNat)
  case atStart => exact ⟨0, Nat.zero_le _, rfl, hide (by simpa [usedT] using UOwn.nil_ _ _), Below.refl _ _⟩
  case round =>
    obtain ⟨k, hk, rfl, HO, hbel⟩ := hrel
    have hsz := hbel.size
    by_cases hlt : k < 8
    · obtain ⟨u, hu⟩ : ∃ u, T[k]? = some u := ⟨_, List.getElem?_eq_getElem (by omega)⟩
      have bT := hb.below hbel hgl
      have HN := hide (usedT_next hu)
      have hul := usedT_len (T.take k)
      have hkl : (T.take k).length ≤ k := List.length_take_le _ _
      have c0 : wr.cell? ⟨g, k * 3, none⟩ = some (.int .i64 u.f) := by rw [bT.cell, show k * 3 = k * 3 + 0 by omega, tab_at hu (by omega)]; rfl
      have c1 : wr.cell? ⟨g, k * 3 + 1, none⟩ = some (.int .i64 u.n) := by rw [bT.cell, tab_at hu (by omega)]; rfl
      have c2 : wr.cell? ⟨g, k * 3 + 2, none⟩ = some (.int .i64 u.g) := by rw [bT.cell, tab_at hu (by omega)]; rfl
      obtain ⟨L, hL⟩ : ∃ L, L = usedT (T.take k) := ⟨_, rfl⟩
      rw [← hL] at HN hul HO
      have hown : wr.ownsRow w.heap.size 36 3 _ L.length (L.flatMap Us.cells) := unhide HO
      obtain ⟨u0, u1, u2⟩ := u
      dsimp only at c0 c1 c2 HN
      have hownA := hown.alloc (.cells #[.int .i64 u0, .int .i64 u1, .int .i64 u2] 36)
      have hbA := hbel.alloc hsz (.cells #[.int .i64 u0, .int .i64 u1, .int .i64 u2] 36)
      have hzA : w.heap.size ≤ (wr.alloc (.cells #[.int .i64 u0, .int .i64 u1, .int .i64 u2] 36)).heap.size := by rw [World.size_alloc]; omega
      have hL9 : L.length < 1000000000 := by omega
      clear hu hL hown HO bT hbel
      by_cases hp : 0 < u1
      · have HN2 : Hid (usedT (T.take (k + 1)) = L ++ [⟨u0, u1, u2⟩]) := hide (by rw [unhide HN, if_pos hp])
        have d1 : decide (0 < u1) = true := decide_eq_true hp
        clear HN hp
        go_wp2_with (at_builtin; refine app_one elem_use (.tmp 18) (.tmp 20) [.int .i64 u0, .int .i64 u1, .int .i64 u2] rfl rfl rfl hownA rfl (World.size_alloc _ _) rfl (use_one ⟨u0, u1, u2⟩) hL9 hzA ?_; intro v2 w2 hown2 hb2 _ _)
        have hown3 : UOwn w2 w.heap.size v2 (usedT (T.take (k + 1))) := by
          rw [unhide HN2]
          unfold UOwn
          rw [List.length_append, List.flatMap_append]
          exact hown2
        clear hown2 hownA
        go_wp2_with fail
        go_roundw
        case rel => exact ⟨k + 1, by omega, by go_num, hide hown3, hbA.trans hb2⟩
        case measure => simp [intOf] <;> omega
      · have HN2 : Hid (usedT (T.take (k + 1)) = L) := hide (by rw [unhide HN, if_neg hp, List.append_nil])
        have d1 : decide (0 < u1) = false := decide_eq_false hp
        clear HN hp
        go_wp2_with fail
        go_roundw
        case rel => exact ⟨k + 1, by omega, by go_num, hide (by rw [unhide HN2]; exact hownA), hbA⟩
        case measure => simp [intOf] <;> omega
    · obtain rfl : k = 8 := by omega
      have e8 : T.take 8 = T := List.take_of_length_le (by omega)
      rw [e8] at HO
      have hul := usedT_len T
      have hsl := sortU_len (usedT T)
      rcases (unhide HO).2 with ⟨rfl, h0⟩ | ⟨q, cap, cur, rfl, hq, hblk, hcap, _⟩
      · have hnil : usedT T = [] := List.length_eq_zero_iff.1 h0
        have hL : Hid (listT T = []) := hide (by unfold listT; rw [hnil]; rw [hnil] at hsl; exact List.length_eq_zero_iff.1 hsl)
        clear HO hul hsl h0 hnil
        go_wp2_with fail
        refine (stableU_nil wr).mono ?_
        rintro e w2 ⟨rfl, rfl⟩
        go_wp2_with fail
        go_ret
        unfold UListPost
        rw [unhide hL]
        exact ⟨none, 0, rfl, ⟨rfl, fun h => absurd h (by simp)⟩, hbel⟩
      · have hql : q < wr.heap.size := (Array.getElem?_eq_some_iff.1 hblk).1
        have hc := hide (stableU_any (usedT T) w.heap.size q cap wr (unhide HO) hql (by omega))
        unfold SortedPost at hc
        obtain ⟨n, hn⟩ : ∃ n, n = (usedT T).length := ⟨_, rfl⟩
        have HLl : Hid ((listT T).length = n) := hide (by unfold listT; rw [hsl, hn])
        rw [← hn] at hc ⊢
        clear HO hul hsl hblk hcap hn
        go_wp2_with fail
        refine (unhide hc).mono ?_
        rintro e w2 ⟨rfl, hr, hg2⟩
        go_wp2_with fail
        go_ret
        exact ⟨some ⟨q, 0, none⟩, cap, by rw [unhide HLl]; rfl, by rw [unhide HLl]; exact hr, hbel.grown hg2 hsz (fun z hz => by injection hz with hz; omega)⟩
end Go.Proofs.Ytopncifebldklaa
