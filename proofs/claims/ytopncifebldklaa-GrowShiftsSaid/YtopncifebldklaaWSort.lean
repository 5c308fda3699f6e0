/- Package weigh: how uses are sorted (slices.SortStableFunc of no more than eight uses, by how many nodes ask). Conditions: a row of the call's own. -/
import Derived.Test.YtopncifebldklaaInts
import Derived.Test.YtopncifebldklaaRow2
import Derived.Test.YtopncifebldklaaShelfU
import Derived.Sort.LotA
namespace Go.Proofs.Ytopncifebldklaa
set_option linter.unusedVariables false
set_option linter.unusedSimpArgs false
open Go.RowKit

structure Us where
  f : Int
  n : Int
  g : Int
instance : Inhabited Us := ⟨⟨0, 0, 0⟩⟩
def Us.cells (u : Us) : List Value := [.int .i64 u.f, .int .i64 u.n, .int .i64 u.g]
def UReads (w : World) (B : Nat) (A : Option Addr) (n : Nat) (us : List Us) : Prop := Reads w B 3 A n (us.flatMap Us.cells)
def UOwn (w : World) (base : Nat) (v : Value) (us : List Us) : Prop := w.ownsRow base 36 3 v us.length (us.flatMap Us.cells)
/-- what is told of two uses -/
def cmpU (x y : Us) : Int := Lib.compareInt y.n x.n
def sortU (us : List Us) : List Us := (Sort.insertionSort (Go.Proofs.ltOf cmpU) us.toArray 0 us.length).toList
theorem ltU (x y : Us) : Go.Proofs.ltOf cmpU x y = decide (y.n < x.n) := by
  unfold Go.Proofs.ltOf cmpU Lib.compareInt
  rw [Bool.eq_iff_iff]
  simp only [decide_eq_true_eq]
  repeat' split
  all_goals omega
theorem swoU : Sort.SWO (Go.Proofs.ltOf cmpU) where
  irrefl x := by rw [ltU]; simp
  trans x y z := by simp only [ltU, decide_eq_true_eq]; omega
  ntrans x y z := by simp only [ltU, decide_eq_false_iff_not]; omega
theorem sortU_perm (us : List Us) : (sortU us).Perm us := by
  have h := (Sort.insertionSort_holds (lt := Go.Proofs.ltOf cmpU) swoU us.toArray 0 us.length (Nat.zero_le _) (by simp)).1
  obtain ⟨h1, _, h2⟩ := h
  unfold sortU
  have e : ∀ d : Array Us, d.size = us.length → d.extract 0 us.length = d := fun d hd => by rw [← hd]; exact Array.extract_size
  rw [e _ (by simpa using h1), e _ (by simp)] at h2
  exact h2
theorem sortU_len (us : List Us) : (sortU us).length = us.length := (sortU_perm us).length_eq
theorem sortU_sorted (us : List Us) : (sortU us).Pairwise fun x y => y.n ≤ x.n := by
  have h := (Sort.insertionSort_holds (lt := Go.Proofs.ltOf cmpU) swoU us.toArray 0 us.length (Nat.zero_le _) (by simp)).2
  rw [List.pairwise_iff_getElem]
  intro i j hi hj hij
  have hl := sortU_len us
  have h2 := h i j (Nat.zero_le _) hij (by omega)
  unfold sortU at hi hj ⊢
  rw [ltU, decide_eq_false_iff_not] at h2
  have e : ∀ (d : Array Us) (k : Nat) (hk : k < d.toList.length), d[k]! = d.toList[k] := fun d k hk => by
    rw [getElem!_pos d k (by simpa using hk)]; rfl
  rw [e _ i hi, e _ j hj] at h2
  omega

set_option maxRecDepth 100000 in
theorem uses1_any (x y : Us) (W : World) : Calls Try.prog 16 #[.agg x.cells.toArray, .agg y.cells.toArray] W fun e w' => e = .returned (.int .i64 (cmpU x y)) ∧ w' = Go.Sort.grow W #[.cells x.cells.toArray 36, .cells y.cells.toArray 36] := by
  obtain ⟨x0, x1, x2⟩ := x
  obtain ⟨y0, y1, y2⟩ := y
  have hgr : Go.Sort.grow W #[.cells #[.int .i64 x0, .int .i64 x1, .int .i64 x2] 36, .cells #[.int .i64 y0, .int .i64 y1, .int .i64 y2] 36] = (W.alloc (.cells #[.int .i64 x0, .int .i64 x1, .int .i64 x2] 36)).alloc (.cells #[.int .i64 y0, .int .i64 y1, .int .i64 y2] 36) := by
    unfold Go.Sort.grow World.alloc
    simp
    exact Array.ext' (by simp)
  have b1 := (Blk.new W 36 #[.int .i64 x0, .int .i64 x1, .int .i64 x2]).alloc (.cells #[.int .i64 y0, .int .i64 y1, .int .i64 y2] 36)
  have c1 := b1.cell 1
  simp at c1
  show Calls Try.prog 16 #[.agg #[.int .i64 x0, .int .i64 x1, .int .i64 x2], .agg #[.int .i64 y0, .int .i64 y1, .int .i64 y2]] W fun e w' => e = .returned (.int .i64 (Lib.compareInt y1 x1)) ∧ w' = Go.Sort.grow W #[.cells #[.int .i64 x0, .int .i64 x1, .int .i64 x2] 36, .cells #[.int .i64 y0, .int .i64 y1, .int .i64 y2] 36]
  rw [hgr]
  go_enter Try.func16, Try.ntmps16
  go_wp2_with fail
  refine (Try.cmp_Compare_int y1 x1 _).mono ?_
  rintro e w' ⟨rfl, rfl⟩
  go_wp2_with fail
  go_ret
  exact ⟨rfl, rfl⟩

theorem flatU_at (us : List Us) (j : Nat) (hj : j < us.length * 3) : (us.flatMap Us.cells)[j]? = some ((Go.Sort.flatK Us.cells 3 us.toArray)[j]!) := by
  have hd : j / 3 < us.length := by omega
  have h1 : us[j / 3]? = some us[j / 3] := List.getElem?_eq_getElem hd
  have h2 := flatMap_at Us.cells 3 (fun _ => rfl) us (j / 3) (j % 3) _ h1 (by omega)
  rw [show j / 3 * 3 + j % 3 = j by omega] at h2
  rw [h2, Go.Sort.get_flatK _ _ _ _ (by simpa using hj)]
  have h3 : us.toArray[j / 3]! = us[j / 3] := by simp [hd]
  rw [h3]
  have h4 : j % 3 < (us[j / 3]).cells.length := by show j % 3 < 3; omega
  rw [List.getElem?_eq_getElem h4, getElem!_pos ((us[j / 3]).cells) (j % 3) h4]
theorem UOwn.holds {w : World} {base g cap : Nat} {us : List Us} (h : UOwn w base (.slice (some ⟨g, 0, none⟩) us.length cap) us) : Go.Sort.HoldsK Us.cells 3 w g 0 us.toArray := by
  intro j hj
  rw [Go.Sort.size_flatK] at hj
  have hj' : j < us.length * 3 := by simpa using hj
  refine ⟨?_, by rw [Nat.zero_add]; exact h.frozenAt j⟩
  rw [Nat.zero_add, h.cellAt j hj', flatU_at us j hj']
  rfl
theorem holds_reads {w : World} {g : Nat} {us : List Us} (h : Go.Sort.HoldsK Us.cells 3 w g 0 us.toArray) (hg : g < w.heap.size) : UReads w w.heap.size (some ⟨g, 0, none⟩) us.length us := by
  refine ⟨flatMap_len Us.cells 3 (fun _ => rfl) us, fun _ => ⟨_, rfl, hg, fun j u hu => ?_⟩⟩
  have hj : j < us.length * 3 := by
    have := (List.getElem?_eq_some_iff.1 hu).1
    rwa [flatMap_len Us.cells 3 (fun _ => rfl)] at this
  have h1 := (h j (by rw [Go.Sort.size_flatK]; simpa using hj)).1
  rw [flatU_at us j hj] at hu
  injection hu with hu
  rw [← hu]
  have h2 : w.cell? ⟨g, 0 + j, none⟩ = some ((Go.Sort.flatK Us.cells 3 us.toArray)[j]!) := h1
  rw [show ((⟨g, 0, none⟩ : Addr).add j) = ⟨g, 0 + j, none⟩ by simp [Addr.add]; omega]
  exact h2
theorem grownU {w : World} {g n : Nat} {os : Array Obj} (d : Array Us) : w.grownBy (Go.Proofs.sortWorldK Us.cells 3 w g 0 n d os) (some g) := by
  unfold Go.Proofs.sortWorldK Go.Sort.putRowK
  refine ⟨rfl, rfl, rfl, by simp, fun k hk hne => ?_⟩
  rw [Go.Sort.heap_grow_old _ _ (by simpa using hk)]
  have : g ≠ k := fun e => hne (by rw [e])
  simp [Go.Sort.putRow, Go.Sort.mapBlock, Go.Sort.ahead, Array.getElem?_modify, this]
def SortedPost (us : List Us) (g : Nat) (w : World) (e : Ending) (w' : World) : Prop := e = .returned (.tuple #[]) ∧ UReads w' w'.heap.size (some ⟨g, 0, none⟩) us.length (sortU us) ∧ w.grownBy w' (some g)
set_option maxRecDepth 100000 in
theorem insU_any (us : List Us) (base g cap : Nat) (w : World) (h : UOwn w base (.slice (some ⟨g, 0, none⟩) us.length cap) us) (hg : g < w.heap.size) (hn : us.length ≤ 1000) :
    Calls Try.prog 68 #[.slice (some ⟨g, 0, none⟩) us.length cap, .int .i64 0, .int .i64 us.length, .func (.func 16) #[] #[]] w (SortedPost us g w) := by
  have hH := h.holds
  have hc : Go.Proofs.CmpLays Try.prog 16 #[] Us.cells 3 cmpU g 0 us.toArray.size w := fun m os dk _ x y => by
    refine (uses1_any x y _).mono ?_
    rintro e w' ⟨rfl, rfl⟩
    exact ⟨rfl, 0, _, rfl⟩
  have key := Go.Proofs.AnyQ.insertionSortCmpFunc Try.insU 3 Try.isAgg36 Try.sizeOf36 Us.cells (fun _ => rfl) (fun x u hu => by
      unfold Us.cells at hu
      simp at hu
      rcases hu with rfl | rfl | rfl <;> rfl) cmpU 16 #[] g 0 cap 0 us.length us.toArray w (fun args W => enters_of Try.func16 (by kernel_rfl) rfl args W) hc hH hg (Nat.zero_le _) (by simp) (by simp; omega)
  simp only [List.size_toArray] at key
  refine Calls.mono key ?_
  rintro e w' ⟨rfl, n, os, rfl⟩
  have hgr := grownU (w := w) (g := g) (n := n) (os := os) (Sort.insertionSort (Go.Proofs.ltOf cmpU) us.toArray 0 us.length)
  refine ⟨rfl, ?_, hgr⟩
  have hsz : (Sort.insertionSort (Go.Proofs.ltOf cmpU) us.toArray 0 us.length).size = us.toArray.size := by
    have := sortU_len us
    unfold sortU at this
    simpa using this
  have hh := Go.Proofs.holdsK_sortWorldK_c Us.cells 3 w g 0 us.toArray (Sort.insertionSort (Go.Proofs.ltOf cmpU) us.toArray 0 us.length) n os hH hg hsz
  have e2 : (Sort.insertionSort (Go.Proofs.ltOf cmpU) us.toArray 0 us.length) = (sortU us).toArray := by unfold sortU; simp
  rw [e2] at hh hgr ⊢
  have := holds_reads hh (Nat.lt_of_lt_of_le hg hgr.size)
  rw [sortU_len] at this
  exact this
set_option maxRecDepth 100000 in
theorem stableCmp_any (us : List Us) (base g cap : Nat) (w : World) (h : UOwn w base (.slice (some ⟨g, 0, none⟩) us.length cap) us) (hg : g < w.heap.size) (hn : us.length ≤ 8) :
    Calls Try.prog 60 #[.slice (some ⟨g, 0, none⟩) us.length cap, .int .i64 us.length, .func (.func 16) #[] #[]] w (SortedPost us g w) := by
  have hc := hide (insU_any us base g cap w h hg (by omega))
  obtain ⟨n, hn'⟩ : ∃ n, n = us.length := ⟨_, rfl⟩
  unfold SortedPost at hc
  unfold SortedPost
  rw [← hn'] at hc hn ⊢
  clear h hn'
  have d1 : decide (20 ≤ n) = false := decide_eq_false (by omega)
  have d2 : decide ((20 : Int) ≤ (n : Int)) = false := decide_eq_false (by omega)
  have d3 : decide (20 < n) = false := decide_eq_false (by omega)
  have d4 : decide ((20 : Int) < (n : Int)) = false := decide_eq_false (by omega)
  go_enter Try.func60, Try.ntmps60
  go_wp2_with fail
  go_loopw [7, 8] (fun a b wr => a = .int .i64 0 ∧ b = .int .i64 20 ∧ wr = w) (fun _ _ _ => 0)
  case atStart => exact ⟨rfl, rfl, rfl⟩
  case round =>
    obtain ⟨rfl, rfl, rfl⟩ := hrel
    go_wp2_with fail
    refine (unhide hc).mono ?_
    rintro e w2 ⟨rfl, hr, hb⟩
    go_wp2_with fail
    go_loopw [6, 7, 8, 9] (fun a b c d wr => a = .int .i64 20 ∧ wr = w2) (fun _ _ _ _ _ => 0)
    case atStart => exact ⟨rfl, rfl⟩
    case round =>
      obtain ⟨rfl, rfl⟩ := hrel
      go_wp2_with fail
      go_end0
      exact ⟨rfl, hr, hb⟩
set_option maxRecDepth 100000 in
theorem stableU_any (us : List Us) (base g cap : Nat) (w : World) (h : UOwn w base (.slice (some ⟨g, 0, none⟩) us.length cap) us) (hg : g < w.heap.size) (hn : us.length ≤ 8) :
    Calls Try.prog 34 #[.slice (some ⟨g, 0, none⟩) us.length cap, .func (.func 16) #[] #[]] w (SortedPost us g w) := by
  have hc := hide (stableCmp_any us base g cap w h hg hn)
  obtain ⟨n, hn'⟩ : ∃ n, n = us.length := ⟨_, rfl⟩
  unfold SortedPost at hc
  unfold SortedPost
  rw [← hn'] at hc hn ⊢
  clear h hn'
  go_enter Try.func34, Try.ntmps34
  go_wp2_with fail
  refine (unhide hc).mono ?_
  rintro e w2 ⟨rfl, hr, hb⟩
  go_wp2_with fail
  go_end0
  exact ⟨rfl, hr, hb⟩
set_option maxRecDepth 100000 in
theorem insU_nil (w : World) :
    Calls Try.prog 68 #[.slice none 0 0, .int .i64 0, .int .i64 0, .func (.func 16) #[] #[]] w fun e w' => e = .returned (.tuple #[]) ∧ w' = w := by
  go_enter Try.func68, Try.ntmps68
  go_wp2_with fail
  go_loopw [8] (fun a wr => a = .int .i64 1 ∧ wr = w) (fun _ _ => 0)
  case atStart => exact ⟨rfl, rfl⟩
  case round =>
    obtain ⟨rfl, rfl⟩ := hrel
    go_wp2_with fail
    go_end0
    exact ⟨rfl, rfl⟩
set_option maxRecDepth 100000 in
theorem stableCmp_nil (w : World) :
    Calls Try.prog 60 #[.slice none 0 0, .int .i64 0, .func (.func 16) #[] #[]] w fun e w' => e = .returned (.tuple #[]) ∧ w' = w := by
  go_enter Try.func60, Try.ntmps60
  go_wp2_with fail
  go_loopw [7, 8] (fun a b wr => a = .int .i64 0 ∧ b = .int .i64 20 ∧ wr = w) (fun _ _ _ => 0)
  case atStart => exact ⟨rfl, rfl, rfl⟩
  case round =>
    obtain ⟨rfl, rfl, rfl⟩ := hrel
    go_wp2_with fail
    refine (insU_nil _).mono ?_
    rintro e w2 ⟨rfl, rfl⟩
    go_wp2_with fail
    go_loopw [6, 7, 8, 9] (fun a b c d wr => a = .int .i64 20 ∧ wr = w2) (fun _ _ _ _ _ => 0)
    case atStart => exact ⟨rfl, rfl⟩
    case round =>
      obtain ⟨rfl, rfl⟩ := hrel
      go_wp2_with fail
      go_end0
      exact ⟨rfl, rfl⟩
set_option maxRecDepth 100000 in
theorem stableU_nil (w : World) :
    Calls Try.prog 34 #[.slice none 0 0, .func (.func 16) #[] #[]] w fun e w' => e = .returned (.tuple #[]) ∧ w' = w := by
  go_enter Try.func34, Try.ntmps34
  go_wp2_with fail
  refine (stableCmp_nil _).mono ?_
  rintro e w2 ⟨rfl, rfl⟩
  go_wp2_with fail
  go_end0
  exact ⟨rfl, rfl⟩
end Go.Proofs.Ytopncifebldklaa
