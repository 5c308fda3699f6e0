/- Part 24 of what LawWeighNeeds needs: WSortG, WListG, WSpread, WUses, WSumLaw. Conditions: as each lemma names. -/
import Derived.Test.YtopncifebldklaaPkWeighNeeds23
import Derived.Test.YtopncifebldklaaPkWeighNeeds16
import Derived.Test.YtopncifebldklaaPkWeighNeeds04
import Derived.Test.YtopncifebldklaaPkWeighNeeds21
import Derived.Test.YtopncifebldklaaPkWeighNeeds14
/- Package weigh: how uses are sorted by what they gain. Conditions: a row of the call's own. -/
namespace Go.Proofs.Ytopncifebldklaa
set_option linter.unusedVariables false
set_option linter.unusedSimpArgs false
open Go.RowKit

/-- what is told of two uses -/
def cmpG (x y : Us) : Int := Lib.compareInt y.g x.g
def sortG (us : List Us) : List Us := (Sort.insertionSort (Go.Proofs.ltOf cmpG) us.toArray 0 us.length).toList
theorem ltG (x y : Us) : Go.Proofs.ltOf cmpG x y = decide (y.g < x.g) := by
  unfold Go.Proofs.ltOf cmpG Lib.compareInt
  rw [Bool.eq_iff_iff]
  simp only [decide_eq_true_eq]
  repeat' split
  all_goals omega
theorem swoG : Sort.SWO (Go.Proofs.ltOf cmpG) where
  irrefl x := by rw [ltG]; simp
  trans x y z := by simp only [ltG, decide_eq_true_eq]; omega
  ntrans x y z := by simp only [ltG, decide_eq_false_iff_not]; omega
theorem sortG_perm (us : List Us) : (sortG us).Perm us := by
  have h := (Sort.insertionSort_holds (lt := Go.Proofs.ltOf cmpG) swoG us.toArray 0 us.length (Nat.zero_le _) (by simp)).1
  obtain ⟨h1, _, h2⟩ := h
  unfold sortG
  have e : ∀ d : Array Us, d.size = us.length → d.extract 0 us.length = d := fun d hd => by rw [← hd]; exact Array.extract_size
  rw [e _ (by simpa using h1), e _ (by simp)] at h2
  exact h2
theorem sortG_len (us : List Us) : (sortG us).length = us.length := (sortG_perm us).length_eq
theorem sortG_sorted (us : List Us) : (sortG us).Pairwise fun x y => y.g ≤ x.g := by
  have h := (Sort.insertionSort_holds (lt := Go.Proofs.ltOf cmpG) swoG us.toArray 0 us.length (Nat.zero_le _) (by simp)).2
  rw [List.pairwise_iff_getElem]
  intro i j hi hj hij
  have hl := sortG_len us
  have h2 := h i j (Nat.zero_le _) hij (by omega)
  unfold sortG at hi hj ⊢
  rw [ltG, decide_eq_false_iff_not] at h2
  have e : ∀ (d : Array Us) (k : Nat) (hk : k < d.toList.length), d[k]! = d.toList[k] := fun d k hk => by
    rw [getElem!_pos d k (by simpa using hk)]; rfl
  rw [e _ i hi, e _ j hj] at h2
  omega

set_option maxRecDepth 100000 in
theorem gains1_any (x y : Us) (W : World) : Calls Try.prog 20 #[.agg x.cells.toArray, .agg y.cells.toArray] W fun e w' => e = .returned (.int .i64 (cmpG x y)) ∧ w' = Go.Sort.grow W #[.cells x.cells.toArray 36, .cells y.cells.toArray 36] := by
  obtain ⟨x0, x1, x2⟩ := x
  obtain ⟨y0, y1, y2⟩ := y
  have hgr : Go.Sort.grow W #[.cells #[.int .i64 x0, .int .i64 x1, .int .i64 x2] 36, .cells #[.int .i64 y0, .int .i64 y1, .int .i64 y2] 36] = (W.alloc (.cells #[.int .i64 x0, .int .i64 x1, .int .i64 x2] 36)).alloc (.cells #[.int .i64 y0, .int .i64 y1, .int .i64 y2] 36) := by
    unfold Go.Sort.grow World.alloc
    simp
    exact Array.ext' (by simp)
  have b1 := (Blk.new W 36 #[.int .i64 x0, .int .i64 x1, .int .i64 x2]).alloc (.cells #[.int .i64 y0, .int .i64 y1, .int .i64 y2] 36)
  have c1 := b1.cell 2
  simp at c1
  show Calls Try.prog 20 #[.agg #[.int .i64 x0, .int .i64 x1, .int .i64 x2], .agg #[.int .i64 y0, .int .i64 y1, .int .i64 y2]] W fun e w' => e = .returned (.int .i64 (Lib.compareInt y2 x2)) ∧ w' = Go.Sort.grow W #[.cells #[.int .i64 x0, .int .i64 x1, .int .i64 x2] 36, .cells #[.int .i64 y0, .int .i64 y1, .int .i64 y2] 36]
  rw [hgr]
  go_enter Try.func20, Try.ntmps20
  go_wp2_with fail
  refine (Try.cmp_Compare_int y2 x2 _).mono ?_
  rintro e w' ⟨rfl, rfl⟩
  go_wp2_with fail
  go_ret
  exact ⟨rfl, rfl⟩

def SortedPostG (us : List Us) (g : Nat) (w : World) (e : Ending) (w' : World) : Prop := e = .returned (.tuple #[]) ∧ UReads w' w'.heap.size (some ⟨g, 0, none⟩) us.length (sortG us) ∧ w.grownBy w' (some g)
set_option maxRecDepth 100000 in
theorem insG_any (us : List Us) (base g cap : Nat) (w : World) (h : UOwn w base (.slice (some ⟨g, 0, none⟩) us.length cap) us) (hg : g < w.heap.size) (hn : us.length ≤ 1000) :
    Calls Try.prog 68 #[.slice (some ⟨g, 0, none⟩) us.length cap, .int .i64 0, .int .i64 us.length, .func (.func 20) #[] #[]] w (SortedPostG us g w) := by
  have hH := h.holds
  have hc : Go.Proofs.CmpLays Try.prog 20 #[] Us.cells 3 cmpG g 0 us.toArray.size w := fun m os dk _ x y => by
    refine (gains1_any x y _).mono ?_
    rintro e w' ⟨rfl, rfl⟩
    exact ⟨rfl, 0, _, rfl⟩
  have key := Go.Proofs.AnyQ.insertionSortCmpFunc Try.insU 3 Try.isAgg36 Try.sizeOf36 Us.cells (fun _ => rfl) (fun x u hu => by
      unfold Us.cells at hu
      simp at hu
      rcases hu with rfl | rfl | rfl <;> rfl) cmpG 20 #[] g 0 cap 0 us.length us.toArray w (fun args W => enters_of Try.func20 (by kernel_rfl) rfl args W) hc hH hg (Nat.zero_le _) (by simp) (by simp; omega)
  simp only [List.size_toArray] at key
  refine Calls.mono key ?_
  rintro e w' ⟨rfl, n, os, rfl⟩
  have hgr := grownU (w := w) (g := g) (n := n) (os := os) (Sort.insertionSort (Go.Proofs.ltOf cmpG) us.toArray 0 us.length)
  refine ⟨rfl, ?_, hgr⟩
  have hsz : (Sort.insertionSort (Go.Proofs.ltOf cmpG) us.toArray 0 us.length).size = us.toArray.size := by
    have := sortG_len us
    unfold sortG at this
    simpa using this
  have hh := Go.Proofs.holdsK_sortWorldK_c Us.cells 3 w g 0 us.toArray (Sort.insertionSort (Go.Proofs.ltOf cmpG) us.toArray 0 us.length) n os hH hg hsz
  have e2 : (Sort.insertionSort (Go.Proofs.ltOf cmpG) us.toArray 0 us.length) = (sortG us).toArray := by unfold sortG; simp
  rw [e2] at hh hgr ⊢
  have := holds_reads hh (Nat.lt_of_lt_of_le hg hgr.size)
  rw [sortG_len] at this
  exact this
set_option maxRecDepth 100000 in
theorem stableCmpG_any (us : List Us) (base g cap : Nat) (w : World) (h : UOwn w base (.slice (some ⟨g, 0, none⟩) us.length cap) us) (hg : g < w.heap.size) (hn : us.length ≤ 8) :
    Calls Try.prog 60 #[.slice (some ⟨g, 0, none⟩) us.length cap, .int .i64 us.length, .func (.func 20) #[] #[]] w (SortedPostG us g w) := by
  have hc := hide (insG_any us base g cap w h hg (by omega))
  obtain ⟨n, hn'⟩ : ∃ n, n = us.length := ⟨_, rfl⟩
  unfold SortedPostG at hc
  unfold SortedPostG
  rw [← hn'] at hc hn ⊢
  clear h hn'
  have d1 : decide (20 ≤ n) = false := decide_eq_false (by omega)
  have d2 : decide ((20 : Int) ≤ (n : Int)) = false := decide_eq_false (by omega)
  have d3 : decide (20 < n) = false := decide_eq_false (by omega)
  have d4 : decide ((20 : Int) < (n : Int)) = false := decide_eq_false (by omega)
  go_enter Try.func60, Try.ntmps60
  go_wp2_with fail
  go_loopw [7, 8] (fun a b wr => a = .int .i64 0 ∧ b = .int .i64 20 ∧ wr = w) (fun _ _ _ => 0)
  case atStart => exact ⟨rfl, rfl, rfl⟩
  case round =>
    obtain ⟨rfl, rfl, rfl⟩ := hrel
    go_wp2_with fail
    refine (unhide hc).mono ?_
    rintro e w2 ⟨rfl, hr, hb⟩
    go_wp2_with fail
    go_loopw [6, 7, 8, 9] (fun a b c d wr => a = .int .i64 20 ∧ wr = w2) (fun _ _ _ _ _ => 0)
    case atStart => exact ⟨rfl, rfl⟩
    case round =>
      obtain ⟨rfl, rfl⟩ := hrel
      go_wp2_with fail
      go_end0
      exact ⟨rfl, hr, hb⟩
set_option maxRecDepth 100000 in
theorem stableG_any (us : List Us) (base g cap : Nat) (w : World) (h : UOwn w base (.slice (some ⟨g, 0, none⟩) us.length cap) us) (hg : g < w.heap.size) (hn : us.length ≤ 8) :
    Calls Try.prog 34 #[.slice (some ⟨g, 0, none⟩) us.length cap, .func (.func 20) #[] #[]] w (SortedPostG us g w) := by
  have hc := hide (stableCmpG_any us base g cap w h hg hn)
  obtain ⟨n, hn'⟩ : ∃ n, n = us.length := ⟨_, rfl⟩
  unfold SortedPostG at hc
  unfold SortedPostG
  rw [← hn'] at hc hn ⊢
  clear h hn'
  go_enter Try.func34, Try.ntmps34
  go_wp2_with fail
  refine (unhide hc).mono ?_
  rintro e w2 ⟨rfl, hr, hb⟩
  go_wp2_with fail
  go_end0
  exact ⟨rfl, hr, hb⟩
set_option maxRecDepth 100000 in
theorem insG_nil (w : World) :
    Calls Try.prog 68 #[.slice none 0 0, .int .i64 0, .int .i64 0, .func (.func 20) #[] #[]] w fun e w' => e = .returned (.tuple #[]) ∧ w' = w := by
  go_enter Try.func68, Try.ntmps68
  go_wp2_with fail
  go_loopw [8] (fun a wr => a = .int .i64 1 ∧ wr = w) (fun _ _ => 0)
  case atStart => exact ⟨rfl, rfl⟩
  case round =>
    obtain ⟨rfl, rfl⟩ := hrel
    go_wp2_with fail
    go_end0
    exact ⟨rfl, rfl⟩
set_option maxRecDepth 100000 in
theorem stableCmpG_nil (w : World) :
    Calls Try.prog 60 #[.slice none 0 0, .int .i64 0, .func (.func 20) #[] #[]] w fun e w' => e = .returned (.tuple #[]) ∧ w' = w := by
  go_enter Try.func60, Try.ntmps60
  go_wp2_with fail
  go_loopw [7, 8] (fun a b wr => a = .int .i64 0 ∧ b = .int .i64 20 ∧ wr = w) (fun _ _ _ => 0)
  case atStart => exact ⟨rfl, rfl, rfl⟩
  case round =>
    obtain ⟨rfl, rfl, rfl⟩ := hrel
    go_wp2_with fail
    refine (insG_nil _).mono ?_
    rintro e w2 ⟨rfl, rfl⟩
    go_wp2_with fail
    go_loopw [6, 7, 8, 9] (fun a b c d wr => a = .int .i64 20 ∧ wr = w2) (fun _ _ _ _ _ => 0)
    case atStart => exact ⟨rfl, rfl⟩
    case round =>
      obtain ⟨rfl, rfl⟩ := hrel
      go_wp2_with fail
      go_end0
      exact ⟨rfl, rfl⟩
set_option maxRecDepth 100000 in
theorem stableG_nil (w : World) :
    Calls Try.prog 34 #[.slice none 0 0, .func (.func 20) #[] #[]] w fun e w' => e = .returned (.tuple #[]) ∧ w' = w := by
  go_enter Try.func34, Try.ntmps34
  go_wp2_with fail
  refine (stableCmpG_nil _).mono ?_
  rintro e w2 ⟨rfl, rfl⟩
  go_wp2_with fail
  go_end0
  exact ⟨rfl, rfl⟩
end Go.Proofs.Ytopncifebldklaa
/- Package weigh: the list of a table by what is gained. Conditions: as each lemma names. -/
namespace Go.Proofs.Ytopncifebldklaa
set_option linter.unusedVariables false
set_option linter.unusedSimpArgs false
open Go.RowKit

def listG (T : List Us) : List Us := sortG (usedT T)

set_option maxRecDepth 100000 in
set_option maxHeartbeats 4000000 in
theorem wlistG_any (g : Nat) (T : List Us) (w : World) (hT : T.length = 8) (hb : Blk w g 53 (tabC T)) :
    Calls Try.prog 15 #[.pointer (some ⟨g, 0, none⟩), .func (.func 20) #[] #[]] w (UListPost (listG T) w) := by
  have hgl := hb.lt
  go_enter Try.func15, Try.ntmps15
  go_wp2_with fail
  go_loopw [5, 10] (fun v i wr => ∃ k : Nat, k ≤ 8 ∧ i = .int .i64 k ∧ Hid (UOwn wr w.heap.size v (usedT (T.take k))) ∧ Below w.heap.size w wr) (fun _ i _ => 8 - (intOf i).toNat)
  case atStart => exact ⟨0, Nat.zero_le _, rfl, hide (by simpa [usedT] using UOwn.nil_ _ _), Below.refl _ _⟩
  case round =>
    obtain ⟨k, hk, rfl, HO, hbel⟩ := hrel
    have hsz := hbel.size
    by_cases hlt : k < 8
    · obtain ⟨u, hu⟩ : ∃ u, T[k]? = some u := ⟨_, List.getElem?_eq_getElem (by omega)⟩
      have bT := hb.below hbel hgl
      have HN := hide (usedT_next hu)
      have hul := usedT_len (T.take k)
      have hkl : (T.take k).length ≤ k := List.length_take_le _ _
      have c0 : wr.cell? ⟨g, k * 3, none⟩ = some (.int .i64 u.f) := by rw [bT.cell, show k * 3 = k * 3 + 0 by omega, tab_at hu (by omega)]; rfl
      have c1 : wr.cell? ⟨g, k * 3 + 1, none⟩ = some (.int .i64 u.n) := by rw [bT.cell, tab_at hu (by omega)]; rfl
      have c2 : wr.cell? ⟨g, k * 3 + 2, none⟩ = some (.int .i64 u.g) := by rw [bT.cell, tab_at hu (by omega)]; rfl
      obtain ⟨L, hL⟩ : ∃ L, L = usedT (T.take k) := ⟨_, rfl⟩
      rw [← hL] at HN hul HO
      have hown : wr.ownsRow w.heap.size 36 3 _ L.length (L.flatMap Us.cells) := unhide HO
      obtain ⟨u0, u1, u2⟩ := u
      dsimp only at c0 c1 c2 HN
      have hownA := hown.alloc (.cells #[.int .i64 u0, .int .i64 u1, .int .i64 u2] 36)
      have hbA := hbel.alloc hsz (.cells #[.int .i64 u0, .int .i64 u1, .int .i64 u2] 36)
      have hzA : w.heap.size ≤ (wr.alloc (.cells #[.int .i64 u0, .int .i64 u1, .int .i64 u2] 36)).heap.size := by rw [World.size_alloc]; omega
      have hL9 : L.length < 1000000000 := by omega
      clear hu hL hown HO bT hbel
      by_cases hp : 0 < u1
      · have HN2 : Hid (usedT (T.take (k + 1)) = L ++ [⟨u0, u1, u2⟩]) := hide (by rw [unhide HN, if_pos hp])
        have d1 : decide (0 < u1) = true := decide_eq_true hp
        clear HN hp
        go_wp2_with (at_builtin; refine app_one elem_use (.tmp 18) (.tmp 20) [.int .i64 u0, .int .i64 u1, .int .i64 u2] rfl rfl rfl hownA rfl (World.size_alloc _ _) rfl (use_one ⟨u0, u1, u2⟩) hL9 hzA ?_; intro v2 w2 hown2 hb2 _ _)
        have hown3 : UOwn w2 w.heap.size v2 (usedT (T.take (k + 1))) := by
          rw [unhide HN2]
          unfold UOwn
          rw [List.length_append, List.flatMap_append]
          exact hown2
        clear hown2 hownA
        go_wp2_with fail
        go_roundw
        case rel => exact ⟨k + 1, by omega, by go_num, hide hown3, hbA.trans hb2⟩
        case measure => simp [intOf] <;> omega
      · have HN2 : Hid (usedT (T.take (k + 1)) = L) := hide (by rw [unhide HN, if_neg hp, List.append_nil])
        have d1 : decide (0 < u1) = false := decide_eq_false hp
        clear HN hp
        go_wp2_with fail
        go_roundw
        case rel => exact ⟨k + 1, by omega, by go_num, hide (by rw [unhide HN2]; exact hownA), hbA⟩
        case measure => simp [intOf] <;> omega
    · obtain rfl : k = 8 := by omega
      have e8 : T.take 8 = T := List.take_of_length_le (by omega)
      rw [e8] at HO
      have hul := usedT_len T
      have hsl := sortG_len (usedT T)
      rcases (unhide HO).2 with ⟨rfl, h0⟩ | ⟨q, cap, cur, rfl, hq, hblk, hcap, _⟩
      · have hnil : usedT T = [] := List.length_eq_zero_iff.1 h0
        have hL : Hid (listG T = []) := hide (by unfold listG; rw [hnil]; rw [hnil] at hsl; exact List.length_eq_zero_iff.1 hsl)
        clear HO hul hsl h0 hnil
        go_wp2_with fail
        refine (stableG_nil wr).mono ?_
        rintro e w2 ⟨rfl, rfl⟩
        go_wp2_with fail
        go_ret
        unfold UListPost
        rw [unhide hL]
        exact ⟨none, 0, rfl, ⟨rfl, fun h => absurd h (by simp)⟩, hbel⟩
      · have hql : q < wr.heap.size := (Array.getElem?_eq_some_iff.1 hblk).1
        have hc := hide (stableG_any (usedT T) w.heap.size q cap wr (unhide HO) hql (by omega))
        unfold SortedPostG at hc
        obtain ⟨n, hn⟩ : ∃ n, n = (usedT T).length := ⟨_, rfl⟩
        have HLl : Hid ((listG T).length = n) := hide (by unfold listG; rw [hsl, hn])
        rw [← hn] at hc ⊢
        clear HO hul hsl hblk hcap hn
        go_wp2_with fail
        refine (unhide hc).mono ?_
        rintro e w2 ⟨rfl, hr, hg2⟩
        go_wp2_with fail
        go_ret
        exact ⟨some ⟨q, 0, none⟩, cap, by rw [unhide HLl]; rfl, by rw [unhide HLl]; exact hr, hbel.grown hg2 hsz (fun z hz => by injection hz with hz; omega)⟩
end Go.Proofs.Ytopncifebldklaa
/- Package weigh in plain words: the spread of targets, and that parts spread no more than the whole. Conditions: none. -/
namespace Go.Proofs.Ytopncifebldklaa
set_option linter.unusedVariables false
set_option linter.unusedSimpArgs false

def sqM (ss : List Sm) : Int := (ss.map fun s => s.t * s.t).sum
theorem sqM_next {ss : List Sm} {k : Nat} {s : Sm} (h : ss[k]? = some s) : sqM (ss.take (k + 1)) = sqM (ss.take k) + s.t * s.t := by
  unfold sqM
  rw [take_next h, List.map_append, List.sum_append]
  simp
theorem sqM_in {ss : List Sm} (h1 : ∀ s ∈ ss, -1000 ≤ s.t) (h2 : ∀ s ∈ ss, s.t ≤ 1000) : 0 ≤ sqM ss ∧ sqM ss ≤ 1000000 * (ss.length : Int) := by
  induction ss with
  | nil => simp [sqM]
  | cons s r ih =>
    obtain ⟨a, b⟩ := ih (fun x hx => h1 x (List.mem_cons_of_mem _ hx)) (fun x hx => h2 x (List.mem_cons_of_mem _ hx))
    have q := sq_le (a := s.t) (m := 1000) (by have := h1 s (List.mem_cons_self ..); omega) (h2 s (List.mem_cons_self ..))
    unfold sqM at a b ⊢
    rw [List.map_cons, List.sum_cons, List.length_cons]
    omega
theorem sqM_parts (f : Nat) (c : Int) (ss : List Sm) : sqM (lowS f c ss) + sqM (highS f c ss) = sqM ss := by
  induction ss with
  | nil => rfl
  | cons s r ih =>
    unfold lowS highS at ih ⊢
    rw [List.filter_cons, List.filter_cons]
    by_cases h : lowB f c s = true
    · rw [if_pos h, if_neg (by simp [h])]
      simp only [sqM, List.map_cons, List.sum_cons] at ih ⊢
      omega
    · rw [if_neg h, if_pos (by simp [h])]
      simp only [sqM, List.map_cons, List.sum_cons] at ih ⊢
      omega
/-- the spread of targets, rounded down -/
def spreadV (ss : List Sm) : Int := if ss.length = 0 then 0 else ((ss.length : Int) * sqM ss - sumM ss * sumM ss) / (ss.length : Int)
theorem spread_le (ss : List Sm) : sumM ss * sumM ss ≤ (ss.length : Int) * (sqM ss - spreadV ss) := by
  unfold spreadV
  by_cases h : ss.length = 0
  · have : ss = [] := List.eq_nil_of_length_eq_zero h
    subst this
    simp [sumM, sqM]
  · rw [if_neg h]
    have h1 := Int.ediv_mul_le ((ss.length : Int) * sqM ss - sumM ss * sumM ss) (b := (ss.length : Int)) (by omega)
    rw [Int.mul_sub, Int.mul_comm (ss.length : Int) (_ / _)]
    omega
theorem sq_nonneg (a : Int) : 0 ≤ a * a := by
  rcases Int.le_total 0 a with h | h
  · exact Int.mul_nonneg h h
  · exact Int.mul_nonneg_of_nonpos_of_nonpos h h
theorem spread_x {ss : List Sm} : 0 ≤ sqM ss - spreadV ss := by
  by_cases h : ss.length = 0
  · have : ss = [] := List.eq_nil_of_length_eq_zero h
    subst this
    decide
  · have h1 := spread_le ss
    have h2 := sq_nonneg (sumM ss)
    have h3 : 0 ≤ (ss.length : Int) * (sqM ss - spreadV ss) := by omega
    rcases Int.le_total 0 (sqM ss - spreadV ss) with h4 | h4
    · exact h4
    · by_cases h5 : sqM ss - spreadV ss = 0
      · omega
      · have := Int.mul_neg_of_pos_of_neg (show (0 : Int) < (ss.length : Int) by omega) (show sqM ss - spreadV ss < 0 by omega)
        omega
theorem cauchy {a b p q X Y : Int} (hp : 0 ≤ p) (hq : 0 ≤ q) (hX : 0 ≤ X) (hY : 0 ≤ Y) (h1 : a * a ≤ p * X) (h2 : b * b ≤ q * Y) : (a + b) * (a + b) ≤ (p + q) * (X + Y) := by
  have hb := sq_nonneg b
  have h3 : a * a * (b * b) ≤ p * X * (q * Y) := Int.mul_le_mul h1 h2 hb (Int.mul_nonneg hp hX)
  have hu := Int.mul_nonneg hp hY
  have hv := Int.mul_nonneg hq hX
  have key : 2 * (a * b) ≤ p * Y + q * X := by
    by_cases h : p * Y + q * X < 2 * (a * b)
    · exfalso
      have e1 : 2 * (a * b) * (2 * (a * b)) = 4 * (a * a * (b * b)) := by grind
      have e2 : (p * Y + q * X) * (p * Y + q * X) = (p * Y - q * X) * (p * Y - q * X) + 4 * (p * X * (q * Y)) := by grind
      have s1 := sq_nonneg (p * Y - q * X)
      have s2 : (p * Y + q * X) * (p * Y + q * X) ≤ (p * Y + q * X) * (2 * (a * b)) := Int.mul_le_mul_of_nonneg_left (Int.le_of_lt h) (by omega)
      have s3 : (p * Y + q * X) * (2 * (a * b)) < 2 * (a * b) * (2 * (a * b)) := Int.mul_lt_mul_of_pos_right h (by omega)
      omega
    · omega
  have e3 : (a + b) * (a + b) = a * a + 2 * (a * b) + b * b := by grind
  have e4 : (p + q) * (X + Y) = p * X + p * Y + q * X + q * Y := by grind
  omega
/-- parts spread no more than the whole -/
theorem spread_parts (f : Nat) (c : Int) (ss : List Sm) : spreadV (lowS f c ss) + spreadV (highS f c ss) ≤ spreadV ss := by
  have h1 := spread_le (lowS f c ss)
  have h2 := spread_le (highS f c ss)
  have hc := cauchy (p := ((lowS f c ss).length : Int)) (q := ((highS f c ss).length : Int)) (by omega) (by omega) spread_x spread_x h1 h2
  have hs := parts_sum f c ss
  have hq := sqM_parts f c ss
  have hl := parts_len f c ss
  rw [hs] at hc
  have hl' : ((lowS f c ss).length : Int) + ((highS f c ss).length : Int) = (ss.length : Int) := by omega
  rw [hl'] at hc
  by_cases h0 : ss.length = 0
  · have a1 : (lowS f c ss).length = 0 := by omega
    have a2 : (highS f c ss).length = 0 := by omega
    unfold spreadV
    rw [if_pos a1, if_pos a2, if_pos h0]
    decide
  · have hp : (0 : Int) < (ss.length : Int) := by omega
    show _ ≤ spreadV ss
    rw [show spreadV ss = ((ss.length : Int) * sqM ss - sumM ss * sumM ss) / (ss.length : Int) by unfold spreadV; rw [if_neg h0]]
    refine Int.le_ediv_of_mul_le hp ?_
    have e : (ss.length : Int) * (sqM (lowS f c ss) - spreadV (lowS f c ss) + (sqM (highS f c ss) - spreadV (highS f c ss))) = (ss.length : Int) * sqM ss - (spreadV (lowS f c ss) + spreadV (highS f c ss)) * (ss.length : Int) := by
      rw [← hq]
      grind
    omega
theorem spread_in {ss : List Sm} (hl : ss.length ≤ 60) (h1 : ∀ s ∈ ss, -1000 ≤ s.t) (h2 : ∀ s ∈ ss, s.t ≤ 1000) : -4000000000 ≤ (ss.length : Int) * sqM ss - sumM ss * sumM ss ∧ (ss.length : Int) * sqM ss - sumM ss * sumM ss ≤ 4000000000 ∧ -4000000000 ≤ spreadV ss ∧ spreadV ss ≤ 4000000000 := by
  have hq := sqM_in h1 h2
  have hs := sum_60 hl h1 h2
  have hss := sq_le (a := sumM ss) (m := 60000) (by omega) (by omega)
  have hm : (ss.length : Int) * sqM ss ≤ 60 * 60000000 := Int.mul_le_mul (by omega) (by omega) hq.1 (by omega)
  have hm0 : 0 ≤ (ss.length : Int) * sqM ss := Int.mul_nonneg (by omega) hq.1
  refine ⟨by omega, by omega, ?_⟩
  unfold spreadV
  by_cases h0 : ss.length = 0
  · rw [if_pos h0]; omega
  · rw [if_neg h0]
    have hp : (0 : Int) < (ss.length : Int) := by omega
    exact ⟨Int.le_ediv_of_mul_le hp (by omega), Int.ediv_le_of_le_mul hp (by omega)⟩
end Go.Proofs.Ytopncifebldklaa
/- Package weigh: Uses. Conditions: a grove that reads as data. -/
namespace Go.Proofs.Ytopncifebldklaa
set_option linter.unusedVariables false
set_option linter.unusedSimpArgs false
open Go.RowKit

def zeroT : List Us := List.replicate 8 ⟨0, 0, 0⟩
def tableOf (L : List (List Nd)) : List Us := L.foldl countT zeroT
def usesL (L : List (List Nd)) : List Us := listT (tableOf L)
theorem tableOf_next {L : List (List Nd)} {k : Nat} {t : List Nd} (h : L[k]? = some t) : tableOf (L.take (k + 1)) = countT (tableOf (L.take k)) t := by
  unfold tableOf
  rw [take_next h, List.foldl_append]
  rfl
theorem tableOf_len (L : List (List Nd)) : (tableOf L).length = 8 := by
  unfold tableOf
  have : ∀ (L : List (List Nd)) (T : List Us), (L.foldl countT T).length = T.length := by
    intro L
    induction L with
    | nil => intro T; rfl
    | cons t r ih => intro T; rw [List.foldl_cons, ih, countT_len]
  rw [this]
  rfl
theorem Small.many {T : List Us} {b : Int} (h : Small T b) (t : List Nd) : Small (countT T t) (b + t.length) := by
  unfold countT
  induction t generalizing T b with
  | nil => intro u hu; have := h u hu; simp; omega
  | cons x r ih =>
    rw [List.foldl_cons]
    have := ih (h.one x)
    intro u hu
    have := this u hu
    simp
    omega
theorem Small.more {T : List Us} {b c : Int} (h : Small T b) (hc : b ≤ c) : Small T c := fun u hu => by have := h u hu; omega
def UsesPost (g : Gv) (w : World) (e : Ending) (w' : World) : Prop := ∃ A c, e = .returned (.tuple #[.slice A (if g.e = 0 then usesL g.trees else []).length c, errV g.e]) ∧ UReads w' w'.heap.size A (if g.e = 0 then usesL g.trees else []).length (if g.e = 0 then usesL g.trees else []) ∧ Below w.heap.size w w'
theorem gboxU (w : World) (f way : Int) (Aw : Option Addr) (nw cw : Nat) (At : Option Addr) (nt ct : Nat) : ∃ W, W = w.alloc (.cells #[.int .i64 f, .int .i64 way, .slice Aw nw cw, .slice At nt ct] 25) ∧
    Blk W w.heap.size 25 #[.int .i64 f, .int .i64 way, .slice Aw nw cw, .slice At nt ct] ∧ W.heap.size = w.heap.size + 1 ∧ Below w.heap.size w W :=
  ⟨_, rfl, Blk.new _ _ _, by simp, (Below.refl _ _).alloc (Nat.le_refl _) _⟩

set_option maxRecDepth 100000 in
set_option maxHeartbeats 4000000 in
theorem uses_any (g : Gv) (w : World) (hg : GReads w w.heap.size g) :
    Calls Try.prog 5 #[g.val] w (UsesPost g w) := by
  have cCk := hide (fun (W : World) (hB : Below w.heap.size w W) => gcheck_any g W ((hg.below hB).more hB.size))
  by_cases h0 : g.e = 0
  · have hG := groveE_right h0
    have HU : Hid (UsesPost g w = fun e w' => ∃ A c, e = .returned (.tuple #[.slice A (usesL g.trees).length c, .nilIface]) ∧ UReads w' w'.heap.size A (usesL g.trees).length (usesL g.trees) ∧ Below w.heap.size w w') := hide (by
      funext e w'
      unfold UsesPost
      rw [if_pos h0, errV_0 h0])
    rw [unhide HU]
    have hnt : g.nt ≤ 12 := by have e1 := hg.ts.len; have e2 := hG.most; omega
    have HRT : Hid (∀ r ∈ g.ts, Right r.l g.f) := hide (fun r hr => right_of (hG.trees r hr))
    have HV := hide (errV_0 h0)
    obtain ⟨TS, hTS⟩ : ∃ T, T = g.trees := ⟨_, rfl⟩
    rw [← hTS]
    obtain ⟨EV, hEV⟩ : ∃ E, E = errV g.e := ⟨_, rfl⟩
    rw [← hEV] at cCk HV
    have htr := hg.ts
    obtain ⟨f, way, Aw, nw, cw, ws, At, nt, ct, ts⟩ := g
    simp only [Gv.val] at cCk ⊢
    dsimp only at hnt HRT htr
    have HTS : Hid (TS = ts.map Tr.l) := hide hTS
    have HLT := hide htr.len
    clear hg h0 hG HU hTS hEV
    obtain ⟨W, hW, bg, hWs, hb0⟩ := gboxU w f way Aw nw cw At nt ct
    go_enter Try.func5, Try.ntmps5
    go_wp2_with fail
    rw [← hW]
    clear hW
    refine (unhide cCk W hb0).mono ?_
    rintro e w1 ⟨rfl, hb1⟩
    rw [unhide HV]
    have b1 := bg.below hb1 (by omega)
    have hB1 := hb0.trans (hb1.mono (by omega))
    have hz1 : w.heap.size + 1 ≤ w1.heap.size := by have := hb1.size; omega
    have c3 := b1.cell 3
    simp at c3
    have d3 := cell_alloc c3 (by show w.heap.size < _; omega)
    clear cCk bg hWs hb0 hb1
    go_wp2_with fail
    refine wp_nameT fun W4 hW4 => ?_
    have bT : Blk W4 w1.heap.size 53 (tabC zeroT) := by rw [hW4]; exact Blk.new _ _ _
    have hB4 : Below w.heap.size w W4 := by rw [hW4]; exact hB1.alloc (by omega) _
    clear hW4 c3 d3 b1
    go_loopw [16] (fun i wr => ∃ k : Nat, k ≤ nt ∧ i = .int .i64 k ∧ Blk wr w1.heap.size 53 (tabC (tableOf (TS.take k))) ∧ Hid (Small (tableOf (TS.take k)) (63 * k)) ∧ Below w.heap.size w wr) (fun i _ => nt - (intOf i).toNat)
    case atStart => exact ⟨0, Nat.zero_le _, rfl, by simpa [tableOf] using bT, hide (by
      intro u hu
      simp [tableOf, zeroT] at hu
      subst hu
      decide), hB4⟩
    case round =>
      clear bT hB4
      obtain ⟨k, hk, rfl, bT, HS, hbel⟩ := hrel
      by_cases hlk : k < nt
      · obtain ⟨b, o, r, rfl, _, hx, hcx, hok⟩ := (htr.below hbel).get hlk
        have hRk := unhide HRT r (List.mem_of_getElem? hx)
        have hTk : TS[k]? = some r.l := by rw [unhide HTS, List.getElem?_map, hx]; rfl
        have HN := hide (tableOf_next hTk)
        have hrr := hok.reads
        obtain ⟨rA, rn, rc, rl⟩ := r
        dsimp only at hcx hRk HN hrr
        have hln := hrr.len
        have hmost := hRk.most
        have HS2 : Hid (Small (tableOf (TS.take (k + 1))) (63 * ((k + 1 : Nat) : Int))) := hide (by rw [unhide HN]; exact ((unhide HS).many rl).more (by omega))
        have hc := hide (count_any w1.heap.size rA rn rc w.heap.size rl (tableOf (TS.take k)) wr (tableOf_len _) ((unhide HS).more (by omega)) bT hrr (by omega) (by omega) (fun i x hi hf => by
          have h1 := hRk.fe8
          rcases node_of (hRk.node i x hi) with h | h
          · exact absurd h.1 hf
          · omega))
        rw [← unhide HN] at hc
        clear hx hTk hRk hrr hok bT hln hmost
        go_wp2_with fail
        refine (unhide hc).mono ?_
        rintro e w5 ⟨rfl, bT5, hg5⟩
        have hB5 := hbel.grown hg5 hbel.size (fun z hz => by injection hz with hz; omega)
        clear hc hg5 hbel
        go_wp2_with fail
        go_roundw
        case rel => exact ⟨k + 1, by omega, by go_num, bT5, HS2, hB5⟩
        case measure => simp [intOf]; omega
      · obtain rfl : k = nt := by omega
        have hl : TS.length = k := by rw [unhide HTS, List.length_map, unhide HLT]
        rw [List.take_of_length_le (by omega)] at bT
        have hc := hide (wlist_any w1.heap.size (tableOf TS) wr (tableOf_len _) bT)
        unfold UListPost at hc
        rw [show listT (tableOf TS) = usesL TS from rfl] at hc
        clear bT HS
        go_wp2_with fail
        refine (unhide hc).mono ?_
        rintro e w5 ⟨A5, c5, rfl, hr5, hb5⟩
        go_wp2_with fail
        go_ret2
        exact ⟨A5, c5, rfl, hr5, hbel.trans (hb5.mono hbel.size)⟩
  · have HU : Hid (UsesPost g w = fun e w' => ∃ A c, e = .returned (.tuple #[.slice A 0 c, errV g.e]) ∧ UReads w' w'.heap.size A 0 [] ∧ Below w.heap.size w w') := hide (by
      funext e w'
      unfold UsesPost
      rw [if_neg h0]
      rfl)
    rw [unhide HU]
    have hne := errV_1 h0
    obtain ⟨EV, hEV⟩ : ∃ E, E = errV g.e := ⟨_, rfl⟩
    rw [← hEV] at cCk hne ⊢
    obtain ⟨f, way, Aw, nw, cw, ws, At, nt, ct, ts⟩ := g
    simp only [Gv.val] at cCk ⊢
    have HNE := hide hne
    clear hg h0 HU hEV hne
    obtain ⟨W, hW, bg, hWs, hb0⟩ := gboxU w f way Aw nw cw At nt ct
    go_enter Try.func5, Try.ntmps5
    go_wp2_with fail
    rw [← hW]
    clear hW
    refine (unhide cCk W hb0).mono ?_
    rintro e w1 ⟨rfl, hb1⟩
    have hB1 := hb0.trans (hb1.mono (by omega))
    clear cCk bg hb0 hb1 hWs
    rw [unhide HNE]
    go_wp2_with fail
    go_ret2
    exact ⟨none, 0, by rw [unhide HNE]; rfl, ⟨rfl, fun h => absurd h (by omega)⟩, hB1⟩
end Go.Proofs.Ytopncifebldklaa
/- WeighSame, plain: how many nodes ask, of a grove and of it pruned. Conditions: as each lemma names. -/
namespace Go.Proofs.Ytopncifebldklaa
set_option linter.unusedVariables false
set_option linter.unusedSimpArgs false
open Go.RowKit

def sumU (us : List Us) : Int := (us.map Us.n).sum
def askN (t : List Nd) : Nat := (t.filter fun x => x.f != -1).length
def askL (L : List (List Nd)) : Nat := (L.map askN).sum
theorem sumU_app (a b : List Us) : sumU (a ++ b) = sumU a + sumU b := by unfold sumU; rw [List.map_append, List.sum_append]
theorem sumU_set {T : List Us} {f : Nat} {u v : Us} (h : T[f]? = some u) : sumU (T.set f v) = sumU T - u.n + v.n := by
  induction T generalizing f with
  | nil => simp at h
  | cons x r ih =>
    cases f with
    | zero =>
      simp at h
      subst h
      simp [sumU]
      omega
    | succ f =>
      have := ih (f := f) (by simpa using h)
      simp [sumU] at this ⊢
      omega
theorem sumU_count {T : List Us} {t : List Nd} (hT : T.length = 8) (hf : ∀ x ∈ t, x.f ≠ -1 → 0 ≤ x.f ∧ x.f < 8) : sumU (countT T t) = sumU T + askN t := by
  induction t generalizing T with
  | nil => simp [countT, askN]
  | cons x r ih =>
    have h1 : countT T (x :: r) = countT (oneT T x) r := rfl
    rw [h1, ih (by rw [oneT_len]; exact hT) (fun y hy => hf y (List.mem_cons_of_mem _ hy))]
    unfold askN oneT
    rw [List.filter_cons]
    by_cases hx : x.f = -1
    · simp [hx]
    · have hfx := hf x (List.mem_cons_self ..) hx
      have hu : T[x.f.toNat]? = some (T[x.f.toNat]'(by omega)) := List.getElem?_eq_getElem (by omega)
      rw [if_neg hx]
      unfold stepT
      rw [hu]
      dsimp only
      rw [sumU_set hu]
      have e : (x.f != -1) = true := by simpa using hx
      rw [if_pos e, List.length_cons]
      dsimp only
      omega
theorem sumU_table {L : List (List Nd)} (hf : ∀ t ∈ L, ∀ x ∈ t, x.f ≠ -1 → 0 ≤ x.f ∧ x.f < 8) : sumU (tableOf L) = askL L := by
  unfold tableOf
  have : ∀ (L : List (List Nd)) (T : List Us), T.length = 8 → (∀ t ∈ L, ∀ x ∈ t, x.f ≠ -1 → 0 ≤ x.f ∧ x.f < 8) → sumU (L.foldl countT T) = sumU T + askL L := by
    intro L
    induction L with
    | nil => intro T _ _; simp [askL]
    | cons t r ih =>
      intro T hT h
      rw [List.foldl_cons, ih _ (by rw [countT_len]; exact hT) (fun u hu => h u (List.mem_cons_of_mem _ hu)), sumU_count hT (h t (List.mem_cons_self ..))]
      simp [askL]
      omega
  rw [this L zeroT rfl hf]
  simp [sumU, zeroT]
theorem sumU_perm {a b : List Us} (h : a.Perm b) : sumU a = sumU b := by
  induction h with
  | nil => rfl
  | cons x _ ih => simp [sumU] at ih ⊢; omega
  | swap x y l => simp [sumU]; omega
  | trans _ _ i1 i2 => exact i1.trans i2
theorem sumU_used {T : List Us} (h : ∀ u ∈ T, 0 ≤ u.n) : sumU (usedT T) = sumU T := by
  unfold usedT
  induction T with
  | nil => rfl
  | cons x r ih =>
    have h1 := ih (fun u hu => h u (List.mem_cons_of_mem _ hu))
    have h2 := h x (List.mem_cons_self ..)
    rw [List.filter_cons]
    by_cases hx : 0 < x.n
    · rw [if_pos (by simpa using hx)]
      simp [sumU] at h1 ⊢
      omega
    · rw [if_neg (by simpa using hx)]
      simp [sumU] at h1 ⊢
      omega
theorem tableOf_small {L : List (List Nd)} (h : ∀ t ∈ L, t.length ≤ 63) : Small (tableOf L) (63 * L.length) := by
  unfold tableOf
  have : ∀ (L : List (List Nd)) (T : List Us) (b : Int), Small T b → (∀ t ∈ L, t.length ≤ 63) → Small (L.foldl countT T) (b + 63 * L.length) := by
    intro L
    induction L with
    | nil => intro T b h _; simpa using h
    | cons t r ih =>
      intro T b h h2
      rw [List.foldl_cons]
      have h3 := h2 t (List.mem_cons_self ..)
      refine (ih _ (b + 63) ((h.many t).more (by omega)) (fun u hu => h2 u (List.mem_cons_of_mem _ hu))).more ?_
      simp
      omega
  have := this L zeroT 0 (fun u hu => by simp [zeroT] at hu; subst hu; decide) h
  rwa [Int.zero_add] at this
theorem usesL_mem {L : List (List Nd)} {u : Us} (h : u ∈ usesL L) : u ∈ tableOf L := by
  unfold usesL listT at h
  have := (sortU_perm _).mem_iff.1 h
  exact (List.mem_filter.1 this).1
theorem usesL_len (L : List (List Nd)) : (usesL L).length ≤ 8 := by
  unfold usesL listT
  rw [sortU_len]
  have := usedT_len (tableOf L)
  rw [tableOf_len] at this
  exact this
theorem usesL_sum {L : List (List Nd)} (hf : ∀ t ∈ L, ∀ x ∈ t, x.f ≠ -1 → 0 ≤ x.f ∧ x.f < 8) (h63 : ∀ t ∈ L, t.length ≤ 63) : sumU (usesL L) = askL L := by
  unfold usesL listT
  rw [sumU_perm (sortU_perm _), sumU_used (fun u hu => (tableOf_small h63 u hu).1), sumU_table hf]
theorem ask_leaf : ∀ t : List Nd, askN t + nLeaf t = t.length := by
  intro t
  induction t with
  | nil => rfl
  | cons x r ih =>
    have hn : nLeaf (x :: r) = (if x.f = -1 then 1 else 0) + nLeaf r := rfl
    unfold askN at ih ⊢
    rw [hn, List.filter_cons]
    by_cases hx : x.f = -1
    · simp [hx]; omega
    · have e : (x.f != -1) = true := by simpa using hx
      rw [if_pos e, if_neg hx]
      simp only [List.length_cons]
      omega
theorem ask_pruned {t : List Nd} {n : Nat} (h : Right t n) : askN (prunedV t n) ≤ askN t := by
  have h1 := ask_leaf t
  have h2 := ask_leaf (prunedV t n)
  have h3 := h.halves
  have h4 := (h.pruned n).halves
  have h5 := h.prunedLess n
  omega
theorem askL_pruned {L : List (List Nd)} {n : Nat} (h : ∀ t ∈ L, Right t n) : askL (L.map fun t => prunedV t n) ≤ askL L := by
  unfold askL
  induction L with
  | nil => exact Nat.le_refl _
  | cons t r ih =>
    have h1 := ih (fun u hu => h u (List.mem_cons_of_mem _ hu))
    have h2 := ask_pruned (h t (List.mem_cons_self ..))
    simp only [List.map_cons, List.sum_cons]
    omega
theorem treesE_zero {fe : Int} : ∀ (L : List (List Nd)), (∀ t ∈ L, treeE t fe = 0) → treesE fe L = 0 := by
  intro L
  induction L with
  | nil => intro _; rfl
  | cons t r ih =>
    intro h
    rw [treesE, if_pos (h t (List.mem_cons_self ..))]
    exact ih (fun u hu => h u (List.mem_cons_of_mem _ hu))
theorem pruned_grove {g p : Gv} {n : Nat} (hg : g.e = 0) (hn : g.f = n) (h1 : p.f = g.f) (h2 : p.way = g.way) (h3 : p.ws = g.ws) (h4 : p.trees = g.trees.map fun t => prunedV t n) : p.e = 0 := by
  have hG := groveE_right hg
  have hRt : ∀ t ∈ g.trees, Right t n := fun t ht => by
    obtain ⟨r, hr, rfl⟩ := List.mem_map.1 ht
    have := right_of (hG.trees r hr)
    rwa [hn] at this
  have hl : p.trees.length = g.trees.length := by rw [h4, List.length_map]
  have hz : treesE p.f p.trees = 0 := treesE_zero _ (fun t ht => by
    rw [h4] at ht
    obtain ⟨s, hs, rfl⟩ := List.mem_map.1 ht
    rw [h1, hn]
    exact treeE_right ((hRt s hs).pruned n))
  have hgz : treesE g.f g.trees = 0 := treesE_zero _ (fun t ht => by
    rw [hn]; exact treeE_right (hRt t ht))
  unfold Gv.e at hg ⊢
  unfold groveE at hg ⊢
  rw [h1, h2, h3, hl]
  rw [h1] at hz
  rw [hgz] at hg
  rw [hz]
  exact hg
end Go.Proofs.Ytopncifebldklaa
