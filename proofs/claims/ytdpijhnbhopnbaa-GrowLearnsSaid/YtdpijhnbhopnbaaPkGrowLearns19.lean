/- Part 19 of what LawGrowLearns needs: GrowLearns. Conditions: as each lemma names. -/
import Derived.Test.YtdpijhnbhopnbaaPkGrowLearns18
/- GrowLearns: the walk. Conditions: samples that read as data. -/
namespace Go.Proofs.Ytdpijhnbhopnbaa
set_option linter.unusedVariables false
set_option linter.unusedSimpArgs false
open Go.RowKit

/-- the two rows that the statement counts in: how many samples came to each node, and what they sum to -/
def cntA (t : List Nd) (ss : List Sm) : Array Value := ((List.range 63).map fun k => Value.int .i64 ((comeTo t k ss).length : Nat)).toArray
def sumA (t : List Nd) (ss : List Sm) : Array Value := ((List.range 63).map fun k => Value.int .i64 (sumM (comeTo t k ss))).toArray
theorem cntA_at {t : List Nd} {ss : List Sm} {k : Nat} (h : k < 63) : (cntA t ss)[k]? = some (.int .i64 ((comeTo t k ss).length : Nat)) := by
  unfold cntA
  rw [List.getElem?_toArray, List.getElem?_map, List.getElem?_range h]
  rfl
theorem sumA_at {t : List Nd} {ss : List Sm} {k : Nat} (h : k < 63) : (sumA t ss)[k]? = some (.int .i64 (sumM (comeTo t k ss))) := by
  unfold sumA
  rw [List.getElem?_toArray, List.getElem?_map, List.getElem?_range h]
  rfl
theorem cntA_next {t : List Nd} {ss : List Sm} {j k : Nat} {s : Sm} (h : ss[j]? = some s) (hk : leafOf t s.r = k) (h63 : k < 63) : (cntA t (ss.take j)).setIfInBounds k (.int .i64 (((comeTo t k (ss.take j)).length : Nat) + 1 : Int)) = cntA t (ss.take (j + 1)) := by
  refine Array.ext_getElem? fun i => ?_
  rw [Array.getElem?_setIfInBounds]
  have hsz : (cntA t (ss.take j)).size = 63 := by unfold cntA; simp
  rw [hsz]
  by_cases hi : k = i
  · subst hi
    rw [if_pos rfl, if_pos h63, cntA_at h63, comeTo_next h, if_pos hk, List.length_append]
    rfl
  · rw [if_neg hi]
    by_cases h6 : i < 63
    · rw [cntA_at h6, cntA_at h6, comeTo_next h, if_neg (by omega), List.append_nil]
    · have hsz' : (cntA t (ss.take (j + 1))).size = 63 := by unfold cntA; simp
      rw [Array.getElem?_eq_none (by omega), Array.getElem?_eq_none (by omega)]
theorem sumA_next {t : List Nd} {ss : List Sm} {j k : Nat} {s : Sm} (h : ss[j]? = some s) (hk : leafOf t s.r = k) (h63 : k < 63) : (sumA t (ss.take j)).setIfInBounds k (.int .i64 (sumM (comeTo t k (ss.take j)) + s.t)) = sumA t (ss.take (j + 1)) := by
  refine Array.ext_getElem? fun i => ?_
  rw [Array.getElem?_setIfInBounds]
  have hsz : (sumA t (ss.take j)).size = 63 := by unfold sumA; simp
  rw [hsz]
  by_cases hi : k = i
  · subst hi
    rw [if_pos rfl, if_pos h63, sumA_at h63, comeTo_next h, if_pos hk, sumM_app]
    simp [sumM]
  · rw [if_neg hi]
    by_cases h6 : i < 63
    · rw [sumA_at h6, sumA_at h6, comeTo_next h, if_neg (by omega), List.append_nil]
    · have hsz' : (sumA t (ss.take (j + 1))).size = 63 := by unfold sumA; simp
      rw [Array.getElem?_eq_none (by omega), Array.getElem?_eq_none (by omega)]

theorem nodeE_up {len i : Nat} {fe fe' : Int} {n : Nd} (h : nodeE len i fe n = 0) (hf : fe ≤ fe') : nodeE len i fe' n = 0 := by
  have h1 := node_of h
  unfold nodeE at h ⊢
  by_cases hl : n.f = -1
  · rw [if_pos hl] at h ⊢; exact h
  · rw [if_neg hl] at h ⊢
    rcases h1 with h1 | h1
    · exact absurd h1.1 hl
    · rw [if_neg (by omega), if_neg (by omega)] at h ⊢
      exact h
theorem Right.up8 {t : List Nd} {fe fe' : Int} (h : Right t fe) (h1 : fe ≤ fe') (h2 : fe' ≤ 8) : Right t fe' :=
  ⟨h.pos, h.most, by have := h.fe0; omega, h2, fun i n hn => nodeE_up (h.node i n hn) h1, h.one, h.deep⟩
theorem come_ready {t : List Nd} {n : Nat} {ss : List Sm} (hT : Right t n) (hs : SRight ss n) {s : Sm} (h : s ∈ ss) : readyE t s.r = 0 := by
  unfold readyE
  rw [rowE_good (fun x hx => rowGood_cell (hs.cell s h x hx).1 (hs.cell s h x hx).2) (by rw [hs.len s h]; exact hs.fe8), if_pos rfl, hs.len s h]
  exact treeE_right hT
theorem come_learn {t : List Nd} {n : Nat} {ss : List Sm} (hz : sampE ss n = 0) (hT : Right t n) (hs : SRight ss n) : readyS t ss = 0 := by
  obtain ⟨s, hx⟩ : ∃ s, ss[0]? = some s := ⟨_, List.getElem?_eq_getElem hs.pos⟩
  rw [readyS_at hx, hs.len s (List.mem_of_getElem? hx), if_pos (treeE_right hT)]
  exact hz

theorem cnt_zero (t : List Nd) (ss : List Sm) : ((#[.int .i64 0, .int .i64 0, .int .i64 0, .int .i64 0, .int .i64 0, .int .i64 0, .int .i64 0, .int .i64 0, .int .i64 0, .int .i64 0, .int .i64 0, .int .i64 0, .int .i64 0, .int .i64 0, .int .i64 0, .int .i64 0, .int .i64 0, .int .i64 0, .int .i64 0, .int .i64 0, .int .i64 0, .int .i64 0, .int .i64 0, .int .i64 0, .int .i64 0, .int .i64 0, .int .i64 0, .int .i64 0, .int .i64 0, .int .i64 0, .int .i64 0, .int .i64 0, .int .i64 0, .int .i64 0, .int .i64 0, .int .i64 0, .int .i64 0, .int .i64 0, .int .i64 0, .int .i64 0, .int .i64 0, .int .i64 0, .int .i64 0, .int .i64 0, .int .i64 0, .int .i64 0, .int .i64 0, .int .i64 0, .int .i64 0, .int .i64 0, .int .i64 0, .int .i64 0, .int .i64 0, .int .i64 0, .int .i64 0, .int .i64 0, .int .i64 0, .int .i64 0, .int .i64 0, .int .i64 0, .int .i64 0, .int .i64 0, .int .i64 0] : Array Value) = cntA t (ss.take 0)) ∧ ((#[.int .i64 0, .int .i64 0, .int .i64 0, .int .i64 0, .int .i64 0, .int .i64 0, .int .i64 0, .int .i64 0, .int .i64 0, .int .i64 0, .int .i64 0, .int .i64 0, .int .i64 0, .int .i64 0, .int .i64 0, .int .i64 0, .int .i64 0, .int .i64 0, .int .i64 0, .int .i64 0, .int .i64 0, .int .i64 0, .int .i64 0, .int .i64 0, .int .i64 0, .int .i64 0, .int .i64 0, .int .i64 0, .int .i64 0, .int .i64 0, .int .i64 0, .int .i64 0, .int .i64 0, .int .i64 0, .int .i64 0, .int .i64 0, .int .i64 0, .int .i64 0, .int .i64 0, .int .i64 0, .int .i64 0, .int .i64 0, .int .i64 0, .int .i64 0, .int .i64 0, .int .i64 0, .int .i64 0, .int .i64 0, .int .i64 0, .int .i64 0, .int .i64 0, .int .i64 0, .int .i64 0, .int .i64 0, .int .i64 0, .int .i64 0, .int .i64 0, .int .i64 0, .int .i64 0, .int .i64 0, .int .i64 0, .int .i64 0, .int .i64 0] : Array Value) = sumA t (ss.take 0)) := by
  rw [List.take_zero]
  exact ⟨rfl, rfl⟩
theorem two_rows {w : World} {t1 t2 : TypeId} {z y a b : Array Value} (h1 : z = a) (h2 : y = b) : Blk ((w.alloc (.cells z t1)).alloc (.cells y t2)) w.heap.size t1 a ∧ Blk ((w.alloc (.cells z t1)).alloc (.cells y t2)) (w.heap.size + 1) t2 b ∧ Below w.heap.size w ((w.alloc (.cells z t1)).alloc (.cells y t2)) := by
  subst h1 h2
  refine ⟨(Blk.new _ _ _).alloc _, ?_, ((Below.refl _ _).alloc (Nat.le_refl _) _).alloc (by rw [World.size_alloc]; omega) _⟩
  have := Blk.new (w.alloc (.cells z t1)) t2 y
  rw [World.size_alloc] at this
  exact this

theorem rightV_bnd {ss : List Sm} {n : Nat} (hs : SRight ss n) (f : Nat) (q least : Int) : (0 ≤ (rightV ss f q least).1 ∧ (rightV ss f q least).1 ≤ 500000000000) ∧ 0 ≤ (rightV ss f q least).2 ∧ (rightV ss f q least).2 ≤ 900 := by
  have hp := parts_len f q ss
  have hm := hs.most
  have b1 := sum_60 (ss := lowS f q ss) (by omega) (fun s h => hs.tlo s (lowS_mem h).1) (fun s h => hs.thi s (lowS_mem h).1)
  have b2 := sum_60 (ss := highS f q ss) (by omega) (fun s h => hs.tlo s (highS_mem h).1) (fun s h => hs.thi s (highS_mem h).1)
  have b0 := sum_60 (ss := ss) (by omega) hs.tlo hs.thi
  have g0 := sq_le (a := sumM ss) (m := 60000) (by omega) (by omega)
  have hU : upC ss f q = sumM (lowS f q ss) * sumM (lowS f q ss) * (((highS f q ss).length : Nat) : Int) + sumM (highS f q ss) * sumM (highS f q ss) * (((lowS f q ss).length : Nat) : Int) := rfl
  have hD : dnC ss f q = (((lowS f q ss).length : Nat) : Int) * (((highS f q ss).length : Nat) : Int) := rfl
  unfold rightV
  rw [hU, hD]
  obtain ⟨sa, hsa⟩ : ∃ x, x = sumM (lowS f q ss) := ⟨_, rfl⟩
  obtain ⟨sb, hsb⟩ : ∃ x, x = sumM (highS f q ss) := ⟨_, rfl⟩
  obtain ⟨la, hla⟩ : ∃ x, x = (lowS f q ss).length := ⟨_, rfl⟩
  obtain ⟨lb, hlb⟩ : ∃ x, x = (highS f q ss).length := ⟨_, rfl⟩
  obtain ⟨s0, hs0⟩ : ∃ x, x = sumM ss := ⟨_, rfl⟩
  rw [← hsa] at b1
  rw [← hsb] at b2
  rw [← hla, ← hlb] at hp
  rw [← hs0] at g0
  rw [← hsa, ← hsb, ← hla, ← hlb, ← hs0]
  have g1 := sq_le (a := sa) (m := 60000) (by omega) (by omega)
  have g2 := sq_le (a := sb) (m := 60000) (by omega) (by omega)
  have g3 : 0 ≤ sa * sa * (lb : Int) := Int.mul_nonneg g1.1 (by omega)
  have g4 : 0 ≤ sb * sb * (la : Int) := Int.mul_nonneg g2.1 (by omega)
  have g5 : sa * sa * (lb : Int) ≤ 60000 * 60000 * 60 := Int.mul_le_mul g1.2 (by omega) (by omega) (by omega)
  have g6 : sb * sb * (la : Int) ≤ 60000 * 60000 * 60 := Int.mul_le_mul g2.2 (by omega) (by omega) (by omega)
  have g7 : (la : Int) * lb ≤ 900 := prod_900 (by omega)
  have g8 : 0 ≤ (la : Int) * lb := Int.mul_nonneg (by omega) (by omega)
  by_cases h1 : least = 0
  · rw [if_pos h1]; refine ⟨⟨g0.1, ?_⟩, ?_, ?_⟩ <;> dsimp only <;> omega
  · rw [if_neg h1]
    by_cases h2 : (la : Int) < least
    · rw [if_pos h2]; refine ⟨⟨?_, ?_⟩, ?_, ?_⟩ <;> dsimp only <;> omega
    · rw [if_neg h2]
      by_cases h3 : (lb : Int) < least
      · rw [if_pos h3]; refine ⟨⟨?_, ?_⟩, ?_, ?_⟩ <;> dsimp only <;> omega
      · rw [if_neg h3]; refine ⟨⟨?_, ?_⟩, ?_, ?_⟩ <;> dsimp only <;> omega
/-- the products that are held against each other are no greater than a number can be -/
theorem prod_fit {a b : Int} (h1 : 0 ≤ a ∧ a ≤ 500000000000) (h2 : 0 ≤ b ∧ b ≤ 900) : 0 ≤ a * b ∧ a * b ≤ 450000000000000 :=
  ⟨Int.mul_nonneg h1.1 h2.1, by have := Int.mul_le_mul h1.2 h2.2 h2.1 (by omega); omega⟩

theorem calls_nameL {P : Program} {f : FuncId} {xs : Array Value} {W : World} {Q : Ending → World → Prop} (h : ∀ X, X = W → Calls P f xs X Q) : Calls P f xs W Q := h W rfl

set_option maxRecDepth 100000 in
set_option maxHeartbeats 8000000 in
theorem growLearns_walk (A : Option Addr) (m c : Nat) (fe depth least feature q : Int) (ss : List Sm) (w : World) (h : MReads w w.heap.size A m ss) (hm : m ≤ maxLen) :
    Calls Try.prog 3 #[.slice A m c, .int .i64 fe, .int .i64 depth, .int .i64 least, .int .i64 feature, .int .i64 q] w fun e w' => e = .returned (.bool true) ∧ Below w.heap.size w w' := by
  obtain ⟨W0, hW0, hr0, hB0⟩ := nine_reads w
  have HF := hide (fit_grow _ 4 4 1 1 1 _ W0 hr0 (by decide))
  unfold NodesPost at HF
  rw [(nine_fit _ _ _ _).1, (nine_fit _ _ _ _).2, errV_0 rfl] at HF
  have HL := hide h.len
  go_enter Try.func3, Try.ntmps3
  go_wp2_with fail
  rw [← hW0]
  clear hW0 hr0
  refine (unhide HF).mono ?_
  rintro e w1 ⟨v1, rfl, ho1, hb1⟩
  obtain ⟨A1, c1, rfl, hr1, _⟩ := ho1.slice
  obtain ⟨b, o, x, rfl, _, hx, q0, q1, -, -, -, -⟩ := hr1.get (k := 0) (by simp)
  obtain ⟨b', o', x', hbb, _, hx', -, -, -, -, -, q5⟩ := hr1.get (k := 2) (by simp)
  injection hbb with hbb
  injection hbb with hbb1 hbb2
  subst hbb1 hbb2
  simp at hx hx'
  subst hx hx'
  simp at q0 q1 q5
  have e1 : ([⟨0, 3, 1, 2, false, 0⟩, ⟨-1, 0, 0, 0, false, 0⟩, ⟨-1, 0, 0, 0, false, 9⟩] : List Nd).length = 3 := rfl
  rw [e1]
  have hB1 := hB0.trans (hb1.mono hB0.size)
  clear HF e1 ho1 hr1 hb1 hB0
  go_wp2_with fail
  have hc := hide (fit_grow A m c fe depth least ss w1 ((h.below hB1).more hB1.size) hm)
  unfold NodesPost at hc
  by_cases h0 : fitE ss fe depth least = 0
  case neg =>
    have hv := errV_1 h0
    clear h0
    refine (unhide hc).mono ?_
    rintro e w2 ⟨v2, rfl, ho2, hb2⟩
    rw [hv]
    clear hc hv ho2 q0 q1 q5
    go_wp2_with fail
    go_ret
    exact ⟨rfl, hB1.trans (hb2.mono hB1.size)⟩
  have hv := errV_0 h0
  obtain ⟨n, d, ls, hg⟩ := grown_of h0
  have HG := hide hg
  have h60 : m ≤ 60 := by have := hg.right.most; have := unhide HL; omega
  have hn8 : n ≤ 8 := hg.right.fe8
  have hd5 : d ≤ 5 := hg.d5
  have hl1 : 1 ≤ ls := hg.l1
  have hl60 : ls ≤ 60 := hg.l60
  refine (unhide hc).mono ?_
  rintro e w2 ⟨v2, rfl, ho2, hb2⟩
  rw [hv]
  have hB2 := hB1.trans (hb2.mono hB1.size)
  have hTr := hg.tree_right
  have hTd := hg.deep
  obtain ⟨T, hT⟩ : ∃ T, T = fitT ss fe depth least := ⟨_, rfl⟩
  rw [← hT] at ho2 hTr hTd
  have HT := hide hT
  have HTR := hide hTr
  obtain ⟨A2, c2, rfl, hr2, _⟩ := ho2.slice
  obtain ⟨t, ht⟩ : ∃ t, t = T.length := ⟨_, rfl⟩
  have ht63 : t ≤ 63 := by rw [ht]; exact hTr.most
  have ht0 : 0 < t := by rw [ht]; exact hTr.pos
  rw [← ht] at hr2 ⊢
  have HTL := hide ht
  obtain ⟨rfl, rfl, rfl⟩ : fe = n ∧ depth = d ∧ least = ls := ⟨hg.hfe, hg.hdepth, hg.hleast⟩
  have cC := hide (check_any A2 t c2 n T w2 hr2 (by unfold maxLen; omega))
  unfold CheckPost at cC
  rw [treeE_right hTr, errV_0 rfl] at cC
  have cD := hide (fun (W : World) (hB : Below w2.heap.size w2 W) => Depth_any A2 t c2 T W ((hr2.below hB).more hB.size) (by unfold maxLen; omega))
  have hT8 := treeE_right (hTr.up8 (by omega : (n : Int) ≤ 8) (by omega))
  unfold depthV at cD
  rw [hT8, if_pos rfl, errV_0 rfl] at cD
  obtain ⟨dp, hdp⟩ : ∃ v, v = dep T 0 := ⟨_, rfl⟩
  rw [← hdp] at cD hTd
  obtain ⟨kc, hkc⟩ : ∃ v, v = (((treeC T n).1 : Nat) : Int) := ⟨_, rfl⟩
  rw [← hkc] at cC
  have d1 : decide (d < dp) = false := decide_eq_false (by omega)
  have d1' : decide ((d : Int) < (dp : Int)) = false := decide_eq_false (by omega)
  clear hc hv q0 q1 q5 ho2 hT hT8 hdp hkc h0 hg ht hTr
  go_wp2_with fail
  refine (unhide cC).mono ?_
  rintro e w3 ⟨rfl, hb3⟩
  go_wp2_with fail
  refine (unhide cD _ hb3).mono ?_
  rintro e w4 ⟨rfl, hb4⟩
  have hb24 := hb3.trans (hb4.mono hb3.size)
  have hB4 := hB2.trans (hb24.mono hB2.size)
  have hr4 := (hr2.below hb24).more hb24.size
  clear cC cD hb3 hb4 hb24 hr2 hb2 hB2
  go_wp2_with fail
  refine wp_nameV fun W hW => ?_
  obtain ⟨bM, bS, hbW⟩ : Blk W w4.heap.size 36 (cntA T (ss.take 0)) ∧ Blk W (w4.heap.size + 1) 36 (sumA T (ss.take 0)) ∧ Below w4.heap.size w4 W := by
    rw [hW]
    exact two_rows (cnt_zero T ss).1 (cnt_zero T ss).2
  clear hW d1 d1'
  obtain ⟨g1, hg1⟩ : ∃ g, g = w4.heap.size := ⟨_, rfl⟩
  rw [← hg1] at bM bS hbW ⊢
  have HG1 := hide hg1
  clear hg1
  have HNEW := hide hTd
  have HTS : Hid (∀ j k, j ≤ m → (comeTo T k (ss.take j)).length ≤ 60 ∧ -60000 ≤ sumM (comeTo T k (ss.take j)) ∧ sumM (comeTo T k (ss.take j)) ≤ 60000) := hide fun j k hj => by
    have h1 : (comeTo T k (ss.take j)).length ≤ 60 := Nat.le_trans (List.length_filter_le _ _) (by rw [List.length_take]; omega)
    have h2 := sum_60 h1 (fun s hm => (unhide HG).right.tlo s (List.mem_of_mem_take (List.mem_filter.1 hm).1)) (fun s hm => (unhide HG).right.thi s (List.mem_of_mem_take (List.mem_filter.1 hm).1))
    exact ⟨h1, h2.1, h2.2⟩
  go_loopw [24] (fun i wr => ∃ j : Nat, j ≤ m ∧ i = .int .i64 j ∧ Blk wr g1 36 (cntA T (ss.take j)) ∧ Blk wr (g1 + 1) 36 (sumA T (ss.take j)) ∧ Below g1 w4 wr) (fun i _ => m - (intOf i).toNat)
  case atStart => exact ⟨0, Nat.zero_le _, rfl, bM, bS, hbW⟩
  case round =>
    clear bM bS hbW
    obtain ⟨j, hj, rfl, bM, bS, hbel⟩ := hrel
    have hbel4 : Below w4.heap.size w4 wr := by rw [← unhide HG1]; exact hbel
    have hsz := hbel4.size
    by_cases hlt : j < m
    · obtain ⟨b, o, s, rfl, hbb, hx, c0, c1, hok⟩ := (h.below (hB4.trans (hbel4.mono hB4.size))).get hlt
      have hmem := List.mem_of_getElem? hx
      have t1 := (unhide HG).right.tlo s hmem
      have t2 := (unhide HG).right.thi s hmem
      have hBwr := hB4.trans (hbel4.mono hB4.size)
      have c1w := (hBwr.cell hbb).symm.trans c1
      have hrd : IReads wr wr.heap.size s.A s.n s.r := hok.reads.more hBwr.size
      have hsn : s.n ≤ maxLen := hok.len
      have HN1 := hide (fun k (hk : leafOf T s.r = k) (h63 : k < 63) => cntA_next (t := T) hx hk h63)
      have HN2 := hide (fun k (hk : leafOf T s.r = k) (h63 : k < 63) => sumA_next (t := T) hx hk h63)
      have hrdy := come_ready (unhide HTR) (unhide HG).right hmem
      have hC := hide (leaf_any A2 s.A t c2 s.n s.c T s.r wr ((hr4.below hbel4).more hbel4.size) hrd (by unfold maxLen; omega) hsn)
      unfold leafV at hC
      rw [hrdy, if_pos rfl, errV_0 rfl] at hC
      have hlf : leafOf T s.r < t := by rw [unhide HTL]; exact leafFrom_lt (unhide HTR).behind _ _ (unhide HTR).pos
      obtain ⟨k, hk⟩ : ∃ k, k = leafOf T s.r := ⟨_, rfl⟩
      rw [← hk] at hC hlf
      have HM := hide (unhide HN1 k hk.symm (by omega))
      have HS := hide (unhide HN2 k hk.symm (by omega))
      obtain ⟨u1, u2, u3⟩ := unhide HTS j k hj
      have k63 : k < 63 := by omega
      have cM := bM.cell k
      have cS := bS.cell k
      rw [cntA_at k63] at cM
      rw [sumA_at k63] at cS
      obtain ⟨nk, hnk⟩ : ∃ v, v = (comeTo T k (ss.take j)).length := ⟨_, rfl⟩
      obtain ⟨sk, hsk⟩ : ∃ v, v = sumM (comeTo T k (ss.take j)) := ⟨_, rfl⟩
      rw [← hnk] at u1 cM HM
      rw [← hsk] at u2 u3 cS HS
      obtain ⟨sA, sn, sc, sr, st⟩ := s
      dsimp only at c0 c1 t1 t2 hC HS hbb c1w
      clear hx hok hmem hrd hsn HN1 HN2 hrdy hk hnk hsk
      go_wp2_with fail
      refine (unhide hC).mono ?_
      rintro e w5 ⟨rfl, hb5⟩
      have bM5 := bM.below hb5 bM.lt
      have bS5 := bS.below hb5 bS.lt
      have cM5 := (hb5.cell (p := ⟨g1, k, none⟩) bM.lt).trans cM
      have cS5 := (hb5.cell (p := ⟨g1 + 1, k, none⟩) bS.lt).trans cS
      have hbel5 := hbel.trans (hb5.mono (by have := bM.lt; omega))
      have fM := bM5.frozen k
      have fS := bS5.frozen k
      clear hC c0 cM cS bM bS hbel hbel4
      go_wp2_with fail
      refine wp_nameV fun X hX => ?_
      obtain ⟨bM6, bS6, hbel6⟩ : Blk X g1 36 (cntA T (ss.take (j + 1))) ∧ Blk X (g1 + 1) 36 (sumA T (ss.take j)) ∧ Below g1 w4 X := by
        rw [hX]
        exact ⟨by rw [← unhide HM]; exact bM5.set_ k _, bS5.far (by show g1 + 1 ≠ g1; omega) _, hbel5.setCell (Nat.le_refl _) _⟩
      have hbel64 : Below w4.heap.size w4 X := by rw [← unhide HG1]; exact hbel6
      have c1X := ((hB4.trans (hbel64.mono hB4.size)).cell hbb).trans c1w
      have cS6 : X.cell? ⟨g1 + 1, k, none⟩ = some (.int .i64 sk) := by rw [bS6.cell k, ← bS5.cell k]; exact cS5
      have fS6 := bS6.frozen k
      have hwr : IntKind.i64.wrap (sk + st) = sk + st := IntWalk.i64_in _ (by omega)
      clear hX c1 c1w bM5 bS5 cM5 cS5 hbel5 fM fS hb5
      go_region
      go_wp2_with fail
      go_roundw
      case rel =>
        exact ⟨j + 1, by omega, by go_num, (bM6.far (by show g1 ≠ g1 + 1; omega) _).drew, by rw [← unhide HS]; exact (bS6.set_ k _).drew, (hbel6.setCell (p := ⟨g1 + 1, k, none⟩) (by show g1 ≤ g1 + 1; omega) _).drew⟩
      case measure => simp [intOf]; omega
    · obtain rfl : j = m := by omega
      have hTk : ss.take j = ss := List.take_of_length_le (by rw [unhide HL]; exact Nat.le_refl _)
      rw [hTk] at bM bS
      have HLF : Hid (∀ k y, T[k]? = some y → y.f = -1 → (comeTo T k ss).length ≤ 60 ∧ 0 < (comeTo T k ss).length ∧ -60000 ≤ sumM (comeTo T k ss) ∧ sumM (comeTo T k ss) ≤ 60000 ∧ y.v = sumM (comeTo T k ss) / ((comeTo T k ss).length : Int) ∧ (1 < t → ls ≤ (comeTo T k ss).length)) := hide fun k y hy hf => by
        have h1 := unhide HTS j k (Nat.le_refl _)
        rw [hTk] at h1
        have h2 := (unhide HG).leaf (k := k) (y := y) (by rw [← unhide HT]; exact hy) hf
        rw [← unhide HT, ← unhide HTL] at h2
        exact ⟨h1.1, h2.1.pos, h1.2.1, h1.2.2, h2.2.1, h2.2.2⟩
      have hr5 := (hr4.below hbel4).more hbel4.size
      clear HTS hTk HNEW
      go_wp2_with fail
      go_loopw [27] (fun i wx => ∃ k : Nat, k ≤ t ∧ i = .int .i64 k ∧ wx = wr) (fun i _ => t - (intOf i).toNat)
      case atStart => exact ⟨0, Nat.zero_le _, rfl, rfl⟩
      case round =>
        obtain ⟨k, hk, rfl, rfl⟩ := hrel
        by_cases hkt : k < t
        · obtain ⟨tb, to_, y, rfl, _, hy, q0, q1, q2, q3, q4, q5⟩ := hr5.get hkt
          by_cases hf : y.f = -1
          · obtain ⟨l1, l2, l3, l4, l5, l6⟩ := unhide HLF k y hy hf
            have hmn := mean_in l2 l5
            have hvb : -1000000 ≤ y.v ∧ y.v ≤ 1000000 := by have := node_of ((unhide HTR).node k y hy); omega
            have cM := bM.cell k
            have cS := bS.cell k
            rw [cntA_at (by omega)] at cM
            rw [sumA_at (by omega)] at cS
            have hff : (y.f != -1) = false := by simpa using hf
            obtain ⟨nk, hnk⟩ : ∃ v, v = (comeTo T k ss).length := ⟨_, rfl⟩
            obtain ⟨sk, hsk⟩ : ∃ v, v = sumM (comeTo T k ss) := ⟨_, rfl⟩
            obtain ⟨yf, yc, yl, yr, yb, v⟩ := y
            dsimp only at l5 hmn hvb q0 q5 hff
            rw [← hnk] at cM l1 l2 l6 hmn
            rw [← hsk] at cS l3 l4 hmn
            obtain ⟨m1, m2⟩ := hmn
            have hp1 : (v + 1) * (nk : Int) = v * (nk : Int) + nk := by rw [Int.add_mul, Int.one_mul]
            have hw1 : IntKind.i64.wrap (v * (nk : Int)) = v * (nk : Int) := IntWalk.i64_in _ (by omega)
            have hw2 : IntKind.i64.wrap (v + 1) = v + 1 := IntWalk.i64_in _ (by omega)
            have hw3 : IntKind.i64.wrap ((v + 1) * (nk : Int)) = (v + 1) * (nk : Int) := IntWalk.i64_in _ (by omega)
            have e1 : ((nk : Int) == 0) = false := by simp; omega
            have e2 : decide (sk < v * (nk : Int)) = false := decide_eq_false (by omega)
            have e3 : decide ((v + 1) * (nk : Int) ≤ sk) = false := decide_eq_false (by omega)
            have hk63 : k < 63 := by omega
            by_cases ht1 : 1 < t
            · have e4 : decide (1 < t) = true := decide_eq_true ht1
              have e4' : decide ((1 : Int) < (t : Int)) = true := decide_eq_true (by omega)
              have e5 : decide (nk < ls) = false := decide_eq_false (by have := l6 ht1; omega)
              have e5' : decide ((nk : Int) < (ls : Int)) = false := decide_eq_false (by have := l6 ht1; omega)
              clear l5 l6 hy hf hnk hsk q1 q2 q3 q4 ht1 hp1 m1 m2 hvb
              go_wp2_with fail
              go_roundw
              case rel => exact ⟨k + 1, by omega, by go_num, trivial⟩
              case measure => simp [intOf]; omega
            · have e4 : decide (1 < t) = false := decide_eq_false ht1
              have e4' : decide ((1 : Int) < (t : Int)) = false := decide_eq_false (by omega)
              clear l5 l6 hy hf hnk hsk q1 q2 q3 q4 ht1 hp1 m1 m2 hvb
              go_wp2_with fail
              go_roundw
              case rel => exact ⟨k + 1, by omega, by go_num, trivial⟩
              case measure => simp [intOf]; omega
          · have hff : (y.f != -1) = true := by simpa using hf
            clear hf hy q1 q2 q3 q4 q5
            go_wp2_with fail
            go_roundw
            case rel => exact ⟨k + 1, by omega, by go_num, trivial⟩
            case measure => simp [intOf]; omega
        · obtain rfl : k = t := by omega
          clear bM bS HLF
          have hrS := come_learn (unhide HG).samp (unhide HTR) (unhide HG).right
          have hW1 := hide (wrong_any A2 A k c2 j c T ss wr hr5 ((h.below (hB4.trans (hbel4.mono hB4.size))).more (Nat.le_trans hB4.size hbel4.size)) (by unfold maxLen; omega) hm)
          unfold wrongE at hW1
          rw [hrS, if_pos rfl, errV_0 rfl] at hW1
          have hB5 := hB4.trans (hbel4.mono hB4.size)
          clear hr4 hbel hbel4 hsz hrS hB4
          go_wp2_with fail
          refine (unhide hW1).mono ?_
          rintro e w6 ⟨rfl, hb6⟩
          have hB6 := hB5.trans (hb6.mono hB5.size)
          clear hW1 hb6 hB5 hr5
          have hWB := wrongM_le (unhide HTR) (ss := ss) (unhide HG).right.tlo (unhide HG).right.thi
          rw [unhide HL] at hWB
          obtain ⟨uT, huT⟩ : ∃ u, u = wrongM T ss := ⟨_, rfl⟩
          rw [← huT] at hWB ⊢
          have HUT := hide huT
          clear huT
          go_upto_if 201 with (fail)
          go_cut [] from 31 to 228 (fun wx => Below w.heap.size w wx)
          case first =>
            by_cases hd0 : 0 < d
            · have e1 : decide (0 < d) = true := decide_eq_true hd0
              have e1' : decide ((0 : Int) < (d : Int)) = true := decide_eq_true (by omega)
              obtain ⟨f1, f2⟩ := (unhide HG).deeper (by omega : (0 : Int) < (d : Int))
              obtain ⟨n', d', ls', g7⟩ := grown_of f1
              have r7 := g7.tree_right
              rw [← g7.hfe] at r7
              have hrd7 := come_learn (unhide HG).samp r7 (unhide HG).right
              have hwb7 := wrongM_le r7 (ss := ss) (unhide HG).right.tlo (unhide HG).right.thi
              have hm7 := r7.most
              have hsub : IntKind.i64.wrap ((d : Int) - 1) = (d : Int) - 1 := IntWalk.i64_in _ (by omega)
              have hc := hide (fit_grow A j c n ((d : Int) - 1) ls ss w6 ((h.below hB6).more hB6.size) hm)
              unfold NodesPost at hc
              rw [f1, errV_0 rfl] at hc
              rw [← unhide HT, ← unhide HUT, unhide HL] at f2
              rw [unhide HL] at hwb7
              obtain ⟨T7, hT7⟩ : ∃ x, x = fitT ss n ((d : Int) - 1) ls := ⟨_, rfl⟩
              rw [← hT7] at hc f2 hrd7 hwb7 hm7
              obtain ⟨u7, hu7⟩ : ∃ u, u = wrongM T7 ss := ⟨_, rfl⟩
              rw [← hu7] at f2 hwb7
              have HU7 := hide hu7
              obtain ⟨m7, hm7'⟩ : ∃ x, x = T7.length := ⟨_, rfl⟩
              rw [← hm7'] at hm7
              have HM7 := hide hm7'
              have HR7 := hide hrd7
              have hw1 : IntKind.i64.wrap (u7 + (j : Int)) = u7 + (j : Int) := IntWalk.i64_in _ (by omega)
              have e2 : decide (u7 + (j : Int) < uT) = false := decide_eq_false (by omega)
              clear f1 g7 r7 hT7 hu7 hm7' hrd7
              go_wp2_with fail
              refine (unhide hc).mono ?_
              rintro e w7 ⟨v7, rfl, ho7, hb7⟩
              obtain ⟨A7, c7, rfl, hr7, _⟩ := ho7.slice
              rw [← unhide HM7] at hr7 ⊢
              have hB7 := hB6.trans (hb7.mono hB6.size)
              have hW7 := hide (wrong_any A7 A m7 c7 j c T7 ss w7 hr7 ((h.below hB7).more hB7.size) (by unfold maxLen; omega) hm)
              unfold wrongE at hW7
              rw [unhide HR7, if_pos rfl, errV_0 rfl, ← unhide HU7] at hW7
              clear hc ho7 hr7 hb7
              go_wp2_with fail
              refine (unhide hW7).mono ?_
              rintro e w8 ⟨rfl, hb8⟩
              have hB8 := hB7.trans (hb8.mono hB7.size)
              clear hW7 hb8 hB7
              go_wp2_with fail
              go_meet
              case rel => exact hB8
            · have e1 : decide (0 < d) = false := decide_eq_false hd0
              have e1' : decide ((0 : Int) < (d : Int)) = false := decide_eq_false (by omega)
              go_wp2_with fail
              go_meet
              case rel => exact hB6
          case rest =>
            have hBc : Below w.heap.size w wc := hcut
            clear hcut hB6 hWB
            have hS := hide (split_any A j c n ls ss wc ((h.below hBc).more hBc.size) hm)
            by_cases hfe : 0 ≤ feature ∧ feature < (n : Int)
            case neg =>
              obtain ⟨sF, hsF⟩ : ∃ x, x = splitF ss n ls := ⟨_, rfl⟩
              obtain ⟨sC, hsC⟩ : ∃ x, x = splitC ss n ls := ⟨_, rfl⟩
              obtain ⟨sE, hsE⟩ : ∃ x, x = splitE ss n ls := ⟨_, rfl⟩
              rw [← hsF, ← hsC, ← hsE] at hS
              clear hsF hsC hsE
              by_cases hn : feature < 0
              · have e1 : decide (feature < 0) = true := decide_eq_true hn
                clear hn hfe
                go_wp2_with fail
                refine (unhide hS).mono ?_
                rintro e w8 ⟨rfl, hb8⟩
                go_wp2_with fail
                go_ret
                exact ⟨rfl, hBc.trans (hb8.mono hBc.size)⟩
              · have e1 : decide (feature < 0) = false := decide_eq_false hn
                have e2 : decide ((n : Int) ≤ feature) = true := decide_eq_true (by omega)
                clear hn hfe
                go_wp2_with fail
                refine (unhide hS).mono ?_
                rintro e w8 ⟨rfl, hb8⟩
                go_wp2_with fail
                go_ret
                exact ⟨rfl, hBc.trans (hb8.mono hBc.size)⟩
            obtain ⟨f, rfl⟩ : ∃ f : Nat, feature = f := ⟨feature.toNat, by omega⟩
            have hf : f < n := by omega
            obtain ⟨bc1, bc2⟩ := best_case (unhide HG).samp (unhide HG).right hl1 hl60 hf q
            have e1 : decide ((f : Int) < 0) = false := decide_eq_false (by omega)
            have e2 : decide ((n : Int) ≤ (f : Int)) = false := decide_eq_false (by omega)
            have e2' : decide (n ≤ f) = false := decide_eq_false (by omega)
            have HRT : Hid (∀ W, Below w.heap.size w W → ∀ (g : Nat) (x least : Int), g < n → 0 ≤ least → least ≤ 60 → Calls Try.prog 12 #[.slice A j c, .int .i64 g, .int .i64 x, .int .i64 least] W fun e w' => e = .returned (.agg #[.int .i64 (rightV ss g x least).1, .int .i64 (rightV ss g x least).2]) ∧ Below W.heap.size W w') :=
              hide (fun W hB g x least hg h0 h6 => right_any A j c g n x least ss W ((h.below hB).more hB.size) (unhide HG).right hg h0 h6)
            have hR := hide (fun W hB => unhide HRT W hB f q ls hf (by omega) (by omega))
            obtain ⟨p1, p2⟩ := rightV_bnd (unhide HG).right f q ls
            obtain ⟨g1, hg1⟩ : ∃ x, x = (rightV ss f q ls).1 := ⟨_, rfl⟩
            obtain ⟨g2, hg2⟩ : ∃ x, x = (rightV ss f q ls).2 := ⟨_, rfl⟩
            rw [← hg1, ← hg2] at hR bc1 bc2
            rw [← hg1] at p1
            rw [← hg2] at p2
            clear hg1 hg2 hfe
            by_cases hE : splitE ss n ls = 0
            · obtain ⟨g, hF, hg, hpos, hle⟩ := bc2 hE
              obtain ⟨sC, hsC⟩ : ∃ x, x = splitC ss n ls := ⟨_, rfl⟩
              rw [← hsC] at hS hpos hle
              have hR2 := hide (fun W hB => unhide HRT W hB g sC ls hg (by omega) (by omega))
              obtain ⟨q1, q2⟩ := rightV_bnd (unhide HG).right g sC ls
              obtain ⟨b1, hb1⟩ : ∃ x, x = (rightV ss g sC ls).1 := ⟨_, rfl⟩
              obtain ⟨b2, hb2⟩ : ∃ x, x = (rightV ss g sC ls).2 := ⟨_, rfl⟩
              rw [← hb1, ← hb2] at hR2 hle
              rw [← hb2] at hpos q2
              rw [← hb1] at q1
              rw [hE, errV_0 rfl, hF] at hS
              have x1 := prod_fit p1 q2
              have x2 := prod_fit q1 p2
              have hw1 : IntKind.i64.wrap (g1 * b2) = g1 * b2 := IntWalk.i64_in _ (by omega)
              have hw2 : IntKind.i64.wrap (b1 * g2) = b1 * g2 := IntWalk.i64_in _ (by omega)
              have e3 : decide (0 < b2) = true := decide_eq_true hpos
              have e4 : decide (g1 * b2 ≤ b1 * g2) = true := decide_eq_true hle
              clear hb1 hb2 hsC hF hE hle hpos bc1 bc2 q1 q2 p1 p2 x1 x2 HRT hf hg
              go_wp2_with fail
              refine (unhide hS).mono ?_
              rintro e w8 ⟨rfl, hb8⟩
              have hB8 := hBc.trans (hb8.mono hBc.size)
              clear hS hb8
              go_wp2_with fail
              refine (unhide hR _ hB8).mono ?_
              rintro e w9 ⟨rfl, hb9⟩
              have hB9 := hB8.trans (hb9.mono hB8.size)
              clear hR hb9
              go_wp2_with fail
              refine calls_nameL fun X hX => ?_
              obtain ⟨bX, hBX⟩ : Blk X w9.heap.size 41 #[.int .i64 g1, .int .i64 g2] ∧ Below w.heap.size w X := by
                rw [hX]
                exact ⟨Blk.new _ _ _, hB9.alloc hB9.size _⟩
              clear hX hB9
              obtain ⟨g36, hg36⟩ : ∃ g, g = w9.heap.size := ⟨_, rfl⟩
              rw [← hg36] at bX ⊢
              clear hg36
              refine (unhide hR2 X hBX).mono ?_
              rintro e wz ⟨rfl, hbz⟩
              have hBZ := hBX.trans (hbz.mono hBX.size)
              have bZ := (bX.below hbz bX.lt).alloc (.cells #[.int .i64 b1, .int .i64 b2] 41)
              have k0 := bZ.cell 0
              have k1 := bZ.cell 1
              simp at k0 k1
              clear hR2 bX hbz bZ hBX
              go_wp2_with fail
              go_ret
              exact ⟨rfl, hBZ.alloc hBZ.size _⟩
            · have hall := bc1 hE
              obtain ⟨sF, hsF⟩ : ∃ x, x = splitF ss n ls := ⟨_, rfl⟩
              obtain ⟨sC, hsC⟩ : ∃ x, x = splitC ss n ls := ⟨_, rfl⟩
              rw [← hsF, ← hsC] at hS
              have hv := errV_1 hE
              obtain ⟨ev, hev⟩ : ∃ x, x = errV (splitE ss n ls) := ⟨_, rfl⟩
              rw [← hev] at hv hS
              have HV := hide hv
              have hR2 := hide (fun W hB => unhide HRT W hB 0 (-2000000) 0 (by omega) (by omega) (by omega))
              obtain ⟨q1, q2⟩ := rightV_bnd (unhide HG).right 0 (-2000000) 0
              obtain ⟨b1, hb1⟩ : ∃ x, x = (rightV ss 0 (-2000000) 0).1 := ⟨_, rfl⟩
              obtain ⟨b2, hb2⟩ : ∃ x, x = (rightV ss 0 (-2000000) 0).2 := ⟨_, rfl⟩
              rw [← hb1, ← hb2] at hR2 hall
              rw [← hb2] at q2
              rw [← hb1] at q1
              have x1 := prod_fit p1 q2
              have x2 := prod_fit q1 p2
              have hw1 : IntKind.i64.wrap (g1 * b2) = g1 * b2 := IntWalk.i64_in _ (by omega)
              have hw2 : IntKind.i64.wrap (b1 * g2) = b1 * g2 := IntWalk.i64_in _ (by omega)
              have HALL := hide hall
              clear hb1 hb2 hsF hsC hev hv hE bc1 bc2 q1 q2 p1 p2 x1 x2 HRT hf hall
              go_wp2_with fail
              refine (unhide hS).mono ?_
              rintro e w8 ⟨rfl, hb8⟩
              have hB8 := hBc.trans (hb8.mono hBc.size)
              clear hS hb8
              go_wp2_with fail
              refine (unhide hR _ hB8).mono ?_
              rintro e w9 ⟨rfl, hb9⟩
              have hB9 := hB8.trans (hb9.mono hB8.size)
              clear hR hb9
              rw [unhide HV]
              go_wp2_with fail
              by_cases h0 : g2 = 0
              · have e3 : (g2 == 0) = true := by simpa using h0
                clear h0
                refine calls_nameL fun X hX => ?_
                obtain ⟨bX, hBX⟩ : Blk X w9.heap.size 41 #[.int .i64 g1, .int .i64 g2] ∧ Below w.heap.size w X := by
                  rw [hX]
                  exact ⟨Blk.new _ _ _, hB9.alloc hB9.size _⟩
                clear hX hB9
                obtain ⟨g36, hg36⟩ : ∃ g, g = w9.heap.size := ⟨_, rfl⟩
                rw [← hg36] at bX ⊢
                clear hg36
                refine (unhide hR2 X hBX).mono ?_
                rintro e wz ⟨rfl, hbz⟩
                have hBZ := hBX.trans (hbz.mono hBX.size)
                have bZ := (bX.below hbz bX.lt).alloc (.cells #[.int .i64 b1, .int .i64 b2] 41)
                have k0 := bZ.cell 0
                have k1 := bZ.cell 1
                simp at k0 k1
                clear hR2 bX hbz bZ hBX
                go_wp2_with fail
                go_ret
                exact ⟨rfl, hBZ.alloc hBZ.size _⟩
              · have e3 : (g2 == 0) = false := by simpa using h0
                have e4 : decide (g1 * b2 ≤ b1 * g2) = true := decide_eq_true ((unhide HALL).resolve_left h0)
                clear h0
                refine calls_nameL fun X hX => ?_
                obtain ⟨bX, hBX⟩ : Blk X w9.heap.size 41 #[.int .i64 g1, .int .i64 g2] ∧ Below w.heap.size w X := by
                  rw [hX]
                  exact ⟨Blk.new _ _ _, hB9.alloc hB9.size _⟩
                clear hX hB9
                obtain ⟨g36, hg36⟩ : ∃ g, g = w9.heap.size := ⟨_, rfl⟩
                rw [← hg36] at bX ⊢
                clear hg36
                refine (unhide hR2 X hBX).mono ?_
                rintro e wz ⟨rfl, hbz⟩
                have hBZ := hBX.trans (hbz.mono hBX.size)
                have bZ := (bX.below hbz bX.lt).alloc (.cells #[.int .i64 b1, .int .i64 b2] 41)
                have k0 := bZ.cell 0
                have k1 := bZ.cell 1
                simp at k0 k1
                clear hR2 bX hbz bZ hBX
                go_wp2_with fail
                go_ret
                exact ⟨rfl, hBZ.alloc hBZ.size _⟩
end Go.Proofs.Ytdpijhnbhopnbaa
