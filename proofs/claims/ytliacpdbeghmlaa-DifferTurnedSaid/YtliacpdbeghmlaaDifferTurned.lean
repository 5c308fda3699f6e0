/- DifferTurned: the plain law and the walk. Conditions: arguments read as lists. -/
import Derived.Test.YtliacpdbeghmlaaRegion
namespace Go.Proofs.Ytliacpdbeghmlaa
set_option linter.unusedVariables false
set_option linter.unusedSimpArgs false
open Go.RowKit
open Classical in
/-- in how many pairs: either way round -/
noncomputable def cnt2 {α β : Type} (c : α → β → Prop) (L : List α) (M : List β) : Nat := (L.map fun i => (M.filter fun k => decide (c i k)).length).sum
open Classical in
theorem cnt2_turn {α β : Type} (c : α → β → Prop) (M : List β) : ∀ L : List α, cnt2 c L M = cnt2 (fun k i => c i k) M L := by
  intro L
  induction L with
  | nil => unfold cnt2; induction M with
    | nil => rfl
    | cons k r ih => simpa using ih
  | cons i r ih =>
    have h1 : cnt2 c (i :: r) M = (M.filter fun k => decide (c i k)).length + cnt2 c r M := by unfold cnt2; simp
    have h2 : ∀ M : List β, cnt2 (fun k i => c i k) M (i :: r) = (M.filter fun k => decide (c i k)).length + cnt2 (fun k i => c i k) M r := by
      intro M
      induction M with
      | nil => rfl
      | cons k s ihs =>
        unfold cnt2 at ihs ⊢
        simp only [List.map_cons, List.sum_cons, List.filter_cons]
        by_cases h : c i k
        · simp only [h, decide_true, if_true, List.length_cons] at ihs ⊢
          simp only [List.filter_cons] at ihs
          omega
        · simp only [h, decide_false, Bool.false_eq_true, if_false] at ihs ⊢
          simp only [List.filter_cons] at ihs
          omega
    rw [h1, h2, ih]

/-- some row comes to both leaves, and their values differ -/
def Hit (a b : List Nd) (n i k : Nat) : Prop := valAt a i ≠ valAt b k ∧ ∃ r, inSp r (wideL n) ∧ leafOf a r = i ∧ leafOf b r = k
open Classical in
theorem pairsAt_count {a b : List Nd} {n : Nat} (ha : Right a n) (hb : Right b n) (p : Nat × List Sp) (hp : p ∈ lv a a.length 0 (wideL n)) :
    (pairsAt a b p).length = ((idx b b.length 0).filter (fun k => decide (Hit a b n p.1 k))).length := by
  have hpl : p.2.length = n := by rw [lv_length _ _ _ p hp, wide_len]
  have hlow := lv_low a.length 0 (wideL n) (wide_low n) p hp
  have key : ∀ q ∈ lv b b.length 0 p.2, (meets a b p.1 q = true ↔ Hit a b n p.1 q.1) := by
    intro q hq
    unfold meets Hit
    rw [Bool.and_eq_true, bne_iff_ne]
    constructor
    · rintro ⟨h1, h2⟩
      have hr := pick_in (wf_low (lv_low b.length 0 p.2 hlow q hq)) h1
      obtain ⟨h3, h4⟩ := lv_to hb.asks _ _ _ _ hpl q hq hr
      obtain ⟨h5, h6⟩ := lv_to ha.asks _ _ _ _ (wide_len n) p hp h3
      exact ⟨h2, _, h5, h6, h4⟩
    · rintro ⟨h2, r, h5, h6, h4⟩
      obtain ⟨p', hp', h7, h8⟩ := lv_of ha.asks ha.behind r a.length 0 (wideL n) (wide_len n) ha.pos (by omega) h5
      have := lv_one ha _ _ _ p' hp' p hp (by rw [← h8]; exact h6)
      subst this
      obtain ⟨q', hq', h9, h10⟩ := lv_of hb.asks hb.behind r b.length 0 p'.2 hpl hb.pos (by omega) h7
      have := lv_one hb _ _ _ q' hq' q hq (by rw [← h10]; exact h4)
      subst this
      exact ⟨inSp_any h9 (fun _ _ => trivial), h2⟩
  unfold pairsAt
  by_cases hany : anyB p.2 = true
  · rw [if_pos hany, List.length_map, ← lv_idx b b.length 0 p.2, List.filter_map, List.length_map]
    congr 1
    refine List.filter_congr fun q hq => ?_
    rw [Bool.eq_iff_iff, key q hq]
    simp
  · rw [if_neg hany]
    symm
    rw [List.length_nil, List.length_eq_zero_iff, List.filter_eq_nil_iff]
    intro k _
    rw [decide_eq_true_eq]
    rintro ⟨_, r, h5, h6, _⟩
    obtain ⟨p', hp', h7, h8⟩ := lv_of ha.asks ha.behind r a.length 0 (wideL n) (wide_len n) ha.pos (by omega) h5
    have := lv_one ha _ _ _ p' hp' p hp (by rw [← h8]; exact h6)
    subst this
    exact hany (inSp_any h7 (fun _ _ => trivial))
theorem flat_length {α β : Type} (f : α → List β) : ∀ l : List α, (l.flatMap f).length = (l.map fun x => (f x).length).sum := by
  intro l
  induction l with
  | nil => rfl
  | cons x r ih => rw [List.flatMap_cons, List.length_append, List.map_cons, List.sum_cons, ih]
theorem pairsL_count {a b : List Nd} {n : Nat} (ha : Right a n) (hb : Right b n) : (pairsL a b n).length = cnt2 (Hit a b n) (idx a a.length 0) (idx b b.length 0) := by
  unfold pairsL cnt2
  rw [flat_length, ← lv_idx a a.length 0 (wideL n), List.map_map]
  congr 1
  refine List.map_congr_left fun p hp => ?_
  rw [pairsAt_count ha hb p hp]
  rfl
theorem pairsL_turn {a b : List Nd} {n : Nat} (ha : Right a n) (hb : Right b n) : (pairsL a b n).length = (pairsL b a n).length := by
  rw [pairsL_count ha hb, pairsL_count hb ha, cnt2_turn]
  congr 1
  funext k i
  unfold Hit
  refine propext ⟨?_, ?_⟩
  · rintro ⟨h, r, h1, h2, h3⟩; exact ⟨Ne.symm h, r, h1, h3, h2⟩
  · rintro ⟨h, r, h1, h2, h3⟩; exact ⟨Ne.symm h, r, h1, h3, h2⟩
open Classical in
theorem pairsL_self {a : List Nd} {n : Nat} (ha : Right a n) : pairsL a a n = [] := by
  unfold pairsL
  rw [List.flatMap_eq_nil_iff]
  intro p hp
  have := pairsAt_count ha ha p hp
  apply List.eq_nil_of_length_eq_zero
  rw [this, List.length_eq_zero_iff, List.filter_eq_nil_iff]
  intro k _
  rw [decide_eq_true_eq]
  rintro ⟨h, r, h1, h2, h3⟩
  rw [h2] at h3
  exact h (by rw [h3])

theorem bothE_turn {a b : List Nd} {fe : Int} : bothE a b fe = 0 ↔ bothE b a fe = 0 := by
  unfold bothE
  by_cases h1 : treeE a fe = 0 <;> by_cases h2 : treeE b fe = 0 <;> simp [h1, h2]
theorem leaf_fact : movedV [⟨-1, 0, 0, 0, false, 7⟩] [⟨-1, 0, 0, 0, false, 9⟩] 0 = 1 ∧ bothE [⟨-1, 0, 0, 0, false, 7⟩] [⟨-1, 0, 0, 0, false, 9⟩] 0 = 0 := by decide
theorem errV_no {e : Int} (h : e ≠ 0) : ∃ t v, errV e = .iface t v := ⟨_, _, errV_1 h⟩

set_option maxRecDepth 100000 in
set_option maxHeartbeats 4000000 in
theorem differTurned_walk (A C : Option Addr) (m d m' d' : Nat) (a b : List Nd) (fe : Int) (w : World) (ha : NReads w w.heap.size A m a) (hb : NReads w w.heap.size C m' b) (hm : m ≤ maxLen) (hm' : m' ≤ maxLen) :
    Calls Try.prog 10 #[.slice A m d, .slice C m' d', .int .i64 fe] w fun e w' => e = .returned (.bool true) ∧ Below w.heap.size w w' := by
  obtain ⟨Z7, hZ7⟩ : ∃ Z, Z = Obj.cells #[.int .i64 (-1), .int .i64 0, .int .i64 0, .int .i64 0, .bool false, .int .i64 7] 57 := ⟨_, rfl⟩
  obtain ⟨Z9, hZ9⟩ : ∃ Z, Z = Obj.cells #[.int .i64 (-1), .int .i64 0, .int .i64 0, .int .i64 0, .bool false, .int .i64 9] 57 := ⟨_, rfl⟩
  have hT7 : NReads (w.alloc Z7) (w.heap.size + 1) (some ⟨w.heap.size, 0, none⟩) 1 [⟨-1, 0, 0, 0, false, 7⟩] := by
    rw [hZ7]; exact Reads.new_ w 6 1 (([⟨-1, 0, 0, 0, false, 7⟩] : List Nd).flatMap Nd.cells) 57 rfl
  have hT9 : NReads ((w.alloc Z7).alloc Z9) (w.heap.size + 1 + 1) (some ⟨w.heap.size + 1, 0, none⟩) 1 [⟨-1, 0, 0, 0, false, 9⟩] := by
    have h := Reads.new_ (w.alloc Z7) 6 1 (([⟨-1, 0, 0, 0, false, 9⟩] : List Nd).flatMap Nd.cells) 57 rfl
    rw [World.size_alloc] at h
    rw [hZ9]; exact h
  have hT7' : NReads ((w.alloc Z7).alloc Z9) (w.heap.size + 1 + 1) (some ⟨w.heap.size, 0, none⟩) 1 [⟨-1, 0, 0, 0, false, 7⟩] := (Reads.alloc hT7 (by simp) _).more (by omega)
  have hs0 : ((w.alloc Z7).alloc Z9).heap.size = w.heap.size + 1 + 1 := by simp
  have hb0 : Below w.heap.size w ((w.alloc Z7).alloc Z9) := ((Below.refl _ _).alloc (Nat.le_refl _) _).alloc (by simp) _
  have HF := hide (Moved_any (some ⟨w.heap.size, 0, none⟩) (some ⟨w.heap.size + 1, 0, none⟩) 1 1 1 1 _ _ 0 _ (by rw [hs0]; exact hT7') (by rw [hs0]; exact hT9) (by decide) (by decide))
  have HZ7 := hide hZ7
  have HZ9 := hide hZ9
  clear hZ7 hZ9 hT7 hT9 hT7'
  go_enter Try.func10, Try.ntmps10
  go_wp2_with fail
  rw [← unhide HZ7, ← unhide HZ9]
  refine (unhide HF).mono ?_
  rintro e w1 ⟨rfl, hb1⟩
  rw [leaf_fact.1, leaf_fact.2, errV_0 rfl]
  clear HF HZ7 HZ9
  generalize (w.alloc Z7).alloc Z9 = W0 at *
  have hB1 : Below w.heap.size w w1 := hb0.trans (hb1.mono hb0.size)
  clear hb1 hb0
  have hs1 := hB1.size
  go_wp2_with fail
  refine (Moved_any A C m d m' d' a b fe _ ((ha.below hB1).more hs1) ((hb.below hB1).more hs1) hm hm').mono ?_
  rintro e w2 ⟨rfl, hb2⟩
  have hB2 := hB1.trans (hb2.mono hs1)
  have hs2 := hB2.size
  clear hb2 hB1 hs1
  by_cases h0 : bothE a b fe = 0
  · have h0' := bothE_turn.1 h0
    obtain ⟨hra, hrb⟩ := bothE_right h0
    obtain ⟨n, rfl⟩ : ∃ n : Nat, fe = n := ⟨fe.toNat, by have := hra.fe0; omega⟩
    have haa : bothE a a n = 0 := by
      unfold bothE at h0 ⊢
      by_cases h : treeE a n = 0
      · rw [if_pos h]; exact h
      · rw [if_neg h] at h0; exact absurd h0 h
    obtain ⟨K, hK⟩ : ∃ K, K = (pairsL a b n).length := ⟨_, rfl⟩
    have hK6 : K ≤ 1048576 := by rw [hK]; exact pairsL_len hra hrb
    have hv1 : movedV a b n = K := by unfold movedV; rw [if_pos h0, Int.toNat_natCast, hK]
    have hv2 : movedV b a n = K := by unfold movedV; rw [if_pos h0', Int.toNat_natCast, hK, pairsL_turn hra hrb]
    have hv3 : movedV a a n = 0 := by unfold movedV; rw [if_pos haa, Int.toNat_natCast, pairsL_self hra]; rfl
    have ht1 : treesE a b n = if K = 0 then 5 else 0 := by
      unfold treesE; rw [if_pos h0, Int.toNat_natCast, hK]
      by_cases h : pairsL a b n = []
      · rw [if_pos h, h]; rfl
      · rw [if_neg h, if_neg (by rw [List.length_eq_zero_iff]; exact h)]
    have ht2 : treesE b a n = if K = 0 then 5 else 0 := by
      unfold treesE; rw [if_pos h0', Int.toNat_natCast, hK, pairsL_turn hra hrb]
      by_cases h : pairsL b a n = []
      · rw [if_pos h, h]; rfl
      · rw [if_neg h, if_neg (by rw [List.length_eq_zero_iff]; exact h)]
    rw [hv1, errV_0 h0]
    have e0' := errV_0 h0'
    have eaa := errV_0 haa
    have HV2 := hide hv2
    have HV3 := hide hv3
    have H0' := hide e0'
    have HAA := hide eaa
    by_cases hK0 : K = 0
    · rw [if_pos hK0] at ht1 ht2
      subst hK0
      clear hK
      have HT1 := hide ht1
      have HT2 := hide ht2
      clear hv1 hv2 hv3 ht1 ht2 h0 h0' haa hra hrb e0' eaa
      go_wp2_with fail
      refine (Moved_any C A m' d' m d b a n _ ((hb.below hB2).more hs2) ((ha.below hB2).more hs2) hm' hm).mono ?_
      rintro e w3 ⟨rfl, hb3⟩
      rw [unhide HV2, unhide H0']
      have hB3 := hB2.trans (hb3.mono hs2)
      have hs3 := hB3.size
      clear hb3 hB2 hs2
      go_wp2_with fail
      refine (Trees_any A C m d m' d' a b n _ ((ha.below hB3).more hs3) ((hb.below hB3).more hs3) hm hm').mono ?_
      rintro e w4 ⟨A4, n4, c4, l4, rfl, _, _, _, _, hb4⟩
      rw [unhide HT1, errV_1 (e := 5) (by decide)]
      have hB4 := hB3.trans (hb4.mono hs3)
      have hs4 := hB4.size
      clear hb4 hB3 hs3
      go_wp2_with fail
      refine (Trees_any C A m' d' m d b a n _ ((hb.below hB4).more hs4) ((ha.below hB4).more hs4) hm' hm).mono ?_
      rintro e w5 ⟨A5, n5, c5, l5, rfl, _, _, _, _, hb5⟩
      rw [unhide HT2, errV_1 (e := 5) (by decide)]
      have hB5 := hB4.trans (hb5.mono hs4)
      have hs5 := hB5.size
      clear hb5 hB4 hs4
      go_wp2_with fail
      refine (Moved_any A A m d m d a a n _ ((ha.below hB5).more hs5) ((ha.below hB5).more hs5) hm hm).mono ?_
      rintro e w6 ⟨rfl, hb6⟩
      rw [unhide HV3, unhide HAA]
      have hB6 := hB5.trans (hb6.mono hs5)
      go_wp2_with fail
      go_ret
      exact ⟨rfl, hB6⟩
    · rw [if_neg hK0] at ht1 ht2
      have hKp : (0 : Int) < (K : Int) := by omega
      have dK : decide ((0 : Int) < (K : Int)) = true := by simpa using hKp
      have HT1 := hide ht1
      have HT2 := hide ht2
      clear hv1 hv2 hv3 ht1 ht2 hK h0 h0' haa hra hrb e0' eaa
      go_wp2_with fail
      refine (Moved_any C A m' d' m d b a n _ ((hb.below hB2).more hs2) ((ha.below hB2).more hs2) hm' hm).mono ?_
      rintro e w3 ⟨rfl, hb3⟩
      rw [unhide HV2, unhide H0']
      have hB3 := hB2.trans (hb3.mono hs2)
      have hs3 := hB3.size
      clear hb3 hB2 hs2
      go_wp2_with fail
      refine (Trees_any A C m d m' d' a b n _ ((ha.below hB3).more hs3) ((hb.below hB3).more hs3) hm hm').mono ?_
      rintro e w4 ⟨A4, n4, c4, l4, rfl, _, _, _, _, hb4⟩
      rw [unhide HT1, errV_0 rfl]
      have hB4 := hB3.trans (hb4.mono hs3)
      have hs4 := hB4.size
      clear hb4 hB3 hs3
      go_wp2_with fail
      refine (Trees_any C A m' d' m d b a n _ ((hb.below hB4).more hs4) ((ha.below hB4).more hs4) hm' hm).mono ?_
      rintro e w5 ⟨A5, n5, c5, l5, rfl, _, _, _, _, hb5⟩
      rw [unhide HT2, errV_0 rfl]
      have hB5 := hB4.trans (hb5.mono hs4)
      have hs5 := hB5.size
      clear hb5 hB4 hs4
      go_wp2_with fail
      refine (Moved_any A A m d m d a a n _ ((ha.below hB5).more hs5) ((ha.below hB5).more hs5) hm hm).mono ?_
      rintro e w6 ⟨rfl, hb6⟩
      rw [unhide HV3, unhide HAA]
      have hB6 := hB5.trans (hb6.mono hs5)
      go_wp2_with fail
      go_ret
      exact ⟨rfl, hB6⟩
  · have h0' : bothE b a fe ≠ 0 := fun h => h0 (bothE_turn.1 h)
    have ht1 : treesE a b fe = bothE a b fe := by unfold treesE; rw [if_neg h0]
    have ht2 : treesE b a fe = bothE b a fe := by unfold treesE; rw [if_neg h0']
    have HV1 := hide (errV_1 h0)
    have HV2 := hide (errV_1 h0')
    have HT1 := hide ht1
    have HT2 := hide ht2
    rw [unhide HV1]
    clear h0 h0' ht1 ht2
    go_wp2_with fail
    refine (Moved_any C A m' d' m d b a fe _ ((hb.below hB2).more hs2) ((ha.below hB2).more hs2) hm' hm).mono ?_
    rintro e w3 ⟨rfl, hb3⟩
    rw [unhide HV2]
    have hB3 := hB2.trans (hb3.mono hs2)
    have hs3 := hB3.size
    clear hb3 hB2 hs2
    go_wp2_with fail
    refine (Trees_any A C m d m' d' a b fe _ ((ha.below hB3).more hs3) ((hb.below hB3).more hs3) hm hm').mono ?_
    rintro e w4 ⟨A4, n4, c4, l4, rfl, _, _, _, _, hb4⟩
    rw [unhide HT1, unhide HV1]
    have hB4 := hB3.trans (hb4.mono hs3)
    have hs4 := hB4.size
    clear hb4 hB3 hs3
    go_wp2_with fail
    refine (Trees_any C A m' d' m d b a fe _ ((hb.below hB4).more hs4) ((ha.below hB4).more hs4) hm' hm).mono ?_
    rintro e w5 ⟨A5, n5, c5, l5, rfl, _, _, _, _, hb5⟩
    rw [unhide HT2, unhide HV2]
    have hB5 := hB4.trans (hb5.mono hs4)
    go_wp2_with fail
    go_ret
    exact ⟨rfl, hB5⟩
end Go.Proofs.Ytliacpdbeghmlaa
