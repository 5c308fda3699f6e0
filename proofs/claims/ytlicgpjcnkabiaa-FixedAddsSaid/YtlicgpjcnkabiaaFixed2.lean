/- Chapter 1: the contracts of package fixed on lists. Conditions: as each lemma names. -/
import Derived.Test.YtlicgpjcnkabiaaFixed
import Derived.Test.YtlicgpjcnkabiaaInts
namespace Go.Proofs.Ytlicgpjcnkabiaa
set_option linter.unusedVariables false
set_option linter.unusedSimpArgs false
open Go.RowKit

theorem total_any (A : Option Addr) (n c B : Nat) (l : List Int) (w : World) (h : IReads w B A n l) (hn : n ≤ maxLen) :
    Calls Try.prog 16 #[.slice A n c] w fun e w' => e = .returned (.int .i64 (totalV l)) ∧ w = w' := by
  unfold maxLen at hn
  have HL := hide h.len
  go_enter Try.func16, Try.ntmps16
  go_wp2_with fail
  go_loop [3, 8] (fun s i => ∃ k : Nat, k ≤ n ∧ i = .int .i64 k ∧ s = .int .i64 (totalV (l.take k))) (fun _ i => n - (intOf i).toNat)
  case atStart => exact ⟨0, Nat.zero_le _, rfl, rfl⟩
  case round =>
    obtain ⟨k, hk, rfl, rfl⟩ := hrel
    by_cases hlt : k < n
    · obtain ⟨b, o, x, rfl, hb, hx, cx⟩ := h.get hlt
      have HX := hide hx
      clear hx
      go_wp2_with fail
      refine (add_any2 _ _ _).mono ?_; rintro e w1 ⟨rfl, rfl⟩
      go_wp2_with fail
      go_round
      case rel => exact ⟨k + 1, by omega, by go_num, by rw [totalV_take (unhide HX)]⟩
      case measure => simp [intOf]; omega
    · obtain rfl : k = n := by omega
      go_wp2_with fail
      go_ret
      exact ⟨ret_int (by rw [List.take_of_length_le (by have := unhide HL; omega)]), rfl⟩

/-- the row half way: the first k made fit -/
def halfL (L : List Int) (k : Nat) : List Int := (L.take k).map fitV ++ L.drop k
theorem halfL_len (L : List Int) (k : Nat) : (halfL L k).length = L.length := by unfold halfL; simp; omega
theorem halfL_0 (L : List Int) : halfL L 0 = L := by simp [halfL]
theorem halfL_all (L : List Int) : halfL L L.length = L.map fitV := by simp [halfL]
theorem halfL_at {L : List Int} {k : Nat} {x : Int} (h : L[k]? = some x) : (halfL L k)[k]? = some x := by
  have hk := (List.getElem?_eq_some_iff.1 h).1
  unfold halfL
  rw [List.getElem?_append_right (by simp; omega)]
  simp only [List.length_map, List.length_take, List.getElem?_drop]
  rw [show k + (k - min k L.length) = k by omega]; exact h
theorem halfL_set {L : List Int} {k : Nat} {x : Int} (h : L[k]? = some x) : (halfL L k).set k (fitV x) = halfL L (k + 1) := by
  have hk := (List.getElem?_eq_some_iff.1 h).1
  unfold halfL
  rw [drop_at h, take_next h, List.map_append, List.append_assoc]
  rw [List.set_append_right _ _ (by simp; omega)]
  simp [show k - min k L.length = 0 by omega]

set_option maxRecDepth 100000 in
set_option maxHeartbeats 1000000 in
theorem first_any (A : Option Addr) (n c : Nat) (l : List Int) (w : World) (hr : IReads w w.heap.size A n l) (hn : n ≤ maxLen) (hc : n ≤ c) (hcm : c ≤ maxLen) (hA : A = none → c = 0) :
    Calls Try.prog 28 #[.slice A n c] w (IPost (firstV l) w) := by
  have hl := hr.len
  unfold maxLen at hn hcm
  rcases A with _ | ad
  · obtain rfl := hA rfl
    obtain rfl : n = 0 := by omega
    obtain rfl : l = [] := List.eq_nil_of_length_eq_zero hl
    have hcl := cloneI_any none 0 0 w.heap.size [] w IReads.nil_ (Nat.le_refl _) (by omega) (fun _ => rfl)
    clear hl hr
    go_enter Try.func28, Try.ntmps28
    go_wp2_with fail
    refine hcl.mono ?_
    clear hcl
    rintro e w1 ⟨v, rfl, hown, hb1⟩
    obtain ⟨A2, c2, rfl, hr2, _, _, _⟩ := hown.slice_
    simp only [List.length_nil] at hr2 hown ⊢
    go_wp2_with fail
    go_loopw [13] (fun i wr => i = .int .i64 0 ∧ wr = w1) (fun _ _ => 0)
    case atStart => exact ⟨rfl, rfl⟩
    case round =>
      obtain ⟨rfl, rfl⟩ := hrel
      go_wp2_with fail
      go_ret
      exact ⟨_, rfl, hown, hb1⟩
  by_cases hs : n ≤ 1000
  · -- at most a thousand
    obtain ⟨L, hL⟩ : ∃ L, L = l.take n := ⟨_, rfl⟩
    have hLl : L.length = n := by rw [hL]; simp; omega
    have hcl := cloneI_any (some ad) n c w.heap.size L w (by rw [hL]; exact hr.take_ (by omega)) (Nat.le_refl _) (by omega) (fun h => by cases h)
    have HF : Hid (firstV l = L.map fitV) := hide (by unfold firstV; rw [hL]; rw [List.take_of_length_le (by omega), List.take_of_length_le (by omega)])
    clear hL hl hr hA
    have HLl := hide hLl
    clear hLl
    go_enter Try.func28, Try.ntmps28
    go_wp2_with fail
    rw [show (min (n : Int) 1000).toNat = n by omega]
    refine hcl.mono ?_
    clear hcl
    rintro e w1 ⟨v, rfl, hown, hb1⟩
    obtain ⟨A2, c2, rfl, hr2, _, hc2, _⟩ := hown.slice_
    rw [unhide HLl] at hown hc2 ⊢
    clear hr2
    go_wp2_with fail
    go_loopw [13] (fun i wr => ∃ k : Nat, k ≤ n ∧ i = .int .i64 k ∧ IOwn wr w.heap.size (.slice A2 n c2) (halfL L k) ∧ Below w.heap.size w wr) (fun i _ => n - (intOf i).toNat)
    case atStart => exact ⟨0, Nat.zero_le _, rfl, by rw [halfL_0]; exact hown, hb1⟩
    case round =>
      obtain ⟨k, hk, rfl, hor, hbel⟩ := hrel
      by_cases hlt : k < n
      · obtain ⟨x, hx⟩ : ∃ x, L[k]? = some x := ⟨_, List.getElem?_eq_getElem (by rw [unhide HLl]; exact hlt)⟩
        obtain ⟨g, rfl, hg, hgl, cx, fx⟩ := hor.at_ (by rw [halfL_len, unhide HLl]) (halfL_at hx)
        have hst := hor.stored (by rw [halfL_len, unhide HLl]) k (fitV x)
        rw [halfL_set hx] at hst
        have HX := hide hx
        clear hx
        go_wp2_with fail
        refine (fit_any _ _).mono ?_; rintro e w2 ⟨rfl, rfl⟩
        go_wp2_with fail
        go_roundw
        case rel => exact ⟨k + 1, by omega, by go_num, hst, hbel.setCell (by exact hg) _⟩
        case measure => simp [intOf]; omega
      · obtain rfl : k = n := by omega
        go_wp2_with fail
        go_ret
        refine ⟨_, rfl, ?_, hbel⟩
        rw [unhide HF, ← halfL_all, unhide HLl]; exact hor
  · -- more than a thousand
    obtain ⟨L, hL⟩ : ∃ L, L = l.take 1000 := ⟨_, rfl⟩
    have hLl : L.length = 1000 := by rw [hL]; simp; omega
    have hcl := cloneI_any (some ad) 1000 c w.heap.size L w (by rw [hL]; exact hr.take_ (by omega)) (Nat.le_refl _) (by omega) (fun h => by cases h)
    have HF : Hid (firstV l = L.map fitV) := hide (by unfold firstV; rw [hL])
    clear hL hl hr hA
    have HLl := hide hLl
    clear hLl
    go_enter Try.func28, Try.ntmps28
    go_wp2_with fail
    rw [show (min (n : Int) 1000).toNat = 1000 by omega]
    refine hcl.mono ?_
    clear hcl
    rintro e w1 ⟨v, rfl, hown, hb1⟩
    obtain ⟨A2, c2, rfl, hr2, _, hc2, _⟩ := hown.slice_
    rw [unhide HLl] at hown hc2 ⊢
    clear hr2
    go_wp2_with fail
    go_loopw [13] (fun i wr => ∃ k : Nat, k ≤ 1000 ∧ i = .int .i64 k ∧ IOwn wr w.heap.size (.slice A2 1000 c2) (halfL L k) ∧ Below w.heap.size w wr) (fun i _ => 1000 - (intOf i).toNat)
    case atStart => exact ⟨0, Nat.zero_le _, rfl, by rw [halfL_0]; exact hown, hb1⟩
    case round =>
      obtain ⟨k, hk, rfl, hor, hbel⟩ := hrel
      by_cases hlt : k < 1000
      · obtain ⟨x, hx⟩ : ∃ x, L[k]? = some x := ⟨_, List.getElem?_eq_getElem (by rw [unhide HLl]; exact hlt)⟩
        obtain ⟨g, rfl, hg, hgl, cx, fx⟩ := hor.at_ (by rw [halfL_len, unhide HLl]) (halfL_at hx)
        have hst := hor.stored (by rw [halfL_len, unhide HLl]) k (fitV x)
        rw [halfL_set hx] at hst
        have HX := hide hx
        clear hx
        go_wp2_with fail
        refine (fit_any _ _).mono ?_; rintro e w2 ⟨rfl, rfl⟩
        go_wp2_with fail
        go_roundw
        case rel => exact ⟨k + 1, by omega, by go_num, hst, hbel.setCell (by exact hg) _⟩
        case measure => simp [intOf]; omega
      · obtain rfl : k = 1000 := by omega
        go_wp2_with fail
        go_ret
        refine ⟨_, rfl, ?_, hbel⟩
        rw [unhide HF, ← halfL_all, unhide HLl]; exact hor

theorem mean_any (A : Option Addr) (n c : Nat) (l : List Int) (w : World) (hr : IReads w w.heap.size A n l) (hn : n ≤ maxLen) (hc : n ≤ c) (hcm : c ≤ maxLen) (hA : A = none → c = 0) :
    Calls Try.prog 10 #[.slice A n c] w fun e w' => e = .returned (.int .i64 (meanV l)) ∧ Below w.heap.size w w' := by
  have hfl : (firstV l).length ≤ 1000 := by rw [firstV_len]; omega
  have hfi := first_any A n c l w hr hn hc hcm hA
  have hsum := first_sum_le l
  have HM : Hid (meanV l = if (firstV l).length = 0 then 0 else sumL (firstV l) / (firstV l).length) := hide rfl
  generalize firstV l = F at *
  clear hr hn hc hcm hA
  have HS := hide hsum
  clear hsum
  go_enter Try.func10, Try.ntmps10
  go_wp2_with fail
  refine hfi.mono ?_
  clear hfi
  rintro e w1 ⟨v, rfl, hown, hb1⟩
  obtain ⟨A2, c2, rfl, hr2, _, hc2, _⟩ := hown.slice_
  obtain ⟨f, hf⟩ : ∃ f, f = F.length := ⟨_, rfl⟩
  rw [← hf] at hr2 hfl HM ⊢
  have HFl := hide hf
  clear hf hown hc2
  by_cases h0 : f = 0
  · subst h0
    have E : Hid (meanV l = 0) := hide (by rw [unhide HM, if_pos rfl])
    go_wp2_with fail
    go_ret
    exact ⟨ret_int (unhide E).symm, hb1⟩
  · have q0 : ((f : Int) == 0) = false := by simp; omega
    have E : Hid (meanV l = sumL F / (f : Int)) := hide (by rw [unhide HM, if_neg h0])
    clear h0
    go_wp2_with fail
    go_loop [3, 13] (fun s i => ∃ k : Nat, k ≤ f ∧ i = .int .i64 k ∧ s = .int .i64 (sumL (F.take k))) (fun _ i => f - (intOf i).toNat)
    case atStart => exact ⟨0, Nat.zero_le _, rfl, rfl⟩
    case round =>
      obtain ⟨k, hk, rfl, rfl⟩ := hrel
      by_cases hlt : k < f
      · obtain ⟨b, o, x, rfl, hb, hx, cx⟩ := hr2.get hlt
        have hs1 := unhide HS k
        have hs2 := unhide HS (k + 1)
        rw [sumL_take hx] at hs2
        have HX := hide hx
        clear hx
        go_wp2_with fail
        go_round
        case rel => exact ⟨k + 1, by omega, by go_num, by rw [sumL_take (unhide HX)]⟩
        case measure => simp [intOf]; omega
      · obtain rfl : k = f := by omega
        have hs1 := unhide HS k
        rw [List.take_of_length_le (by have := unhide HFl; omega)] at hs1 ⊢
        have hk0 : 0 < (k : Int) := by simp at q0; omega
        go_wp2_with fail
        refine (floor_any _ _ _ hk0 (by omega) (by omega) (by omega)).mono ?_; rintro e w2 ⟨rfl, rfl⟩
        go_wp2_with fail
        go_ret
        exact ⟨ret_int (unhide E).symm, hb1⟩

theorem median_any (A : Option Addr) (n c : Nat) (l : List Int) (w : World) (hr : IReads w w.heap.size A n l) (hn : n ≤ maxLen) (hc : n ≤ c) (hcm : c ≤ maxLen) (hA : A = none → c = 0) :
    Calls Try.prog 11 #[.slice A n c] w fun e w' => e = .returned (.int .i64 (medianV l)) ∧ Below w.heap.size w w' := by
  have hfl : (firstV l).length ≤ 1000 := by rw [firstV_len]; omega
  have hfi := first_any A n c l w hr hn hc hcm hA
  have HM : Hid (medianV l = if (firstV l).length = 0 then 0 else (sortL (firstV l)).getD ((firstV l).length / 2) 0) := hide rfl
  generalize firstV l = F at *
  clear hr hn hc hcm hA
  go_enter Try.func11, Try.ntmps11
  go_wp2_with fail
  refine hfi.mono ?_
  clear hfi
  rintro e w1 ⟨v, rfl, hown, hb1⟩
  have hso := sort_any v F w.heap.size w1 hown hb1.size (by omega)
  obtain ⟨A2, c2, rfl, hr2, _, hc2, _⟩ := hown.slice_
  obtain ⟨f, hf⟩ : ∃ f, f = F.length := ⟨_, rfl⟩
  rw [← hf] at hr2 hfl HM hso ⊢
  have HFl := hide hf
  clear hf hown hc2
  by_cases h0 : f = 0
  · subst h0
    have E : Hid (medianV l = 0) := hide (by rw [unhide HM, if_pos rfl])
    clear hso
    go_wp2_with fail
    go_ret
    exact ⟨ret_int (unhide E).symm, hb1⟩
  · have q0 : ((f : Int) == 0) = false := by simp; omega
    have hp : 0 < f := by omega
    have E : Hid (medianV l = (sortL F).getD (f / 2) 0) := hide (by rw [unhide HM, if_neg h0])
    clear h0
    go_wp2_with fail
    refine hso.mono ?_
    clear hso
    rintro e w2 ⟨rfl, hown2, _, hb2⟩
    have hl2 : (sortL F).length = f := by rw [sortL_len]; exact (unhide HFl).symm
    obtain ⟨x, hx⟩ : ∃ x, (sortL F)[f / 2]? = some x := ⟨_, List.getElem?_eq_getElem (by omega)⟩
    obtain ⟨g, rfl, hg, hgl, cx, fx⟩ := hown2.at_ hl2 hx
    have E2 : Hid (medianV l = x) := hide (by rw [unhide E, List.getD_eq_getElem?_getD, hx]; rfl)
    clear hx hl2
    go_wp2_with fail
    go_ret
    exact ⟨ret_int (unhide E2).symm, hb1.trans hb2⟩

theorem round_any (a b : Int) (w : World) : Calls Try.prog 14 #[.int .i64 a, .int .i64 b] w fun e w' => e = .returned (.int .i64 (roundV a b)) ∧ w = w' := by
  have hm : roundV a b = if fitV b = 0 then 0 else if fitV b < 0 then (2 * -fitV a + -fitV b) / (2 * -fitV b) else (2 * fitV a + fitV b) / (2 * fitV b) := rfl
  generalize hx : fitV a = x at *
  generalize hy : fitV b = y at *
  have hx1 := fitV_le a
  have hy1 := fitV_le b
  rw [hx] at hx1
  rw [hy] at hy1
  have HM := hide hm
  have HX := hide hx
  have HY := hide hy
  clear hm hx hy
  by_cases y0 : y = 0
  · have E : Hid (roundV a b = 0) := hide (by rw [unhide HM, if_pos y0])
    have q0 : (y == 0) = true := by simpa using y0
    clear y0
    go_enter Try.func14, Try.ntmps14
    go_wp2_with fail
    refine (fit_any _ _).mono ?_; rintro e w1 ⟨rfl, rfl⟩; rw [unhide HX]
    go_wp2_with fail
    refine (fit_any _ _).mono ?_; rintro e w1 ⟨rfl, rfl⟩; rw [unhide HY]
    go_wp2_with fail
    go_ret
    exact ⟨ret_int (unhide E).symm, rfl⟩
  have q0 : (y == 0) = false := by simpa using y0
  by_cases y1 : y < 0
  · have E : Hid (roundV a b = (2 * -x + -y) / (2 * -y)) := hide (by rw [unhide HM, if_neg y0, if_pos y1])
    clear y0
    go_enter Try.func14, Try.ntmps14
    go_wp2_with fail
    refine (fit_any _ _).mono ?_; rintro e w1 ⟨rfl, rfl⟩; rw [unhide HX]
    go_wp2_with fail
    refine (fit_any _ _).mono ?_; rintro e w1 ⟨rfl, rfl⟩; rw [unhide HY]
    go_wp2_with fail
    refine (floor_any _ _ _ (by omega) (by omega) (by omega) (by omega)).mono ?_; rintro e w2 ⟨rfl, rfl⟩
    go_wp2_with fail
    go_ret
    exact ⟨ret_int (unhide E).symm, rfl⟩
  · have E : Hid (roundV a b = (2 * x + y) / (2 * y)) := hide (by rw [unhide HM, if_neg y0, if_neg y1])
    have y2 : 0 < y := by omega
    clear y0 y1
    go_enter Try.func14, Try.ntmps14
    go_wp2_with fail
    refine (fit_any _ _).mono ?_; rintro e w1 ⟨rfl, rfl⟩; rw [unhide HX]
    go_wp2_with fail
    refine (fit_any _ _).mono ?_; rintro e w1 ⟨rfl, rfl⟩; rw [unhide HY]
    go_wp2_with fail
    refine (floor_any _ _ _ (by omega) (by omega) (by omega) (by omega)).mono ?_; rintro e w2 ⟨rfl, rfl⟩
    go_wp2_with fail
    go_ret
    exact ⟨ret_int (unhide E).symm, rfl⟩
end Go.Proofs.Ytlicgpjcnkabiaa
