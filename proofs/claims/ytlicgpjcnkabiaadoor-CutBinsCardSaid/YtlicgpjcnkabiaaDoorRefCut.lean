/- The references of chapter 2: Cell, Cuts, Values, Bin, CutsOf. Conditions: as each lemma names. -/
import Derived.Test.YtlicgpjcnkabiaaDoorCutLaws
import Derived.Test.YtlicgpjcnkabiaaDoorRefFix
namespace Go.Proofs.YtlicgpjcnkabiaaDoor
set_option linter.unusedVariables false
set_option linter.unusedSimpArgs false
open Go.RowKit

theorem rcell2_any (n : Int) (w : World) : Calls Tryd.prog 17 #[.int .i64 n] w fun e w' => e = .returned (.bool (cellB n)) ∧ w = w' := by
  by_cases h1 : -1000000 ≤ n
  · by_cases h2 : n ≤ 1000000
    · go_enter Tryd.func17, Tryd.ntmps17
      go_wp2
      go_ret
      exact ⟨by rw [cellB_t.2 ⟨h1, h2⟩]; rfl, rfl⟩
    · go_enter Tryd.func17, Tryd.ntmps17
      go_wp2
      go_ret
      exact ⟨by rw [cellB_f.2 (by omega)]; rfl, rfl⟩
  · go_enter Tryd.func17, Tryd.ntmps17
    go_wp2
    go_ret
    exact ⟨by rw [cellB_f.2 (by omega)]; rfl, rfl⟩

set_option maxHeartbeats 800000 in
theorem rcuts_any (A : Option Addr) (n c : Nat) (l : List Int) (w : World) (B : Nat) (ha : IReads w B A n l) (hn : n ≤ maxLen) :
    Calls Tryd.prog 10 #[.slice A n c] w fun e w' => e = .returned (.int .i64 (cutE l)) ∧ ∃ q, w' = w.drewN q := by
  unfold maxLen at hn
  have hl := ha.len
  by_cases h8 : 60 < n
  · have HE : Hid (cutE l = 4) := hide (by unfold cutE; rw [if_pos (by omega)])
    clear hl
    go_enter Tryd.func10, Tryd.ntmps10
    go_wp2_with fail
    go_ret
    exact ⟨ret_int (unhide HE).symm, 0, rfl⟩
  · have HE : Hid (cutE l = cutFrom none l) := hide (by unfold cutE; rw [if_neg (by omega)])
    have HL := hide hl
    clear hl
    go_enter Tryd.func10, Tryd.ntmps10
    go_wp2_with fail
    go_loopw [3] (fun i wr => ∃ k q : Nat, k ≤ n ∧ i = .int .i64 k ∧ Hid (cutFrom (prev l k) (l.drop k) = cutFrom none l) ∧ wr = w.drewN q) (fun i _ => n - (intOf i).toNat)
    case atStart => exact ⟨0, 0, Nat.zero_le _, rfl, hide (by simp [prev]), rfl⟩
    case round =>
      obtain ⟨k, q, hk, rfl, HG, rfl⟩ := hrel
      by_cases hlt : k < n
      · obtain ⟨b, o, x, rfl, _, hx, hcx⟩ := ha.get hlt
        have HX := hide hx
        clear hx
        by_cases h1 : cellB x = true
        · have h12 := cellB_t.1 h1
          have H1 := hide h1
          clear h1
          rcases Nat.eq_zero_or_pos k with rfl | hk0
          · have hc0 : w.cell? ⟨b, o, none⟩ = some (.int .i64 x) := hcx
            go_wp2_with (go_at_call 17; refine (rcell2_any x _).mono ?_; rintro e w' ⟨rfl, rfl⟩; rw [H1.out])
            go_quiet (fail)
            go_wp2_with fail
            go_roundw
            case rel => exact ⟨1, q + nq, by omega, by go_num, hide (cut_ok (unhide HX) (unhide HG) h12 (by simp [prev])), by first | rfl | rw [World.drewN_drewN]⟩
            case measure => simp [intOf]; omega
          · obtain ⟨j, rfl⟩ : ∃ j, k = j + 1 := ⟨k - 1, by omega⟩
            obtain ⟨b', o', y, e', _, hy, hcy⟩ := ha.get (k := j) (by omega)
            cases e'
            have HY := hide hy
            clear hy
            have dk : decide ((0 : Int) < (j : Int) + 1) = true := decide_eq_true (by omega)
            by_cases hxy : x ≤ y
            · have dxy : decide (x ≤ y) = true := decide_eq_true hxy
              go_wp2_with (go_at_call 17; refine (rcell2_any x _).mono ?_; rintro e w' ⟨rfl, rfl⟩; rw [H1.out])
              go_quiet (fail)
              go_wp2_with fail
              go_ret
              exact ⟨ret_int (by rw [unhide HE, cut_flat (unhide HX) (unhide HY) (unhide HG) h12 hxy]), q + nq, by first | rfl | rw [World.drewN_drewN]⟩
            · have dxy : decide (x ≤ y) = false := decide_eq_false hxy
              go_wp2_with (go_at_call 17; refine (rcell2_any x _).mono ?_; rintro e w' ⟨rfl, rfl⟩; rw [H1.out])
              go_quiet (fail)
              go_wp2_with fail
              go_roundw
              case rel => exact ⟨j + 1 + 1, q + nq, by omega, by go_num, hide (cut_ok (unhide HX) (unhide HG) h12 (by intro z hz; rw [prev_next (unhide HY)] at hz; injection hz with hz; omega)), by first | rfl | rw [World.drewN_drewN]⟩
              case measure => simp [intOf]; omega
        · have h1f : cellB x = false := by simpa using h1
          have HCB := hide (cut_bad (unhide HX) (unhide HG) (cellB_f.1 h1f))
          have H1 := hide h1f
          clear h1 h1f
          go_wp2_with (go_at_call 17; refine (rcell2_any x _).mono ?_; rintro e w' ⟨rfl, rfl⟩; rw [H1.out])
          go_ret
          exact ⟨ret_int (by rw [unhide HE, unhide HCB]), q, rfl⟩
      · have h0 : cutFrom none l = 0 := by
          rw [← unhide HG, List.drop_of_length_le (by have := unhide HL; omega)]; rfl
        have H0 := hide h0
        clear h0
        go_wp2_with fail
        go_ret
        exact ⟨ret_int (by rw [unhide HE, unhide H0]), q, rfl⟩

theorem vals_bad {l : List Int} {k : Nat} {x : Int} (h : l[k]? = some x) (hx : cellB x = false) (hl : l.length ≤ 1000) : valuesE l = 1 := by
  unfold valuesE
  rw [if_neg (by omega), if_neg]
  intro ha
  have := List.all_eq_true.1 ha x (List.mem_of_getElem? h)
  rw [hx] at this; cases this
theorem rvals_any (A : Option Addr) (n c : Nat) (l : List Int) (w : World) (B : Nat) (ha : IReads w B A n l) (hn : n ≤ maxLen) :
    Calls Tryd.prog 13 #[.slice A n c] w fun e w' => e = .returned (.int .i64 (valuesE l)) ∧ w = w' := by
  unfold maxLen at hn
  have hl := ha.len
  by_cases h8 : 1000 < n
  · have HE : Hid (valuesE l = 4) := hide (by unfold valuesE; rw [if_pos (by omega)])
    clear hl
    go_enter Tryd.func13, Tryd.ntmps13
    go_wp2_with fail
    go_ret
    exact ⟨ret_int (unhide HE).symm, rfl⟩
  · have HL := hide hl
    clear hl
    go_enter Tryd.func13, Tryd.ntmps13
    go_wp2_with fail
    go_loop [3] (fun i => ∃ k : Nat, k ≤ n ∧ i = .int .i64 k ∧ Hid (∀ x ∈ l.take k, cellB x = true)) (fun i => n - (intOf i).toNat)
    case atStart => exact ⟨0, Nat.zero_le _, rfl, hide (by simp)⟩
    case round =>
      obtain ⟨k, hk, rfl, HG⟩ := hrel
      by_cases hlt : k < n
      · obtain ⟨b, o, x, rfl, _, hx, hcx⟩ := ha.get hlt
        have HX := hide hx
        clear hx
        by_cases h1 : cellB x = true
        · have HN := hide (all_next (unhide HX) (unhide HG) h1)
          have H1 := hide h1
          clear h1
          go_wp2_with (go_at_call 17; refine (rcell2_any x _).mono ?_; rintro e w' ⟨rfl, rfl⟩; rw [H1.out])
          go_round
          case rel => exact ⟨k + 1, by omega, by go_num, HN⟩
          case measure => simp [intOf]; omega
        · have h1f : cellB x = false := by simpa using h1
          have HB := hide (vals_bad (unhide HX) h1f (by have := unhide HL; omega))
          have H1 := hide h1f
          clear h1 h1f
          go_wp2_with (go_at_call 17; refine (rcell2_any x _).mono ?_; rintro e w' ⟨rfl, rfl⟩; rw [H1.out])
          go_ret
          exact ⟨ret_int (unhide HB).symm, rfl⟩
      · have h0 : valuesE l = 0 := by
          have := unhide HG
          rw [List.take_of_length_le (by have := unhide HL; omega)] at this
          unfold valuesE
          rw [if_neg (by have := unhide HL; omega), if_pos (List.all_eq_true.2 this)]
        have H0 := hide h0
        clear h0
        go_wp2_with fail
        go_ret
        exact ⟨ret_int (unhide H0).symm, rfl⟩

theorem binN_next {l : List Int} {k : Nat} {y : Int} (h : l[k]? = some y) (x : Int) : binN (l.take (k + 1)) x = binN (l.take k) x + if y ≤ x then 1 else 0 := by
  unfold binN
  rw [take_next h, List.filter_append, List.length_append]
  by_cases hy : y ≤ x <;> simp [hy]
theorem rbin_any (A : Option Addr) (n c : Nat) (l : List Int) (x : Int) (w : World) (B : Nat) (ha : IReads w B A n l) (hn : n ≤ 100000) :
    Calls Tryd.prog 18 #[.slice A n c, .int .i64 x] w fun e w' => e = .returned (.int .i64 (binN l x)) ∧ w = w' := by
  have HL := hide ha.len
  go_enter Tryd.func18, Tryd.ntmps18
  go_wp2_with fail
  go_loop [5, 6] (fun s i => ∃ k m : Nat, k ≤ n ∧ i = .int .i64 k ∧ s = .int .i64 m ∧ m ≤ k ∧ Hid (m = binN (l.take k) x)) (fun _ i => n - (intOf i).toNat)
  case atStart => exact ⟨0, 0, Nat.zero_le _, rfl, rfl, Nat.le_refl _, hide (by simp [binN])⟩
  case round =>
    obtain ⟨k, m, hk, rfl, rfl, hm, HM⟩ := hrel
    by_cases hlt : k < n
    · obtain ⟨b, o, y, rfl, _, hy, hcy⟩ := ha.get hlt
      have HN := hide (binN_next hy x)
      clear hy
      by_cases hyx : y ≤ x
      · have dyx : decide (y ≤ x) = true := decide_eq_true hyx
        go_wp2_with fail
        go_round
        case rel => exact ⟨k + 1, m + 1, by omega, by go_num, by go_num, by omega, hide (by rw [unhide HN, if_pos hyx, ← unhide HM])⟩
        case measure => simp [intOf]; omega
      · have dyx : decide (y ≤ x) = false := decide_eq_false hyx
        go_wp2_with fail
        go_round
        case rel => exact ⟨k + 1, m, by omega, by go_num, rfl, by omega, hide (by rw [unhide HN, if_neg hyx, ← unhide HM]; rfl)⟩
        case measure => simp [intOf]; omega
    · have hmm : m = binN l x := by
        rw [unhide HM, List.take_of_length_le (by have := unhide HL; omega)]
      subst hmm
      go_wp2_with fail
      go_ret
      exact ⟨rfl, rfl⟩

theorem getD_le {s : List Int} (hs : s.Pairwise (· ≤ ·)) {i j : Nat} (h : i ≤ j) (hj : j < s.length) : s.getD i 0 ≤ s.getD j 0 := by
  rw [List.getD_eq_getElem?_getD, List.getD_eq_getElem?_getD, List.getElem?_eq_getElem (by omega : i < s.length), List.getElem?_eq_getElem hj]
  rcases Nat.lt_or_ge i j with hlt | hge
  · exact List.pairwise_iff_getElem.1 hs i j (by omega) hj hlt
  · obtain rfl : i = j := by omega
    exact Int.le_refl _
theorem cutAt_mono {s : List Int} (hs : s.Pairwise (· ≤ ·)) {many j k : Nat} (hn : 0 < s.length) (hjk : j ≤ k) (hk : k < many) : cutAt s many j ≤ cutAt s many k :=
  getD_le hs (Nat.div_le_div_right (Nat.mul_le_mul_right _ (by omega))) (idx_lt hn hk)
theorem cutAt_first {s : List Int} (hs : s.Pairwise (· ≤ ·)) {many k : Nat} (hn : 0 < s.length) (hk : k < many) : s.getD 0 0 ≤ cutAt s many k :=
  getD_le hs (Nat.zero_le _) (idx_lt hn hk)
theorem cutsK_at {s : List Int} {many : Nat} : ∀ k, ∀ y ∈ cutsK s many k, ∃ j, j < k ∧ y = cutAt s many j := by
  intro k
  induction k with
  | zero => intro y hy; cases hy
  | succ k ih =>
    intro y hy
    rw [cutsK] at hy
    split at hy
    · rcases List.mem_append.1 hy with h | h
      · obtain ⟨j, hj, e⟩ := ih y h
        exact ⟨j, by omega, e⟩
      · simp at h; exact ⟨k, by omega, h⟩
    · obtain ⟨j, hj, e⟩ := ih y hy
      exact ⟨j, by omega, e⟩
theorem cutsK_le {s : List Int} (hs : s.Pairwise (· ≤ ·)) {many k : Nat} (hn : 0 < s.length) (hk : k < many) {y : Int} (hy : y ∈ cutsK s many k) : y ≤ cutAt s many k := by
  obtain ⟨j, hj, e⟩ := cutsK_at k y hy
  rw [e]
  exact cutAt_mono hs hn (by omega) hk

set_option maxRecDepth 100000 in
set_option maxHeartbeats 4000000 in
theorem rcutsOf_any (A : Option Addr) (n c : Nat) (l : List Int) (mn : Nat) (w : World) (hr : IReads w w.heap.size A n l) (hn1000 : n ≤ 1000) (hmn1 : 1 ≤ mn) (hmn60 : mn ≤ 60) :
    Calls Tryd.prog 14 #[.slice A n c, .int .i64 mn] w (IPost (cutsS (sortL l) mn) w) := by
  have HL := hide hr.len
  have hso := hide (rsorted_any A n c l w hr (by omega))
  go_enter Tryd.func14, Tryd.ntmps14
  go_wp2_with fail
  refine (unhide hso).mono ?_
  rintro e w2 ⟨v2, rfl, ho2, hB2⟩
  clear hso
  have hs2 := hB2.size
  obtain ⟨S, hS⟩ : ∃ S, S = sortL l := ⟨_, rfl⟩
  rw [← hS] at ho2
  have HS := hide hS
  have HSO : Hid (S.Pairwise (· ≤ ·)) := hide (by rw [hS]; exact sortL_sorted l)
  have hSn : S.length = n := by rw [hS, sortL_len]; exact unhide HL
  obtain ⟨A2, c2, rfl, hr2, _, _, _⟩ := ho2.slice_
  rw [hSn] at hr2 ⊢
  have HSN := hide hSn
  clear hS hSn ho2
  rcases Nat.eq_zero_or_pos n with hn0 | hn0
  · have HN : Hid (cutsS (sortL l) mn = []) := hide (by rw [← unhide HS]; unfold cutsS; rw [if_pos (by rw [unhide HSN]; exact hn0)])
    have d3 : decide (0 < n) = false := decide_eq_false (by omega)
    have d4 : decide ((0 : Int) < (n : Int)) = false := decide_eq_false (by omega)
    go_wp2_with fail
    go_loop [6, 7] (fun v i => v = .slice none 0 0 ∧ i = .int .i64 1) (fun _ _ => 0)
    case atStart => exact ⟨rfl, rfl⟩
    case round =>
      obtain ⟨rfl, rfl⟩ := hrel
      go_wp2_with fail
      go_ret
      exact ⟨.slice none 0 0, rfl, by rw [unhide HN]; exact IOwn.nil_ _ _, hB2⟩
  · have HN : Hid (cutsS (sortL l) mn = cutsK S mn mn) := hide (by rw [← unhide HS]; unfold cutsS; rw [if_neg (by rw [unhide HSN]; omega)])
    have d3 : decide (0 < n) = true := decide_eq_true (by omega)
    have d4 : decide ((0 : Int) < (n : Int)) = true := decide_eq_true (by omega)
    obtain ⟨b, o, s0, rfl, hbl, hs0, c0⟩ := hr2.get hn0
    have HS0 : Hid (S.getD 0 0 = s0) := hide (by rw [List.getD_eq_getElem?_getD, hs0]; rfl)
    rw [Nat.add_zero] at c0
    have hb2' : b < w2.heap.size := hbl
    clear hs0
    go_wp2_with fail
    go_loopw [6, 7] (fun v i wr => ∃ k : Nat, k ≤ mn ∧ i = .int .i64 ((k : Int) + 1) ∧ wr.ownsRow w2.heap.size 3 1 v (cutsK S mn k).length ((cutsK S mn k).map (Value.int .i64)) ∧ Below w2.heap.size w2 wr) (fun _ i _ => (mn : Int).toNat + 1 - (intOf i).toNat)
    case atStart => exact ⟨0, Nat.zero_le _, rfl, World.ownsRow_nil _ _ _ _, Below.refl _ _⟩
    case round =>
      obtain ⟨k, hk, rfl, hown, hbel⟩ := hrel
      have hsz := hbel.size
      obtain ⟨vA, vc, rfl, hrv, _, _⟩ := own_slice hown
      by_cases hlt : k < mn
      · have hil := idx_lt hn0 hlt
        obtain ⟨idx, hidx⟩ : ∃ i, i = (k + 1) * n / (mn + 1) := ⟨_, rfl⟩
        rw [← hidx] at hil
        obtain ⟨_, _, x, e, _, hx, cx⟩ := (hr2.below hbel).get hil
        cases e
        have c9 := (hbel.cell (p := ⟨b, o, none⟩) hb2').trans c0
        have HXC : Hid (cutAt S mn k = x) := hide (by unfold cutAt; rw [unhide HSN, ← hidx, List.getD_eq_getElem?_getD, hx]; rfl)
        have hq : ((k : Int) + 1) * (n : Int) / ((mn : Int) + 1) = (idx : Int) := by rw [hidx]; push_cast; rfl
        have hp0 : 0 ≤ ((k : Int) + 1) * (n : Int) := Int.mul_nonneg (by omega) (by omega)
        have hp1 : ((k : Int) + 1) * (n : Int) ≤ 61000 := by
          calc ((k : Int) + 1) * (n : Int) ≤ 61 * (n : Int) := Int.mul_le_mul_of_nonneg_right (by omega) (by omega)
            _ ≤ 61000 := by omega
        have hcl := cutsK_len S mn k
        have d5 : decide ((k : Int) + 1 ≤ (mn : Int)) = true := decide_eq_true (by omega)
        have HK : Hid (cutsK S mn (k + 1) = if takesB s0 x (cutsK S mn k).getLast? then cutsK S mn k ++ [x] else cutsK S mn k) := hide (by rw [cutsK, unhide HXC, unhide HS0])
        have hge : s0 ≤ x := by rw [← unhide HS0, ← unhide HXC]; exact cutAt_first (unhide HSO) (by rw [unhide HSN]; exact hn0) hlt
        have HLE : Hid (∀ y ∈ cutsK S mn k, y ≤ x) := hide (fun y hy => by rw [← unhide HXC]; exact cutsK_le (unhide HSO) (by rw [unhide HSN]; exact hn0) hlt hy)
        obtain ⟨O, hO⟩ : ∃ O, O = cutsK S mn k := ⟨_, rfl⟩
        rw [← hO] at hown hrv hcl HK HLE ⊢
        obtain ⟨p, hp⟩ : ∃ p, p = O.length := ⟨_, rfl⟩
        rw [← hp] at hown hrv hcl ⊢
        have HP := hide hp
        have hp60 : p < 1000000000 := by omega
        clear hx hidx hO hp
        have hsw : w.heap.size ≤ wr.heap.size := by omega
        by_cases hgt : x = s0
        · have HT : Hid (cutsK S mn (k + 1) = O) := hide (by rw [unhide HK]; cases O.getLast? <;> simp [takesB, hgt])
          have d6 : (x == s0) = true := by simpa using hgt
          clear hgt hge
          go_wp2_with fail
          go_roundw
          case rel => exact ⟨k + 1, by omega, by go_num, by rw [unhide HT, ← unhide HP]; exact hown, hbel⟩
          case measure => simp [intOf]; omega
        · have d6 : (x == s0) = false := by simpa using hgt
          have hg : s0 < x := by omega
          rcases Nat.eq_zero_or_pos p with hp0' | hp0'
          · subst hp0'
            have HT : Hid (cutsK S mn (k + 1) = O ++ [x]) := hide (by
              have hn : O = [] := List.eq_nil_of_length_eq_zero (unhide HP).symm
              rw [unhide HK, hn]; simp [takesB, hg])
            clear hgt hg hge
            go_wp2_with (at_builtin; refine app_one elem_int (.tmp 50) (.tmp 52) [.int .i64 x] rfl rfl rfl hown rfl rfl rfl (ints_oneCell .i64 [x]) hp60 hsz ?_; intro v' w4 hown4 hb4 hne4 _)
            have hown5 : w4.ownsRow w2.heap.size 3 1 v' (cutsK S mn (k + 1)).length ((cutsK S mn (k + 1)).map (Value.int .i64)) := by
              rw [unhide HT, List.length_append, ← unhide HP, List.map_append]; exact hown4
            clear hown4 hown
            go_wp2_with fail
            go_roundw
            case rel => exact ⟨k + 1, by omega, by go_num, hown5, hbel.trans hb4⟩
            case measure => simp [intOf]; omega
          · obtain ⟨p', rfl⟩ : ∃ p', p = p' + 1 := ⟨p - 1, by omega⟩
            have hrI : IReads wr wr.heap.size vA (p' + 1) O := hrv
            obtain ⟨bv, ov, y, rfl, _, hy, cy⟩ := hrI.get (k := p') (by omega)
            have hlast : O.getLast? = some y := by rw [List.getLast?_eq_getElem?, ← unhide HP]; exact hy
            have hyx' : y ≤ x := unhide HLE y (List.mem_of_getElem? hy)
            have e1 : decide ((0 : Int) < (p' : Int) + 1) = true := decide_eq_true (by omega)
            have HLY := hide hlast
            clear hy hlast hrI hrv
            by_cases hyx : y = x
            · have d7 : (y == x) = true := by simpa using hyx
              have HT : Hid (cutsK S mn (k + 1) = O) := hide (by rw [unhide HK, unhide HLY]; simp [takesB, hyx])
              clear hyx hyx' hgt hg hge
              go_wp2_with fail
              go_roundw
              case rel => exact ⟨k + 1, by omega, by go_num, by rw [unhide HT, ← unhide HP]; exact hown, hbel⟩
              case measure => simp [intOf]; omega
            · have d7 : (y == x) = false := by simpa using hyx
              have hlt2 : y < x := by omega
              have HT : Hid (cutsK S mn (k + 1) = O ++ [x]) := hide (by rw [unhide HK, unhide HLY]; simp [takesB, hg, hlt2])
              clear hyx hyx' hgt hg hge hlt2
              go_wp2_with (at_builtin; refine app_one elem_int (.tmp 50) (.tmp 52) [.int .i64 x] rfl rfl rfl hown rfl rfl rfl (ints_oneCell .i64 [x]) hp60 hsz ?_; intro v' w4 hown4 hb4 hne4 _)
              have hown5 : w4.ownsRow w2.heap.size 3 1 v' (cutsK S mn (k + 1)).length ((cutsK S mn (k + 1)).map (Value.int .i64)) := by
                rw [unhide HT, List.length_append, ← unhide HP, List.map_append]; exact hown4
              clear hown4 hown
              go_wp2_with fail
              go_roundw
              case rel => exact ⟨k + 1, by omega, by go_num, hown5, hbel.trans hb4⟩
              case measure => simp [intOf]; omega
      · obtain rfl : k = mn := by omega
        have d5 : decide ((k : Int) + 1 ≤ (k : Int)) = false := decide_eq_false (by omega)
        go_wp2_with fail
        go_ret
        exact ⟨_, rfl, by rw [unhide HN]; exact IOwn.low hown hs2, hB2.trans (hbel.mono hs2)⟩
end Go.Proofs.YtlicgpjcnkabiaaDoor
