/- cut.Cuts, cut.Count. Conditions: as each lemma names. -/
import Derived.Test.YtlicgpjcnkabiaaDoorCutVals
namespace Go.Proofs.YtlicgpjcnkabiaaDoor
set_option linter.unusedVariables false
set_option linter.unusedSimpArgs false
open Go.RowKit

def takesB (s0 x : Int) : Option Int → Bool
  | none => decide (s0 < x)
  | some y => decide (s0 < x) && decide (y < x)
def cutAt (s : List Int) (many k : Nat) : Int := s.getD ((k + 1) * s.length / (many + 1)) 0
def cutsK (s : List Int) (many : Nat) : Nat → List Int
  | 0 => []
  | k + 1 => if takesB (s.getD 0 0) (cutAt s many k) (cutsK s many k).getLast? then cutsK s many k ++ [cutAt s many k] else cutsK s many k
def cutsS (s : List Int) (many : Nat) : List Int := if s.length = 0 then [] else cutsK s many many
def cutsE (l : List Int) (many : Int) : Int := if many < 1 then 1 else if 60 < many then 1 else valuesE l
def cutsV (l : List Int) (many : Int) : List Int := if cutsE l many = 0 then cutsS (sortL l) many.toNat else []
theorem cutsK_len (s : List Int) (many : Nat) : ∀ k, (cutsK s many k).length ≤ k := by
  intro k
  induction k with
  | zero => exact Nat.le_refl _
  | succ k ih =>
    rw [cutsK]
    split
    · rw [List.length_append]; simp; omega
    · omega
theorem idx_lt {n many k : Nat} (hn : 0 < n) (hk : k < many) : (k + 1) * n / (many + 1) < n := by
  rw [Nat.div_lt_iff_lt_mul (by omega)]
  calc (k + 1) * n ≤ many * n := Nat.mul_le_mul_right _ (by omega)
    _ < n * (many + 1) := by rw [Nat.mul_add, Nat.mul_comm n many]; omega

set_option maxRecDepth 100000 in
set_option maxHeartbeats 4000000 in
theorem cuts_any (A : Option Addr) (n c : Nat) (l : List Int) (many : Int) (w : World) (hr : IReads w w.heap.size A n l) (hn : n ≤ maxLen) :
    Calls Tryd.prog 15 #[.slice A n c, .int .i64 many] w fun e w' => ∃ v, e = .returned (.tuple #[v, errV (cutsE l many)]) ∧ IOwn w' w.heap.size v (cutsV l many) ∧ Below w.heap.size w w' := by
  have hl := hr.len
  by_cases h1 : many < 1
  · have HE : Hid (cutsE l many = 1) := hide (by unfold cutsE; rw [if_pos h1])
    have HV : Hid (cutsV l many = []) := hide (by unfold cutsV; rw [if_neg (by rw [unhide HE]; decide)])
    have d1 : decide (many < 1) = true := by simpa using h1
    clear hl
    go_enter Tryd.func15, Tryd.ntmps15
    go_wp2_with fail
    go_ret2
    exact ⟨_, by rw [unhide HE]; rfl, by rw [unhide HV]; exact IOwn.nil_ _ _, Below.refl _ _⟩
  by_cases h2 : 60 < many
  · have HE : Hid (cutsE l many = 1) := hide (by unfold cutsE; rw [if_neg h1, if_pos h2])
    have HV : Hid (cutsV l many = []) := hide (by unfold cutsV; rw [if_neg (by rw [unhide HE]; decide)])
    have d1 : decide (many < 1) = false := by simpa using h1
    have d2 : decide (60 < many) = true := by simpa using h2
    clear hl
    go_enter Tryd.func15, Tryd.ntmps15
    go_wp2_with fail
    go_ret2
    exact ⟨_, by rw [unhide HE]; rfl, by rw [unhide HV]; exact IOwn.nil_ _ _, Below.refl _ _⟩
  have d1 : decide (many < 1) = false := by simpa using h1
  have d2 : decide (60 < many) = false := by simpa using h2
  have hEv : cutsE l many = valuesE l := by unfold cutsE; rw [if_neg h1, if_neg h2]
  by_cases h0 : valuesE l = 0
  case neg =>
    have HV : Hid (cutsV l many = []) := hide (by unfold cutsV; rw [if_neg (by rw [hEv]; exact h0)])
    have HE := hide hEv
    have HX := hide (errV_1 h0)
    clear hl h0 hEv
    go_enter Tryd.func15, Tryd.ntmps15
    go_wp2_with fail
    refine (vals_any A n c _ l _ hr hn).mono ?_
    rintro e w1 ⟨rfl, rfl⟩
    rw [unhide HX]
    go_wp2_with fail
    go_ret2
    exact ⟨_, by rw [unhide HE, unhide HX]; rfl, by rw [unhide HV]; exact IOwn.nil_ _ _, Below.refl _ _⟩
  obtain ⟨mn, rfl⟩ : ∃ k : Nat, many = k := ⟨many.toNat, by omega⟩
  have hE0 : cutsE l mn = 0 := by rw [hEv]; exact h0
  have HV : Hid (cutsV l mn = cutsS (sortL l) mn) := hide (by unfold cutsV; rw [if_pos hE0, Int.toNat_natCast])
  have hn1000 : n ≤ 1000 := by
    unfold valuesE at h0
    by_cases h : 1000 < l.length
    · rw [if_pos h] at h0; cases h0
    · omega
  have HE := hide hE0
  have HX := hide (errV_0 h0)
  have hmn60 : mn ≤ 60 := by omega
  have hmn1 : 1 ≤ mn := by omega
  have HL := hide hl
  clear hE0 hEv h0 h1 h2 hl
  go_enter Tryd.func15, Tryd.ntmps15
  go_wp2_with fail
  refine (vals_any A n c _ l _ hr hn).mono ?_
  rintro e w1 ⟨rfl, rfl⟩
  rw [unhide HX]
  go_wp2_with fail
  refine (values_any A n c _).mono ?_
  rintro e w1 ⟨rfl, rfl⟩
  have hb0 : Below w.heap.size w (w.alloc (.cells #[.slice A n c] 22)) := (Below.refl _ _).alloc (Nat.le_refl _) _
  have hbx : (w.alloc (.cells #[.slice A n c] 22)).cell? ⟨w.heap.size, 0, none⟩ = some (.slice A n c) := by
    simp [(Blk.new w 22 #[.slice A n c]).cell 0]
  have hst := hide (sorted_any w.heap.size n c A l (by omega) (w.alloc (.cells #[.slice A n c] 22)) ((hr.below hb0).more hb0.size) hbx (by simp))
  clear hbx
  go_wp2_with fail
  refine (unhide hst).mono ?_
  rintro e w2 ⟨v2, rfl, ho2, hb2⟩
  clear hst
  have hB2 := hb0.trans (hb2.mono hb0.size)
  have hs2 := hB2.size
  clear hb2 hb0
  obtain ⟨S, hS⟩ : ∃ S, S = sortL l := ⟨_, rfl⟩
  rw [← hS] at ho2
  have HS := hide hS
  have hSn : S.length = n := by rw [hS, sortL_len]; exact unhide HL
  obtain ⟨A2, c2, rfl, hr2, _, _, _⟩ := ho2.slice_
  rw [hSn] at hr2 ⊢
  have HSN := hide hSn
  clear hS hSn ho2
  rcases Nat.eq_zero_or_pos n with hn0 | hn0
  · have HN : Hid (cutsV l mn = []) := hide (by rw [unhide HV]; unfold cutsS; rw [if_pos (by rw [sortL_len, unhide HL]; exact hn0)])
    have d3 : decide (0 < n) = false := decide_eq_false (by omega)
    have d4 : decide ((0 : Int) < (n : Int)) = false := decide_eq_false (by omega)
    go_wp2_with fail
    go_loop [7, 8] (fun v i => v = .slice none 0 0 ∧ i = .int .i64 1) (fun _ _ => 0)
    case atStart => exact ⟨rfl, rfl⟩
    case round =>
      obtain ⟨rfl, rfl⟩ := hrel
      go_wp2_with fail
      go_ret2
      exact ⟨.slice none 0 0, by rw [unhide HE]; rfl, by rw [unhide HN]; exact IOwn.nil_ _ _, hB2⟩
  · have HN : Hid (cutsV l mn = cutsK S mn mn) := hide (by rw [unhide HV, ← unhide HS]; unfold cutsS; rw [if_neg (by rw [unhide HSN]; omega)])
    have d3 : decide (0 < n) = true := decide_eq_true (by omega)
    have d4 : decide ((0 : Int) < (n : Int)) = true := decide_eq_true (by omega)
    obtain ⟨b, o, s0, rfl, hbl, hs0, c0⟩ := hr2.get hn0
    have HS0 : Hid (S.getD 0 0 = s0) := hide (by rw [List.getD_eq_getElem?_getD, hs0]; rfl)
    rw [Nat.add_zero] at c0
    have hb2' : b < w2.heap.size := hbl
    clear hs0
    go_wp2_with fail
    go_loopw [7, 8] (fun v i wr => ∃ k : Nat, k ≤ mn ∧ i = .int .i64 ((k : Int) + 1) ∧ wr.ownsRow w2.heap.size 3 1 v (cutsK S mn k).length ((cutsK S mn k).map (Value.int .i64)) ∧ Below w2.heap.size w2 wr) (fun _ i _ => (mn : Int).toNat + 1 - (intOf i).toNat)
    case atStart => exact ⟨0, Nat.zero_le _, rfl, World.ownsRow_nil _ _ _ _, Below.refl _ _⟩
    case round =>
      obtain ⟨k, hk, rfl, hown, hbel⟩ := hrel
      have hsz := hbel.size
      obtain ⟨vA, vc, rfl, hrv, _, _⟩ := own_slice hown
      by_cases hlt : k < mn
      · have hil := idx_lt hn0 hlt
        obtain ⟨idx, hidx⟩ : ∃ i, i = (k + 1) * n / (mn + 1) := ⟨_, rfl⟩
        rw [← hidx] at hil
        obtain ⟨_, _, x, e, _, hx, cx⟩ := (hr2.below hbel).get hil
        cases e
        have c9 := (hbel.cell (p := ⟨b, o, none⟩) hb2').trans c0
        have HXC : Hid (cutAt S mn k = x) := hide (by unfold cutAt; rw [unhide HSN, ← hidx, List.getD_eq_getElem?_getD, hx]; rfl)
        have hq : ((k : Int) + 1) * (n : Int) / ((mn : Int) + 1) = (idx : Int) := by rw [hidx]; push_cast; rfl
        have hp0 : 0 ≤ ((k : Int) + 1) * (n : Int) := Int.mul_nonneg (by omega) (by omega)
        have hp1 : ((k : Int) + 1) * (n : Int) ≤ 61000 := by
          calc ((k : Int) + 1) * (n : Int) ≤ 61 * (n : Int) := Int.mul_le_mul_of_nonneg_right (by omega) (by omega)
            _ ≤ 61000 := by omega
        have hcl := cutsK_len S mn k
        have d5 : decide ((k : Int) + 1 ≤ (mn : Int)) = true := decide_eq_true (by omega)
        have HK : Hid (cutsK S mn (k + 1) = if takesB s0 x (cutsK S mn k).getLast? then cutsK S mn k ++ [x] else cutsK S mn k) := hide (by rw [cutsK, unhide HXC, unhide HS0])
        obtain ⟨O, hO⟩ : ∃ O, O = cutsK S mn k := ⟨_, rfl⟩
        rw [← hO] at hown hrv hcl HK ⊢
        obtain ⟨p, hp⟩ : ∃ p, p = O.length := ⟨_, rfl⟩
        rw [← hp] at hown hrv hcl ⊢
        have HP := hide hp
        have hp60 : p < 1000000000 := by omega
        clear hx hidx hO hp
        have hsw : w.heap.size ≤ wr.heap.size := by omega
        by_cases hgt : s0 < x
        · have d6 : decide (s0 < x) = true := decide_eq_true hgt
          rcases Nat.eq_zero_or_pos p with hp0' | hp0'
          · subst hp0'
            have HT : Hid (cutsK S mn (k + 1) = O ++ [x]) := hide (by
              have hn : O = [] := List.eq_nil_of_length_eq_zero (unhide HP).symm
              rw [unhide HK, hn]; simp [takesB, hgt])
            go_wp2_with (at_builtin; refine app_one elem_int (.tmp 65) (.tmp 67) [.int .i64 x] rfl rfl rfl hown rfl rfl rfl (ints_oneCell .i64 [x]) hp60 hsz ?_; intro v' w4 hown4 hb4 hne4 _)
            have hown5 : w4.ownsRow w2.heap.size 3 1 v' (cutsK S mn (k + 1)).length ((cutsK S mn (k + 1)).map (Value.int .i64)) := by
              rw [unhide HT, List.length_append, ← unhide HP, List.map_append]; exact hown4
            clear hown4 hown
            go_wp2_with fail
            go_roundw
            case rel => exact ⟨k + 1, by omega, by go_num, hown5, hbel.trans hb4⟩
            case measure => simp [intOf]; omega
          · obtain ⟨p', rfl⟩ : ∃ p', p = p' + 1 := ⟨p - 1, by omega⟩
            have hrI : IReads wr wr.heap.size vA (p' + 1) O := hrv
            obtain ⟨bv, ov, y, rfl, _, hy, cy⟩ := hrI.get (k := p') (by omega)
            have hlast : O.getLast? = some y := by rw [List.getLast?_eq_getElem?, ← unhide HP]; exact hy
            have e1 : (((p' : Int) + 1) == 0) = false := by rw [beq_eq_false_iff_ne]; omega
            have HLY := hide hlast
            clear hy hlast hrI hrv
            by_cases hyx : y < x
            · have d7 : decide (y < x) = true := decide_eq_true hyx
              have HT : Hid (cutsK S mn (k + 1) = O ++ [x]) := hide (by rw [unhide HK, unhide HLY]; simp [takesB, hgt, hyx])
              go_wp2_with (at_builtin; refine app_one elem_int (.tmp 65) (.tmp 67) [.int .i64 x] rfl rfl rfl hown rfl rfl rfl (ints_oneCell .i64 [x]) hp60 hsz ?_; intro v' w4 hown4 hb4 hne4 _)
              have hown5 : w4.ownsRow w2.heap.size 3 1 v' (cutsK S mn (k + 1)).length ((cutsK S mn (k + 1)).map (Value.int .i64)) := by
                rw [unhide HT, List.length_append, ← unhide HP, List.map_append]; exact hown4
              clear hown4 hown
              go_wp2_with fail
              go_roundw
              case rel => exact ⟨k + 1, by omega, by go_num, hown5, hbel.trans hb4⟩
              case measure => simp [intOf]; omega
            · have d7 : decide (y < x) = false := decide_eq_false hyx
              have HT : Hid (cutsK S mn (k + 1) = O) := hide (by rw [unhide HK, unhide HLY]; simp [takesB, hyx])
              go_wp2_with fail
              go_roundw
              case rel => exact ⟨k + 1, by omega, by go_num, by rw [unhide HT, ← unhide HP]; exact hown, hbel⟩
              case measure => simp [intOf]; omega
        · have d6 : decide (s0 < x) = false := decide_eq_false hgt
          have HT : Hid (cutsK S mn (k + 1) = O) := hide (by rw [unhide HK]; cases O.getLast? <;> simp [takesB, hgt])
          go_wp2_with fail
          go_roundw
          case rel => exact ⟨k + 1, by omega, by go_num, by rw [unhide HT, ← unhide HP]; exact hown, hbel⟩
          case measure => simp [intOf]; omega
      · obtain rfl : k = mn := by omega
        have d5 : decide ((k : Int) + 1 ≤ (k : Int)) = false := decide_eq_false (by omega)
        go_wp2_with fail
        go_ret2
        exact ⟨_, by rw [unhide HE]; rfl, by rw [unhide HN]; exact IOwn.low hown hs2, hB2.trans (hbel.mono hs2)⟩

/-! ### Count -/
def countV (cs l : List Int) : List Int := (List.range (cs.length + 1)).map fun j => ((l.filter fun x => binN cs x == j).length : Int)
def cntRow (cs l : List Int) (j : Nat) : Value := .int .i64 ((l.filter fun x => binN cs x == j).length : Int)
theorem cntRow_set {w : World} {g : Nat} {T : TypeId} {m k : Nat} {cs l : List Int} {x : Int} (h : l[k]? = some x) (hrow : w.rowIs g T m (cntRow cs (l.take k))) :
    (w.setCell ⟨g, binN cs x, none⟩ (.int .i64 ((((l.take k).filter fun y => binN cs y == binN cs x).length : Int) + 1))).rowIs g T m (cntRow cs (l.take (k + 1))) := by
  refine (hrow.set (binN cs x) _).congr fun q _ => ?_
  unfold cntRow
  rw [take_next h, List.filter_append, List.length_append]
  by_cases hq : q = binN cs x
  · subst hq
    rw [if_pos rfl]; simp
  · rw [if_neg hq]
    have : (binN cs x == q) = false := by simpa using fun e => hq e.symm
    simp [this]
def countE (cs l : List Int) : Int := if cutE cs = 0 then valuesE l else cutE cs
def countO (cs l : List Int) : List Int := if countE cs l = 0 then countV cs l else []
def CountPost (cs l : List Int) (w : World) (e : Ending) (w' : World) : Prop := ∃ v, e = .returned (.tuple #[v, errV (countE cs l)]) ∧ IOwn w' w.heap.size v (countO cs l) ∧ Below w.heap.size w w'
theorem elem_int_info2 : (Tryd.prog.info? 3).map (fun i => (i.zero, i.size, i.bytes)) = some (some (.int .i64 0), 1, 8) := by kernel_rfl
theorem row_own {w : World} {g n base : Nat} {f : Nat → Int} (h : w.rowIs g 3 n (fun j => .int .i64 (f j))) (hg : base ≤ g) (hn : n ≤ maxLen) : IOwn w base (.slice (some ⟨g, 0, none⟩) n n) ((List.range n).map f) := by
  obtain ⟨cur, hh, hsz, hcl⟩ := h
  unfold IOwn
  rw [List.length_map, List.length_range]
  refine ⟨by simp, .inr ⟨g, n, cur, rfl, hg, hh, Nat.le_refl _, hn, by simpa using hsz, ?_⟩⟩
  rw [Nat.mul_one, List.take_of_length_le (by simp [hsz])]
  refine List.ext_getElem? fun i => ?_
  rw [Array.getElem?_toList, List.map_map]
  by_cases hi : i < n
  · rw [hcl i hi, List.getElem?_map, List.getElem?_range hi]; rfl
  · rw [Array.getElem?_eq_none (by omega), List.getElem?_eq_none (by simp; omega)]
set_option maxRecDepth 100000 in
set_option maxHeartbeats 2000000 in
theorem count_any (A C : Option Addr) (n c m d : Nat) (cs l : List Int) (w : World) (hc : IReads w w.heap.size A n cs) (hr : IReads w w.heap.size C m l) (hn : n ≤ maxLen) (hm : m ≤ maxLen) :
    Calls Tryd.prog 21 #[.slice A n c, .slice C m d] w (CountPost cs l w) := by
  have hlc := hc.len
  have hl := hr.len
  by_cases h0 : cutE cs = 0
  case neg =>
    have HE : Hid (countE cs l = cutE cs) := hide (by unfold countE; rw [if_neg h0])
    have HV := hide (errV_1 h0)
    have HN := hide h0
    clear h0 hlc hl
    go_enter Tryd.func21, Tryd.ntmps21
    go_wp2_with fail
    refine (cutCheck_any A n c cs _ _ hc hn).mono ?_
    rintro e w1 ⟨rfl, rfl⟩
    rw [unhide HV]
    go_wp2_with fail
    go_ret2
    exact ⟨_, by rw [unhide HE, unhide HV]; rfl, by unfold countO; rw [unhide HE, if_neg (unhide HN)]; exact IOwn.nil_ _ _, Below.refl _ _⟩
  by_cases h1 : valuesE l = 0
  case neg =>
    have HE : Hid (countE cs l = valuesE l) := hide (by unfold countE; rw [if_pos h0])
    have HV0 := hide (errV_0 h0)
    have HV := hide (errV_1 h1)
    have HN := hide h1
    clear h0 h1 hlc hl
    go_enter Tryd.func21, Tryd.ntmps21
    go_wp2_with fail
    refine (cutCheck_any A n c cs _ _ hc hn).mono ?_
    rintro e w1 ⟨rfl, rfl⟩
    rw [unhide HV0]
    go_wp2_with fail
    refine (vals_any C m d _ l _ hr hm).mono ?_
    rintro e w1 ⟨rfl, rfl⟩
    rw [unhide HV]
    go_wp2_with fail
    go_ret2
    exact ⟨_, by rw [unhide HE, unhide HV]; rfl, by unfold countO; rw [unhide HE, if_neg (unhide HN)]; exact IOwn.nil_ _ _, Below.refl _ _⟩
  have HE : Hid (countE cs l = 0) := hide (by unfold countE; rw [if_pos h0]; exact h1)
  have HV0 := hide (errV_0 h0)
  have HV1 := hide (errV_0 h1)
  obtain ⟨hri, _, h60⟩ := cutE_rises h0
  have hn60 : n ≤ 60 := by omega
  have hm1000 : m ≤ 1000 := by
    unfold valuesE at h1
    by_cases h : 1000 < l.length
    · rw [if_pos h] at h1; cases h1
    · omega
  have hbin : ∀ x, binN cs x < n + 1 := fun x => by
    have : binN cs x ≤ cs.length := List.length_filter_le _ _
    omega
  have HB := hide hbin
  have HL := hide hl
  have HLC := hide hlc
  have HRI := hide hri
  have hmk := run_make_row' (P := Tryd.prog) 22 3 (.int .i64 0) 8 Tryd.underlying22 elem_int_info2 rfl .i64 .i64 (n + 1) (by omega) (by omega)
  simp only [Int.natCast_add, Int.natCast_one, Int.cast_ofNat_Int] at hmk
  clear h0 h1 hlc hl hbin h60 hri
  go_enter Tryd.func21, Tryd.ntmps21
  go_wp2_with fail
  refine (cutCheck_any A n c cs _ _ hc hn).mono ?_
  rintro e w1 ⟨rfl, rfl⟩
  rw [unhide HV0]
  go_wp2_with fail
  refine (vals_any C m d _ l _ hr hm).mono ?_
  rintro e w1 ⟨rfl, rfl⟩
  rw [unhide HV1]
  go_wp2_with fail
  have hb0 : Below w.heap.size w (w.alloc (.cells (madeCells #[.int .i64 0] (n + 1)) 3)) := (Below.refl _ _).alloc (Nat.le_refl _) _
  go_loopw [10, 27] (fun _ i wr => ∃ k : Nat, k ≤ m ∧ i = .int .i64 k ∧ wr.rowIs w.heap.size 3 (n + 1) (cntRow cs (l.take k)) ∧ Below w.heap.size w wr) (fun _ i _ => m - (intOf i).toNat)
  case atStart => exact ⟨0, Nat.zero_le _, rfl, (World.rowIs_made w (.int .i64 0) (n + 1) 3).congr (fun j hj => by simp [cntRow]), hb0⟩
  case round =>
    obtain ⟨k, hk, rfl, hrow, hbel⟩ := hrel
    have hsz := hbel.size
    clear hmk hb0
    by_cases hlt : k < m
    · obtain ⟨b, o, x, rfl, _, hx, cx⟩ := (hr.below hbel).get hlt
      have HS := hide (cntRow_set (cs := cs) hx hrow)
      have hj := unhide HB x
      have hc0 := hrow.cell hj
      have hf0 := hrow.frozen (binN cs x)
      obtain ⟨j, hje⟩ : ∃ j, j = binN cs x := ⟨_, rfl⟩
      have HJ := hide hje
      rw [← hje] at hj hc0 hf0
      unfold cntRow at hc0
      obtain ⟨q, hq⟩ : ∃ q, q = ((l.take k).filter fun y => binN cs y == j).length := ⟨_, rfl⟩
      rw [← hq] at hc0
      have hq9 : q ≤ m := by
        rw [hq]
        have h1 := List.length_filter_le (fun y => binN cs y == j) (l.take k)
        have h2 : (l.take k).length ≤ k := List.length_take_le _ _
        omega
      have HS2 : Hid ((wr.setCell ⟨w.heap.size, j, none⟩ (.int .i64 ((q : Int) + 1))).rowIs w.heap.size 3 (n + 1) (cntRow cs (l.take (k + 1)))) := hide (by rw [hq, hje]; exact unhide HS)
      clear hx hje hq HS
      go_wp2_with fail
      refine (at_any A n c cs x wr w.heap.size (hc.below hbel) hn60 (unhide HRI)).mono ?_
      rintro e w2 ⟨rfl, rfl⟩
      rw [← unhide HJ]
      go_wp2_with fail
      go_roundw
      case rel => exact ⟨k + 1, by omega, by go_num, unhide HS2, hbel.setCell (p := ⟨w.heap.size, j, none⟩) (Nat.le_refl _) _⟩
      case measure => simp [intOf]; omega
    · obtain rfl : k = m := by omega
      rw [List.take_of_length_le (by rw [unhide HL]; exact Nat.le_refl _)] at hrow
      have ho := row_own hrow (Nat.le_refl _) (by unfold maxLen; omega)
      have HO : Hid (IOwn wr w.heap.size (.slice (some ⟨w.heap.size, 0, none⟩) (n + 1) (n + 1)) (countO cs l)) := hide (by
        unfold countO countV
        rw [unhide HE, if_pos rfl, unhide HLC]
        exact ho)
      clear ho hrow
      go_wp2_with fail
      go_ret2
      exact ⟨_, by rw [unhide HE]; rfl, unhide HO, hbel⟩
end Go.Proofs.YtlicgpjcnkabiaaDoor
