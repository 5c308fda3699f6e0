/- The reference's Moved: in how many pairs of leaves two trees differ; it is as the program counts. Conditions: both trees are right and read as nodes. -/
import Derived.Test.YtefkjpcgcgofgaaDoorRegR
namespace Go.Proofs.YtefkjpcgcgofgaaDoor
set_option linter.unusedVariables false
set_option linter.unusedSimpArgs false
open Go.RowKit

def isLeafB (t : List Nd) (i : Nat) : Bool := match t[i]? with
  | some x => x.f == -1
  | none => false
def hitR (a b : List Nd) (n i k : Nat) : Bool := isLeafB a i && isLeafB b k && (valAt a i != valAt b k) && anyB (meetL (regR a n i) (regR b n k))
def rowHits (a b : List Nd) (n i m : Nat) : Nat := ((List.range m).filter (hitR a b n i)).length
def movTo (a b : List Nd) (n i : Nat) : Nat := ((List.range i).map fun j => rowHits a b n j b.length).sum
def movedR (a b : List Nd) (n : Nat) : Nat := movTo a b n a.length
theorem isLeafB_t {t : List Nd} {i : Nat} : isLeafB t i = true ↔ ∃ x, t[i]? = some x ∧ x.f = -1 := by
  unfold isLeafB
  split
  · rename_i x h
    rw [beq_iff_eq]
    exact ⟨fun e => ⟨x, h, e⟩, fun ⟨y, e, hf⟩ => by rw [h] at e; injection e with e; subst e; exact hf⟩
  · rename_i h
    exact ⟨fun e => (by cases e), fun ⟨y, e, _⟩ => (by rw [h] at e; cases e)⟩
theorem rowHits_next (a b : List Nd) (n i m : Nat) : rowHits a b n i (m + 1) = rowHits a b n i m + if hitR a b n i m then 1 else 0 := by
  unfold rowHits
  rw [List.range_succ, List.filter_append, List.length_append, List.filter_cons]
  split <;> rfl
theorem rowHits_le (a b : List Nd) (n i m : Nat) : rowHits a b n i m ≤ m := by
  unfold rowHits
  exact Nat.le_trans (List.length_filter_le _ _) (by rw [List.length_range]; exact Nat.le_refl _)
theorem movTo_next (a b : List Nd) (n i : Nat) : movTo a b n (i + 1) = movTo a b n i + rowHits a b n i b.length := by
  unfold movTo
  rw [List.range_succ, List.map_append, List.sum_append]
  simp
theorem movTo_le (a b : List Nd) (n : Nat) : ∀ i, movTo a b n i ≤ i * b.length := by
  intro i
  induction i with
  | zero => exact Nat.zero_le _
  | succ i ih => rw [movTo_next, Nat.succ_mul]; have := rowHits_le a b n i b.length; omega
theorem idx_perm {t : List Nd} {fe : Int} (h : Right t fe) : (idx t t.length 0).Perm ((List.range t.length).filter (isLeafB t)) := by
  rw [List.perm_ext_iff_of_nodup (idx_nodup h _ _) (List.Pairwise.filter _ List.nodup_range)]
  intro j
  rw [List.mem_filter, List.mem_range, isLeafB_t]
  constructor
  · intro hj
    obtain ⟨_, n, hn, hf⟩ := idx_und _ _ j hj
    exact ⟨(List.getElem?_eq_some_iff.1 hn).1, n, hn, hf⟩
  · rintro ⟨_, n, hn, hf⟩
    exact leaf_idx h hn hf
theorem sum_keep {α : Type} (p : α → Bool) (f : α → Nat) : ∀ l : List α, (∀ i ∈ l, p i = false → f i = 0) → (l.map f).sum = ((l.filter p).map f).sum := by
  intro l
  induction l with
  | nil => intro _; rfl
  | cons x r ih =>
    intro h
    rw [List.filter_cons, List.map_cons, List.sum_cons, ih (fun i hi => h i (List.mem_cons_of_mem _ hi))]
    by_cases hx : p x = true
    · rw [if_pos hx, List.map_cons, List.sum_cons]
    · rw [if_neg hx, h x (List.mem_cons_self ..) (by simpa using hx), Nat.zero_add]
theorem meetS_comm (a b : Sp) : meetS a b = meetS b a := by
  unfold meetS
  rw [show max a.low b.low = max b.low a.low by omega, show min a.high b.high = min b.high a.high by omega, Bool.and_comm]
theorem meetL_comm (a b : List Sp) : meetL a b = meetL b a := by
  unfold meetL
  exact List.zipWith_comm_of_comm meetS_comm
theorem meet_within {a b : List Sp} (h : a.length = b.length) : Within (meetL a b) b := by
  refine ⟨by rw [meetL_len h]; exact h, fun i s' s hs' hs => ?_⟩
  have hi : i < a.length := by rw [h]; exact (List.getElem?_eq_some_iff.1 hs).1
  rw [meetL_at (List.getElem?_eq_getElem hi) hs] at hs'
  injection hs' with hs'
  subst hs'
  refine ⟨by simp [meetS]; omega, by simp [meetS]; omega, fun e => ?_⟩
  simp [meetS] at e
  exact e.2
theorem pairsAt_len {a b : List Nd} {n : Nat} (ha : Right a n) (hb : Right b n) (p : Nat × List Sp) (hp : p ∈ lv a a.length 0 (wideL n)) : (pairsAt a b p).length = rowHits a b n p.1 b.length := by
  have e1 : p.2 = regR a n p.1 := lv_climb ha _ p hp
  have hl : p.2.length = n := by rw [e1, regR_len]
  have hin : InWide p.2 := by rw [e1]; exact regR_in _ _ _
  have hla : isLeafB a p.1 = true := by
    have : p.1 ∈ idx a a.length 0 := by rw [← lv_idx a a.length 0 (wideL n)]; exact List.mem_map_of_mem hp
    obtain ⟨_, x, hx, hf⟩ := idx_und _ _ _ this
    exact isLeafB_t.2 ⟨x, hx, hf⟩
  have h1 : rowHits a b n p.1 b.length = ((idx b b.length 0).filter (hitR a b n p.1)).length := by
    unfold rowHits
    rw [((idx_perm hb).filter _).length_eq, List.filter_filter]
    congr 1
    refine List.filter_congr fun k _ => ?_
    unfold hitR
    cases isLeafB b k <;> simp
  rw [h1]
  have key : ∀ q ∈ lv b b.length 0 p.2, hitR a b n p.1 q.1 = meets a b p.1 q := by
    intro q hq
    have hlb : isLeafB b q.1 = true := by
      have : q.1 ∈ idx b b.length 0 := by rw [← lv_idx b b.length 0 p.2]; exact List.mem_map_of_mem hq
      obtain ⟨_, x, hx, hf⟩ := idx_und _ _ _ this
      exact isLeafB_t.2 ⟨x, hx, hf⟩
    unfold hitR meets
    rw [hla, hlb, lv_meet hb hl hin q hq, meetL_comm, e1, Bool.true_and, Bool.true_and, Bool.and_comm]
  unfold pairsAt
  by_cases hany : anyB p.2 = true
  · rw [if_pos hany, List.length_map, ← lv_idx b b.length 0 p.2, List.filter_map, List.length_map]
    congr 1
    exact List.filter_congr fun q hq => (key q hq).symm
  · rw [if_neg hany]
    symm
    rw [List.length_nil, List.length_eq_zero_iff, List.filter_eq_nil_iff]
    intro k _ hk
    unfold hitR at hk
    rw [Bool.and_eq_true] at hk
    have := any_mono (meet_within (a := regR b n k) (b := p.2) (by rw [regR_len, hl])) (by rw [meetL_comm, e1]; exact hk.2)
    exact hany this
theorem pairsL_moved {a b : List Nd} {n : Nat} (ha : Right a n) (hb : Right b n) : (pairsL a b n).length = movedR a b n := by
  unfold pairsL movedR movTo
  rw [flat_length]
  have h1 : (lv a a.length 0 (wideL n)).map (fun p => (pairsAt a b p).length) = ((lv a a.length 0 (wideL n)).map (·.1)).map (fun i => rowHits a b n i b.length) := by
    rw [List.map_map]
    exact List.map_congr_left fun p hp => pairsAt_len ha hb p hp
  rw [h1, lv_idx, sum_keep (isLeafB a) _ (List.range a.length) (fun i _ hi => by
    unfold rowHits
    rw [List.length_eq_zero_iff, List.filter_eq_nil_iff]
    intro k _ hk
    unfold hitR at hk
    rw [hi] at hk
    simp at hk)]
  exact ((idx_perm ha).map _).sum_nat

set_option maxRecDepth 100000 in
set_option maxHeartbeats 2000000 in
theorem rmoved_any (A C : Option Addr) (m d m' d' n : Nat) (a b : List Nd) (hra : Right a n) (hrb : Right b n) (w : World) (ha : NReads w w.heap.size A m a) (hb : NReads w w.heap.size C m' b) :
    Calls Tryd.prog 19 #[.slice A m d, .slice C m' d', .int .i64 n] w fun e w' => e = .returned (.int .i64 (movedR a b n)) ∧ Below w.heap.size w w' := by
  have HLa := hide ha.len
  have HLb := hide hb.len
  have hm : m ≤ 63 := by have := hra.most; have := unhide HLa; omega
  have hm' : m' ≤ 63 := by have := hrb.most; have := unhide HLb; omega
  have hn8 : n ≤ 8 := by have := hra.fe8; omega
  have HRA := hide hra
  have HRB := hide hrb
  clear hra hrb
  go_enter Tryd.func19, Tryd.ntmps19
  go_wp2_with fail
  go_loopw [7, 8] (fun v i wr => ∃ j V : Nat, j ≤ m ∧ i = .int .i64 j ∧ v = .int .i64 V ∧ Hid (V = movTo a b n j) ∧ Below w.heap.size w wr) (fun _ i _ => m - (intOf i).toNat)
  case atStart => exact ⟨0, 0, Nat.zero_le _, rfl, rfl, hide rfl, Below.refl _ _⟩
  case round =>
    obtain ⟨j, V, hj, rfl, rfl, HV, hbel⟩ := hrel
    obtain ⟨w0, hw0⟩ : ∃ w0, w0 = wr := ⟨_, rfl⟩
    subst hw0
    by_cases hlt : j < m
    · go_wp2_with fail
      go_loopw [7, 9] (fun v i wr => ∃ k X : Nat, k ≤ m' ∧ i = .int .i64 k ∧ v = .int .i64 X ∧ Hid (X = movTo a b n j + rowHits a b n j k) ∧ Below w.heap.size w wr) (fun _ i _ => m' - (intOf i).toNat)
      case atStart => exact ⟨0, V, Nat.zero_le _, rfl, rfl, hide (by rw [unhide HV]; rfl), hbel⟩
      case round =>
        clear hbel
        obtain ⟨k, X, hk, rfl, rfl, HX, hbel⟩ := hrel
        have hsz := hbel.size
        have hX : X ≤ 100000 := by
          rw [unhide HX]
          have h1 := movTo_le a b n j
          have h2 := rowHits_le a b n j k
          have h3 : j * b.length ≤ 63 * 63 := Nat.mul_le_mul (by omega) (by have := unhide HLb; omega)
          omega
        by_cases hkt : k < m'
        · have HNX := hide (rowHits_next a b n j k)
          obtain ⟨b1, o1, x, rfl, _, hx, x0, x1, x2, x3, x4, x5⟩ := (ha.below hbel).get hlt
          obtain ⟨b2, o2, y, rfl, _, hy, y0, y1, y2, y3, y4, y5⟩ := (hb.below hbel).get hkt
          have hxl : j < a.length := (List.getElem?_eq_some_iff.1 hx).1
          have hyl : k < b.length := (List.getElem?_eq_some_iff.1 hy).1
          have vx := valAt_of hx
          have vy := valAt_of hy
          by_cases hfx : x.f = -1
          · by_cases hfy : y.f = -1
            · by_cases hv : x.v = y.v
              · have HH : Hid (hitR a b n j k = false) := hide (by unfold hitR; rw [vx, vy, hv]; simp)
                have f1 : (x.f != -1) = false := by simp [hfx]
                have f2 : (y.f != -1) = false := by simp [hfy]
                have f3 : (x.v == y.v) = true := by simpa using hv
                clear hx hy vx vy hfx hfy hv hxl hyl
                go_wp2_with fail
                go_quiet (fail)
                go_wp2_with fail
                go_roundw
                case rel => exact ⟨k + 1, X, by omega, by go_num, rfl, hide (by rw [unhide HX, unhide HNX, unhide HH]; rfl), below_drewN hbel _⟩
                case measure => simp [intOf]; omega
              · have HH : Hid (hitR a b n j k = anyB (meetL (regR a n j) (regR b n k))) := hide (by unfold hitR; rw [isLeafB_t.2 ⟨x, hx, hfx⟩, isLeafB_t.2 ⟨y, hy, hfy⟩, vx, vy]; simp [hv])
                have f1 : (x.f != -1) = false := by simp [hfx]
                have f2 : (y.f != -1) = false := by simp [hfy]
                have f3 : (x.v == y.v) = false := by simpa using hv
                clear hx hy vx vy hfx hfy hv
                go_wp2_with fail
                go_quiet (fail)
                go_wp2_with fail
                have hbq := below_drewN hbel nq
                have hsq := hbq.size
                refine (rregion_any (some ⟨b1, o1, none⟩) m d n j a (unhide HRA) hxl _ ((ha.below hbq).more hsq)).mono ?_
                rintro e w1 ⟨v1, rfl, ho1, hb1⟩
                have hB1 := hbq.trans (hb1.mono hsq)
                have hs1 := hB1.size
                obtain ⟨A1, c1, rfl, hr1, _, _⟩ := own_slice ho1
                clear ho1 hb1
                go_wp2_with fail
                refine (rregion_any (some ⟨b2, o2, none⟩) m' d' n k b (unhide HRB) hyl _ ((hb.below hB1).more hs1)).mono ?_
                rintro e w2 ⟨v2, rfl, ho2, hb2⟩
                have hB2 := hB1.trans (hb2.mono hs1)
                have hs2 := hB2.size
                obtain ⟨A2, c2, rfl, hr2, _, _⟩ := own_slice ho2
                have hr1' : SReads w2 w2.heap.size A1 n (regR a n j) := (Reads.below hr1 hb2).more hb2.size
                have hr2' : SReads w2 w2.heap.size A2 n (regR b n k) := hr2
                clear ho2 hb2 hr1 hr2
                go_wp2_with fail
                refine (rmeet_any A1 A2 n c1 c2 _ _ _ _ w2 hr1' hr2' (Nat.le_refl _) (Nat.le_refl _) (by omega)).mono ?_
                rintro e w3 ⟨v3, rfl, ho3, hb3⟩
                have hB3 := hB2.trans (hb3.mono hs2)
                obtain ⟨A3, c3, rfl, hr3, _, _⟩ := own_slice ho3
                have hr3' : SReads w3 w3.heap.size A3 n (meetL (regR a n j) (regR b n k)) := hr3
                clear ho3 hb3 hr1' hr2' hr3
                go_wp2_with fail
                refine (rany_any A3 n c3 _ _ w3 hr3' (by unfold maxLen; omega)).mono ?_
                rintro e w4 ⟨rfl, q4, rfl⟩
                by_cases hany : anyB (meetL (regR a n j) (regR b n k)) = true
                · have HH2 : Hid (hitR a b n j k = true) := hide (by rw [unhide HH, hany])
                  rw [hany]
                  clear hany hr3'
                  go_wp2_with fail
                  go_roundw
                  case rel => exact ⟨k + 1, X + 1, by omega, by go_num, by go_num, hide (by rw [unhide HX, unhide HNX, unhide HH2]; rfl), below_drewN hB3 _⟩
                  case measure => simp [intOf]; omega
                · have hany' : anyB (meetL (regR a n j) (regR b n k)) = false := by simpa using hany
                  have HH2 : Hid (hitR a b n j k = false) := hide (by rw [unhide HH, hany'])
                  rw [hany']
                  clear hany hany' hr3'
                  go_wp2_with fail
                  go_roundw
                  case rel => exact ⟨k + 1, X, by omega, by go_num, rfl, hide (by rw [unhide HX, unhide HNX, unhide HH2]; rfl), below_drewN hB3 _⟩
                  case measure => simp [intOf]; omega
            · have HH : Hid (hitR a b n j k = false) := hide (by unfold hitR isLeafB; rw [hx, hy]; simp [hfy])
              have f1 : (x.f != -1) = false := by simp [hfx]
              have f2 : (y.f != -1) = true := by simpa using hfy
              clear hx hy vx vy hfx hfy hxl hyl
              go_wp2_with fail
              go_quiet (fail)
              go_wp2_with fail
              go_roundw
              case rel => exact ⟨k + 1, X, by omega, by go_num, rfl, hide (by rw [unhide HX, unhide HNX, unhide HH]; rfl), below_drewN hbel _⟩
              case measure => simp [intOf]; omega
          · have HH : Hid (hitR a b n j k = false) := hide (by unfold hitR isLeafB; rw [hx]; simp [hfx])
            have f1 : (x.f != -1) = true := by simpa using hfx
            clear hx hy vx vy hfx hxl hyl
            go_wp2_with fail
            go_quiet (fail)
            go_wp2_with fail
            go_roundw
            case rel => exact ⟨k + 1, X, by omega, by go_num, rfl, hide (by rw [unhide HX, unhide HNX, unhide HH]; rfl), below_drewN hbel _⟩
            case measure => simp [intOf]; omega
        · obtain rfl : k = m' := by omega
          have HV2 : Hid (X = movTo a b n (j + 1)) := hide (by rw [unhide HX, movTo_next, unhide HLb])
          go_wp2_with fail
          go_roundw
          case rel => exact ⟨j + 1, X, by omega, by go_num, rfl, HV2, hbel⟩
          case measure => simp [intOf]; omega
    · have HV2 : Hid (V = movedR a b n) := hide (by rw [unhide HV]; unfold movedR; rw [show a.length = j by have := unhide HLa; omega])
      go_wp2_with fail
      go_ret
      exact ⟨by rw [← unhide HV2]; rfl, hbel⟩
end Go.Proofs.YtefkjpcgcgofgaaDoor
