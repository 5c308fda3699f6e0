/- Part 20 of what LawWeighNeeds needs: RefTree2. Conditions: as each lemma names. -/
import Derived.Test.YtopncifebldklaaPkWeighNeeds19
/- The reference of tree.Check: orchref1.Tree; Ready. Conditions: a tree that reads as a list of nodes. -/
namespace Go.Proofs.Ytopncifebldklaa
set_option linter.unusedVariables false
set_option linter.unusedSimpArgs false
open Go.RowKit

def RTPost (t : List Nd) (fe : Int) (w : World) (e : Ending) (w' : World) : Prop :=
  e = .returned (.tuple #[.int .i64 ((treeC t fe).1 : Int), .int .i64 (treeC t fe).2]) ∧ Below w.heap.size w w'
theorem RTPost.mk {t : List Nd} {fe : Int} {w w' : World} {at_ : Nat} {er : Int} (h : treeC t fe = (at_, er)) (hb : Below w.heap.size w w') : RTPost t fe w (.returned (.tuple #[.int .i64 (at_ : Int), .int .i64 er])) w' := by
  refine ⟨?_, hb⟩; rw [h]

set_option maxRecDepth 100000 in
set_option maxHeartbeats 16000000 in
theorem rtree_any (A : Option Addr) (m d : Nat) (fe : Int) (t : List Nd) (w : World) (ht : NReads w w.heap.size A m t) (hm : m ≤ maxLen) :
    Calls Try.prog 25 #[.slice A m d, .int .i64 fe] w (RTPost t fe w) := by
  have hlen := ht.len
  by_cases c1 : 63 < m
  · have HE : Hid (treeC t fe = (0, 4)) := hide (by unfold treeC; rw [if_pos (by omega)])
    clear hlen
    unfold maxLen at hm
    go_enter Try.func25, Try.ntmps25
    go_wp2_with fail
    go_ret2
    exact RTPost.mk (unhide HE) (Below.refl _ _)
  by_cases c2 : m = 0
  · have HE : Hid (treeC t fe = (0, 5)) := hide (by unfold treeC; rw [if_neg (by omega), if_pos (by omega)])
    clear hlen
    subst c2
    go_enter Try.func25, Try.ntmps25
    go_wp2_with fail
    go_ret2
    exact RTPost.mk (unhide HE) (Below.refl _ _)
  have q2 : ((m : Int) == 0) = false := by simp; omega
  by_cases c3 : fe < 0
  · have HE : Hid (treeC t fe = (0, 1)) := hide (by unfold treeC; rw [if_neg (by omega), if_neg (by omega), if_pos c3])
    clear hlen c2
    go_enter Try.func25, Try.ntmps25
    go_wp2_with fail
    go_ret2
    exact RTPost.mk (unhide HE) (Below.refl _ _)
  by_cases c4 : 8 < fe
  · have HE : Hid (treeC t fe = (0, 1)) := hide (by unfold treeC; rw [if_neg (by omega), if_neg (by omega), if_neg c3, if_pos c4])
    clear hlen c2
    go_enter Try.func25, Try.ntmps25
    go_wp2_with fail
    go_ret2
    exact RTPost.mk (unhide HE) (Below.refl _ _)
  have HL := hide hlen
  have HT : Hid (treeC t fe = if (badAt m fe 0 t).2 = 0 then (if (clashAt t 0 m).2 = 0 then (if 10 < dep t 0 then (0, 4) else (0, 0)) else clashAt t 0 m) else badAt m fe 0 t) := hide (by
    unfold treeC; rw [if_neg (by omega), if_neg (by omega), if_neg c3, if_neg c4, hlen])
  clear hlen
  have hm0 : 0 < m := by omega
  have hm63 : m ≤ 63 := by omega
  clear c1 c2 hm
  go_enter Try.func25, Try.ntmps25
  go_wp2_with fail
  go_loopw [6] (fun i wr => ∃ k : Nat, k ≤ m ∧ i = .int .i64 k ∧ Hid (badAt m fe k (t.drop k) = badAt m fe 0 t) ∧ Below w.heap.size w wr) (fun i _ => m - (intOf i).toNat)
  case atStart => exact ⟨0, Nat.zero_le _, rfl, hide (by simp), Below.refl _ _⟩
  case round =>
    obtain ⟨k, hk, rfl, HG, hbel⟩ := hrel
    have hsz := hbel.size
    by_cases hlt : k < m
    · obtain ⟨b, o, n, rfl, hbb, hn, g0, g1, g2, g3, g4, g5⟩ := (ht.below hbel).get hlt
      have HN := hide hn
      have hbel2 := hbel.alloc hsz (.cells #[.int .i64 n.f, .int .i64 n.c, .int .i64 n.l, .int .i64 n.r, .bool n.less, .int .i64 n.v] 29)
      have HSTOP : Hid (nodeE m k fe n ≠ 0 → treeC t fe = (k, nodeE m k fe n)) := hide (fun he => by rw [unhide HT, badAt_stop hn he (unhide HG), if_neg he])
      have HSTEP : Hid (nodeE m k fe n = 0 → badAt m fe (k + 1) (t.drop (k + 1)) = badAt m fe 0 t) := hide (fun he => badAt_step hn he (unhide HG))
      obtain ⟨f, c, l, r, less, v⟩ := n
      simp only at g0 g1 g2 g3 g4 g5 hbel2
      have e0 := cell_alloc g0 (by have := hsz; dsimp only; omega)
      have e1 := cell_alloc g1 (by have := hsz; dsimp only; omega)
      have e2 := cell_alloc g2 (by have := hsz; dsimp only; omega)
      have e3 := cell_alloc g3 (by have := hsz; dsimp only; omega)
      have e4 := cell_alloc g4 (by have := hsz; dsimp only; omega)
      have e5 := cell_alloc g5 (by have := hsz; dsimp only; omega)
      clear hn HN
      by_cases hcv : cellB v = true
      · by_cases hcc : cellB c = true
        · have kv := cellB_t.1 hcv
          have kc := cellB_t.1 hcc
          have HCV := hide hcv
          have HCC := hide hcc
          clear hcv hcc
          have z0 : ¬ v < -1000000 := by omega
          have z1 : ¬ 1000000 < v := by omega
          have y0 : ¬ c < -1000000 := by omega
          have y1 : ¬ 1000000 < c := by omega
          by_cases hf : f = -1
          · subst hf
            by_cases q1 : c = 0
            case neg =>
              have hb : (c == 0) = false := by simpa using q1
              have hH := hide q1
              clear q1
              have HE : Hid (treeC t fe = (k, 3)) := hide (by
                have hz : nodeE m k fe ⟨-1, c, l, r, less, v⟩ = 3 := by have hh := unhide hH; simp [nodeE, z0, z1, hh]
                have := unhide HSTOP (by rw [hz]; decide)
                rwa [hz] at this)
              go_wp2_with fail
              refine (rcell_any _ _).mono ?_; rintro e w1 ⟨rfl, rfl⟩; rw [unhide HCV]
              go_wp2_with fail
              refine (rcell_any _ _).mono ?_; rintro e w1 ⟨rfl, rfl⟩; rw [unhide HCC]
              go_wp2_with fail
              go_ret2
              exact RTPost.mk (unhide HE) hbel2
            subst q1
            by_cases q2 : l = 0
            case neg =>
              have hb : (l == 0) = false := by simpa using q2
              have hH := hide q2
              clear q2
              have HE : Hid (treeC t fe = (k, 3)) := hide (by
                have hz : nodeE m k fe ⟨-1, 0, l, r, less, v⟩ = 3 := by have hh := unhide hH; simp [nodeE, z0, z1, hh]
                have := unhide HSTOP (by rw [hz]; decide)
                rwa [hz] at this)
              go_wp2_with fail
              refine (rcell_any _ _).mono ?_; rintro e w1 ⟨rfl, rfl⟩; rw [unhide HCV]
              go_wp2_with fail
              refine (rcell_any _ _).mono ?_; rintro e w1 ⟨rfl, rfl⟩; rw [unhide HCC]
              go_wp2_with fail
              go_ret2
              exact RTPost.mk (unhide HE) hbel2
            subst q2
            by_cases q3 : r = 0
            case neg =>
              have hb : (r == 0) = false := by simpa using q3
              have hH := hide q3
              clear q3
              have HE : Hid (treeC t fe = (k, 3)) := hide (by
                have hz : nodeE m k fe ⟨-1, 0, 0, r, less, v⟩ = 3 := by have hh := unhide hH; simp [nodeE, z0, z1, hh]
                have := unhide HSTOP (by rw [hz]; decide)
                rwa [hz] at this)
              go_wp2_with fail
              refine (rcell_any _ _).mono ?_; rintro e w1 ⟨rfl, rfl⟩; rw [unhide HCV]
              go_wp2_with fail
              refine (rcell_any _ _).mono ?_; rintro e w1 ⟨rfl, rfl⟩; rw [unhide HCC]
              go_wp2_with fail
              go_ret2
              exact RTPost.mk (unhide HE) hbel2
            subst q3
            cases less
            · have HS2 : Hid (badAt m fe (k + 1) (t.drop (k + 1)) = badAt m fe 0 t) := hide (unhide HSTEP (by simp [nodeE, z0, z1]))
              go_wp2_with fail
              refine (rcell_any _ _).mono ?_; rintro e w1 ⟨rfl, rfl⟩; rw [unhide HCV]
              go_wp2_with fail
              refine (rcell_any _ _).mono ?_; rintro e w1 ⟨rfl, rfl⟩; rw [unhide HCC]
              go_wp2_with fail
              go_roundw
              case rel => exact ⟨k + 1, by omega, by go_num, HS2, hbel2⟩
              case measure => simp [intOf] <;> omega
            · have HE : Hid (treeC t fe = (k, 3)) := hide (by
                have hz : nodeE m k fe ⟨-1, 0, 0, 0, true, v⟩ = 3 := by simp [nodeE, z0, z1]
                have := unhide HSTOP (by rw [hz]; decide)
                rwa [hz] at this)
              go_wp2_with fail
              refine (rcell_any _ _).mono ?_; rintro e w1 ⟨rfl, rfl⟩; rw [unhide HCV]
              go_wp2_with fail
              refine (rcell_any _ _).mono ?_; rintro e w1 ⟨rfl, rfl⟩; rw [unhide HCC]
              go_wp2_with fail
              go_ret2
              exact RTPost.mk (unhide HE) hbel2
          · have hfb : (f == -1) = false := by simpa using hf
            have HF := hide hf
            clear hf
            by_cases k0 : f < 0
            · have dk0 : decide (f < 0) = true := decide_eq_true k0
              have HE : Hid (treeC t fe = (k, 1)) := hide (by
                have hz : nodeE m k fe ⟨f, c, l, r, less, v⟩ = 1 := by have hf := unhide HF; simp [nodeE, hf, k0]
                have := unhide HSTOP (by rw [hz]; decide)
                rwa [hz] at this)
              go_wp2_with fail
              refine (rcell_any _ _).mono ?_; rintro e w1 ⟨rfl, rfl⟩; rw [unhide HCV]
              go_wp2_with fail
              refine (rcell_any _ _).mono ?_; rintro e w1 ⟨rfl, rfl⟩; rw [unhide HCC]
              go_wp2_with fail
              go_ret2
              exact RTPost.mk (unhide HE) hbel2
            have dk0 : decide (f < 0) = false := decide_eq_false k0
            by_cases k1 : fe ≤ f
            · have dk1 : decide (fe ≤ f) = true := decide_eq_true k1
              have HE : Hid (treeC t fe = (k, 1)) := hide (by
                have hz : nodeE m k fe ⟨f, c, l, r, less, v⟩ = 1 := by have hf := unhide HF; simp [nodeE, hf, k0, k1]
                have := unhide HSTOP (by rw [hz]; decide)
                rwa [hz] at this)
              go_wp2_with fail
              refine (rcell_any _ _).mono ?_; rintro e w1 ⟨rfl, rfl⟩; rw [unhide HCV]
              go_wp2_with fail
              refine (rcell_any _ _).mono ?_; rintro e w1 ⟨rfl, rfl⟩; rw [unhide HCC]
              go_wp2_with fail
              go_ret2
              exact RTPost.mk (unhide HE) hbel2
            have dk1 : decide (fe ≤ f) = false := decide_eq_false k1
            by_cases k2 : l ≤ (k : Int)
            · have dk2 : decide (l ≤ (k : Int)) = true := decide_eq_true k2
              have HE : Hid (treeC t fe = (k, 1)) := hide (by
                have hz : nodeE m k fe ⟨f, c, l, r, less, v⟩ = 1 := by have hf := unhide HF; simp [nodeE, hf, k0, k1, y0, y1, k2]
                have := unhide HSTOP (by rw [hz]; decide)
                rwa [hz] at this)
              go_wp2_with fail
              refine (rcell_any _ _).mono ?_; rintro e w1 ⟨rfl, rfl⟩; rw [unhide HCV]
              go_wp2_with fail
              refine (rcell_any _ _).mono ?_; rintro e w1 ⟨rfl, rfl⟩; rw [unhide HCC]
              go_wp2_with fail
              go_ret2
              exact RTPost.mk (unhide HE) hbel2
            have dk2 : decide (l ≤ (k : Int)) = false := decide_eq_false k2
            by_cases k3 : (m : Int) ≤ l
            · have dk3 : decide ((m : Int) ≤ l) = true := decide_eq_true k3
              have HE : Hid (treeC t fe = (k, 1)) := hide (by
                have hz : nodeE m k fe ⟨f, c, l, r, less, v⟩ = 1 := by have hf := unhide HF; simp [nodeE, hf, k0, k1, y0, y1, k2, k3]
                have := unhide HSTOP (by rw [hz]; decide)
                rwa [hz] at this)
              go_wp2_with fail
              refine (rcell_any _ _).mono ?_; rintro e w1 ⟨rfl, rfl⟩; rw [unhide HCV]
              go_wp2_with fail
              refine (rcell_any _ _).mono ?_; rintro e w1 ⟨rfl, rfl⟩; rw [unhide HCC]
              go_wp2_with fail
              go_ret2
              exact RTPost.mk (unhide HE) hbel2
            have dk3 : decide ((m : Int) ≤ l) = false := decide_eq_false k3
            by_cases k4 : r ≤ (k : Int)
            · have dk4 : decide (r ≤ (k : Int)) = true := decide_eq_true k4
              have HE : Hid (treeC t fe = (k, 1)) := hide (by
                have hz : nodeE m k fe ⟨f, c, l, r, less, v⟩ = 1 := by have hf := unhide HF; simp [nodeE, hf, k0, k1, y0, y1, k2, k3, k4]
                have := unhide HSTOP (by rw [hz]; decide)
                rwa [hz] at this)
              go_wp2_with fail
              refine (rcell_any _ _).mono ?_; rintro e w1 ⟨rfl, rfl⟩; rw [unhide HCV]
              go_wp2_with fail
              refine (rcell_any _ _).mono ?_; rintro e w1 ⟨rfl, rfl⟩; rw [unhide HCC]
              go_wp2_with fail
              go_ret2
              exact RTPost.mk (unhide HE) hbel2
            have dk4 : decide (r ≤ (k : Int)) = false := decide_eq_false k4
            by_cases k5 : (m : Int) ≤ r
            · have dk5 : decide ((m : Int) ≤ r) = true := decide_eq_true k5
              have HE : Hid (treeC t fe = (k, 1)) := hide (by
                have hz : nodeE m k fe ⟨f, c, l, r, less, v⟩ = 1 := by have hf := unhide HF; simp [nodeE, hf, k0, k1, y0, y1, k2, k3, k4, k5]
                have := unhide HSTOP (by rw [hz]; decide)
                rwa [hz] at this)
              go_wp2_with fail
              refine (rcell_any _ _).mono ?_; rintro e w1 ⟨rfl, rfl⟩; rw [unhide HCV]
              go_wp2_with fail
              refine (rcell_any _ _).mono ?_; rintro e w1 ⟨rfl, rfl⟩; rw [unhide HCC]
              go_wp2_with fail
              go_ret2
              exact RTPost.mk (unhide HE) hbel2
            have dk5 : decide ((m : Int) ≤ r) = false := decide_eq_false k5
            by_cases k6 : v = 0
            case neg =>
              have hb : (v == 0) = false := by simpa using k6
              have hK := hide k6
              clear k6
              have HE : Hid (treeC t fe = (k, 3)) := hide (by
                have hz : nodeE m k fe ⟨f, c, l, r, less, v⟩ = 3 := by have hf := unhide HF; have k6 := unhide hK; simp [nodeE, hf, k0, k1, y0, y1, k2, k3, k4, k5, k6]
                have := unhide HSTOP (by rw [hz]; decide)
                rwa [hz] at this)
              go_wp2_with fail
              refine (rcell_any _ _).mono ?_; rintro e w1 ⟨rfl, rfl⟩; rw [unhide HCV]
              go_wp2_with fail
              refine (rcell_any _ _).mono ?_; rintro e w1 ⟨rfl, rfl⟩; rw [unhide HCC]
              go_wp2_with fail
              go_ret2
              exact RTPost.mk (unhide HE) hbel2
            subst k6
            by_cases k7 : l = r
            · have hb : (l == r) = true := by simpa using k7
              have hK := hide k7
              clear k7
              have HE : Hid (treeC t fe = (k, 3)) := hide (by
                have hz : nodeE m k fe ⟨f, c, l, r, less, 0⟩ = 3 := by have hf := unhide HF; have k7 := unhide hK; simp [nodeE, hf, k0, k1, y0, y1, k2, k3, k4, k5, k7]
                have := unhide HSTOP (by rw [hz]; decide)
                rwa [hz] at this)
              go_wp2_with fail
              refine (rcell_any _ _).mono ?_; rintro e w1 ⟨rfl, rfl⟩; rw [unhide HCV]
              go_wp2_with fail
              refine (rcell_any _ _).mono ?_; rintro e w1 ⟨rfl, rfl⟩; rw [unhide HCC]
              go_wp2_with fail
              go_ret2
              exact RTPost.mk (unhide HE) hbel2
            · have hb : (l == r) = false := by simpa using k7
              have hK := hide k7
              clear k7
              have HS2 : Hid (badAt m fe (k + 1) (t.drop (k + 1)) = badAt m fe 0 t) := hide (unhide HSTEP (by have hf := unhide HF; have k7 := unhide hK; simp [nodeE, hf, k0, k1, y0, y1, k2, k3, k4, k5, k7]))
              go_wp2_with fail
              refine (rcell_any _ _).mono ?_; rintro e w1 ⟨rfl, rfl⟩; rw [unhide HCV]
              go_wp2_with fail
              refine (rcell_any _ _).mono ?_; rintro e w1 ⟨rfl, rfl⟩; rw [unhide HCC]
              go_wp2_with fail
              go_roundw
              case rel => exact ⟨k + 1, by omega, by go_num, HS2, hbel2⟩
              case measure => simp [intOf] <;> omega
        · rw [Bool.not_eq_true] at hcc
          have kv := cellB_t.1 hcv
          have kc := cellB_f.1 hcc
          have HCV := hide hcv
          have HCC := hide hcc
          clear hcv hcc
          have z0 : ¬ v < -1000000 := by omega
          have z1 : ¬ 1000000 < v := by omega
          by_cases hf : f = -1
          · subst hf
            by_cases q1 : c = 0
            case neg =>
              have hb : (c == 0) = false := by simpa using q1
              have hH := hide q1
              clear q1
              have HE : Hid (treeC t fe = (k, 3)) := hide (by
                have hz : nodeE m k fe ⟨-1, c, l, r, less, v⟩ = 3 := by have hh := unhide hH; simp [nodeE, z0, z1, hh]
                have := unhide HSTOP (by rw [hz]; decide)
                rwa [hz] at this)
              go_wp2_with fail
              refine (rcell_any _ _).mono ?_; rintro e w1 ⟨rfl, rfl⟩; rw [unhide HCV]
              go_wp2_with fail
              refine (rcell_any _ _).mono ?_; rintro e w1 ⟨rfl, rfl⟩; rw [unhide HCC]
              go_wp2_with fail
              go_ret2
              exact RTPost.mk (unhide HE) hbel2
            exfalso; omega
          · have hfb : (f == -1) = false := by simpa using hf
            have HF := hide hf
            clear hf
            by_cases k0 : f < 0
            · have dk0 : decide (f < 0) = true := decide_eq_true k0
              have HE : Hid (treeC t fe = (k, 1)) := hide (by
                have hz : nodeE m k fe ⟨f, c, l, r, less, v⟩ = 1 := by have hf := unhide HF; simp [nodeE, hf, k0]
                have := unhide HSTOP (by rw [hz]; decide)
                rwa [hz] at this)
              go_wp2_with fail
              refine (rcell_any _ _).mono ?_; rintro e w1 ⟨rfl, rfl⟩; rw [unhide HCV]
              go_wp2_with fail
              refine (rcell_any _ _).mono ?_; rintro e w1 ⟨rfl, rfl⟩; rw [unhide HCC]
              go_wp2_with fail
              go_ret2
              exact RTPost.mk (unhide HE) hbel2
            have dk0 : decide (f < 0) = false := decide_eq_false k0
            by_cases k1 : fe ≤ f
            · have dk1 : decide (fe ≤ f) = true := decide_eq_true k1
              have HE : Hid (treeC t fe = (k, 1)) := hide (by
                have hz : nodeE m k fe ⟨f, c, l, r, less, v⟩ = 1 := by have hf := unhide HF; simp [nodeE, hf, k0, k1]
                have := unhide HSTOP (by rw [hz]; decide)
                rwa [hz] at this)
              go_wp2_with fail
              refine (rcell_any _ _).mono ?_; rintro e w1 ⟨rfl, rfl⟩; rw [unhide HCV]
              go_wp2_with fail
              refine (rcell_any _ _).mono ?_; rintro e w1 ⟨rfl, rfl⟩; rw [unhide HCC]
              go_wp2_with fail
              go_ret2
              exact RTPost.mk (unhide HE) hbel2
            have dk1 : decide (fe ≤ f) = false := decide_eq_false k1
            have HE : Hid (treeC t fe = (k, 1)) := hide (by
              have hz : nodeE m k fe ⟨f, c, l, r, less, v⟩ = 1 := by have hf := unhide HF; rcases kc with kc | kc <;> simp [nodeE, hf, k0, k1, kc]
              have := unhide HSTOP (by rw [hz]; decide)
              rwa [hz] at this)
            go_wp2_with fail
            refine (rcell_any _ _).mono ?_; rintro e w1 ⟨rfl, rfl⟩; rw [unhide HCV]
            go_wp2_with fail
            refine (rcell_any _ _).mono ?_; rintro e w1 ⟨rfl, rfl⟩; rw [unhide HCC]
            go_wp2_with fail
            go_ret2
            exact RTPost.mk (unhide HE) hbel2
      · rw [Bool.not_eq_true] at hcv
        by_cases hcc : cellB c = true
        · have kv := cellB_f.1 hcv
          have kc := cellB_t.1 hcc
          have HCV := hide hcv
          have HCC := hide hcc
          clear hcv hcc
          have y0 : ¬ c < -1000000 := by omega
          have y1 : ¬ 1000000 < c := by omega
          by_cases hf : f = -1
          · subst hf
            have HE : Hid (treeC t fe = (k, 1)) := hide (by
              have hz : nodeE m k fe ⟨-1, c, l, r, less, v⟩ = 1 := by rcases kv with kv | kv <;> simp [nodeE, kv]
              have := unhide HSTOP (by rw [hz]; decide)
              rwa [hz] at this)
            go_wp2_with fail
            refine (rcell_any _ _).mono ?_; rintro e w1 ⟨rfl, rfl⟩; rw [unhide HCV]
            go_wp2_with fail
            refine (rcell_any _ _).mono ?_; rintro e w1 ⟨rfl, rfl⟩; rw [unhide HCC]
            go_wp2_with fail
            go_ret2
            exact RTPost.mk (unhide HE) hbel2
          · have hfb : (f == -1) = false := by simpa using hf
            have HF := hide hf
            clear hf
            by_cases k0 : f < 0
            · have dk0 : decide (f < 0) = true := decide_eq_true k0
              have HE : Hid (treeC t fe = (k, 1)) := hide (by
                have hz : nodeE m k fe ⟨f, c, l, r, less, v⟩ = 1 := by have hf := unhide HF; simp [nodeE, hf, k0]
                have := unhide HSTOP (by rw [hz]; decide)
                rwa [hz] at this)
              go_wp2_with fail
              refine (rcell_any _ _).mono ?_; rintro e w1 ⟨rfl, rfl⟩; rw [unhide HCV]
              go_wp2_with fail
              refine (rcell_any _ _).mono ?_; rintro e w1 ⟨rfl, rfl⟩; rw [unhide HCC]
              go_wp2_with fail
              go_ret2
              exact RTPost.mk (unhide HE) hbel2
            have dk0 : decide (f < 0) = false := decide_eq_false k0
            by_cases k1 : fe ≤ f
            · have dk1 : decide (fe ≤ f) = true := decide_eq_true k1
              have HE : Hid (treeC t fe = (k, 1)) := hide (by
                have hz : nodeE m k fe ⟨f, c, l, r, less, v⟩ = 1 := by have hf := unhide HF; simp [nodeE, hf, k0, k1]
                have := unhide HSTOP (by rw [hz]; decide)
                rwa [hz] at this)
              go_wp2_with fail
              refine (rcell_any _ _).mono ?_; rintro e w1 ⟨rfl, rfl⟩; rw [unhide HCV]
              go_wp2_with fail
              refine (rcell_any _ _).mono ?_; rintro e w1 ⟨rfl, rfl⟩; rw [unhide HCC]
              go_wp2_with fail
              go_ret2
              exact RTPost.mk (unhide HE) hbel2
            have dk1 : decide (fe ≤ f) = false := decide_eq_false k1
            by_cases k2 : l ≤ (k : Int)
            · have dk2 : decide (l ≤ (k : Int)) = true := decide_eq_true k2
              have HE : Hid (treeC t fe = (k, 1)) := hide (by
                have hz : nodeE m k fe ⟨f, c, l, r, less, v⟩ = 1 := by have hf := unhide HF; simp [nodeE, hf, k0, k1, y0, y1, k2]
                have := unhide HSTOP (by rw [hz]; decide)
                rwa [hz] at this)
              go_wp2_with fail
              refine (rcell_any _ _).mono ?_; rintro e w1 ⟨rfl, rfl⟩; rw [unhide HCV]
              go_wp2_with fail
              refine (rcell_any _ _).mono ?_; rintro e w1 ⟨rfl, rfl⟩; rw [unhide HCC]
              go_wp2_with fail
              go_ret2
              exact RTPost.mk (unhide HE) hbel2
            have dk2 : decide (l ≤ (k : Int)) = false := decide_eq_false k2
            by_cases k3 : (m : Int) ≤ l
            · have dk3 : decide ((m : Int) ≤ l) = true := decide_eq_true k3
              have HE : Hid (treeC t fe = (k, 1)) := hide (by
                have hz : nodeE m k fe ⟨f, c, l, r, less, v⟩ = 1 := by have hf := unhide HF; simp [nodeE, hf, k0, k1, y0, y1, k2, k3]
                have := unhide HSTOP (by rw [hz]; decide)
                rwa [hz] at this)
              go_wp2_with fail
              refine (rcell_any _ _).mono ?_; rintro e w1 ⟨rfl, rfl⟩; rw [unhide HCV]
              go_wp2_with fail
              refine (rcell_any _ _).mono ?_; rintro e w1 ⟨rfl, rfl⟩; rw [unhide HCC]
              go_wp2_with fail
              go_ret2
              exact RTPost.mk (unhide HE) hbel2
            have dk3 : decide ((m : Int) ≤ l) = false := decide_eq_false k3
            by_cases k4 : r ≤ (k : Int)
            · have dk4 : decide (r ≤ (k : Int)) = true := decide_eq_true k4
              have HE : Hid (treeC t fe = (k, 1)) := hide (by
                have hz : nodeE m k fe ⟨f, c, l, r, less, v⟩ = 1 := by have hf := unhide HF; simp [nodeE, hf, k0, k1, y0, y1, k2, k3, k4]
                have := unhide HSTOP (by rw [hz]; decide)
                rwa [hz] at this)
              go_wp2_with fail
              refine (rcell_any _ _).mono ?_; rintro e w1 ⟨rfl, rfl⟩; rw [unhide HCV]
              go_wp2_with fail
              refine (rcell_any _ _).mono ?_; rintro e w1 ⟨rfl, rfl⟩; rw [unhide HCC]
              go_wp2_with fail
              go_ret2
              exact RTPost.mk (unhide HE) hbel2
            have dk4 : decide (r ≤ (k : Int)) = false := decide_eq_false k4
            by_cases k5 : (m : Int) ≤ r
            · have dk5 : decide ((m : Int) ≤ r) = true := decide_eq_true k5
              have HE : Hid (treeC t fe = (k, 1)) := hide (by
                have hz : nodeE m k fe ⟨f, c, l, r, less, v⟩ = 1 := by have hf := unhide HF; simp [nodeE, hf, k0, k1, y0, y1, k2, k3, k4, k5]
                have := unhide HSTOP (by rw [hz]; decide)
                rwa [hz] at this)
              go_wp2_with fail
              refine (rcell_any _ _).mono ?_; rintro e w1 ⟨rfl, rfl⟩; rw [unhide HCV]
              go_wp2_with fail
              refine (rcell_any _ _).mono ?_; rintro e w1 ⟨rfl, rfl⟩; rw [unhide HCC]
              go_wp2_with fail
              go_ret2
              exact RTPost.mk (unhide HE) hbel2
            have dk5 : decide ((m : Int) ≤ r) = false := decide_eq_false k5
            by_cases k6 : v = 0
            case neg =>
              have hb : (v == 0) = false := by simpa using k6
              have hK := hide k6
              clear k6
              have HE : Hid (treeC t fe = (k, 3)) := hide (by
                have hz : nodeE m k fe ⟨f, c, l, r, less, v⟩ = 3 := by have hf := unhide HF; have k6 := unhide hK; simp [nodeE, hf, k0, k1, y0, y1, k2, k3, k4, k5, k6]
                have := unhide HSTOP (by rw [hz]; decide)
                rwa [hz] at this)
              go_wp2_with fail
              refine (rcell_any _ _).mono ?_; rintro e w1 ⟨rfl, rfl⟩; rw [unhide HCV]
              go_wp2_with fail
              refine (rcell_any _ _).mono ?_; rintro e w1 ⟨rfl, rfl⟩; rw [unhide HCC]
              go_wp2_with fail
              go_ret2
              exact RTPost.mk (unhide HE) hbel2
            exfalso; omega
        · rw [Bool.not_eq_true] at hcc
          have kv := cellB_f.1 hcv
          have kc := cellB_f.1 hcc
          have HCV := hide hcv
          have HCC := hide hcc
          clear hcv hcc
          by_cases hf : f = -1
          · subst hf
            have HE : Hid (treeC t fe = (k, 1)) := hide (by
              have hz : nodeE m k fe ⟨-1, c, l, r, less, v⟩ = 1 := by rcases kv with kv | kv <;> simp [nodeE, kv]
              have := unhide HSTOP (by rw [hz]; decide)
              rwa [hz] at this)
            go_wp2_with fail
            refine (rcell_any _ _).mono ?_; rintro e w1 ⟨rfl, rfl⟩; rw [unhide HCV]
            go_wp2_with fail
            refine (rcell_any _ _).mono ?_; rintro e w1 ⟨rfl, rfl⟩; rw [unhide HCC]
            go_wp2_with fail
            go_ret2
            exact RTPost.mk (unhide HE) hbel2
          · have hfb : (f == -1) = false := by simpa using hf
            have HF := hide hf
            clear hf
            by_cases k0 : f < 0
            · have dk0 : decide (f < 0) = true := decide_eq_true k0
              have HE : Hid (treeC t fe = (k, 1)) := hide (by
                have hz : nodeE m k fe ⟨f, c, l, r, less, v⟩ = 1 := by have hf := unhide HF; simp [nodeE, hf, k0]
                have := unhide HSTOP (by rw [hz]; decide)
                rwa [hz] at this)
              go_wp2_with fail
              refine (rcell_any _ _).mono ?_; rintro e w1 ⟨rfl, rfl⟩; rw [unhide HCV]
              go_wp2_with fail
              refine (rcell_any _ _).mono ?_; rintro e w1 ⟨rfl, rfl⟩; rw [unhide HCC]
              go_wp2_with fail
              go_ret2
              exact RTPost.mk (unhide HE) hbel2
            have dk0 : decide (f < 0) = false := decide_eq_false k0
            by_cases k1 : fe ≤ f
            · have dk1 : decide (fe ≤ f) = true := decide_eq_true k1
              have HE : Hid (treeC t fe = (k, 1)) := hide (by
                have hz : nodeE m k fe ⟨f, c, l, r, less, v⟩ = 1 := by have hf := unhide HF; simp [nodeE, hf, k0, k1]
                have := unhide HSTOP (by rw [hz]; decide)
                rwa [hz] at this)
              go_wp2_with fail
              refine (rcell_any _ _).mono ?_; rintro e w1 ⟨rfl, rfl⟩; rw [unhide HCV]
              go_wp2_with fail
              refine (rcell_any _ _).mono ?_; rintro e w1 ⟨rfl, rfl⟩; rw [unhide HCC]
              go_wp2_with fail
              go_ret2
              exact RTPost.mk (unhide HE) hbel2
            have dk1 : decide (fe ≤ f) = false := decide_eq_false k1
            have HE : Hid (treeC t fe = (k, 1)) := hide (by
              have hz : nodeE m k fe ⟨f, c, l, r, less, v⟩ = 1 := by have hf := unhide HF; rcases kc with kc | kc <;> simp [nodeE, hf, k0, k1, kc]
              have := unhide HSTOP (by rw [hz]; decide)
              rwa [hz] at this)
            go_wp2_with fail
            refine (rcell_any _ _).mono ?_; rintro e w1 ⟨rfl, rfl⟩; rw [unhide HCV]
            go_wp2_with fail
            refine (rcell_any _ _).mono ?_; rintro e w1 ⟨rfl, rfl⟩; rw [unhide HCC]
            go_wp2_with fail
            go_ret2
            exact RTPost.mk (unhide HE) hbel2
    · obtain rfl : k = m := by omega
      have hG0 : (badAt k fe 0 t).2 = 0 := by
        rw [← unhide HG, List.drop_of_length_le (by have := unhide HL; omega)]; rfl
      have HT2 : Hid (treeC t fe = if (clashAt t 0 k).2 = 0 then (if 10 < dep t 0 then (0, 4) else (0, 0)) else clashAt t 0 k) := hide (by rw [unhide HT, if_pos hG0])
      have HB : Hid (Behind t) := hide (by
        intro i n hi hf
        have := badAt_none t 0 hG0 i n hi
        rw [Nat.zero_add] at this
        rcases node_of this with h1 | h1
        · exact absurd h1.1 hf
        · have := unhide HL
          exact ⟨h1.2.2.2.2.1, by omega, h1.2.2.2.2.2.2.1, by omega⟩)
      have HC1 : Hid (clashAt t 1 (k - 1) = clashAt t 0 k) := hide (by
        rw [show k = (k - 1) + 1 by omega, clashAt, if_neg (by omega)]; rfl)
      clear hG0 HT HG
      have htr := ht.below hbel
      go_wp2_with fail
      go_loop [10] (fun i => ∃ j : Nat, 1 ≤ j ∧ j ≤ k ∧ i = .int .i64 j ∧ Hid (clashAt t j (k - j) = clashAt t 0 k)) (fun i => k - (intOf i).toNat)
      case atStart => exact ⟨1, Nat.le_refl _, by omega, rfl, HC1⟩
      case round =>
        obtain ⟨j, hj1, hj, rfl, HC⟩ := hrel
        by_cases hjl : j < k
        · have hst := unhide HC
          rw [show k - j = (k - (j + 1)) + 1 by omega, clashAt] at hst
          have HST := hide hst
          clear hst
          go_wp2_with fail
          go_loop [11, 12] (fun s i => ∃ q : Nat, q ≤ k ∧ i = .int .i64 q ∧ s = .int .i64 (ups (t.take q) j : Nat)) (fun _ i => k - (intOf i).toNat)
          case atStart => exact ⟨0, Nat.zero_le _, rfl, by simp [ups]⟩
          case round =>
            obtain ⟨q, hq, rfl, rfl⟩ := hrel
            by_cases hqk : q < k
            · obtain ⟨b, o, n, rfl, hbb, hn, g0, g1, g2, g3, g4, g5⟩ := htr.get hqk
              have hup : ups (t.take (q + 1)) j = ups (t.take q) j + kid n j := by rw [take_next hn, ups_append]
              have hub := ups_le (t.take q) j
              have hub2 : (t.take q).length ≤ q := List.length_take_le _ _
              generalize ups (t.take q) j = u at *
              have HU := hide hup
              clear hup hn
              obtain ⟨f, c, l, r, less, v⟩ := n
              simp only at g0 g1 g2 g3 g4 g5
              by_cases hf : f = -1
              · have HK : Hid (ups (t.take (q + 1)) j = u) := hide (by rw [unhide HU]; simp [kid, hf])
                subst hf
                go_wp2_with fail
                go_round
                case rel => exact ⟨q + 1, by omega, by go_num, by rw [unhide HK]⟩
                case measure => simp [intOf] <;> omega
              · have hfb : (f == -1) = false := by simpa using hf
                by_cases hl : l = j
                · have lb : (l == (j : Int)) = true := by simpa using hl
                  by_cases hr : r = j
                  · have rb : (r == (j : Int)) = true := by simpa using hr
                    have HK : Hid (ups (t.take (q + 1)) j = u + 1 + 1) := hide (by rw [unhide HU]; simp [kid, hf, hl, hr])
                    clear hf hl hr
                    go_wp2_with fail
                    go_round
                    case rel => exact ⟨q + 1, by omega, by go_num, by rw [unhide HK]; go_num⟩
                    case measure => simp [intOf] <;> omega
                  · have rb : (r == (j : Int)) = false := by simpa using hr
                    have HK : Hid (ups (t.take (q + 1)) j = u + 1) := hide (by rw [unhide HU]; simp [kid, hf, hl, hr])
                    clear hf hl hr
                    go_wp2_with fail
                    go_round
                    case rel => exact ⟨q + 1, by omega, by go_num, by rw [unhide HK]; go_num⟩
                    case measure => simp [intOf] <;> omega
                · have lb : (l == (j : Int)) = false := by simpa using hl
                  by_cases hr : r = j
                  · have rb : (r == (j : Int)) = true := by simpa using hr
                    have HK : Hid (ups (t.take (q + 1)) j = u + 1) := hide (by rw [unhide HU]; simp [kid, hf, hl, hr])
                    clear hf hl hr
                    go_wp2_with fail
                    go_round
                    case rel => exact ⟨q + 1, by omega, by go_num, by rw [unhide HK]; go_num⟩
                    case measure => simp [intOf] <;> omega
                  · have rb : (r == (j : Int)) = false := by simpa using hr
                    have HK : Hid (ups (t.take (q + 1)) j = u) := hide (by rw [unhide HU]; simp [kid, hf, hl, hr])
                    clear hf hl hr
                    go_wp2_with fail
                    go_round
                    case rel => exact ⟨q + 1, by omega, by go_num, by rw [unhide HK]⟩
                    case measure => simp [intOf] <;> omega
            · have htk : t.take q = t := List.take_of_length_le (by have := unhide HL; omega)
              rw [htk]
              have hst := unhide HST
              by_cases hu : ups t j = 1
              · have ub : (((ups t j : Nat) : Int) != 1) = false := by rw [hu]; rfl
                rw [if_neg (by omega)] at hst
                have HS2 := hide hst
                clear hst htk hu
                generalize ups t j = u at *
                go_wp2_with fail
                go_round
                case rel => exact ⟨j + 1, by omega, by omega, by go_num, HS2⟩
                case measure => simp [intOf] <;> omega
              · have ub : (((ups t j : Nat) : Int) != 1) = true := by simp; omega
                rw [if_pos ⟨by omega, hu⟩] at hst
                have HE : Hid (treeC t fe = (j, 7)) := hide (by rw [unhide HT2, ← hst, if_neg (by simp)])
                clear hst htk hu
                generalize ups t j = u at *
                go_wp2_with fail
                go_ret2
                exact RTPost.mk (unhide HE) hbel
        · obtain rfl : j = k := by omega
          have hcl := unhide HC
          rw [Nat.sub_self, clashAt] at hcl
          have hdl := dep_le t 0
          have hdep := rdepth_any A j d w.heap.size t hm63 (unhide HB) j 0 wr (by omega) hm0 htr
          have HT3 : Hid (treeC t fe = if 10 < dep t 0 then (0, 4) else (0, 0)) := hide (by rw [unhide HT2, ← hcl]; rfl)
          rw [unhide HL] at hdl
          generalize dep t 0 = dp at *
          clear hcl HC HT2
          go_wp2_with fail
          refine hdep.mono ?_; rintro e w1 ⟨rfl, rfl⟩
          clear hdep
          by_cases h10 : 10 < dp
          · have HE : Hid (treeC t fe = (0, 4)) := hide (by rw [unhide HT3, if_pos h10])
            go_wp2_with fail
            go_ret2
            exact RTPost.mk (unhide HE) hbel
          · have HE : Hid (treeC t fe = (0, 0)) := hide (by rw [unhide HT3, if_neg h10])
            go_wp2_with fail
            go_ret2
            exact RTPost.mk (unhide HE) hbel

end Go.Proofs.Ytopncifebldklaa
