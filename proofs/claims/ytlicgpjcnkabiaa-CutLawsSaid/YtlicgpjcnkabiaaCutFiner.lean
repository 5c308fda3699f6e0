/- CutFiner: the walk. Conditions: two slices that read as lists. -/
import Derived.Test.YtlicgpjcnkabiaaCutBin
namespace Go.Proofs.Ytlicgpjcnkabiaa
set_option linter.unusedVariables false
set_option linter.unusedSimpArgs false
open Go.RowKit

theorem cutFrom_ok : ∀ (l : List Int) (p : Option Int), (∀ c ∈ l, cellB c = true) → l.Pairwise (· < ·) → (∀ q, p = some q → ∀ c ∈ l, q < c) → cutFrom p l = 0
  | [], _, _, _, _ => rfl
  | c :: r, p, h1, h2, h3 => by
    rw [List.pairwise_cons] at h2
    have hc := h1 c (by simp)
    have hfl : flat p c = false := by
      cases p with
      | none => rfl
      | some q => have := h3 q rfl c (by simp); simp [flat]; omega
    rw [cutFrom, hc, if_neg (by decide), hfl, if_neg (by decide)]
    exact cutFrom_ok r (some c) (fun d hd => h1 d (List.mem_cons_of_mem _ hd)) h2.2 (fun q hq d hd => by injection hq with hq; subst hq; exact h2.1 d hd)
theorem cutE_ok {l : List Int} (h : l.length ≤ 60) (h1 : ∀ c ∈ l, cellB c = true) (h2 : l.Pairwise (· < ·)) : cutE l = 0 := by
  unfold cutE; rw [if_neg (by omega)]; exact cutFrom_ok l none h1 h2 (fun q h => by cases h)
theorem mergeE_0 {a b : List Int} (h : mergeE a b = 0) : cutE a = 0 ∧ cutE b = 0 ∧ (mergeV a b).length ≤ 60 := by
  unfold mergeE at h
  by_cases h1 : cutE a = 0
  · rw [if_pos h1] at h
    by_cases h2 : cutE b = 0
    · rw [if_pos h2] at h
      by_cases h3 : 60 < (mergeV a b).length
      · rw [if_pos h3] at h; cases h
      · exact ⟨h1, h2, by omega⟩
    · rw [if_neg h2] at h; exact absurd h h2
  · rw [if_neg h1] at h; exact absurd h h1
theorem merge_ok {a b : List Int} (h : mergeE a b = 0) : cutE (mergeV a b) = 0 := by
  obtain ⟨h1, h2, h3⟩ := mergeE_0 h
  obtain ⟨p, q⟩ := mergeV_spec a b
  refine cutE_ok h3 (fun c hc => ?_) p
  rcases (q c).1 hc with hc | hc
  · exact (cutE_rises h1).2.1 c hc
  · exact (cutE_rises h2).2.1 c hc

set_option maxRecDepth 100000 in
set_option maxHeartbeats 4000000 in
theorem cutFiner_walk (A C : Option Addr) (n m c d : Nat) (a b : List Int) (x y : Int) (w : World) (ha : IReads w w.heap.size A n a) (hb : IReads w w.heap.size C m b) (hn : n ≤ maxLen) (hm : m ≤ maxLen) :
    Calls Try.prog 6 #[.slice A n c, .slice C m d, .int .i64 x, .int .i64 y] w fun e w' => e = .returned (.bool true) ∧ Below w.heap.size w w' := by
  have hfact := bin_any (some ⟨w.heap.size, 0, none⟩) 2 2 [5, 9] 5 (w.alloc (.cells #[.int .i64 5, .int .i64 9] 3)) (Reads.new_ w 1 2 [.int .i64 5, .int .i64 9] 3 rfl |>.more (by simp)) (by unfold maxLen; omega)
  rw [show binV [5, 9] 5 = 1 by decide, show errV (binE [5, 9] 5) = .nilIface by rw [show binE [5, 9] 5 = 0 by decide]; rfl] at hfact
  have hmer := merge_any A C n m c d a b (w.alloc (.cells #[.int .i64 5, .int .i64 9] 3)) ((Reads.alloc ha (Nat.le_refl _) _).more (by simp)) ((Reads.alloc hb (Nat.le_refl _) _).more (by simp)) hn hm
  go_enter Try.func6, Try.ntmps6
  go_wp2_with fail
  refine hfact.mono ?_
  clear hfact
  rintro e w1 ⟨rfl, rfl⟩
  go_wp2_with fail
  refine hmer.mono ?_
  clear hmer
  rintro e w1 ⟨v, rfl, hown, hbw⟩
  have hb0 : Below w.heap.size w w1 := ((Below.refl _ _).alloc (Nat.le_refl _) _).trans (hbw.mono (by simp))
  clear hbw
  by_cases h0 : mergeE a b = 0
  case neg =>
    rw [errV_1 h0]
    clear h0
    go_wp2_with fail
    go_ret
    exact ⟨rfl, hb0⟩
  obtain ⟨ca, cb, _⟩ := mergeE_0 h0
  have cm := merge_ok h0
  rw [show mergeR a b = mergeV a b by unfold mergeR; rw [if_pos h0]] at hown
  rw [errV_0 h0]
  obtain ⟨A3, c3, rfl, hrm, hml, _, _⟩ := hown.slice_
  have z1 := hb0.size
  have k1 := bin_any A3 (mergeV a b).length c3 (mergeV a b) x w1 hrm hml
  have k2 := bin_any A3 (mergeV a b).length c3 (mergeV a b) y w1 hrm hml
  have k3 := bin_any A n c a x w1 ((ha.below hb0).more z1) hn
  have k4 := bin_any A n c a y w1 ((ha.below hb0).more z1) hn
  have k5 := bin_any C m d b x w1 ((hb.below hb0).more z1) hm
  have k6 := bin_any C m d b y w1 ((hb.below hb0).more z1) hm
  have eE : ∀ l z, cutE l = 0 → binE l z = if cellB z = true then 0 else 1 := fun l z h => by unfold binE; rw [if_pos h]
  have eV : ∀ l z, cutE l = 0 → cellB z = true → binV l z = bins l z := fun l z h hz => by unfold binV; rw [eE l z h, hz, if_pos rfl]; rfl
  rw [eE _ _ cm] at k1 k2
  rw [eE _ _ ca] at k3 k4
  rw [eE _ _ cb] at k5 k6
  have hkey : (bins (mergeV a b) x = bins (mergeV a b) y) ↔ (bins a x = bins a y ∧ bins b x = bins b y) := bins_merge
  clear hown hrm ha hb h0
  by_cases hx : cellB x = true
  · rw [hx, if_pos rfl, errV_0 rfl] at k1 k3 k5
    rw [eV _ _ cm hx] at k1
    rw [eV _ _ ca hx] at k3
    rw [eV _ _ cb hx] at k5
    by_cases hy : cellB y = true
    · rw [hy, if_pos rfl, errV_0 rfl] at k2 k4 k6
      rw [eV _ _ cm hy] at k2
      rw [eV _ _ ca hy] at k4
      rw [eV _ _ cb hy] at k6
      have m1 : x ≤ y → bins (mergeV a b) x ≤ bins (mergeV a b) y ∧ bins a x ≤ bins a y ∧ bins b x ≤ bins b y := fun h => ⟨bins_mono h _, bins_mono h _, bins_mono h _⟩
      generalize bins (mergeV a b) x = p at *
      generalize bins (mergeV a b) y = q at *
      generalize bins a x = e1 at *
      generalize bins a y = e2 at *
      generalize bins b x = f1 at *
      generalize bins b y = f2 at *
      have HK := hide hkey
      have HM := hide m1
      clear hkey m1 eE eV hx hy ca cb cm
      by_cases hxy : x ≤ y
      · obtain ⟨i1, i2, i3⟩ := unhide HM hxy
        have d1 : decide (q < p) = false := by simp; omega
        have d2 : decide (e2 < e1) = false := by simp; omega
        have d3 : decide (f2 < f1) = false := by simp; omega
        have hk := unhide HK
        by_cases t1 : e1 = e2
        · subst t1
          by_cases t2 : f1 = f2
          · subst t2
            obtain rfl : p = q := hk.2 ⟨rfl, rfl⟩
            clear hk
            
            go_wp2_with fail
            refine k1.mono ?_; rintro e w2 ⟨rfl, rfl⟩
            go_wp2_with fail
            refine k2.mono ?_; rintro e w2 ⟨rfl, rfl⟩
            go_wp2_with fail
            refine k3.mono ?_; rintro e w2 ⟨rfl, rfl⟩
            go_wp2_with fail
            refine k4.mono ?_; rintro e w2 ⟨rfl, rfl⟩
            go_wp2_with fail
            refine k5.mono ?_; rintro e w2 ⟨rfl, rfl⟩
            go_wp2_with fail
            refine k6.mono ?_; rintro e w2 ⟨rfl, rfl⟩
            clear k1 k2 k3 k4 k5 k6
            go_wp2_with fail
            all_goals
              go_ret
              exact ⟨ret_bool (by first | rfl | (simp; done) | (simp; omega) | (simp_all; done)), hb0⟩
          · have b2 : ((f1 : Int) == f2) = false := by simp; omega
            have b3 : ((p : Int) == q) = false := by simp; intro h; exact t2 (hk.1 (by omega)).2
            clear hk t2
            
            go_wp2_with fail
            refine k1.mono ?_; rintro e w2 ⟨rfl, rfl⟩
            go_wp2_with fail
            refine k2.mono ?_; rintro e w2 ⟨rfl, rfl⟩
            go_wp2_with fail
            refine k3.mono ?_; rintro e w2 ⟨rfl, rfl⟩
            go_wp2_with fail
            refine k4.mono ?_; rintro e w2 ⟨rfl, rfl⟩
            go_wp2_with fail
            refine k5.mono ?_; rintro e w2 ⟨rfl, rfl⟩
            go_wp2_with fail
            refine k6.mono ?_; rintro e w2 ⟨rfl, rfl⟩
            clear k1 k2 k3 k4 k5 k6
            go_wp2_with fail
            all_goals
              go_ret
              exact ⟨ret_bool (by first | rfl | (simp; done) | (simp; omega) | (simp_all; done)), hb0⟩
        · have b2 : ((e1 : Int) == e2) = false := by simp; omega
          have b3 : ((p : Int) == q) = false := by simp; intro h; exact t1 (hk.1 (by omega)).1
          clear hk t1
          
          go_wp2_with fail
          refine k1.mono ?_; rintro e w2 ⟨rfl, rfl⟩
          go_wp2_with fail
          refine k2.mono ?_; rintro e w2 ⟨rfl, rfl⟩
          go_wp2_with fail
          refine k3.mono ?_; rintro e w2 ⟨rfl, rfl⟩
          go_wp2_with fail
          refine k4.mono ?_; rintro e w2 ⟨rfl, rfl⟩
          go_wp2_with fail
          refine k5.mono ?_; rintro e w2 ⟨rfl, rfl⟩
          go_wp2_with fail
          refine k6.mono ?_; rintro e w2 ⟨rfl, rfl⟩
          clear k1 k2 k3 k4 k5 k6
          go_wp2_with fail
          all_goals
            go_ret
            exact ⟨ret_bool (by first | rfl | (simp; done) | (simp; omega) | (simp_all; done)), hb0⟩
      · have d0 : decide (x ≤ y) = false := by simp; omega
        have hk := unhide HK
        by_cases t1 : e1 = e2
        · subst t1
          by_cases t2 : f1 = f2
          · subst t2
            obtain rfl : p = q := hk.2 ⟨rfl, rfl⟩
            clear hk
            go_wp2_with fail
            refine k1.mono ?_; rintro e w2 ⟨rfl, rfl⟩
            go_wp2_with fail
            refine k2.mono ?_; rintro e w2 ⟨rfl, rfl⟩
            go_wp2_with fail
            refine k3.mono ?_; rintro e w2 ⟨rfl, rfl⟩
            go_wp2_with fail
            refine k4.mono ?_; rintro e w2 ⟨rfl, rfl⟩
            go_wp2_with fail
            refine k5.mono ?_; rintro e w2 ⟨rfl, rfl⟩
            go_wp2_with fail
            refine k6.mono ?_; rintro e w2 ⟨rfl, rfl⟩
            clear k1 k2 k3 k4 k5 k6
            go_wp2_with fail
            all_goals
              go_ret
              exact ⟨ret_bool (by first | rfl | (simp; done) | (simp; omega) | (simp_all; done)), hb0⟩
          · have b2 : ((f1 : Int) == f2) = false := by simp; omega
            have b3 : ((p : Int) == q) = false := by simp; intro h; exact t2 (hk.1 (by omega)).2
            clear hk t2
            go_wp2_with fail
            refine k1.mono ?_; rintro e w2 ⟨rfl, rfl⟩
            go_wp2_with fail
            refine k2.mono ?_; rintro e w2 ⟨rfl, rfl⟩
            go_wp2_with fail
            refine k3.mono ?_; rintro e w2 ⟨rfl, rfl⟩
            go_wp2_with fail
            refine k4.mono ?_; rintro e w2 ⟨rfl, rfl⟩
            go_wp2_with fail
            refine k5.mono ?_; rintro e w2 ⟨rfl, rfl⟩
            go_wp2_with fail
            refine k6.mono ?_; rintro e w2 ⟨rfl, rfl⟩
            clear k1 k2 k3 k4 k5 k6
            go_wp2_with fail
            all_goals
              go_ret
              exact ⟨ret_bool (by first | rfl | (simp; done) | (simp; omega) | (simp_all; done)), hb0⟩
        · have b2 : ((e1 : Int) == e2) = false := by simp; omega
          have b3 : ((p : Int) == q) = false := by simp; intro h; exact t1 (hk.1 (by omega)).1
          clear hk t1
          go_wp2_with fail
          refine k1.mono ?_; rintro e w2 ⟨rfl, rfl⟩
          go_wp2_with fail
          refine k2.mono ?_; rintro e w2 ⟨rfl, rfl⟩
          go_wp2_with fail
          refine k3.mono ?_; rintro e w2 ⟨rfl, rfl⟩
          go_wp2_with fail
          refine k4.mono ?_; rintro e w2 ⟨rfl, rfl⟩
          go_wp2_with fail
          refine k5.mono ?_; rintro e w2 ⟨rfl, rfl⟩
          go_wp2_with fail
          refine k6.mono ?_; rintro e w2 ⟨rfl, rfl⟩
          clear k1 k2 k3 k4 k5 k6
          go_wp2_with fail
          all_goals
            go_ret
            exact ⟨ret_bool (by first | rfl | (simp; done) | (simp; omega) | (simp_all; done)), hb0⟩
    · rw [Bool.not_eq_true] at hy
      rw [hy, if_neg (by decide), errV_1 (by decide)] at k2 k4 k6
      have kv := cellB_f.1 hy
      clear hkey eE eV hx hy ca cb cm
      rcases kv with kv | kv
      · go_wp2_with fail
        refine k1.mono ?_; rintro e w2 ⟨rfl, rfl⟩
        go_wp2_with fail
        refine k2.mono ?_; rintro e w2 ⟨rfl, rfl⟩
        go_wp2_with fail
        refine k3.mono ?_; rintro e w2 ⟨rfl, rfl⟩
        go_wp2_with fail
        refine k4.mono ?_; rintro e w2 ⟨rfl, rfl⟩
        go_wp2_with fail
        refine k5.mono ?_; rintro e w2 ⟨rfl, rfl⟩
        go_wp2_with fail
        refine k6.mono ?_; rintro e w2 ⟨rfl, rfl⟩
        clear k1 k2 k3 k4 k5 k6
        go_wp2_with fail
        all_goals
          go_ret
          exact ⟨ret_bool (by first | rfl | (simp; done) | (simp; omega) | (simp_all; done)), hb0⟩
      · go_wp2_with fail
        refine k1.mono ?_; rintro e w2 ⟨rfl, rfl⟩
        go_wp2_with fail
        refine k2.mono ?_; rintro e w2 ⟨rfl, rfl⟩
        go_wp2_with fail
        refine k3.mono ?_; rintro e w2 ⟨rfl, rfl⟩
        go_wp2_with fail
        refine k4.mono ?_; rintro e w2 ⟨rfl, rfl⟩
        go_wp2_with fail
        refine k5.mono ?_; rintro e w2 ⟨rfl, rfl⟩
        go_wp2_with fail
        refine k6.mono ?_; rintro e w2 ⟨rfl, rfl⟩
        clear k1 k2 k3 k4 k5 k6
        go_wp2_with fail
        all_goals
          go_ret
          exact ⟨ret_bool (by first | rfl | (simp; done) | (simp; omega) | (simp_all; done)), hb0⟩
  · rw [Bool.not_eq_true] at hx
    rw [hx, if_neg (by decide), errV_1 (by decide)] at k1 k3 k5
    have kv := cellB_f.1 hx
    clear hkey eE eV hx ca cb cm
    generalize errV (if cellB y = true then 0 else 1) = ey at *
    rcases kv with kv | kv
    · go_wp2_with fail
      refine k1.mono ?_; rintro e w2 ⟨rfl, rfl⟩
      go_wp2_with fail
      refine k2.mono ?_; rintro e w2 ⟨rfl, rfl⟩
      go_wp2_with fail
      refine k3.mono ?_; rintro e w2 ⟨rfl, rfl⟩
      go_wp2_with fail
      refine k4.mono ?_; rintro e w2 ⟨rfl, rfl⟩
      go_wp2_with fail
      refine k5.mono ?_; rintro e w2 ⟨rfl, rfl⟩
      go_wp2_with fail
      refine k6.mono ?_; rintro e w2 ⟨rfl, rfl⟩
      clear k1 k2 k3 k4 k5 k6
      go_wp2_with fail
      all_goals
        go_ret
        exact ⟨ret_bool (by first | rfl | (simp; done) | (simp; omega) | (simp_all; done)), hb0⟩
    · go_wp2_with fail
      refine k1.mono ?_; rintro e w2 ⟨rfl, rfl⟩
      go_wp2_with fail
      refine k2.mono ?_; rintro e w2 ⟨rfl, rfl⟩
      go_wp2_with fail
      refine k3.mono ?_; rintro e w2 ⟨rfl, rfl⟩
      go_wp2_with fail
      refine k4.mono ?_; rintro e w2 ⟨rfl, rfl⟩
      go_wp2_with fail
      refine k5.mono ?_; rintro e w2 ⟨rfl, rfl⟩
      go_wp2_with fail
      refine k6.mono ?_; rintro e w2 ⟨rfl, rfl⟩
      clear k1 k2 k3 k4 k5 k6
      go_wp2_with fail
      all_goals
        go_ret
        exact ⟨ret_bool (by first | rfl | (simp; done) | (simp; omega) | (simp_all; done)), hb0⟩
end Go.Proofs.Ytlicgpjcnkabiaa
