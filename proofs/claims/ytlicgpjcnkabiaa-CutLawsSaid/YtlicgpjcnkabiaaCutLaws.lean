/- CutLaws: the plain law. Conditions: none beyond what each lemma names. -/
import Derived.Test.YtlicgpjcnkabiaaCuts
import Derived.Test.YtlicgpjcnkabiaaCutFiner
namespace Go.Proofs.Ytlicgpjcnkabiaa
set_option linter.unusedVariables false
set_option linter.unusedSimpArgs false
open Go.RowKit

theorem getD_mem {s : List Int} {i : Nat} (h : i < s.length) : s.getD i 0 ∈ s := by
  rw [List.getD_eq_getElem?_getD, List.getElem?_eq_getElem h]; exact List.getElem_mem h
theorem pair_snoc {a : List Int} {x : Int} (h : a.Pairwise (· < ·)) (hx : ∀ y, a.getLast? = some y → y < x) : (a ++ [x]).Pairwise (· < ·) := by
  rw [List.pairwise_append]
  refine ⟨h, by simp, fun u hu v hv => ?_⟩
  simp at hv; subst hv
  rcases List.eq_nil_or_concat a with rfl | ⟨b, y, rfl⟩
  · cases hu
  · have h1 := hx y (by simp)
    rw [List.concat_eq_append] at hu h
    rcases List.mem_append.1 hu with h2 | h2
    · have := (List.pairwise_append.1 h).2.2 u h2 y (by simp)
      omega
    · simp at h2; subst h2; exact h1
theorem cutsK_spec {s : List Int} {many : Nat} (hn : 0 < s.length) : ∀ k, k ≤ many → (cutsK s many k).Pairwise (· < ·) ∧ ∀ x ∈ cutsK s many k, x ∈ s ∧ s.getD 0 0 < x := by
  intro k
  induction k with
  | zero => intro _; exact ⟨List.Pairwise.nil, fun x h => by cases h⟩
  | succ k ih =>
    intro hk
    obtain ⟨h1, h2⟩ := ih (by omega)
    rw [cutsK]
    by_cases ht : takesB (s.getD 0 0) (cutAt s many k) (cutsK s many k).getLast? = true
    · rw [if_pos ht]
      have hm : cutAt s many k ∈ s := getD_mem (idx_lt hn (by omega))
      have h0 : s.getD 0 0 < cutAt s many k := by
        unfold takesB at ht
        split at ht
        · simpa using ht
        · rw [Bool.and_eq_true] at ht; simpa using ht.1
      refine ⟨pair_snoc h1 (fun y hy => ?_), fun x hx => ?_⟩
      · rw [hy] at ht
        unfold takesB at ht
        rw [Bool.and_eq_true] at ht
        simpa using ht.2
      · rcases List.mem_append.1 hx with h | h
        · exact h2 x h
        · simp at h; subst h; exact ⟨hm, h0⟩
    · rw [if_neg ht]; exact ⟨h1, h2⟩
theorem cutsV_spec {l : List Int} {many : Int} (h : cutsE l many = 0) :
    (cutsV l many).Pairwise (· < ·) ∧ ((cutsV l many).length : Int) ≤ many ∧ many ≤ 60 ∧ (∀ x ∈ cutsV l many, x ∈ l ∧ ∃ y ∈ l, y < x) ∧ (l ≠ [] → ∃ z ∈ l, ∀ x ∈ cutsV l many, z < x) ∧ valuesE l = 0 := by
  have hE : 1 ≤ many ∧ many ≤ 60 ∧ valuesE l = 0 := by
    unfold cutsE at h
    by_cases h1 : many < 1
    · rw [if_pos h1] at h; cases h
    · rw [if_neg h1] at h
      by_cases h2 : 60 < many
      · rw [if_pos h2] at h; cases h
      · rw [if_neg h2] at h; exact ⟨by omega, by omega, h⟩
  have hV : cutsV l many = cutsS (sortL l) many.toNat := by unfold cutsV; rw [if_pos h]
  rw [hV]
  unfold cutsS
  by_cases h0 : (sortL l).length = 0
  · rw [if_pos h0]
    have hl : l = [] := by rw [sortL_len] at h0; exact List.eq_nil_of_length_eq_zero h0
    exact ⟨List.Pairwise.nil, by simp; omega, hE.2.1, fun x hx => (by cases hx), fun hy => absurd hl hy, hE.2.2⟩
  · rw [if_neg h0]
    obtain ⟨h1, h2⟩ := cutsK_spec (s := sortL l) (many := many.toNat) (by omega) many.toNat (Nat.le_refl _)
    have hlen := cutsK_len (sortL l) many.toNat many.toNat
    have hm0 : (sortL l).getD 0 0 ∈ l := (sortL_perm l).mem_iff.1 (getD_mem (by omega))
    refine ⟨h1, by omega, hE.2.1, fun x hx => ?_, fun _ => ⟨_, hm0, fun x hx => (h2 x hx).2⟩, hE.2.2⟩
    obtain ⟨h3, h4⟩ := h2 x hx
    exact ⟨(sortL_perm l).mem_iff.1 h3, _, hm0, h4⟩
theorem values_cells {l : List Int} (h : valuesE l = 0) : (∀ x ∈ l, cellB x = true) ∧ l.length ≤ 1000 := by
  unfold valuesE at h
  by_cases h1 : 1000 < l.length
  · rw [if_pos h1] at h; cases h
  · rw [if_neg h1] at h
    by_cases h2 : l.all cellB = true
    · exact ⟨fun x hx => List.all_eq_true.1 h2 x hx, by omega⟩
    · rw [if_neg h2] at h; cases h
/-- bins count all values, and none twice -/
theorem count_sum (f : Int → Nat) (N : Nat) : ∀ l : List Int, (∀ x ∈ l, f x < N) → ((List.range N).map fun j => ((l.filter fun x => f x == j).length : Int)).sum = l.length := by
  have hz : ∀ N : Nat, ((List.range N).map fun _ : Nat => (0 : Int)).sum = 0 := by
    intro N
    induction N with
    | zero => rfl
    | succ N ih => rw [List.range_succ, List.map_append, List.sum_append, ih]; rfl
  have hone : ∀ (N a : Nat) (g : Nat → Int), a < N → ((List.range N).map fun j => (if a = j then 1 else 0) + g j).sum = 1 + ((List.range N).map g).sum := by
    intro N
    induction N with
    | zero => intro a g h; omega
    | succ N ih =>
      intro a g h
      rw [List.range_succ, List.map_append, List.sum_append, List.map_append, List.sum_append]
      rcases Nat.lt_or_ge a N with h1 | h1
      · rw [ih a g h1]
        simp only [List.map_cons, List.map_nil, List.sum_cons, List.sum_nil]
        rw [if_neg (by omega)]; omega
      · obtain rfl : a = N := by omega
        have : ((List.range a).map fun j => (if a = j then 1 else 0) + g j) = (List.range a).map g := by
          refine List.map_congr_left fun j hj => ?_
          rw [List.mem_range] at hj
          rw [if_neg (by omega)]; omega
        rw [this]
        simp only [List.map_cons, List.map_nil, List.sum_cons, List.sum_nil, if_pos]
        omega
  intro l
  induction l with
  | nil => intro _; simpa using hz N
  | cons x r ih =>
    intro h
    have h1 := ih (fun y hy => h y (List.mem_cons_of_mem _ hy))
    have h2 : ((List.range N).map fun j => (((x :: r).filter fun y => f y == j).length : Int)) = (List.range N).map fun j => (if f x = j then 1 else 0) + ((r.filter fun y => f y == j).length : Int) := by
      refine List.map_congr_left fun j _ => ?_
      rw [List.filter_cons]
      by_cases he : f x = j
      · have : (f x == j) = true := by simpa using he
        rw [this, if_pos rfl, if_pos he, List.length_cons]; omega
      · have : (f x == j) = false := by simpa using he
        rw [this, if_neg he]; simp
    rw [h2, hone N (f x) _ (h x List.mem_cons_self), h1, List.length_cons]; omega
theorem countV_spec {cs l : List Int} : (countV cs l).length = cs.length + 1 ∧ (countV cs l).sum = l.length ∧ (∀ x ∈ countV cs l, 0 ≤ x) ∧ ((∃ z ∈ l, ∀ x ∈ cs, z < x) → ∃ y r, countV cs l = y :: r ∧ 1 ≤ y) := by
  have hb : ∀ x, binN cs x < cs.length + 1 := fun x => by have : binN cs x ≤ cs.length := List.length_filter_le _ _; omega
  refine ⟨by simp [countV], count_sum (binN cs) (cs.length + 1) l (fun x _ => hb x), fun x hx => ?_, ?_⟩
  · unfold countV at hx
    obtain ⟨j, _, rfl⟩ := List.mem_map.1 hx
    omega
  · rintro ⟨z, hz, hzx⟩
    have h0 : binN cs z = 0 := by
      unfold binN
      rw [List.length_eq_zero_iff, List.filter_eq_nil_iff]
      intro x hx
      have := hzx x hx
      simp; omega
    unfold countV
    rw [List.range_succ_eq_map, List.map_cons]
    refine ⟨_, _, rfl, ?_⟩
    have : z ∈ l.filter fun x => binN cs x == 0 := List.mem_filter.2 ⟨hz, by simpa using h0⟩
    have := List.length_pos_of_mem this
    omega
/-- each number is between the ends of its bin -/
theorem bin_ends {cs : List Int} (h : cs.Pairwise (· < ·)) {x : Int} (hx : -1000000 ≤ x ∧ x ≤ 1000000) : endLo cs (binN cs x) ≤ x ∧ x ≤ endHi cs (binN cs x) := by
  obtain ⟨h1, h2⟩ := bin_rep h x
  constructor
  · unfold endLo
    split
    · omega
    · rename_i h0
      have hl : binN cs x - 1 < cs.length := by omega
      have hg := List.getElem?_eq_getElem hl
      rw [List.getD_eq_getElem?_getD, hg]
      exact (h2 _ _ hg).1 (by omega)
  · unfold endHi
    split
    · rename_i h0
      have hg := List.getElem?_eq_getElem h0
      rw [List.getD_eq_getElem?_getD, hg]
      have : ¬ cs[binN cs x] ≤ x := fun hle => by have := (h2 _ _ hg).2 hle; omega
      show x ≤ cs[binN cs x] - 1
      omega
    · omega
theorem merge_self {cs : List Int} (h : cs.Pairwise (· < ·)) : mergeV cs cs = cs := by
  obtain ⟨h1, h2⟩ := mergeV_spec cs cs
  exact strict_one h1 h (fun x => by rw [h2, or_self])
theorem cuts_fact : cutsE [1, 2, 3, 4] 1 = 0 ∧ cutsV [1, 2, 3, 4] 1 = [3] := by
  have h0 : cutsE [1, 2, 3, 4] 1 = 0 := by decide
  refine ⟨h0, ?_⟩
  have h1 : sortL [1, 2, 3, 4] = [1, 2, 3, 4] := (sortL_of (List.Perm.refl _) (by simp)).symm
  unfold cutsV
  rw [if_pos h0, h1]
  decide

theorem mem_next {l : List Int} {p : Nat} {z : Int} (h : l[p]? = some z) (y : Int) : decide (y ∈ l.take (p + 1)) = (decide (y ∈ l.take p) || (z == y)) := by
  rw [take_next h, Bool.eq_iff_iff]
  simp only [List.mem_append, List.mem_singleton, decide_eq_true_eq, Bool.or_eq_true, beq_iff_eq]
  exact ⟨fun h => h.elim .inl (fun e => .inr e.symm), fun h => h.elim .inl (fun e => .inr e.symm)⟩
theorem less_next {l : List Int} {p : Nat} {z : Int} (h : l[p]? = some z) (y : Int) : ((l.take (p + 1)).any fun u => decide (u < y)) = ((l.take p).any (fun u => decide (u < y)) || decide (z < y)) := by
  rw [take_next h, List.any_append]; simp
theorem sum_next {l : List Int} {k : Nat} {x : Int} (h : l[k]? = some x) : (l.take (k + 1)).sum = (l.take k).sum + x := by rw [take_next h, List.sum_append]; simp
theorem sum_part {l : List Int} (h : ∀ x ∈ l, 0 ≤ x) (k : Nat) : 0 ≤ (l.take k).sum ∧ (l.take k).sum ≤ l.sum := by
  have hn : ∀ m : List Int, (∀ x ∈ m, 0 ≤ x) → 0 ≤ m.sum := by
    intro m
    induction m with
    | nil => intro _; exact Int.le_refl _
    | cons a r ih => intro hm; rw [List.sum_cons]; have := hm a List.mem_cons_self; have := ih (fun x hx => hm x (List.mem_cons_of_mem _ hx)); omega
  have h1 := hn (l.take k) (fun x hx => h x (List.mem_of_mem_take hx))
  have h2 := hn (l.drop k) (fun x hx => h x (List.mem_of_mem_drop hx))
  have h3 : l.sum = (l.take k).sum + (l.drop k).sum := by rw [← List.sum_append, List.take_append_drop]
  omega
set_option maxRecDepth 100000 in
set_option maxHeartbeats 8000000 in
theorem cutLaws_walk (A : Option Addr) (n c : Nat) (l : List Int) (many x : Int) (w : World) (hr : IReads w w.heap.size A n l) (hn : n ≤ maxLen) :
    Calls Try.prog 7 #[.slice A n c, .int .i64 many, .int .i64 x] w fun e w' => e = .returned (.bool true) ∧ Below w.heap.size w w' := by
  obtain ⟨Y, hY⟩ : ∃ Z, Z = Obj.cells #[.int .i64 1, .int .i64 2, .int .i64 3, .int .i64 4] 3 := ⟨_, rfl⟩
  have hs0 : (w.alloc Y).heap.size = w.heap.size + 1 := by simp
  have hI0 : IReads (w.alloc Y) (w.heap.size + 1) (some ⟨w.heap.size, 0, none⟩) 4 [1, 2, 3, 4] := by
    have h := Reads.new_ w 1 4 [.int .i64 1, .int .i64 2, .int .i64 3, .int .i64 4] 3 rfl
    rw [hY]; exact h
  have hb0 : Below w.heap.size w (w.alloc Y) := (Below.refl _ _).alloc (Nat.le_refl _) _
  have HF := hide (cuts_any (some ⟨w.heap.size, 0, none⟩) 4 4 [1, 2, 3, 4] 1 _ (by rw [hs0]; exact hI0) (by decide))
  have HY := hide hY
  have HL := hide hr.len
  clear hY hI0
  go_enter Try.func7, Try.ntmps7
  go_wp2_with fail
  rw [← unhide HY]
  refine (unhide HF).mono ?_
  rintro e w1 ⟨v1, rfl, ho1, hb1⟩
  rw [cuts_fact.1, errV_0 rfl]
  rw [cuts_fact.2] at ho1
  obtain ⟨A1, c1, rfl, hr1, _, _, _⟩ := ho1.slice_
  clear HF HY ho1
  have hr1' : IReads w1 w1.heap.size A1 1 [3] := hr1
  generalize w.alloc Y = W0 at *
  have hB1 : Below w.heap.size w w1 := hb0.trans (hb1.mono hb0.size)
  have hs1 := hB1.size
  obtain ⟨b1, o1, s1, rfl, _, hx1, e1⟩ := hr1'.get (k := 0) (by omega)
  cases hx1
  rw [Nat.add_zero] at e1
  rw [show ([3] : List Int).length = 1 from rfl]
  clear hb1 hb0 hr1 hr1'
  go_wp2_with fail
  refine (cuts_any A n c l many _ ((hr.below hB1).more hs1) hn).mono ?_
  rintro e w2 ⟨v2, rfl, ho2, hb2⟩
  have hB2 := hB1.trans (hb2.mono hs1)
  have hs2 := hB2.size
  clear hb2 hB1 hs1 e1
  obtain ⟨A2, c2, rfl, hr2, _, _, hA2⟩ := ho2.slice_
  clear ho2
  obtain ⟨CS, hCS⟩ : ∃ CS, CS = cutsV l many := ⟨_, rfl⟩
  rw [← hCS] at hr2 ⊢
  by_cases h0 : cutsE l many = 0
  case neg =>
    have hnil : CS = [] := by rw [hCS]; unfold cutsV; rw [if_neg h0]
    have HE := hide (errV_1 h0)
    rw [unhide HE, hnil, show ([] : List Int).length = 0 from rfl]
    clear h0 hCS hnil hr2
    go_wp2_with fail
    go_ret
    exact ⟨rfl, hB2⟩
  obtain ⟨hpw, hlen, h60, hmem, hlow, hve⟩ := cutsV_spec h0
  rw [← hCS] at hpw hlen hmem hlow
  obtain ⟨hcell, h1000⟩ := values_cells hve
  rw [unhide HL] at h1000
  have hce : cutE CS = 0 := cutE_ok (by omega) (fun y hy => hcell y (hmem y hy).1) hpw
  obtain ⟨K, hK⟩ : ∃ K, K = CS.length := ⟨_, rfl⟩
  rw [← hK] at hr2 hlen ⊢
  have hK60 : K ≤ 60 := by omega
  have HCE := hide (errV_0 hce)
  have HMEM := hide hmem
  have HLOW := hide hlow
  have HPW := hide hpw
  have HK := hide hK
  have hkm : (K : Int) ≤ many := hlen
  have dkm : decide (many < (K : Int)) = false := decide_eq_false (by omega)
  have hcE : countE CS l = 0 := by unfold countE; rw [if_pos hce]; exact hve
  have HCEc := hide hcE
  have HCE0 := hide hce
  rw [errV_0 h0]
  clear h0 hCS hpw hmem hlow hve hcell hce hK hlen hcE
  go_wp2_with fail
  refine (cutCheck_any A2 K c2 CS _ _ hr2 (by unfold maxLen; omega)).mono ?_
  rintro e w3 ⟨rfl, rfl⟩
  rw [unhide HCE]
  go_wp2_with fail
  go_loopw [11] (fun i wr => ∃ j : Nat, j ≤ K ∧ i = .int .i64 j ∧ ∃ q, wr = w2.drewN q) (fun i _ => K - (intOf i).toNat)
  case atStart => exact ⟨0, Nat.zero_le _, rfl, 0, rfl⟩
  case round =>
    obtain ⟨j, hj, rfl, q, rfl⟩ := hrel
    by_cases hlt : j < K
    · obtain ⟨b, o, y, rfl, _, hy, cy⟩ := hr2.get hlt
      have HM := hide (unhide HMEM y (List.mem_of_getElem? hy))
      clear hy
      go_wp2_with fail
      go_loopw [12, 13, 14] (fun a b' i wr => ∃ p : Nat, p ≤ n ∧ i = .int .i64 p ∧ (∃ ha hb : Bool, a = .bool ha ∧ b' = .bool hb ∧ Hid (ha = decide (y ∈ l.take p)) ∧ Hid (hb = (l.take p).any fun u => decide (u < y))) ∧ ∃ q, wr = w2.drewN q) (fun _ _ i _ => n - (intOf i).toNat)
      case atStart => exact ⟨0, Nat.zero_le _, rfl, ⟨false, false, rfl, rfl, hide (by simp), hide (by simp)⟩, q, rfl⟩
      case round =>
        obtain ⟨p, hp, rfl, ⟨ha, hb, rfl, rfl, HA, HB⟩, q2, rfl⟩ := hrel
        by_cases hpn : p < n
        · obtain ⟨b5, o5, z, rfl, _, hz, cz⟩ := (hr.below hB2).get hpn
          have M1 := hide (mem_next hz y)
          have M2 := hide (less_next hz y)
          clear hz
          rcases Int.lt_trichotomy z y with hzy | hzy | hzy
          · have q1 : (z == y) = false := by rw [beq_eq_false_iff_ne]; omega
            have q2' : decide (z < y) = true := decide_eq_true hzy
            have Q1 := hide q1
            have Q2 := hide q2'
            cases ha <;> cases hb
            all_goals
              go_wp2_with fail
              go_quiet (fail)
              go_wp2_with fail
              go_quiet (fail)
              go_wp2_with fail
              go_roundw
              case rel => exact ⟨p + 1, by omega, by go_num, ⟨_, _, rfl, rfl, hide (by rw [unhide M1, ← unhide HA, unhide Q1]; rfl), hide (by rw [unhide M2, ← unhide HB, unhide Q2]; rfl)⟩, _, by first | rfl | (simp only [World.drewN_drewN]; rfl)⟩
              case measure => simp [intOf]; omega
          · have q1 : (z == y) = true := by rw [beq_iff_eq]; exact hzy
            have q2' : decide (z < y) = false := decide_eq_false (by omega)
            have Q1 := hide q1
            have Q2 := hide q2'
            clear hzy
            cases ha <;> cases hb
            all_goals
              go_wp2_with fail
              go_quiet (fail)
              go_wp2_with fail
              go_quiet (fail)
              go_wp2_with fail
              go_roundw
              case rel => exact ⟨p + 1, by omega, by go_num, ⟨_, _, rfl, rfl, hide (by rw [unhide M1, ← unhide HA, unhide Q1]; rfl), hide (by rw [unhide M2, ← unhide HB, unhide Q2]; rfl)⟩, _, by first | rfl | (simp only [World.drewN_drewN]; rfl)⟩
              case measure => simp [intOf]; omega
          · have q1 : (z == y) = false := by rw [beq_eq_false_iff_ne]; omega
            have q2' : decide (z < y) = false := decide_eq_false (by omega)
            have Q1 := hide q1
            have Q2 := hide q2'
            cases ha <;> cases hb
            all_goals
              go_wp2_with fail
              go_quiet (fail)
              go_wp2_with fail
              go_quiet (fail)
              go_wp2_with fail
              go_roundw
              case rel => exact ⟨p + 1, by omega, by go_num, ⟨_, _, rfl, rfl, hide (by rw [unhide M1, ← unhide HA, unhide Q1]; rfl), hide (by rw [unhide M2, ← unhide HB, unhide Q2]; rfl)⟩, _, by first | rfl | (simp only [World.drewN_drewN]; rfl)⟩
              case measure => simp [intOf]; omega
        · obtain rfl : p = n := by omega
          have hta : ha = true := by
            rw [unhide HA, List.take_of_length_le (by rw [unhide HL]; exact Nat.le_refl _)]
            exact decide_eq_true (unhide HM).1
          have htb : hb = true := by
            rw [unhide HB, List.take_of_length_le (by rw [unhide HL]; exact Nat.le_refl _)]
            obtain ⟨u, hu, hl⟩ := (unhide HM).2
            exact List.any_eq_true.2 ⟨u, hu, decide_eq_true hl⟩
          subst hta htb
          go_wp2_with fail
          go_roundw
          case rel => exact ⟨j + 1, by omega, by go_num, q2, rfl⟩
          case measure => simp [intOf]; omega
    · obtain rfl : j = K := by omega
      obtain ⟨hcn, hcs, hcp, hc0⟩ := countV_spec (cs := CS) (l := l)
      go_wp2_with fail
      refine (count_any A2 A j c2 n c CS l _ (hr2.drewN q) ((hr.below hB2).more hs2 |>.drewN q) (by unfold maxLen; omega) hn).mono ?_
      rintro e w4 ⟨v4, rfl, ho4, hb4⟩
      have hb4' : Below w2.heap.size w2 w4 := ⟨hb4.os, hb4.tape, hb4.output, hb4.size, hb4.block⟩
      have hB4 := hB2.trans (hb4'.mono hs2)
      have hs4 := hB4.size
      have hr4 := (hr2.below hb4').more hb4'.size
      rw [unhide HCEc, errV_0 rfl]
      have hco : countO CS l = countV CS l := by unfold countO; rw [if_pos (unhide HCEc)]
      rw [hco] at ho4
      obtain ⟨A4, c4, rfl, hrn, _, _, _⟩ := ho4.slice_
      rw [hcn, ← unhide HK] at hrn ⊢
      have hsl : l.length = n := unhide HL
      rw [hsl] at hcs
      have hpart := sum_part hcp
      rw [hcs] at hpart
      obtain ⟨N, hN⟩ : ∃ N, N = countV CS l := ⟨_, rfl⟩
      rw [← hN] at hrn hcn hcs hcp hc0 hpart
      have HN := hide hN
      have HCS := hide hcs
      have HPART := hide hpart
      have HC0 := hide hc0
      have HCN := hide hcn
      clear ho4 hb4 hb4' hco hN hcs hpart hc0 hcn hsl hcp
      go_wp2_with fail
      go_loop [17, 18] (fun sv i => ∃ p : Nat, p ≤ j + 1 ∧ i = .int .i64 p ∧ ∃ z : Int, sv = .int .i64 z ∧ Hid (z = (N.take p).sum) ∧ 0 ≤ z ∧ z ≤ n) (fun _ i => j + 1 - (intOf i).toNat)
      case atStart => exact ⟨0, Nat.zero_le _, rfl, 0, rfl, hide (by simp), by omega, by omega⟩
      case round =>
        obtain ⟨p, hp, rfl, z, rfl, HZ, hz0, hz1⟩ := hrel
        by_cases hpn : p < j + 1
        · obtain ⟨b5, o5, y, rfl, _, hy, cy⟩ := hrn.get hpn
          have HSN := hide (sum_next hy)
          have hpt := unhide HPART (p + 1)
          rw [unhide HSN, ← unhide HZ] at hpt
          have HS3 : Hid (z + y = (N.take (p + 1)).sum) := hide (by rw [unhide HSN, unhide HZ])
          clear hy
          go_wp2_with fail
          go_round
          case rel => exact ⟨p + 1, by omega, by go_num, z + y, by go_num, HS3, hpt.1, hpt.2⟩
          case measure => simp [intOf]; omega
        · have hpe : p = j + 1 := by omega
          subst hpe
          have hzn : z = n := by
            rw [unhide HZ, List.take_of_length_le (by rw [unhide HCN, ← unhide HK]; exact Nat.le_refl _)]; exact unhide HCS
          subst hzn
          have e3 : ((n : Int) != (n : Int)) = false := by simp
          have e4 : ((j : Int) + 1 != (j : Int) + 1) = false := by simp
          have hbB := bin_any A2 j c2 CS x w4 hr4 (by unfold maxLen; omega)
          have HBB := hide hbB
          clear hbB
          have hN0 : ∃ b o y, A4 = some ⟨b, o, none⟩ ∧ w4.cell? ⟨b, o, none⟩ = some (.int .i64 y) ∧ (0 < n → 1 ≤ y) := by
            obtain ⟨b, o, y, rfl, _, hy, cy⟩ := hrn.get (k := 0) (by omega)
            rw [Nat.add_zero] at cy
            refine ⟨b, o, y, rfl, cy, fun h0 => ?_⟩
            have hne : l ≠ [] := by intro h; rw [h] at HL; have := unhide HL; simp at this; omega
            obtain ⟨y', r, he, h1⟩ := unhide HC0 (unhide HLOW hne)
            rw [he] at hy
            simp at hy; omega
          obtain ⟨b6, o6, y6, rfl, c6, hy6⟩ := hN0
          by_cases hcx : cellB x = true
          · have hbe : binE CS x = 0 := by unfold binE; rw [if_pos (unhide HCE0), if_pos hcx]
            have hbv : binV CS x = binN CS x := by unfold binV; rw [if_pos hbe]
            obtain ⟨hlo, hhi⟩ := bin_ends (unhide HPW) (cellB_t.1 hcx)
            have hbl : binN CS x ≤ CS.length := List.length_filter_le _ _
            obtain ⟨bb, hbb⟩ : ∃ bb, bb = binN CS x := ⟨_, rfl⟩
            rw [← hbb] at hbv hlo hhi hbl
            rw [← unhide HK] at hbl
            have hee : endsE CS bb = 0 := by unfold endsE; rw [if_pos (unhide HCE0), if_neg (by omega), if_neg (by rw [← unhide HK]; omega)]
            have hen := ends_any A2 j c2 w4.heap.size CS bb w4 hr4 (by unfold maxLen; omega)
            rw [hee, if_pos rfl, if_pos rfl, Int.toNat_natCast] at hen
            obtain ⟨lo, hlo'⟩ : ∃ lo, lo = endLo CS bb := ⟨_, rfl⟩
            obtain ⟨hi, hhi'⟩ : ∃ hi, hi = endHi CS bb := ⟨_, rfl⟩
            rw [← hlo'] at hlo hen
            rw [← hhi'] at hhi hen
            have hms := merge_self (unhide HPW)
            have hme : mergeE CS CS = 0 := by unfold mergeE; rw [if_pos (unhide HCE0), if_pos (unhide HCE0), hms, if_neg (by rw [← unhide HK]; omega)]
            have hmr : mergeR CS CS = CS := by unfold mergeR; rw [if_pos hme, hms]
            have HMR := hide hmr
            have HME := hide (errV_0 hme)
            have HEN := hide hen
            have HBE := hide (errV_0 hbe)
            have HBV := hide hbv
            have dlo : decide (lo ≤ x) = true := decide_eq_true hlo
            have dhi : decide (x ≤ hi) = true := decide_eq_true hhi
            clear hcx hbe hbv hbb hee hen hlo' hhi' hms hme hmr
            rcases Nat.eq_zero_or_pos n with hn0 | hn0
            · have dn : decide ((0 : Int) < (n : Int)) = false := decide_eq_false (by omega)
              have dn' : decide (0 < n) = false := decide_eq_false (by omega)
              clear hy6
              go_wp2_with fail
              refine (unhide HBB).mono ?_
              rintro e w5 ⟨rfl, rfl⟩
              rw [unhide HBE, unhide HBV]
              clear HBB
              go_wp2_with fail
              refine (unhide HEN).mono ?_
              rintro e w5 ⟨rfl, rfl⟩
              rw [errV_0 rfl]
              clear HEN
              go_wp2_with fail
              refine (merge_any A2 A2 j j c2 c2 CS CS w4 hr4 hr4 (by unfold maxLen; omega) (by unfold maxLen; omega)).mono ?_
              rintro e w6 ⟨v6, rfl, ho6, hb6⟩
              rw [unhide HME]
              rw [unhide HMR] at ho6
              obtain ⟨A6, c6', rfl, hr6, _, _, _⟩ := ho6.slice_
              have hB6 := hB4.trans (hb6.mono hs4)
              rw [← unhide HK] at hr6 ⊢
              go_wp2_with fail
              refine (ints_any A6 A2 j j c6' c2 CS CS w6 _ _ hr6 (hr4.below hb6) (by unfold maxLen; omega) (by unfold maxLen; omega)).mono ?_
              rintro e w7 ⟨rfl, q7, rfl⟩
              rw [show (CS == CS) = true by simp]
              go_wp2_with fail
              go_ret
              exact ⟨rfl, ⟨hB6.os, hB6.tape, hB6.output, hB6.size, hB6.block⟩⟩
            · have dn : decide ((0 : Int) < (n : Int)) = true := decide_eq_true (by omega)
              have dn' : decide (0 < n) = true := decide_eq_true hn0
              have hy1 := hy6 hn0
              have dy : decide (y6 < 1) = false := decide_eq_false (by omega)
              clear hy6
              go_wp2_with fail
              refine (unhide HBB).mono ?_
              rintro e w5 ⟨rfl, rfl⟩
              rw [unhide HBE, unhide HBV]
              clear HBB
              go_wp2_with fail
              refine (unhide HEN).mono ?_
              rintro e w5 ⟨rfl, rfl⟩
              rw [errV_0 rfl]
              clear HEN
              go_wp2_with fail
              refine (merge_any A2 A2 j j c2 c2 CS CS w4 hr4 hr4 (by unfold maxLen; omega) (by unfold maxLen; omega)).mono ?_
              rintro e w6 ⟨v6, rfl, ho6, hb6⟩
              rw [unhide HME]
              rw [unhide HMR] at ho6
              obtain ⟨A6, c6', rfl, hr6, _, _, _⟩ := ho6.slice_
              have hB6 := hB4.trans (hb6.mono hs4)
              rw [← unhide HK] at hr6 ⊢
              go_wp2_with fail
              refine (ints_any A6 A2 j j c6' c2 CS CS w6 _ _ hr6 (hr4.below hb6) (by unfold maxLen; omega) (by unfold maxLen; omega)).mono ?_
              rintro e w7 ⟨rfl, q7, rfl⟩
              rw [show (CS == CS) = true by simp]
              go_wp2_with fail
              go_ret
              exact ⟨rfl, ⟨hB6.os, hB6.tape, hB6.output, hB6.size, hB6.block⟩⟩
          · have hcf : cellB x = false := by simpa using hcx
            have hx := cellB_f.1 hcf
            have hbe : binE CS x = 1 := by unfold binE; rw [if_pos (unhide HCE0), hcf]; rfl
            have HBE := hide hbe
            clear hcx hcf hbe
            rcases Nat.eq_zero_or_pos n with hn0 | hn0
            · have dn : decide ((0 : Int) < (n : Int)) = false := decide_eq_false (by omega)
              have dn' : decide (0 < n) = false := decide_eq_false (by omega)
              clear hy6
              rcases hx with hx | hx
              · have d1 : decide (x < -1000000) = true := decide_eq_true hx
                go_wp2_with fail
                refine (unhide HBB).mono ?_
                rintro e w5 ⟨rfl, rfl⟩
                rw [unhide HBE, errV_1 (e := 1) (by decide)]
                go_wp2_with fail
                go_ret
                exact ⟨rfl, hB4⟩
              · have d1 : decide (x < -1000000) = false := decide_eq_false (by omega)
                have d2 : decide (1000000 < x) = true := decide_eq_true hx
                go_wp2_with fail
                refine (unhide HBB).mono ?_
                rintro e w5 ⟨rfl, rfl⟩
                rw [unhide HBE, errV_1 (e := 1) (by decide)]
                go_wp2_with fail
                go_ret
                exact ⟨rfl, hB4⟩
            · have dn : decide ((0 : Int) < (n : Int)) = true := decide_eq_true (by omega)
              have dn' : decide (0 < n) = true := decide_eq_true hn0
              have hy1 := hy6 hn0
              have dy : decide (y6 < 1) = false := decide_eq_false (by omega)
              clear hy6
              rcases hx with hx | hx
              · have d1 : decide (x < -1000000) = true := decide_eq_true hx
                go_wp2_with fail
                refine (unhide HBB).mono ?_
                rintro e w5 ⟨rfl, rfl⟩
                rw [unhide HBE, errV_1 (e := 1) (by decide)]
                go_wp2_with fail
                go_ret
                exact ⟨rfl, hB4⟩
              · have d1 : decide (x < -1000000) = false := decide_eq_false (by omega)
                have d2 : decide (1000000 < x) = true := decide_eq_true hx
                go_wp2_with fail
                refine (unhide HBB).mono ?_
                rintro e w5 ⟨rfl, rfl⟩
                rw [unhide HBE, errV_1 (e := 1) (by decide)]
                go_wp2_with fail
                go_ret
                exact ⟨rfl, hB4⟩
end Go.Proofs.Ytlicgpjcnkabiaa
