/- TreeHalves: the walk of the law's function. Conditions: arguments read as lists. -/
import Derived.Test.YtliacpdbeghmlaaTreeDeep
namespace Go.Proofs.Ytliacpdbeghmlaa
set_option linter.unusedVariables false
set_option linter.unusedSimpArgs false
open Go.RowKit

/-! ### plain -/
theorem leaves_mem {t : List Nd} : ∀ (i k : Nat) (n : Nd), t[k]? = some n → n.f = -1 → ((i + k : Nat) : Int) ∈ leavesFrom i t := by
  induction t with
  | nil => intro i k n h; simp at h
  | cons x r ih =>
    intro i k n h hf
    rw [leavesFrom]
    cases k with
    | zero =>
      simp at h; subst h
      rw [if_pos hf]; simp
    | succ k =>
      have := ih (i + 1) k n (by simpa using h) hf
      rw [show i + 1 + k = i + (k + 1) by omega] at this
      split
      · exact List.mem_cons_of_mem _ this
      · exact this
theorem leafFrom_is {t : List Nd} {row : List Int} (hb : Behind t) : ∀ (F i : Nat), i < t.length → t.length ≤ i + F → ∃ n, t[leafFrom t row F i]? = some n ∧ n.f = -1 := by
  intro F
  induction F with
  | zero => intro i h1 h2; omega
  | succ F ih =>
    intro i h1 h2
    have hn : t[i]? = some t[i] := List.getElem?_eq_getElem h1
    by_cases hf : (t[i]).f = -1
    · rw [leafFrom_leaf hn hf]; exact ⟨_, hn, hf⟩
    · rw [leafFrom_step hn hf]
      obtain ⟨j, hj, hlt, hjl⟩ := nextOf_lt (c := cellAt row (t[i]).f) hb hn hf
      rw [hj, Int.toNat_natCast]
      exact ih j hjl (by omega)
theorem leafOf_is {t : List Nd} {row : List Int} (hb : Behind t) (h0 : 0 < t.length) : ∃ n, t[leafOf t row]? = some n ∧ n.f = -1 := leafFrom_is hb t.length 0 h0 (by omega)
theorem leafFrom_same {t : List Nd} {r s : List Int} (h : ∀ (i : Nat) n, t[i]? = some n → n.f ≠ -1 → cellAt r n.f = cellAt s n.f) : ∀ (F i : Nat), leafFrom t r F i = leafFrom t s F i := by
  intro F
  induction F with
  | zero => intro i; rfl
  | succ F ih =>
    intro i
    cases hn : t[i]? with
    | none => simp only [leafFrom, hn]
    | some n =>
      by_cases hf : n.f = -1
      · rw [leafFrom_leaf hn hf, leafFrom_leaf hn hf]
      · rw [leafFrom_step hn hf, leafFrom_step hn hf, h i n hn hf, ih]
theorem cellAt_set {r : List Int} {f : Nat} {g c : Int} (hg : 0 ≤ g) (h : g ≠ f) : cellAt (r.set f c) g = cellAt r g := by
  unfold cellAt
  rw [List.getD_eq_getElem?_getD, List.getD_eq_getElem?_getD, List.getElem?_set_ne (by omega)]
theorem rowE_set {r : List Int} {f : Nat} {c : Int} (h : rowE r = 0) (hc : -1000000 ≤ c ∧ c ≤ 1000000) : rowE (r.set f c) = 0 := by
  unfold rowE at h ⊢
  split at h
  · cases h
  · rename_i h8
    split at h
    · rename_i ha
      rw [if_neg (by simpa using h8), if_pos]
      rw [List.all_eq_true] at ha ⊢
      intro x hx
      rcases List.mem_or_eq_of_mem_set hx with hx | rfl
      · exact ha x hx
      · exact rowGood_cell hc.1 hc.2
    · cases h
theorem readyE_set {t : List Nd} {r : List Int} {f : Nat} {c : Int} (h : readyE t r = 0) (hc : -1000000 ≤ c ∧ c ≤ 1000000) : readyE t (r.set f c) = 0 := by
  unfold readyE at h ⊢
  split at h
  · rename_i h1
    rw [if_pos (rowE_set h1 hc), List.length_set]; exact h
  · rename_i h1; exact absurd h h1
theorem leafV_set {t : List Nd} {r : List Int} {f : Nat} {c : Int} (h : readyE t r = 0) (hc : -1000000 ≤ c ∧ c ≤ 1000000) (hf : ∀ (i : Nat) n, t[i]? = some n → n.f ≠ f) : leafV t (r.set f c) = leafV t r := by
  have h2 := readyE_set (f := f) h hc
  obtain ⟨_, hR, _⟩ := readyE_right h
  unfold leafV leafOf
  rw [if_pos h, if_pos h2, leafFrom_same (r := r.set f c) (s := r)]
  intro i n hn hf2
  exact cellAt_set (hR.asks i n hn hf2).1 (hf i n hn)

theorem tree3_eval4 : evalV [⟨0, 5, 1, 2, false, 0⟩, ⟨-1, 0, 0, 0, false, 7⟩, ⟨-1, 0, 0, 0, false, 9⟩] [4] = 7 ∧ readyE [⟨0, 5, 1, 2, false, 0⟩, ⟨-1, 0, 0, 0, false, 7⟩, ⟨-1, 0, 0, 0, false, 9⟩] [4] = 0 := by decide
theorem tree3_eval5 : evalV [⟨0, 5, 1, 2, false, 0⟩, ⟨-1, 0, 0, 0, false, 7⟩, ⟨-1, 0, 0, 0, false, 9⟩] [5] = 9 ∧ readyE [⟨0, 5, 1, 2, false, 0⟩, ⟨-1, 0, 0, 0, false, 7⟩, ⟨-1, 0, 0, 0, false, 9⟩] [5] = 0 := by decide

/-- tree.Eval of a row of one cell that has just been laid -/
theorem eval_lit {T0 : List Nd} {W : World} {g g2 n : Nat} (x : Int) (hT : NReads W W.heap.size (some ⟨g, 0, none⟩) n T0) (hn : n ≤ maxLen) (hg2 : W.heap.size = g2) {B : Nat} {w : World} (hB : B ≤ W.heap.size) (hbw : Below B w W) :
    Calls Try.prog 27 #[.slice (some ⟨g, 0, none⟩) n n, .slice (some ⟨g2, 0, none⟩) 1 1] (W.alloc (.cells #[.int .i64 x] 3)) fun e w' => e = .returned (.tuple #[.int .i64 (evalV T0 [x]), errV (readyE T0 [x])]) ∧ Below B w w' := by
  subst hg2
  have hs : (W.alloc (.cells #[.int .i64 x] 3)).heap.size = W.heap.size + 1 := World.size_alloc _ _
  have h1 : IReads (W.alloc (.cells #[.int .i64 x] 3)) (W.heap.size + 1) (some ⟨W.heap.size, 0, none⟩) 1 [x] := Reads.new_ W 1 1 [.int .i64 x] 3 rfl
  have h2 : NReads (W.alloc (.cells #[.int .i64 x] 3)) (W.heap.size + 1) (some ⟨g, 0, none⟩) n T0 := (Reads.alloc hT (Nat.le_refl _) _).more (by omega)
  have := eval_any (some ⟨g, 0, none⟩) (some ⟨W.heap.size, 0, none⟩) n n 1 1 T0 [x] _ (by rw [hs]; exact h2) (by rw [hs]; exact h1) hn (by decide)
  refine Calls.mono this fun e w' ⟨he, hb⟩ => ⟨he, ?_⟩
  rw [hs] at hb
  exact (hbw.alloc hB _).trans (hb.mono (by omega))

set_option maxRecDepth 100000 in
set_option maxHeartbeats 4000000 in
theorem treeHalves_walk (A : Option Addr) (m c : Nat) (t : List Nd) (C : Option Addr) (k q : Nat) (row : List Int) (fe ce : Int) (w : World)
    (ht : NReads w w.heap.size A m t) (hr : IReads w w.heap.size C k row) (hm : m ≤ maxLen) (hk : k ≤ maxLen) :
    Calls Try.prog 8 #[.slice A m c, .slice C k q, .int .i64 fe, .int .i64 ce] w fun e w' => e = .returned (.bool true) ∧ Below w.heap.size w w' := by
  have hT0 : NReads (w.alloc (.cells #[.int .i64 0, .int .i64 5, .int .i64 1, .int .i64 2, .bool false, .int .i64 0, .int .i64 (-1), .int .i64 0, .int .i64 0, .int .i64 0, .bool false, .int .i64 7, .int .i64 (-1), .int .i64 0, .int .i64 0, .int .i64 0, .bool false, .int .i64 9] 57))
      (w.heap.size + 1) (some ⟨w.heap.size, 0, none⟩) 3 [⟨0, 5, 1, 2, false, 0⟩, ⟨-1, 0, 0, 0, false, 7⟩, ⟨-1, 0, 0, 0, false, 9⟩] :=
    Reads.new_ w 6 3 (([⟨0, 5, 1, 2, false, 0⟩, ⟨-1, 0, 0, 0, false, 7⟩, ⟨-1, 0, 0, 0, false, 9⟩] : List Nd).flatMap Nd.cells) 57 rfl
  have hT1 := hT0.more (B' := (w.alloc (.cells #[.int .i64 0, .int .i64 5, .int .i64 1, .int .i64 2, .bool false, .int .i64 0, .int .i64 (-1), .int .i64 0, .int .i64 0, .int .i64 0, .bool false, .int .i64 7, .int .i64 (-1), .int .i64 0, .int .i64 0, .int .i64 0, .bool false, .int .i64 9] 57)).heap.size) (by rw [World.size_alloc]; omega)
  have F1 := eval_lit (g2 := w.heap.size + 1) 4 hT1 (by decide) (World.size_alloc _ _) (B := w.heap.size + 1) (w := w.alloc (.cells #[.int .i64 0, .int .i64 5, .int .i64 1, .int .i64 2, .bool false, .int .i64 0, .int .i64 (-1), .int .i64 0, .int .i64 0, .int .i64 0, .bool false, .int .i64 7, .int .i64 (-1), .int .i64 0, .int .i64 0, .int .i64 0, .bool false, .int .i64 9] 57)) (by rw [World.size_alloc]; omega) (Below.refl _ _)
  have HF1 := hide F1
  clear F1 hT1
  go_enter Try.func8, Try.ntmps8
  go_wp2_with fail
  refine Calls.mono (unhide HF1) ?_
  rintro e w1 ⟨rfl, hb1⟩
  rw [tree3_eval4.1, tree3_eval4.2, errV_0 rfl]
  have hs1 := hb1.size
  rw [World.size_alloc] at hs1
  have hT2 : NReads w1 w1.heap.size (some ⟨w.heap.size, 0, none⟩) 3 [⟨0, 5, 1, 2, false, 0⟩, ⟨-1, 0, 0, 0, false, 7⟩, ⟨-1, 0, 0, 0, false, 9⟩] := (hT0.below hb1).more hs1
  have hbw1 : Below w.heap.size w w1 := ((Below.refl _ _).alloc (Nat.le_refl _) _).trans (hb1.mono (by omega))
  have F2 := eval_lit (g2 := w1.heap.size) 5 hT2 (by decide) rfl (B := w.heap.size) (w := w) (by omega) hbw1
  have HF2 := hide F2
  clear F2 HF1 hT0 hT2 hb1
  go_wp2_with fail
  refine Calls.mono (unhide HF2) ?_
  rintro e w2 ⟨rfl, hb2⟩
  rw [tree3_eval5.1, tree3_eval5.2, errV_0 rfl]
  clear HF2 hbw1
  have hs2 := hb2.size
  go_wp2_with fail
  refine (Leaves_any A m c t _ (Reads.more (ht.below hb2) hs2) hm).mono ?_
  rintro e w3 ⟨v, rfl, hown, hbe3⟩
  have hb3 := hb2.trans (hbe3.mono hs2)
  have hs3 := hb3.size
  obtain ⟨vA, vc, rfl, hv1, _, _⟩ := own_slice hown
  clear hown hbe3 hb2 hs2 hs1
  by_cases h0 : treeE t 8 = 0
  · have hR := right_of h0
    have hml := ht.len
    have hm63 := hR.most
    have hm0 := hR.pos
    have hh := hR.halves
    rw [hml] at hh hm63 hm0
    have hlv : leavesV t = leavesFrom 0 t := by unfold leavesV; rw [if_pos h0]
    have hLn : (leavesV t).length = nLeaf t := by rw [hlv, leavesFrom_count]
    obtain ⟨L, hL⟩ : ∃ L, L = nLeaf t := ⟨_, rfl⟩
    rw [hLn, ← hL] at hv1 ⊢
    rw [← hL] at hh
    have hi3 : IReads w3 w3.heap.size vA L (leavesV t) := hv1
    have hh1 : 2 * L ≤ m + 1 := by omega
    have hh2 : m + 1 ≤ 2 * L := by omega
    have HLV := hide hlv
    have HB := hide hR.behind
    have HML := hide hml
    rw [errV_0 h0]
    clear h0 hR hml hh hlv hLn hL hv1
    go_wp2_with fail
    refine (leaf_any A C m c k q t row _ (Reads.more (ht.below hb3) hs3) ((hr.below hb3).more hs3) hm hk).mono ?_
    rintro e w4 ⟨rfl, hbe4⟩
    have hb4 := hb3.trans (hbe4.mono hs3)
    have hs4 := hb4.size
    have hi4 : IReads w4 w3.heap.size vA L (leavesV t) := hi3.below hbe4
    clear hi3 hbe4 hb3
    by_cases hre : readyE t row = 0
    · have HRE := hide hre
      have hlo : leafV t row = leafOf t row := by unfold leafV; rw [if_pos hre]
      have hmem : (leafOf t row : Int) ∈ leavesV t := by
        obtain ⟨n, hn, hf⟩ := leafOf_is (row := row) (unhide HB) (by rw [unhide HML]; exact hm0)
        have := leaves_mem 0 _ n hn hf
        rw [unhide HLV]
        rwa [Nat.zero_add] at this
      rw [errV_0 hre, hlo]
      obtain ⟨X, hX⟩ : ∃ X, X = leafOf t row := ⟨_, rfl⟩
      rw [← hX] at hmem ⊢
      have HLO : Hid (leafV t row = X) := hide (by rw [hlo, hX])
      have HM := hide hmem
      have hll := hi4.len
      have HLL := hide hll
      have hk8 : k ≤ 8 := by have := (readyE_right hre).2.2; have := hr.len; omega
      clear hre hlo hmem hX hll
      go_wp2_with fail
      go_loop [18, 19] (fun b i => ∃ (j : Nat) (bb : Bool), j ≤ L ∧ i = .int .i64 j ∧ b = .bool bb ∧ Hid ((X : Int) ∈ (leavesV t).take j → bb = true)) (fun _ i => L - (intOf i).toNat)
      case atStart => exact ⟨0, false, Nat.zero_le _, rfl, rfl, hide (by simp)⟩
      case round =>
        obtain ⟨j, bb, hj, rfl, rfl, HG⟩ := hrel
        by_cases hlt : j < L
        · obtain ⟨b, o, y, rfl, hbb, hy, cy⟩ := hi4.get hlt
          have HY := hide hy
          clear hy
          cases bb
          · by_cases hyx : y = (X : Int)
            · have hq : (y == (X : Int)) = true := by simpa using hyx
              go_wp2_with fail
              go_round
              case rel => exact ⟨j + 1, true, by omega, by go_num, rfl, hide (fun _ => rfl)⟩
              case measure => simp [intOf] <;> omega
            · have hq : (y == (X : Int)) = false := by simpa using hyx
              have HG2 : Hid ((X : Int) ∈ (leavesV t).take (j + 1) → false = true) := hide (by
                rw [take_next (unhide HY)]
                intro hmm
                rcases List.mem_append.1 hmm with hmm | hmm
                · exact (unhide HG) hmm
                · simp at hmm; exact absurd hmm.symm hyx)
              clear hyx
              go_wp2_with fail
              go_round
              case rel => exact ⟨j + 1, false, by omega, by go_num, rfl, HG2⟩
              case measure => simp [intOf] <;> omega
          · go_wp2_with fail
            go_round
            case rel => exact ⟨j + 1, true, by omega, by go_num, rfl, hide (fun _ => rfl)⟩
            case measure => simp [intOf] <;> omega
        · obtain rfl : bb = true := (unhide HG) (by rw [List.take_of_length_le (by have := unhide HLL; omega)]; exact unhide HM)
          clear HG
          by_cases c1 : fe < 0
          · go_wp2_with fail
            go_ret
            exact ⟨rfl, hb4⟩
          by_cases c2 : (k : Int) ≤ fe
          · go_wp2_with fail
            go_ret
            exact ⟨rfl, hb4⟩
          by_cases c3 : ce < -1000000
          · go_wp2_with fail
            go_ret
            exact ⟨rfl, hb4⟩
          by_cases c4 : 1000000 < ce
          · go_wp2_with fail
            go_ret
            exact ⟨rfl, hb4⟩
          obtain ⟨fn, rfl⟩ : ∃ fn : Nat, fe = fn := ⟨fe.toNat, by omega⟩
          have hfk : fn < k := by omega
          go_wp2_with fail
          go_loop [20] (fun i => ∃ j : Nat, j ≤ m ∧ i = .int .i64 j ∧ Hid (∀ n ∈ t.take j, n.f ≠ fn)) (fun i => m - (intOf i).toNat)
          case atStart => exact ⟨0, Nat.zero_le _, rfl, hide (by simp)⟩
          case round =>
            obtain ⟨i, hi, rfl, HN⟩ := hrel
            by_cases hil : i < m
            · obtain ⟨b, o, n, rfl, hbb, hn, g0, g1, g2, g3, g4, g5⟩ := (ht.below hb4).get hil
              by_cases hf : n.f = (fn : Int)
              · have hq : (n.f == (fn : Int)) = true := by simpa using hf
                clear hn hf
                go_wp2_with fail
                go_ret
                exact ⟨rfl, hb4⟩
              · have hq : (n.f == (fn : Int)) = false := by simpa using hf
                have HN2 : Hid (∀ n ∈ t.take (i + 1), n.f ≠ fn) := hide (by
                  rw [take_next hn]
                  intro x hx
                  rcases List.mem_append.1 hx with hx | hx
                  · exact (unhide HN) x hx
                  · simp at hx; subst hx; exact hf)
                clear hn hf
                go_wp2_with fail
                go_round
                case rel => exact ⟨i + 1, by omega, by go_num, HN2⟩
                case measure => simp [intOf] <;> omega
            · have hall : ∀ (i : Nat) n, t[i]? = some n → n.f ≠ fn := by
                intro i' n hn
                have := unhide HN
                rw [List.take_of_length_le (by have := unhide HML; omega)] at this
                exact this n (List.mem_of_getElem? hn)
              have HSET : Hid (leafV t (row.set fn ce) = X ∧ readyE t (row.set fn ce) = 0) := hide ⟨by rw [leafV_set (unhide HRE) ⟨by omega, by omega⟩ hall, unhide HLO], readyE_set (unhide HRE) ⟨by omega, by omega⟩⟩
              clear hall HN
              have hown0 := World.ownsRow_nil w4 w.heap.size 3 1
              go_wp2_with (at_builtin; refine app_many elem_int (.tmp 121) (.tmp 122) rfl rfl rfl hown0 rfl (hr.below hb4) (ints_oneCell .i64 row) (by omega) hs4 ?_; intro v5 w5 hown5 hb5 _; have hown6 : w5.ownsRow w.heap.size 3 1 v5 k (row.map (Value.int .i64)) := (by simpa using hown5); obtain ⟨g, cap, rfl, hgb, hlt5⟩ := hown6.form (by omega); have ck := hown6.cellAt fn (by omega); have fk := hown6.frozenAt fn; have hrl := hr.len; have hek : (row.map (Value.int .i64))[fn]? = some (.int .i64 (row.getD fn 0)) := (by rw [List.getElem?_map, List.getD_eq_getElem?_getD, List.getElem?_eq_getElem (by omega)]; rfl); rw [hek] at ck; clear hek hrl hown5)
              have hb6 := (hb4.trans hb5).setCell (p := ⟨g, fn, none⟩) hgb (.int .i64 ce)
              have hs6 := hb6.size
              have hst := (hown6.stored fn (.int .i64 ce)).1
              have hi6 : IReads (w5.setCell ⟨g, fn, none⟩ (.int .i64 ce)) (w5.setCell ⟨g, fn, none⟩ (.int .i64 ce)).heap.size (some ⟨g, 0, none⟩) k (row.set fn ce) := by
                have := Reads.of_own hst
                unfold IReads
                rwa [List.map_set]
              clear hst hown6 ck fk hb5
              refine (leaf_any A (some ⟨g, 0, none⟩) m c k cap t (row.set fn ce) _ (Reads.more (ht.below hb6) hs6) hi6 hm hk).mono ?_
              rintro e w7 ⟨rfl, hbe7⟩
              rw [(unhide HSET).1, (unhide HSET).2, errV_0 rfl]
              go_wp2_with fail
              go_ret
              exact ⟨rfl, hb6.trans (hbe7.mono hs6)⟩
    · rw [errV_1 hre]
      clear hre
      go_wp2_with fail
      go_ret
      exact ⟨rfl, hb4⟩
  · rw [errV_1 h0]
    clear h0 hv1
    go_wp2_with fail
    go_ret
    exact ⟨rfl, hb3⟩
end Go.Proofs.Ytliacpdbeghmlaa
