/- Part 37 of what LawFlatTells needs: Levels, RefRow, RefTree. Conditions: as each lemma names. -/
import Derived.Test.YtcneacooedefjaaDoorPkFlatTells17
import Derived.Test.YtcneacooedefjaaDoorPkFlatTells18
import Derived.Test.YtcneacooedefjaaDoorPkFlatTells21
import Derived.Deep.DeepCutAuto
import Derived.Deep.CutRange
import Derived.Test.YtcneacooedefjaaDoorPkFlatTells02
import Derived.Test.YtcneacooedefjaaDoorPkFlatTells05
import Derived.BigGuardPart
/- orchref2.Levels: a tree level by level. Conditions: a tree that is right and reads as data. -/
namespace Go.Proofs.YtcneacooedefjaaDoor
set_option linter.unusedVariables false
set_option linter.unusedSimpArgs false
open Go.RowKit

def cNl (p : Nat) : Value := .int .i64 (p : Int)
def LevelsPost (t : List Nd) (w : World) (e : Ending) (w' : World) : Prop :=
  ∃ A c, e = .returned (.slice A t.length c) ∧ w'.ownsRow w.heap.size 41 6 (.slice A t.length c) t.length ((flatT t).flatMap Nd.cells) ∧ Below w.heap.size w w'

set_option maxRecDepth 100000 in
set_option maxHeartbeats 8000000 in
theorem levels_any (A : Option Addr) (n c : Nat) (t : List Nd) (fe : Int) (w : World) (hT : NReads w w.heap.size A n t) (hR : Right t fe) :
    Calls Tryd.prog 18 #[.slice A n c] w (LevelsPost t w) := by
  have htn := hT.len
  have hmost := hR.most
  have HTN := hide htn
  have HR := hide hR
  have hB0 := ((((Bag.mk0 w).push_ 3 1 1 [.int .i64 0] rfl (by unfold maxLen; omega)).take _ (List.mem_cons_self ..)).nil1 41 6).swap_
  have hst0 := FlSt.start hR
  have hnm : n ≤ 63 := by omega
  clear htn hmost hR
  go_enter Tryd.func18, Tryd.ntmps18
  go_wp2_with fail
  go_loopw [3, 4, 5] (fun v3 v4 v5 wr => ∃ (i m : Nat) (lev : List Nat) (done : List Nd) (Al Ao : Option Addr) (cl co : Nat), v4 = .slice Al m cl ∧ v3 = .slice Ao i co ∧ v5 = .int .i64 i ∧ lev.length = m ∧ FlSt t i lev done ∧
      Bag w wr w.heap.size [⟨3, 1, .slice Al m cl, m, lev.map cNl⟩, ⟨41, 6, .slice Ao i co, i, done.flatMap Nd.cells⟩] [] []) (fun _ _ v5 _ => 64 - (Lib.intOf v5).toNat)
  case atStart => exact ⟨0, 1, [0], [], _, none, 1, 0, rfl, rfl, rfl, rfl, hst0, by simpa [cNl] using hB0⟩
  case round =>
    clear hst0 hB0
    obtain ⟨i, m, lev, done, Al, Ao, cl, co, rfl, rfl, rfl, hlm, hst, hB⟩ := hrel
    have hbd := hst.bound (unhide HR)
    have him := hst.1
    rw [hlm] at hbd him
    have hm63 : m ≤ 63 := by omega
    have HLM := hide hlm
    have HST := hide hst
    clear hlm hst hbd
    by_cases hlt : i < m
    · obtain ⟨p, hp⟩ : ∃ p, lev[i]? = some p := ⟨lev[i]'(by rw [unhide HLM]; exact hlt), List.getElem?_eq_getElem _⟩
      have hpt : p < t.length := (unhide HST).2.2.1 p (List.mem_of_getElem? hp)
      rw [unhide HTN] at hpt
      obtain ⟨bl, ol, rfl, _, hcl⟩ := Reads.spot (Reads.of_own (hB.own _ (List.mem_cons_self ..))) (show 0 < m by omega) Nat.zero_lt_one
      have kl := hcl i (cNl p) (by rw [List.getElem?_map, hp]; rfl)
      simp only [cNl] at kl
      obtain ⟨bt, ot, x, rfl, hbt, hx, k0, k1, k2, k3, k4, k5⟩ := (hT.below hB.bel).get hpt
      obtain ⟨nf, nc, nl, nr0, nb, nv⟩ := x
      dsimp only at k0 k1 k2 k3 k4 k5
      have hi9 : i + 1 < 1000000000 := by omega
      by_cases hf : nf = -1
      · obtain ⟨hs1, -⟩ := (unhide HST).step (unhide HR) hp hx
        have hst2 := hide (hs1 hf)
        have hbf : (nf != -1) = false := by simp [hf]
        have hBn := (hB.alloc (.cells #[.int .i64 nf, .int .i64 nc, .int .i64 nl, .int .i64 nr0, .bool nb, .int .i64 nv] 41)).push_ 41 6 1 [.int .i64 nf, .int .i64 nc, .int .i64 nl, .int .i64 nr0, .bool nb, .int .i64 nv] rfl (by unfold maxLen; omega)
        rw [World.size_alloc] at hBn
        have HDN : Hid ((done ++ [(⟨nf, nc, nl, nr0, nb, nv⟩ : Nd)]).flatMap Nd.cells = done.flatMap Nd.cells ++ [.int .i64 nf, .int .i64 nc, .int .i64 nl, .int .i64 nr0, .bool nb, .int .i64 nv]) := hide (by rw [List.flatMap_append]; simp [Nd.cells])
        clear hs1 hf hp hx hcl hB
        go_wp2_with (at_builtin; refine wpList_append_bag elem_node hBn rfl (.tmp 45) (.tmp 47) rfl 1 rfl rfl (List.mem_cons_self ..) rfl (by intro u hu; simp at hu; rcases hu with rfl | rfl | rfl | rfl | rfl | rfl <;> rfl) hi9 ?_; intro A9 c9 w9 hB9)
        have hB9b := hB9.forget
        have HB9 : Hid (Bag w w9 w.heap.size [⟨3, 1, .slice (some ⟨bl, ol, none⟩) m cl, m, lev.map cNl⟩, ⟨41, 6, .slice A9 (i + 1) c9, i + 1, (done ++ [(⟨nf, nc, nl, nr0, nb, nv⟩ : Nd)]).flatMap Nd.cells⟩] [] []) := hide (by rw [unhide HDN]; exact hB9b)
        clear hB9 hB9b hBn
        go_wp2_with fail
        go_roundw
        case rel => exact ⟨i + 1, m, lev, _, _, A9, cl, c9, rfl, rfl, by go_num, unhide HLM, unhide hst2, unhide HB9⟩
        case measure => simp [Lib.intOf]; omega
      · obtain ⟨-, hs1⟩ := (unhide HST).step (unhide HR) hp hx
        obtain ⟨hst1, g1, g2, g3, g4⟩ := hs1 hf
        rw [unhide HLM] at hst1
        rw [unhide HTN] at g2 g4
        dsimp only at g1 g2 g3 g4 hst1
        have hst2 := hide hst1
        have hbf : (nf != -1) = true := by simp [hf]
        have hll : Hid ((lev ++ [nl.toNat, nr0.toNat]).length = m + 2) := hide (by rw [List.length_append, unhide HLM]; rfl)
        have hcc : Hid ((lev ++ [nl.toNat, nr0.toNat]).map cNl = lev.map cNl ++ [.int .i64 nl] ++ [.int .i64 nr0]) := hide (by rw [List.map_append]; simp only [List.map_cons, List.map_nil, cNl]; rw [Int.toNat_of_nonneg (by omega), Int.toNat_of_nonneg (by omega), List.append_assoc]; rfl)
        have hBx := hB.box_ 41 #[.int .i64 nf, .int .i64 nc, .int .i64 (m : Int), .int .i64 ((m : Int) + 1), .bool nb, .int .i64 nv]
        have hB1 := hBx.push_ 3 1 1 [.int .i64 nl] rfl (by unfold maxLen; omega)
        rw [World.size_alloc] at hB1
        have HDN : Hid ((done ++ [(⟨nf, nc, (m : Int), ((m + 1 : Nat) : Int), nb, nv⟩ : Nd)]).flatMap Nd.cells = done.flatMap Nd.cells ++ [.int .i64 nf, .int .i64 nc, .int .i64 (m : Int), .int .i64 ((m : Int) + 1), .bool nb, .int .i64 nv]) := hide (by rw [List.flatMap_append]; simp [Nd.cells])
        have hm9 : m + 1 < 1000000000 := by omega
        have hm8 : m + 1 + 1 < 1000000000 := by omega
        clear hs1 hst1 hf hp hx hcl hB hBx
        go_wp2_with (first
          | (at_builtin; refine wpList_append_bag elem_int hB1 rfl (.tmp 37) (.tmp 39) rfl 0 rfl rfl (List.mem_cons_self ..) rfl (by intro u hu; simp at hu; subst hu; rfl) hm9 ?_; intro A7 c7 w7 hB7; have hB8 := hB7.forget.push_ 3 1 1 [.int .i64 nr0] rfl (by unfold maxLen; omega))
          | (at_builtin; refine wpList_append_bag elem_int hB8 rfl (.tmp 41) (.tmp 43) rfl 0 rfl rfl (List.mem_cons_self ..) rfl (by intro u hu; simp at hu; subst hu; rfl) hm8 ?_; intro A8 c8 w8 hBa; have hb8 := (hBa.blk _ (List.mem_cons_self ..)).1; have y0 := hb8.cell 0; have y1 := hb8.cell 1; have y2 := hb8.cell 2; have y3 := hb8.cell 3; have y4 := hb8.cell 4; have y5 := hb8.cell 5; simp only [List.getElem?_toArray, List.getElem?_cons_zero, List.getElem?_cons_succ] at y0 y1 y2 y3 y4 y5
             have hBb := hBa.forget.push_ 41 6 1 [.int .i64 nf, .int .i64 nc, .int .i64 (m : Int), .int .i64 ((m : Int) + 1), .bool nb, .int .i64 nv] rfl (by unfold maxLen; omega))
          | (at_builtin; refine wpList_append_bag elem_node hBb rfl (.tmp 45) (.tmp 47) rfl 1 rfl rfl (List.mem_cons_self ..) rfl (by intro u hu; simp at hu; rcases hu with rfl | rfl | rfl | rfl | rfl | rfl <;> rfl) hi9 ?_; intro A9 c9 w9 hB9))
        have hB9b := hB9.forget.unbox
        have HB9 : Hid (Bag w w9 w.heap.size [⟨3, 1, .slice A8 (m + 1 + 1) c8, m + 1 + 1, (lev ++ [nl.toNat, nr0.toNat]).map cNl⟩, ⟨41, 6, .slice A9 (i + 1) c9, i + 1, (done ++ [(⟨nf, nc, (m : Int), ((m + 1 : Nat) : Int), nb, nv⟩ : Nd)]).flatMap Nd.cells⟩] [] []) := hide (by rw [unhide HDN, unhide hcc]; exact hB9b)
        clear hB9 hB9b hBb hBa hB8 hB7 hB1 hb8 y0 y1 y2 y3 y4 y5
        go_wp2_with fail
        go_roundw
        case rel => exact ⟨i + 1, m + 1 + 1, _, _, A8, A9, c8, c9, rfl, rfl, by go_num, unhide hll, unhide hst2, unhide HB9⟩
        case measure => simp [Lib.intOf]; omega
    · obtain rfl : i = m := by omega
      have hdn := (unhide HST).done_ (unhide HR) (unhide HLM).symm
      have hit : i = t.length := by rw [← (unhide HR).flatLen, ← hdn]; exact (unhide HST).2.1.symm
      have ho := hB.own _ (List.mem_cons_of_mem _ (List.mem_cons_self ..))
      have HP : Hid (LevelsPost t w (.returned (.slice Ao i co)) wr) := hide (by
        refine ⟨Ao, co, by rw [hit], ?_, hB.bel⟩
        have h1 := ho
        dsimp only at h1
        rw [hdn] at h1
        rw [← hit]
        exact h1)
      clear hdn hit ho hB
      go_wp2_with fail
      go_ret
      exact unhide HP
end Go.Proofs.YtcneacooedefjaaDoor
/- The references of chapter 3: Cell, none, Row. Conditions: a slice that reads as a list. -/
namespace Go.Proofs.YtcneacooedefjaaDoor
set_option linter.unusedVariables false
set_option linter.unusedSimpArgs false
open Go.RowKit

theorem rcell_any (n : Int) (w : World) : Calls Tryd.prog 41 #[.int .i64 n] w fun e w' => e = .returned (.bool (cellB n)) ∧ w = w' := by
  by_cases h1 : -1000000 ≤ n
  · by_cases h2 : n ≤ 1000000
    · go_enter Tryd.func41, Tryd.ntmps41
      go_wp2
      go_ret
      exact ⟨by rw [cellB_t.2 ⟨h1, h2⟩]; rfl, rfl⟩
    · go_enter Tryd.func41, Tryd.ntmps41
      go_wp2
      go_ret
      exact ⟨by rw [cellB_f.2 (by omega)]; rfl, rfl⟩
  · go_enter Tryd.func41, Tryd.ntmps41
    go_wp2
    go_ret
    exact ⟨by rw [cellB_f.2 (by omega)]; rfl, rfl⟩

theorem rnone_any (n : Int) (w : World) : Calls Tryd.prog 43 #[.int .i64 n] w fun e w' => e = .returned (.bool (n == -1125899906842624)) ∧ w = w' := by
  go_enter Tryd.func43, Tryd.ntmps43
  go_wp2
  go_ret
  exact ⟨rfl, rfl⟩

set_option maxRecDepth 100000 in
theorem rrow_any (A : Option Addr) (n c : Nat) (l : List Int) (w : World) (B : Nat) (ha : IReads w B A n l) (hn : n ≤ maxLen) :
    Calls Tryd.prog 28 #[.slice A n c] w fun e w' => e = .returned (.int .i64 (rowE l)) ∧ w = w' := by
  have hl := ha.len
  unfold maxLen at hn
  by_cases h8 : 8 < n
  · have HE : Hid (rowE l = 4) := hide (by unfold rowE; rw [if_pos (by omega)])
    clear hl
    go_enter Tryd.func28, Tryd.ntmps28
    go_wp2_with fail
    go_ret
    exact ⟨ret_int (unhide HE).symm, rfl⟩
  · have HL := hide hl
    clear hl
    go_enter Tryd.func28, Tryd.ntmps28
    go_wp2_with fail
    go_loop [3] (fun i => ∃ k : Nat, k ≤ n ∧ i = .int .i64 k ∧ Hid (∀ y ∈ l.take k, rowGood y = true)) (fun i => n - (intOf i).toNat)
    case atStart => exact ⟨0, Nat.zero_le _, rfl, hide (by simp)⟩
    case round =>
      obtain ⟨k, hk, rfl, HG⟩ := hrel
      by_cases hlt : k < n
      · obtain ⟨b, o, x, rfl, hb, hx, cx⟩ := ha.get hlt
        have HX := hide hx
        clear hx
        by_cases hc : cellB x = true
        · have HC := hide hc
          clear hc
          go_wp2_with fail
          refine (rcell_any _ _).mono ?_; rintro e w1 ⟨rfl, rfl⟩; rw [unhide HC]
          go_wp2_with fail
          refine (rnone_any _ _).mono ?_; rintro e w1 ⟨rfl, rfl⟩
          go_wp2_with fail
          go_round
          case rel => exact ⟨k + 1, by omega, by go_num, hide (all_next (unhide HX) (unhide HG) (by simp [rowGood, unhide HC]))⟩
          case measure => simp [intOf]; omega
        · have hc2 : cellB x = false := by simpa using hc
          have HC := hide hc2
          clear hc hc2
          by_cases hn2 : x = -1125899906842624
          · have q : (x == -1125899906842624) = true := by simpa using hn2
            have HN := hide q
            clear q hn2
            go_wp2_with fail
            refine (rcell_any _ _).mono ?_; rintro e w1 ⟨rfl, rfl⟩; rw [unhide HC]
            go_wp2_with fail
            refine (rnone_any _ _).mono ?_; rintro e w1 ⟨rfl, rfl⟩; rw [unhide HN]
            go_wp2_with fail
            go_round
            case rel => exact ⟨k + 1, by omega, by go_num, hide (all_next (unhide HX) (unhide HG) (by have := unhide HN; simp [rowGood, nilC] at this ⊢; exact .inl this))⟩
            case measure => simp [intOf]; omega
          · have q : (x == -1125899906842624) = false := by simpa using hn2
            have HN := hide q
            have HE : Hid (rowE l = 1) := hide (rowE_bad (unhide HX) (by simp [rowGood, nilC, unhide HC]; exact hn2) (by have := unhide HL; omega))
            clear q hn2
            go_wp2_with fail
            refine (rcell_any _ _).mono ?_; rintro e w1 ⟨rfl, rfl⟩; rw [unhide HC]
            go_wp2_with fail
            refine (rnone_any _ _).mono ?_; rintro e w1 ⟨rfl, rfl⟩; rw [unhide HN]
            go_wp2_with fail
            go_ret
            exact ⟨ret_int (unhide HE).symm, rfl⟩
      · have HE : Hid (rowE l = 0) := hide (by
          have h2 := unhide HG
          rw [List.take_of_length_le (by have := unhide HL; omega)] at h2
          exact rowE_good h2 (by have := unhide HL; omega))
        go_wp2_with fail
        go_ret
        exact ⟨ret_int (unhide HE).symm, rfl⟩
end Go.Proofs.YtcneacooedefjaaDoor
/- The references of chapter 4: Depth, Tree, Ready, Left, Leaf. Conditions: a tree that reads as a list of nodes. -/
namespace Go.Proofs.YtcneacooedefjaaDoor
set_option linter.unusedVariables false
set_option linter.unusedSimpArgs false
open Go.RowKit

theorem rdepth_any (A : Option Addr) (m d B : Nat) (t : List Nd) (hm : m ≤ 63) (hb : Behind t) : ∀ (k i : Nat) (w : World), m ≤ i + k → i < m → NReads w B A m t →
    Calls Tryd.prog 42 #[.slice A m d, .int .i64 i] w fun e w' => e = .returned (.int .i64 (dep t i)) ∧ w = w' := by
  intro k
  induction k with
  | zero => intro i w h1 h2; omega
  | succ k ih =>
    intro i w h1 h2 ht
    have hlt := ht.len
    obtain ⟨b, o, n, rfl, hbb, hn, g0, g1, g2, g3, g4, g5⟩ := ht.get h2
    have hda := dep_at hn (fun hf => (hb i n hn hf).1) (fun hf => (hb i n hn hf).2.2.1)
    by_cases hf : n.f = -1
    · rw [if_pos hf] at hda
      have HD := hide hda
      rw [hf] at g0
      clear hda hn hlt
      go_enter Tryd.func42, Tryd.ntmps42
      go_wp2_with fail
      go_ret
      exact ⟨ret_int (by rw [unhide HD]; rfl), rfl⟩
    · rw [if_neg hf] at hda
      obtain ⟨a1, a2, a3, a4⟩ := hb i n hn hf
      obtain ⟨ln, hln⟩ : ∃ ln : Nat, n.l = ln := ⟨n.l.toNat, by omega⟩
      obtain ⟨rn, hrn⟩ : ∃ rn : Nat, n.r = rn := ⟨n.r.toNat, by omega⟩
      rw [hln, hrn] at hda
      rw [hln] at a1 a2 g2
      rw [hrn] at a3 a4 g3
      have c1 := ih ln w (by omega) (by omega) ht
      have c2 := ih rn w (by omega) (by omega) ht
      have l1 := dep_le t ln
      have l2 := dep_le t rn
      simp only [Int.toNat_natCast] at hda
      generalize dep t ln = x at *
      generalize dep t rn = y at *
      have HD := hide hda
      have hq : (n.f == -1) = false := by simpa using hf
      clear hda hn hf ih
      by_cases hxy : x < y
      · go_enter Tryd.func42, Tryd.ntmps42
        go_wp2_with fail
        refine c1.mono ?_; rintro e w1 ⟨rfl, rfl⟩
        go_wp2_with fail
        refine c2.mono ?_; rintro e w1 ⟨rfl, rfl⟩
        clear c1 c2
        go_wp2_with fail
        go_ret
        exact ⟨ret_int (by rw [unhide HD]; omega), rfl⟩
      · go_enter Tryd.func42, Tryd.ntmps42
        go_wp2_with fail
        refine c1.mono ?_; rintro e w1 ⟨rfl, rfl⟩
        go_wp2_with fail
        refine c2.mono ?_; rintro e w1 ⟨rfl, rfl⟩
        clear c1 c2
        go_wp2_with fail
        go_ret
        exact ⟨ret_int (by rw [unhide HD]; omega), rfl⟩

end Go.Proofs.YtcneacooedefjaaDoor
