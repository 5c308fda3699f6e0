/- Part 21 of what LawWeighNeeds needs: GrowW, PruneG, RefGrove. Conditions: as each lemma names. -/
import Derived.Test.YtopncifebldklaaPkWeighNeeds18
import Derived.Test.YtopncifebldklaaPkWeighNeeds19
import Derived.Test.YtopncifebldklaaPkWeighNeeds20
import Derived.Deep.RegionHeld3
import Derived.Test.YtopncifebldklaaPkWeighNeeds14
import Derived.Test.YtopncifebldklaaPkWeighNeeds15
import Derived.Test.YtopncifebldklaaPkWeighNeeds07
import Derived.Test.YtopncifebldklaaPkWeighNeeds04
import Derived.Lib.Agree
/- Package grow and the document: Ready, Wrong, Split. Conditions: a tree and samples that read as data. -/
namespace Go.Proofs.Ytopncifebldklaa
set_option linter.unusedVariables false
set_option linter.unusedSimpArgs false
open Go.RowKit

/-- what is wrong with a tree and samples -/
def readyS (t : List Nd) (ss : List Sm) : Int := match ss with
  | [] => 5
  | s :: _ => if treeE t s.r.length = 0 then sampE ss s.r.length else treeE t s.r.length
theorem readyS_at {t : List Nd} {ss : List Sm} {s : Sm} (h : ss[0]? = some s) : readyS t ss = if treeE t s.r.length = 0 then sampE ss s.r.length else treeE t s.r.length := by
  cases ss with
  | nil => simp at h
  | cons x r => simp at h; subst h; rfl
def wrongM (t : List Nd) : List Sm → Int
  | [] => 0
  | s :: r => (s.t - valOf t s.r) * (s.t - valOf t s.r) + wrongM t r
theorem wrongM_app (t : List Nd) (a b : List Sm) : wrongM t (a ++ b) = wrongM t a + wrongM t b := by
  induction a with
  | nil => simp [wrongM]
  | cons s r ih => simp only [List.cons_append, wrongM, ih]; omega
theorem wrongM_next {t : List Nd} {ss : List Sm} {k : Nat} {s : Sm} (h : ss[k]? = some s) : wrongM t (ss.take (k + 1)) = wrongM t (ss.take k) + (s.t - valOf t s.r) * (s.t - valOf t s.r) := by
  rw [take_next h, wrongM_app]; simp [wrongM]
/-- a tree and samples that go together -/
structure RS (t : List Nd) (ss : List Sm) (n : Nat) : Prop where
  tree : Right t n
  samp : SRight ss n
theorem readyS_0 {t : List Nd} {ss : List Sm} (h : readyS t ss = 0) : ∃ n : Nat, RS t ss n ∧ treeE t n = 0 ∧ sampE ss n = 0 := by
  cases ss with
  | nil => cases h
  | cons s r =>
    unfold readyS at h
    simp only at h
    by_cases h0 : treeE t s.r.length = 0
    · rw [if_pos h0] at h
      obtain ⟨n, hn, hs⟩ := samp_right h
      refine ⟨s.r.length, ⟨right_of h0, ?_⟩, h0, h⟩
      rw [show s.r.length = n by omega]; exact hs
    · rw [if_neg h0] at h; exact absurd h h0
theorem leaf_there {t : List Nd} {n : Nat} (h : Right t n) (r : List Int) : ∃ x, t[leafOf t r]? = some x ∧ valOf t r = x.v ∧ -1000000 ≤ x.v ∧ x.v ≤ 1000000 := by
  have hlt : leafOf t r < t.length := leafFrom_lt h.behind _ _ h.pos
  refine ⟨_, List.getElem?_eq_getElem hlt, ?_, ?_⟩
  · unfold valOf valAt
    rw [List.getElem?_eq_getElem hlt]
  · have := node_of (h.node _ _ (List.getElem?_eq_getElem hlt))
    omega
theorem wrongM_le {t : List Nd} {n : Nat} (h : Right t n) {ss : List Sm} (h1 : ∀ s ∈ ss, -1000 ≤ s.t) (h2 : ∀ s ∈ ss, s.t ≤ 1000) : 0 ≤ wrongM t ss ∧ wrongM t ss ≤ 1002001000000 * (ss.length : Int) := by
  induction ss with
  | nil => simp [wrongM]
  | cons s r ih =>
    obtain ⟨c, d⟩ := ih (fun x hx => h1 x (List.mem_cons_of_mem _ hx)) (fun x hx => h2 x (List.mem_cons_of_mem _ hx))
    obtain ⟨x, _, e, e1, e2⟩ := leaf_there h s.r
    have a := h1 s (List.mem_cons_self ..)
    have b := h2 s (List.mem_cons_self ..)
    have q := sq_le (a := s.t - valOf t s.r) (m := 1001000) (by omega) (by omega)
    simp only [wrongM, List.length_cons]
    omega

set_option maxRecDepth 100000 in
set_option maxHeartbeats 2000000 in
theorem gReady_any (A C : Option Addr) (m d k c : Nat) (t : List Nd) (ss : List Sm) (w : World) (ht : NReads w w.heap.size A m t) (hs : MReads w w.heap.size C k ss) (hm : m ≤ maxLen) (hk : k ≤ maxLen) :
    Calls Try.prog 18 #[.slice A m d, .slice C k c] w fun e w' => e = .returned (errV (readyS t ss)) ∧ Below w.heap.size w w' := by
  have hl := hs.len
  rcases Nat.eq_zero_or_pos k with h0 | h0
  · subst h0
    obtain rfl : ss = [] := List.length_eq_zero_iff.1 hl
    go_enter Try.func18, Try.ntmps18
    go_wp2_with fail
    go_ret
    exact ⟨rfl, Below.refl _ _⟩
  · have d0 : ((k : Int) == 0) = false := by simp; omega
    obtain ⟨b, o, s, rfl, _, hx, c0, c1, hok⟩ := hs.get h0
    have HR := hide (readyS_at (t := t) hx)
    have hrl := hok.reads.len
    have hsn := hok.len
    have HC := hide (fun (W : World) (hB : Below w.heap.size w W) => gCheck_any (some ⟨b, o, none⟩) k c s.n ss W ((hs.below hB).more hB.size) hk)
    unfold MCheckPost at HC
    rw [hrl] at HR
    obtain ⟨sA, sn, sc, sr, st⟩ := s
    dsimp only at c0 c1 HR hrl hsn HC
    have c0' : w.cell? ⟨b, o, none⟩ = some (.slice sA sn sc) := by simpa using c0
    unfold maxLen at hsn
    clear hx hok hrl hl c0
    by_cases e0 : treeE t sn = 0
    · have HZ : Hid (readyS t ss = sampE ss sn) := hide (by rw [unhide HR, if_pos e0])
      have hv := errV_0 e0
      obtain ⟨k0, hk0⟩ : ∃ k0, k0 = (((sampC ss sn).1 : Nat) : Int) := ⟨_, rfl⟩
      rw [← hk0] at HC
      clear HR e0 hk0
      go_enter Try.func18, Try.ntmps18
      go_wp2_with fail
      refine (check_any A m d sn t w ht hm).mono ?_
      rintro e w1 ⟨rfl, hb1⟩
      rw [hv]
      clear hv
      go_wp2_with fail
      refine (unhide HC w1 hb1).mono ?_
      rintro e w2 ⟨rfl, hb2⟩
      go_wp2_with fail
      go_ret
      exact ⟨by rw [unhide HZ]; rfl, hb1.trans (hb2.mono hb1.size)⟩
    · have HZ : Hid (readyS t ss = treeE t sn) := hide (by rw [unhide HR, if_neg e0])
      have hv := errV_1 e0
      have HV := hide hv
      clear HR e0 HC
      go_enter Try.func18, Try.ntmps18
      go_wp2_with fail
      refine (check_any A m d sn t w ht hm).mono ?_
      rintro e w1 ⟨rfl, hb1⟩
      rw [hv]
      clear hv
      go_wp2_with fail
      go_ret
      exact ⟨by rw [unhide HZ, unhide HV]; rfl, hb1⟩

def splitE (ss : List Sm) (fe least : Int) : Int := if sampE ss fe = 0 then (if least < 1 ∨ 60 < least then 1 else if (bestB ss fe.toNat least.toNat).f < 0 then 5 else 0) else sampE ss fe
def splitF (ss : List Sm) (fe least : Int) : Int := if splitE ss fe least = 0 then (bestB ss fe.toNat least.toNat).f else 0
def splitC (ss : List Sm) (fe least : Int) : Int := if splitE ss fe least = 0 then (bestB ss fe.toNat least.toNat).c else 0
end Go.Proofs.Ytopncifebldklaa
/- Package prune: Grove. Conditions: a grove that reads as data. -/
namespace Go.Proofs.Ytopncifebldklaa
set_option linter.unusedVariables false
set_option linter.unusedSimpArgs false
open Go.RowKit

def PGrovePost (g : Gv) (w : World) (e : Ending) (w' : World) : Prop := ∃ g' : Gv, e = .returned (.tuple #[g'.val, errV g.e]) ∧ GReads w' w'.heap.size g' ∧ (g.e = 0 → g'.f = g.f ∧ g'.way = g.way ∧ g'.ws = g.ws ∧ g'.trees = g.trees.map fun t => prunedV t g.f.toNat) ∧
  (g.e ≠ 0 → g'.f = 0 ∧ g'.way = 0 ∧ g'.ws = [] ∧ g'.trees = []) ∧ Below w.heap.size w w'
theorem wp_nameG {P : Program} {c : Code} {Q : Exit → Act → World → Prop} {a : Act} {W : World} (h : ∀ X, X = W → Code.wp P c Q a X) : Code.wp P c Q a W := h W rfl
theorem pruneTake {α : Type} (f : α → α) (l : List α) {k : Nat} {x : α} (h : l[k]? = some x) : ((l.take k).map f ++ l.drop k).set k (f x) = (l.take (k + 1)).map f ++ l.drop (k + 1) := by
  have hk : k < l.length := (List.getElem?_eq_some_iff.1 h).1
  have hl : ((l.take k).map f).length = k := by rw [List.length_map, List.length_take]; omega
  have hd : l.drop k = x :: l.drop (k + 1) := by
    have := (List.getElem?_eq_some_iff.1 h).2
    rw [← this, List.getElem_cons_drop]
  rw [hd, List.set_append_right _ _ (by omega), hl, Nat.sub_self, List.set_cons_zero, take_next h]
  simp

end Go.Proofs.Ytopncifebldklaa
/- The references of groves: orchref1.Grove, Stand, Each. Conditions: arguments read as groves and rows. -/
namespace Go.Proofs.Ytopncifebldklaa
set_option linter.unusedVariables false
set_option linter.unusedSimpArgs false
open Go.RowKit

set_option maxRecDepth 100000 in
set_option maxHeartbeats 2000000 in
theorem rgrove_any (g : Gv) (w : World) (hr : GReads w w.heap.size g) :
    Calls Try.prog 8 #[g.val] w fun e w' => e = .returned (.int .i64 g.e) ∧ Below w.heap.size w w' := by
  obtain ⟨f, way, Aw, nw, cw, ws, At, nt, ct, ts⟩ := g
  have hlw := hr.ws.len
  have hlt := hr.ts.len
  have hnw := hr.nw
  have hnt := hr.nt
  have hwr := hr.ws
  have htr := hr.ts
  clear hr
  dsimp only at hlw hlt hnw hnt hwr htr
  unfold maxLen at hnw hnt
  simp only [Gv.val]
  have hlt' : (Gv.trees ⟨f, way, Aw, nw, cw, ws, At, nt, ct, ts⟩).length = nt := by rw [Gv.trees_len]; exact hlt
  obtain ⟨T, hT⟩ : ∃ T, T = Gv.trees ⟨f, way, Aw, nw, cw, ws, At, nt, ct, ts⟩ := ⟨_, rfl⟩
  have hE : (Gv.e ⟨f, way, Aw, nw, cw, ws, At, nt, ct, ts⟩) = groveE f way ws T := by rw [hT]; rfl
  rw [hE]
  rw [← hT] at hlt'
  have HT := hide hT
  have HLT := hide hlt'
  have HLW := hide hlw
  have HL := hide hlt
  clear hE hT hlt' hlw hlt
  have hb0 : Below w.heap.size w (w.alloc (.cells #[.int .i64 f, .int .i64 way, .slice Aw nw cw, .slice At nt ct] 25)) := (Below.refl _ _).alloc (Nat.le_refl _) _
  by_cases h1 : f < 0
  · have HE : Hid (groveE f way ws T = 1) := hide (by unfold groveE; rw [if_pos h1])
    have d1 : decide (f < 0) = true := decide_eq_true h1
    go_enter Try.func8, Try.ntmps8
    go_wp2_with fail
    go_ret
    exact ⟨by rw [unhide HE]; rfl, hb0⟩
  have d1 : decide (f < 0) = false := decide_eq_false h1
  by_cases h2 : 8 < f
  · have HE : Hid (groveE f way ws T = 1) := hide (by unfold groveE; rw [if_neg h1, if_pos h2])
    have d2 : decide (8 < f) = true := decide_eq_true h2
    go_enter Try.func8, Try.ntmps8
    go_wp2_with fail
    go_ret
    exact ⟨by rw [unhide HE]; rfl, hb0⟩
  have d2 : decide (8 < f) = false := decide_eq_false h2
  by_cases h3 : way < 1
  · have HE : Hid (groveE f way ws T = 1) := hide (by unfold groveE; rw [if_neg h1, if_neg h2, if_pos h3])
    have d3 : decide (way < 1) = true := decide_eq_true h3
    go_enter Try.func8, Try.ntmps8
    go_wp2_with fail
    go_ret
    exact ⟨by rw [unhide HE]; rfl, hb0⟩
  have d3 : decide (way < 1) = false := decide_eq_false h3
  by_cases h4 : 3 < way
  · have HE : Hid (groveE f way ws T = 1) := hide (by unfold groveE; rw [if_neg h1, if_neg h2, if_neg h3, if_pos h4])
    have d4 : decide (3 < way) = true := decide_eq_true h4
    go_enter Try.func8, Try.ntmps8
    go_wp2_with fail
    go_ret
    exact ⟨by rw [unhide HE]; rfl, hb0⟩
  have d4 : decide (3 < way) = false := decide_eq_false h4
  by_cases h5 : nt = 0
  · have HE : Hid (groveE f way ws T = 5) := hide (by unfold groveE; rw [if_neg h1, if_neg h2, if_neg h3, if_neg h4, unhide HLT, if_pos h5])
    have d5 : ((nt : Int) == 0) = true := by simp [h5]
    clear h5
    go_enter Try.func8, Try.ntmps8
    go_wp2_with fail
    go_ret
    exact ⟨by rw [unhide HE]; rfl, hb0⟩
  have d5 : ((nt : Int) == 0) = false := by simp; omega
  by_cases h6 : 12 < nt
  · have HE : Hid (groveE f way ws T = 4) := hide (by unfold groveE; rw [if_neg h1, if_neg h2, if_neg h3, if_neg h4, unhide HLT, if_neg h5, if_pos h6])
    have d6 : decide (12 < nt) = true := decide_eq_true h6
    go_enter Try.func8, Try.ntmps8
    go_wp2_with fail
    go_ret
    exact ⟨by rw [unhide HE]; rfl, hb0⟩
  have d6 : decide (12 < nt) = false := decide_eq_false h6
  by_cases h7 : nw = nt
  case neg =>
    have HE : Hid (groveE f way ws T = 3) := hide (by unfold groveE; rw [if_neg h1, if_neg h2, if_neg h3, if_neg h4, unhide HLT, if_neg h5, if_neg h6, if_neg (by rw [unhide HLW]; exact h7)])
    have d7 : ((nw : Int) != (nt : Int)) = true := by simp; omega
    go_enter Try.func8, Try.ntmps8
    go_wp2_with fail
    go_ret
    exact ⟨by rw [unhide HE]; rfl, hb0⟩
  subst h7
  have HE : Hid (groveE f way ws T = if weightsE ws = 0 then treesE f T else weightsE ws) := hide (by unfold groveE; rw [if_neg h1, if_neg h2, if_neg h3, if_neg h4, unhide HLT, if_neg h5, if_neg h6, if_pos (unhide HLW)])
  have hn12 : nw ≤ 12 := by omega
  clear h6 h5
  go_enter Try.func8, Try.ntmps8
  go_wp2_with fail
  obtain ⟨W, hW⟩ : ∃ W, W = w.alloc (.cells #[.int .i64 f, .int .i64 way, .slice Aw nw cw, .slice At nw ct] 25) := ⟨_, rfl⟩
  rw [← hW] at hb0 ⊢
  have bx : Blk W w.heap.size 25 #[.int .i64 f, .int .i64 way, .slice Aw nw cw, .slice At nw ct] := by rw [hW]; exact Blk.new _ _ _
  have hWs : W.heap.size = w.heap.size + 1 := by rw [hW]; simp
  clear hW
  obtain ⟨c0, c1, c2, c3⟩ : W.cell? ⟨w.heap.size, 0, none⟩ = some (.int .i64 f) ∧ W.cell? ⟨w.heap.size, 1, none⟩ = some (.int .i64 way) ∧ W.cell? ⟨w.heap.size, 2, none⟩ = some (.slice Aw nw cw) ∧ W.cell? ⟨w.heap.size, 3, none⟩ = some (.slice At nw ct) := ⟨bx.cell 0, bx.cell 1, bx.cell 2, bx.cell 3⟩
  have hwr1 := hwr.below hb0
  have htr1 := htr.below hb0
  clear hwr d5 d6 htr1
  go_loop [3] (fun i => ∃ k : Nat, k ≤ nw ∧ i = .int .i64 k ∧ Hid (∀ x ∈ ws.take k, 1 ≤ x ∧ x ≤ 1000)) (fun i => nw - (Lib.intOf i).toNat)
  case atStart => exact ⟨0, Nat.zero_le _, rfl, hide (by simp)⟩
  case round =>
    obtain ⟨k, hk, rfl, HG⟩ := hrel
    by_cases hlt : k < nw
    · obtain ⟨b, o, x, rfl, _, hx, hcx⟩ := hwr1.get hlt
      have HX := hide hx
      clear hx
      by_cases hx1 : x < 1
      · have HZ : Hid (groveE f way ws T = 1) := hide (by rw [unhide HE, weightsE_bad (unhide HX) (.inl hx1)]; rfl)
        have e1 : decide (x < 1) = true := decide_eq_true hx1
        go_wp2_with fail
        go_ret
        exact ⟨by rw [unhide HZ]; rfl, hb0⟩
      · have e1 : decide (x < 1) = false := decide_eq_false hx1
        by_cases hx2 : 1000 < x
        · have HZ : Hid (groveE f way ws T = 1) := hide (by rw [unhide HE, weightsE_bad (unhide HX) (.inr hx2)]; rfl)
          have e2 : decide (1000 < x) = true := decide_eq_true hx2
          go_wp2_with fail
          go_ret
          exact ⟨by rw [unhide HZ]; rfl, hb0⟩
        · have e2 : decide (1000 < x) = false := decide_eq_false hx2
          go_wp2_with fail
          go_round
          case rel => exact ⟨k + 1, by omega, by go_num, hide (by
            rw [take_next (unhide HX)]
            intro y hy
            rcases List.mem_append.1 hy with hy | hy
            · exact (unhide HG) y hy
            · simp at hy; subst hy; omega)⟩
          case measure => simp [Lib.intOf]; omega
    · obtain rfl : k = nw := by omega
      have hG := unhide HG
      rw [List.take_of_length_le (by rw [unhide HLW]; exact Nat.le_refl _)] at hG
      have HZ : Hid (groveE f way ws T = treesE f (T.drop 0)) := hide (by rw [unhide HE, if_pos (weightsE_of hG), List.drop_zero])
      clear hG
      go_wp2_with fail
      go_loopw [4] (fun i wr => ∃ j : Nat, j ≤ k ∧ i = .int .i64 j ∧ Hid (groveE f way ws T = treesE f (T.drop j)) ∧ Below w.heap.size w wr ∧ wr.cell? ⟨w.heap.size, 0, none⟩ = some (.int .i64 f) ∧ wr.cell? ⟨w.heap.size, 3, none⟩ = some (.slice At k ct) ∧ w.heap.size + 1 ≤ wr.heap.size) (fun i _ => k - (Lib.intOf i).toNat)
      case atStart => exact ⟨0, Nat.zero_le _, rfl, HZ, hb0, c0, c3, by omega⟩
      case round =>
        obtain ⟨j, hj, rfl, HY, hbel, cc0, cc3, hws⟩ := hrel
        by_cases hlj : j < k
        · obtain ⟨b, o, r, rfl, _, hx, hcx, hok⟩ := (htr.below hbel).get hlj
          have hTk : T[j]? = some r.l := by rw [unhide HT]; exact Gv.trees_at hx
          have HD := hide (treesE_drop (fe := f) hTk)
          have hz := hbel.size
          obtain ⟨rA, rn, rc, rl⟩ := r
          dsimp only at hcx HD
          have hck := fun (W : World) (hW : Below wr.heap.size wr W) => rtree_any rA rn rc f rl W ((hok.reads.below (hW.mono hz)).more (Nat.le_trans hz hW.size)) hok.len
          have HCK := hide hck
          clear hck hx hTk hok c0 c1 c2 c3
          by_cases ht0 : treeE rl f = 0
          · have HN : Hid (groveE f way ws T = treesE f (T.drop (j + 1))) := hide (by rw [unhide HY, unhide HD, if_pos ht0])
            have HT0 : Hid ((treeC rl f).2 = 0) := hide ht0
            clear ht0
            go_wp2_with fail
            go_region_held3 (fun w' => w'.cell? ⟨w.heap.size, 0, none⟩ = some (.int .i64 f) ∧ w'.cell? ⟨w.heap.size, 3, none⟩ = some (.slice (some ⟨b, o, none⟩) k ct) ∧ w'.cell? ⟨b, o + j, none⟩ = some (.slice rA rn rc))
              (first | go_keep | (go_split_ands <;> assumption))
              ((go_at_call 25; refine (unhide HCK _ ((Below.refl _ _).drew)).mono ?_; rintro e w2 ⟨rfl, hb2⟩; have k0 := (hb2.cell (p := ⟨w.heap.size, 0, none⟩) (by show w.heap.size < wr.heap.size; omega)).trans cc0; have k3 := (hb2.cell (p := ⟨w.heap.size, 3, none⟩) (by show w.heap.size < wr.heap.size; omega)).trans cc3; have kj := (hb2.cell (p := ⟨b, o + j, none⟩) (by show b < wr.heap.size; omega)).trans hcx))
            rw [unhide HT0]
            have hb3 : Below wr.heap.size wr w2 := ((Below.refl _ _).drew).trans hb2
            have hc2 : w2.cell? ⟨w.heap.size, 0, none⟩ = some (.int .i64 f) := (hb3.cell (p := ⟨w.heap.size, 0, none⟩) (by show w.heap.size < _; omega)).trans cc0
            have hc3 : w2.cell? ⟨w.heap.size, 3, none⟩ = some (.slice (some ⟨b, o, none⟩) k ct) := (hb3.cell (p := ⟨w.heap.size, 3, none⟩) (by show w.heap.size < _; omega)).trans cc3
            have hz2 := hb3.size
            clear HCK
            go_wp2_with fail
            go_roundw
            case rel => exact ⟨j + 1, by omega, by go_num, HN, hbel.trans (hb3.mono hz), hc2, hc3, by omega⟩
            case measure => simp [Lib.intOf]; omega
          · have HN : Hid (groveE f way ws T = treeE rl f) := hide (by rw [unhide HY, unhide HD, if_neg ht0])
            obtain ⟨E, hE⟩ : ∃ E, E = (treeC rl f).2 := ⟨_, rfl⟩
            have HEE : Hid (treeE rl f = E) := hide (by rw [hE]; rfl)
            have hE0 : (E != 0) = true := by rw [bne_iff_ne, hE]; exact ht0
            unfold RTPost at HCK
            rw [← hE] at HCK
            clear ht0 hE
            go_wp2_with fail
            go_region_held3 (fun w' => w'.cell? ⟨w.heap.size, 0, none⟩ = some (.int .i64 f) ∧ w'.cell? ⟨w.heap.size, 3, none⟩ = some (.slice (some ⟨b, o, none⟩) k ct) ∧ w'.cell? ⟨b, o + j, none⟩ = some (.slice rA rn rc))
              (first | go_keep | (go_split_ands <;> assumption))
              ((go_at_call 25; refine (unhide HCK _ ((Below.refl _ _).drew)).mono ?_; rintro e w2 ⟨rfl, hb2⟩; have k0 := (hb2.cell (p := ⟨w.heap.size, 0, none⟩) (by show w.heap.size < wr.heap.size; omega)).trans cc0; have k3 := (hb2.cell (p := ⟨w.heap.size, 3, none⟩) (by show w.heap.size < wr.heap.size; omega)).trans cc3; have kj := (hb2.cell (p := ⟨b, o + j, none⟩) (by show b < wr.heap.size; omega)).trans hcx))
            have hb3 : Below wr.heap.size wr w2 := ((Below.refl _ _).drew).trans hb2
            clear HCK
            go_wp2_with fail
            go_ret
            exact ⟨by rw [unhide HN, unhide HEE]; rfl, hbel.trans (hb3.mono hz)⟩
        · obtain rfl : j = k := by omega
          have HZ2 : Hid (groveE f way ws T = 0) := hide (by rw [unhide HY, List.drop_eq_nil_of_le (by rw [unhide HLT]; exact Nat.le_refl _)]; rfl)
          go_wp2_with fail
          go_ret
          exact ⟨by rw [unhide HZ2]; rfl, hbel⟩
end Go.Proofs.Ytopncifebldklaa
