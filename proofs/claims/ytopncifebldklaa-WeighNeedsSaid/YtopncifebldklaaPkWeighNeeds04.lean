/- Part 4 of what LawWeighNeeds needs: Grove. Conditions: as each lemma names. -/
import Derived.Test.YtopncifebldklaaPkWeighNeeds03
/- Groves: a grove as an argument, what is wrong with one; grove.Check. Conditions: arguments read as lists. -/
namespace Go.Proofs.Ytopncifebldklaa
set_option linter.unusedVariables false
set_option linter.unusedSimpArgs false
open Go.RowKit

/-- a slice of nodes as a value, with what it reads as -/
structure Tr where
  A : Option Addr
  n : Nat
  c : Nat
  l : List Nd
def Tr.val (r : Tr) : Value := .slice r.A r.n r.c
structure TrOk (w : World) (B : Nat) (r : Tr) : Prop where
  reads : NReads w B r.A r.n r.l
  len : r.n ≤ maxLen
  nil : r.A = none → r.c = 0
def TReads (w : World) (B : Nat) (A : Option Addr) (n : Nat) (ts : List Tr) : Prop := Reads w B 1 A n (ts.map Tr.val) ∧ ∀ r ∈ ts, TrOk w B r
section
variable {w w' : World} {B B' n : Nat} {A : Option Addr} {ts : List Tr}
theorem TrOk.below {r : Tr} (h : TrOk w B r) (hb : Below B w w') : TrOk w' B r := ⟨h.reads.below hb, h.len, h.nil⟩
theorem TrOk.more {r : Tr} (h : TrOk w B r) (hB : B ≤ B') : TrOk w B' r := ⟨h.reads.more hB, h.len, h.nil⟩
theorem TReads.below (h : TReads w B A n ts) (hb : Below B w w') : TReads w' B A n ts := ⟨h.1.below hb, fun r hr => (h.2 r hr).below hb⟩
theorem TReads.more (h : TReads w B A n ts) (hB : B ≤ B') : TReads w B' A n ts := ⟨h.1.more hB, fun r hr => (h.2 r hr).more hB⟩
theorem TReads.len (h : TReads w B A n ts) : ts.length = n := by have := h.1.1; simpa using this
theorem TReads.get (h : TReads w B A n ts) {k : Nat} (hk : k < n) :
    ∃ b off r, A = some ⟨b, off, none⟩ ∧ b < B ∧ ts[k]? = some r ∧ w.cell? ⟨b, off + k, none⟩ = some (.slice r.A r.n r.c) ∧ TrOk w B r := by
  obtain ⟨b, off, rfl, hb, hc⟩ := Reads.spot h.1 (by omega) (by omega)
  have hl : k < ts.length := by rw [h.len]; exact hk
  have hr : ts[k]? = some ts[k] := List.getElem?_eq_getElem hl
  exact ⟨b, off, ts[k], rfl, hb, hr, hc k _ (by simp [hl, Tr.val]), h.2 _ (List.mem_of_getElem? hr)⟩
end

/-- a grove as a value, with what it reads as -/
structure Gv where
  f : Int
  way : Int
  Aw : Option Addr
  nw : Nat
  cw : Nat
  ws : List Int
  At : Option Addr
  nt : Nat
  ct : Nat
  ts : List Tr
def Gv.val (g : Gv) : Value := .agg #[.int .i64 g.f, .int .i64 g.way, .slice g.Aw g.nw g.cw, .slice g.At g.nt g.ct]
def Gv.cells (g : Gv) : Array Value := #[.int .i64 g.f, .int .i64 g.way, .slice g.Aw g.nw g.cw, .slice g.At g.nt g.ct]
def Gv.trees (g : Gv) : List (List Nd) := g.ts.map Tr.l
structure GReads (w : World) (B : Nat) (g : Gv) : Prop where
  ws : IReads w B g.Aw g.nw g.ws
  ts : TReads w B g.At g.nt g.ts
  nw : g.nw ≤ maxLen
  nt : g.nt ≤ maxLen
  nilw : g.Aw = none → g.cw = 0
  nilt : g.At = none → g.ct = 0
section
variable {w w' : World} {B B' : Nat} {g : Gv}
theorem GReads.below (h : GReads w B g) (hb : Below B w w') : GReads w' B g := ⟨h.ws.below hb, h.ts.below hb, h.nw, h.nt, h.nilw, h.nilt⟩
theorem GReads.more (h : GReads w B g) (hB : B ≤ B') : GReads w B' g := ⟨h.ws.more hB, h.ts.more hB, h.nw, h.nt, h.nilw, h.nilt⟩
theorem Gv.trees_len (g : Gv) : g.trees.length = g.ts.length := by simp [Gv.trees]
theorem Gv.trees_at {k : Nat} {r : Tr} (h : g.ts[k]? = some r) : g.trees[k]? = some r.l := by simp [Gv.trees, h]
end

/-- the first weight that is none -/
def weightsE : List Int → Int
  | [] => 0
  | x :: r => if x < 1 then 1 else if 1000 < x then 1 else weightsE r
/-- the first tree that is wrong -/
def treesE (fe : Int) : List (List Nd) → Int
  | [] => 0
  | t :: r => if treeE t fe = 0 then treesE fe r else treeE t fe
/-- what is wrong with a grove -/
def groveE (f way : Int) (ws : List Int) (ts : List (List Nd)) : Int :=
  if f < 0 then 1 else if 8 < f then 1 else if way < 1 then 1 else if 3 < way then 1 else if ts.length = 0 then 5 else if 12 < ts.length then 4 else if ws.length = ts.length then (if weightsE ws = 0 then treesE f ts else weightsE ws) else 3
def Gv.e (g : Gv) : Int := groveE g.f g.way g.ws g.trees
/-- a grove that is right -/
structure GRight (g : Gv) : Prop where
  f0 : 0 ≤ g.f
  f8 : g.f ≤ 8
  way1 : 1 ≤ g.way
  way3 : g.way ≤ 3
  pos : 0 < g.ts.length
  most : g.ts.length ≤ 12
  wlen : g.ws.length = g.ts.length
  weights : ∀ x ∈ g.ws, 1 ≤ x ∧ x ≤ 1000
  trees : ∀ t ∈ g.ts, treeE t.l g.f = 0
theorem weightsE_0 {ws : List Int} (h : weightsE ws = 0) : ∀ x ∈ ws, 1 ≤ x ∧ x ≤ 1000 := by
  induction ws with
  | nil => intro x hx; cases hx
  | cons y r ih =>
    unfold weightsE at h
    by_cases h1 : y < 1
    · rw [if_pos h1] at h; cases h
    · rw [if_neg h1] at h
      by_cases h2 : 1000 < y
      · rw [if_pos h2] at h; cases h
      · rw [if_neg h2] at h
        intro x hx
        rcases List.mem_cons.1 hx with rfl | hx
        · omega
        · exact ih h x hx
theorem weightsE_of {ws : List Int} (h : ∀ x ∈ ws, 1 ≤ x ∧ x ≤ 1000) : weightsE ws = 0 := by
  induction ws with
  | nil => rfl
  | cons y r ih =>
    have := h y (List.mem_cons_self ..)
    unfold weightsE
    rw [if_neg (by omega), if_neg (by omega)]
    exact ih fun x hx => h x (List.mem_cons_of_mem _ hx)
theorem weightsE_bad {ws : List Int} {k : Nat} {x : Int} (h : ws[k]? = some x) (hx : x < 1 ∨ 1000 < x) : weightsE ws = 1 := by
  induction ws generalizing k with
  | nil => simp at h
  | cons y r ih =>
    unfold weightsE
    by_cases h1 : y < 1
    · rw [if_pos h1]
    · rw [if_neg h1]
      by_cases h2 : 1000 < y
      · rw [if_pos h2]
      · rw [if_neg h2]
        cases k with
        | zero => simp at h; omega
        | succ k => exact ih (k := k) (by simpa using h)
theorem treesE_0 {fe : Int} {ts : List (List Nd)} (h : treesE fe ts = 0) : ∀ t ∈ ts, treeE t fe = 0 := by
  induction ts with
  | nil => intro x hx; cases hx
  | cons y r ih =>
    unfold treesE at h
    by_cases h1 : treeE y fe = 0
    · rw [if_pos h1] at h
      intro x hx
      rcases List.mem_cons.1 hx with rfl | hx
      · exact h1
      · exact ih h x hx
    · rw [if_neg h1] at h; exact absurd h h1
theorem treesE_of {fe : Int} {ts : List (List Nd)} (h : ∀ t ∈ ts, treeE t fe = 0) : treesE fe ts = 0 := by
  induction ts with
  | nil => rfl
  | cons y r ih =>
    unfold treesE
    rw [if_pos (h y (List.mem_cons_self ..))]
    exact ih fun x hx => h x (List.mem_cons_of_mem _ hx)
theorem treesE_drop {fe : Int} {ts : List (List Nd)} {k : Nat} {t : List Nd} (h : ts[k]? = some t) : treesE fe (ts.drop k) = if treeE t fe = 0 then treesE fe (ts.drop (k + 1)) else treeE t fe := by
  obtain ⟨hk, e⟩ := List.getElem?_eq_some_iff.1 h
  rw [List.drop_eq_getElem_cons hk, treesE, e]
theorem groveE_right {g : Gv} (h : g.e = 0) : GRight g := by
  unfold Gv.e groveE at h
  by_cases h1 : g.f < 0
  · rw [if_pos h1] at h; cases h
  rw [if_neg h1] at h
  by_cases h2 : 8 < g.f
  · rw [if_pos h2] at h; cases h
  rw [if_neg h2] at h
  by_cases h3 : g.way < 1
  · rw [if_pos h3] at h; cases h
  rw [if_neg h3] at h
  by_cases h4 : 3 < g.way
  · rw [if_pos h4] at h; cases h
  rw [if_neg h4, g.trees_len] at h
  by_cases h5 : g.ts.length = 0
  · rw [if_pos h5] at h; cases h
  rw [if_neg h5] at h
  by_cases h6 : 12 < g.ts.length
  · rw [if_pos h6] at h; cases h
  rw [if_neg h6] at h
  by_cases h7 : g.ws.length = g.ts.length
  · rw [if_pos h7] at h
    by_cases h8 : weightsE g.ws = 0
    · rw [if_pos h8] at h
      exact ⟨by omega, by omega, by omega, by omega, by omega, by omega, h7, weightsE_0 h8, fun t ht => treesE_0 h t.l (List.mem_map.2 ⟨t, ht, rfl⟩)⟩
    · rw [if_neg h8] at h; exact absurd h h8
  · rw [if_neg h7] at h; cases h
theorem GRight.e0 {g : Gv} (h : GRight g) : g.e = 0 := by
  unfold Gv.e groveE
  have := h.f0; have := h.f8; have := h.way1; have := h.way3; have := h.pos; have := h.most
  rw [if_neg (by omega), if_neg (by omega), if_neg (by omega), if_neg (by omega), g.trees_len, if_neg (by omega), if_neg (by omega), if_pos h.wlen, if_pos (weightsE_of h.weights)]
  exact treesE_of fun t ht => by
    obtain ⟨r, hr, rfl⟩ := List.mem_map.1 ht
    exact h.trees r hr

set_option maxRecDepth 100000 in
set_option maxHeartbeats 2000000 in
theorem gcheck_any (g : Gv) (w : World) (hr : GReads w w.heap.size g) :
    Calls Try.prog 13 #[g.val] w fun e w' => e = .returned (errV g.e) ∧ Below w.heap.size w w' := by
  obtain ⟨f, way, Aw, nw, cw, ws, At, nt, ct, ts⟩ := g
  have hlw := hr.ws.len
  have hlt := hr.ts.len
  have hnw := hr.nw
  have hnt := hr.nt
  have hwr := hr.ws
  have htr := hr.ts
  clear hr
  dsimp only at hlw hlt hnw hnt hwr htr
  unfold maxLen at hnw hnt
  simp only [Gv.val]
  have hlt' : (Gv.trees ⟨f, way, Aw, nw, cw, ws, At, nt, ct, ts⟩).length = nt := by rw [Gv.trees_len]; exact hlt
  obtain ⟨T, hT⟩ : ∃ T, T = Gv.trees ⟨f, way, Aw, nw, cw, ws, At, nt, ct, ts⟩ := ⟨_, rfl⟩
  have hE : (Gv.e ⟨f, way, Aw, nw, cw, ws, At, nt, ct, ts⟩) = groveE f way ws T := by rw [hT]; rfl
  rw [hE]
  rw [← hT] at hlt'
  have HT := hide hT
  have HLT := hide hlt'
  have HLW := hide hlw
  have HL := hide hlt
  clear hE hT hlt' hlw hlt
  have hb0 : Below w.heap.size w (w.alloc (.cells #[.int .i64 f, .int .i64 way, .slice Aw nw cw, .slice At nt ct] 25)) := (Below.refl _ _).alloc (Nat.le_refl _) _
  by_cases h1 : f < 0
  · have HE : Hid (groveE f way ws T = 1) := hide (by unfold groveE; rw [if_pos h1])
    go_enter Try.func13, Try.ntmps13
    go_wp2_with fail
    go_ret
    exact ⟨by rw [unhide HE]; rfl, hb0⟩
  have d1 : decide (f < 0) = false := decide_eq_false h1
  by_cases h2 : 8 < f
  · have HE : Hid (groveE f way ws T = 1) := hide (by unfold groveE; rw [if_neg h1, if_pos h2])
    have d2 : decide (8 < f) = true := decide_eq_true h2
    go_enter Try.func13, Try.ntmps13
    go_wp2_with fail
    go_ret
    exact ⟨by rw [unhide HE]; rfl, hb0⟩
  have d2 : decide (8 < f) = false := decide_eq_false h2
  by_cases h3 : way < 1
  · have HE : Hid (groveE f way ws T = 1) := hide (by unfold groveE; rw [if_neg h1, if_neg h2, if_pos h3])
    have d3 : decide (way < 1) = true := decide_eq_true h3
    go_enter Try.func13, Try.ntmps13
    go_wp2_with fail
    go_ret
    exact ⟨by rw [unhide HE]; rfl, hb0⟩
  have d3 : decide (way < 1) = false := decide_eq_false h3
  by_cases h4 : 3 < way
  · have HE : Hid (groveE f way ws T = 1) := hide (by unfold groveE; rw [if_neg h1, if_neg h2, if_neg h3, if_pos h4])
    have d4 : decide (3 < way) = true := decide_eq_true h4
    go_enter Try.func13, Try.ntmps13
    go_wp2_with fail
    go_ret
    exact ⟨by rw [unhide HE]; rfl, hb0⟩
  have d4 : decide (3 < way) = false := decide_eq_false h4
  by_cases h5 : nt = 0
  · have HE : Hid (groveE f way ws T = 5) := hide (by unfold groveE; rw [if_neg h1, if_neg h2, if_neg h3, if_neg h4, unhide HLT, if_pos h5])
    have d5 : ((nt : Int) == 0) = true := by simp [h5]
    clear h5
    go_enter Try.func13, Try.ntmps13
    go_wp2_with fail
    go_ret
    exact ⟨by rw [unhide HE]; rfl, hb0⟩
  have d5 : ((nt : Int) == 0) = false := by simp; omega
  by_cases h6 : 12 < nt
  · have HE : Hid (groveE f way ws T = 4) := hide (by unfold groveE; rw [if_neg h1, if_neg h2, if_neg h3, if_neg h4, unhide HLT, if_neg h5, if_pos h6])
    have d6 : decide (12 < nt) = true := decide_eq_true h6
    go_enter Try.func13, Try.ntmps13
    go_wp2_with fail
    go_ret
    exact ⟨by rw [unhide HE]; rfl, hb0⟩
  have d6 : decide (12 < nt) = false := decide_eq_false h6
  by_cases h7 : nw = nt
  case neg =>
    have HE : Hid (groveE f way ws T = 3) := hide (by unfold groveE; rw [if_neg h1, if_neg h2, if_neg h3, if_neg h4, unhide HLT, if_neg h5, if_neg h6, if_neg (by rw [unhide HLW]; exact h7)])
    have d7 : ((nw : Int) != (nt : Int)) = true := by simp; omega
    go_enter Try.func13, Try.ntmps13
    go_wp2_with fail
    go_ret
    exact ⟨by rw [unhide HE]; rfl, hb0⟩
  subst h7
  have HE : Hid (groveE f way ws T = if weightsE ws = 0 then treesE f T else weightsE ws) := hide (by unfold groveE; rw [if_neg h1, if_neg h2, if_neg h3, if_neg h4, unhide HLT, if_neg h5, if_neg h6, if_pos (unhide HLW)])
  have hn12 : nw ≤ 12 := by omega
  clear h6 h5
  go_enter Try.func13, Try.ntmps13
  go_wp2_with fail
  obtain ⟨W, hW⟩ : ∃ W, W = w.alloc (.cells #[.int .i64 f, .int .i64 way, .slice Aw nw cw, .slice At nw ct] 25) := ⟨_, rfl⟩
  rw [← hW] at hb0 ⊢
  have bx : Blk W w.heap.size 25 #[.int .i64 f, .int .i64 way, .slice Aw nw cw, .slice At nw ct] := by rw [hW]; exact Blk.new _ _ _
  have hWs : W.heap.size = w.heap.size + 1 := by rw [hW]; simp
  clear hW
  have c0 := bx.cell 0
  have c3 := bx.cell 3
  simp at c0 c3
  have hwr1 := hwr.below hb0
  have htr1 := htr.below hb0
  clear hwr d5 d6 htr1
  go_loop [53] (fun i => ∃ k : Nat, k ≤ nw ∧ i = .int .i64 k ∧ Hid (∀ x ∈ ws.take k, 1 ≤ x ∧ x ≤ 1000)) (fun i => nw - (intOf i).toNat)
  case atStart => exact ⟨0, Nat.zero_le _, rfl, hide (by simp)⟩
  case round =>
    obtain ⟨k, hk, rfl, HG⟩ := hrel
    by_cases hlt : k < nw
    · obtain ⟨b, o, x, rfl, _, hx, hcx⟩ := hwr1.get hlt
      have HX := hide hx
      clear hx
      by_cases hx1 : x < 1
      · have HZ : Hid (groveE f way ws T = 1) := hide (by rw [unhide HE, weightsE_bad (unhide HX) (.inl hx1)]; rfl)
        have e1 : decide (x < 1) = true := decide_eq_true hx1
        go_wp2_with fail
        go_ret
        exact ⟨by rw [unhide HZ]; rfl, hb0⟩
      · have e1 : decide (x < 1) = false := decide_eq_false hx1
        by_cases hx2 : 1000 < x
        · have HZ : Hid (groveE f way ws T = 1) := hide (by rw [unhide HE, weightsE_bad (unhide HX) (.inr hx2)]; rfl)
          have e2 : decide (1000 < x) = true := decide_eq_true hx2
          go_wp2_with fail
          go_ret
          exact ⟨by rw [unhide HZ]; rfl, hb0⟩
        · have e2 : decide (1000 < x) = false := decide_eq_false hx2
          go_wp2_with fail
          go_round
          case rel => exact ⟨k + 1, by omega, by go_num, hide (by
            rw [take_next (unhide HX)]
            intro y hy
            rcases List.mem_append.1 hy with hy | hy
            · exact (unhide HG) y hy
            · simp at hy; subst hy; omega)⟩
          case measure => simp [intOf]; omega
    · obtain rfl : k = nw := by omega
      have hG := unhide HG
      rw [List.take_of_length_le (by rw [unhide HLW]; exact Nat.le_refl _)] at hG
      have HZ : Hid (groveE f way ws T = treesE f (T.drop 0)) := hide (by rw [unhide HE, if_pos (weightsE_of hG), List.drop_zero])
      clear hG
      go_wp2_with fail
      go_loopw [68] (fun i wr => ∃ j : Nat, j ≤ k ∧ i = .int .i64 j ∧ Hid (groveE f way ws T = treesE f (T.drop j)) ∧ Below w.heap.size w wr ∧ wr.cell? ⟨w.heap.size, 0, none⟩ = some (.int .i64 f) ∧ w.heap.size + 1 ≤ wr.heap.size) (fun i _ => k - (intOf i).toNat)
      case atStart => exact ⟨0, Nat.zero_le _, rfl, HZ, hb0, c0, by omega⟩
      case round =>
        obtain ⟨j, hj, rfl, HY, hbel, cc0, hws⟩ := hrel
        by_cases hlj : j < k
        · obtain ⟨b, o, r, rfl, _, hx, hcx, hok⟩ := (htr.below hbel).get hlj
          have hTk : T[j]? = some r.l := by rw [unhide HT]; exact Gv.trees_at hx
          have HD := hide (treesE_drop (fe := f) hTk)
          have hz := hbel.size
          obtain ⟨rA, rn, rc, rl⟩ := r
          dsimp only at hcx HD
          have hck := hide (check_any rA rn rc f rl wr (hok.reads.more hz) hok.len)
          clear hx hTk hok
          by_cases ht0 : treeE rl f = 0
          · have HN : Hid (groveE f way ws T = treesE f (T.drop (j + 1))) := hide (by rw [unhide HY, unhide HD, if_pos ht0])
            have hv := errV_0 ht0
            clear ht0
            go_wp2_with fail
            refine (unhide hck).mono ?_
            rintro e w2 ⟨rfl, hb2⟩
            rw [hv]
            clear hv hck
            have hc2 : w2.cell? ⟨w.heap.size, 0, none⟩ = some (.int .i64 f) := (hb2.cell (p := ⟨w.heap.size, 0, none⟩) (by show w.heap.size < _; omega)).trans cc0
            have hz2 := hb2.size
            go_wp2_with fail
            go_roundw
            case rel => exact ⟨j + 1, by omega, by go_num, HN, hbel.trans (hb2.mono hz), hc2, by omega⟩
            case measure => simp [intOf]; omega
          · have HN : Hid (groveE f way ws T = treeE rl f) := hide (by rw [unhide HY, unhide HD, if_neg ht0])
            have hv := errV_1 ht0
            have HV := hide hv
            clear ht0
            go_wp2_with fail
            refine (unhide hck).mono ?_
            rintro e w2 ⟨rfl, hb2⟩
            rw [hv]
            clear hv hck
            go_wp2_with fail
            go_ret
            exact ⟨by rw [unhide HN, unhide HV]; rfl, hbel.trans (hb2.mono hz)⟩
        · obtain rfl : j = k := by omega
          have HZ2 : Hid (groveE f way ws T = 0) := hide (by rw [unhide HY, List.drop_eq_nil_of_le (by rw [unhide HLT]; exact Nat.le_refl _)]; rfl)
          go_wp2_with fail
          go_ret
          exact ⟨by rw [unhide HZ2]; rfl, hbel⟩
end Go.Proofs.Ytopncifebldklaa
