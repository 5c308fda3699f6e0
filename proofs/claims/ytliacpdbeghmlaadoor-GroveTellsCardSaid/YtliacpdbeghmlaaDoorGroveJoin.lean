/- grove.Join: contract. Conditions: two arguments that read as groves. -/
import Derived.Test.YtliacpdbeghmlaaDoorGroveBnd
import Derived.Deep.DeepCutAuto
import Derived.Deep.CutRange
namespace Go.Proofs.YtliacpdbeghmlaaDoor
set_option linter.unusedVariables false
set_option linter.unusedSimpArgs false
open Go.RowKit

def joinE (a b : Gv) : Int := if a.e = 0 then (if b.e = 0 then (if a.f = b.f then (if a.way = b.way then (if 12 < a.ts.length + b.ts.length then 4 else 0) else 3) else 3) else b.e) else a.e
def JoinIs (a b g : Gv) : Prop := if joinE a b = 0 then g.f = a.f ∧ g.way = a.way ∧ g.ws = a.ws ++ b.ws ∧ g.trees = a.trees ++ b.trees else g.f = 0 ∧ g.way = 0 ∧ g.ws = [] ∧ g.ts = []
def JoinPost (a b : Gv) (w : World) (e : Ending) (w' : World) : Prop :=
  ∃ g : Gv, e = .returned (.tuple #[g.val, errV (joinE a b)]) ∧ GReads w' w'.heap.size g ∧ JoinIs a b g ∧ Below w.heap.size w w'
def gZero : Gv := ⟨0, 0, none, 0, 0, [], none, 0, 0, []⟩
theorem gZero_reads (w : World) (B : Nat) : GReads w B gZero := ⟨IReads.nil_, ⟨⟨by simp [gZero], fun h => absurd h (by simp [gZero])⟩, fun r hr => by cases hr⟩, Nat.zero_le _, Nat.zero_le _, fun _ => rfl, fun _ => rfl⟩
theorem JoinPost.fault {a b : Gv} {w w' : World} {E : Int} (hE : joinE a b = E) (h0 : E ≠ 0) (hb : Below w.heap.size w w') : JoinPost a b w (.returned (.tuple #[.agg #[.int .i64 0, .int .i64 0, .slice none 0 0, .slice none 0 0], errV E])) w' :=
  ⟨gZero, by rw [hE]; rfl, gZero_reads _ _, by unfold JoinIs; rw [if_neg (by rw [hE]; exact h0)]; exact ⟨rfl, rfl, rfl, rfl⟩, hb⟩

theorem Reads.grownBy {w w' : World} {B size n : Nat} {A : Option Addr} {xs : List Value} (h : Reads w B size A n xs) (hB : B ≤ w.heap.size) {row : Option Nat} (hg : w.grownBy w' row) (hne : 0 < n → ∀ a, A = some a → row ≠ some a.block) : Reads w' B size A n xs :=
  ⟨h.1, fun hn => by
    obtain ⟨ad, e, hb, hc⟩ := h.2 hn
    refine ⟨ad, e, hb, fun j v hv => ?_⟩
    rw [← hc j v hv]
    exact World.cell?_of_block (hg.block _ (by rw [block_of_add]; omega) (fun e' => hne hn ad e (by rw [← block_of_add ad j]; exact e'.symm)))⟩

theorem jbox (w : World) (f way : Int) (Aw : Option Addr) (nw cw : Nat) (At : Option Addr) (nt ct : Nat) (f' way' : Int) (Aw' : Option Addr) (nw' cw' : Nat) (At' : Option Addr) (nt' ct' : Nat) : ∃ W, W = (((w.alloc (.cells #[.int .i64 f, .int .i64 way, .slice Aw nw cw, .slice At nt ct] 45)).alloc (.cells #[.int .i64 f', .int .i64 way', .slice Aw' nw' cw', .slice At' nt' ct'] 45)).alloc
      (.cells #[.int .i64 0, .int .i64 0, .slice none 0 0, .slice none 0 0] 45)).alloc (.cells #[.int .i64 f, .int .i64 way, .slice Aw nw cw, .slice At nt ct, .int .i64 f', .int .i64 way', .slice Aw' nw' cw', .slice At' nt' ct'] 45) ∧
    Blk W w.heap.size 45 #[.int .i64 f, .int .i64 way, .slice Aw nw cw, .slice At nt ct] ∧ Blk W (w.heap.size + 1) 45 #[.int .i64 f', .int .i64 way', .slice Aw' nw' cw', .slice At' nt' ct'] ∧
    Blk W (w.heap.size + 1 + 1) 45 #[.int .i64 0, .int .i64 0, .slice none 0 0, .slice none 0 0] ∧ Blk W (w.heap.size + 1 + 1 + 1) 45 #[.int .i64 f, .int .i64 way, .slice Aw nw cw, .slice At nt ct, .int .i64 f', .int .i64 way', .slice Aw' nw' cw', .slice At' nt' ct'] ∧
    W.heap.size = w.heap.size + 1 + 1 + 1 + 1 ∧ Below w.heap.size w W := by
  refine ⟨_, rfl, (((Blk.new _ _ _).alloc _).alloc _).alloc _, ?_, ?_, ?_, by simp, ((((Below.refl _ _).alloc (Nat.le_refl _) _).alloc (by simp) _).alloc (by simp; omega) _).alloc (by simp; omega) _⟩
  · have := Blk.new (w.alloc (.cells #[.int .i64 f, .int .i64 way, .slice Aw nw cw, .slice At nt ct] 45)) 45 #[.int .i64 f', .int .i64 way', .slice Aw' nw' cw', .slice At' nt' ct']
    rw [World.size_alloc] at this
    exact (this.alloc _).alloc _
  · have := Blk.new ((w.alloc (.cells #[.int .i64 f, .int .i64 way, .slice Aw nw cw, .slice At nt ct] 45)).alloc (.cells #[.int .i64 f', .int .i64 way', .slice Aw' nw' cw', .slice At' nt' ct'] 45)) 45 #[.int .i64 0, .int .i64 0, .slice none 0 0, .slice none 0 0]
    rw [World.size_alloc, World.size_alloc] at this
    exact this.alloc _
  · have := Blk.new (((w.alloc (.cells #[.int .i64 f, .int .i64 way, .slice Aw nw cw, .slice At nt ct] 45)).alloc (.cells #[.int .i64 f', .int .i64 way', .slice Aw' nw' cw', .slice At' nt' ct'] 45)).alloc (.cells #[.int .i64 0, .int .i64 0, .slice none 0 0, .slice none 0 0] 45)) 45 #[.int .i64 f, .int .i64 way, .slice Aw nw cw, .slice At nt ct, .int .i64 f', .int .i64 way', .slice Aw' nw' cw', .slice At' nt' ct']
    rw [World.size_alloc, World.size_alloc, World.size_alloc] at this
    exact this
/-- four cells written into a box -/
theorem wbox {w : World} {g : Nat} {T : TypeId} {x0 x1 x2 x3 : Value} (h : Blk w g T #[x0, x1, x2, x3]) (y0 y1 y2 y3 : Value) : ∃ W, W = (((w.setCell ⟨g, 0, none⟩ y0).setCell ⟨g, 1, none⟩ y1).setCell ⟨g, 2, none⟩ y2).setCell ⟨g, 3, none⟩ y3 ∧
    Blk W g T #[y0, y1, y2, y3] ∧ W.heap.size = w.heap.size ∧ Below g w W ∧ w.grownBy W (some g) := by
  refine ⟨_, rfl, ?_, by simp [World.setCell], ((((Below.refl _ _).setCell (p := ⟨g, 0, none⟩) (Nat.le_refl _) _).setCell (p := ⟨g, 1, none⟩) (Nat.le_refl _) _).setCell (p := ⟨g, 2, none⟩) (Nat.le_refl _) _).setCell (p := ⟨g, 3, none⟩) (Nat.le_refl _) _, only_setCell (p := ⟨g, 3, none⟩) (only_setCell (p := ⟨g, 2, none⟩) (only_setCell (p := ⟨g, 1, none⟩) (only_setCell (p := ⟨g, 0, none⟩) (World.grownBy.refl w _) (.inl rfl) _) (.inl rfl) _) (.inl rfl) _) (.inl rfl) _⟩
  · have := (((h.set_ 0 y0).set_ 1 y1).set_ 2 y2).set_ 3 y3
    simpa using this
theorem GOwn.kept {w W : World} {base q : Nat} {g : Gv} (h : GOwn w base g) (hg : w.grownBy W (some q)) (hq : q < base) : GOwn W base g := by
  have ne : ∀ {e : TypeId} {size n : Nat} {v : Value} {xs : List Value}, w.ownsRow base e size v n xs → W.ownsRow base e size v n xs := fun ho => by
    refine ho.kept hg ?_
    rename_i v _
    rcases hv : v.ownBlock with _ | k
    · exact .inl rfl
    · exact .inr fun e => by have := (ho.lt k hv).1; injection e with e; omega
  refine ⟨ne h.ws, ne h.ts, fun r hr => ?_⟩
  obtain ⟨h1, h2⟩ := h.each r hr
  exact ⟨⟨(Reads.grownBy h1.reads (Nat.le_refl _) hg (fun hn a ha e => by have := (h2 hn a ha).2.2; injection e with e; omega)).more hg.size, h1.len, h1.nil⟩, h2⟩
theorem GOwn.below {w W : World} {base : Nat} {g : Gv} (h : GOwn w base g) (hb : Below w.heap.size w W) : GOwn W base g :=
  ⟨own_below h.ws hb, own_below h.ts hb, fun r hr => ⟨((h.each r hr).1.below hb).more hb.size, (h.each r hr).2⟩⟩
/-- a row of another element type -/
theorem own_kept0 {wr w' : World} {base base' : Nat} {e e' : TypeId} {size size' n n' : Nat} {v v' : Value} {xs xs' : List Value} (h : wr.ownsRow base e size v n xs) (h' : wr.ownsRow base' e' size' v' n' xs') (hne : e ≠ e') (hg : wr.grownBy w' v'.ownBlock) : w'.ownsRow base e size v n xs := by
  refine h.kept hg ?_
  rcases h.2 with ⟨rfl, _⟩ | ⟨g, cap, cur, rfl, _, hh, _⟩
  · exact .inl rfl
  · refine .inr ?_
    have := own_blk_ne (g := g) (t := e) (cs := cur) h' hh (Ne.symm hne)
    exact fun e => this e.symm

set_option maxRecDepth 100000 in
set_option maxHeartbeats 4000000 in
theorem join_any (a b : Gv) (w : World) (ha : GReads w w.heap.size a) (hb : GReads w w.heap.size b) :
    Calls Tryd.prog 26 #[a.val, b.val] w (JoinPost a b w) := by
  have hca : Hid (∀ W, Below w.heap.size w W → Calls Tryd.prog 17 #[a.val] W fun e w' => e = .returned (errV a.e) ∧ Below W.heap.size W w') := hide (fun W hB => gcheck_any a W ((ha.below hB).more hB.size))
  have hcb : Hid (∀ W, Below w.heap.size w W → Calls Tryd.prog 17 #[b.val] W fun e w' => e = .returned (errV b.e) ∧ Below W.heap.size W w') := hide (fun W hB => gcheck_any b W ((hb.below hB).more hB.size))
  have HJ : Hid (joinE a b = if a.e = 0 then (if b.e = 0 then (if a.f = b.f then (if a.way = b.way then (if 12 < a.ts.length + b.ts.length then 4 else 0) else 3) else 3) else b.e) else a.e) := hide rfl
  by_cases h1 : a.e = 0
  case neg =>
    have HE : Hid (joinE a b = a.e) := hide (by rw [unhide HJ, if_neg h1])
    have hv := errV_1 h1
    have HV := hide hv
    have H1 := hide h1
    obtain ⟨E, hE⟩ : ∃ E, E = a.e := ⟨_, rfl⟩
    rw [← hE] at hca hv HV HE H1
    clear HJ h1 hE ha hb hcb
    obtain ⟨f, way, Aw, nw, cw, ws, At, nt, ct, ts⟩ := a
    obtain ⟨f', way', Aw', nw', cw', ws', At', nt', ct', ts'⟩ := b
    simp only [Gv.val] at hca ⊢
    obtain ⟨W, hW, ba, bb, br, bl, hWs, hB0⟩ := jbox w f way Aw nw cw At nt ct f' way' Aw' nw' cw' At' nt' ct'
    have l0 := bl.cell 0
    have l1 := bl.cell 1
    have l2 := bl.cell 2
    have l3 := bl.cell 3
    simp at l0 l1 l2 l3
    have hB1 : Below w.heap.size w (W.alloc (.cells #[.int .i64 f, .int .i64 way, .slice Aw nw cw, .slice At nt ct] 45)) := hB0.alloc (by omega) _
    have br1 := br.alloc (.cells #[.int .i64 f, .int .i64 way, .slice Aw nw cw, .slice At nt ct] 45)
    have hc1 := hide (unhide hca _ hB1)
    go_enter Tryd.func26, Tryd.ntmps26
    go_wp2_with fail
    rw [← hW]
    clear hW hca
    refine wp_loop_rounds 3 ?_
    rw [rounds_succ]
    go_wp2_with fail
    refine (unhide hc1).mono ?_
    rintro e w1 ⟨rfl, hb1⟩
    rw [hv]
    have br2 := br1.below hb1 (by simp; omega)
    obtain ⟨y0, y1, y2, y3⟩ := br2.cells4
    obtain ⟨WF, hWF, bF, _, hbF, _⟩ := wbox br2 (.int .i64 0) (.int .i64 0) (.slice none 0 0) (.slice none 0 0)
    have hBF : Below w.heap.size w WF := (hB1.trans (hb1.mono hB1.size)).trans (hbF.mono (by omega))
    obtain ⟨k0, k1, k2, k3⟩ := bF.cells4
    have f0 := br2.frozen 0
    have f1 := br2.frozen 1
    have f2 := br2.frozen 2
    have f3 := br2.frozen 3
    clear hv hc1
    have HWF := hide hWF
    clear hWF
    go_wp2_with fail
    rw [← unhide HWF]
    refine bodyPost_ret (v := .tuple #[.agg #[.int .i64 0, .int .i64 0, .slice none 0 0, .slice none 0 0], .iface 61 (.int .i64 E)]) (by simp [results, Tryd.results26, go_sem, k0, k1, k2, k3]) rfl ?_
    rw [← unhide HV]
    exact JoinPost.fault (unhide HE) (unhide H1) hBF
  have hv1 := errV_0 h1
  have HV1 := hide hv1
  by_cases h2 : b.e = 0
  case neg =>
    have HE : Hid (joinE a b = b.e) := hide (by rw [unhide HJ, if_pos h1, if_neg h2])
    have hv := errV_1 h2
    have HV := hide hv
    have H2 := hide h2
    obtain ⟨E, hE⟩ : ∃ E, E = b.e := ⟨_, rfl⟩
    rw [← hE] at hcb hv HV HE H2
    clear HJ h1 h2 hE ha hb hv1 hv
    obtain ⟨f, way, Aw, nw, cw, ws, At, nt, ct, ts⟩ := a
    obtain ⟨f', way', Aw', nw', cw', ws', At', nt', ct', ts'⟩ := b
    simp only [Gv.val] at hca hcb ⊢
    obtain ⟨W, hW, ba, bb, br, bl, hWs, hB0⟩ := jbox w f way Aw nw cw At nt ct f' way' Aw' nw' cw' At' nt' ct'
    have l0 := bl.cell 0
    have l1 := bl.cell 1
    have l2 := bl.cell 2
    have l3 := bl.cell 3
    simp at l0 l1 l2 l3
    have hB1 : Below w.heap.size w (W.alloc (.cells #[.int .i64 f, .int .i64 way, .slice Aw nw cw, .slice At nt ct] 45)) := hB0.alloc (by omega) _
    have br1 := br.alloc (.cells #[.int .i64 f, .int .i64 way, .slice Aw nw cw, .slice At nt ct] 45)
    have bl1 := bl.alloc (.cells #[.int .i64 f, .int .i64 way, .slice Aw nw cw, .slice At nt ct] 45)
    have hs1 : (W.alloc (.cells #[.int .i64 f, .int .i64 way, .slice Aw nw cw, .slice At nt ct] 45)).heap.size = w.heap.size + 1 + 1 + 1 + 1 + 1 := by rw [World.size_alloc, hWs]
    have hc1 := hide (unhide hca _ hB1)
    go_enter Tryd.func26, Tryd.ntmps26
    go_wp2_with fail
    rw [← hW]
    clear hW hca
    refine wp_loop_rounds 3 ?_
    rw [rounds_succ]
    go_wp2_with fail
    refine (unhide hc1).mono ?_
    rintro e w1 ⟨rfl, hb1⟩
    rw [unhide HV1]
    have z1 := hb1.size
    have br2 := br1.below hb1 (by omega)
    have bl2 := bl1.below hb1 (by omega)
    have hBw1 := hB1.trans (hb1.mono (by omega))
    clear br1 bl1 br bl ba bb hc1 hb1 hB1 hB0 l0 l1 l2 l3
    have l4 := bl2.cell 4
    have l5 := bl2.cell 5
    have l6 := bl2.cell 6
    have l7 := bl2.cell 7
    simp at l4 l5 l6 l7
    have hB3 : Below w.heap.size w (w1.alloc (.cells #[.int .i64 f', .int .i64 way', .slice Aw' nw' cw', .slice At' nt' ct'] 45)) := hBw1.alloc (by omega) _
    have br3 := br2.alloc (.cells #[.int .i64 f', .int .i64 way', .slice Aw' nw' cw', .slice At' nt' ct'] 45)
    have hs3 : (w1.alloc (.cells #[.int .i64 f', .int .i64 way', .slice Aw' nw' cw', .slice At' nt' ct'] 45)).heap.size = w1.heap.size + 1 := by simp
    have hc2 := hide (unhide hcb _ hB3)
    clear hcb br2 bl2
    go_wp2_with fail
    rw [rounds_succ]
    go_wp2_with fail
    refine (unhide hc2).mono ?_
    rintro e w3 ⟨rfl, hb3⟩
    rw [unhide HV]
    have br4 := br3.below hb3 (by omega)
    obtain ⟨y0, y1, y2, y3⟩ := br4.cells4
    obtain ⟨WF, hWF, bF, _, hbF, _⟩ := wbox br4 (.int .i64 0) (.int .i64 0) (.slice none 0 0) (.slice none 0 0)
    have hBF : Below w.heap.size w WF := (hB3.trans (hb3.mono hB3.size)).trans (hbF.mono (by omega))
    obtain ⟨k0, k1, k2, k3⟩ := bF.cells4
    have f0 := br4.frozen 0
    have f1 := br4.frozen 1
    have f2 := br4.frozen 2
    have f3 := br4.frozen 3
    clear hc2 br3 hb3
    have HWF := hide hWF
    clear hWF
    go_wp2_with fail
    rw [← unhide HWF]
    refine bodyPost_ret (v := .tuple #[.agg #[.int .i64 0, .int .i64 0, .slice none 0 0, .slice none 0 0], .iface 61 (.int .i64 E)]) (by simp [results, Tryd.results26, go_sem, k0, k1, k2, k3]) rfl ?_
    rw [← unhide HV]
    exact JoinPost.fault (unhide HE) (unhide H2) hBF
  have hv2 := errV_0 h2
  have HV2 := hide hv2
  have hGa := groveE_right h1
  have hGb := groveE_right h2
  have HJ2 : Hid (joinE a b = if a.f = b.f then (if a.way = b.way then (if 12 < a.nt + b.nt then 4 else 0) else 3) else 3) := hide (by rw [unhide HJ, if_pos h1, if_pos h2, ← ha.ts.len, ← hb.ts.len])
  have hnta : a.nt ≤ 12 ∧ a.nw ≤ 12 := by have := ha.ts.len; have := ha.ws.len; have := hGa.most; have := hGa.wlen; omega
  have hntb : b.nt ≤ 12 ∧ b.nw ≤ 12 := by have := hb.ts.len; have := hb.ws.len; have := hGb.most; have := hGb.wlen; omega
  have hea : ∀ r ∈ a.ts, r.n ≤ 100000 := fun r hr => by have := (ha.ts.2 r hr).reads.len; have := (right_of (hGa.trees r hr)).most; omega
  have heb : ∀ r ∈ b.ts, r.n ≤ 100000 := fun r hr => by have := (hb.ts.2 r hr).reads.len; have := (right_of (hGb.trees r hr)).most; omega
  have hcla : Hid (∀ W, Below w.heap.size w W → Calls Tryd.prog 42 #[a.val] W (ClonePost a W)) := hide (fun W hB => gclone_any a W ((ha.below hB).more hB.size) (by omega) (by omega) hea)
  have hclb : Hid (∀ W, Below w.heap.size w W → Calls Tryd.prog 42 #[b.val] W (ClonePost b W)) := hide (fun W hB => gclone_any b W ((hb.below hB).more hB.size) (by omega) (by omega) heb)
  have HP : Hid (JoinPost a b w = JoinPost a b w) := hide rfl
  obtain ⟨PP, hPP⟩ : ∃ PP, PP = JoinPost a b w := ⟨_, rfl⟩
  rw [← hPP]
  have HPP := hide hPP
  have hla := ha.ws.len
  have hlb := hb.ws.len
  have hlta := ha.ts.len
  have hltb := hb.ts.len
  clear HJ h1 h2 ha hb hv1 hv2 hPP HP hGa hGb hea heb
  obtain ⟨f, way, Aw, nw, cw, ws, At, nt, ct, ts⟩ := a
  obtain ⟨f', way', Aw', nw', cw', ws', At', nt', ct', ts'⟩ := b
  simp only [Gv.val] at hca hcb hcla hclb ⊢
  dsimp only at hla hlb hlta hltb HJ2 hnta hntb
  obtain ⟨W, hW, ba, bb, br, bl, hWs, hB0⟩ := jbox w f way Aw nw cw At nt ct f' way' Aw' nw' cw' At' nt' ct'
  have l0 := bl.cell 0
  have l1 := bl.cell 1
  have l2 := bl.cell 2
  have l3 := bl.cell 3
  simp at l0 l1 l2 l3
  have hB1 : Below w.heap.size w (W.alloc (.cells #[.int .i64 f, .int .i64 way, .slice Aw nw cw, .slice At nt ct] 45)) := hB0.alloc (by omega) _
  have ba1 := ba.alloc (.cells #[.int .i64 f, .int .i64 way, .slice Aw nw cw, .slice At nt ct] 45)
  have bb1 := bb.alloc (.cells #[.int .i64 f, .int .i64 way, .slice Aw nw cw, .slice At nt ct] 45)
  have br1 := br.alloc (.cells #[.int .i64 f, .int .i64 way, .slice Aw nw cw, .slice At nt ct] 45)
  have bl1 := bl.alloc (.cells #[.int .i64 f, .int .i64 way, .slice Aw nw cw, .slice At nt ct] 45)
  have hs1 : (W.alloc (.cells #[.int .i64 f, .int .i64 way, .slice Aw nw cw, .slice At nt ct] 45)).heap.size = w.heap.size + 1 + 1 + 1 + 1 + 1 := by rw [World.size_alloc, hWs]
  have hc1 := hide (unhide hca _ hB1)
  go_enter Tryd.func26, Tryd.ntmps26
  go_wp2_with fail
  rw [← hW]
  clear hW hca
  refine wp_loop_rounds 3 ?_
  rw [rounds_succ]
  go_wp2_with fail
  refine (unhide hc1).mono ?_
  rintro e w1 ⟨rfl, hb1⟩
  rw [unhide HV1]
  have z1 := hb1.size
  have ba2 := ba1.below hb1 (by omega)
  have bb2 := bb1.below hb1 (by omega)
  have br2 := br1.below hb1 (by omega)
  have bl2 := bl1.below hb1 (by omega)
  have hBw1 := hB1.trans (hb1.mono (by omega))
  clear ba1 bb1 br1 bl1 br bl ba bb hc1 hb1 hB1 hB0 l0 l1 l2 l3
  have l4 := bl2.cell 4
  have l5 := bl2.cell 5
  have l6 := bl2.cell 6
  have l7 := bl2.cell 7
  simp at l4 l5 l6 l7
  have hB3 : Below w.heap.size w (w1.alloc (.cells #[.int .i64 f', .int .i64 way', .slice Aw' nw' cw', .slice At' nt' ct'] 45)) := hBw1.alloc (by omega) _
  have ba3 := ba2.alloc (.cells #[.int .i64 f', .int .i64 way', .slice Aw' nw' cw', .slice At' nt' ct'] 45)
  have bb3 := bb2.alloc (.cells #[.int .i64 f', .int .i64 way', .slice Aw' nw' cw', .slice At' nt' ct'] 45)
  have br3 := br2.alloc (.cells #[.int .i64 f', .int .i64 way', .slice Aw' nw' cw', .slice At' nt' ct'] 45)
  have hs3 : (w1.alloc (.cells #[.int .i64 f', .int .i64 way', .slice Aw' nw' cw', .slice At' nt' ct'] 45)).heap.size = w1.heap.size + 1 := by simp
  have hc2 := hide (unhide hcb _ hB3)
  clear hcb ba2 bb2 br2 bl2
  go_wp2_with fail
  rw [rounds_succ]
  go_wp2_with fail
  refine (unhide hc2).mono ?_
  rintro e w3 ⟨rfl, hb3⟩
  rw [unhide HV2]
  have z3 := hb3.size
  have ba4 := ba3.below hb3 (by omega)
  have bb4 := bb3.below hb3 (by omega)
  have br4 := br3.below hb3 (by omega)
  have hBw3 := hB3.trans (hb3.mono (by omega))
  have hs4 : w.heap.size + 1 + 1 + 1 + 1 + 1 + 1 ≤ w3.heap.size := by omega
  clear ba3 bb3 br3 hc2 hb3 hB3 hBw1 l4 l5 l6 l7 z3 hs3 z1 hs1 hWs
  obtain ⟨a0, a1, a2, a3⟩ := ba4.cells4
  obtain ⟨b0, b1, b2, b3⟩ := bb4.cells4
  by_cases h3 : f = f'
  case neg =>
    have HE : Hid (joinE ⟨f, way, Aw, nw, cw, ws, At, nt, ct, ts⟩ ⟨f', way', Aw', nw', cw', ws', At', nt', ct', ts'⟩ = 3) := hide (by rw [unhide HJ2, if_neg h3])
    have q1 : (f != f') = true := bne_iff_ne.2 h3
    clear h3
    obtain ⟨y0, y1, y2, y3⟩ := br4.cells4
    obtain ⟨WF, hWF, bF, _, hbF, _⟩ := wbox br4 (.int .i64 0) (.int .i64 0) (.slice none 0 0) (.slice none 0 0)
    have hBF : Below w.heap.size w WF := hBw3.trans (hbF.mono (by omega))
    obtain ⟨k0, k1, k2, k3⟩ := bF.cells4
    have f0 := br4.frozen 0
    have f1 := br4.frozen 1
    have f2 := br4.frozen 2
    have f3 := br4.frozen 3
    have HWF := hide hWF
    clear hWF
    go_wp2_with fail
    rw [rounds_succ]
    go_wp2_with fail
    rw [← unhide HWF]
    refine bodyPost_ret (v := .tuple #[.agg #[.int .i64 0, .int .i64 0, .slice none 0 0, .slice none 0 0], errV 3]) (by simp [results, Tryd.results26, go_sem, k0, k1, k2, k3, errV]) rfl ?_
    rw [unhide HPP]
    exact JoinPost.fault (unhide HE) (by decide) hBF
  have q1 : (f != f') = false := by simp [h3]
  by_cases h4 : way = way'
  case neg =>
    have HE : Hid (joinE ⟨f, way, Aw, nw, cw, ws, At, nt, ct, ts⟩ ⟨f', way', Aw', nw', cw', ws', At', nt', ct', ts'⟩ = 3) := hide (by rw [unhide HJ2, if_pos h3, if_neg h4])
    have q2 : (way != way') = true := bne_iff_ne.2 h4
    clear h3 h4
    obtain ⟨y0, y1, y2, y3⟩ := br4.cells4
    obtain ⟨WF, hWF, bF, _, hbF, _⟩ := wbox br4 (.int .i64 0) (.int .i64 0) (.slice none 0 0) (.slice none 0 0)
    have hBF : Below w.heap.size w WF := hBw3.trans (hbF.mono (by omega))
    obtain ⟨k0, k1, k2, k3⟩ := bF.cells4
    have f0 := br4.frozen 0
    have f1 := br4.frozen 1
    have f2 := br4.frozen 2
    have f3 := br4.frozen 3
    have HWF := hide hWF
    clear hWF
    go_wp2_with fail
    rw [rounds_succ]
    go_wp2_with fail
    rw [← unhide HWF]
    refine bodyPost_ret (v := .tuple #[.agg #[.int .i64 0, .int .i64 0, .slice none 0 0, .slice none 0 0], errV 3]) (by simp [results, Tryd.results26, go_sem, k0, k1, k2, k3, errV]) rfl ?_
    rw [unhide HPP]
    exact JoinPost.fault (unhide HE) (by decide) hBF
  have q2 : (way != way') = false := by simp [h4]
  by_cases h5 : 12 < nt + nt'
  case pos =>
    have HE : Hid (joinE ⟨f, way, Aw, nw, cw, ws, At, nt, ct, ts⟩ ⟨f', way', Aw', nw', cw', ws', At', nt', ct', ts'⟩ = 4) := hide (by rw [unhide HJ2, if_pos h3, if_pos h4, if_pos h5])
    have q3 : decide ((12 : Int) < (nt : Int) + (nt' : Int)) = true := decide_eq_true (by omega)
    clear h3 h4
    obtain ⟨y0, y1, y2, y3⟩ := br4.cells4
    obtain ⟨WF, hWF, bF, _, hbF, _⟩ := wbox br4 (.int .i64 0) (.int .i64 0) (.slice none 0 0) (.slice none 0 0)
    have hBF : Below w.heap.size w WF := hBw3.trans (hbF.mono (by omega))
    obtain ⟨k0, k1, k2, k3⟩ := bF.cells4
    have f0 := br4.frozen 0
    have f1 := br4.frozen 1
    have f2 := br4.frozen 2
    have f3 := br4.frozen 3
    have HWF := hide hWF
    clear hWF
    go_wp2_with fail
    rw [rounds_succ]
    go_wp2_with fail
    rw [← unhide HWF]
    refine bodyPost_ret (v := .tuple #[.agg #[.int .i64 0, .int .i64 0, .slice none 0 0, .slice none 0 0], errV 4]) (by simp [results, Tryd.results26, go_sem, k0, k1, k2, k3, errV]) rfl ?_
    rw [unhide HPP]
    exact JoinPost.fault (unhide HE) (by decide) hBF
  have HE : Hid (joinE ⟨f, way, Aw, nw, cw, ws, At, nt, ct, ts⟩ ⟨f', way', Aw', nw', cw', ws', At', nt', ct', ts'⟩ = 0) := hide (by rw [unhide HJ2, if_pos h3, if_pos h4, if_neg h5])
  have q3 : decide ((12 : Int) < (nt : Int) + (nt' : Int)) = false := decide_eq_false (by omega)
  have H3 := hide h3
  have H4 := hide h4
  clear h3 h4
  go_wp2_with fail
  rw [rounds_succ]
  go_upto_region 13 with (fail)
  go_cut [] from 50 to 53 (fun wx => ∃ (ga gb : Gv) (Bb : Nat), (ga.f = f ∧ ga.way = way ∧ ga.ws = ws ∧ ga.trees = ts.map Tr.l) ∧ (gb.f = f' ∧ gb.way = way' ∧ gb.ws = ws' ∧ gb.trees = ts'.map Tr.l) ∧ GOwn wx w3.heap.size ga ∧ GOwn wx Bb gb ∧ (w3.heap.size ≤ Bb ∧ (∀ k, (Value.slice ga.Aw ga.nw ga.cw).ownBlock = some k → k < Bb) ∧ (∀ k, (Value.slice ga.At ga.nt ga.ct).ownBlock = some k → k < Bb)) ∧
      Blk wx w.heap.size 45 #[.int .i64 ga.f, .int .i64 ga.way, .slice ga.Aw ga.nw ga.cw, .slice ga.At ga.nt ga.ct] ∧ Blk wx (w.heap.size + 1) 45 #[.int .i64 gb.f, .int .i64 gb.way, .slice gb.Aw gb.nw gb.cw, .slice gb.At gb.nt gb.ct] ∧
      Blk wx (w.heap.size + 1 + 1) 45 #[.int .i64 0, .int .i64 0, .slice none 0 0, .slice none 0 0] ∧ Below w.heap.size w wx ∧ w3.heap.size ≤ wx.heap.size)
  case first =>
    go_region_with (first
      | (go_at_call 42
         (with_reducible refine (unhide hcla _ (hBw3.drew)).mono ?_)
         rintro e wa ⟨⟨fa, waya, Awa, nwa, cwa, wsa, Ata, nta, cta, tsa⟩, rfl, efa, ewa, ewsa, etra, hGa, hba⟩
         simp only [Gv.val]
         have EA := hide (And.intro efa (And.intro ewa (And.intro ewsa etra)))
         clear efa ewa ewsa etra
         have hka : ∀ o, wa.cell? ⟨w.heap.size + 1, o, none⟩ = w3.cell? ⟨w.heap.size + 1, o, none⟩ := fun o => hba.cell (p := ⟨w.heap.size + 1, o, none⟩) (by simp; omega)
         have hBa := (hBw3.drew).trans (hba.mono (by simp; omega))
         have m0 := (hka 0).trans b0
         have m1 := (hka 1).trans b1
         have m2 := (hka 2).trans b2
         have m3 := (hka 3).trans b3)
      | (go_at_call 42
         (with_reducible refine (unhide hclb _ hBa).mono ?_)
         rintro e wb ⟨⟨fb, wayb, Awb, nwb, cwb, wsb, Atb, ntb, ctb, tsb⟩, rfl, efb, ewb, ewsb, etrb, hGb, hbb⟩
         simp only [Gv.val]
         have EB := hide (And.intro efb (And.intro ewb (And.intro ewsb etrb)))
         clear efb ewb ewsb etrb
         have ba5 := (ba4.drew.below hba (by simp; omega)).below hbb (by have := hba.size; simp at this; omega)
         have bb5 := (bb4.drew.below hba (by simp; omega)).below hbb (by have := hba.size; simp at this; omega)
         obtain ⟨n0, n1, n2, n3⟩ := ba5.cells4
         obtain ⟨p0, p1, p2, p3⟩ := bb5.cells4
         have fn0 := ba5.frozen 0
         have fn1 := ba5.frozen 1
         have fn2 := ba5.frozen 2
         have fn3 := ba5.frozen 3
         have fp0 := bb5.frozen 0
         have fp1 := bb5.frozen 1
         have fp2 := bb5.frozen 2
         have fp3 := bb5.frozen 3))
    all_goals
      have zA := hba.size
      have zB := hbb.size
      rw [World.size_drew] at zA
      have br5 := (br4.drew.below hba (by simp; omega)).below hbb (by omega)
      have hGa2 := hGa.below hbb
      have hbba : Below w.heap.size w wb := hBa.trans (hbb.mono (by omega))
      obtain ⟨WA, hWA, bA, sA, gA, rA⟩ := wbox ba5 (.int .i64 fa) (.int .i64 waya) (.slice Awa nwa cwa) (.slice Ata nta cta)
      have bbA := bb5.grown rA (by intro e; injection e with e; omega)
      have brA := br5.grown rA (by intro e; injection e with e; omega)
      obtain ⟨WB, hWB, bB, sB, gB, rB⟩ := wbox bbA (.int .i64 fb) (.int .i64 wayb) (.slice Awb nwb cwb) (.slice Atb ntb ctb)
      have bAB := bA.grown rB (by intro e; injection e with e; omega)
      have brB := brA.grown rB (by intro e; injection e with e; omega)
      have hGa3 := (hGa2.kept rA (by simp; omega)).kept rB (by simp; omega)
      have hGb3 := (hGb.kept rA (by omega)).kept rB (by omega)
      have hBW : Below w.heap.size w WB := (hbba.trans (gA.mono (Nat.le_refl _))).trans (gB.mono (by omega))
      rw [hWA] at hWB
      rw [← hWB]
      clear hWA hWB
      go_wp2_with fail
      go_meet
      case rel => exact ⟨⟨fa, waya, Awa, nwa, cwa, wsa, Ata, nta, cta, tsa⟩, ⟨fb, wayb, Awb, nwb, cwb, wsb, Atb, ntb, ctb, tsb⟩, wa.heap.size, unhide EA, unhide EB, hGa3, hGb3, ⟨by omega, fun k hk => (hGa.ws.lt k hk).2, fun k hk => (hGa.ts.lt k hk).2⟩, bAB, bB, brB, hBW, by omega⟩
  case rest =>
    clear hcla hclb ba4 bb4 br4 a0 a1 a2 a3 b0 b1 b2 b3
    obtain ⟨⟨fa, waya, Awa, nwa, cwa, wsa, Ata, nta, cta, tsa⟩, ⟨fb, wayb, Awb, nwb, cwb, wsb, Atb, ntb, ctb, tsb⟩, Bb, ⟨e1, e2, e3, etra⟩, ⟨g1, g2, g3, etrb⟩, hGa, hGb, ⟨hBb, haw, hat⟩, bA, bB, br, hBW, hsz⟩ := hcut
    dsimp only at e1 e2 e3 g1 g2 g3 haw hat bA bB etra etrb
    subst e1 e2 e3 g1 g2 g3
    have oaw : wc.ownsRow w3.heap.size 3 1 (.slice Awa nwa cwa) nwa (wsa.map (Value.int .i64)) := hGa.ws
    have oat : wc.ownsRow w3.heap.size 22 1 (.slice Ata nta cta) nta (tsa.map Tr.val) := hGa.ts
    have obw : wc.ownsRow Bb 3 1 (.slice Awb nwb cwb) nwb (wsb.map (Value.int .i64)) := hGb.ws
    have obt : wc.ownsRow Bb 22 1 (.slice Atb ntb ctb) ntb (tsb.map Tr.val) := hGb.ts
    have HLA := hide oaw.1
    have hnwa : nwa = nw := by have := oaw.1; simp at this; omega
    have hnwb : nwb = nw' := by have := obw.1; simp at this; omega
    have hnta' : nta = nt := by have := oat.1; have h2 := congrArg List.length etra; simp [Gv.trees] at this h2; omega
    have hntb' : ntb = nt' := by have := obt.1; have h2 := congrArg List.length etrb; simp [Gv.trees] at this h2; omega
    subst hnwa hnwb hnta' hntb'
    obtain ⟨x0, x1, x2, x3⟩ := bA.cells4
    obtain ⟨y0, y1, y2, y3⟩ := bB.cells4
    have hrbw : Reads wc wc.heap.size 1 Awb nwb (wsb.map (Value.int .i64)) := Reads.of_own obw
    have hadd : nwa + nwb < 1000000000 := by omega
    have hadd2 : nta + ntb < 1000000000 := by omega
    go_upto_region 14 with (at_builtin; refine app_many elem_int (.tmp 55) (.tmp 57) rfl rfl rfl oaw rfl hrbw (ints_one wsb) hadd hsz ?_; intro v1 w4 o1 hb4 hg4; obtain ⟨A1, d1, hv1, _, _, _⟩ := own_slice o1; subst hv1; have bA4 := bA.grown hg4 (fun e => by have := (oaw.lt _ e.symm).1; omega); obtain ⟨q0, q1, q2, q3⟩ := bA4.cells4; have fq2 := bA4.frozen 2)
    have z4 := hb4.size
    have nea : ∀ k, (Value.slice Awa nwa cwa).ownBlock = some k → w3.heap.size ≤ k ∧ k < Bb := fun k hk => ⟨(oaw.lt k hk).1, haw k hk⟩
    have oat4 := own_kept0 oat oaw (by decide) hg4
    have obt4 := own_kept0 obt oaw (by decide) hg4
    have bB4 := bB.grown hg4 (fun e => by have := (nea _ e.symm).1; omega)
    have br4 := br.grown hg4 (fun e => by have := (nea _ e.symm).1; omega)
    have hta4 : ∀ r ∈ tsa, TrOk w4 w4.heap.size r ∧ (0 < r.n → ∀ a, r.A = some a → (Value.slice Ata nta cta).ownBlock ≠ some a.block ∧ w3.heap.size ≤ a.block) := fun r hr => by
      obtain ⟨h1, h2⟩ := hGa.each r hr
      exact ⟨⟨(Reads.grownBy h1.reads (Nat.le_refl _) hg4 (fun hn a ha => (h2 hn a ha).2.1)).more hg4.size, h1.len, h1.nil⟩, fun hn a ha => ⟨(h2 hn a ha).1, (h2 hn a ha).2.2⟩⟩
    have htb4 : ∀ r ∈ tsb, TrOk w4 w4.heap.size r ∧ (0 < r.n → ∀ a, r.A = some a → Bb ≤ a.block) := fun r hr => by
      obtain ⟨h1, h2⟩ := hGb.each r hr
      exact ⟨⟨(Reads.grownBy h1.reads (Nat.le_refl _) hg4 (fun hn a ha e => by have := (h2 hn a ha).2.2; have := (nea _ e).2; omega)).more hg4.size, h1.len, h1.nil⟩, fun hn a ha => (h2 hn a ha).2.2⟩
    have hr5 : w4.grownBy (w4.setCell ⟨w.heap.size, 2, none⟩ (.slice A1 (nwa + nwb) d1)) (some w.heap.size) := only_setCell (p := ⟨w.heap.size, 2, none⟩) (World.grownBy.refl w4 _) (.inl rfl) _
    have bA5 := bA4.set_ 2 (.slice A1 (nwa + nwb) d1)
    have bB5 := bB4.grown hr5 (by intro e; injection e with e; omega)
    have br5 := br4.grown hr5 (by intro e; injection e with e; omega)
    have far5 : ∀ {e : TypeId} {size n : Nat} {v : Value} {xs : List Value} {base : Nat}, w3.heap.size ≤ base → w4.ownsRow base e size v n xs → (w4.setCell ⟨w.heap.size, 2, none⟩ (.slice A1 (nwa + nwb) d1)).ownsRow base e size v n xs := fun hb ho => own_far ho (p := ⟨w.heap.size, 2, none⟩) (fun k hk => by have := (ho.lt k hk).1; show k ≠ w.heap.size; omega) _
    have o15 := far5 (Nat.le_refl _) o1
    have oat5 := far5 (Nat.le_refl _) oat4
    have obt5 := far5 hBb obt4
    have hta5 : ∀ r ∈ tsa, TrOk (w4.setCell ⟨w.heap.size, 2, none⟩ (.slice A1 (nwa + nwb) d1)) (w4.setCell ⟨w.heap.size, 2, none⟩ (.slice A1 (nwa + nwb) d1)).heap.size r ∧ (0 < r.n → ∀ a, r.A = some a → (Value.slice Ata nta cta).ownBlock ≠ some a.block ∧ w3.heap.size ≤ a.block) := fun r hr => by
      obtain ⟨h1, h2⟩ := hta4 r hr
      exact ⟨⟨(Reads.grownBy h1.reads (Nat.le_refl _) hr5 (fun hn a ha e => by have := (h2 hn a ha).2; injection e with e; omega)).more hr5.size, h1.len, h1.nil⟩, h2⟩
    have htb5 : ∀ r ∈ tsb, TrOk (w4.setCell ⟨w.heap.size, 2, none⟩ (.slice A1 (nwa + nwb) d1)) (w4.setCell ⟨w.heap.size, 2, none⟩ (.slice A1 (nwa + nwb) d1)).heap.size r ∧ (0 < r.n → ∀ a, r.A = some a → Bb ≤ a.block) := fun r hr => by
      obtain ⟨h1, h2⟩ := htb4 r hr
      exact ⟨⟨(Reads.grownBy h1.reads (Nat.le_refl _) hr5 (fun hn a ha e => by have := h2 hn a ha; injection e with e; omega)).more hr5.size, h1.len, h1.nil⟩, h2⟩
    have hBW5 : Below w.heap.size w (w4.setCell ⟨w.heap.size, 2, none⟩ (.slice A1 (nwa + nwb) d1)) := (hBW.trans (hb4.mono (by omega))).setCell (p := ⟨w.heap.size, 2, none⟩) (Nat.le_refl _) _
    have z5 : (w4.setCell ⟨w.heap.size, 2, none⟩ (.slice A1 (nwa + nwb) d1)).heap.size = w4.heap.size := by simp [World.setCell]
    simp at bA5
    have hta6 := hide hta5
    have htb6 := hide htb5
    have HAT := hide hat
    clear far5 hta4 htb4 hta5 htb5 hGa hGb oaw oat obw obt o1 oat4 obt4 bA bB br bA4 bB4 br4 hg4 hb4 hrbw x0 x1 x2 x3 y0 y1 y2 y3 q0 q1 q2 q3 fq2 hr5 haw nea hat
    generalize w4.setCell ⟨w.heap.size, 2, none⟩ (.slice A1 (nwa + nwb) d1) = w5 at *
    obtain ⟨x0, x1, x2, x3⟩ := bA5.cells4
    obtain ⟨y0, y1, y2, y3⟩ := bB5.cells4
    have hrbt : Reads w5 w5.heap.size 1 Atb ntb (tsb.map Tr.val) := Reads.of_own obt5
    have hs5 : w3.heap.size ≤ w5.heap.size := by omega
    go_upto_region 15 with (at_builtin; refine app_many elem_trees (.tmp 61) (.tmp 63) rfl rfl rfl oat5 rfl hrbt (trees_one tsb) hadd2 hs5 ?_; intro v6 w6 o6 hb6 hg6; obtain ⟨A6, d6, hv6, _, _, _⟩ := own_slice o6; subst hv6; have bA6 := bA5.grown hg6 (fun e => by have := (oat5.lt _ e.symm).1; omega); obtain ⟨q0, q1, q2, q3⟩ := bA6.cells4; have fq3 := bA6.frozen 3)
    have z6 := hb6.size
    have neat : ∀ k, (Value.slice Ata nta cta).ownBlock = some k → w3.heap.size ≤ k ∧ k < Bb := fun k hk => ⟨(oat5.lt k hk).1, unhide HAT k hk⟩
    have o16 := own_kept0 o15 oat5 (by decide) hg6
    have br6 := br5.grown hg6 (fun e => by have := (neat _ e.symm).1; omega)
    have hall6 : Hid (∀ r ∈ tsa ++ tsb, TrOk w6 w6.heap.size r ∧ (0 < r.n → ∀ a, r.A = some a → w3.heap.size ≤ a.block)) := hide (fun r hr => by
      rcases List.mem_append.1 hr with hr | hr
      · obtain ⟨h1, h2⟩ := unhide hta6 r hr
        exact ⟨⟨(Reads.grownBy h1.reads (Nat.le_refl _) hg6 (fun hn a ha => (h2 hn a ha).1)).more hg6.size, h1.len, h1.nil⟩, fun hn a ha => (h2 hn a ha).2⟩
      · obtain ⟨h1, h2⟩ := unhide htb6 r hr
        exact ⟨⟨(Reads.grownBy h1.reads (Nat.le_refl _) hg6 (fun hn a ha e => by have := h2 hn a ha; have := (neat _ e).2; omega)).more hg6.size, h1.len, h1.nil⟩, fun hn a ha => Nat.le_trans hBb (h2 hn a ha)⟩)
    have hr7 : w6.grownBy (w6.setCell ⟨w.heap.size, 3, none⟩ (.slice A6 (nta + ntb) d6)) (some w.heap.size) := only_setCell (p := ⟨w.heap.size, 3, none⟩) (World.grownBy.refl w6 _) (.inl rfl) _
    have bA7 := bA6.set_ 3 (.slice A6 (nta + ntb) d6)
    have br7 := br6.grown hr7 (by intro e; injection e with e; omega)
    have o17 := own_far o16 (p := ⟨w.heap.size, 3, none⟩) (fun k hk => by have := (o16.lt k hk).1; show k ≠ w.heap.size; omega) (.slice A6 (nta + ntb) d6)
    have o67 := own_far o6 (p := ⟨w.heap.size, 3, none⟩) (fun k hk => by have := (o6.lt k hk).1; show k ≠ w.heap.size; omega) (.slice A6 (nta + ntb) d6)
    have hall7 : Hid (∀ r ∈ tsa ++ tsb, TrOk (w6.setCell ⟨w.heap.size, 3, none⟩ (.slice A6 (nta + ntb) d6)) (w6.setCell ⟨w.heap.size, 3, none⟩ (.slice A6 (nta + ntb) d6)).heap.size r ∧ (0 < r.n → ∀ a, r.A = some a → w3.heap.size ≤ a.block)) := hide (fun r hr => by
      obtain ⟨h1, h2⟩ := unhide hall6 r hr
      exact ⟨⟨(Reads.grownBy h1.reads (Nat.le_refl _) hr7 (fun hn a ha e => by have := h2 hn a ha; injection e with e; omega)).more hr7.size, h1.len, h1.nil⟩, h2⟩)
    have hBW7 : Below w.heap.size w (w6.setCell ⟨w.heap.size, 3, none⟩ (.slice A6 (nta + ntb) d6)) := (hBW5.trans (hb6.mono (by omega))).setCell (p := ⟨w.heap.size, 3, none⟩) (Nat.le_refl _) _
    simp at bA7
    clear hall6 hta6 htb6 o6 o15 o16 oat5 obt5 bA5 bB5 br5 bA6 br6 hg6 hb6 hrbt x0 x1 x2 x3 y0 y1 y2 y3 q0 q1 q2 q3 fq3 hr7 neat
    generalize w6.setCell ⟨w.heap.size, 3, none⟩ (.slice A6 (nta + ntb) d6) = w7 at *
    obtain ⟨x0, x1, x2, x3⟩ := bA7.cells4
    obtain ⟨y0, y1, y2, y3⟩ := br7.cells4
    have f0 := br7.frozen 0
    have f1 := br7.frozen 1
    have f2 := br7.frozen 2
    have f3 := br7.frozen 3
    obtain ⟨WF, hWF, bF, sF, gF, rF⟩ := wbox br7 (.int .i64 fa) (.int .i64 waya) (.slice A1 (nwa + nwb) d1) (.slice A6 (nta + ntb) d6)
    have hBF : Below w.heap.size w WF := hBW7.trans (gF.mono (by omega))
    obtain ⟨k0, k1, k2, k3⟩ := bF.cells4
    have keepF : ∀ {e : TypeId} {size n : Nat} {v : Value} {xs : List Value}, w7.ownsRow w3.heap.size e size v n xs → WF.ownsRow w3.heap.size e size v n xs := fun {e size n v xs} ho => by
      refine ho.kept rF ?_
      rcases hv : v.ownBlock with _ | k
      · exact .inl rfl
      · exact .inr fun e => by have := (ho.lt k hv).1; injection e with e; omega
    have hGR : Hid (GReads WF WF.heap.size ⟨fa, waya, A1, nwa + nwb, d1, wsa ++ wsb, A6, nta + ntb, d6, tsa ++ tsb⟩) := hide (by
      have p1 := keepF o17
      have p2 := keepF o67
      refine ⟨?_, ⟨?_, fun r hr => ?_⟩, own_len p1, own_len p2, fun e => ?_, fun e => ?_⟩
      · have := Reads.of_own p1; rw [← List.map_append] at this; exact this
      · have := Reads.of_own p2; rw [← List.map_append] at this; exact this
      · obtain ⟨h1, h2⟩ := unhide hall7 r hr
        exact ⟨(Reads.grownBy h1.reads (Nat.le_refl _) rF (fun hn a ha e => by have := h2 hn a ha; injection e with e; omega)).more rF.size, h1.len, h1.nil⟩
      · dsimp only at e; rw [e] at p1; exact (own_nil p1).1
      · dsimp only at e; rw [e] at p2; exact (own_nil p2).1)
    have HWF := hide hWF
    clear hWF keepF o17 o67 hall7 bA7 br7 rF gF
    go_wp2_with fail
    rw [← unhide HWF]
    refine bodyPost_ret (v := .tuple #[.agg #[.int .i64 fa, .int .i64 waya, .slice A1 (nwa + nwb) d1, .slice A6 (nta + ntb) d6], .nilIface]) (by simp [results, Tryd.results26, go_sem, k0, k1, k2, k3]) rfl ?_
    rw [unhide HPP]
    refine ⟨⟨fa, waya, A1, nwa + nwb, d1, wsa ++ wsb, A6, nta + ntb, d6, tsa ++ tsb⟩, by rw [unhide HE]; rfl, unhide hGR, ?_, hBF⟩
    unfold JoinIs
    rw [if_pos (unhide HE)]
    refine ⟨rfl, rfl, rfl, ?_⟩
    show (tsa ++ tsb).map Tr.l = ts.map Tr.l ++ ts'.map Tr.l
    rw [List.map_append]
    have e1 : tsa.map Tr.l = ts.map Tr.l := etra
    have e2 : tsb.map Tr.l = ts'.map Tr.l := etrb
    rw [e1, e2]
end Go.Proofs.YtliacpdbeghmlaaDoor
