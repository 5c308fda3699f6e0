/- Part 28 of what LawWeighNeeds needs: WeighNeeds, Args2, ArgsG. Conditions: as each lemma names. -/
import Derived.Test.YtopncifebldklaaPkWeighNeeds26
import Derived.Test.YtopncifebldklaaPkWeighNeeds27
import Derived.Test.YtopncifebldklaaPkWeighNeeds23
import Derived.Deep.CutRange
import Derived.Test.YtopncifebldklaaPkWeighNeeds11
import Derived.Test.YtopncifebldklaaPkWeighNeeds02
import Derived.Deep.Slices
import Derived.Test.YtopncifebldklaaPkWeighNeeds04
/- WeighNeeds: the walk. Conditions: a grove, a row, a tree and samples that read as data. -/
namespace Go.Proofs.Ytopncifebldklaa
set_option linter.unusedVariables false
set_option linter.unusedSimpArgs false
open Go.RowKit

theorem GReads.belowN {w w' : World} {g : Gv} (h : GReads w w.heap.size g) (hb : Below w.heap.size w w') : GReads w' w'.heap.size g := (h.below hb).more hb.size
def gcellsN (g : Gv) : Array Value := #[.int .i64 g.f, .int .i64 g.way, .slice g.Aw g.nw g.cw, .slice g.At g.nt g.ct]
def GBoxN (w : World) (b : Nat) (g : Gv) : Prop := Blk w b 25 (gcellsN g) ∧ GReads w w.heap.size g
theorem GBoxN.below {w w' : World} {b : Nat} {g : Gv} (h : GBoxN w b g) (hb : Below w.heap.size w w') : GBoxN w' b g := ⟨h.1.below hb h.1.lt, h.2.belowN hb⟩
theorem GBoxN.cells {w : World} {b : Nat} {g : Gv} (h : GBoxN w b g) : w.cell? ⟨b, 0, none⟩ = some (.int .i64 g.f) ∧ w.cell? ⟨b, 1, none⟩ = some (.int .i64 g.way) ∧ w.cell? ⟨b, 2, none⟩ = some (.slice g.Aw g.nw g.cw) ∧ w.cell? ⟨b, 3, none⟩ = some (.slice g.At g.nt g.ct) :=
  ⟨h.1.cell 0, h.1.cell 1, h.1.cell 2, h.1.cell 3⟩
def twoL : List Nd := [⟨0, 5, 1, 2, false, 0⟩, ⟨-1, 0, 0, 0, false, 7⟩, ⟨-1, 0, 0, 0, false, 9⟩]
def twoG (b : Nat) : Gv := ⟨1, 1, some ⟨b + 1, 0, none⟩, 1, 1, [1], some ⟨b + 1 + 1, 0, none⟩, 1, 1, [⟨some ⟨b, 0, none⟩, 3, 3, twoL⟩]⟩
def twoC : Array Value := #[.int .i64 0, .int .i64 5, .int .i64 1, .int .i64 2, .bool false, .int .i64 0, .int .i64 (-1), .int .i64 0, .int .i64 0, .int .i64 0, .bool false, .int .i64 7, .int .i64 (-1), .int .i64 0, .int .i64 0, .int .i64 0, .bool false, .int .i64 9]
theorem two_reads (w : World) : GReads (((w.alloc (.cells #[.int .i64 0, .int .i64 5, .int .i64 1, .int .i64 2, .bool false, .int .i64 0, .int .i64 (-1), .int .i64 0, .int .i64 0, .int .i64 0, .bool false, .int .i64 7, .int .i64 (-1), .int .i64 0, .int .i64 0, .int .i64 0, .bool false, .int .i64 9] 29)).alloc (.cells #[.int .i64 1] 3)).alloc (.cells #[.slice (some ⟨w.heap.size, 0, none⟩) 3 3] 26)) (w.heap.size + 3) (twoG w.heap.size) ∧
    Below w.heap.size w (((w.alloc (.cells #[.int .i64 0, .int .i64 5, .int .i64 1, .int .i64 2, .bool false, .int .i64 0, .int .i64 (-1), .int .i64 0, .int .i64 0, .int .i64 0, .bool false, .int .i64 7, .int .i64 (-1), .int .i64 0, .int .i64 0, .int .i64 0, .bool false, .int .i64 9] 29)).alloc (.cells #[.int .i64 1] 3)).alloc (.cells #[.slice (some ⟨w.heap.size, 0, none⟩) 3 3] 26)) := by
  have r1 := Reads.new_ w 6 3 [.int .i64 0, .int .i64 5, .int .i64 1, .int .i64 2, .bool false, .int .i64 0, .int .i64 (-1), .int .i64 0, .int .i64 0, .int .i64 0, .bool false, .int .i64 7, .int .i64 (-1), .int .i64 0, .int .i64 0, .int .i64 0, .bool false, .int .i64 9] 29 rfl
  have r2 := Reads.new_ (w.alloc (.cells #[.int .i64 0, .int .i64 5, .int .i64 1, .int .i64 2, .bool false, .int .i64 0, .int .i64 (-1), .int .i64 0, .int .i64 0, .int .i64 0, .bool false, .int .i64 7, .int .i64 (-1), .int .i64 0, .int .i64 0, .int .i64 0, .bool false, .int .i64 9] 29)) 1 1 [.int .i64 1] 3 rfl
  have r3 := Reads.new_ ((w.alloc (.cells #[.int .i64 0, .int .i64 5, .int .i64 1, .int .i64 2, .bool false, .int .i64 0, .int .i64 (-1), .int .i64 0, .int .i64 0, .int .i64 0, .bool false, .int .i64 7, .int .i64 (-1), .int .i64 0, .int .i64 0, .int .i64 0, .bool false, .int .i64 9] 29)).alloc (.cells #[.int .i64 1] 3)) 1 1 [.slice (some ⟨w.heap.size, 0, none⟩) 3 3] 26 rfl
  simp only [World.size_alloc] at r2 r3
  refine ⟨⟨(r2.alloc (by simp) _).more (by omega), ⟨r3.more (by omega), fun r hr => ?_⟩, (by show (1 : Nat) ≤ maxLen; decide), (by show (1 : Nat) ≤ maxLen; decide), (fun e => nomatch e), (fun e => nomatch e)⟩, (((Below.refl _ _).alloc (Nat.le_refl _) _).alloc (by simp) _).alloc (by simp; omega) _⟩
  simp only [twoG, List.mem_singleton] at hr
  subst hr
  exact ⟨((r1.alloc (by simp) _).alloc (by simp) _).more (by omega), (by show (3 : Nat) ≤ maxLen; decide), (fun e => nomatch e)⟩
theorem two_e (b : Nat) : (twoG b).e = 0 := by kernel_rfl
theorem two_uses (b : Nat) : usesL (twoG b).trees = [⟨0, 1, 0⟩] := by
  have h : usedT (tableOf (twoG b).trees) = [⟨0, 1, 0⟩] := by kernel_rfl
  have hp := sortU_perm (usedT (tableOf (twoG b).trees))
  rw [h] at hp
  unfold usesL listT
  rw [h]
  exact List.perm_singleton.1 hp
theorem UReads.get {w : World} {B n : Nat} {A : Option Addr} {us : List Us} (h : UReads w B A n us) {k : Nat} (hk : k < n) : ∃ b off u, A = some ⟨b, off, none⟩ ∧ b < B ∧ us[k]? = some u ∧ w.cell? ⟨b, off + k * 3, none⟩ = some (.int .i64 u.f) ∧ w.cell? ⟨b, off + k * 3 + 1, none⟩ = some (.int .i64 u.n) ∧ w.cell? ⟨b, off + k * 3 + 2, none⟩ = some (.int .i64 u.g) := by
  have hl : us.length = n := by have := h.1; rw [flatMap_len Us.cells 3 (fun _ => rfl)] at this; omega
  obtain ⟨b, off, rfl, hb, hc⟩ := Reads.spot h (by omega) (by omega)
  obtain ⟨u, hu⟩ : ∃ u, us[k]? = some u := ⟨_, List.getElem?_eq_getElem (by omega)⟩
  have key := fun r hr => flatMap_at Us.cells 3 (fun _ => rfl) us k r u hu hr
  refine ⟨b, off, u, rfl, hb, hu, ?_, ?_, ?_⟩
  · exact hc (k * 3) _ (by have := key 0 (by omega); rw [Nat.add_zero] at this; exact this)
  · exact hc (k * 3 + 1) _ (key 1 (by omega))
  · exact hc (k * 3 + 2) _ (key 2 (by omega))
theorem UReads.belowU {w w' : World} {n : Nat} {A : Option Addr} {us : List Us} (h : UReads w w.heap.size A n us) (hb : Below w.heap.size w w') : UReads w' w'.heap.size A n us := (Reads.below h hb).more hb.size
set_option maxRecDepth 100000 in
set_option maxHeartbeats 8000000 in
theorem weighNeeds_walk (g : Gv) (C : Option Addr) (k q : Nat) (r : List Int) (fe : Int) (A : Option Addr) (m d : Nat) (t : List Nd) (D : Option Addr) (p c : Nat) (ss : List Sm) (w : World) (hg : GReads w w.heap.size g) (hr : IReads w w.heap.size C k r) (hk : k ≤ maxLen) (ht : NReads w w.heap.size A m t) (hm : m ≤ maxLen) (hs : MReads w w.heap.size D p ss) (hp : p ≤ maxLen) :
    Calls Try.prog 3 #[g.val, .slice C k q, .int .i64 fe, .slice A m d, .slice D p c] w fun e w' => e = .returned (.bool true) ∧ Below w.heap.size w w' := by
  have c0U : Hid (∀ (b : Nat) (X : World), GReads X X.heap.size (twoG b) → Calls Try.prog 5 #[(twoG b).val] X fun e w' => ∃ A c, e = .returned (.tuple #[.slice A 1 c, .nilIface]) ∧ UReads w' w'.heap.size A 1 [⟨0, 1, 0⟩] ∧ Below X.heap.size X w') := hide (fun b X h => by
    have := uses_any (twoG b) X h
    unfold UsesPost at this
    rw [if_pos (two_e b), two_uses b, two_e b, errV_0 rfl] at this
    exact this)
  have cGn := hide (fun (V : World) (hB : Below w.heap.size w V) => gains_any A D m d p c t ss V ((ht.below hB).more hB.size) ((hs.below hB).more hB.size) hm hp)
  unfold GainsPost at cGn
  have cWo := hide (fun (V : World) (hB : Below w.heap.size w V) => withoutG_any g fe V (hg.belowN hB))
  unfold WGrovePost at cWo
  have cRG := hide (fun (V : World) (hB : Below w.heap.size w V) => rgrove_any g V (hg.belowN hB))
  have cSt := hide (fun (V : World) (hB : Below w.heap.size w V) => rstand_any g C k q r V (hg.belowN hB) ((hr.below hB).more hB.size) hk)
  have cUs : Hid (∀ (V : World) (a : Gv), a.e = 0 → GReads V V.heap.size a → Calls Try.prog 5 #[a.val] V fun e w' => ∃ A c, e = .returned (.tuple #[.slice A (usesL a.trees).length c, .nilIface]) ∧ UReads w' w'.heap.size A (usesL a.trees).length (usesL a.trees) ∧ Below V.heap.size V w') := hide (fun V a h0 h => by
    have := uses_any a V h
    unfold UsesPost at this
    rw [if_pos h0, h0, errV_0 rfl] at this
    exact this)
  have cEv := hide (fun (V : World) (a : Gv) (ha : GReads V V.heap.size a) (hB : Below w.heap.size w V) => geval_any a C k q r V ha ((hr.below hB).more hB.size) hk)
  have cEs := hide (fun (V : World) (Cs : Option Addr) (cs : Nat) (l : List Int) (ha : GReads V V.heap.size g) (hl : IReads V V.heap.size Cs k l) => geval_any g Cs k cs l V ha hl hk)
  have hrl := hr.len
  have HRD := hide hr
  have HGI : Hid (∀ u ∈ gainsV t ss, 0 ≤ u.g ∧ 1 ≤ u.n) := hide (fun u hu => gainsV_ok hu)
  have hgl8 := gainsV_len t ss
  obtain ⟨GL, hGL⟩ : ∃ L, L = gainsV t ss := ⟨_, rfl⟩
  rw [← hGL] at cGn HGI hgl8
  obtain ⟨RE, hRE⟩ : ∃ e, e = readyS t ss := ⟨_, rfl⟩
  rw [← hRE] at cGn
  -- the plain laws
  have HWO : Hid (∀ g' : Gv, woE g fe = 0 → (g'.f = g.f ∧ g'.way = g.way ∧ g'.ws = g.ws ∧ g'.trees = g.trees.map (woV fe)) → g'.e = 0 ∧ standE g' r = standE g r ∧ (usesL g'.trees).length ≤ 8 ∧ (∀ u ∈ usesL g'.trees, u.f ≠ fe) ∧ (standE g r = 0 → ∃ f : Nat, fe = f ∧ f < k ∧ k ≤ 8 ∧ standE g (r.set f (-1125899906842624)) = 0 ∧ gevalV g' r = gevalV g (r.set f (-1125899906842624)))) := hide (fun g' h0 h => by
    obtain ⟨e1, e2, e3, e4⟩ := h
    obtain ⟨hge, hf0, hf1⟩ := woE_0 h0
    have hpe := wo_grove hge e1 e2 e3 e4
    have hG := groveE_right hge
    have hRt : ∀ t ∈ g.trees, Right t g.f := fun t ht => by
      obtain ⟨x, hx, rfl⟩ := List.mem_map.1 ht
      exact right_of (hG.trees x hx)
    refine ⟨hpe, wo_stand hge hpe e1, usesL_len _, fun u hu => ?_, fun hst => ?_⟩
    · obtain ⟨t', ht', x, hx, hxf, hux⟩ := usesL_asked (L := g'.trees) (fun t' ht' x hx hxf => by
        rw [e4] at ht'
        obtain ⟨t0, ht0, rfl⟩ := List.mem_map.1 ht'
        obtain ⟨i, hi⟩ := List.mem_iff_getElem?.1 hx
        rcases node_of (((hRt t0 ht0).wo fe).node i x hi) with h1 | h1
        · exact absurd h1.1 hxf
        · exact h1.1) hu
      rw [e4] at ht'
      obtain ⟨t0, ht0, rfl⟩ := List.mem_map.1 ht'
      rcases (hRt t0 ht0).woAsks (f := fe) x hx with h1 | h1
      · exact absurd h1 hxf
      · rw [hux]; exact h1
    · obtain ⟨_, _, hl⟩ := standE_0 hst
      have hfe : fe = (fe.toNat : Int) := by omega
      have hlt : fe.toNat < r.length := by omega
      rw [hfe] at e4
      obtain ⟨h1, h2⟩ := wo_eval hst hlt e1 e2 e3 e4
      exact ⟨fe.toNat, hfe, by omega, by have := hG.f8; omega, h1, h2⟩)
  have HWE : Hid (woE g fe = if g.e = 0 then (if fe < 0 ∨ g.f ≤ fe then 1 else 0) else g.e) := hide rfl
  obtain ⟨WE, hWE⟩ : ∃ e, e = woE g fe := ⟨_, rfl⟩
  rw [← hWE] at cWo HWO HWE
  obtain ⟨ge, hge⟩ : ∃ e, e = g.e := ⟨_, rfl⟩
  rw [← hge] at cRG HWE
  obtain ⟨sE, hsE⟩ : ∃ e, e = standE g r := ⟨_, rfl⟩
  rw [← hsE] at cSt HWO
  have HG := hide hg
  clear hGL hRE hWE hge hsE
  obtain ⟨W, hW, bg, hWs, hb0⟩ := gbox w g.f g.way g.Aw g.nw g.cw g.At g.nt g.ct
  have gv : g.val = .agg #[.int .i64 g.f, .int .i64 g.way, .slice g.Aw g.nw g.cw, .slice g.At g.nt g.ct] := rfl
  have G0 : GBoxN W w.heap.size g := ⟨bg, hg.belowN hb0⟩
  rw [gv] at cRG cWo cSt cEs
  obtain ⟨gF, hgF⟩ : ∃ x, x = g.f := ⟨_, rfl⟩
  obtain ⟨gW, hgW⟩ : ∃ x, x = g.way := ⟨_, rfl⟩
  obtain ⟨gvw, hgvw⟩ : ∃ x, x = Value.slice g.Aw g.nw g.cw := ⟨_, rfl⟩
  obtain ⟨gvt, hgvt⟩ : ∃ x, x = Value.slice g.At g.nt g.ct := ⟨_, rfl⟩
  rw [← hgF, ← hgW, ← hgvw, ← hgvt] at cRG cSt cEs
  rw [← hgF, ← hgW] at cWo
  rw [← hgF] at HWE HWO
  rw [← hgvw, ← hgvt] at cWo
  have HGC : Hid (∀ (V : World), GBoxN V w.heap.size g → V.cell? ⟨w.heap.size, 0, none⟩ = some (.int .i64 gF) ∧ V.cell? ⟨w.heap.size, 1, none⟩ = some (.int .i64 gW) ∧ V.cell? ⟨w.heap.size, 2, none⟩ = some gvw ∧ V.cell? ⟨w.heap.size, 3, none⟩ = some gvt) := hide (fun V h => by rw [hgF, hgW, hgvw, hgvt]; exact h.cells)
  rw [gv, ← hgF, ← hgW, ← hgvw, ← hgvt]
  rw [← hgF, ← hgW, ← hgvw, ← hgvt] at hW
  have HGF := hide hgF
  have HGW := hide hgW
  clear hg bg hgF hgW hgvw hgvt gv ht hs hr
  go_enter Try.func3, Try.ntmps3
  go_wp2_with fail
  rw [← hW]
  clear hW
  refine calls_nameX fun X hX => ?_
  obtain ⟨hgX, hbX⟩ : GReads X X.heap.size (twoG (w.heap.size + 1)) ∧ Below W.heap.size W X := by
    have h2 := two_reads W
    rw [hWs] at h2
    rw [hX]
    simp only [World.size_alloc, hWs]
    exact h2
  have S1 : Below w.heap.size w X := hb0.trans (hbX.mono hb0.size)
  have G1 := G0.below hbX
  clear hX hbX G0 hb0 hWs
  refine (unhide c0U (w.heap.size + 1) X hgX).mono ?_
  rintro e w2 ⟨A1, c1, rfl, hu1, hb2⟩
  obtain ⟨ub, uo, u, rfl, _, hu, u0, u1, u2⟩ := hu1.get (k := 0) (by omega)
  simp at hu
  subst hu
  simp at u0 u1 u2
  have S2 := S1.trans (hb2.mono S1.size)
  have G2 := G1.below hb2
  clear c0U hgX S1 G1 hb2 hu1
  go_wp2_with fail
  obtain ⟨nl, hnl⟩ : ∃ n, n = GL.length := ⟨_, rfl⟩
  rw [← hnl] at cGn hgl8
  clear hnl
  by_cases h00 : RE = 0
  case neg =>
    have hv := errV_1 h00
    rw [hv] at cGn
    clear hv h00
    refine (unhide cGn _ S2).mono ?_
    rintro e w3 ⟨A3, c3, rfl, hu3, hb3⟩
    have S3 := S2.trans (hb3.mono S2.size)
    have G3 := G2.below hb3
    obtain ⟨k0, k1, k2, k3⟩ := unhide HGC w3 G3
    clear cGn S2 G2 hb3 u0 u1 u2 hu3
    go_wp2_with fail
    refine calls_nameX fun wc hX => ?_
    obtain ⟨S4, G4⟩ : Below w.heap.size w wc ∧ GBoxN wc w.heap.size g := by
      rw [hX]
      exact ⟨S3, G3⟩
    clear hX k0 k1 k2 k3
    refine (unhide cWo wc S4).mono ?_
    clear S3 G3
    rintro e w5 ⟨g', rfl, hg5, hz5, hn5, hb5⟩
    have S5 := S4.trans (hb5.mono S4.size)
    have G5 := G4.below hb5
    have gv5 : g'.val = .agg #[.int .i64 g'.f, .int .i64 g'.way, .slice g'.Aw g'.nw g'.cw, .slice g'.At g'.nt g'.ct] := rfl
    rw [gv5]
    clear cWo hb5 S4 G4 hn5
    by_cases h0 : WE = 0
    case neg =>
      have hv := errV_1 h0
      rw [hv]
      have S6 := S5.alloc S5.size (.cells #[.int .i64 g'.f, .int .i64 g'.way, .slice g'.Aw g'.nw g'.cw, .slice g'.At g'.nt g'.ct] 25)
      have G6 := G5.below ((Below.refl _ _).alloc (Nat.le_refl _) (.cells #[.int .i64 g'.f, .int .i64 g'.way, .slice g'.Aw g'.nw g'.cw, .slice g'.At g'.nt g'.ct] 25))
      obtain ⟨k0, k1, k2, k3⟩ := unhide HGC _ G6
      have HOR : Hid (ge = 0 → ¬ fe < 0 → gF ≤ fe) := hide (fun h1 h2 => by
        have h3 := unhide HWE
        rw [if_pos h1] at h3
        by_cases h4 : fe < 0 ∨ gF ≤ fe
        · omega
        · rw [if_neg h4] at h3; exact absurd h3 h0)
      have cR6 := hide (unhide cRG _ S6)
      clear hz5 HWO HWE hg5 h0
      go_wp2_with fail
      refine (unhide cR6).mono ?_
      rintro e w7 ⟨rfl, hb7⟩
      have S7 := S6.trans (hb7.mono S6.size)
      have G7 := G6.below hb7
      obtain ⟨j0, j1, j2, j3⟩ := unhide HGC _ G7
      clear cR6 hb7 G6 S6 k0 k1 k2 k3
      by_cases h1 : ge = 0
      · have d1 : (ge != 0) = false := by simpa using h1
        by_cases h2 : fe < 0
        · have d2 : decide (fe < 0) = true := decide_eq_true h2
          clear h1 h2 HOR
          go_wp2_with fail
          go_ret
          exact ⟨rfl, S7⟩
        · have d2 : decide (fe < 0) = false := decide_eq_false h2
          have d3 : decide (gF ≤ fe) = true := decide_eq_true (unhide HOR h1 (by omega))
          clear h1 h2 HOR
          go_wp2_with fail
          go_ret
          exact ⟨rfl, S7⟩
      · have d1 : (ge != 0) = true := by simpa using h1
        clear h1 HOR
        go_wp2_with fail
        go_ret
        exact ⟨rfl, S7⟩
    have hv := errV_0 h0
    rw [hv]
    have hz5' := hz5 h0
    rw [unhide HGW] at hz5'
    obtain ⟨pe, pst, pl8, pne, pev⟩ := unhide HWO g' h0 hz5'
    have HPST := hide pst
    have HPEV := hide pev
    have HPNE := hide pne
    clear hv hz5 hz5' HWO HWE pst pev pne h0
    go_wp2_with fail
    refine calls_nameX fun X hX => ?_
    obtain ⟨S6, G6, B6⟩ : Below w.heap.size w X ∧ GBoxN X w.heap.size g ∧ GBoxN X w5.heap.size g' := by
      rw [hX]
      exact ⟨S5.alloc S5.size _, G5.below ((Below.refl _ _).alloc (Nat.le_refl _) _), Blk.new _ _ _, hg5.belowN ((Below.refl _ _).alloc (Nat.le_refl _) _)⟩
    obtain ⟨g17, hg17⟩ : ∃ x, x = w5.heap.size := ⟨_, rfl⟩
    rw [← hg17] at B6 ⊢
    clear hX S5 G5 hg5 hg17 gv5
    have gv6 : g'.val = .agg #[.int .i64 g'.f, .int .i64 g'.way, .slice g'.Aw g'.nw g'.cw, .slice g'.At g'.nt g'.ct] := rfl
    have cU6 := hide (unhide cUs X g' pe B6.2)
    have cE6 := hide (fun (V : World) (h : GReads V V.heap.size g') (hB : Below w.heap.size w V) => unhide cEv V g' h hB)
    rw [gv6] at cU6 cE6
    rw [unhide HPST] at cE6
    obtain ⟨UL, hUL⟩ : ∃ L, L = usesL g'.trees := ⟨_, rfl⟩
    rw [← hUL] at cU6 pl8 HPNE
    obtain ⟨ul, hul⟩ : ∃ n, n = UL.length := ⟨_, rfl⟩
    rw [← hul] at cU6 pl8
    obtain ⟨VX, hVX⟩ : ∃ v, v = gevalV g' r := ⟨_, rfl⟩
    rw [← hVX] at cE6 HPEV
    clear hUL hul hVX cUs cEv gv6
    refine (unhide cU6).mono ?_
    rintro e w7 ⟨A7, c7, rfl, hu7, hb7⟩
    have S7 := S6.trans (hb7.mono S6.size)
    have G7 := G6.below hb7
    have B7 := B6.below hb7
    clear cU6 S6 G6 B6 hb7
    go_wp2_with fail
    go_loopw [20] (fun i wr => ∃ k : Nat, k ≤ ul ∧ i = .int .i64 k ∧ wr = w7) (fun i _ => ul - (intOf i).toNat)
    case atStart => exact ⟨0, Nat.zero_le _, rfl, rfl⟩
    case round =>
      obtain ⟨k', hk', rfl, rfl⟩ := hrel
      by_cases hlt : k' < ul
      · obtain ⟨vb, vo, v, rfl, _, hv, v0, v1, v2⟩ := hu7.get hlt
        have p1 := unhide HPNE v (List.mem_of_getElem? hv)
        have d1 : (v.f == fe) = false := by simpa using p1
        clear hv p1
        go_wp2_with fail
        go_roundw
        case rel => exact ⟨k' + 1, by omega, by go_num, trivial⟩
        case measure => simp [intOf] <;> omega
      · have cE7 := hide (unhide cE6 wr B7.2 S7)
        obtain ⟨b0, b1, b2, b3⟩ := B7.cells
        clear cE6 hu7
        go_wp2_with fail
        refine (unhide cE7).mono ?_
        rintro e w8 ⟨rfl, hb8⟩
        have S8 := S7.trans (hb8.mono S7.size)
        have G8 := G7.below hb8
        clear cE7 hb8 S7 G7 B7 b0 b1 b2 b3
        by_cases h0 : sE = 0
        case neg =>
          have hv := errV_1 h0
          rw [hv]
          have d1 : (sE != 0) = true := by simpa using h0
          obtain ⟨k0, k1, k2, k3⟩ := unhide HGC _ G8
          have cS8 := hide (unhide cSt _ S8)
          clear h0 hv
          go_wp2_with fail
          refine (unhide cS8).mono ?_
          rintro e w9 ⟨rfl, hb9⟩
          go_wp2_with fail
          go_ret
          exact ⟨rfl, S8.trans (hb9.mono S8.size)⟩
        have hv := errV_0 h0
        rw [hv]
        obtain ⟨f, rfl, hfk, hk8, hst2, hvx⟩ := unhide HPEV h0
        have HVX := hide hvx
        have HST2 := hide hst2
        clear h0 hv HPEV hvx hst2 cSt
        have hown0 := World.ownsRow_nil w8 w8.heap.size 3 1
        have hr8 := (unhide HRD).below S8
        have eVX : (VX == VX) = true := by simp
        go_wp2_with (at_builtin; refine app_many elem_int (.tmp 132) (.tmp 133) rfl rfl rfl hown0 rfl hr8 (ints_oneCell .i64 r) (by omega) (Nat.le_refl _) ?_; intro v9 w9 hown9 hb9 _; have hown10 : w9.ownsRow w8.heap.size 3 1 v9 k (r.map (Value.int .i64)) := (by simpa using hown9); obtain ⟨g22, cap, rfl, hgb, hlt9⟩ := hown10.form (by omega); have ck := hown10.cellAt f (by omega); have fk := hown10.frozenAt f; have hek : (r.map (Value.int .i64))[f]? = some (.int .i64 (r.getD f 0)) := (by rw [List.getElem?_map, List.getD_eq_getElem?_getD, List.getElem?_eq_getElem (by omega)]; rfl); rw [hek] at ck; clear hek hown9; have hbS := hb9.setCell (p := ⟨g22, f, none⟩) hgb (.int .i64 (-1125899906842624)); have G9 := G8.below hbS; obtain ⟨k0, k1, k2, k3⟩ := unhide HGC _ G9)
        have hst := (hown10.stored f (.int .i64 (-1125899906842624))).1
        have hi10 : IReads (w9.setCell ⟨g22, f, none⟩ (.int .i64 (-1125899906842624))) (w9.setCell ⟨g22, f, none⟩ (.int .i64 (-1125899906842624))).heap.size (some ⟨g22, 0, none⟩) k (r.set f (-1125899906842624)) := by
          have := Reads.of_own hst
          unfold IReads
          rwa [List.map_set]
        have S9 := S8.trans (hbS.mono S8.size)
        clear hst hown10 ck fk hb9 k0 k1 k2 k3 hbS
        refine (unhide cEs _ (some ⟨g22, 0, none⟩) cap (r.set f (-1125899906842624)) G9.2 hi10).mono ?_
        rintro e w10 ⟨rfl, hb10⟩
        rw [unhide HST2, errV_0 rfl, ← unhide HVX]
        go_wp2_with fail
        go_ret
        exact ⟨rfl, S9.trans (hb10.mono S9.size)⟩
  have hv := errV_0 h00
  rw [hv] at cGn
  clear hv h00
  refine (unhide cGn _ S2).mono ?_
  rintro e w3 ⟨A3, c3, rfl, hu3, hb3⟩
  have S3 := S2.trans (hb3.mono S2.size)
  have G3 := G2.below hb3
  have HSG := hide (And.intro S3 G3)
  clear cGn S2 G2 hb3 u0 u1 u2 S3 G3
  go_wp2_with fail
  go_loopw [16] (fun i wr => ∃ k : Nat, k ≤ nl ∧ i = .int .i64 k ∧ Hid (Below w.heap.size w wr ∧ GBoxN wr w.heap.size g) ∧ UReads wr wr.heap.size A3 nl GL) (fun i _ => nl - (intOf i).toNat)
  case atStart => exact ⟨0, Nat.zero_le _, rfl, HSG, hu3⟩
  case round =>
    clear hu3 HSG
    obtain ⟨k', hk', rfl, HSG, hu3⟩ := hrel
    by_cases hlt : k' < nl
    · obtain ⟨vb, vo, v, rfl, _, hv, v0, v1, v2⟩ := hu3.get hlt
      obtain ⟨p1, p2⟩ := unhide HGI v (List.mem_of_getElem? hv)
      have d1 : decide (v.g < 0) = false := decide_eq_false (by omega)
      have d2 : decide (v.n < 1) = false := decide_eq_false (by omega)
      clear hv p1 p2
      go_wp2_with fail
      go_roundw
      case rel => exact ⟨k' + 1, by omega, by go_num, HSG, hu3⟩
      case measure => simp [intOf] <;> omega
    obtain ⟨k0, k1, k2, k3⟩ := unhide HGC wr (unhide HSG).2
    clear hu3
    go_wp2_with fail
    refine calls_nameX fun wc hX => ?_
    obtain ⟨S4, G4⟩ : Below w.heap.size w wc ∧ GBoxN wc w.heap.size g := by
      rw [hX]
      exact unhide HSG
    clear hX k0 k1 k2 k3
    refine (unhide cWo wc S4).mono ?_
    clear HSG
    rintro e w5 ⟨g', rfl, hg5, hz5, hn5, hb5⟩
    have S5 := S4.trans (hb5.mono S4.size)
    have G5 := G4.below hb5
    have gv5 : g'.val = .agg #[.int .i64 g'.f, .int .i64 g'.way, .slice g'.Aw g'.nw g'.cw, .slice g'.At g'.nt g'.ct] := rfl
    rw [gv5]
    clear cWo hb5 S4 G4 hn5
    by_cases h0 : WE = 0
    case neg =>
      have hv := errV_1 h0
      rw [hv]
      have S6 := S5.alloc S5.size (.cells #[.int .i64 g'.f, .int .i64 g'.way, .slice g'.Aw g'.nw g'.cw, .slice g'.At g'.nt g'.ct] 25)
      have G6 := G5.below ((Below.refl _ _).alloc (Nat.le_refl _) (.cells #[.int .i64 g'.f, .int .i64 g'.way, .slice g'.Aw g'.nw g'.cw, .slice g'.At g'.nt g'.ct] 25))
      obtain ⟨k0, k1, k2, k3⟩ := unhide HGC _ G6
      have HOR : Hid (ge = 0 → ¬ fe < 0 → gF ≤ fe) := hide (fun h1 h2 => by
        have h3 := unhide HWE
        rw [if_pos h1] at h3
        by_cases h4 : fe < 0 ∨ gF ≤ fe
        · omega
        · rw [if_neg h4] at h3; exact absurd h3 h0)
      have cR6 := hide (unhide cRG _ S6)
      clear hz5 HWO HWE hg5 h0
      go_wp2_with fail
      refine (unhide cR6).mono ?_
      rintro e w7 ⟨rfl, hb7⟩
      have S7 := S6.trans (hb7.mono S6.size)
      have G7 := G6.below hb7
      obtain ⟨j0, j1, j2, j3⟩ := unhide HGC _ G7
      clear cR6 hb7 G6 S6 k0 k1 k2 k3
      by_cases h1 : ge = 0
      · have d1 : (ge != 0) = false := by simpa using h1
        by_cases h2 : fe < 0
        · have d2 : decide (fe < 0) = true := decide_eq_true h2
          clear h1 h2 HOR
          go_wp2_with fail
          go_ret
          exact ⟨rfl, S7⟩
        · have d2 : decide (fe < 0) = false := decide_eq_false h2
          have d3 : decide (gF ≤ fe) = true := decide_eq_true (unhide HOR h1 (by omega))
          clear h1 h2 HOR
          go_wp2_with fail
          go_ret
          exact ⟨rfl, S7⟩
      · have d1 : (ge != 0) = true := by simpa using h1
        clear h1 HOR
        go_wp2_with fail
        go_ret
        exact ⟨rfl, S7⟩
    have hv := errV_0 h0
    rw [hv]
    have hz5' := hz5 h0
    rw [unhide HGW] at hz5'
    obtain ⟨pe, pst, pl8, pne, pev⟩ := unhide HWO g' h0 hz5'
    have HPST := hide pst
    have HPEV := hide pev
    have HPNE := hide pne
    clear hv hz5 hz5' HWO HWE pst pev pne h0
    go_wp2_with fail
    refine calls_nameX fun X hX => ?_
    obtain ⟨S6, G6, B6⟩ : Below w.heap.size w X ∧ GBoxN X w.heap.size g ∧ GBoxN X w5.heap.size g' := by
      rw [hX]
      exact ⟨S5.alloc S5.size _, G5.below ((Below.refl _ _).alloc (Nat.le_refl _) _), Blk.new _ _ _, hg5.belowN ((Below.refl _ _).alloc (Nat.le_refl _) _)⟩
    obtain ⟨g17, hg17⟩ : ∃ x, x = w5.heap.size := ⟨_, rfl⟩
    rw [← hg17] at B6 ⊢
    clear hX S5 G5 hg5 hg17 gv5
    have gv6 : g'.val = .agg #[.int .i64 g'.f, .int .i64 g'.way, .slice g'.Aw g'.nw g'.cw, .slice g'.At g'.nt g'.ct] := rfl
    have cU6 := hide (unhide cUs X g' pe B6.2)
    have cE6 := hide (fun (V : World) (h : GReads V V.heap.size g') (hB : Below w.heap.size w V) => unhide cEv V g' h hB)
    rw [gv6] at cU6 cE6
    rw [unhide HPST] at cE6
    obtain ⟨UL, hUL⟩ : ∃ L, L = usesL g'.trees := ⟨_, rfl⟩
    rw [← hUL] at cU6 pl8 HPNE
    obtain ⟨ul, hul⟩ : ∃ n, n = UL.length := ⟨_, rfl⟩
    rw [← hul] at cU6 pl8
    obtain ⟨VX, hVX⟩ : ∃ v, v = gevalV g' r := ⟨_, rfl⟩
    rw [← hVX] at cE6 HPEV
    clear hUL hul hVX cUs cEv gv6
    refine (unhide cU6).mono ?_
    rintro e w7 ⟨A7, c7, rfl, hu7, hb7⟩
    have S7 := S6.trans (hb7.mono S6.size)
    have G7 := G6.below hb7
    have B7 := B6.below hb7
    clear cU6 S6 G6 B6 hb7
    go_wp2_with fail
    go_loopw [20] (fun i wr => ∃ k : Nat, k ≤ ul ∧ i = .int .i64 k ∧ wr = w7) (fun i _ => ul - (intOf i).toNat)
    case atStart => exact ⟨0, Nat.zero_le _, rfl, rfl⟩
    case round =>
      obtain ⟨k', hk', rfl, rfl⟩ := hrel
      by_cases hlt : k' < ul
      · obtain ⟨vb, vo, v, rfl, _, hv, v0, v1, v2⟩ := hu7.get hlt
        have p1 := unhide HPNE v (List.mem_of_getElem? hv)
        have d1 : (v.f == fe) = false := by simpa using p1
        clear hv p1
        go_wp2_with fail
        go_roundw
        case rel => exact ⟨k' + 1, by omega, by go_num, trivial⟩
        case measure => simp [intOf] <;> omega
      · have cE7 := hide (unhide cE6 wr B7.2 S7)
        obtain ⟨b0, b1, b2, b3⟩ := B7.cells
        clear cE6 hu7
        go_wp2_with fail
        refine (unhide cE7).mono ?_
        rintro e w8 ⟨rfl, hb8⟩
        have S8 := S7.trans (hb8.mono S7.size)
        have G8 := G7.below hb8
        clear cE7 hb8 S7 G7 B7 b0 b1 b2 b3
        by_cases h0 : sE = 0
        case neg =>
          have hv := errV_1 h0
          rw [hv]
          have d1 : (sE != 0) = true := by simpa using h0
          obtain ⟨k0, k1, k2, k3⟩ := unhide HGC _ G8
          have cS8 := hide (unhide cSt _ S8)
          clear h0 hv
          go_wp2_with fail
          refine (unhide cS8).mono ?_
          rintro e w9 ⟨rfl, hb9⟩
          go_wp2_with fail
          go_ret
          exact ⟨rfl, S8.trans (hb9.mono S8.size)⟩
        have hv := errV_0 h0
        rw [hv]
        obtain ⟨f, rfl, hfk, hk8, hst2, hvx⟩ := unhide HPEV h0
        have HVX := hide hvx
        have HST2 := hide hst2
        clear h0 hv HPEV hvx hst2 cSt
        have hown0 := World.ownsRow_nil w8 w8.heap.size 3 1
        have hr8 := (unhide HRD).below S8
        have eVX : (VX == VX) = true := by simp
        go_wp2_with (at_builtin; refine app_many elem_int (.tmp 132) (.tmp 133) rfl rfl rfl hown0 rfl hr8 (ints_oneCell .i64 r) (by omega) (Nat.le_refl _) ?_; intro v9 w9 hown9 hb9 _; have hown10 : w9.ownsRow w8.heap.size 3 1 v9 k (r.map (Value.int .i64)) := (by simpa using hown9); obtain ⟨g22, cap, rfl, hgb, hlt9⟩ := hown10.form (by omega); have ck := hown10.cellAt f (by omega); have fk := hown10.frozenAt f; have hek : (r.map (Value.int .i64))[f]? = some (.int .i64 (r.getD f 0)) := (by rw [List.getElem?_map, List.getD_eq_getElem?_getD, List.getElem?_eq_getElem (by omega)]; rfl); rw [hek] at ck; clear hek hown9; have hbS := hb9.setCell (p := ⟨g22, f, none⟩) hgb (.int .i64 (-1125899906842624)); have G9 := G8.below hbS; obtain ⟨k0, k1, k2, k3⟩ := unhide HGC _ G9)
        have hst := (hown10.stored f (.int .i64 (-1125899906842624))).1
        have hi10 : IReads (w9.setCell ⟨g22, f, none⟩ (.int .i64 (-1125899906842624))) (w9.setCell ⟨g22, f, none⟩ (.int .i64 (-1125899906842624))).heap.size (some ⟨g22, 0, none⟩) k (r.set f (-1125899906842624)) := by
          have := Reads.of_own hst
          unfold IReads
          rwa [List.map_set]
        have S9 := S8.trans (hbS.mono S8.size)
        clear hst hown10 ck fk hb9 k0 k1 k2 k3 hbS
        refine (unhide cEs _ (some ⟨g22, 0, none⟩) cap (r.set f (-1125899906842624)) G9.2 hi10).mono ?_
        rintro e w10 ⟨rfl, hb10⟩
        rw [unhide HST2, errV_0 rfl, ← unhide HVX]
        go_wp2_with fail
        go_ret
        exact ⟨rfl, S9.trans (hb10.mono S9.size)⟩
end Go.Proofs.Ytopncifebldklaa
/- From an argument's reading to the words of the walks: a slice of nodes. Conditions: none. -/
namespace Go.Proofs.Ytopncifebldklaa
set_option linter.unusedVariables false
set_option linter.unusedSimpArgs false
open Go.RowKit Go.ChangeShapes Go.WideShapes Go.Deep

theorem reads_flat {α : Type} {w : World} {size n : Nat} {a : Addr} (f : α → List Value) (hf : ∀ x, (f x).length = size) (hs : 0 < size) (l : List α) (hl : l.length = n) (hb : 0 < n → a.block < w.heap.size)
    (h : ∀ (i : Nat) x, l[i]? = some x → ∀ (r : Nat) u, r < size → (f x)[r]? = some u → w.cell? (a.add (i * size + r)) = some u) : Reads w w.heap.size size (some a) n (l.flatMap f) := by
  refine ⟨by rw [flatMap_len f size hf, hl], fun hn => ⟨a, rfl, hb hn, fun j u hu => ?_⟩⟩
  have hj : j < n * size := by
    have := (List.getElem?_eq_some_iff.1 hu).1
    rwa [flatMap_len f size hf, hl] at this
  have hi : j / size < n := Nat.div_lt_of_lt_mul (by rwa [Nat.mul_comm])
  have hx : l[j / size]? = some l[j / size] := List.getElem?_eq_getElem (by omega)
  have hr : j % size < size := Nat.mod_lt _ hs
  have e : j / size * size + j % size = j := by rw [Nat.mul_comm]; exact Nat.div_add_mod j size
  have := flatMap_at f size hf l (j / size) (j % size) _ hx hr
  rw [e, hu] at this
  have := h _ _ hx _ u hr this.symm
  rwa [e] at this

theorem arg_nodes {H : Type} {enc : TypeId × Value → H} {w : World} {sp : Nat → Bool} {A : Option Addr} {n c : Nat} {d : DataW H} {p : List MemPlace}
    (h : DataW.Trod enc Try.prog w 0 sp true 26 (.slice A n c) d p) : ∃ t : List Nd, NReads w w.heap.size A n t ∧ n ≤ maxLen ∧ n ≤ c := by
  obtain ⟨fuel, hf⟩ := h
  rcases open_slice_fields Try.underlying26 Try.underlying29 (by kernel_rfl) (by kernel_rfl) hf with ⟨hcs, _⟩ | ⟨a, len, cap, m, D, Pl, hcs, _, hl, hm, hmm, _, hi⟩
  · simp [Value.cells] at hcs
    obtain ⟨rfl, rfl, rfl⟩ := hcs
    exact ⟨[], ⟨by simp, fun h0 => absurd h0 (by omega)⟩, Nat.zero_le _, Nat.le_refl _⟩
  · simp [Value.cells] at hcs
    obtain ⟨rfl, rfl, rfl⟩ := hcs
    have hmn : n ≤ m := by rw [hmm]; split <;> omega
    have key : ∀ i, i < n → ∃ x : Nd, ∀ (r : Nat) u, r < 6 → (Nd.cells x)[r]? = some u → w.cell? (a.add (i * 6 + r)) = some u := by
      intro i hin
      obtain ⟨ys, q, _, _, _, hfl⟩ := hi i (by omega)
      obtain ⟨v0, y0, c0, _, t0⟩ := hfl 0 _ rfl
      obtain ⟨v1, y1, c1, _, t1⟩ := hfl 1 _ rfl
      obtain ⟨v2, y2, c2, _, t2⟩ := hfl 2 _ rfl
      obtain ⟨v3, y3, c3, _, t3⟩ := hfl 3 _ rfl
      obtain ⟨v4, y4, c4, _, t4⟩ := hfl 4 _ rfl
      obtain ⟨v5, y5, c5, _, t5⟩ := hfl 5 _ rfl
      obtain ⟨x0, e0, _⟩ := DataW.trod_int Try.underlying3 t0
      obtain ⟨x1, e1, _⟩ := DataW.trod_int Try.underlying3 t1
      obtain ⟨x2, e2, _⟩ := DataW.trod_int Try.underlying3 t2
      obtain ⟨x3, e3, _⟩ := DataW.trod_int Try.underlying3 t3
      obtain ⟨x4, e4, _⟩ := DataW.trod_bool Try.underlying4 t4
      obtain ⟨x5, e5, _⟩ := DataW.trod_int Try.underlying3 t5
      simp at e0 e1 e2 e3 e4 e5
      subst e0 e1 e2 e3 e4 e5
      refine ⟨⟨x0, x1, x2, x3, x4, x5⟩, fun r u hr hu => ?_⟩
      match r, hr with
      | 0, _ => simp [Nd.cells] at hu; subst hu; exact c0
      | 1, _ => simp [Nd.cells] at hu; subst hu; exact c1
      | 2, _ => simp [Nd.cells] at hu; subst hu; exact c2
      | 3, _ => simp [Nd.cells] at hu; subst hu; exact c3
      | 4, _ => simp [Nd.cells] at hu; subst hu; exact c4
      | 5, _ => simp [Nd.cells] at hu; subst hu; exact c5
    have key2 : ∀ i, ∃ x : Nd, i < n → ∀ (r : Nat) u, r < 6 → (Nd.cells x)[r]? = some u → w.cell? (a.add (i * 6 + r)) = some u := by
      intro i
      by_cases hin : i < n
      · obtain ⟨x, hx⟩ := key i hin
        exact ⟨x, fun _ => hx⟩
      · exact ⟨⟨0, 0, 0, 0, false, 0⟩, fun h => absurd h hin⟩
    refine ⟨(List.range n).map (fun i => Classical.choose (key2 i)), reads_flat Nd.cells (fun _ => rfl) (by omega) _ (by simp) ?_ ?_, by omega, hl⟩
    · intro hn
      obtain ⟨x, hx⟩ := key 0 hn
      have := cell_lt (hx 0 _ (by omega) rfl)
      rwa [block_of_add] at this
    · intro i x hx r u hr hu
      simp only [List.getElem?_map, Option.map_eq_some_iff] at hx
      obtain ⟨j, hj, rfl⟩ := hx
      obtain ⟨hjl, rfl⟩ := List.getElem?_eq_some_iff.1 hj
      simp only [List.getElem_range] at hu
      exact Classical.choose_spec (key2 i) (by simpa using hjl) r u hr hu
end Go.Proofs.Ytopncifebldklaa
/- From an argument's reading to the words of the walks: a grove. Conditions: none. -/
namespace Go.Proofs.Ytopncifebldklaa
set_option linter.unusedVariables false
set_option linter.unusedSimpArgs false
open Go.RowKit Go.ChangeShapes Go.WideShapes Go.Deep Go.Joins

theorem choose_list {α : Type} [Inhabited α] {n : Nat} {P : Nat → α → Prop} (h : ∀ i, i < n → ∃ x, P i x) : ∃ l : List α, l.length = n ∧ ∀ (i : Nat) x, l[i]? = some x → P i x := by
  have key : ∀ i, ∃ x : α, i < n → P i x := fun i => by
    by_cases hin : i < n
    · obtain ⟨x, hx⟩ := h i hin; exact ⟨x, fun _ => hx⟩
    · exact ⟨default, fun h => absurd h hin⟩
  refine ⟨(List.range n).map (fun i => Classical.choose (key i)), by simp, fun i x hx => ?_⟩
  simp only [List.getElem?_map, Option.map_eq_some_iff] at hx
  obtain ⟨j, hj, rfl⟩ := hx
  obtain ⟨hjl, rfl⟩ := List.getElem?_eq_some_iff.1 hj
  simp only [List.getElem_range]
  exact Classical.choose_spec (key i) (by simpa using hjl)
instance : Inhabited Tr := ⟨⟨none, 0, 0, []⟩⟩
/-- a slice's cell: its form, and nil's -/
theorem slice_form {H : Type} {enc : TypeId × Value → H} {P : Program} {w : World} {base : Nat} {sp : Nat → Bool} {held : Bool} {t e : TypeId} {fuel : Nat} {v : Value} {x : DataW H × List MemPlace} (ht : P.underlying t = some (.slice e)) (h : DataW.trod enc P w base sp held fuel t [v] = some x) :
    ∃ A n c, v = .slice A n c ∧ (A = none → c = 0) ∧ n ≤ c := by
  rcases open_slice ht h with ⟨h0, _⟩ | ⟨a, len, cap, m, k, D, Pl, hcs, _, hl, _⟩
  · injection h0 with h0; subst h0; exact ⟨none, 0, 0, rfl, fun _ => rfl, Nat.le_refl _⟩
  · injection hcs with hcs; subst hcs; exact ⟨some a, len, cap, rfl, (fun e => by cases e), hl⟩

theorem arg_trees {H : Type} {enc : TypeId × Value → H} {w : World} {sp : Nat → Bool} {fuel : Nat} {A : Option Addr} {n c : Nat} {x : DataW H × List MemPlace}
    (h : DataW.trod enc Try.prog w 0 sp true fuel 23 [.slice A n c] = some x) : ∃ ts : List Tr, TReads w w.heap.size A n ts ∧ n ≤ maxLen ∧ (A = none → c = 0) := by
  rcases open_slice Try.underlying23 h with ⟨hcs, _⟩ | ⟨a, len, cap, m, k, D, Pl, hcs, _, hl, hm, hmm, _, hi⟩
  · injection hcs with hcs
    injection hcs with e1 e2 e3
    subst e1 e2 e3
    exact ⟨[], ⟨⟨by simp, fun h0 => absurd h0 (by omega)⟩, fun r hr => by cases hr⟩, Nat.zero_le _, fun _ => rfl⟩
  · injection hcs with hcs
    injection hcs with e1 e2 e3
    subst e1 e2 e3
    have hmn : n ≤ m := by rw [hmm]; split <;> omega
    have hC : Try.prog.cellsOf 26 = 1 := by kernel_rfl
    rw [hC] at hi
    obtain ⟨ts, hlen, hts⟩ := choose_list (n := n) (P := fun i (r : Tr) => w.cell? (a.add i) = some r.val ∧ TrOk w w.heap.size r) (fun i hin => by
      obtain ⟨cs', hc, ht⟩ := hi i (by omega)
      obtain ⟨_, hcl, hat⟩ := World.cells?_some hc
      have h1 := hat 0 (by omega)
      obtain ⟨v, rfl⟩ : ∃ v, cs' = [v] := by
        match cs', hcl with
        | [v], _ => exact ⟨v, rfl⟩
      obtain ⟨A', n', c', rfl, hnil, _⟩ := slice_form Try.underlying26 ht
      obtain ⟨t, hr, hn, _⟩ := arg_nodes (sp := sp) (c := c') ⟨k, ht⟩
      refine ⟨⟨A', n', c', t⟩, ?_, hr, hn, hnil⟩
      have e : (a.add (i * 1)).add 0 = a.add i := by rw [add_of_add]; simp
      rw [e] at h1
      exact h1)
    refine ⟨ts, ⟨⟨by simp [hlen], fun h0 => ⟨a, rfl, ?_, fun j u hu => ?_⟩⟩, fun r hr => ?_⟩, by omega, fun e => by cases e⟩
    · obtain ⟨t0, ht0⟩ : ∃ t0, ts[0]? = some t0 := ⟨ts[0]'(by omega), List.getElem?_eq_getElem _⟩
      have := cell_lt (hts 0 t0 ht0).1
      rwa [block_of_add] at this
    · rw [List.getElem?_map, Option.map_eq_some_iff] at hu
      obtain ⟨r, hr, rfl⟩ := hu
      exact (hts j r hr).1
    · obtain ⟨i, hi'⟩ := List.mem_iff_getElem?.1 hr
      exact (hts i r hi').2

set_option maxRecDepth 100000 in
theorem arg_grove {H : Type} {enc : TypeId × Value → H} {w : World} {sp : Nat → Bool} {r : Reach} {b0 : Nat} {v : Value} {d : DataW H} {p : List MemPlace}
    (hv : Value.okWide Try.prog w r b0 25 v) (h : DataW.Trod enc Try.prog w 0 sp true 25 v d p) : ∃ g : Gv, v = g.val ∧ GReads w w.heap.size g := by
  obtain ⟨v0, v1, v2, v3, y0, y1, y2, y3, n, rfl, _, _, t0, t1, t2, t3⟩ := open_agg4 Try.underlying25 (by kernel_rfl) (by kernel_rfl) hv h
  obtain ⟨x0, e0, _⟩ := DataW.trod_int Try.underlying3 t0
  obtain ⟨x1, e1, _⟩ := DataW.trod_int Try.underlying3 t1
  simp at e0 e1
  subst e0 e1
  obtain ⟨Aw, nw, cw, rfl, hnw, _⟩ := slice_form Try.underlying22 t2
  obtain ⟨At, nt, ct, rfl, hnt, _⟩ := slice_form Try.underlying23 t3
  obtain ⟨ws, g1, g2, _⟩ := arg_ints (sp := sp) (c := cw) Try.underlying22 Try.underlying3 (by kernel_rfl) ⟨n, t2⟩
  obtain ⟨ts, g3, g4, _⟩ := arg_trees t3
  exact ⟨⟨x0, x1, Aw, nw, cw, ws, At, nt, ct, ts⟩, rfl, g1, g3, g2, g4, hnw, hnt⟩
end Go.Proofs.Ytopncifebldklaa
