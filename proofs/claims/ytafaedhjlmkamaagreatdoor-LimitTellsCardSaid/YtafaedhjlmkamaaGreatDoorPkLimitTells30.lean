/- Part 30 of what LawLimitTells needs: Steps, RefValue. Conditions: as each lemma names. -/
import Derived.Test.YtafaedhjlmkamaaGreatDoorPkLimitTells29
import Derived.Test.YtafaedhjlmkamaaGreatDoorPkLimitTells19
import Derived.Test.YtafaedhjlmkamaaGreatDoorPkLimitTells12
/- limit.Steps. Conditions: as each lemma names. -/
namespace Go.Proofs.YtafaedhjlmkamaaGreatDoor
set_option linter.unusedVariables false
set_option linter.unusedSimpArgs false
open Go.RowKit

def cutsOf (t : List Nd) (fe : Int) : List Int := (t.filter fun n => n.f == fe).map Nd.c
def stepC (t : List Nd) (fe : Int) : List Int := compactL (sortL (cutsOf t fe))
def valOf (t : List Nd) (r : List Int) : Int := valAt t (leafOf t r)
def stepV (t : List Nd) (row : List Int) (f : Nat) (cs : List Int) : List Int := valOf t (row.set f (-1000001)) :: cs.map fun c => valOf t (row.set f c)
def stepsE (t : List Nd) (row : List Int) (fe : Int) : Int := if readyE t row = 0 then (if fe < 0 then 1 else if (row.length : Int) ≤ fe then 1 else 0) else readyE t row
theorem cutsOf_len (t : List Nd) (fe : Int) : (cutsOf t fe).length ≤ t.length := by unfold cutsOf; rw [List.length_map]; exact List.length_filter_le _ _
theorem cuts_hit {t : List Nd} {fe : Int} {k : Nat} {n : Nd} (h : t[k]? = some n) (hf : n.f = fe) : cutsOf (t.take (k + 1)) fe = cutsOf (t.take k) fe ++ [n.c] := by
  unfold cutsOf; rw [take_next h, List.filter_append, List.map_append]; simp [hf]
theorem cuts_miss {t : List Nd} {fe : Int} {k : Nat} {n : Nd} (h : t[k]? = some n) (hf : n.f ≠ fe) : cutsOf (t.take (k + 1)) fe = cutsOf (t.take k) fe := by
  unfold cutsOf; rw [take_next h, List.filter_append, List.map_append]; simp [hf]
/-- a row of ints of which one cell is written -/
theorem IReads.stored {w : World} {B n g o k : Nat} {l : List Int} (h : IReads w B (some ⟨g, o, none⟩) n l) (hk : k < n) (x : Int) : IReads (w.setCell ⟨g, o + k, none⟩ (.int .i64 x)) B (some ⟨g, o, none⟩) n (l.set k x) := by
  have hl := h.len
  obtain ⟨_, _, e, hb, hc⟩ := Reads.spot h (by omega) (by omega)
  cases e
  refine ⟨by simp [hl], fun _ => ⟨_, rfl, hb, fun j u hu => ?_⟩⟩
  have hj : j < n := by
    have := (List.getElem?_eq_some_iff.1 hu).1
    simpa [hl] using this
  have hadd : (⟨g, o, none⟩ : Addr).add j = ⟨g, o + j, none⟩ := by
    unfold Addr.add
    split
    · rename_i e; rw [e]; rfl
    · rfl
  rw [hadd]
  rw [List.getElem?_map, List.getElem?_set] at hu
  by_cases he : k = j
  · subst he
    rw [if_pos rfl, if_pos (by omega)] at hu
    have : Value.int .i64 x = u := by simpa using hu
    subst this
    obtain ⟨b, o', y, e2, _, _, hcy⟩ := h.get hk
    cases e2
    exact World.cell?_setCell_same' _ _ _ (by rw [hcy]; rfl)
  · rw [if_neg he] at hu
    rw [World.cell?_setCell_other _ _ _ _ (by intro e; injection e; omega)]
    exact hc j u (by rw [List.getElem?_map]; exact hu)

def StepsPost (t : List Nd) (row : List Int) (fe : Int) (w : World) (e : Ending) (w' : World) : Prop :=
  ∃ A1 n1 c1 A2 n2 c2 C V, e = .returned (.tuple #[.slice A1 n1 c1, .slice A2 n2 c2, errV (stepsE t row fe)]) ∧ IReads w' w'.heap.size A1 n1 C ∧ IReads w' w'.heap.size A2 n2 V ∧
    (stepsE t row fe = 0 → C = stepC t fe ∧ V = stepV t row fe.toNat (stepC t fe)) ∧ (stepsE t row fe ≠ 0 → n1 = 0 ∧ n2 = 0) ∧ Below w.heap.size w w'
theorem StepsPost.fault {t : List Nd} {row : List Int} {fe : Int} {w w' : World} (h : stepsE t row fe ≠ 0) (hb : Below w.heap.size w w') : StepsPost t row fe w (.returned (.tuple #[.slice none 0 0, .slice none 0 0, errV (stepsE t row fe)])) w' :=
  ⟨none, 0, 0, none, 0, 0, [], [], rfl, IReads.nil_, IReads.nil_, fun h' => absurd h' h, fun _ => ⟨rfl, rfl⟩, hb⟩

set_option maxRecDepth 100000 in
set_option maxHeartbeats 4000000 in
theorem Steps_any (A C : Option Addr) (m d k q : Nat) (t : List Nd) (row : List Int) (fe : Int) (w : World) (ht : NReads w w.heap.size A m t) (hr : IReads w w.heap.size C k row) (hm : m ≤ maxLen) (hk : k ≤ maxLen) (hC : C = none → q = 0) :
    Calls Tryz.prog 17 #[.slice A m d, .slice C k q, .int .i64 fe] w (StepsPost t row fe w) := by
  have hlen := ht.len
  have hlr := hr.len
  by_cases h0 : readyE t row = 0
  case neg =>
    have hv := errV_1 h0
    have HV := hide hv
    have HE : Hid (stepsE t row fe = readyE t row) := hide (by unfold stepsE; rw [if_neg h0])
    have HN := hide h0
    clear h0 hlen hlr
    go_enter Tryz.func17, Tryz.ntmps17
    go_wp2_with fail
    refine (ready_any A C m d k q t row _ ht hr hm hk).mono ?_
    rintro e w1 ⟨rfl, hb1⟩
    rw [hv]
    clear hv
    go_wp2_with fail
    go_ret3
    have := StepsPost.fault (t := t) (row := row) (fe := fe) (w' := w1) (by rw [unhide HE]; exact unhide HN) hb1
    rw [unhide HE, unhide HV] at this
    exact this
  have hv := errV_0 h0
  by_cases h1 : fe < 0
  · have HE : Hid (stepsE t row fe = 1) := hide (by unfold stepsE; rw [if_pos h0, if_pos h1])
    have d1 : decide (fe < 0) = true := by simpa using h1
    clear h0 hlen hlr
    go_enter Tryz.func17, Tryz.ntmps17
    go_wp2_with fail
    refine (ready_any A C m d k q t row _ ht hr hm hk).mono ?_
    rintro e w1 ⟨rfl, hb1⟩
    rw [hv]
    clear hv
    go_wp2_with fail
    go_ret3
    have := StepsPost.fault (t := t) (row := row) (fe := fe) (w' := w1) (by rw [unhide HE]; decide) hb1
    rw [unhide HE] at this
    exact this
  by_cases h2 : (k : Int) ≤ fe
  · have HE : Hid (stepsE t row fe = 1) := hide (by unfold stepsE; rw [if_pos h0, if_neg h1, if_pos (by omega)])
    have d1 : decide (fe < 0) = false := by simpa using h1
    have d2 : decide ((k : Int) ≤ fe) = true := by simpa using h2
    clear h0 hlen hlr
    go_enter Tryz.func17, Tryz.ntmps17
    go_wp2_with fail
    refine (ready_any A C m d k q t row _ ht hr hm hk).mono ?_
    rintro e w1 ⟨rfl, hb1⟩
    rw [hv]
    clear hv
    go_wp2_with fail
    go_ret3
    have := StepsPost.fault (t := t) (row := row) (fe := fe) (w' := w1) (by rw [unhide HE]; decide) hb1
    rw [unhide HE] at this
    exact this
  have HE : Hid (stepsE t row fe = 0) := hide (by unfold stepsE; rw [if_pos h0, if_neg h1, if_neg (by omega)])
  obtain ⟨f, rfl⟩ : ∃ f : Nat, fe = f := ⟨fe.toNat, by omega⟩
  obtain ⟨_, hR, h8⟩ := readyE_right h0
  rw [hlr] at hR h8
  have hm63 : m ≤ 63 := by have := hR.most; omega
  have hm0 : 0 < m := by have := hR.pos; omega
  have hfk : f < k := by omega
  have d1 : decide ((f : Int) < 0) = false := by simp
  have d2 : decide ((k : Int) ≤ (f : Int)) = false := by simp; omega
  have d3 : decide (k ≤ f) = false := by simp; omega
  have HR := hide hR
  have HL := hide hlen
  have HLR := hide hlr
  clear h0 h1 h2 hR hlen hlr
  go_enter Tryz.func17, Tryz.ntmps17
  go_wp2_with fail
  refine (ready_any A C m d k q t row _ ht hr hm hk).mono ?_
  rintro e w1 ⟨rfl, hb1⟩
  rw [hv]
  clear hv
  go_wp2_with fail
  go_loopw [10, 33] (fun v i wr => ∃ j : Nat, j ≤ m ∧ i = .int .i64 j ∧ IOwn wr w.heap.size v (cutsOf (t.take j) f) ∧ Below w.heap.size w wr) (fun _ i _ => m - (intOf i).toNat)
  case atStart => exact ⟨0, Nat.zero_le _, rfl, by simpa [cutsOf] using IOwn.nil_ _ _, hb1⟩
  case round =>
    obtain ⟨j, hj, rfl, hown, hbel⟩ := hrel
    have hsz := hbel.size
    clear hb1
    by_cases hlt : j < m
    · obtain ⟨b, o, x, rfl, hbb, hx, g0, g1, g2, g3, g4, g5⟩ := (ht.below hbel).get hlt
      have hcl := cutsOf_len (t.take j) f
      have hj63 : (t.take j).length ≤ j := List.length_take_le _ _
      have hk9 : (cutsOf (t.take j) f).length < 1000000000 := by omega
      have hb9 : ∀ o, w.heap.size ≤ (wr.alloc o).heap.size := fun o => by rw [World.size_alloc]; omega
      by_cases hf : x.f = f
      · have HY := hide (cuts_hit hx hf)
        obtain ⟨xf, xc, xl, xr, xs, xv⟩ := x
        simp only at hf g0 g1 g2 g3 g4 g5 HY
        subst hf
        have dq : ((f : Int) == (f : Int)) = true := by simp
        clear hx
        go_wp2_with (at_builtin; refine app_one elem_int (.tmp 41) (.tmp 44) [.int .i64 xc] rfl rfl rfl (hown.alloc _) rfl (World.size_alloc _ _) rfl (ints_oneCell .i64 [xc]) hk9 (hb9 _) ?_; intro v' w2 hown2 hb2 hne _)
        have hown3 : IOwn w2 w.heap.size v' (cutsOf (t.take (j + 1)) f) := by rw [unhide HY]; unfold IOwn; rw [List.length_append, List.map_append]; exact hown2
        clear hown2
        go_wp2_with fail
        go_roundw
        case rel => exact ⟨j + 1, by omega, by go_num, hown3, (hbel.alloc hsz _).trans hb2⟩
        case measure => simp [intOf] <;> omega
      · have HY := hide (cuts_miss hx hf)
        have dq : (x.f == (f : Int)) = false := by simpa using hf
        obtain ⟨xf, xc, xl, xr, xs, xv⟩ := x
        simp only at g0 g1 g2 g3 g4 g5 HY dq
        clear hx hf
        go_wp2_with fail
        go_roundw
        case rel => exact ⟨j + 1, by omega, by go_num, by rw [unhide HY]; exact hown.alloc _, hbel.alloc hsz _⟩
        case measure => simp [intOf] <;> omega
    · obtain rfl : j = m := by omega
      have hcl := cutsOf_len t f
      rw [List.take_of_length_le (by rw [unhide HL]; exact Nat.le_refl _)] at hown
      have hcl63 : (cutsOf t f).length ≤ 63 := by rw [unhide HL] at hcl; omega
      clear hcl
      go_wp2_with fail
      refine (sort_any _ _ w.heap.size wr hown hsz (by omega)).mono ?_
      rintro e w2 ⟨rfl, ho2, _, hb2⟩
      have hB2 := hbel.trans hb2
      have hs2 := hB2.size
      clear hown hb2 hbel hsz
      go_wp2_with fail
      refine (compact_any _ _ w.heap.size w2 ho2 hs2 (by rw [sortL_len]; omega)).mono ?_
      rintro e w3 ⟨v3, rfl, ho3, hb3⟩
      have hB3 := hB2.trans hb3
      have hs3 := hB3.size
      clear ho2 hb3 hB2 hs2
      obtain ⟨CS, hCS⟩ : ∃ CS, CS = stepC t f := ⟨_, rfl⟩
      have hcs : compactL (sortL (cutsOf t f)) = CS := hCS.symm
      rw [hcs] at ho3
      have hcn : CS.length ≤ 63 := by rw [← hcs]; have := compactL_len (sortL (cutsOf t f)); rw [sortL_len] at this; omega
      have HCS := hide hCS
      clear hCS hcs
      obtain ⟨A3, c3, rfl, hr3, _, _, _⟩ := ho3.slice_
      go_wp2_with fail
      refine (cloneI_any C k q w3.heap.size row w3 ((hr.below hB3).more hs3) (Nat.le_refl _) (by omega) hC).mono ?_
      rintro e w4 ⟨v4, rfl, ho4, hb4⟩
      have hB4 := hB3.trans (hb4.mono hs3)
      have hs4 := hB4.size
      have hr4 := hr3.below hb4
      have hz4 := hb4.size
      rcases ho4.2 with ⟨_, h0⟩ | ⟨g, cap, cur, rfl, hg, hblk, hcap, _⟩
      · have := unhide HLR; omega
      have hrw : IReads w4 w4.heap.size (some ⟨g, 0, none⟩) row.length row := Reads.of_own ho4
      have hbk : Blk w4 g 3 cur := hblk
      rw [unhide HLR] at hrw ⊢
      have hgl := hbk.lt
      clear ho4 hblk hb4 hr3 ho3 hB3
      obtain ⟨_, _, y, e, _, _, cy⟩ := hrw.get hfk
      cases e
      rw [Nat.zero_add] at cy
      have fy := hbk.frozen f
      have hrw2 := hrw.stored hfk (-1000001)
      rw [Nat.zero_add] at hrw2
      have hbk2 := hbk.set_ f (.int .i64 (-1000001))
      have hB5 := hB4.setCell (p := ⟨g, f, none⟩) (by show w.heap.size ≤ g; omega) (.int .i64 (-1000001))
      have hr5 := Reads.setCell hr4 (p := ⟨g, f, none⟩) hg (.int .i64 (-1000001))
      have hs5 : (w4.setCell ⟨g, f, none⟩ (.int .i64 (-1000001))).heap.size = w4.heap.size := by simp [World.setCell]
      have hR5 : IReads (w4.setCell ⟨g, f, none⟩ (.int .i64 (-1000001))) w4.heap.size (some ⟨g, 0, none⟩) k (row.set f (-1000001)) := hrw2
      have hz5 : w4.heap.size ≤ (w4.setCell ⟨g, f, none⟩ (.int .i64 (-1000001))).heap.size := by rw [hs5]; exact Nat.le_refl _
      clear hrw hrw2 hr4 hbk hB4
      go_wp2_with fail
      clear cy fy
      generalize w4.setCell ⟨g, f, none⟩ (.int .i64 (-1000001)) = W5 at *
      have hs6 := hB5.size
      refine (walk_any A (some ⟨g, 0, none⟩) j d k cap t (row.set f (-1000001)) W5 ((ht.below hB5).more hs6) (hR5.more hz5) hm0 hm63 (by omega) (unhide HR).behind (unhide HR).asks).mono ?_
      rintro e w6 ⟨rfl, hb6⟩
      have hB6 := hB5.trans (hb6.mono hs6)
      have hR6 := hR5.below (hb6.mono hz5)
      have hr6 := hr5.below (hb6.mono (by omega))
      have hbk6 := hbk2.below hb6 (by omega)
      have hz6 := Nat.le_trans hz5 hb6.size
      have hlf : leafOf t (row.set f (-1000001)) < j := by
        have := leafFrom_lt (unhide HR).behind (row := row.set f (-1000001)) t.length 0 (by rw [unhide HL]; exact hm0)
        rw [unhide HL] at this; unfold leafOf; rw [unhide HL]; exact this
      have hvo : valOf t (row.set f (-1000001)) = valAt t (leafOf t (row.set f (-1000001))) := rfl
      obtain ⟨b, o, x, rfl, hbb, hx, g0, g1, g2, g3, g4, g5⟩ := (ht.below hB6).get hlf
      rw [valAt_of hx] at hvo
      obtain ⟨lf, hlfe⟩ : ∃ lf, lf = leafOf t (row.set f (-1000001)) := ⟨_, rfl⟩
      rw [← hlfe] at g5 hlf ⊢
      have HV0 := hide hvo
      obtain ⟨v0, hv0⟩ : ∃ v0, v0 = x.v := ⟨_, rfl⟩
      rw [← hv0] at g5
      have HV1 := hide hv0
      clear hvo hv0 hx g0 g1 g2 g3 g4 hlfe hb6 hR5 hr5 hbk2 hB5 hs6 hz5 hs5
      have hone := own_new (w := w6) (B := w6.heap.size) [.int .i64 v0] 3 1 1 rfl (by decide) (Nat.le_refl _)
      have hB7 := hB6.alloc hB6.size (.cells #[.int .i64 v0] 3)
      have hR7 := Reads.alloc hR6 hz6 (.cells #[.int .i64 v0] 3)
      have hr7 := Reads.alloc hr6 (by omega) (.cells #[.int .i64 v0] 3)
      have hbk7 := hbk6.alloc (.cells #[.int .i64 v0] 3)
      have hgk : g < w4.heap.size := hgl
      clear hR6 hr6 hbk6
      go_wp2_with fail
      go_loopw [13, 15, 66] (fun v _ i wr => ∃ p : Nat, p ≤ CS.length ∧ i = .int .i64 p ∧ (∃ z, IReads wr w4.heap.size (some ⟨g, 0, none⟩) k (row.set f z)) ∧ (∃ cs, Blk wr g 3 cs) ∧ IReads wr w3.heap.size A3 CS.length CS ∧ wr.ownsRow w6.heap.size 3 1 v (p + 1) ((stepV t row f (CS.take p)).map (Value.int .i64)) ∧ w6.heap.size ≤ wr.heap.size ∧ Below w.heap.size w wr) (fun _ _ i _ => CS.length - (intOf i).toNat)
      case atStart => exact ⟨0, Nat.zero_le _, rfl, ⟨_, hR7⟩, ⟨_, hbk7⟩, hr7, by
        have e : stepV t row f (CS.take 0) = [v0] := by unfold stepV; rw [unhide HV0, unhide HV1]; rfl
        rw [e]; exact hone, by rw [World.size_alloc]; omega, hB7⟩
      case round =>
        obtain ⟨p, hp, rfl, ⟨z, hRz⟩, ⟨cs, hbk⟩, hCS, hown, hzr, hbel⟩ := hrel
        have hsz := hbel.size
        obtain ⟨A9, c9, rfl, hr9, _, _⟩ := own_slice hown
        clear hone hR7 hr7 hbk7 hB7 hB6
        by_cases hlt : p < CS.length
        · obtain ⟨b9, o9, c, rfl, hb9, hxc, cc⟩ := hCS.get hlt
          obtain ⟨_, _, y, e, _, _, cy⟩ := hRz.get hfk
          cases e
          rw [Nat.zero_add] at cy
          have fy := hbk.frozen f
          have hRc := hRz.stored hfk c
          rw [Nat.zero_add, List.set_set] at hRc
          have hbkc := hbk.set_ f (.int .i64 c)
          have hBc := hbel.setCell (p := ⟨g, f, none⟩) (by show w.heap.size ≤ g; omega) (.int .i64 c)
          have hCc : IReads (wr.setCell ⟨g, f, none⟩ (.int .i64 c)) w3.heap.size (some ⟨b9, o9, none⟩) CS.length CS := Reads.setCell hCS (p := ⟨g, f, none⟩) hg (.int .i64 c)
          have hoc : (wr.setCell ⟨g, f, none⟩ (.int .i64 c)).ownsRow w6.heap.size 3 1 (.slice A9 (p + 1) c9) (p + 1) ((stepV t row f (CS.take p)).map (Value.int .i64)) := ownsRow_setCell_below hown (a := ⟨g, f, none⟩) (by show g < w6.heap.size; omega) _
          have hzc : (wr.setCell ⟨g, f, none⟩ (.int .i64 c)).heap.size = wr.heap.size := by simp [World.setCell]
          have HXC := hide (take_next hxc)
          have hRd : IReads (wr.setCell ⟨g, f, none⟩ (.int .i64 c)) w4.heap.size (some ⟨g, 0, none⟩) k (row.set f c) := hRc
          clear hRc hxc hCS hRz hbk hown hbel
          go_wp2_with fail
          clear cc cy fy
          generalize wr.setCell ⟨g, f, none⟩ (.int .i64 c) = Wc at *
          have hsc := hBc.size
          refine (walk_any (some ⟨b, o, none⟩) (some ⟨g, 0, none⟩) j d k cap t (row.set f c) Wc ((ht.below hBc).more hsc) (hRd.more (by omega)) hm0 hm63 (by omega) (unhide HR).behind (unhide HR).asks).mono ?_
          rintro e w7 ⟨rfl, hb7⟩
          have hB8 := hBc.trans (hb7.mono hsc)
          have hR8 := hRd.below (hb7.mono (by omega))
          have hC8 := hCc.below (hb7.mono (by omega))
          have hk8 := hbkc.below hb7 (by omega)
          have ho8 := own_below hoc hb7
          have hz8 := hb7.size
          have hlf2 : leafOf t (row.set f c) < j := by
            have := leafFrom_lt (unhide HR).behind (row := row.set f c) t.length 0 (by rw [unhide HL]; exact hm0)
            rw [unhide HL] at this; unfold leafOf; rw [unhide HL]; exact this
          have hvo : valOf t (row.set f c) = valAt t (leafOf t (row.set f c)) := rfl
          obtain ⟨_, _, x, hAe, hbb2, hx, g0, g1, g2, g3, g4, g5⟩ := (ht.below hB8).get hlf2
          cases hAe
          rw [valAt_of hx] at hvo
          obtain ⟨lf2, hlfe⟩ : ∃ lf, lf = leafOf t (row.set f c) := ⟨_, rfl⟩
          rw [← hlfe] at g5 hlf2 ⊢
          obtain ⟨v1, hv1⟩ : ∃ v1, v1 = x.v := ⟨_, rfl⟩
          rw [← hv1] at g5 hvo
          have HSV : Hid (stepV t row f (CS.take (p + 1)) = stepV t row f (CS.take p) ++ [v1]) := hide (by unfold stepV; rw [unhide HXC, List.map_append, ← hvo]; rfl)
          have hp9 : p + 1 < 1000000000 := by omega
          have hbs8 : w6.heap.size ≤ w7.heap.size := by omega
          clear hvo hv1 hx g0 g1 g2 g3 g4 hlfe hb7 hRd hCc hbkc hoc hBc hsc
          go_wp2_with (at_builtin; refine app_one elem_int (.tmp 74) (.tmp 82) [.int .i64 v1] rfl rfl rfl ho8 rfl rfl rfl (ints_oneCell .i64 [v1]) hp9 hbs8 ?_; intro v' w9 hown9 hb9' hne9 _)
          have hown10 : w9.ownsRow w6.heap.size 3 1 v' (p + 1 + 1) ((stepV t row f (CS.take (p + 1))).map (Value.int .i64)) := by rw [unhide HSV, List.map_append]; exact hown9
          have hB9 := hB8.trans (hb9'.mono (by have := hB8.size; omega))
          have hR9 := hR8.below (hb9'.mono (by omega))
          have hC9 := hC8.below (hb9'.mono (by omega))
          have hk9 := hk8.below hb9' (by omega)
          have hz9 := hb9'.size
          clear hown9 hb9'
          go_wp2_with fail
          go_roundw
          case rel => exact ⟨p + 1, by omega, by go_num, ⟨_, hR9⟩, ⟨_, hk9⟩, hC9, hown10, by omega, hB9⟩
          case measure => simp [intOf]; omega
        · obtain rfl : p = CS.length := by omega
          rw [List.take_length] at hown hr9
          go_wp2_with fail
          go_ret3
          refine ⟨A3, CS.length, c3, A9, CS.length + 1, c9, CS, stepV t row f CS, by rw [unhide HE]; rfl, hCS.more (by omega), hr9, fun _ => ⟨unhide HCS, by rw [unhide HCS, Int.toNat_natCast]⟩, fun h => absurd (unhide HE) h, hbel⟩
end Go.Proofs.YtafaedhjlmkamaaGreatDoor
/- The reference's Value of a row: what the leaf says to which it comes. Conditions: the tree is right, the row has as many cells as it has features. -/
namespace Go.Proofs.YtafaedhjlmkamaaGreatDoor
set_option linter.unusedVariables false
set_option linter.unusedSimpArgs false
open Go.RowKit

set_option maxRecDepth 100000 in
set_option maxHeartbeats 1000000 in
theorem rvalue_any (A C : Option Addr) (m d k q : Nat) (t : List Nd) (row : List Int) (w : World) (ht : NReads w w.heap.size A m t) (hr : IReads w w.heap.size C k row) (hR : Right t k) :
    Calls Tryz.prog 16 #[.slice A m d, .slice C k q] w fun e w' => e = .returned (.int .i64 (valOf t row)) ∧ Below w.heap.size w w' := by
  have hlen := ht.len
  have hm63 : m ≤ 63 := by have := hR.most; omega
  have hm0 : 0 < m := by have := hR.pos; omega
  have hk8 : k ≤ 8 := by have := hR.fe8; omega
  have hlf : leafOf t row < m := by
    have := leafFrom_lt hR.behind (row := row) t.length 0 (by rw [hlen]; exact hm0)
    rw [hlen] at this; unfold leafOf; rw [hlen]; exact this
  have hvo : valOf t row = valAt t (leafOf t row) := rfl
  have HC := hide (rleaf_any A C m d k q t row w ht hr hm0 hm63 hk8 hR.behind hR.asks)
  clear hR hlen
  go_enter Tryz.func16, Tryz.ntmps16
  go_wp2_with fail
  refine (unhide HC).mono ?_
  rintro e w1 ⟨v, rfl, ho, hb1⟩
  obtain ⟨b, o, x, rfl, hbb, hx, g0, g1, g2, g3, g4, g5⟩ := (ht.below hb1).get hlf
  rw [valAt_of hx] at hvo
  obtain ⟨lf, hlfe⟩ : ∃ lf, lf = leafOf t row := ⟨_, rfl⟩
  rw [← hlfe] at g5 hlf ⊢
  have HV := hide hvo
  clear HC hx g0 g1 g2 g3 g4 hlfe ho hvo
  go_wp2_with fail
  go_ret
  exact ⟨by rw [unhide HV]; rfl, hb1⟩
end Go.Proofs.YtafaedhjlmkamaaGreatDoor
