/- Part 17 of what LawWeighNeeds needs: GrowC, Merge, GrowQ. Conditions: as each lemma names. -/
import Derived.Test.YtopncifebldklaaPkWeighNeeds16
import Derived.Test.YtopncifebldklaaPkWeighNeeds02
import Derived.Test.YtopncifebldklaaShelf
import Derived.Test.YtopncifebldklaaPkWeighNeeds03
import Derived.Test.YtopncifebldklaaPkWeighNeeds06
import Derived.Lib.AppendZerosOnto
import Derived.Lib.SliceRun
import Derived.Lib.Walk
import Derived.Lib.RowBridge
import Derived.Shelf.RegionOpenPlain
/- Package grow: Check, Least. Conditions: samples that read as data. -/
namespace Go.Proofs.Ytopncifebldklaa
set_option linter.unusedVariables false
set_option linter.unusedSimpArgs false
open Go.RowKit

theorem containsI_any (A : Option Addr) (n c B : Nat) (l : List Int) (x : Int) (w : World) (h : IReads w B A n l) (hn : n ≤ maxLen) :
    Calls Try.prog 32 #[.slice A n c, .int .i64 x] w fun e w' => e = .returned (.bool (decide (x ∈ l))) ∧ w' = w := by
  have hl := h.len
  unfold maxLen at hn
  rcases Nat.eq_zero_or_pos n with h0 | h0
  · subst h0
    have : l = [] := List.length_eq_zero_iff.1 hl
    subst this
    refine (Try.slices_Contains_int_empty A c x w).mono ?_
    rintro e w' ⟨rfl, rfl⟩
    exact ⟨rfl, rfl⟩
  · obtain ⟨b, off, rfl, hb, hc⟩ := Reads.spot h (by omega) (by omega)
    refine (Try.slices_Contains_int b off n c l x w (by omega) (by omega) (fun j hj => ?_)).mono ?_
    · refine hc j _ ?_
      rw [List.getElem?_map, List.getElem?_eq_getElem hj, List.getD_eq_getElem?_getD, List.getElem?_eq_getElem hj]
      rfl
    · rintro e w' ⟨rfl, rfl⟩
      refine ⟨?_, rfl⟩
      rw [List.take_of_length_le (by omega)]
      congr 2
      rw [Bool.eq_iff_iff]
      simp

theorem least_any (n : Int) (w : World) : Calls Try.prog 29 #[.int .i64 n] w fun e w' => e = .returned (.bool (decide (1 ≤ n) && decide (n ≤ 60))) ∧ w = w' := by
  by_cases h1 : 1 ≤ n
  · by_cases h2 : n ≤ 60
    · go_enter Try.func29, Try.ntmps29
      go_wp2
      go_ret
      exact ⟨by simp [h1, h2], rfl⟩
    · go_enter Try.func29, Try.ntmps29
      go_wp2
      go_ret
      exact ⟨by simp [h1, h2], rfl⟩
  · go_enter Try.func29, Try.ntmps29
    go_wp2
    go_ret
    exact ⟨by simp [h1]; omega, rfl⟩

def MCheckPost (ss : List Sm) (fe : Int) (w : World) (e : Ending) (w' : World) : Prop := e = .returned (.tuple #[.int .i64 ((sampC ss fe).1 : Nat), errV (sampE ss fe)]) ∧ Below w.heap.size w w'
theorem mcheckPost_at {ss : List Sm} {fe : Int} {w : World} {k : Nat} {x : Int} (h : sampC ss fe = (k, x)) : MCheckPost ss fe w = fun e w' => e = .returned (.tuple #[.int .i64 (k : Nat), errV x]) ∧ Below w.heap.size w w' := by
  funext e w'
  unfold MCheckPost sampE
  rw [h]

set_option maxRecDepth 100000 in
set_option maxHeartbeats 4000000 in
theorem gCheck_any (A : Option Addr) (n c : Nat) (fe : Int) (ss : List Sm) (w : World) (h : MReads w w.heap.size A n ss) (hn : n ≤ maxLen) :
    Calls Try.prog 12 #[.slice A n c, .int .i64 fe] w (MCheckPost ss fe w) := by
  have hlen := h.len
  unfold maxLen at hn
  by_cases h1 : 60 < n
  · rw [mcheckPost_at (k := 0) (x := 4) (by unfold sampC; rw [if_pos (by omega)])]
    have d1 : decide (60 < n) = true := decide_eq_true h1
    have d1' : decide ((60 : Int) < (n : Int)) = true := decide_eq_true (by omega)
    clear hlen h1
    go_enter Try.func12, Try.ntmps12
    go_wp2_with fail
    go_ret2
    exact ⟨rfl, Below.refl _ _⟩
  have d1 : decide (60 < n) = false := decide_eq_false h1
  have d1' : decide ((60 : Int) < (n : Int)) = false := decide_eq_false (by omega)
  by_cases h2 : n = 0
  · rw [mcheckPost_at (k := 0) (x := 5) (by unfold sampC; rw [if_neg (by omega), if_pos (by omega)])]
    have d2 : ((n : Int) == 0) = true := by simp [h2]
    clear hlen h1 h2
    go_enter Try.func12, Try.ntmps12
    go_wp2_with fail
    go_ret2
    exact ⟨rfl, Below.refl _ _⟩
  have d2 : ((n : Int) == 0) = false := by simp; omega
  by_cases h3 : fe < 0
  · rw [mcheckPost_at (k := 0) (x := 1) (by unfold sampC; rw [if_neg (by omega), if_neg (by omega), if_pos h3])]
    have d3 : decide (fe < 0) = true := decide_eq_true h3
    clear hlen h1 h2
    go_enter Try.func12, Try.ntmps12
    go_wp2_with fail
    go_ret2
    exact ⟨rfl, Below.refl _ _⟩
  have d3 : decide (fe < 0) = false := decide_eq_false h3
  by_cases h4 : 8 < fe
  · rw [mcheckPost_at (k := 0) (x := 1) (by unfold sampC; rw [if_neg (by omega), if_neg (by omega), if_neg h3, if_pos h4])]
    have d4 : decide (8 < fe) = true := decide_eq_true h4
    clear hlen h1 h2
    go_enter Try.func12, Try.ntmps12
    go_wp2_with fail
    go_ret2
    exact ⟨rfl, Below.refl _ _⟩
  have d4 : decide (8 < fe) = false := decide_eq_false h4
  have HE : Hid (sampC ss fe = badS fe 0 (ss.drop 0)) := hide (by unfold sampC; rw [if_neg (by omega), if_neg (by omega), if_neg h3, if_neg h4, List.drop_zero])
  have HL := hide hlen
  have hn60 : n ≤ 60 := by omega
  clear hlen h1 h2 h3 h4
  go_enter Try.func12, Try.ntmps12
  go_wp2_with fail
  clear d1 d1' d2 d3 d4
  go_loopw [29] (fun i wr => ∃ k : Nat, k ≤ n ∧ i = .int .i64 k ∧ Hid (sampC ss fe = badS fe k (ss.drop k)) ∧ Below w.heap.size w wr) (fun i _ => n - (intOf i).toNat)
  case atStart => exact ⟨0, Nat.zero_le _, rfl, HE, Below.refl _ _⟩
  case round =>
    clear HE
    obtain ⟨k, hk, rfl, HE, hbel⟩ := hrel
    have hsz := hbel.size
    by_cases hlt : k < n
    · obtain ⟨b, o, s, rfl, _, hx, c0, c1, hok⟩ := (h.below hbel).get hlt
      have HD := hide (badS_drop (fe := fe) hx)
      obtain ⟨sA, sn, sc, sr, st⟩ := s
      have hrd := hok.reads
      have hsn := hok.len
      dsimp only at c0 c1 HD hrd hsn
      have hsl := hrd.len
      have hbA := hbel.alloc hsz (.cells #[.slice sA sn sc, .int .i64 st] 46)
      have HRA : Hid (∀ q, IReads ((wr.alloc (.cells #[.slice sA sn sc, .int .i64 st] 46)).drewN q) w.heap.size sA sn sr) := hide (fun q => (Reads.alloc hrd hsz _).drewN q)
      have hRC := hide (rowCheck_any sA sn sc sr (wr.alloc (.cells #[.slice sA sn sc, .int .i64 st] 46)) _ (unhide HRA 0) hsn)
      have hCO := hide (containsI_any sA sn sc w.heap.size sr (-1125899906842624) (wr.alloc (.cells #[.slice sA sn sc, .int .i64 st] 46)) (unhide HRA 0) hsn)
      unfold maxLen at hsn
      by_cases e0 : rowE sr = 0
      case neg =>
        have HZ : Hid (sampC ss fe = (k, rowE sr)) := hide (by
          have : oneE fe ⟨sA, sn, sc, sr, st⟩ = rowE sr := by unfold oneE; rw [if_neg e0]
          rw [unhide HE, unhide HD, this, if_neg e0])
        have hv := errV_1 e0
        have HV := hide hv
        clear hx hok HE HD e0 HRA hCO
        go_wp2_with fail
        refine (unhide hRC).mono ?_
        rintro e w2 ⟨rfl, rfl⟩
        rw [hv]
        clear hv hRC
        go_wp2_with fail
        go_ret2
        rw [mcheckPost_at (unhide HZ), unhide HV]
        exact ⟨rfl, hbA⟩
      have hv := errV_0 e0
      by_cases e1 : st < -1000
      · have HZ : Hid (sampC ss fe = (k, 1)) := hide (by
          have : oneE fe ⟨sA, sn, sc, sr, st⟩ = 1 := by unfold oneE; rw [if_pos e0, if_pos e1]
          rw [unhide HE, unhide HD, this, if_neg (by decide)])
        have q1 : decide (st < -1000) = true := decide_eq_true e1
        clear hx hok HE HD e0 HRA hCO e1
        go_wp2_with fail
        refine (unhide hRC).mono ?_
        rintro e w2 ⟨rfl, rfl⟩
        rw [hv]
        clear hv hRC
        go_wp2_with fail
        go_ret2
        rw [mcheckPost_at (unhide HZ)]
        exact ⟨rfl, hbA⟩
      have q1 : decide (st < -1000) = false := decide_eq_false e1
      by_cases e2 : 1000 < st
      · have HZ : Hid (sampC ss fe = (k, 1)) := hide (by
          have : oneE fe ⟨sA, sn, sc, sr, st⟩ = 1 := by unfold oneE; rw [if_pos e0, if_neg e1, if_pos e2]
          rw [unhide HE, unhide HD, this, if_neg (by decide)])
        have q2 : decide (1000 < st) = true := decide_eq_true e2
        clear hx hok HE HD e0 HRA hCO e1 e2
        go_wp2_with fail
        refine (unhide hRC).mono ?_
        rintro e w2 ⟨rfl, rfl⟩
        rw [hv]
        clear hv hRC
        go_wp2_with fail
        go_ret2
        rw [mcheckPost_at (unhide HZ)]
        exact ⟨rfl, hbA⟩
      have q2 : decide (1000 < st) = false := decide_eq_false e2
      by_cases e3 : (sn : Int) = fe
      case neg =>
        have HZ : Hid (sampC ss fe = (k, 3)) := hide (by
          have : oneE fe ⟨sA, sn, sc, sr, st⟩ = 3 := by unfold oneE; rw [if_pos e0, if_neg e1, if_neg e2, if_neg (by dsimp only; rw [hsl]; exact e3)]
          rw [unhide HE, unhide HD, this, if_neg (by decide)])
        have q3 : ((sn : Int) != fe) = true := by simpa using e3
        clear hx hok HE HD e0 HRA hCO e1 e2 e3 hsl
        go_wp2_with fail
        refine (unhide hRC).mono ?_
        rintro e w2 ⟨rfl, rfl⟩
        rw [hv]
        clear hv hRC
        go_wp2_with fail
        go_ret2
        rw [mcheckPost_at (unhide HZ)]
        exact ⟨rfl, hbA⟩
      have q3 : ((sn : Int) != fe) = false := by simpa using e3
      by_cases e4 : nilC ∈ sr
      · have HZ : Hid (sampC ss fe = (k, 5)) := hide (by
          have : oneE fe ⟨sA, sn, sc, sr, st⟩ = 5 := by unfold oneE; rw [if_pos e0, if_neg e1, if_neg e2, if_pos (by dsimp only; rw [hsl]; exact e3), if_pos e4]
          rw [unhide HE, unhide HD, this, if_neg (by decide)])
        have q4 : decide ((-1125899906842624 : Int) ∈ sr) = true := decide_eq_true e4
        clear hx hok HE HD e0 HRA e1 e2 e3 e4 hsl
        go_wp2_with fail
        refine (unhide hRC).mono ?_
        rintro e w2 ⟨rfl, rfl⟩
        rw [hv]
        clear hv hRC
        go_wp2_with fail
        refine (unhide hCO).mono ?_
        rintro e w2 ⟨rfl, rfl⟩
        rw [q4]
        clear hCO q4
        go_wp2_with fail
        go_ret2
        rw [mcheckPost_at (unhide HZ)]
        exact ⟨rfl, hbA⟩
      · have HZ : Hid (sampC ss fe = badS fe (k + 1) (ss.drop (k + 1))) := hide (by
          have : oneE fe ⟨sA, sn, sc, sr, st⟩ = 0 := by unfold oneE; rw [if_pos e0, if_neg e1, if_neg e2, if_pos (by dsimp only; rw [hsl]; exact e3), if_neg e4]
          rw [unhide HE, unhide HD, this, if_pos rfl])
        have q4 : decide ((-1125899906842624 : Int) ∈ sr) = false := decide_eq_false e4
        clear hx hok HE HD e0 HRA e1 e2 e3 e4 hsl
        go_wp2_with fail
        refine (unhide hRC).mono ?_
        rintro e w2 ⟨rfl, rfl⟩
        rw [hv]
        clear hv hRC
        go_wp2_with fail
        refine (unhide hCO).mono ?_
        rintro e w2 ⟨rfl, rfl⟩
        rw [q4]
        clear hCO q4
        go_wp2_with fail
        go_roundw
        case rel => exact ⟨k + 1, by omega, by go_num, HZ, hbA⟩
        case measure => simp [intOf]; omega
    · have HZ : Hid (sampC ss fe = (0, 0)) := hide (by rw [unhide HE, List.drop_eq_nil_of_le (by rw [unhide HL]; omega)]; rfl)
      go_wp2_with fail
      go_ret2
      rw [mcheckPost_at (unhide HZ)]
      exact ⟨rfl, hbel⟩
end Go.Proofs.Ytopncifebldklaa
/- cut.Merge and cut.Bin, with slices.Grow, Concat and Compact at ints. Conditions: as each lemma names. -/
namespace Go.Proofs.Ytopncifebldklaa
set_option linter.unusedVariables false
set_option linter.unusedSimpArgs false
open Go.RowKit

/-- append of a list of ints onto a row of the call's own -/
theorem IOwn.app {w w' : World} {base : Nat} {v' : Value} {l m : List Int} (h : w'.ownsRow base 3 1 v' (l.length + m.length) (l.map (Value.int .i64) ++ m.map (Value.int .i64))) : IOwn w' base v' (l ++ m) := by
  unfold IOwn; rw [List.length_append, List.map_append]; exact h

theorem compactL_len (l : List Int) : (compactL l).length ≤ l.length := Lib.compact_length_le l
set_option maxRecDepth 100000 in
theorem compact_any (v : Value) (l : List Int) (base : Nat) (w : World) (h : IOwn w base v l) (hB : base ≤ w.heap.size) (hn : l.length ≤ 100000000) :
    Calls Try.prog 66 #[v] w fun e w' => ∃ v', e = .returned v' ∧ IOwn w' base v' (compactL l) ∧ Below base w w' := by
  rcases h.2 with ⟨rfl, h0⟩ | ⟨g, cap, cur, rfl, hg, hh, h1, h2, h3, h4⟩
  · have : l = [] := List.length_eq_zero_iff.1 h0
    subst this
    refine (Try.slices_Compact_int_empty none 0 w).mono ?_
    rintro e w' ⟨rfl, rfl⟩
    exact ⟨_, rfl, by rw [show compactL [] = [] from rfl]; exact IOwn.nil_ _ _, Below.refl _ _⟩
  · have hlt : g < w.heap.size := (Array.getElem?_eq_some_iff.1 hh).1
    refine (Try.slices_Compact_int g 0 cap l w (holds_of_blockI hh (by simpa using h4)) (by omega) h1).mono ?_
    rintro e w' ⟨rfl, q, rfl⟩
    have hcl := compactL_len l
    have hgr : w.grownBy _ (some g) := grownBy_sortedI (w := w) (n := q) (os := #[]) (Lib.compact l ++ List.replicate (l.length - (Lib.compact l).length) 0).toArray
    have ho := ownsRow_sortedI (w := w) (n := q) (os := #[]) (ss := l) (ts := Lib.compact l ++ List.replicate (l.length - (Lib.compact l).length) 0) (by unfold compactL at hcl; simp; omega) hg hh h1 h2 (by simpa using h3)
    rw [Go.Sort.grow_empty] at hgr ho
    refine ⟨_, rfl, ?_, (Below.refl base w).grown hgr hB (fun k e => by cases e; exact hg)⟩
    rcases ho.2 with ⟨e, _⟩ | ⟨g', cap', cur', e, hg', hh', h1', h2', h3', h4'⟩
    · cases e
    · injection e with e1 e2 e3
      injection e1 with e1
      injection e1 with e1
      subst e1
      subst e3
      refine ⟨by simp [compactL], .inr ⟨g, cap, cur', rfl, hg', hh', by unfold compactL at hcl; unfold compactL; omega, h2', h3', ?_⟩⟩
      have := congrArg (List.take (compactL l).length) h4'
      rw [List.take_take, List.map_append] at this
      rw [show min (compactL l).length (l.length * 1) = (compactL l).length * 1 by omega] at this
      rw [this, List.take_append_of_le_length (by simp [compactL])]
      exact List.take_of_length_le (by simp [compactL])
end Go.Proofs.Ytopncifebldklaa
/- Package grow in plain words: all targets a little more; what a small list grows. Conditions: none. -/
namespace Go.Proofs.Ytopncifebldklaa
set_option linter.unusedVariables false
set_option linter.unusedSimpArgs false
open Go.RowKit

def shS (by_ : Int) (s : Sm) : Sm := ⟨s.A, s.n, s.c, s.r, s.t + by_⟩
def shN (by_ : Int) (x : Nd) : Nd := if x.f = -1 then ⟨x.f, x.c, x.l, x.r, x.less, x.v + by_⟩ else x
def shK (by_ : Int) : Kt → Kt
  | .leaf x => .leaf ⟨x.f, x.c, x.l, x.r, x.less, x.v + by_⟩
  | .node x l r => .node x (shK by_ l) (shK by_ r)
theorem sumM_sh (b : Int) (ss : List Sm) : sumM (ss.map (shS b)) = sumM ss + b * (ss.length : Int) := by
  induction ss with
  | nil => simp [sumM]
  | cons s r ih =>
    simp only [List.map_cons, sumM, ih, List.length_cons, shS]
    rw [show ((r.length + 1 : Nat) : Int) = (r.length : Int) + 1 by omega, Int.mul_add]
    omega
theorem lowB_sh (b : Int) (f : Nat) (c : Int) (s : Sm) : lowB f c (shS b s) = lowB f c s := rfl
theorem lowS_sh (b : Int) (f : Nat) (c : Int) (ss : List Sm) : lowS f c (ss.map (shS b)) = (lowS f c ss).map (shS b) := by
  unfold lowS
  rw [List.filter_map]
  rfl
theorem highS_sh (b : Int) (f : Nat) (c : Int) (ss : List Sm) : highS f c (ss.map (shS b)) = (highS f c ss).map (shS b) := by
  unfold highS
  rw [List.filter_map]
  rfl
theorem cutsF_sh (b : Int) (f : Nat) (ss : List Sm) : cutsF (ss.map (shS b)) f = cutsF ss f := by
  unfold cutsF
  rw [List.map_map]
  rfl
/-- how much more each fraction is -/
def moreK (b : Int) (ss : List Sm) : Int := 2 * b * sumM ss + b * b * (ss.length : Int)
def shB (b : Int) (ss : List Sm) (st : Bs) : Bs := ⟨st.f, st.c, st.up + moreK b ss * st.dn, st.dn⟩
theorem upOf_sh (b : Int) (f : Nat) (c : Int) (ss : List Sm) : upOf ((lowS f c ss).map (shS b)) ((highS f c ss).map (shS b)) = upOf (lowS f c ss) (highS f c ss) + moreK b ss * dnOf (lowS f c ss) (highS f c ss) := by
  unfold upOf dnOf moreK
  rw [sumM_sh, sumM_sh, List.length_map, List.length_map, ← parts_sum f c ss, ← parts_len f c ss]
  generalize sumM (lowS f c ss) = x
  generalize sumM (highS f c ss) = y
  rw [Int.natCast_add]
  generalize ((lowS f c ss).length : Int) = n
  generalize ((highS f c ss).length : Int) = m
  grind
theorem dnOf_sh (b : Int) (x y : List Sm) : dnOf (x.map (shS b)) (y.map (shS b)) = dnOf x y := by unfold dnOf; rw [List.length_map, List.length_map]
theorem stepB_sh (b : Int) (ss : List Sm) (least f : Nat) (st : Bs) (c : Int) : stepB (ss.map (shS b)) least f (shB b ss st) c = shB b ss (stepB ss least f st c) := by
  unfold stepB tryB
  rw [lowS_sh, highS_sh, upOf_sh, dnOf_sh, List.length_map, List.length_map]
  split
  · rfl
  split
  · rfl
  have key : (shB b ss st).up * dnOf (lowS f c ss) (highS f c ss) < (upOf (lowS f c ss) (highS f c ss) + moreK b ss * dnOf (lowS f c ss) (highS f c ss)) * (shB b ss st).dn ↔ st.up * dnOf (lowS f c ss) (highS f c ss) < upOf (lowS f c ss) (highS f c ss) * st.dn := by
    unfold shB
    dsimp only
    generalize dnOf (lowS f c ss) (highS f c ss) = y
    generalize upOf (lowS f c ss) (highS f c ss) = x
    generalize moreK b ss = K
    have e : (x + K * y) * st.dn - (st.up + K * st.dn) * y = x * st.dn - st.up * y := by grind
    omega
  by_cases h : st.up * dnOf (lowS f c ss) (highS f c ss) < upOf (lowS f c ss) (highS f c ss) * st.dn
  · rw [if_pos h, if_pos (key.2 h)]
    rfl
  · rw [if_neg h, if_neg (fun e => h (key.1 e))]
theorem fold_sh (b : Int) (ss : List Sm) (least f : Nat) : ∀ (cs : List Int) (st : Bs), cs.foldl (stepB (ss.map (shS b)) least f) (shB b ss st) = shB b ss (cs.foldl (stepB ss least f) st) := by
  intro cs
  induction cs with
  | nil => intro st; rfl
  | cons c r ih => intro st; rw [List.foldl_cons, List.foldl_cons, stepB_sh, ih]
theorem startB_sh (b : Int) (ss : List Sm) : startB (ss.map (shS b)) = shB b ss (startB ss) := by
  unfold startB shB moreK
  rw [sumM_sh, List.length_map]
  dsimp only
  congr 1
  generalize sumM ss = x
  generalize (ss.length : Int) = n
  grind
theorem bestB_sh (b : Int) (ss : List Sm) (n least : Nat) : bestB (ss.map (shS b)) n least = shB b ss (bestB ss n least) := by
  unfold bestB
  rw [startB_sh]
  generalize startB ss = st
  generalize List.range n = fs
  induction fs generalizing st with
  | nil => rfl
  | cons f r ih =>
    rw [List.foldl_cons, List.foldl_cons]
    unfold bestF
    rw [cutsF_sh, fold_sh]
    exact ih _
theorem leafG_sh {b : Int} {ss : List Sm} (h : 0 < ss.length) : leafG (ss.map (shS b)) = ⟨(leafG ss).f, (leafG ss).c, (leafG ss).l, (leafG ss).r, (leafG ss).less, (leafG ss).v + b⟩ := by
  unfold leafG
  rw [sumM_sh, List.length_map, Int.add_mul_ediv_right _ _ (by omega)]
theorem growK_sh {b : Int} {n least : Nat} (hl : 1 ≤ least) : ∀ (d : Nat) (ss : List Sm), SRight ss n → growK n least d (ss.map (shS b)) = shK b (growK n least d ss) := by
  intro d
  induction d with
  | zero => intro ss hs; simp only [growK, shK]; rw [leafG_sh hs.pos]
  | succ d ih =>
    intro ss hs
    have hB := bestB_ok hs hl
    have e1 : (shB b ss (bestB ss n least)).f = (bestB ss n least).f := rfl
    have e2 : (shB b ss (bestB ss n least)).c = (bestB ss n least).c := rfl
    simp only [growK, bestB_sh, e1, e2, lowS_sh, highS_sh, List.length_map]
    by_cases h : (bestB ss n least).f < 0
    · rw [if_pos h, if_pos h, leafG_sh hs.pos]
      rfl
    · rw [if_neg h, if_neg h]
      obtain ⟨_, _, _, _, _, _, _, _, hz⟩ := hB
      rcases hz with hz | ⟨h1, h2⟩
      · exact absurd hz h
      simp only [shK]
      rw [ih _ (hs.low (by omega)), ih _ (hs.high (by omega))]
theorem shK_size (b : Int) (k : Kt) : (shK b k).size = k.size := by
  induction k with
  | leaf x => rfl
  | node x l r il ir => simp only [shK, Kt.size, il, ir]
theorem layK_sh (b : Int) : ∀ (k : Kt) (n : Nat), k.Ok → layK n (shK b k) = (layK n k).map (shN b) := by
  intro k
  induction k with
  | leaf x =>
    intro n hk
    have := hk.2 x (by simp [Kt.leaves])
    simp only [shK, layK, List.map_cons, List.map_nil, shN, if_pos this]
  | node x l r il ir =>
    intro n hk
    have := hk.1 x (by simp [Kt.asks])
    simp only [shK, layK, List.map_cons, List.map_append, shK_size, il _ hk.left, ir _ hk.right]
    rw [show shN b ⟨x.f, x.c, ((n + 1 : Nat) : Int), ((n + 1 + l.size : Nat) : Int), x.less, x.v⟩ = ⟨x.f, x.c, ((n + 1 : Nat) : Int), ((n + 1 + l.size : Nat) : Int), x.less, x.v⟩ by unfold shN; rw [if_neg this]]
theorem growK_ok (n least : Nat) : ∀ (d : Nat) (ss : List Sm), (growK n least d ss).Ok := by
  intro d
  induction d with
  | zero => intro ss; exact ⟨fun y hy => by simp [growK, Kt.asks] at hy, fun y hy => by simp [growK, Kt.leaves] at hy; subst hy; rfl⟩
  | succ d ih =>
    intro ss
    simp only [growK]
    split
    · exact ⟨fun y hy => by simp [Kt.asks] at hy, fun y hy => by simp [Kt.leaves] at hy; subst hy; rfl⟩
    · refine ⟨fun y hy => ?_, fun y hy => ?_⟩
      · simp only [Kt.asks, List.mem_cons, List.mem_append] at hy
        rcases hy with rfl | hy | hy
        · dsimp only; omega
        · exact (ih _).1 y hy
        · exact (ih _).1 y hy
      · simp only [Kt.leaves, List.mem_append] at hy
        rcases hy with hy | hy
        · exact (ih _).2 y hy
        · exact (ih _).2 y hy
theorem growK_size (n least : Nat) : ∀ (d : Nat) (ss : List Sm), (growK n least d ss).size < 2 ^ (d + 1) := by
  intro d
  induction d with
  | zero => intro ss; simp [growK, Kt.size]
  | succ d ih =>
    intro ss
    have hp : (2 : Nat) ^ (d + 1 + 1) = 2 ^ (d + 1) + 2 ^ (d + 1) := by rw [Nat.pow_succ]; omega
    simp only [growK]
    split
    · have := Nat.one_le_two_pow (n := d + 1)
      simp only [Kt.size]; omega
    · have h1 := ih (lowS (bestB ss n least).f.toNat (bestB ss n least).c ss)
      have h2 := ih (highS (bestB ss n least).f.toNat (bestB ss n least).c ss)
      simp only [Kt.size]
      omega
end Go.Proofs.Ytopncifebldklaa
