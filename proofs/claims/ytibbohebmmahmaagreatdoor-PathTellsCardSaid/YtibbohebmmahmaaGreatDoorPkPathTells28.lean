/- Part 28 of what LawPathTells needs: PathTells. Conditions: as each lemma names. -/
import Derived.Test.YtibbohebmmahmaaGreatDoorPkPathTells08
import Derived.Test.YtibbohebmmahmaaGreatDoorPkPathTells10
import Derived.Test.YtibbohebmmahmaaGreatDoorPkPathTells24
import Derived.Test.YtibbohebmmahmaaGreatDoorPkPathTells19
import Derived.Test.YtibbohebmmahmaaGreatDoorPkPathTells25
import Derived.Test.YtibbohebmmahmaaGreatDoorPkPathTells26
import Derived.Test.YtibbohebmmahmaaGreatDoorPkPathTells27
import Derived.Deep.CutRange
/- PathTells: the walk. Conditions: arguments read as data, the handle that errors need, the table of powers of ten. -/
namespace Go.Proofs.YtibbohebmmahmaaGreatDoor
set_option linter.unusedVariables false
set_option linter.unusedSimpArgs false
open Go.RowKit

/-- a slice that reads as a list of numbers, of spans -/
def RowOf (w : World) (v : Value) (l : List Int) : Prop := ∃ A n c, v = .slice A n c ∧ IReads w w.heap.size A n l ∧ n ≤ maxLen
def SpsOf (w : World) (v : Value) (l : List Sp) : Prop := ∃ A n c, v = .slice A n c ∧ SReads w w.heap.size A n l ∧ n ≤ maxLen
theorem RowOf.below {w w' : World} {v : Value} {l : List Int} (h : RowOf w v l) (hb : Below w.heap.size w w') : RowOf w' v l := by
  obtain ⟨A, n, c, rfl, hr, hn⟩ := h
  exact ⟨A, n, c, rfl, (hr.below hb).more hb.size, hn⟩
theorem SpsOf.below {w w' : World} {v : Value} {l : List Sp} (h : SpsOf w v l) (hb : Below w.heap.size w w') : SpsOf w' v l := by
  obtain ⟨A, n, c, rfl, hr, hn⟩ := h
  exact ⟨A, n, c, rfl, (hr.below hb).more hb.size, hn⟩
theorem RowOf.nil_ (w : World) : RowOf w (.slice none 0 0) [] := ⟨none, 0, 0, rfl, IReads.nil_, Nat.zero_le _⟩
theorem SpsOf.nil_ (w : World) : SpsOf w (.slice none 0 0) [] := ⟨none, 0, 0, rfl, ⟨rfl, fun h => absurd h (by omega)⟩, Nat.zero_le _⟩
theorem RowOf.own {w : World} {base n : Nat} {v : Value} {l : List Int} (h : w.ownsRow base 3 1 v n (l.map (Value.int .i64))) : RowOf w v l := by
  obtain ⟨A, c, rfl, hr, hn, _⟩ := own_slice h
  exact ⟨A, n, c, rfl, hr, hn⟩
theorem sameInts (w : World) (u v : Value) (l : List Int) (hu : RowOf w u l) (hv : RowOf w v l) :
    Calls Tryz.prog 10 #[u, v] w fun e w' => e = .returned (.bool true) ∧ Below w.heap.size w w' := by
  obtain ⟨A, n, c, rfl, hr, hn⟩ := hu
  obtain ⟨C, k, q, rfl, hs, hk⟩ := hv
  refine (ints_any A C n k c q l l w _ _ hr hs hn hk).mono fun e w' ⟨h1, j, h2⟩ => ⟨by rw [h1, beq_self_eq_true], ?_⟩
  rw [h2]; exact below_drewN (Below.refl _ _) _
theorem sameSps (w : World) (u v : Value) (l : List Sp) (hu : SpsOf w u l) (hv : SpsOf w v l) :
    Calls Tryz.prog 15 #[u, v] w fun e w' => e = .returned (.bool true) ∧ Below w.heap.size w w' := by
  obtain ⟨A, n, c, rfl, hr, hn⟩ := hu
  obtain ⟨C, k, q, rfl, hs, hk⟩ := hv
  obtain rfl : n = k := by rw [← hr.len, ← hs.len]
  refine (sameSpans_any A C n c q l w _ _ hr hs hn).mono fun e w' ⟨h1, j, h2⟩ => ⟨h1, ?_⟩
  rw [h2]; exact below_drewN (Below.refl _ _) _
def whyS (t : List Nd) (row : List Int) : List UInt8 := if readyE t row = 0 then whyV t row else []
def regV (t : List Nd) (fe at_ : Int) : List Sp := if regE t fe at_ = 0 then (regL t fe.toNat at_.toNat).map fixS else []
def regB (t : List Nd) (fe at_ : Int) : Bool := regE t fe at_ == 0 && anyB (regV t fe at_)
def reachK (t : List Nd) (fe : Int) (k : Nat) : List Int := if treeE t fe = 0 then reachTo t fe.toNat k else []
theorem reachK_all (t : List Nd) (fe : Int) (m : Nat) (hm : t.length = m) : reachK t fe m = reachV t fe := by
  unfold reachK
  by_cases h : treeE t fe = 0
  · rw [if_pos h]
    have hR := right_of h
    obtain ⟨n, rfl⟩ : ∃ n : Nat, fe = n := ⟨fe.toNat, by have := hR.fe0; omega⟩
    rw [reach_range hR h, Int.toNat_natCast, hm]
  · rw [if_neg h]; unfold reachV; rw [if_neg h]
theorem regE_leaf {t : List Nd} {fe at_ : Int} (h : regE t fe at_ = 0) : treeE t fe = 0 ∧ ∃ (n j : Nat) (x : Nd), fe = n ∧ at_ = j ∧ t[j]? = some x ∧ x.f = -1 := by
  unfold regE at h
  by_cases h0 : treeE t fe = 0
  · rw [if_pos h0] at h
    have hR := right_of h0
    obtain ⟨n, rfl⟩ : ∃ n : Nat, fe = n := ⟨fe.toNat, by have := hR.fe0; omega⟩
    cases hx : t[at_.toNat]? with
    | none => rw [hx] at h; cases h
    | some x =>
      rw [hx] at h
      dsimp only at h
      by_cases h1 : at_ < 0
      · rw [if_pos h1] at h; cases h
      · rw [if_neg h1] at h
        by_cases h2 : x.f = -1
        · exact ⟨h0, n, at_.toNat, x, rfl, by omega, hx, h2⟩
        · rw [if_neg h2] at h; cases h
  · rw [if_neg h0] at h; exact absurd h h0

theorem set_same {α : Type} {l : List α} {i : Nat} {x : α} (h : l[i]? = some x) : l.set i x = l := by
  apply List.ext_getElem?
  intro j
  rw [List.getElem?_set]
  split
  · rename_i e
    subst e
    split
    · exact h.symm
    · rename_i h2; rw [List.getElem?_eq_none (by omega)]
  · rfl
theorem span_set2 {l : List Sp} {f : Nat} {s : Sp} (a b : Int) (h : l[f]? = some s) : ((l.flatMap Sp.cells).set (f * 3) (.int .i64 a)).set (f * 3 + 1) (.int .i64 b) = (l.set f ⟨a, b, s.ab⟩).flatMap Sp.cells := by
  have hf : f < l.length := (List.getElem?_eq_some_iff.1 h).1
  have h2 := span_set l f ⟨a, b, s.ab⟩ hf
  rw [← h2]
  symm
  refine set_same ?_
  rw [List.getElem?_set_ne (by omega), List.getElem?_set_ne (by omega), flatMap_at Sp.cells 3 (fun _ => rfl) l f 2 s h (by omega)]
  rfl

set_option maxRecDepth 100000 in
set_option maxHeartbeats 16000000 in
theorem pathTells_walk (A C D : Option Addr) (m d k q p pc : Nat) (t : List Nd) (row : List Int) (fe at_ : Int) (l : List Sp) (w : World) (he : ErrT w) (hten : TenT w)
    (ht : NReads w w.heap.size A m t) (hr : IReads w w.heap.size C k row) (hl : SReads w w.heap.size D p l) (hm : m ≤ maxLen) (hk : k ≤ maxLen) (hp : p ≤ maxLen) :
    Calls Tryz.prog 3 #[.slice A m d, .slice C k q, .int .i64 fe, .int .i64 at_, .slice D p pc] w fun e w' => e = .returned (.bool true) ∧ Below w.heap.size w w' := by
  have h00 := he.lt
  have cRd : Hid (∀ W, Below w.heap.size w W → Calls Tryz.prog 4 #[.slice A m d, .slice C k q] W fun e w' => e = .returned (.int .i64 (readyE t row)) ∧ Below W.heap.size W w') := hide (fun W hB => rready_any A C m d k q t row W ((ht.below hB).more hB.size) ((hr.below hB).more hB.size) hm hk)
  have cLf : Hid (∀ W, readyE t row = 0 → Below w.heap.size w W → Calls Tryz.prog 5 #[.slice A m d, .slice C k q] W fun e w' => ∃ (i : Nat) (v : Value), e = .returned (.tuple #[.int .i64 (i : Int), v]) ∧ RowOf w' v (pathV t row) ∧ Below W.heap.size W w') := hide (fun W h0 hB => by
    obtain ⟨hrow, hR, h8⟩ := readyE_right h0
    have hlen := ht.len
    have hkl := hr.len
    have h63 := hR.most
    have hpos := hR.pos
    refine (rleaf_any A C m d k q t row W ((ht.below hB).more hB.size) ((hr.below hB).more hB.size) (by omega) (by omega) (by omega) hR.behind (fun i n hn hf => by
      rcases node_of (hR.node i n hn) with h | h
      · exact absurd h.1 hf
      · exact ⟨h.1, by have := h.2.1; omega⟩)).mono ?_
    rintro e w' ⟨v, rfl, hown, hb⟩
    exact ⟨_, v, rfl, by unfold pathV; rw [if_pos h0]; exact RowOf.own hown, hb⟩)
  have cWy : Hid (∀ W, readyE t row = 0 → Below w.heap.size w W → Calls Tryz.prog 6 #[.slice A m d, .slice C k q] W fun e w' => e = .returned (.string (bt (whyV t row))) ∧ Below W.heap.size W w') := hide (fun W h0 hB => rwhy_any A C m d k q t row W ((ht.below hB).more hB.size) ((hr.below hB).more hB.size) h0)
  have cPa : Hid (∀ W, Below w.heap.size w W → Calls Tryz.prog 7 #[.slice A m d, .slice C k q] W fun e w' => ∃ v, e = .returned (.tuple #[v, errV (readyE t row)]) ∧ RowOf w' v (pathV t row) ∧ Below W.heap.size W w') := hide (fun W hB => (path_any A C m d k q t row W ((ht.below hB).more hB.size) ((hr.below hB).more hB.size) hm hk).mono fun e w' ⟨v, h1, h2, h3⟩ => ⟨v, h1, RowOf.own h2, h3⟩)
  have cPw : Hid (∀ W, Below w.heap.size w W → Calls Tryz.prog 9 #[.slice A m d, .slice C k q] W fun e w' => e = .returned (.tuple #[.string (bt (whyS t row)), errV (readyE t row)]) ∧ Below W.heap.size W w') := hide (fun W hB => why_any A C m d k q t row W (hten.below hB) ((ht.below hB).more hB.size) ((hr.below hB).more hB.size) hm hk)
  have cEr : Hid (∀ W x, Below w.heap.size w W → Calls Tryz.prog 8 #[errV x, .int .i64 x] W fun e w' => e = .returned (.bool true) ∧ Below W.heap.size W w') := hide (fun W x hB => (error_any x x W (he.below hB h00)).mono fun e w' ⟨h1, h2⟩ => ⟨by rw [h1, beq_self_eq_true], h2⟩)
  have cTr : Hid (∀ W, Below w.heap.size w W → Calls Tryz.prog 11 #[.slice A m d, .int .i64 fe] W fun e w' => e = .returned (.tuple #[.int .i64 ((treeC t fe).1 : Int), .int .i64 (treeE t fe)]) ∧ Below W.heap.size W w') := hide (fun W hB => rtree_any A m d fe t W ((ht.below hB).more hB.size) hm)
  have cRg : Hid (∀ W (n j : Nat), fe = n → treeE t fe = 0 → j < t.length → Below w.heap.size w W → Calls Tryz.prog 12 #[.slice A m d, .int .i64 fe, .int .i64 (j : Int)] W (RegPost1 t n j W)) := hide (fun W n j hn h0 hj hB => by
    subst hn
    exact rregion_any A m d n j t (right_of h0) hj W ((ht.below hB).more hB.size))
  have cRe : Hid (∀ W, Below w.heap.size w W → Calls Tryz.prog 14 #[.slice A m d, .int .i64 fe, .int .i64 at_] W fun e w' => ∃ v, e = .returned (.tuple #[v, .bool (regB t fe at_), errV (regE t fe at_)]) ∧ SpsOf w' v (regV t fe at_) ∧ Below W.heap.size W w') := hide (fun W hB => by
    refine (Region_any A m d t fe at_ W ((ht.below hB).more hB.size) hm).mono ?_
    rintro e w' ⟨A5, n5, c5, l5, rfl, hr5, hok, hno, hb⟩
    have hl5 : l5 = regV t fe at_ := by
      unfold regV
      by_cases h : regE t fe at_ = 0
      · rw [if_pos h]; exact (hok h).2
      · rw [if_neg h]; have := hno h; have := hr5.len; exact List.length_eq_zero_iff.1 (by omega)
    subst hl5
    have h8 : n5 ≤ maxLen := by
      by_cases h : regE t fe at_ = 0
      · have h1 := (hok h).1
        have h2 := (right_of (regE_leaf h).1).fe8
        unfold maxLen; omega
      · have := hno h; unfold maxLen; omega
    exact ⟨_, rfl, ⟨A5, n5, c5, rfl, hr5, h8⟩, hb⟩)
  have cRc : Hid (∀ W, Below w.heap.size w W → Calls Tryz.prog 16 #[.slice A m d, .int .i64 fe] W fun e w' => ∃ v, e = .returned (.tuple #[v, errV (treeE t fe)]) ∧ RowOf w' v (reachV t fe) ∧ Below W.heap.size W w') := hide (fun W hB => (Reach_any A m d t fe W ((ht.below hB).more hB.size) hm).mono fun e w' ⟨v, h1, h2, h3⟩ => ⟨v, h1, RowOf.own h2, h3⟩)
  have cSp : Hid (∀ W, Below w.heap.size w W → Calls Tryz.prog 17 #[.slice D p pc] W fun e w' => e = .returned (.int .i64 (spansE l)) ∧ Below W.heap.size W w') := hide (fun W hB => (rspans_any D p pc _ l W (hl.below hB) hp).mono fun e w' ⟨h1, j, h2⟩ => ⟨h1, by rw [h2]; exact below_drewN (Below.refl _ _) _⟩)
  have cPk : Hid (∀ W, spansE l = 0 → Below w.heap.size w W → Calls Tryz.prog 18 #[.slice D p pc] W fun e w' => ∃ v, e = .returned v ∧ RowOf w' v (witV l) ∧ Below W.heap.size W w') := hide (fun W h0 hB => by
    have h8 : p ≤ 8 := by
      unfold spansE at h0
      by_cases h : 8 < l.length
      · rw [if_pos h] at h0; cases h0
      · have := hl.len; omega
    refine (rpick_any D p pc _ l W (hl.below hB) hB.size (by omega)).mono fun e w' ⟨v, h1, h2, h3⟩ => ⟨v, h1, ?_, h3⟩
    unfold witV
    rw [if_pos h0]
    exact RowOf.own h2)
  have cWi : Hid (∀ W, Below w.heap.size w W → Calls Tryz.prog 19 #[.slice D p pc] W fun e w' => ∃ v, e = .returned (.tuple #[v, errV (spansE l)]) ∧ RowOf w' v (witV l) ∧ Below W.heap.size W w') := hide (fun W hB => by
    refine (Witness_any D p pc _ l W (hl.below hB) hB.size hp).mono ?_
    rintro e w' ⟨A', c', rfl, h2, h3⟩
    refine ⟨_, rfl, ⟨A', _, c', rfl, h2, ?_⟩, h3⟩
    have := hl.len
    have : (witV l).length ≤ l.length := by unfold witV; split <;> simp [pickL]
    omega)
  have HT := hide ht
  have HM := hide ht.len
  obtain ⟨RD, hRD⟩ : ∃ x, x = readyE t row := ⟨_, rfl⟩
  have HRD : Hid (RD ≠ 0 → pathV t row = [] ∧ whyS t row = []) := hide (fun h => by
    rw [hRD] at h
    exact ⟨by unfold pathV; rw [if_neg h], by unfold whyS; rw [if_neg h]⟩)
  have HRW : Hid (RD = 0 → whyV t row = whyS t row) := hide (fun h => by unfold whyS; rw [if_pos (by rw [← hRD]; exact h)])
  rw [← hRD] at cRd cLf cWy cPa cPw
  obtain ⟨PV, hPV⟩ : ∃ x, x = pathV t row := ⟨_, rfl⟩
  rw [← hPV] at cLf cPa HRD
  obtain ⟨S, hS⟩ : ∃ x, x = bt (whyS t row) := ⟨_, rfl⟩
  rw [← hS] at cPw
  have HS := hide hS
  clear hRD hPV hS
  have B0 : Below w.heap.size w w := Below.refl _ _
  go_enter Tryz.func3, Tryz.ntmps3
  go_wp2_with fail
  refine (unhide cRd w B0).mono ?_
  rintro e w1 ⟨rfl, hb1⟩
  have B1 := B0.trans (hb1.mono B0.size)
  clear hb1
  go_upto_if 42 with (fail)
  go_cut [12, 13] from 40 to 54 (fun s12 s13 wx => s13 = .string S ∧ RowOf wx s12 PV ∧ Below w.heap.size w wx)
  case first =>
    by_cases h0 : RD = 0
    · have hb : (RD == 0) = true := by simpa using h0
      have c1 := hide (unhide cLf _ h0 B1)
      have c2 := hide (fun W hB => unhide cWy W h0 hB)
      have HW2 : Hid (bt (whyV t row) = S) := hide (by rw [unhide HRW h0, unhide HS])
      rw [hb]
      clear h0 hb
      go_wp2_with fail
      refine (unhide c1).mono ?_
      rintro e w2 ⟨i, v, rfl, hR2, hb2⟩
      have B2 := B1.trans (hb2.mono B1.size)
      go_wp2_with fail
      refine (unhide c2 _ B2).mono ?_
      rintro e w3 ⟨rfl, hb3⟩
      have R3 := hR2.below hb3
      have B3 := B2.trans (hb3.mono B2.size)
      go_wp2_with fail
      go_meet
      case rel => exact ⟨by rw [unhide HW2], R3, B3⟩
    · have hb : (RD == 0) = false := by simpa using h0
      obtain ⟨h1, h2⟩ := unhide HRD h0
      have H1 : Hid (PV = []) := hide h1
      have H2 : Hid (S = ⟨#[]⟩) := hide (by rw [unhide HS, h2]; rfl)
      rw [hb]
      clear h0 hb h1 h2
      go_wp2_with fail
      go_meet
      case rel => exact ⟨by rw [unhide H2], by rw [unhide H1]; exact RowOf.nil_ _, B1⟩
  case rest =>
    obtain ⟨rfl, R12, B2⟩ := hcut
    clear B1 cLf cWy HRD HRW cRd
    go_wp2_with fail
    refine (unhide cPa _ B2).mono ?_
    rintro e w3 ⟨v14, rfl, R14, hb3⟩
    have R12 := R12.below hb3
    have B3 := B2.trans (hb3.mono B2.size)
    clear hb3 B2 cPa
    go_wp2_with fail
    refine (unhide cEr _ RD B3).mono ?_
    rintro e w4 ⟨rfl, hb4⟩
    have R12 := R12.below hb4
    have R14 := R14.below hb4
    have B4 := B3.trans (hb4.mono B3.size)
    clear hb4 B3
    go_wp2_with fail
    refine (unhide cPw _ B4).mono ?_
    rintro e w5 ⟨rfl, hb5⟩
    have R12 := R12.below hb5
    have R14 := R14.below hb5
    have B5 := B4.trans (hb5.mono B4.size)
    clear hb5 B4 cPw
    go_wp2_with fail
    refine (unhide cEr _ RD B5).mono ?_
    rintro e w6 ⟨rfl, hb6⟩
    have R12 := R12.below hb6
    have R14 := R14.below hb6
    have B6 := B5.trans (hb6.mono B5.size)
    clear hb6 B5
    go_wp2_with fail
    refine (sameInts _ _ _ _ R14 R12).mono ?_
    rintro e w7 ⟨rfl, hb7⟩
    have B7 := B6.trans (hb7.mono B6.size)
    clear hb7 B6 R12 R14
    go_wp2_with fail
    refine (unhide cTr _ B7).mono ?_
    rintro e w8 ⟨rfl, hb8⟩
    have B8 := B7.trans (hb8.mono B7.size)
    clear hb8 B7 cTr
    obtain ⟨TE, hTE⟩ : ∃ x, x = treeE t fe := ⟨_, rfl⟩
    have HTE := hide hTE
    obtain ⟨RE, hRE⟩ : ∃ x, x = regE t fe at_ := ⟨_, rfl⟩
    have HRE := hide hRE
    have HR1 : Hid (TE ≠ 0 → RE = TE) := hide (fun h => by rw [hRE, hTE]; unfold regE; rw [if_neg (by rw [← hTE]; exact h)])
    have HR2 : Hid (TE = 0 → at_ < 0 → RE = 1) := hide (fun h h1 => by
      rw [hRE]; unfold regE; rw [if_pos (by rw [← hTE]; exact h)]
      split
      · rw [if_pos h1]
      · rfl)
    have HR3 : Hid (TE = 0 → (m : Int) ≤ at_ → RE = 1) := hide (fun h h1 => by
      rw [hRE]; unfold regE; rw [if_pos (by rw [← hTE]; exact h)]
      have hn : t[at_.toNat]? = none := List.getElem?_eq_none (by have := unhide HM; omega)
      rw [hn])
    have HR4 : Hid (∀ (j : Nat) x, TE = 0 → at_ = j → t[j]? = some x → RE = if x.f = -1 then 0 else 1) := hide (fun j x h h1 hx => by
      rw [hRE]; unfold regE; rw [if_pos (by rw [← hTE]; exact h), h1, Int.toNat_natCast, hx]
      show (if (j : Int) < 0 then 1 else if x.f = -1 then 0 else 1) = _
      rw [if_neg (by omega)])
    have HRL : Hid (RE = 0 → TE = 0 ∧ ∃ (n j : Nat) (x : Nd), fe = n ∧ at_ = j ∧ t[j]? = some x ∧ x.f = -1) := hide (fun h => by
      have := regE_leaf (t := t) (fe := fe) (at_ := at_) (by rw [← hRE]; exact h)
      rw [hTE]; exact this)
    have cRe : Hid (∀ W, Below w.heap.size w W → Calls Tryz.prog 14 #[.slice A m d, .int .i64 fe, .int .i64 at_] W fun e w' => ∃ v, e = .returned (.tuple #[v, .bool (regB t fe at_), errV RE]) ∧ SpsOf w' v (regV t fe at_) ∧ Below W.heap.size W w') := hide (by rw [hRE]; exact unhide cRe)
    rw [← hTE] at cRc cRg
    rw [← hTE]
    clear hTE hRE
    go_upto_region 14 with (fail)
    go_cut [99] from 76 to 99 (fun s99 wx => s99 = .bool (decide (TE = 0) && decide (RE ≠ 0)) ∧ wx = w8)
    case first =>
      by_cases hte : TE = 0
      · have hb : (TE == 0) = true := by simpa using hte
        by_cases h1 : at_ < 0
        · have H1 : Hid ((decide (TE = 0) && decide (RE ≠ 0)) = true) := hide (by rw [unhide HR2 hte h1]; simp [hte])
          have d1 : decide (at_ < 0) = true := by simpa using h1
          clear hte h1
          go_wp2_with fail
          go_meet
          case rel => exact ⟨by rw [unhide H1], rfl⟩
        · by_cases h2 : (m : Int) ≤ at_
          · have H1 : Hid ((decide (TE = 0) && decide (RE ≠ 0)) = true) := hide (by rw [unhide HR3 hte h2]; simp [hte])
            have d1 : decide (at_ < 0) = false := by simpa using h1
            have d2 : decide ((m : Int) ≤ at_) = true := by simpa using h2
            clear hte h1 h2
            go_wp2_with fail
            go_meet
            case rel => exact ⟨by rw [unhide H1], rfl⟩
          · obtain ⟨j, rfl⟩ : ∃ j : Nat, at_ = j := ⟨at_.toNat, by omega⟩
            have hjm : j < m := by omega
            have d1 : decide ((j : Int) < 0) = false := by simp
            have d2 : decide ((m : Int) ≤ (j : Int)) = false := by simp; omega
            obtain ⟨b, o, x, rfl, hbb, hx, g0, g1, g2, g3, g4, g5⟩ := ((unhide HT).below B8).get hjm
            have hre := unhide HR4 j x hte rfl hx
            by_cases hf : x.f = -1
            · rw [if_pos hf] at hre
              have H1 : Hid ((decide (TE = 0) && decide (RE ≠ 0)) = false) := hide (by rw [hre]; simp)
              rw [hf] at g0
              clear hte h1 h2 hx hf hre
              go_wp2_with fail
              go_meet
              case rel => exact ⟨by rw [unhide H1], rfl⟩
            · rw [if_neg hf] at hre
              have H1 : Hid ((decide (TE = 0) && decide (RE ≠ 0)) = true) := hide (by rw [hre]; simp [hte])
              have hnf : (x.f != -1) = true := by simpa using hf
              clear hte h1 h2 hx hf hre
              go_wp2_with fail
              go_meet
              case rel => exact ⟨by rw [unhide H1], rfl⟩
      · have hb : (TE == 0) = false := by simpa using hte
        have H1 : Hid ((decide (TE = 0) && decide (RE ≠ 0)) = false) := hide (by simp [hte])
        clear hte
        go_wp2_with fail
        go_meet
        case rel => exact ⟨by rw [unhide H1], rfl⟩
    case rest =>
      obtain ⟨rfl, rfl⟩ := hcut
      obtain ⟨BB, hBB⟩ : ∃ b, b = (decide (TE = 0) && decide (RE ≠ 0)) := ⟨_, rfl⟩
      have HBB := hide hBB
      rw [← hBB]
      clear hBB
      go_upto_if 99 with (fail)
      go_cut [20] from 84 to 99 (fun s20 wx => s20 = .int .i64 RE ∧ Below w.heap.size w wx)
      case first =>
        cases BB with
        | true =>
          have H1 : Hid (RE = 1) := hide (by
            have h := (unhide HBB).symm
            rw [Bool.and_eq_true, decide_eq_true_eq, decide_eq_true_eq] at h
            obtain ⟨h1, h2⟩ := h
            by_cases h3 : at_ < 0
            · exact unhide HR2 h1 h3
            by_cases h4 : (m : Int) ≤ at_
            · exact unhide HR3 h1 h4
            obtain ⟨j, rfl⟩ : ∃ j : Nat, at_ = j := ⟨at_.toNat, by omega⟩
            have hx : t[j]? = some (t[j]'(by have := unhide HM; omega)) := List.getElem?_eq_getElem _
            have := unhide HR4 j _ h1 rfl hx
            split at this
            · exact absurd this h2
            · exact this)
          go_wp2_with fail
          go_meet
          case rel => exact ⟨by rw [unhide H1], B8⟩
        | false =>
          have H1 : Hid (RE = TE) := hide (by
            have h := (unhide HBB).symm
            rw [Bool.and_eq_false_iff, decide_eq_false_iff_not, decide_eq_false_iff_not, Decidable.not_not] at h
            rcases h with h | h
            · exact unhide HR1 h
            · rw [h]; exact (unhide HRL h).1.symm)
          go_wp2_with fail
          go_meet
          case rel => exact ⟨by rw [unhide H1], B8⟩
      case rest =>
        obtain ⟨rfl, B9⟩ := hcut
        clear B8 HBB HR1 HR2 HR3 HR4
        obtain ⟨RV, hRV⟩ : ∃ x, x = regV t fe at_ := ⟨_, rfl⟩
        have HRV := hide hRV
        obtain ⟨RB, hRB⟩ : ∃ x, x = regB t fe at_ := ⟨_, rfl⟩
        have HRB := hide hRB
        rw [← hRV, ← hRB] at cRe
        have HN : Hid (RE ≠ 0 → RV = [] ∧ RB = false) := hide (fun h => by
          have h1 : ¬ regE t fe at_ = 0 := by rw [← unhide HRE]; exact h
          exact ⟨by rw [hRV]; unfold regV; rw [if_neg h1], by rw [hRB]; unfold regB; rw [show (regE t fe at_ == 0) = false by simpa using h1]; rfl⟩)
        clear hRV hRB
        go_upto_if 101 with (fail)
        go_cut [21, 22] from 99 to 130 (fun s21 s22 wx => s22 = .bool RB ∧ SpsOf wx s21 RV ∧ Below w.heap.size w wx)
        case first =>
          by_cases h0 : RE = 0
          · obtain ⟨hte, n, j, x, hfe, hat, hx, hf⟩ := unhide HRL h0
            have hR := right_of (t := t) (fe := fe) (by rw [← unhide HTE]; exact hte)
            have hj := (List.getElem?_eq_some_iff.1 hx).1
            have c1 := hide (unhide cRg wc n j hfe hte hj B9)
            have hn8 := hR.fe8
            subst hfe hat
            have hre0 : regE t n j = 0 := by rw [← unhide HRE]; exact h0
            have H1 : Hid (RV = (regR t n j).map fixS) := hide (by
              rw [unhide HRV]; unfold regV
              rw [if_pos hre0, Int.toNat_natCast, Int.toNat_natCast, regL_climb hR hx hf])
            have H2 : Hid (RB = anyB (regR t n j)) := hide (by
              rw [unhide HRB]; unfold regB
              rw [hre0, ← unhide HRV, unhide H1, fix_any]; rfl)
            have hb : (RE == 0) = true := by simpa using h0
            have hRn := hide (regR_len t n j)
            unfold RegPost1 at c1
            obtain ⟨R, hRdef⟩ : ∃ R, R = regR t n j := ⟨_, rfl⟩
            rw [← hRdef] at H1 H2 c1 hRn
            clear h0 hte hx hf hR hj hre0 hRdef
            have hz9 := B9.size
            rw [hb]
            clear hb
            go_wp2_with fail
            refine (unhide c1).mono ?_
            rintro e w5 ⟨v, rfl, ho5, hb5⟩
            obtain ⟨A5, c5, rfl, hr5, _, _⟩ := own_slice ho5
            have HO5 := hide ho5
            have B5 := B9.trans (hb5.mono hz9)
            clear c1 ho5 B9 hb5
            go_wp2_with fail
            refine (rany_any A5 n c5 _ R w5 hr5 (by unfold maxLen; omega)).mono ?_
            rintro e w6 ⟨rfl, q6, rfl⟩
            clear hr5
            go_wp2_with fail
            go_loopw [23] (fun i wr => ∃ kk : Nat, kk ≤ n ∧ i = .int .i64 kk ∧ Hid (SpOwn wr wc.heap.size (.slice A5 n c5) n (mixL R kk)) ∧ Below w.heap.size w wr) (fun i _ => n - (intOf i).toNat)
            case atStart => exact ⟨0, Nat.zero_le _, rfl, hide (by rw [show mixL R 0 = R by simp [mixL]]; exact own_below (unhide HO5) (below_drewN (Below.refl _ _) _)), below_drewN B5 _⟩
            case round =>
              clear HO5 B5
              obtain ⟨kk, hkk, rfl, HO, hbel⟩ := hrel
              have hsz := hbel.size
              by_cases hlt : kk < n
              · obtain ⟨g, cap, hv, hgb, hgl⟩ := (unhide HO).form (by omega)
                cases hv
                have hr9 : SReads wr wr.heap.size (some ⟨g, 0, none⟩) n (mixL R kk) := Reads.of_own (unhide HO)
                obtain ⟨_, _, s, e0, _, hs, d0, d1, d2⟩ := hr9.get hlt
                cases e0
                simp only [Nat.zero_add] at d0 d1 d2
                have hs7 : R[kk]? = some s := by rw [← mixL_at]; exact hs
                have HNX := hide (mixL_next hs7)
                have HKP := hide (mixL_keep hs7)
                have HSS := hide (span_set2 1 0 hs)
                obtain ⟨s0, s1, s2⟩ := s
                dsimp only at d0 d1 d2
                clear hr9 hs hs7
                by_cases hle : s0 ≤ s1
                · have HK2 := hide (unhide HKP (by simp [fixS, hle]))
                  have hd0 : decide (s1 < s0) = false := by simp; omega
                  clear HNX HSS
                  go_wp2_with fail
                  go_quiet (fail)
                  go_wp2_with fail
                  go_roundw
                  case rel => exact ⟨kk + 1, by omega, by go_num, hide (by rw [unhide HK2]; exact own_below (unhide HO) (below_drewN (Below.refl _ _) _)), below_drewN hbel _⟩
                  case measure => simp [intOf]; omega
                · have hfx : fixS ⟨s0, s1, s2⟩ = ⟨1, 0, s2⟩ := by simp [fixS, hle]
                  have HN2 := hide (by have := unhide HNX; rwa [hfx] at this)
                  have hd0 : decide (s1 < s0) = true := by simp; omega
                  clear HNX HKP hfx
                  go_wp2_with fail
                  go_quiet (fail)
                  go_upto_region 25 with (fail)
                  refine wp_nameW fun X hX => ?_
                  have oX : SpOwn X wc.heap.size (.slice (some ⟨g, 0, none⟩) n c5) n (mixL R kk) := by rw [hX]; exact own_below (unhide HO) (below_drewN (Below.refl _ _) _)
                  have bX : Below w.heap.size w X := by rw [hX]; exact below_drewN hbel _
                  have x0 : X.cell? ⟨g, kk * 3, none⟩ = some (.int .i64 s0) := by rw [hX]; exact d0
                  have x1 : X.cell? ⟨g, kk * 3 + 1, none⟩ = some (.int .i64 s1) := by rw [hX]; exact d1
                  have f0 := (oX : X.ownsRow _ _ 3 _ n _).frozenAt (g := g) (kk * 3)
                  have f1 := (oX : X.ownsRow _ _ 3 _ n _).frozenAt (g := g) (kk * 3 + 1)
                  clear hX HO hbel d0 d1 d2
                  go_wp2_with fail
                  go_roundw
                  case rel =>
                    refine ⟨kk + 1, by omega, by go_num, hide ?_, (bX.setCell (p := ⟨g, kk * 3, none⟩) (by show w.heap.size ≤ g; omega) _).setCell (p := ⟨g, kk * 3 + 1, none⟩) (by show w.heap.size ≤ g; omega) _⟩
                    rw [← unhide HN2]
                    unfold SpOwn
                    rw [← unhide HSS]
                    exact (((oX : X.ownsRow _ _ 3 _ n _).stored _ _).1.stored _ _).1
                  case measure => simp [intOf]; omega
              · obtain rfl : kk = n := by omega
                have HZ : Hid (mixL R kk = RV) := hide (by
                  rw [unhide H1]; unfold mixL
                  rw [List.take_of_length_le (by rw [unhide hRn]; exact Nat.le_refl _), List.drop_of_length_le (by rw [unhide hRn]; exact Nat.le_refl _), List.append_nil])
                go_wp2_with fail
                go_meet
                case rel => exact ⟨by rw [unhide H2], by
                  have := unhide HO
                  rw [unhide HZ] at this
                  exact ⟨A5, kk, c5, rfl, Reads.of_own this, by unfold maxLen; omega⟩, hbel⟩
          · have hb : (RE == 0) = false := by simpa using h0
            have HE := hide (unhide HN h0)
            rw [hb]
            clear h0 hb
            go_wp2_with fail
            go_meet
            case rel => exact ⟨by rw [(unhide HE).2], by rw [(unhide HE).1]; exact SpsOf.nil_ _, B9⟩
        case rest =>
          obtain ⟨rfl, R21, B10⟩ := hcut
          clear B9
          clear HRL HN
          go_wp2_with fail
          refine (unhide cRe _ B10).mono ?_
          rintro e w9 ⟨v24, rfl, R24, hb9⟩
          have R21 := R21.below hb9
          have B11 := B10.trans (hb9.mono B10.size)
          clear hb9 B10 cRe
          go_wp2_with fail
          refine (unhide cEr _ RE B11).mono ?_
          rintro e w10 ⟨rfl, hb10⟩
          have R21 := R21.below hb10
          have R24 := R24.below hb10
          have B12 := B11.trans (hb10.mono B11.size)
          clear hb10 B11
          go_wp2_with fail
          refine (sameSps _ _ _ _ R24 R21).mono ?_
          rintro e w11 ⟨rfl, hb11⟩
          have B13 := B12.trans (hb11.mono B12.size)
          clear hb11 B12 R21 R24
          have eL : (S.toList == S.toList) = true := by simp
          have eB : (RB != RB) = false := by simp
          go_wp2_with fail
          go_loopw [28, 29] (fun s28 s29 wr => ∃ kk : Nat, kk ≤ m ∧ (TE ≠ 0 → kk = 0) ∧ s29 = .int .i64 kk ∧ Hid (wr.ownsRow w.heap.size 3 1 s28 (reachK t fe kk).length ((reachK t fe kk).map (Value.int .i64))) ∧ Below w.heap.size w wr) (fun _ i _ => m - (intOf i).toNat)
          case atStart => exact ⟨0, Nat.zero_le _, fun _ => rfl, rfl, hide (by rw [show reachK t fe 0 = [] by unfold reachK reachTo; split <;> rfl]; exact World.ownsRow_nil _ _ _ _), B13⟩
          case round =>
            clear B13
            obtain ⟨kk, hkk, hk0, rfl, HO, hbel⟩ := hrel
            have hsz := hbel.size
            go_upto_region 34 with (fail)
            go_cut [182] from 175 to 182 (fun s182 wx => s182 = .bool (decide (TE = 0 ∧ kk < m)) ∧ wx = wr)
            case first =>
              by_cases hte : TE = 0
              · have hb : (TE == 0) = true := by simpa using hte
                by_cases hlt : kk < m
                · have H1 : Hid (decide (TE = 0 ∧ kk < m) = true) := hide (by simp [hte, hlt])
                  clear hte
                  go_wp2_with fail
                  go_meet
                  case rel => exact ⟨by rw [unhide H1], rfl⟩
                · have H1 : Hid (decide (TE = 0 ∧ kk < m) = false) := hide (by simp [hlt])
                  clear hte
                  go_wp2_with fail
                  go_meet
                  case rel => exact ⟨by rw [unhide H1], rfl⟩
              · have hb : (TE == 0) = false := by simpa using hte
                have H1 : Hid (decide (TE = 0 ∧ kk < m) = false) := hide (by simp [hte])
                by_cases hlt : kk < m
                · clear hte
                  go_wp2_with fail
                  go_meet
                  case rel => exact ⟨by rw [unhide H1], rfl⟩
                · clear hte
                  go_wp2_with fail
                  go_meet
                  case rel => exact ⟨by rw [unhide H1], rfl⟩
            case rest =>
              obtain ⟨rfl, hwc⟩ := hcut
              subst hwc
              by_cases hgo : TE = 0 ∧ kk < m
              · rw [show decide (TE = 0 ∧ kk < m) = true by simpa using hgo]
                obtain ⟨hte, hlt⟩ := hgo
                have hte' : treeE t fe = 0 := by rw [← unhide HTE]; exact hte
                have hR := right_of hte'
                obtain ⟨n, hfe⟩ : ∃ n : Nat, fe = n := ⟨fe.toNat, by have := hR.fe0; omega⟩
                have hn8 : n ≤ 8 := by have := hR.fe8; omega
                have hm63 : m ≤ 63 := by have := hR.most; have := unhide HM; omega
                have hj : kk < t.length := by have := unhide HM; omega
                have c1 := hide (unhide cRg _ n kk hfe hte hj hbel)
                have HNX : Hid (reachK t fe (kk + 1) = reachK t fe kk ++ (if atReach t n kk then [(kk : Int)] else [])) := hide (by
                  unfold reachK
                  rw [if_pos hte', if_pos hte', hfe, Int.toNat_natCast, reachTo_next])
                have hk9 : (reachK t fe kk).length < 1000000000 := by
                  unfold reachK
                  rw [if_pos hte']
                  have := reachTo_len t fe.toNat kk
                  omega
                obtain ⟨b, o, x, rfl, hbb, hx, g0, g1, g2, g3, g4, g5⟩ := ((unhide HT).below hbel).get hlt
                have HTE0 := hide hte
                by_cases hf : x.f = -1
                · have HAT : Hid (atReach t n kk = anyB (regR t n kk)) := hide (by unfold atReach; rw [isLeafB_t.2 ⟨x, hx, hf⟩]; rfl)
                  unfold RegPost1 at c1
                  obtain ⟨R, hRdef⟩ : ∃ R, R = regR t n kk := ⟨_, rfl⟩
                  rw [← hRdef] at HAT c1
                  rw [hf] at g0
                  clear hte hte' hR hfe hj hx hf hRdef
                  go_wp2_with fail
                  refine (unhide c1).mono ?_
                  rintro e w5 ⟨v, rfl, ho5, hb5⟩
                  obtain ⟨A5, c5, rfl, hr5, _, _⟩ := own_slice ho5
                  have hown5 := own_below (unhide HO) hb5
                  have B5 := hbel.trans (hb5.mono hsz)
                  clear c1 ho5 HO hb5
                  go_wp2_with fail
                  refine (rany_any A5 n c5 _ R w5 hr5 (by unfold maxLen; omega)).mono ?_
                  rintro e w6 ⟨rfl, q6, rfl⟩
                  have hown6 := own_below hown5 (below_drewN (Below.refl _ _) q6)
                  have B6 := below_drewN B5 q6
                  have hs6 := B6.size
                  obtain ⟨AB, hAB⟩ : ∃ b, b = anyB R := ⟨_, rfl⟩
                  rw [← hAB] at HAT
                  rw [← hAB]
                  clear hAB hr5 hown5 B5
                  cases AB with
                  | true =>
                    have HN2 : Hid (reachK t fe (kk + 1) = reachK t fe kk ++ [(kk : Int)]) := hide (by rw [unhide HNX, unhide HAT]; rfl)
                    go_wp2_with (at_builtin; refine app_one elem_int (.tmp 197) (.tmp 199) [.int .i64 (kk : Int)] rfl rfl rfl hown6 rfl rfl rfl (ints_oneCell .i64 [(kk : Int)]) hk9 hs6 ?_; intro v' w7 hown7 hb7 _ _)
                    go_wp2_with fail
                    go_roundw
                    case rel => exact ⟨kk + 1, hlt, fun h => absurd (unhide HTE0) h, by go_num, hide (by rw [unhide HN2]; simpa using hown7), B6.trans hb7⟩
                    case measure => simp [intOf]; omega
                  | false =>
                    have HN2 : Hid (reachK t fe (kk + 1) = reachK t fe kk) := hide (by rw [unhide HNX, unhide HAT]; simp)
                    go_wp2_with fail
                    go_roundw
                    case rel => exact ⟨kk + 1, hlt, fun h => absurd (unhide HTE0) h, by go_num, hide (by rw [unhide HN2]; exact hown6), B6⟩
                    case measure => simp [intOf]; omega
                · have HN2 : Hid (reachK t fe (kk + 1) = reachK t fe kk) := hide (by rw [unhide HNX, show atReach t n kk = false by unfold atReach isLeafB; rw [hx]; simp [hf]]; simp)
                  have hnf : (x.f != -1) = true := by simpa using hf
                  clear hte hte' hR hfe hj hx hf c1
                  go_wp2_with fail
                  go_roundw
                  case rel => exact ⟨kk + 1, hlt, fun h => absurd (unhide HTE0) h, by go_num, hide (by rw [unhide HN2]; exact unhide HO), hbel⟩
                  case measure => simp [intOf]; omega
              · rw [show decide (TE = 0 ∧ kk < m) = false by simpa using hgo]
                have hall : reachK t fe kk = reachV t fe := by
                  by_cases hte : TE = 0
                  · obtain rfl : kk = m := by
                      have : ¬ kk < m := fun h => hgo ⟨hte, h⟩
                      omega
                    exact reachK_all t fe kk (unhide HM)
                  · have h1 : ¬ treeE t fe = 0 := by rw [← unhide HTE]; exact hte
                    unfold reachK reachV
                    rw [if_neg h1, if_neg h1]
                have R28 := RowOf.own (unhide HO)
                rw [hall] at R28
                have B14 := hbel
                clear hgo hall HO hbel cRg
                go_wp2_with fail
                refine (unhide cRc _ B14).mono ?_
                rintro e w9 ⟨v31, rfl, R31, hb9⟩
                have R28 := R28.below hb9
                have B15 := B14.trans (hb9.mono B14.size)
                clear hb9 B14 cRc
                go_wp2_with fail
                refine (unhide cEr _ TE B15).mono ?_
                rintro e w10 ⟨rfl, hb10⟩
                have R28 := R28.below hb10
                have R31 := R31.below hb10
                have B16 := B15.trans (hb10.mono B15.size)
                clear hb10 B15
                go_wp2_with fail
                refine (sameInts _ _ _ _ R31 R28).mono ?_
                rintro e w11 ⟨rfl, hb11⟩
                have B17 := B16.trans (hb11.mono B16.size)
                clear hb11 B16 R31 R28
                go_wp2_with fail
                refine (unhide cSp _ B17).mono ?_
                rintro e w12 ⟨rfl, hb12⟩
                have B18 := B17.trans (hb12.mono B17.size)
                clear hb12 B17 cSp
                obtain ⟨SE, hSE⟩ : ∃ x, x = spansE l := ⟨_, rfl⟩
                have HSE : Hid (SE ≠ 0 → witV l = []) := hide (fun h => by unfold witV; rw [if_neg (by rw [← hSE]; exact h)])
                rw [← hSE] at cPk cWi
                rw [← hSE]
                clear hSE
                go_upto_if 216 with (fail)
                go_cut [34] from 214 to 220 (fun s34 wx => RowOf wx s34 (witV l) ∧ Below w.heap.size w wx)
                case first =>
                  by_cases h0 : SE = 0
                  · have hb : (SE == 0) = true := by simpa using h0
                    have c1 := hide (unhide cPk _ h0 B18)
                    rw [hb]
                    clear h0 hb
                    go_wp2_with fail
                    refine (unhide c1).mono ?_
                    rintro e w13 ⟨v, rfl, R34, hb13⟩
                    have B19 := B18.trans (hb13.mono B18.size)
                    go_wp2_with fail
                    go_meet
                    case rel => exact ⟨R34, B19⟩
                  · have hb : (SE == 0) = false := by simpa using h0
                    have H1 := hide (unhide HSE h0)
                    rw [hb]
                    clear h0 hb
                    go_wp2_with fail
                    go_meet
                    case rel => exact ⟨by rw [unhide H1]; exact RowOf.nil_ _, B18⟩
                case rest =>
                  obtain ⟨R34, B19⟩ := hcut
                  clear B18 cPk HSE
                  go_wp2_with fail
                  refine (unhide cWi _ B19).mono ?_
                  rintro e w14 ⟨v35, rfl, R35, hb14⟩
                  have R34 := R34.below hb14
                  have B20 := B19.trans (hb14.mono B19.size)
                  clear hb14 B19 cWi
                  go_wp2_with fail
                  refine (unhide cEr _ SE B20).mono ?_
                  rintro e w15 ⟨rfl, hb15⟩
                  have R34 := R34.below hb15
                  have R35 := R35.below hb15
                  have B21 := B20.trans (hb15.mono B20.size)
                  clear hb15 B20
                  go_wp2_with fail
                  refine (sameInts _ _ _ _ R35 R34).mono ?_
                  rintro e w16 ⟨rfl, hb16⟩
                  have B22 := B21.trans (hb16.mono B21.size)
                  clear hb16 B21 R35 R34
                  go_wp2_with fail
                  go_ret
                  exact ⟨rfl, B22⟩
end Go.Proofs.YtibbohebmmahmaaGreatDoor
