/- Part 10 of what LawPathTells needs: Why. Conditions: as each lemma names. -/
import Derived.Test.YtibbohebmmahmaaGreatDoorPkPathTells06
import Derived.Test.YtibbohebmmahmaaGreatDoorPkPathTells09
import Derived.Test.YtibbohebmmahmaaGreatDoorShelf
import Derived.Deep.RegionHeld3
import Derived.Deep.DeepCutAuto
import Derived.Deep.CutRange
import Derived.Laws.Concat
import Derived.Lib.LaidTab
import Derived.Lib.AppendIntMem
/- path.Why: the words of a row's way. Conditions: arguments read as lists; the table of powers of ten is laid. -/
namespace Go.Proofs.YtibbohebmmahmaaGreatDoor
set_option linter.unusedVariables false
set_option linter.unusedSimpArgs false
open Go.RowKit

def TenT (w : World) : Prop := Lib.TabIs Tryz.prog w "internal/strconv.uint64pow10" .u64 Lib.pow10Tab
theorem elem_str : Elem Tryz.prog 61 9 (.string ⟨#[]⟩) 1 16 := ⟨Tryz.underlying61, by kernel_rfl, rfl, by omega, by omega⟩
theorem strs_one (l : List ByteArray) : ∀ u ∈ l.map Value.string, u.oneCell' = true := by
  intro u hu
  obtain ⟨s, _, rfl⟩ := List.mem_map.1 hu
  rfl
theorem itoa_any (n : Int) (w : World) (h0 : -9223372036854775808 ≤ n) (h1 : n ≤ 9223372036854775807) (ht : TenT w) :
    Calls Tryz.prog 27 #[.int .i64 n] w fun e w' => e = .returned (.string (bt (Lib.itoa n))) ∧ Below w.heap.size w w' :=
  (Tryz.strconv_Itoa n h0 h1 w ht).mono (fun e w' ⟨h, k, os, hw⟩ => ⟨h, by rw [hw]; exact Lib.below_grow _ _ (Nat.le_refl _) _ _⟩)
theorem TenT.below {w w' : World} (h : TenT w) (hb : Below w.heap.size w w') : TenT w' := by
  unfold TenT Lib.TabIs World.var? at h ⊢
  cases hg : Tryz.prog.globalNamed "internal/strconv.uint64pow10" with
  | none => rw [hg] at h; cases h
  | some g =>
    rw [hg] at h
    simp only [Option.bind_some] at h ⊢
    have hlt : g < w.heap.size := by
      rcases Nat.lt_or_ge g w.heap.size with h' | h'
      · exact h'
      · rw [Array.getElem?_eq_none h'] at h; cases h
    rw [hb.block g hlt]
    exact h
theorem TenT.drew {w : World} (h : TenT w) : TenT w.drew := h
theorem TenT.alloc {w : World} (h : TenT w) (o : Obj) : TenT (w.alloc o) := h.below ((Below.refl _ _).alloc (Nat.le_refl _) o)
theorem bt_add (a b : List UInt8) : bt a ++ bt b = bt (a ++ b) := ByteArray.mk_append_mk a b
theorem join_words (ws : List (List UInt8)) (A : Option Addr) (n c : Nat) (w : World) (hl : ws.length = n) (h0 : 0 < n) (hr : Reads w w.heap.size 1 A n (ws.map (fun s => Value.string (bt s)))) (hc : n ≤ c) (hn : n ≤ 11) (hw : ∀ x ∈ ws, x.length ≤ 46) :
    Calls Tryz.prog 28 #[.slice A n c, .string ⟨#[32]⟩] w fun e w' => e = .returned (.string (bt (Lib.join ws [32]))) ∧ Below w.heap.size w w' := by
  obtain ⟨b, o, rfl, hb, hcell⟩ := Reads.spot hr h0 Nat.zero_lt_one
  have hxl : (ws.map bt).length = n := by rw [List.length_map, hl]
  have hdl : (ws.map bt).map (·.data.toList) = ws := by
    rw [List.map_map]
    have : ((fun x : ByteArray => x.data.toList) ∘ bt) = id := by funext s; exact bt_list s
    rw [this, List.map_id]
  have hjl := join_len_le ws 46 hw
  have h1 := Tryz.strings_Join b o c (ws.map bt) ⟨#[32]⟩ w (fun j x hx => hcell j _ (by
    rw [List.getElem?_map, Option.map_eq_some_iff] at hx
    obtain ⟨s, hs, rfl⟩ := hx
    rw [List.getElem?_map, hs]; rfl)) hb (by rw [hxl]; omega) (by rw [hxl]; exact hc) (by
      rw [hdl]
      have h3 : (Lib.join ws [32]).length ≤ 11 * 47 := by
        have : ws.length * 47 ≤ 11 * 47 := Nat.mul_le_mul_right _ (by omega)
        omega
      have h4 : ((⟨#[32]⟩ : ByteArray).data.toList) = [32] := rfl
      rw [h4]
      omega)
  rw [hxl, hdl] at h1
  exact h1
theorem wp_nameW {P : Program} {c : Code} {Q : Exit → Act → World → Prop} {a : Act} {W : World} (h : ∀ X, X = W → Code.wp P c Q a X) : Code.wp P c Q a W := h W rfl
def WhyPost (t : List Nd) (row : List Int) (w : World) (e : Ending) (w' : World) : Prop :=
  e = .returned (.tuple #[.string (bt (if readyE t row = 0 then whyV t row else [])), errV (readyE t row)]) ∧ Below w.heap.size w w'

set_option maxRecDepth 100000 in
set_option maxHeartbeats 8000000 in
theorem why_any (A C : Option Addr) (m d k q : Nat) (t : List Nd) (row : List Int) (w : World) (hten : TenT w) (ht : NReads w w.heap.size A m t) (hr : IReads w w.heap.size C k row) (hm : m ≤ maxLen) (hk : k ≤ maxLen) :
    Calls Tryz.prog 9 #[.slice A m d, .slice C k q] w (WhyPost t row w) := by
  have hpa := hide (path_any A C m d k q t row w ht hr hm hk)
  by_cases h0 : readyE t row = 0
  case neg =>
    have hv := errV_1 h0
    have HV := hide hv
    have HP : Hid (∀ X, Below w.heap.size w X → WhyPost t row w (.returned (.tuple #[.string ⟨#[]⟩, errV (readyE t row)])) X) := hide (fun X hB => ⟨by rw [if_neg h0]; rfl, hB⟩)
    unfold PathPost at hpa
    obtain ⟨E, hE⟩ : ∃ E, E = readyE t row := ⟨_, rfl⟩
    rw [← hE] at hpa hv HP
    rw [hv] at hpa HP
    clear h0 hv HV hE ht hr
    go_enter Tryz.func9, Tryz.ntmps9
    go_wp2_with fail
    refine (unhide hpa).mono ?_
    rintro e w1 ⟨v, rfl, hown, hb1⟩
    go_wp2_with fail
    go_ret2
    exact unhide HP w1 hb1
  obtain ⟨hrow, hR, h8⟩ := readyE_right h0
  have hlen := ht.len
  have hkl := hr.len
  have hv := hide (errV_0 h0)
  have HP : Hid (∀ X, Below w.heap.size w X → WhyPost t row w (.returned (.tuple #[.string (bt (whyV t row)), .nilIface])) X) := hide (fun X hB => ⟨by rw [if_pos h0, errV_0 h0], hB⟩)
  have hpv : Hid (∀ (i : Nat) (x : Int), (pathV t row)[i]? = some x → ∃ p : Nat, x = (p : Int) ∧ p < m) := hide (fun i x hx => by
    obtain ⟨p, h1, h2⟩ := pathV_in hR h0 (List.mem_of_getElem? hx)
    exact ⟨p, h1, by omega⟩)
  have hpl : (pathV t row).length ≤ 11 := pathV_le hR h0
  have hjp : 0 < (pathV t row).length := by unfold pathV; rw [if_pos h0]; simp
  have HR := hide hR
  obtain ⟨PL, hPL⟩ : ∃ PL, PL = (pathV t row).length := ⟨_, rfl⟩
  rw [← hPL] at hpl hjp
  have HPL := hide hPL
  have HM := hide hlen
  have HKL := hide hkl
  have hm63 : m ≤ 63 := by have := hR.most; omega
  unfold PathPost at hpa
  rw [unhide hv, ← hPL] at hpa
  clear h0 hrow hR h8 hlen hkl hv hPL
  go_enter Tryz.func9, Tryz.ntmps9
  go_wp2_with fail
  refine (unhide hpa).mono ?_
  rintro e w1 ⟨v, rfl, hown, hb1⟩
  obtain ⟨Ap, cp, rfl, hpr, _, _⟩ := own_slice hown
  have hpr := hide hpr
  have hz1 := hb1.size
  have hten1 := hten.below hb1
  have ht1 := ht.below hb1
  have hr1 := hr.below hb1
  clear hpa hown hten ht hr
  go_wp2_with fail
  go_loopw [8, 23] (fun v8 v23 wr => ∃ (j : Nat) (A8 : Option Addr) (c8 : Nat), j ≤ PL ∧ v23 = .int .i64 j ∧ v8 = .slice A8 j c8 ∧ Bag w1 wr w1.heap.size [⟨9, 1, .slice A8 j c8, j, ((wordsV t row).take j).map (fun s => Value.string (bt s))⟩] [] []) (fun _ v23 _ => PL - (Lib.intOf v23).toNat)
  case atStart => exact ⟨0, none, 0, Nat.zero_le _, rfl, rfl, (Bag.mk0 w1).nil1 9 1⟩
  case round =>
    obtain ⟨j, A8, c8, hj, rfl, rfl, hB⟩ := hrel
    have hbel := hB.bel
    have hsz := hB.low
    by_cases hlj : j < PL
    · obtain ⟨bp, op, x, rfl, hbp, hx, hcx⟩ := (show IReads w1 w1.heap.size Ap PL (pathV t row) from unhide hpr).get hlj
      obtain ⟨p, rfl, hpm⟩ := unhide hpv j x hx
      have kx := (hbel.cell (p := ⟨bp, op + j, none⟩) hbp).trans hcx
      obtain ⟨bt0, ot, n, rfl, hbt, hn, k0, k1, k2, k3, k4, k5⟩ := (ht1.below (hbel.mono hz1)).get hpm
      have HW : Hid ((wordsV t row).take (j + 1) = (wordsV t row).take j ++ [wordN row n]) := hide (take_next (by unfold wordsV; rw [List.getElem?_map, hx]; simp [wordAt, hn]))
      have hnode := node_of ((unhide HR).node p n hn)
      obtain ⟨nf, nc, nl, nr0, nb, nv⟩ := n
      dsimp only at k0 k1 k2 k3 k4 k5 hnode
      have hten2 := hten1.below hbel
      have hj9 : j + 1 < 1000000000 := by omega
      clear hx hcx hn
      by_cases hf : nf = -1
      · have hbf : (nf == -1) = true := by simp [hf]
        have hvb : -1000000 ≤ nv ∧ nv ≤ 1000000 := by
          rcases hnode with h | h
          · exact ⟨h.2.1, h.2.2.1⟩
          · omega
        obtain ⟨v1, v2⟩ := hvb
        have hwd : Hid (wordN row ⟨nf, nc, nl, nr0, nb, nv⟩ = [61] ++ Lib.itoa nv) := hide (by unfold wordN; rw [if_pos hf])
        have hil : (bt (Lib.itoa nv)).size ≤ 21 := by rw [bt_size]; exact Lib.itoa_length_le nv (by omega) (by omega)
        clear hf hnode
        go_wp2_with fail
        refine (itoa_any nv _ (by omega) (by omega) (hten2.alloc _)).mono ?_
        rintro e w3 ⟨rfl, hb3⟩
        have hB3 := (hB.alloc _).below hb3
        have hBn := hB3.push_ 9 1 1 [.string (⟨#[61]⟩ ++ bt (Lib.itoa nv))] rfl (by unfold maxLen; omega)
        have HWW : Hid ((((wordsV t row).take (j + 1)).map (fun s => Value.string (bt s))) = ((wordsV t row).take j).map (fun s => Value.string (bt s)) ++ [.string (⟨#[61]⟩ ++ bt (Lib.itoa nv))]) := hide (by rw [unhide HW, List.map_append, unhide hwd, List.map_cons, List.map_nil, ← bt_add]; rfl)
        clear hB3 hB
        go_wp2_with (at_builtin; refine wpList_append_bag elem_str hBn rfl (.tmp 47) (.tmp 52) rfl 0 rfl rfl (List.mem_cons_self ..) rfl (by intro u hu; simp at hu; subst hu; rfl) hj9 ?_; intro A9 c9 w9 hB9)
        have hB9b := hB9.forget
        have HB9 : Hid (Bag w1 w9 w1.heap.size [⟨9, 1, .slice A9 (j + 1) c9, j + 1, ((wordsV t row).take (j + 1)).map (fun s => Value.string (bt s))⟩] [] []) := hide (by rw [unhide HWW]; exact hB9b)
        clear hB9 hB9b hBn
        go_wp2_with fail
        go_roundw
        case rel => exact ⟨j + 1, A9, c9, by omega, by go_num, rfl, unhide HB9⟩
        case measure => simp [Lib.intOf]; omega
      · have hbf : (nf == -1) = false := by simp [hf]
        obtain ⟨f1, f2, c1, c2⟩ : 0 ≤ nf ∧ nf < row.length ∧ -1000000 ≤ nc ∧ nc ≤ 1000000 := by
          rcases hnode with h | h
          · exact absurd h.1 hf
          · exact ⟨h.1, h.2.1, h.2.2.1, h.2.2.2.1⟩
        have h8' : row.length ≤ 8 := by have := (unhide HR).fe8; omega
        have hfk : nf.toNat < k := by have := unhide HKL; omega
        obtain ⟨br, orr, x, rfl, hbr, hxr, cxr⟩ := (hr1.below (hbel.mono hz1)).get hfk
        have hca : cellAt row nf = x := by unfold cellAt; rw [List.getD_eq_getElem?_getD, hxr]; rfl
        obtain ⟨fn, hfn⟩ : ∃ fn : Nat, nf = fn := ⟨nf.toNat, by omega⟩
        subst hfn
        rw [Int.toNat_natCast] at hfk cxr
        have hif : (bt (Lib.itoa (fn : Int))).size ≤ 21 := by rw [bt_size]; exact Lib.itoa_length_le _ (by omega) (by omega)
        have hic : (bt (Lib.itoa nc)).size ≤ 21 := by rw [bt_size]; exact Lib.itoa_length_le _ (by omega) (by omega)
        have hrow : br < wr.heap.size := by omega
        have hfn8 : fn < 8 := by have := unhide HKL; omega
        by_cases hx0 : x = -1125899906842624
        · have hbx : (x == -1125899906842624) = true := by simp [hx0]
          have hwd : Hid (wordN row ⟨fn, nc, nl, nr0, nb, nv⟩ = [102] ++ Lib.itoa fn ++ [63]) := hide (by unfold wordN; rw [if_neg hf, if_pos (by rw [hca]; exact hx0)])
          have cxa := cell_alloc cxr hrow
          clear hf hnode hxr hca hx0 hic
          go_wp2_with fail
          refine (itoa_any (fn : Int) _ (by omega) (by omega) (hten2.alloc _)).mono ?_
          rintro e w3 ⟨rfl, hb3⟩
          have hB3 := (hB.alloc _).below hb3
          have hBn := hB3.push_ 9 1 1 [.string (⟨#[102]⟩ ++ bt (Lib.itoa (fn : Int)) ++ ⟨#[63]⟩)] rfl (by unfold maxLen; omega)
          have HWW : Hid ((((wordsV t row).take (j + 1)).map (fun s => Value.string (bt s))) = ((wordsV t row).take j).map (fun s => Value.string (bt s)) ++ [.string (⟨#[102]⟩ ++ bt (Lib.itoa (fn : Int)) ++ ⟨#[63]⟩)]) := hide (by rw [unhide HW, List.map_append, unhide hwd, List.map_cons, List.map_nil, ← bt_add, ← bt_add]; rfl)
          clear hB3 hB
          go_wp2_with (at_builtin; refine wpList_append_bag elem_str hBn rfl (.tmp 61) (.tmp 67) rfl 0 rfl rfl (List.mem_cons_self ..) rfl (by intro u hu; simp at hu; subst hu; rfl) hj9 ?_; intro A9 c9 w9 hB9)
          have hB9b := hB9.forget
          have HB9 : Hid (Bag w1 w9 w1.heap.size [⟨9, 1, .slice A9 (j + 1) c9, j + 1, ((wordsV t row).take (j + 1)).map (fun s => Value.string (bt s))⟩] [] []) := hide (by rw [unhide HWW]; exact hB9b)
          clear hB9 hB9b hBn
          go_wp2_with fail
          go_roundw
          case rel => exact ⟨j + 1, A9, c9, by omega, by go_num, rfl, unhide HB9⟩
          case measure => simp [Lib.intOf]; omega
        · have hbx : (x == -1125899906842624) = false := by simp [hx0]
          have h1m : 1 ≤ maxLen := by unfold maxLen; omega
          have k1' : -9223372036854775808 ≤ nc := by omega
          have k2' : nc ≤ 9223372036854775807 := by omega
          have F0 : ¬ 9223372036854775807 < 1 + (bt (Lib.itoa (fn : Int))).size := by omega
          have F1 : ¬ 9223372036854775807 < 1 + (bt (Lib.itoa (fn : Int))).size + 1 := by omega
          have F2 : ¬ 9223372036854775807 < 1 + (bt (Lib.itoa (fn : Int))).size + 2 := by omega
          have F3 : ¬ 9223372036854775807 < 1 + (bt (Lib.itoa (fn : Int))).size + 1 + (bt (Lib.itoa nc)).size := by omega
          have F4 : ¬ 9223372036854775807 < 1 + (bt (Lib.itoa (fn : Int))).size + 2 + (bt (Lib.itoa nc)).size := by omega
          by_cases hxc : x < nc
          · have hdx : decide (x < nc) = true := by simpa using hxc
            have hwd : Hid (wordN row ⟨fn, nc, nl, nr0, nb, nv⟩ = [102] ++ Lib.itoa fn ++ [60] ++ Lib.itoa nc) := hide (by unfold wordN; rw [if_neg hf, if_neg (by rw [hca]; exact hx0), if_pos (by rw [hca]; exact hxc)])
            have HWW : Hid ((((wordsV t row).take (j + 1)).map (fun s => Value.string (bt s))) = ((wordsV t row).take j).map (fun s => Value.string (bt s)) ++ [.string (⟨#[102]⟩ ++ bt (Lib.itoa (fn : Int)) ++ ⟨#[60]⟩ ++ bt (Lib.itoa nc))]) := hide (by rw [unhide HW, List.map_append, unhide hwd, List.map_cons, List.map_nil, ← bt_add, ← bt_add, ← bt_add]; rfl)
            have cxa := cell_alloc cxr hrow
            clear hf hnode hxr hca hx0
            go_upto_region 14 with (fail)
            go_quiet (fail)
            go_upto_region 15 with (fail)
            refine wp_nameW fun X hX => ?_
            have hBX : Bag w1 X w1.heap.size [⟨9, 1, .slice A8 j c8, j, ((wordsV t row).take j).map (fun s => Value.string (bt s))⟩] [] [⟨wr.heap.size, 40, #[.int .i64 (fn : Int), .int .i64 nc, .int .i64 nl, .int .i64 nr0, .bool nb, .int .i64 nv]⟩] := by rw [hX]; exact (hB.box_ _ _).drewN _
            have hBd := hBX.drew
            have htX : TenT X.drew := hten1.below hBd.bel
            have hI3 := hide (itoa_any (fn : Int) X.drew (by omega) (by omega) htX)
            have b0 := (hBd.blk _ (List.mem_cons_self ..)).1
            have m0 := b0.cell 0
            have m1 := b0.cell 1
            simp only [List.getElem?_toArray, List.getElem?_cons_zero, List.getElem?_cons_succ] at m0 m1
            have p0 := fun (o : Obj) => m0
            have p1 := fun (o : Obj) => m1
            clear hX hB b0 cxa
            go_region_held3 (fun w' => w'.cell? ⟨wr.heap.size, 0, none⟩ = some (.int .i64 (fn : Int)) ∧ w'.cell? ⟨wr.heap.size, 1, none⟩ = some (.int .i64 nc))
              ((refine ⟨?_, ?_⟩ <;> first | with_reducible assumption | with_reducible exact p0 _ | with_reducible exact p1 _))
              (first
                | (refine step_append_bag elem_str hBn (by rfl) (.tmp 78) (.tmp 88) (by rfl) 0 (by rfl) (by rfl) (List.mem_cons_self ..) (by rfl) (strs_one [_]) hj9 ?_
                   intro A9 c9 w9 hB9
                   have s9 := (hB9.blk _ (List.mem_cons_self ..)).1
                   have g0 : w9.cell? ⟨wr.heap.size, 0, none⟩ = some (.int .i64 (fn : Int)) := s9.cell 0
                   have g1 : w9.cell? ⟨wr.heap.size, 1, none⟩ = some (.int .i64 nc) := s9.cell 1)
                | (go_at_call 27
                   (with_reducible refine (unhide hI4).mono ?_)
                   rintro e w4 ⟨rfl, hb4⟩
                   have hB4 := hB3.below hb4
                   have s4 := (hB4.blk _ (List.mem_cons_self ..)).1
                   have g0 : w4.cell? ⟨wr.heap.size, 0, none⟩ = some (.int .i64 (fn : Int)) := s4.cell 0
                   have g1 : w4.cell? ⟨wr.heap.size, 1, none⟩ = some (.int .i64 nc) := s4.cell 1
                   have p0 := fun o => cell_alloc g0 s4.lt o
                   have p1 := fun o => cell_alloc g1 s4.lt o
                   have hBn := hB4.push_ 9 1 1 ([(⟨#[102]⟩ ++ bt (Lib.itoa (fn : Int)) ++ ⟨#[60]⟩ ++ bt (Lib.itoa nc) : ByteArray)].map Value.string) rfl h1m)
                | (go_at_call 27
                   (with_reducible refine (unhide hI3).mono ?_)
                   rintro e w3 ⟨rfl, hb3⟩
                   have hB3 := hBd.below hb3
                   have s3 := (hB3.blk _ (List.mem_cons_self ..)).1
                   have g0 : w3.cell? ⟨wr.heap.size, 0, none⟩ = some (.int .i64 (fn : Int)) := s3.cell 0
                   have g1 : w3.cell? ⟨wr.heap.size, 1, none⟩ = some (.int .i64 nc) := s3.cell 1
                   have hI4 := hide (itoa_any nc w3 k1' k2' (htX.below hb3))))
            have hB9b := hB9.forget.unbox
            have HB9 : Hid (Bag w1 w9 w1.heap.size [⟨9, 1, .slice A9 (j + 1) c9, j + 1, ((wordsV t row).take (j + 1)).map (fun s => Value.string (bt s))⟩] [] []) := hide (by rw [unhide HWW]; exact hB9b)
            clear hB9 hB9b hBn hB4 hB3 hBd hBX g0 g1 p0 p1 s9 s4 s3 m0 m1
            go_wp2_with fail
            go_roundw
            case rel => exact ⟨j + 1, A9, c9, by omega, by go_num, rfl, unhide HB9⟩
            case measure => simp [Lib.intOf]; omega
          · have hdx : decide (x < nc) = false := by simpa using hxc
            have hwd : Hid (wordN row ⟨fn, nc, nl, nr0, nb, nv⟩ = [102] ++ Lib.itoa fn ++ [62, 61] ++ Lib.itoa nc) := hide (by unfold wordN; rw [if_neg hf, if_neg (by rw [hca]; exact hx0), if_neg (by rw [hca]; exact hxc)])
            have HWW : Hid ((((wordsV t row).take (j + 1)).map (fun s => Value.string (bt s))) = ((wordsV t row).take j).map (fun s => Value.string (bt s)) ++ [.string (⟨#[102]⟩ ++ bt (Lib.itoa (fn : Int)) ++ ⟨#[62, 61]⟩ ++ bt (Lib.itoa nc))]) := hide (by rw [unhide HW, List.map_append, unhide hwd, List.map_cons, List.map_nil, ← bt_add, ← bt_add, ← bt_add]; rfl)
            have cxa := cell_alloc cxr hrow
            clear hf hnode hxr hca hx0
            go_upto_region 14 with (fail)
            go_quiet (fail)
            go_upto_region 9 with (fail)
            refine wp_nameW fun X hX => ?_
            have hBX : Bag w1 X w1.heap.size [⟨9, 1, .slice A8 j c8, j, ((wordsV t row).take j).map (fun s => Value.string (bt s))⟩] [] [⟨wr.heap.size, 40, #[.int .i64 (fn : Int), .int .i64 nc, .int .i64 nl, .int .i64 nr0, .bool nb, .int .i64 nv]⟩] := by rw [hX]; exact (hB.box_ _ _).drewN _
            have hBd := hBX.drew
            have htX : TenT X.drew := hten1.below hBd.bel
            have hI3 := hide (itoa_any (fn : Int) X.drew (by omega) (by omega) htX)
            have b0 := (hBd.blk _ (List.mem_cons_self ..)).1
            have m0 := b0.cell 0
            have m1 := b0.cell 1
            simp only [List.getElem?_toArray, List.getElem?_cons_zero, List.getElem?_cons_succ] at m0 m1
            have p0 := fun (o : Obj) => m0
            have p1 := fun (o : Obj) => m1
            clear hX hB b0 cxa
            go_region_held3 (fun w' => w'.cell? ⟨wr.heap.size, 0, none⟩ = some (.int .i64 (fn : Int)) ∧ w'.cell? ⟨wr.heap.size, 1, none⟩ = some (.int .i64 nc))
              ((refine ⟨?_, ?_⟩ <;> first | with_reducible assumption | with_reducible exact p0 _ | with_reducible exact p1 _))
              (first
                | (refine step_append_bag elem_str hBn (by rfl) (.tmp 31) (.tmp 41) (by rfl) 0 (by rfl) (by rfl) (List.mem_cons_self ..) (by rfl) (strs_one [_]) hj9 ?_
                   intro A9 c9 w9 hB9
                   have s9 := (hB9.blk _ (List.mem_cons_self ..)).1
                   have g0 : w9.cell? ⟨wr.heap.size, 0, none⟩ = some (.int .i64 (fn : Int)) := s9.cell 0
                   have g1 : w9.cell? ⟨wr.heap.size, 1, none⟩ = some (.int .i64 nc) := s9.cell 1)
                | (go_at_call 27
                   (with_reducible refine (unhide hI4).mono ?_)
                   rintro e w4 ⟨rfl, hb4⟩
                   have hB4 := hB3.below hb4
                   have s4 := (hB4.blk _ (List.mem_cons_self ..)).1
                   have g0 : w4.cell? ⟨wr.heap.size, 0, none⟩ = some (.int .i64 (fn : Int)) := s4.cell 0
                   have g1 : w4.cell? ⟨wr.heap.size, 1, none⟩ = some (.int .i64 nc) := s4.cell 1
                   have p0 := fun o => cell_alloc g0 s4.lt o
                   have p1 := fun o => cell_alloc g1 s4.lt o
                   have hBn := hB4.push_ 9 1 1 ([(⟨#[102]⟩ ++ bt (Lib.itoa (fn : Int)) ++ ⟨#[62, 61]⟩ ++ bt (Lib.itoa nc) : ByteArray)].map Value.string) rfl h1m)
                | (go_at_call 27
                   (with_reducible refine (unhide hI3).mono ?_)
                   rintro e w3 ⟨rfl, hb3⟩
                   have hB3 := hBd.below hb3
                   have s3 := (hB3.blk _ (List.mem_cons_self ..)).1
                   have g0 : w3.cell? ⟨wr.heap.size, 0, none⟩ = some (.int .i64 (fn : Int)) := s3.cell 0
                   have g1 : w3.cell? ⟨wr.heap.size, 1, none⟩ = some (.int .i64 nc) := s3.cell 1
                   have hI4 := hide (itoa_any nc w3 k1' k2' (htX.below hb3))))
            have hB9b := hB9.forget.unbox
            have HB9 : Hid (Bag w1 w9 w1.heap.size [⟨9, 1, .slice A9 (j + 1) c9, j + 1, ((wordsV t row).take (j + 1)).map (fun s => Value.string (bt s))⟩] [] []) := hide (by rw [unhide HWW]; exact hB9b)
            clear hB9 hB9b hBn hB4 hB3 hBd hBX g0 g1 p0 p1 s9 s4 s3 m0 m1
            go_wp2_with fail
            go_roundw
            case rel => exact ⟨j + 1, A9, c9, by omega, by go_num, rfl, unhide HB9⟩
            case measure => simp [Lib.intOf]; omega
    · obtain rfl : j = PL := by omega
      have ho := hB.own _ (List.mem_cons_self ..)
      dsimp only at ho
      have hwl : (wordsV t row).length = j := by unfold wordsV; rw [List.length_map, ← unhide HPL]
      rw [List.take_of_length_le (by rw [hwl]; exact Nat.le_refl _)] at ho
      obtain ⟨A0, c0, hv8, hrd, _, hcc⟩ := own_slice ho
      cases hv8
      have hJ := hide (join_words (wordsV t row) A8 j c8 wr hwl hjp hrd hcc (by omega) (fun x hx => by
        unfold wordsV at hx
        obtain ⟨i, hi, rfl⟩ := List.mem_map.1 hx
        obtain ⟨k', hk'⟩ := List.mem_iff_getElem?.1 hi
        obtain ⟨p, rfl, hp⟩ := unhide hpv k' i hk'
        unfold wordAt
        rw [Int.toNat_natCast]
        have hn : t[p]? = some (t[p]'(by rw [unhide HM]; exact hp)) := List.getElem?_eq_getElem _
        rw [hn]
        have h8 := (unhide HR).fe8
        rcases node_of ((unhide HR).node p _ hn) with h | h
        · exact wordN_len ⟨h.2.1, h.2.2.1⟩ ⟨by omega, by omega⟩ ⟨by omega, by omega⟩
        · exact wordN_len ⟨by omega, by omega⟩ ⟨by omega, by omega⟩ ⟨h.2.2.1, h.2.2.2.1⟩))
      have hBw := hide (hb1.trans (hbel.mono hz1))
      clear ho hwl hrd hB
      go_wp2_with fail
      refine (unhide hJ).mono ?_
      rintro e w5 ⟨rfl, hb5⟩
      go_wp2_with fail
      go_ret2
      exact unhide HP w5 ((unhide hBw).trans (hb5.mono (by omega)))
end Go.Proofs.YtibbohebmmahmaaGreatDoor
