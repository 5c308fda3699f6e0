/- Part 21 of what LawBoostTells needs: GrowRef3, RefTree, RefLeaf, CutBin, TreeDeep, TreeHalves, Steps. Conditions: as each lemma names. -/
import Derived.Test.YtdpijhnbhopnbaaGreatDoorPkBoostTells14
import Derived.Test.YtdpijhnbhopnbaaGreatDoorPkBoostTells20
import Derived.Test.YtdpijhnbhopnbaaGreatDoorPkBoostTells19
import Derived.Test.YtdpijhnbhopnbaaGreatDoorPkBoostTells03
import Derived.BigGuardPart
import Derived.Test.YtdpijhnbhopnbaaGreatDoorPkBoostTells04
import Derived.Test.YtdpijhnbhopnbaaGreatDoorPkBoostTells12
import Derived.Test.YtdpijhnbhopnbaaGreatDoorPkBoostTells09
/- What the document says of samples: Grow. Conditions: samples that read as data. -/
namespace Go.Proofs.YtdpijhnbhopnbaaGreatDoor
set_option linter.unusedVariables false
set_option linter.unusedSimpArgs false
open Go.RowKit

theorem MKept.reads {w w1 : World} {v : Value} {A : Option Addr} {n : Nat} {ss : List Sm} (h : MKept w v A n ss) (hb : Below w.heap.size w w1) : MReads w1 w1.heap.size A n ss := h w1 (only_of_below hb _)

set_option maxRecDepth 100000 in
set_option maxHeartbeats 8000000 in
theorem rgrow_any (n least : Nat) (hl : 1 ≤ least) (hl2 : least ≤ 60) : ∀ (d : Nat) (D : Int), D = d → d ≤ 1000 → ∀ (ss : List Sm) (A : Option Addr) (m c : Nat) (xs : List Nd) (v : Value) (base : Nat) (w : World), SRight ss n → MKept w v A m ss → NOwn w base v xs → base ≤ w.heap.size → xs.length + (growK n least d ss).size ≤ 1000000 →
    Calls Tryz.prog 17 #[v, .slice A m c, .int .i64 n, .int .i64 D, .int .i64 least] w (GrowPost (xs ++ layK xs.length (growK n least d ss)) v base w) := by
  intro d
  induction d with
  | zero =>
    intro D hD hd ss A m c xs v base w hs hk ho hB hn
    have hr := hk.now
    have hlen := hr.len
    have hm60 : m ≤ 60 := by have := hs.most; omega
    have hm1 : 1 ≤ m := by have := hs.pos; omega
    have d1 : (D == 0) = true := by simpa using hD
    have HG : Hid (layK xs.length (growK n least 0 ss) = [⟨-1, 0, 0, 0, false, sumM ss / (m : Int)⟩]) := hide (by simp only [growK, layK, leafG, hlen])
    have hxl : xs.length ≤ 1000000 := by omega
    have HSR := hide hs
    have HL := hide hlen
    have HSB : Hid (∀ k, -60000 ≤ sumM (ss.take k) ∧ sumM (ss.take k) ≤ 60000) := hide fun k => sum_60 (by rw [List.length_take]; omega) (fun s hsm => hs.tlo s (List.mem_of_mem_take hsm)) (fun s hsm => hs.thi s (List.mem_of_mem_take hsm))
    have hok := bestB_ok (least := least) hs hl
    have HSp := hide (rsplit_any A m c n least ss w hr hs hl hl2)
    unfold RSplitPost at HSp
    obtain ⟨x1, hx1⟩ : ∃ x, x = ftB (bestB ss n least) := ⟨_, rfl⟩
    obtain ⟨x2, hx2⟩ : ∃ x, x = (bestB ss n least).c := ⟨_, rfl⟩
    obtain ⟨x3, hx3⟩ : ∃ x, x = fdB (bestB ss n least) := ⟨_, rfl⟩
    rw [← hx1, ← hx2, ← hx3] at HSp
    have hb1 := sum_floor hs
    obtain ⟨S, hS⟩ : ∃ S, S = sumM ss := ⟨_, rfl⟩
    rw [← hS] at HG hb1
    have HSS := hide hS
    obtain ⟨Av, cv, rfl, _, _⟩ := ho.slice
    have hown : w.ownsRow base 51 6 (.slice Av xs.length cv) xs.length (xs.flatMap Nd.cells) := ho
    clear hs hk hlen hS hn hD ho hx1 hx2 hx3 hok
    go_enter Tryz.func17, Tryz.ntmps17
    go_wp2_with fail
    refine (unhide HSp).mono ?_
    rintro e wq ⟨rfl, q0, rfl⟩
    clear HSp
    go_wp2_with fail
    go_loopw [14, 15] (fun s i wr => ∃ k p : Nat, k ≤ m ∧ s = .int .i64 (sumM (ss.take k)) ∧ i = .int .i64 k ∧ wr = w.drewN p) (fun _ i _ => m - (intOf i).toNat)
    case atStart => exact ⟨0, q0, Nat.zero_le _, rfl, rfl, rfl⟩
    case round =>
      obtain ⟨k, p, hk, rfl, rfl, rfl⟩ := hrel
      by_cases hlt : k < m
      · obtain ⟨bb, o, s, rfl, _, hx, c0, c1, hok'⟩ := hr.get hlt
        have HN := hide (sumM_next hx)
        have t1 := (unhide HSR).tlo s (List.mem_of_getElem? hx)
        have t2 := (unhide HSR).thi s (List.mem_of_getElem? hx)
        obtain ⟨b1, b2⟩ := unhide HSB k
        obtain ⟨S', hS'⟩ : ∃ S, S = sumM (ss.take k) := ⟨_, rfl⟩
        rw [← hS'] at b1 b2 HN ⊢
        obtain ⟨sA, sn, sc, sr, st⟩ := s
        dsimp only at c0 c1 HN t1 t2
        clear hx hok' hS'
        go_wp2_with fail
        go_roundw
        case rel => exact ⟨k + 1, p, by omega, by rw [unhide HN], by go_num, rfl⟩
        case measure => simp [intOf]; omega
      · obtain rfl : k = m := by omega
        rw [List.take_of_length_le (by rw [unhide HL]; exact Nat.le_refl _), ← unhide HSS]
        have hbw : Below w.heap.size w (w.drewN p) := below_drewN (Below.refl _ _) p
        have hown1 := own_over hown hbw
        have hz1 : base ≤ (w.drewN p).heap.size := Nat.le_trans hB hbw.size
        go_wp2_with fail
        refine (rfloor_any S k (w.drewN p) (by omega) (by omega) (by omega) (by omega)).mono ?_
        rintro e w2 ⟨rfl, rfl⟩
        go_wp2_with (at_builtin; refine app_one2 elem_nodeP (.tmp 51) (.tmp 54) [.int .i64 (-1), .int .i64 0, .int .i64 0, .int .i64 0, .bool false, .int .i64 (S / (k : Int))] rfl rfl rfl hown1 rfl rfl rfl (node_one ⟨-1, 0, 0, 0, false, S / (k : Int)⟩) (by omega) hz1 ?_; intro v2 w2 hown2 hb2 hg2 hn2)
        go_ret
        refine ⟨v2, rfl, ?_, grown_next (only_of_below hbw _) (OwnNext.refl _ _) hg2, (OwnNext.refl _ _).trans hbw.size (ownNext_app hn2)⟩
        rw [unhide HG]
        unfold NOwn
        rw [List.length_append, List.flatMap_append]
        exact hown2
  | succ d ih =>
    intro D hD hd ss A m c xs v base w hs hk ho hB hn
    have hr := hk.now
    have hlen := hr.len
    have hm60 : m ≤ 60 := by have := hs.most; omega
    have hm1 : 1 ≤ m := by have := hs.pos; omega
    have hn8 := hs.fe8
    have d1 : (D == 0) = false := by simp; omega
    have hD1 : D - 1 = d := by omega
    have hD2 : D ≤ 1001 := by omega
    have hD3 : 0 < D := by omega
    have HSR := hide hs
    have HL := hide hlen
    have HSB : Hid (∀ k, -60000 ≤ sumM (ss.take k) ∧ sumM (ss.take k) ≤ 60000) := hide fun k => sum_60 (by rw [List.length_take]; omega) (fun s hsm => hs.tlo s (List.mem_of_mem_take hsm)) (fun s hsm => hs.thi s (List.mem_of_mem_take hsm))
    have hok := bestB_ok (least := least) hs hl
    have HSp := hide (rsplit_any A m c n least ss w hr hs hl hl2)
    unfold RSplitPost at HSp
    obtain ⟨_, _, _, _, hf1, hf2, _, _, hz⟩ := hok
    by_cases h0 : (bestB ss n least).f < 0
    · have HG : Hid (layK xs.length (growK n least (d + 1) ss) = [⟨-1, 0, 0, 0, false, sumM ss / (m : Int)⟩]) := hide (by simp only [growK]; rw [if_pos h0]; simp only [layK, leafG, hlen])
      have hxl : xs.length ≤ 1000000 := by omega
      have hb1 := sum_floor hs
      obtain ⟨S, hS⟩ : ∃ S, S = sumM ss := ⟨_, rfl⟩
      rw [← hS] at HG hb1
      have HSS := hide hS
      rw [fdB_none (by omega)] at HSp
      obtain ⟨x1, hx1⟩ : ∃ x, x = ftB (bestB ss n least) := ⟨_, rfl⟩
      rw [← hx1] at HSp
      obtain ⟨x2, hx2⟩ : ∃ x, x = (bestB ss n least).c := ⟨_, rfl⟩
      rw [← hx2] at HSp
      obtain ⟨Av, cv, rfl, _, _⟩ := ho.slice
      have hown : w.ownsRow base 51 6 (.slice Av xs.length cv) xs.length (xs.flatMap Nd.cells) := ho
      clear hs hk hlen hS hn hD ho hz hf1 hf2 ih hD1 h0 hx2 hx1
      go_enter Tryz.func17, Tryz.ntmps17
      go_wp2_with fail
      refine (unhide HSp).mono ?_
      rintro e wq ⟨rfl, q0, rfl⟩
      clear HSp
      go_wp2_with fail
      go_loopw [14, 15] (fun s i wr => ∃ k p : Nat, k ≤ m ∧ s = .int .i64 (sumM (ss.take k)) ∧ i = .int .i64 k ∧ wr = w.drewN p) (fun _ i _ => m - (intOf i).toNat)
      case atStart => exact ⟨0, q0, Nat.zero_le _, rfl, rfl, rfl⟩
      case round =>
        obtain ⟨k, p, hk, rfl, rfl, rfl⟩ := hrel
        by_cases hlt : k < m
        · obtain ⟨bb, o, s, rfl, _, hx, c0, c1, hok'⟩ := hr.get hlt
          have HN := hide (sumM_next hx)
          have t1 := (unhide HSR).tlo s (List.mem_of_getElem? hx)
          have t2 := (unhide HSR).thi s (List.mem_of_getElem? hx)
          obtain ⟨b1, b2⟩ := unhide HSB k
          obtain ⟨S', hS'⟩ : ∃ S, S = sumM (ss.take k) := ⟨_, rfl⟩
          rw [← hS'] at b1 b2 HN ⊢
          obtain ⟨sA, sn, sc, sr, st⟩ := s
          dsimp only at c0 c1 HN t1 t2
          clear hx hok' hS'
          go_wp2_with fail
          go_roundw
          case rel => exact ⟨k + 1, p, by omega, by rw [unhide HN], by go_num, rfl⟩
          case measure => simp [intOf]; omega
        · obtain rfl : k = m := by omega
          rw [List.take_of_length_le (by rw [unhide HL]; exact Nat.le_refl _), ← unhide HSS]
          have hbw : Below w.heap.size w (w.drewN p) := below_drewN (Below.refl _ _) p
          have hown1 := own_over hown hbw
          have hz1 : base ≤ (w.drewN p).heap.size := Nat.le_trans hB hbw.size
          go_wp2_with fail
          refine (rfloor_any S k (w.drewN p) (by omega) (by omega) (by omega) (by omega)).mono ?_
          rintro e w2 ⟨rfl, rfl⟩
          go_wp2_with (at_builtin; refine app_one2 elem_nodeP (.tmp 51) (.tmp 54) [.int .i64 (-1), .int .i64 0, .int .i64 0, .int .i64 0, .bool false, .int .i64 (S / (k : Int))] rfl rfl rfl hown1 rfl rfl rfl (node_one ⟨-1, 0, 0, 0, false, S / (k : Int)⟩) (by omega) hz1 ?_; intro v2 w2 hown2 hb2 hg2 hn2)
          go_ret
          refine ⟨v2, rfl, ?_, grown_next (only_of_below hbw _) (OwnNext.refl _ _) hg2, (OwnNext.refl _ _).trans hbw.size (ownNext_app hn2)⟩
          rw [unhide HG]
          unfold NOwn
          rw [List.length_append, List.flatMap_append]
          exact hown2
    · obtain ⟨f, hf⟩ : ∃ f : Nat, (bestB ss n least).f = f := ⟨(bestB ss n least).f.toNat, by omega⟩
      obtain ⟨C, hC⟩ : ∃ C, C = (bestB ss n least).c := ⟨_, rfl⟩
      rw [hf, ← hC, Int.toNat_natCast] at hz
      rw [hf] at hf2 h0
      have hlow : 1 ≤ (lowS f C ss).length := by rcases hz with hz | hz <;> omega
      have hhigh : 1 ≤ (highS f C ss).length := by rcases hz with hz | hz <;> omega
      have hpl := parts_len f C ss
      have hG : growK n least (d + 1) ss = .node ⟨f, C, 0, 0, decide ((highS f C ss).length < (lowS f C ss).length), 0⟩ (growK n least d (lowS f C ss)) (growK n least d (highS f C ss)) := by
        simp only [growK]
        rw [if_neg (by rw [hf]; omega)]
        simp only [hf, ← hC, Int.toNat_natCast]
      rw [ftB_some (by rw [hf]; omega), fdB_some (by rw [hf]; omega), hf, ← hC] at HSp
      have HP := hide (fun (W : World) (hb : Below w.heap.size w W) => rpart_any true A m c f C ss W ((hr.below hb).more hb.size) hm60 (fun s hsm => by rw [hs.len s hsm]; omega))
      have HQ := hide (fun (W : World) (hb : Below w.heap.size w W) => rpart_any false A m c f C ss W ((hr.below hb).more hb.size) hm60 (fun s hsm => by rw [hs.len s hsm]; omega))
      unfold selS at HP HQ
      rw [if_pos rfl] at HP
      rw [if_neg (by simp)] at HQ
      have hsl := hs.low (f := f) (c := C) hlow
      have hsh := hs.high (f := f) (c := C) hhigh
      rw [hG] at hn ⊢
      simp only [Kt.size] at hn
      obtain ⟨La, hLa⟩ : ∃ La, La = lowS f C ss := ⟨_, rfl⟩
      obtain ⟨Lb, hLb⟩ : ∃ Lb, Lb = highS f C ss := ⟨_, rfl⟩
      have HMa : Hid (∀ s ∈ La, s ∈ ss) := hide (by rw [hLa]; exact fun s hs => (lowS_mem hs).1)
      have HMb : Hid (∀ s ∈ Lb, s ∈ ss) := hide (by rw [hLb]; exact fun s hs => (highS_mem hs).1)
      rw [← hLa] at hn HP hsl hlow hpl ⊢
      rw [← hLb] at hn HQ hsh hhigh hpl ⊢
      obtain ⟨la, hla⟩ : ∃ la, la = La.length := ⟨_, rfl⟩
      obtain ⟨lb, hlb⟩ : ∃ lb, lb = Lb.length := ⟨_, rfl⟩
      unfold RPartPost at HP HQ
      rw [← hla] at HP
      rw [← hlb] at HQ
      obtain ⟨lo, hlo⟩ : ∃ lo : Bool, lo = decide (lb < la) := ⟨_, rfl⟩
      have d3 : decide (lb < la) = lo := hlo.symm
      have d3' : decide ((lb : Int) < (la : Int)) = lo := by rw [hlo, decide_eq_decide]; omega
      have hla60 : la ≤ 60 := by omega
      have hlb60 : lb ≤ 60 := by omega
      have hf8 : f ≤ 8 := by omega
      obtain ⟨Ka, hKa⟩ : ∃ Ka, Ka = growK n least d La := ⟨_, rfl⟩
      obtain ⟨Kb, hKb⟩ : ∃ Kb, Kb = growK n least d Lb := ⟨_, rfl⟩
      rw [← hKa, ← hKb] at hn ⊢
      rw [← hla, ← hlb, d3]
      have HKL : Hid (layK xs.length (.node ⟨f, C, 0, 0, lo, 0⟩ Ka Kb) = ⟨f, C, ((xs.length + 1 : Nat) : Int), ((xs.length + 1 + Ka.size : Nat) : Int), lo, 0⟩ :: (layK (xs.length + 1) Ka ++ layK (xs.length + 1 + Ka.size) Kb)) := hide rfl
      obtain ⟨M, hM⟩ : ∃ M, M = xs.length + 1 + Ka.size := ⟨_, rfl⟩
      rw [← hM] at HKL
      have hxl : xs.length ≤ 1000000 := by omega
      have hMle : M ≤ 1000000 := by omega
      obtain ⟨Av, cv, rfl, _, _⟩ := ho.slice
      have hown : w.ownsRow base 51 6 (.slice Av xs.length cv) xs.length (xs.flatMap Nd.cells) := ho
      have hk2 := hk
      have hN2 : (xs ++ [(⟨f, C, (xs.length : Int) + 1, 0, lo, 0⟩ : Nd)]).length = xs.length + 1 := by simp
      have HI1 := hide (fun (W : World) (v1 : Value) (c1 : Nat) (A1 : Option Addr) (hkk : MKept W v1 A1 la La) (hoo : NOwn W base v1 (xs ++ [⟨f, C, (xs.length : Int) + 1, 0, lo, 0⟩])) (hbb : base ≤ W.heap.size) =>
        ih (D - 1) hD1 (by omega) La A1 la c1 _ v1 base W hsl hkk hoo hbb (by rw [hN2, ← hKa]; omega))
      have HI2 := hide (fun (W : World) (v1 : Value) (c1 : Nat) (A1 : Option Addr) (hkk : MKept W v1 A1 lb Lb) (hoo : NOwn W base v1 (xs ++ ⟨f, C, (xs.length : Int) + 1, M, lo, 0⟩ :: layK (xs.length + 1) Ka)) (hbb : base ≤ W.heap.size) =>
        ih (D - 1) hD1 (by omega) Lb A1 lb c1 _ v1 base W hsh hkk hoo hbb (by simp [layK_len, ← hKb]; omega))
      rw [← hKa, hN2] at HI1
      rw [← hKb] at HI2
      have hN3 : (xs ++ (⟨f, C, (xs.length : Int) + 1, M, lo, 0⟩ : Nd) :: layK (xs.length + 1) Ka).length = M := by simp [layK_len]; omega
      have hN4 : (xs ++ (⟨f, C, (xs.length : Int) + 1, 0, lo, 0⟩ : Nd) :: layK (xs.length + 1) Ka).length = M := by simp [layK_len]; omega
      rw [hN3] at HI2
      have HM := hide hM
      have HLA := hide hla
      have HLB := hide hlb
      have HK0 := hide hk
      clear hs hk hlen hn hD ho hG hsl hsh hLa hLb hla hlb hKa hKb hz hf1 hf2 ih hD1 hpl hM hlow hhigh h0 hf hC hN2 hlo hk2
      go_enter Tryz.func17, Tryz.ntmps17
      go_wp2_with fail
      refine (unhide HSp).mono ?_
      rintro e wq ⟨rfl, q0, rfl⟩
      clear HSp
      have hbw0 : Below w.heap.size w (w.drewN q0) := below_drewN (Below.refl _ _) q0
      go_wp2_with fail
      refine (unhide HP _ hbw0).mono ?_
      rintro e wa ⟨A1, c1, rfl, hoa, _, hbwa⟩
      have hownq := own_over hown hbw0
      have hbwA := hbw0.trans (hbwa.mono hbw0.size)
      have hka0 : MKept wa (.slice Av xs.length cv) A1 la La := by rw [unhide HLA] at hoa ⊢; exact MKept.made hownq ((unhide HK0).next (only_of_below hbw0 _) (OwnNext.refl _ _)) hbwa hoa (unhide HMa)
      have hown0 := own_over hownq hbwa
      clear HP hoa
      go_wp2_with fail
      refine (unhide HQ wa hbwA).mono ?_
      rintro e w1 ⟨A2, c2, rfl, hob, _, hbw1⟩
      have hka := hka0.next (only_of_below hbw1 _) (OwnNext.refl _ _)
      have hkb : MKept w1 (.slice Av xs.length cv) A2 lb Lb := by rw [unhide HLB] at hob ⊢; exact MKept.made hown0 ((unhide HK0).next (only_of_below hbwA _) (OwnNext.refl _ _)) hbw1 hob (unhide HMb)
      have hbw := hbwA.trans (hbw1.mono hbwA.size)
      have hown1 := own_over hown0 hbw1
      have hz1 : base ≤ w1.heap.size := Nat.le_trans hB hbw.size
      have HKA := hide hka
      have HKB := hide hkb
      have HBW := hide hbw
      clear HQ hbw0 hbw1 hob hown0 hown hownq hbwA hbwa hka0 hka hkb hbw HLA HLB HK0 HMa HMb
      go_wp2_with (at_builtin; refine app_one2 elem_nodeP (.tmp 66) (.tmp 77) [.int .i64 f, .int .i64 C, .int .i64 ((xs.length : Int) + 1), .int .i64 0, .bool lo, .int .i64 0] rfl rfl rfl hown1 rfl rfl rfl (node_one ⟨f, C, (xs.length : Int) + 1, 0, lo, 0⟩) (by omega) hz1 ?_; intro v3 w3 hown3 hb3 hg3 hn3)
      have ho3 : NOwn w3 base v3 (xs ++ [⟨f, C, (xs.length : Int) + 1, 0, lo, 0⟩]) := by
        unfold NOwn
        rw [List.length_append, List.flatMap_append]
        exact hown3
      have hnx3 := ownNext_app hn3
      have hka3 := (unhide HKA).next hg3 hnx3
      have hkb3 := (unhide HKB).next hg3 hnx3
      have hz3 : base ≤ w3.heap.size := Nat.le_trans hz1 hb3.size
      have hbw := unhide HBW
      have G3 := grown_next (only_of_below hbw _) (OwnNext.refl _ _) hg3
      have N3 := (OwnNext.refl w _).trans hbw.size hnx3
      have HC1 := hide (unhide HI1 w3 v3 c1 A1 hka3 ho3 hz3)
      have HG3 := hide G3
      have HN3 := hide N3
      have HKB3 := hide hkb3
      clear hown3 hb3 hg3 hn3 ho3 hnx3 hka3 hkb3 hbw G3 N3 HI1 HKA HKB HBW hown1 hz1
      refine (unhide HC1).mono ?_
      rintro e w4 ⟨v4, rfl, ho4, hg4, hn4⟩
      rw [List.append_assoc, List.singleton_append] at ho4
      obtain ⟨A4, c4, rfl, _, _⟩ := ho4.slice
      rw [hN4] at ho4 hn4 ⊢
      obtain ⟨g4, rfl, hg4b, hg4s, e3, f3⟩ := ho4.at_ hN4 (k := xs.length) (x := ⟨f, C, (xs.length : Int) + 1, 0, lo, 0⟩) (by simp) 3 (by omega)
      have e3' : w4.cell? ⟨g4, xs.length * 6 + 3, none⟩ = some (.int .i64 0) := e3
      have hST := NOwn.stored (n := M) (y := ⟨f, C, (xs.length : Int) + 1, M, lo, 0⟩) ho4 hN4 3 (.int .i64 (M : Int)) (by omega) rfl
      have hG5 : w4.grownBy (w4.setCell ⟨g4, xs.length * 6 + 3, none⟩ (.int .i64 (M : Int))) (Value.slice (some ⟨g4, 0, none⟩) M c4).ownBlock := only_setCell (World.grownBy.refl _ _) (.inl rfl) _
      have hkb5 := ((unhide HKB3).next hg4 hn4).next hG5 (OwnNext.refl _ _)
      have G4 := grown_next (unhide HG3) (unhide HN3) hg4
      have N4 := (unhide HN3).trans (unhide HG3).size hn4
      have G5 := grown_next G4 N4 hG5
      have HC2 := hide (unhide HI2 _ _ c2 A2 hkb5 hST (by have h1 := hG5.size; have h2 := hg4.size; omega))
      have HG5 := hide G5
      have HN4 := hide N4
      have hMx : xs.length < M := by have := unhide HM; omega
      clear hST hG5 hkb5 G4 N4 G5 HC1 HI2 HG3 HN3 HKB3 hg4 hn4 ho4 e3 hN4 hN3
      go_wp2_with fail
      refine (unhide HC2).mono ?_
      rintro e w6 ⟨v6, rfl, ho6, hg6, hn6⟩
      go_wp2_with fail
      go_ret
      refine ⟨v6, rfl, ?_, grown_next (unhide HG5) (unhide HN4) hg6, (unhide HN4).trans (unhide HG5).size hn6⟩
      rw [unhide HKL]
      have h2 : ((xs.length + 1 : Nat) : Int) = (xs.length : Int) + 1 := by omega
      rw [h2]
      simpa using ho6

end Go.Proofs.YtdpijhnbhopnbaaGreatDoor
/- The references of chapter 4: Depth, Tree, Ready, Left, Leaf. Conditions: a tree that reads as a list of nodes. -/
namespace Go.Proofs.YtdpijhnbhopnbaaGreatDoor
set_option linter.unusedVariables false
set_option linter.unusedSimpArgs false
open Go.RowKit

theorem rdepth_any (A : Option Addr) (m d B : Nat) (t : List Nd) (hm : m ≤ 63) (hb : Behind t) : ∀ (k i : Nat) (w : World), m ≤ i + k → i < m → NReads w B A m t →
    Calls Tryz.prog 48 #[.slice A m d, .int .i64 i] w fun e w' => e = .returned (.int .i64 (dep t i)) ∧ w = w' := by
  intro k
  induction k with
  | zero => intro i w h1 h2; omega
  | succ k ih =>
    intro i w h1 h2 ht
    have hlt := ht.len
    obtain ⟨b, o, n, rfl, hbb, hn, g0, g1, g2, g3, g4, g5⟩ := ht.get h2
    have hda := dep_at hn (fun hf => (hb i n hn hf).1) (fun hf => (hb i n hn hf).2.2.1)
    by_cases hf : n.f = -1
    · rw [if_pos hf] at hda
      have HD := hide hda
      rw [hf] at g0
      clear hda hn hlt
      go_enter Tryz.func48, Tryz.ntmps48
      go_wp2_with fail
      go_ret
      exact ⟨ret_int (by rw [unhide HD]; rfl), rfl⟩
    · rw [if_neg hf] at hda
      obtain ⟨a1, a2, a3, a4⟩ := hb i n hn hf
      obtain ⟨ln, hln⟩ : ∃ ln : Nat, n.l = ln := ⟨n.l.toNat, by omega⟩
      obtain ⟨rn, hrn⟩ : ∃ rn : Nat, n.r = rn := ⟨n.r.toNat, by omega⟩
      rw [hln, hrn] at hda
      rw [hln] at a1 a2 g2
      rw [hrn] at a3 a4 g3
      have c1 := ih ln w (by omega) (by omega) ht
      have c2 := ih rn w (by omega) (by omega) ht
      have l1 := dep_le t ln
      have l2 := dep_le t rn
      simp only [Int.toNat_natCast] at hda
      generalize dep t ln = x at *
      generalize dep t rn = y at *
      have HD := hide hda
      have hq : (n.f == -1) = false := by simpa using hf
      clear hda hn hf ih
      by_cases hxy : x < y
      · go_enter Tryz.func48, Tryz.ntmps48
        go_wp2_with fail
        refine c1.mono ?_; rintro e w1 ⟨rfl, rfl⟩
        go_wp2_with fail
        refine c2.mono ?_; rintro e w1 ⟨rfl, rfl⟩
        clear c1 c2
        go_wp2_with fail
        go_ret
        exact ⟨ret_int (by rw [unhide HD]; omega), rfl⟩
      · go_enter Tryz.func48, Tryz.ntmps48
        go_wp2_with fail
        refine c1.mono ?_; rintro e w1 ⟨rfl, rfl⟩
        go_wp2_with fail
        refine c2.mono ?_; rintro e w1 ⟨rfl, rfl⟩
        clear c1 c2
        go_wp2_with fail
        go_ret
        exact ⟨ret_int (by rw [unhide HD]; omega), rfl⟩

theorem rleft_any (f c l r v x : Int) (less : Bool) (w : World) :
    Calls Tryz.prog 49 #[.agg #[.int .i64 f, .int .i64 c, .int .i64 l, .int .i64 r, .bool less, .int .i64 v], .int .i64 x] w fun e w' => e = .returned (.bool (if x = -1125899906842624 then less else decide (x < c))) ∧ Below w.heap.size w w' := by
  by_cases hx : x = -1125899906842624
  · subst hx
    go_enter Tryz.func49, Tryz.ntmps49
    go_wp2_with fail
    refine (rnone_any _ _).mono ?_; rintro e w1 ⟨rfl, rfl⟩
    go_wp2_with fail
    go_ret
    exact ⟨rfl, by go_grown⟩
  · have q : (x == -1125899906842624) = false := by simpa using hx
    have HX := hide hx
    clear hx
    go_enter Tryz.func49, Tryz.ntmps49
    go_wp2_with fail
    refine (rnone_any _ _).mono ?_; rintro e w1 ⟨rfl, rfl⟩; rw [q]
    go_wp2_with fail
    go_ret
    exact ⟨ret_bool (by first | rw [if_neg (unhide HX)] | rfl), by go_grown⟩
end Go.Proofs.YtdpijhnbhopnbaaGreatDoor
/- The reference of the walk to a leaf: orchref1.Leaf (the leaf, and the way). Conditions: a tree in which what is below stands behind; a row that has the cells it asks. -/
namespace Go.Proofs.YtdpijhnbhopnbaaGreatDoor
set_option linter.unusedVariables false
set_option linter.unusedSimpArgs false
open Go.RowKit

def RLPost (t : List Nd) (row : List Int) (w : World) (e : Ending) (w' : World) : Prop :=
  ∃ v, e = .returned (.tuple #[.int .i64 (leafOf t row : Nat), v]) ∧ w'.ownsRow w.heap.size 3 1 v ((0 :: wayFrom t row t.length 0).length) ((0 :: wayFrom t row t.length 0).map (Value.int .i64)) ∧ Below w.heap.size w w'

set_option maxRecDepth 100000 in
set_option maxHeartbeats 2000000 in
theorem rleaf_any (A C : Option Addr) (m d k q : Nat) (t : List Nd) (row : List Int) (w : World) (ht : NReads w w.heap.size A m t) (hr : IReads w w.heap.size C k row) (h0 : 0 < m) (hm : m ≤ 63) (h8 : k ≤ 8) (hb : Behind t)
    (ha : ∀ (i : Nat) n, t[i]? = some n → n.f ≠ -1 → 0 ≤ n.f ∧ n.f < k) :
    Calls Tryz.prog 28 #[.slice A m d, .slice C k q] w (RLPost t row w) := by
  have hlen := ht.len
  have HO : Hid (leafOf t row = leafFrom t row m 0) := hide (by unfold leafOf; rw [hlen])
  have HB := hide hb
  have HA := hide ha
  have HL := hide hlen
  clear hlen hb ha
  have hown0 := own_new (w := w) (B := w.heap.size) [.int .i64 0] 3 1 1 rfl (by decide) (Nat.le_refl _)
  go_enter Tryz.func28, Tryz.ntmps28
  go_wp2_with fail
  go_loopw [6, 7] (fun i v wr => ∃ (j F : Nat) (l : List Int), j < m ∧ i = .int .i64 j ∧ m ≤ j + F ∧ l.length ≤ j + 1 ∧ Hid (leafFrom t row F j = leafFrom t row m 0) ∧ Hid (l ++ wayFrom t row F j = 0 :: wayFrom t row m 0) ∧ wr.ownsRow w.heap.size 3 1 v l.length (l.map (Value.int .i64)) ∧ Below w.heap.size w wr) (fun i _ _ => m - (intOf i).toNat)
  case atStart => exact ⟨0, m, [0], h0, rfl, by omega, Nat.le_refl _, hide rfl, hide rfl, hown0, (Below.refl _ _).alloc (Nat.le_refl _) _⟩
  case round =>
    obtain ⟨j, F, l, hj, rfl, hF, hlj, HF0, HF, hown, hbel⟩ := hrel
    have hsz := hbel.size
    obtain ⟨b, o, n, rfl, hbb, hn, g0, g1, g2, g3, g4, g5⟩ := (ht.below hbel).get hj
    by_cases hf : n.f = -1
    · have HZ : Hid (leafOf t row = j) := hide (by rw [unhide HO, ← unhide HF0, leafFrom_leaf hn hf])
      have HY : Hid (0 :: wayFrom t row t.length 0 = l) := hide (by rw [unhide HL, ← unhide HF, wayFrom_leaf hn hf, List.append_nil])
      rw [hf] at g0
      clear hn
      go_wp2_with fail
      go_ret2
      exact ⟨_, by rw [unhide HZ]; rfl, by rw [unhide HY]; exact hown, hbel⟩
    · have hnf : (n.f != -1) = true := by simpa using hf
      obtain ⟨a1, a2⟩ := (unhide HA) j n hn hf
      obtain ⟨fn, hfn⟩ : ∃ fn : Nat, n.f = fn := ⟨n.f.toNat, by omega⟩
      have hfk : fn < k := by omega
      obtain ⟨b3, o3, x, rfl, hbb2, hx, cx⟩ := (hr.below hbel).get hfk
      have hcx : cellAt row n.f = x := by unfold cellAt; rw [hfn, Int.toNat_natCast, List.getD_eq_getElem?_getD, hx]; rfl
      obtain ⟨j2, hj2, hlt, hjm⟩ := nextOf_lt (c := x) (unhide HB) hn hf
      rw [unhide HL] at hjm
      obtain ⟨F2, rfl⟩ : ∃ F2, F = F2 + 1 := ⟨F - 1, by omega⟩
      have HF2 : Hid ((l ++ [(j2 : Int)]) ++ wayFrom t row F2 j2 = 0 :: wayFrom t row m 0) := hide (by
        have := unhide HF
        rw [wayFrom_step hn hf, hcx, hj2, Int.toNat_natCast] at this
        rw [← this]; simp)
      have HF3 : Hid (leafFrom t row F2 j2 = leafFrom t row m 0) := hide (by
        have := unhide HF0
        rw [leafFrom_step hn hf, hcx, hj2, Int.toNat_natCast] at this
        exact this)
      have hgo : nextOf n x = if (if x = -1125899906842624 then n.less else decide (x < n.c)) = true then n.l else n.r := rfl
      rw [hj2] at hgo
      obtain ⟨nf, nc, nl, nr, nless, nv⟩ := n
      simp only at hfn g0 g1 g2 g3 g4 g5 hnf hgo
      subst hfn
      have hk9 : l.length < 1000000000 := by omega
      have hrl := rleft_any (fn : Int) nc nl nr nv x nless
      generalize (if x = -1125899906842624 then nless else decide (x < nc)) = bg at *
      have HGO := hide hgo
      clear hn hx hcx hj2 hf a1 a2 hgo
      go_wp2_with fail
      go_still_tail 12, (by kernel_rfl)
      go_wp2_with fail
      refine (hrl _).mono ?_
      clear hrl
      rintro e w2 ⟨rfl, hb2⟩
      have hb3 : Below wr.heap.size wr w2 := ((Below.refl _ _).drew).trans hb2
      have hown2 : w2.ownsRow w.heap.size 3 1 u7 l.length (l.map (Value.int .i64)) := own_below hown hb3
      have hs2 := Nat.le_trans hsz hb3.size
      have k2 := (hb3.cell (p := ⟨b, o + j * 6 + 2, none⟩) (by dsimp only; omega)).trans g2
      have k3 := (hb3.cell (p := ⟨b, o + j * 6 + 3, none⟩) (by dsimp only; omega)).trans g3
      cases bg
      · have hjr : nr = j2 := by have := unhide HGO; simpa using this.symm
        subst hjr
        go_wp2_with (at_builtin; refine app_one elem_int (.tmp 40) (.tmp 42) [.int .i64 (j2 : Int)] rfl rfl rfl hown2 rfl rfl rfl (ints_oneCell .i64 [(j2 : Int)]) hk9 hs2 ?_; intro v' w3 hown3 hb4 _ _)
        have hown4 : w3.ownsRow w.heap.size 3 1 v' (l ++ [(j2 : Int)]).length ((l ++ [(j2 : Int)]).map (Value.int .i64)) := by simpa using hown3
        clear hown3
        go_wp2_with fail
        go_roundw
        case rel => exact ⟨j2, F2, l ++ [(j2 : Int)], by omega, rfl, by omega, by simp; omega, HF3, HF2, hown4, (hbel.trans (hb3.mono hsz)).trans hb4⟩
        case measure => simp [intOf] <;> omega
      · have hjr : nl = j2 := by have := unhide HGO; simpa using this.symm
        subst hjr
        go_wp2_with (at_builtin; refine app_one elem_int (.tmp 40) (.tmp 42) [.int .i64 (j2 : Int)] rfl rfl rfl hown2 rfl rfl rfl (ints_oneCell .i64 [(j2 : Int)]) hk9 hs2 ?_; intro v' w3 hown3 hb4 _ _)
        have hown4 : w3.ownsRow w.heap.size 3 1 v' (l ++ [(j2 : Int)]).length ((l ++ [(j2 : Int)]).map (Value.int .i64)) := by simpa using hown3
        clear hown3
        go_wp2_with fail
        go_roundw
        case rel => exact ⟨j2, F2, l ++ [(j2 : Int)], by omega, rfl, by omega, by simp; omega, HF3, HF2, hown4, (hbel.trans (hb3.mono hsz)).trans hb4⟩
        case measure => simp [intOf] <;> omega
end Go.Proofs.YtdpijhnbhopnbaaGreatDoor
/- cut.Bin and cut.Merge: their contracts. Conditions: slices that read as lists. -/
namespace Go.Proofs.YtdpijhnbhopnbaaGreatDoor
set_option linter.unusedVariables false
set_option linter.unusedSimpArgs false
open Go.RowKit

/-- of a list that rises: what stands at its bin, less one, is the greatest that is at most a number -/
theorem bin_rep {l : List Int} (h : l.Pairwise (· < ·)) (c : Int) : binN l c ≤ l.length ∧ (∀ (j : Nat) x, l[j]? = some x → (j < binN l c ↔ x ≤ c)) := by
  induction l with
  | nil => exact ⟨Nat.le_refl _, fun j x h => by simp at h⟩
  | cons a r ih =>
    rw [List.pairwise_cons] at h
    obtain ⟨h1, h2⟩ := ih h.2
    unfold binN at *
    rw [List.filter_cons]
    by_cases ha : a ≤ c
    · simp only [ha, decide_true, if_true, List.length_cons]
      refine ⟨by omega, fun j x hx => ?_⟩
      cases j with
      | zero => simp at hx; subst hx; simp [ha]
      | succ j => rw [← h2 j x (by simpa using hx)]; omega
    · have h0 : (r.filter fun x => decide (x ≤ c)) = [] := by
        rw [List.filter_eq_nil_iff]
        intro x hx
        have := h.1 x hx
        simp; omega
      simp only [ha, decide_false, Bool.false_eq_true, if_false, h0, List.length_nil]
      refine ⟨Nat.zero_le _, fun j x hx => ?_⟩
      constructor
      · intro hj; omega
      · intro hxc
        exfalso
        cases j with
        | zero => simp at hx; subst hx; exact ha hxc
        | succ j => have := h.1 x (List.mem_of_getElem? (by simpa using hx : r[j]? = some x)); omega
def binE (l : List Int) (x : Int) : Int := if cutE l = 0 then (if cellB x = true then 0 else 1) else cutE l
def binV (l : List Int) (x : Int) : Int := if binE l x = 0 then (binN l x : Int) else 0
def mergeE (a b : List Int) : Int := if cutE a = 0 then (if cutE b = 0 then (if 60 < (mergeV a b).length then 4 else 0) else cutE b) else cutE a
def mergeR (a b : List Int) : List Int := if mergeE a b = 0 then mergeV a b else []
def MergePost (a b : List Int) (w : World) (e : Ending) (w' : World) : Prop :=
  ∃ v, e = .returned (.tuple #[v, errV (mergeE a b)]) ∧ IOwn w' w.heap.size v (mergeR a b) ∧ Below w.heap.size w w'
theorem MergePost.fault {a b : List Int} {w w' : World} {k : Int} {ev : Value} (h : mergeE a b = k) (hk : k ≠ 0) (hv : ev = errV k) (hb : Below w.heap.size w w') : MergePost a b w (.returned (.tuple #[.slice none 0 0, ev])) w' :=
  ⟨_, by rw [h, hv], by unfold mergeR; rw [if_neg (by rw [h]; exact hk)]; exact IOwn.nil_ _ _, hb⟩

end Go.Proofs.YtdpijhnbhopnbaaGreatDoor
/- TreeDeep: the walk of the law's function. Conditions: arguments read as lists. -/
namespace Go.Proofs.YtdpijhnbhopnbaaGreatDoor
set_option linter.unusedVariables false
set_option linter.unusedSimpArgs false
open Go.RowKit

def tree3 (a b : Int) : List Nd := [⟨0, 0, 1, 2, false, 0⟩, ⟨-1, 0, 0, 0, false, a⟩, ⟨-1, 0, 0, 0, false, b⟩]
theorem tree3_right : treeE (tree3 0 0) 8 = 0 := by decide
theorem tree3_depth : depthV (tree3 0 0) = 1 := by decide

theorem pow_step {k x : Nat} (h : x = 2 ^ k) : x * 2 = 2 ^ (k + 1) := by rw [h, Nat.pow_succ]
theorem pow_le10 {k : Nat} (h : k ≤ 10) : 2 ^ k ≤ 1024 := Nat.le_trans (Nat.pow_le_pow_right (by omega) h) (by decide)

end Go.Proofs.YtdpijhnbhopnbaaGreatDoor
/- TreeHalves: the walk of the law's function. Conditions: arguments read as lists. -/
namespace Go.Proofs.YtdpijhnbhopnbaaGreatDoor
set_option linter.unusedVariables false
set_option linter.unusedSimpArgs false
open Go.RowKit

/-! ### plain -/
theorem leaves_mem {t : List Nd} : ∀ (i k : Nat) (n : Nd), t[k]? = some n → n.f = -1 → ((i + k : Nat) : Int) ∈ leavesFrom i t := by
  induction t with
  | nil => intro i k n h; simp at h
  | cons x r ih =>
    intro i k n h hf
    rw [leavesFrom]
    cases k with
    | zero =>
      simp at h; subst h
      rw [if_pos hf]; simp
    | succ k =>
      have := ih (i + 1) k n (by simpa using h) hf
      rw [show i + 1 + k = i + (k + 1) by omega] at this
      split
      · exact List.mem_cons_of_mem _ this
      · exact this
theorem leafFrom_is {t : List Nd} {row : List Int} (hb : Behind t) : ∀ (F i : Nat), i < t.length → t.length ≤ i + F → ∃ n, t[leafFrom t row F i]? = some n ∧ n.f = -1 := by
  intro F
  induction F with
  | zero => intro i h1 h2; omega
  | succ F ih =>
    intro i h1 h2
    have hn : t[i]? = some t[i] := List.getElem?_eq_getElem h1
    by_cases hf : (t[i]).f = -1
    · rw [leafFrom_leaf hn hf]; exact ⟨_, hn, hf⟩
    · rw [leafFrom_step hn hf]
      obtain ⟨j, hj, hlt, hjl⟩ := nextOf_lt (c := cellAt row (t[i]).f) hb hn hf
      rw [hj, Int.toNat_natCast]
      exact ih j hjl (by omega)
theorem leafOf_is {t : List Nd} {row : List Int} (hb : Behind t) (h0 : 0 < t.length) : ∃ n, t[leafOf t row]? = some n ∧ n.f = -1 := leafFrom_is hb t.length 0 h0 (by omega)
theorem leafFrom_same {t : List Nd} {r s : List Int} (h : ∀ (i : Nat) n, t[i]? = some n → n.f ≠ -1 → cellAt r n.f = cellAt s n.f) : ∀ (F i : Nat), leafFrom t r F i = leafFrom t s F i := by
  intro F
  induction F with
  | zero => intro i; rfl
  | succ F ih =>
    intro i
    cases hn : t[i]? with
    | none => simp only [leafFrom, hn]
    | some n =>
      by_cases hf : n.f = -1
      · rw [leafFrom_leaf hn hf, leafFrom_leaf hn hf]
      · rw [leafFrom_step hn hf, leafFrom_step hn hf, h i n hn hf, ih]
theorem cellAt_set {r : List Int} {f : Nat} {g c : Int} (hg : 0 ≤ g) (h : g ≠ f) : cellAt (r.set f c) g = cellAt r g := by
  unfold cellAt
  rw [List.getD_eq_getElem?_getD, List.getD_eq_getElem?_getD, List.getElem?_set_ne (by omega)]
theorem rowE_set {r : List Int} {f : Nat} {c : Int} (h : rowE r = 0) (hc : -1000000 ≤ c ∧ c ≤ 1000000) : rowE (r.set f c) = 0 := by
  unfold rowE at h ⊢
  split at h
  · cases h
  · rename_i h8
    split at h
    · rename_i ha
      rw [if_neg (by simpa using h8), if_pos]
      rw [List.all_eq_true] at ha ⊢
      intro x hx
      rcases List.mem_or_eq_of_mem_set hx with hx | rfl
      · exact ha x hx
      · exact rowGood_cell hc.1 hc.2
    · cases h
theorem readyE_set {t : List Nd} {r : List Int} {f : Nat} {c : Int} (h : readyE t r = 0) (hc : -1000000 ≤ c ∧ c ≤ 1000000) : readyE t (r.set f c) = 0 := by
  unfold readyE at h ⊢
  split at h
  · rename_i h1
    rw [if_pos (rowE_set h1 hc), List.length_set]; exact h
  · rename_i h1; exact absurd h h1
theorem leafV_set {t : List Nd} {r : List Int} {f : Nat} {c : Int} (h : readyE t r = 0) (hc : -1000000 ≤ c ∧ c ≤ 1000000) (hf : ∀ (i : Nat) n, t[i]? = some n → n.f ≠ f) : leafV t (r.set f c) = leafV t r := by
  have h2 := readyE_set (f := f) h hc
  obtain ⟨_, hR, _⟩ := readyE_right h
  unfold leafV leafOf
  rw [if_pos h, if_pos h2, leafFrom_same (r := r.set f c) (s := r)]
  intro i n hn hf2
  exact cellAt_set (hR.asks i n hn hf2).1 (hf i n hn)

theorem tree3_eval4 : evalV [⟨0, 5, 1, 2, false, 0⟩, ⟨-1, 0, 0, 0, false, 7⟩, ⟨-1, 0, 0, 0, false, 9⟩] [4] = 7 ∧ readyE [⟨0, 5, 1, 2, false, 0⟩, ⟨-1, 0, 0, 0, false, 7⟩, ⟨-1, 0, 0, 0, false, 9⟩] [4] = 0 := by decide
theorem tree3_eval5 : evalV [⟨0, 5, 1, 2, false, 0⟩, ⟨-1, 0, 0, 0, false, 7⟩, ⟨-1, 0, 0, 0, false, 9⟩] [5] = 9 ∧ readyE [⟨0, 5, 1, 2, false, 0⟩, ⟨-1, 0, 0, 0, false, 7⟩, ⟨-1, 0, 0, 0, false, 9⟩] [5] = 0 := by decide

end Go.Proofs.YtdpijhnbhopnbaaGreatDoor
/- limit.Steps. Conditions: as each lemma names. -/
namespace Go.Proofs.YtdpijhnbhopnbaaGreatDoor
set_option linter.unusedVariables false
set_option linter.unusedSimpArgs false
open Go.RowKit

def cutsOf (t : List Nd) (fe : Int) : List Int := (t.filter fun n => n.f == fe).map Nd.c
def stepC (t : List Nd) (fe : Int) : List Int := compactL (sortL (cutsOf t fe))
def valOf (t : List Nd) (r : List Int) : Int := valAt t (leafOf t r)
def stepV (t : List Nd) (row : List Int) (f : Nat) (cs : List Int) : List Int := valOf t (row.set f (-1000001)) :: cs.map fun c => valOf t (row.set f c)
def stepsE (t : List Nd) (row : List Int) (fe : Int) : Int := if readyE t row = 0 then (if fe < 0 then 1 else if (row.length : Int) ≤ fe then 1 else 0) else readyE t row
theorem cutsOf_len (t : List Nd) (fe : Int) : (cutsOf t fe).length ≤ t.length := by unfold cutsOf; rw [List.length_map]; exact List.length_filter_le _ _
theorem cuts_hit {t : List Nd} {fe : Int} {k : Nat} {n : Nd} (h : t[k]? = some n) (hf : n.f = fe) : cutsOf (t.take (k + 1)) fe = cutsOf (t.take k) fe ++ [n.c] := by
  unfold cutsOf; rw [take_next h, List.filter_append, List.map_append]; simp [hf]
theorem cuts_miss {t : List Nd} {fe : Int} {k : Nat} {n : Nd} (h : t[k]? = some n) (hf : n.f ≠ fe) : cutsOf (t.take (k + 1)) fe = cutsOf (t.take k) fe := by
  unfold cutsOf; rw [take_next h, List.filter_append, List.map_append]; simp [hf]
/-- a row of ints of which one cell is written -/
theorem IReads.stored {w : World} {B n g o k : Nat} {l : List Int} (h : IReads w B (some ⟨g, o, none⟩) n l) (hk : k < n) (x : Int) : IReads (w.setCell ⟨g, o + k, none⟩ (.int .i64 x)) B (some ⟨g, o, none⟩) n (l.set k x) := by
  have hl := h.len
  obtain ⟨_, _, e, hb, hc⟩ := Reads.spot h (by omega) (by omega)
  cases e
  refine ⟨by simp [hl], fun _ => ⟨_, rfl, hb, fun j u hu => ?_⟩⟩
  have hj : j < n := by
    have := (List.getElem?_eq_some_iff.1 hu).1
    simpa [hl] using this
  have hadd : (⟨g, o, none⟩ : Addr).add j = ⟨g, o + j, none⟩ := by
    unfold Addr.add
    split
    · rename_i e; rw [e]; rfl
    · rfl
  rw [hadd]
  rw [List.getElem?_map, List.getElem?_set] at hu
  by_cases he : k = j
  · subst he
    rw [if_pos rfl, if_pos (by omega)] at hu
    have : Value.int .i64 x = u := by simpa using hu
    subst this
    obtain ⟨b, o', y, e2, _, _, hcy⟩ := h.get hk
    cases e2
    exact World.cell?_setCell_same' _ _ _ (by rw [hcy]; rfl)
  · rw [if_neg he] at hu
    rw [World.cell?_setCell_other _ _ _ _ (by intro e; injection e; omega)]
    exact hc j u (by rw [List.getElem?_map]; exact hu)

def StepsPost (t : List Nd) (row : List Int) (fe : Int) (w : World) (e : Ending) (w' : World) : Prop :=
  ∃ A1 n1 c1 A2 n2 c2 C V, e = .returned (.tuple #[.slice A1 n1 c1, .slice A2 n2 c2, errV (stepsE t row fe)]) ∧ IReads w' w'.heap.size A1 n1 C ∧ IReads w' w'.heap.size A2 n2 V ∧
    (stepsE t row fe = 0 → C = stepC t fe ∧ V = stepV t row fe.toNat (stepC t fe)) ∧ (stepsE t row fe ≠ 0 → n1 = 0 ∧ n2 = 0) ∧ Below w.heap.size w w'
theorem StepsPost.fault {t : List Nd} {row : List Int} {fe : Int} {w w' : World} (h : stepsE t row fe ≠ 0) (hb : Below w.heap.size w w') : StepsPost t row fe w (.returned (.tuple #[.slice none 0 0, .slice none 0 0, errV (stepsE t row fe)])) w' :=
  ⟨none, 0, 0, none, 0, 0, [], [], rfl, IReads.nil_, IReads.nil_, fun h' => absurd h' h, fun _ => ⟨rfl, rfl⟩, hb⟩

end Go.Proofs.YtdpijhnbhopnbaaGreatDoor
