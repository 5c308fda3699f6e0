/- Part 20 of what LawBoostTells needs: GrowRef2, RefFix. Conditions: as each lemma names. -/
import Derived.Test.YtdpijhnbhopnbaaGreatDoorPkBoostTells19
import Derived.Test.YtdpijhnbhopnbaaGreatDoorPkBoostTells15
/- What the document says of samples: Split. Conditions: samples that read as data and are right. -/
namespace Go.Proofs.YtdpijhnbhopnbaaGreatDoor
set_option linter.unusedVariables false
set_option linter.unusedSimpArgs false
open Go.RowKit

theorem MReads.drewN {w : World} {B n : Nat} {A : Option Addr} {ss : List Sm} (h : MReads w B A n ss) (q : Nat) : MReads (w.drewN q) B A n ss := ⟨h.1.drewN q, fun s hs => ⟨(h.2 s hs).reads.drewN q, (h.2 s hs).len⟩⟩
/-- bounds of what is put right -/
def Bd (b : Bs) : Prop := 0 < b.dn ∧ b.dn ≤ 900 ∧ 0 ≤ b.up ∧ b.up ≤ 1000000000000 ∧ -1 ≤ b.f
theorem Bd.start {ss : List Sm} {n : Nat} (hs : SRight ss n) : Bd (startB ss) := by
  obtain ⟨a, b, c, d, e, _⟩ := BsOk.start (least := 1) hs
  exact ⟨a, b, c, d, e⟩
theorem Bd.at_ {ss : List Sm} {n least f : Nat} {c : Int} (hs : SRight ss n) (hl : 1 ≤ least) (h : OkC ss least f c) : Bd (atC ss f c) := by
  have hp := parts_len f c ss
  have hm := hs.most
  have hu := upOf_le (a := lowS f c ss) (b := highS f c ss) (by omega) (fun s h => hs.tlo s (lowS_mem h).1) (fun s h => hs.thi s (lowS_mem h).1) (fun s h => hs.tlo s (highS_mem h).1) (fun s h => hs.thi s (highS_mem h).1)
  exact ⟨h.dn hl, prod_900 (by omega), hu.1, hu.2, by show (-1 : Int) ≤ (f : Int); omega⟩
theorem Bd.rstep {ss : List Sm} {n least f : Nat} {st : Bs} (hs : SRight ss n) (hl : 1 ≤ least) (h : Bd st) (s : Sm) : Bd (rstepB ss least f st s) := by
  unfold rstepB
  split
  · exact h
  split
  · exact h
  · have ho : OkC ss least f (cellS f s) := ⟨by omega, by omega⟩
    split
    · exact Bd.at_ hs hl ho
    split
    · exact Bd.at_ hs hl ho
    · exact h
theorem rbestF_next {ss : List Sm} {least f k : Nat} {s : Sm} {st : Bs} (h : ss[k]? = some s) : (ss.take (k + 1)).foldl (rstepB ss least f) st = rstepB ss least f ((ss.take k).foldl (rstepB ss least f) st) s := by
  rw [take_next h, List.foldl_append]; rfl
theorem rrange_next (ss : List Sm) (least k : Nat) (st : Bs) : (List.range (k + 1)).foldl (rbestF ss least) st = rbestF ss least ((List.range k).foldl (rbestF ss least) st) k := by
  rw [List.range_succ, List.foldl_append]; rfl
theorem sum_next0 {ss : List Sm} {k : Nat} {s : Sm} (h : ss[k]? = some s) : sumM (ss.take (k + 1)) = sumM (ss.take k) + s.t := sumM_next h
def ftB (b : Bs) : Int := if 0 ≤ b.f then b.f else 0
def fdB (b : Bs) : Bool := decide (0 ≤ b.f)
theorem ftB_some {b : Bs} (h : 0 ≤ b.f) : ftB b = b.f := if_pos h
theorem fdB_some {b : Bs} (h : 0 ≤ b.f) : fdB b = true := decide_eq_true h
theorem fdB_none {b : Bs} (h : ¬ 0 ≤ b.f) : fdB b = false := decide_eq_false h
def RSplitPost (ss : List Sm) (n least : Nat) (w : World) (e : Ending) (w' : World) : Prop :=
  e = .returned (.tuple #[.int .i64 (ftB (bestB ss n least)), .int .i64 (bestB ss n least).c, .bool (fdB (bestB ss n least))]) ∧ ∃ q, w' = w.drewN q

set_option maxRecDepth 100000 in
set_option maxHeartbeats 8000000 in
theorem rsplit_any (A : Option Addr) (m c n least : Nat) (ss : List Sm) (w : World) (h : MReads w w.heap.size A m ss) (hs : SRight ss n) (hl : 1 ≤ least) (hl2 : least ≤ 60) :
    Calls Tryz.prog 35 #[.slice A m c, .int .i64 n, .int .i64 least] w (RSplitPost ss n least w) := by
  have hlen := h.len
  have hm60 : m ≤ 60 := by have := hs.most; omega
  have hm1 : 1 ≤ m := by have := hs.pos; omega
  have hn8 := hs.fe8
  have HS := hide (fun (b : Bool) (f : Nat) (q : Int) (hf : f < n) (p : Nat) => rsumM_any b A m c f q ss (w.drewN p) (h.drewN p) hm60 hs.tlo hs.thi (fun s hsm => by rw [hs.len s hsm]; exact hf))
  have HSR := hide hs
  have HSB : Hid (∀ k, -60000 ≤ sumM (ss.take k) ∧ sumM (ss.take k) ≤ 60000) := hide fun k => sum_60 (by rw [List.length_take]; omega) (fun s hsm => hs.tlo s (List.mem_of_mem_take hsm)) (fun s hsm => hs.thi s (List.mem_of_mem_take hsm))
  have HST : Hid ((startB ss).f = -1 ∧ (startB ss).c = 0 ∧ (startB ss).up = sumM ss * sumM ss ∧ (startB ss).dn = m ∧ Bd (startB ss)) := hide ⟨rfl, rfl, rfl, by show (ss.length : Int) = m; omega, Bd.start hs⟩
  have HEND : Hid ((List.range n).foldl (rbestF ss least) (startB ss) = bestB ss n least) := hide (rbestB_eq hs hl n (Nat.le_refl _)).1
  have HL := hide hlen
  clear hlen hs
  go_enter Tryz.func35, Tryz.ntmps35
  go_wp2_with fail
  go_loopw [9, 10] (fun s i wr => ∃ k p : Nat, k ≤ m ∧ s = .int .i64 (sumM (ss.take k)) ∧ i = .int .i64 k ∧ wr = w.drewN p) (fun _ i _ => m - (intOf i).toNat)
  case atStart => exact ⟨0, 0, Nat.zero_le _, rfl, rfl, rfl⟩
  case round =>
    obtain ⟨k, p, hk, rfl, rfl, rfl⟩ := hrel
    by_cases hlt : k < m
    · obtain ⟨bb, o, s, rfl, _, hx, c0, c1, hok⟩ := h.get hlt
      have HN := hide (sumM_next hx)
      have t1 := (unhide HSR).tlo s (List.mem_of_getElem? hx)
      have t2 := (unhide HSR).thi s (List.mem_of_getElem? hx)
      obtain ⟨b1, b2⟩ := unhide HSB k
      obtain ⟨S, hS⟩ : ∃ S, S = sumM (ss.take k) := ⟨_, rfl⟩
      rw [← hS] at b1 b2 HN ⊢
      obtain ⟨sA, sn, sc, sr, st⟩ := s
      dsimp only at c0 c1 HN t1 t2
      clear hx hok hS
      go_wp2_with fail
      go_roundw
      case rel => exact ⟨k + 1, p, by omega, by rw [unhide HN], by go_num, rfl⟩
      case measure => simp [intOf]; omega
    · obtain rfl : k = m := by omega
      rw [List.take_of_length_le (by rw [unhide HL]; exact Nat.le_refl _)]
      have hsum := unhide HSB k
      rw [List.take_of_length_le (by rw [unhide HL]; exact Nat.le_refl _)] at hsum
      have hsq := sq_le (a := sumM ss) (m := 60000) (by omega) (by omega)
      obtain ⟨S, hS⟩ : ∃ S, S = sumM ss := ⟨_, rfl⟩
      rw [← hS] at hsum hsq HST ⊢
      clear hS HSB
      go_wp2_with fail
      go_loopw [11, 12, 13, 14, 15, 16] (fun s11 s12 s13 s14 s15 i wr => ∃ j p : Nat, j ≤ n ∧ i = .int .i64 j ∧ wr = w.drewN p ∧ ∃ b : Bs, Hid (b = (List.range j).foldl (rbestF ss least) (startB ss)) ∧ Hid (Bd b) ∧ s11 = .int .i64 b.up ∧ s12 = .int .i64 b.dn ∧ s13 = .int .i64 (ftB b) ∧ s14 = .int .i64 b.c ∧ s15 = .bool (fdB b)) (fun _ _ _ _ _ i _ => n - (intOf i).toNat)
      case atStart =>
        obtain ⟨h1, h2, h3, h4, h5⟩ := unhide HST
        exact ⟨0, p, Nat.zero_le _, rfl, rfl, startB ss, hide rfl, hide h5, by rw [h3], by rw [h4], by unfold ftB; rw [h1]; rfl, by rw [h2], by unfold fdB; rw [h1]; rfl⟩
      case round =>
        clear HST hsum hsq
        obtain ⟨j, p, hj, rfl, rfl, b, HBj, HBd, rfl, rfl, rfl, rfl, rfl⟩ := hrel
        by_cases hlj : j < n
        · obtain ⟨bo, hbo⟩ : ∃ x, x = b := ⟨_, rfl⟩
          have HBo : Hid (bo = (List.range j).foldl (rbestF ss least) (startB ss)) := hide (by rw [hbo]; exact unhide HBj)
          have HB0 : Hid (b = (ss.take 0).foldl (rstepB ss least j) bo) := hide (by rw [hbo]; rfl)
          clear hbo HBj
          go_wp2_with fail
          go_loopw [11, 12, 13, 14, 15, 17] (fun s11 s12 s13 s14 s15 i wr => ∃ i' p : Nat, i' ≤ k ∧ i = .int .i64 i' ∧ wr = w.drewN p ∧ ∃ b : Bs, Hid (b = (ss.take i').foldl (rstepB ss least j) bo) ∧ Hid (Bd b) ∧ s11 = .int .i64 b.up ∧ s12 = .int .i64 b.dn ∧ s13 = .int .i64 (ftB b) ∧ s14 = .int .i64 b.c ∧ s15 = .bool (fdB b)) (fun _ _ _ _ _ i _ => k - (intOf i).toNat)
          case atStart => exact ⟨0, p, Nat.zero_le _, rfl, rfl, b, HB0, HBd, rfl, rfl, rfl, rfl, rfl⟩
          case round =>
            clear HB0 HBd
            obtain ⟨i, p, hi, rfl, rfl, b, HBi, HBd, rfl, rfl, rfl, rfl, rfl⟩ := hrel
            by_cases hli : i < k
            · obtain ⟨bb, o, s, rfl, _, hx, c0, c1, hok⟩ := h.get hli
              have HNi := hide (rbestF_next (least := least) (f := j) (st := bo) hx)
              rw [← unhide HBi] at HNi
              have HBN : Hid (Bd (rstepB ss least j b s)) := hide ((unhide HBd).rstep (unhide HSR) hl s)
              have hrl := (unhide HSR).len s (List.mem_of_getElem? hx)
              have hrd := hok.reads
              have hl1 : s.n ≤ maxLen := hok.len
              obtain ⟨sA, sn, sc, sr, st⟩ := s
              dsimp only at c0 c1 hrl hrd hl1
              unfold maxLen at hl1
              obtain rfl : sn = n := by rw [← hrd.len, hrl]
              obtain ⟨rb, ro, y, rfl, hrb, hrx, cry⟩ := hrd.get hlj
              have HX : Hid (cellS j ⟨some ⟨rb, ro, none⟩, sn, sc, sr, st⟩ = y) := hide (by unfold cellS; rw [List.getD_eq_getElem?_getD, hrx]; rfl)
              have HST : Hid (rstepB ss least j b ⟨some ⟨rb, ro, none⟩, sn, sc, sr, st⟩ = if (lowS j y ss).length < least then b else if (highS j y ss).length < least then b else if b.up * dnC ss j y < upC ss j y * b.dn then atC ss j y else if 0 ≤ b.f ∧ upC ss j y * b.dn = b.up * dnC ss j y ∧ b.f = j ∧ y < b.c then atC ss j y else b) := hide (by unfold rstepB; rw [unhide HX])
              have HBN2 : Hid (∀ b', rstepB ss least j b ⟨some ⟨rb, ro, none⟩, sn, sc, sr, st⟩ = b' → Bd b') := hide (fun b' e => by rw [← e]; exact unhide HBN)
              have hT := hide (fun (q : Nat) => unhide HS true j y hlj q)
              have hF := hide (fun (q : Nat) => unhide HS false j y hlj q)
              have hpl := parts_len j y ss
              rw [unhide HL] at hpl
              obtain ⟨e1, e2, e3, e4, e5⟩ := unhide HBd
              have HAt : Hid (atC ss j y = ⟨j, y, upC ss j y, dnC ss j y⟩) := hide rfl
              have HU := hide (upOf_le (a := lowS j y ss) (b := highS j y ss) (by omega) (fun s h => (unhide HSR).tlo s (lowS_mem h).1) (fun s h => (unhide HSR).thi s (lowS_mem h).1) (fun s h => (unhide HSR).tlo s (highS_mem h).1) (fun s h => (unhide HSR).thi s (highS_mem h).1))
              have hsa := sum_60 (ss := lowS j y ss) (by omega) (fun s h => (unhide HSR).tlo s (lowS_mem h).1) (fun s h => (unhide HSR).thi s (lowS_mem h).1)
              have hsb := sum_60 (ss := highS j y ss) (by omega) (fun s h => (unhide HSR).tlo s (highS_mem h).1) (fun s h => (unhide HSR).thi s (highS_mem h).1)
              have hup : upC ss j y = sumM (lowS j y ss) * sumM (lowS j y ss) * ((highS j y ss).length : Int) + sumM (highS j y ss) * sumM (highS j y ss) * ((lowS j y ss).length : Int) := rfl
              have hdn : dnC ss j y = ((lowS j y ss).length : Int) * ((highS j y ss).length : Int) := rfl
              have hu := unhide HU
              rw [show upOf (lowS j y ss) (highS j y ss) = upC ss j y from rfl, hup] at hu
              rw [hup, hdn] at HST HAt
              unfold selS at hT hF
              rw [if_pos rfl] at hT
              rw [if_neg (by simp)] at hF
              obtain ⟨sa, hsae⟩ : ∃ x, x = sumM (lowS j y ss) := ⟨_, rfl⟩
              obtain ⟨sb, hsbe⟩ : ∃ x, x = sumM (highS j y ss) := ⟨_, rfl⟩
              obtain ⟨la, hla⟩ : ∃ x, x = (lowS j y ss).length := ⟨_, rfl⟩
              obtain ⟨lb, hlb⟩ : ∃ x, x = (highS j y ss).length := ⟨_, rfl⟩
              rw [← hsae, ← hsbe, ← hla, ← hlb] at HST HAt hu
              rw [← hsae, ← hla] at hT
              rw [← hsbe, ← hlb] at hF
              rw [← hsae] at hsa
              rw [← hsbe] at hsb
              rw [← hla, ← hlb] at hpl
              obtain ⟨b6, b7, b8, b9⟩ := b
              dsimp only at e1 e2 e3 e4 e5 HST
              have g1 := sq_le (a := sa) (m := 60000) (by omega) (by omega)
              have g2 := sq_le (a := sb) (m := 60000) (by omega) (by omega)
              have g3 : 0 ≤ sa * sa * (lb : Int) := Int.mul_nonneg g1.1 (by omega)
              have g4 : 0 ≤ sb * sb * (la : Int) := Int.mul_nonneg g2.1 (by omega)
              have g5 : (la : Int) * lb ≤ 900 := prod_900 (by omega)
              have g6 : 0 ≤ (la : Int) * lb := Int.mul_nonneg (by omega) (by omega)
              have g7 : 0 ≤ b8 * ((la : Int) * lb) := Int.mul_nonneg e3 (by omega)
              have g8 : b8 * ((la : Int) * lb) ≤ 1000000000000 * 900 := Int.mul_le_mul e4 g5 (by omega) (by omega)
              have g9 : 0 ≤ (sa * sa * (lb : Int) + sb * sb * (la : Int)) * b9 := Int.mul_nonneg hu.1 (by omega)
              have g10 : (sa * sa * (lb : Int) + sb * sb * (la : Int)) * b9 ≤ 1000000000000 * 900 := Int.mul_le_mul hu.2 e2 (by omega) (by omega)
              have hg1 := g1.1
              have hg1' := g1.2
              have hg2 := g2.1
              have hg2' := g2.2
              have hu1 := hu.2
              have hla60 : la ≤ 60 := by omega
              have hlb60 : lb ≤ 60 := by omega
              have HG := hide (And.intro g3 (And.intro g4 (And.intro g5 (And.intro g6 (And.intro g7 (And.intro g8 (And.intro g9 g10)))))))
              clear hx hok hrl hrd hrx hup hdn HU hsae hsbe hla hlb g1 g2 hu HX HBi HBN
              obtain ⟨ft, hft⟩ : ∃ x, x = ftB ⟨b6, b7, b8, b9⟩ := ⟨_, rfl⟩
              obtain ⟨fd, hfd⟩ : ∃ x, x = fdB ⟨b6, b7, b8, b9⟩ := ⟨_, rfl⟩
              rw [← hft, ← hfd]
              have HFT := hide hft
              have HFD := hide hfd
              clear hft hfd
              by_cases q1 : la < least
              · have d1 : decide (la < least) = true := decide_eq_true q1
                have d1' : decide ((la : Int) < (least : Int)) = true := decide_eq_true (by omega)
                have HR : Hid ((ss.take (i + 1)).foldl (rstepB ss least j) bo = ⟨b6, b7, b8, b9⟩) := hide (by rw [unhide HNi, unhide HST, if_pos q1])
                clear HNi HST HG HAt HBN2 q1 e1 e2 e3 e4 e5 hu1 hg1 hg1' hg2 hg2'
                go_wp2_with fail
                refine (unhide hT p).mono ?_
                rintro e w5 ⟨rfl, p5, rfl⟩
                rw [World.drewN_drewN]
                go_wp2_with fail
                refine (unhide hF (p + p5)).mono ?_
                rintro e w6 ⟨rfl, p6, rfl⟩
                rw [World.drewN_drewN]
                clear hT hF
                go_wp2_with fail
                go_roundw
                case rel => exact ⟨i + 1, p + p5 + p6, by omega, by go_num, rfl, ⟨b6, b7, b8, b9⟩, hide (unhide HR).symm, HBd, rfl, rfl, by rw [unhide HFT], rfl, by rw [unhide HFD]⟩
                case measure => simp [intOf] <;> omega
              have d1 : decide (la < least) = false := decide_eq_false q1
              have d1' : decide ((la : Int) < (least : Int)) = false := decide_eq_false (by omega)
              by_cases q2 : lb < least
              · have d2 : decide (lb < least) = true := decide_eq_true q2
                have d2' : decide ((lb : Int) < (least : Int)) = true := decide_eq_true (by omega)
                have HR : Hid ((ss.take (i + 1)).foldl (rstepB ss least j) bo = ⟨b6, b7, b8, b9⟩) := hide (by rw [unhide HNi, unhide HST, if_neg q1, if_pos q2])
                clear HNi HST HG HAt HBN2 q1 q2 e1 e2 e3 e4 e5 hu1 hg1 hg1' hg2 hg2'
                go_wp2_with fail
                refine (unhide hT p).mono ?_
                rintro e w5 ⟨rfl, p5, rfl⟩
                rw [World.drewN_drewN]
                go_wp2_with fail
                refine (unhide hF (p + p5)).mono ?_
                rintro e w6 ⟨rfl, p6, rfl⟩
                rw [World.drewN_drewN]
                clear hT hF
                go_wp2_with fail
                go_roundw
                case rel => exact ⟨i + 1, p + p5 + p6, by omega, by go_num, rfl, ⟨b6, b7, b8, b9⟩, hide (unhide HR).symm, HBd, rfl, rfl, by rw [unhide HFT], rfl, by rw [unhide HFD]⟩
                case measure => simp [intOf] <;> omega
              have d2 : decide (lb < least) = false := decide_eq_false q2
              have d2' : decide ((lb : Int) < (least : Int)) = false := decide_eq_false (by omega)
              have d0 : ((la : Int) == 0) = false := by simp; omega
              obtain ⟨g3, g4, g5, g6, g7, g8, g9, g10⟩ := unhide HG
              rw [unhide HAt] at HST
              rw [if_neg q1, if_neg q2] at HST
              clear HG HAt q1 q2 e5
              by_cases q3 : b8 * ((la : Int) * lb) < (sa * sa * (lb : Int) + sb * sb * (la : Int)) * b9
              · have d3 : decide (b8 * ((la : Int) * lb) < (sa * sa * (lb : Int) + sb * sb * (la : Int)) * b9) = true := decide_eq_true q3
                have HRR : Hid (rstepB ss least j ⟨b6, b7, b8, b9⟩ ⟨some ⟨rb, ro, none⟩, sn, sc, sr, st⟩ = ⟨j, y, (sa * sa * (lb : Int) + sb * sb * (la : Int)), ((la : Int) * lb)⟩) := hide (by rw [unhide HST, if_pos q3])
                have HR : Hid ((ss.take (i + 1)).foldl (rstepB ss least j) bo = ⟨j, y, (sa * sa * (lb : Int) + sb * sb * (la : Int)), ((la : Int) * lb)⟩) := hide (by rw [unhide HNi, unhide HRR])
                clear HNi HST q3
                go_wp2_with fail
                refine (unhide hT p).mono ?_
                rintro e w5 ⟨rfl, p5, rfl⟩
                rw [World.drewN_drewN]
                go_wp2_with fail
                refine (unhide hF (p + p5)).mono ?_
                rintro e w6 ⟨rfl, p6, rfl⟩
                rw [World.drewN_drewN]
                clear hT hF
                go_wp2_with fail
                go_roundw
                case rel => exact ⟨i + 1, p + p5 + p6, by omega, by go_num, rfl, ⟨j, y, (sa * sa * (lb : Int) + sb * sb * (la : Int)), ((la : Int) * lb)⟩, hide (unhide HR).symm, hide (unhide HBN2 _ (unhide HRR)), rfl, rfl, by rw [ftB_some (by dsimp only; omega)], rfl, by rw [fdB_some (by dsimp only; omega)]⟩
                case measure => simp [intOf] <;> omega
              have d3 : decide (b8 * ((la : Int) * lb) < (sa * sa * (lb : Int) + sb * sb * (la : Int)) * b9) = false := decide_eq_false q3
              rw [if_neg q3] at HST
              clear q3
              by_cases q4 : 0 ≤ b6
              case neg =>
                have hfd : fd = false := by rw [unhide HFD]; exact fdB_none q4
                have HR : Hid ((ss.take (i + 1)).foldl (rstepB ss least j) bo = ⟨b6, b7, b8, b9⟩) := hide (by rw [unhide HNi, unhide HST, if_neg (fun e => q4 e.1)])
                have HFD2 : Hid (fdB ⟨b6, b7, b8, b9⟩ = false) := hide (fdB_none q4)
                subst hfd
                clear HNi HST HBN2 q4
                go_wp2_with fail
                refine (unhide hT p).mono ?_
                rintro e w5 ⟨rfl, p5, rfl⟩
                rw [World.drewN_drewN]
                go_wp2_with fail
                refine (unhide hF (p + p5)).mono ?_
                rintro e w6 ⟨rfl, p6, rfl⟩
                rw [World.drewN_drewN]
                clear hT hF
                go_wp2_with fail
                go_roundw
                case rel => exact ⟨i + 1, p + p5 + p6, by omega, by go_num, rfl, ⟨b6, b7, b8, b9⟩, hide (unhide HR).symm, HBd, rfl, rfl, by rw [unhide HFT], rfl, by rw [unhide HFD2]⟩
                case measure => simp [intOf] <;> omega
              have hfd : fd = true := by rw [unhide HFD]; exact fdB_some q4
              have hft : ft = b6 := by rw [unhide HFT]; exact ftB_some q4
              have HFD2 : Hid (fdB ⟨b6, b7, b8, b9⟩ = true) := hide (fdB_some q4)
              have HFT2 : Hid (ftB ⟨b6, b7, b8, b9⟩ = b6) := hide (ftB_some q4)
              subst hfd hft
              clear HFT HFD
              by_cases q5 : (sa * sa * (lb : Int) + sb * sb * (la : Int)) * b9 = b8 * ((la : Int) * lb)
              case neg =>
                have d5 : ((sa * sa * (lb : Int) + sb * sb * (la : Int)) * b9 == b8 * ((la : Int) * lb)) = false := by simpa using q5
                have HR : Hid ((ss.take (i + 1)).foldl (rstepB ss least j) bo = ⟨ft, b7, b8, b9⟩) := hide (by rw [unhide HNi, unhide HST, if_neg (fun e => q5 e.2.1)])
                clear HNi HST HBN2 q4 q5
                go_wp2_with fail
                refine (unhide hT p).mono ?_
                rintro e w5 ⟨rfl, p5, rfl⟩
                rw [World.drewN_drewN]
                go_wp2_with fail
                refine (unhide hF (p + p5)).mono ?_
                rintro e w6 ⟨rfl, p6, rfl⟩
                rw [World.drewN_drewN]
                clear hT hF
                go_wp2_with fail
                go_roundw
                case rel => exact ⟨i + 1, p + p5 + p6, by omega, by go_num, rfl, ⟨ft, b7, b8, b9⟩, hide (unhide HR).symm, HBd, rfl, rfl, by rw [unhide HFT2], rfl, by rw [unhide HFD2]⟩
                case measure => simp [intOf] <;> omega
              have d5 : ((sa * sa * (lb : Int) + sb * sb * (la : Int)) * b9 == b8 * ((la : Int) * lb)) = true := by simpa using q5
              by_cases q6 : ft = (j : Int)
              case neg =>
                have d6 : ((j : Int) == ft) = false := by simp; omega
                have HR : Hid ((ss.take (i + 1)).foldl (rstepB ss least j) bo = ⟨ft, b7, b8, b9⟩) := hide (by rw [unhide HNi, unhide HST, if_neg (fun e => q6 e.2.2.1)])
                clear HNi HST HBN2 q4 q5 q6
                go_wp2_with fail
                refine (unhide hT p).mono ?_
                rintro e w5 ⟨rfl, p5, rfl⟩
                rw [World.drewN_drewN]
                go_wp2_with fail
                refine (unhide hF (p + p5)).mono ?_
                rintro e w6 ⟨rfl, p6, rfl⟩
                rw [World.drewN_drewN]
                clear hT hF
                go_wp2_with fail
                go_roundw
                case rel => exact ⟨i + 1, p + p5 + p6, by omega, by go_num, rfl, ⟨ft, b7, b8, b9⟩, hide (unhide HR).symm, HBd, rfl, rfl, by rw [unhide HFT2], rfl, by rw [unhide HFD2]⟩
                case measure => simp [intOf] <;> omega
              have d6 : ((j : Int) == ft) = true := by simp; omega
              by_cases q7 : y < b7
              · have d7 : decide (y < b7) = true := decide_eq_true q7
                have HRR : Hid (rstepB ss least j ⟨ft, b7, b8, b9⟩ ⟨some ⟨rb, ro, none⟩, sn, sc, sr, st⟩ = ⟨j, y, (sa * sa * (lb : Int) + sb * sb * (la : Int)), ((la : Int) * lb)⟩) := hide (by rw [unhide HST, if_pos ⟨q4, q5, q6, q7⟩])
                have HR : Hid ((ss.take (i + 1)).foldl (rstepB ss least j) bo = ⟨j, y, (sa * sa * (lb : Int) + sb * sb * (la : Int)), ((la : Int) * lb)⟩) := hide (by rw [unhide HNi, unhide HRR])
                clear HNi HST q4 q5 q6 q7
                go_wp2_with fail
                refine (unhide hT p).mono ?_
                rintro e w5 ⟨rfl, p5, rfl⟩
                rw [World.drewN_drewN]
                go_wp2_with fail
                refine (unhide hF (p + p5)).mono ?_
                rintro e w6 ⟨rfl, p6, rfl⟩
                rw [World.drewN_drewN]
                clear hT hF
                go_wp2_with fail
                go_roundw
                case rel => exact ⟨i + 1, p + p5 + p6, by omega, by go_num, rfl, ⟨j, y, (sa * sa * (lb : Int) + sb * sb * (la : Int)), ((la : Int) * lb)⟩, hide (unhide HR).symm, hide (unhide HBN2 _ (unhide HRR)), rfl, rfl, by rw [ftB_some (by dsimp only; omega)], rfl, by rw [fdB_some (by dsimp only; omega)]⟩
                case measure => simp [intOf] <;> omega
              · have d7 : decide (y < b7) = false := decide_eq_false q7
                have HR : Hid ((ss.take (i + 1)).foldl (rstepB ss least j) bo = ⟨ft, b7, b8, b9⟩) := hide (by rw [unhide HNi, unhide HST, if_neg (fun e => q7 e.2.2.2)])
                clear HNi HST HBN2 q4 q5 q6 q7
                go_wp2_with fail
                refine (unhide hT p).mono ?_
                rintro e w5 ⟨rfl, p5, rfl⟩
                rw [World.drewN_drewN]
                go_wp2_with fail
                refine (unhide hF (p + p5)).mono ?_
                rintro e w6 ⟨rfl, p6, rfl⟩
                rw [World.drewN_drewN]
                clear hT hF
                go_wp2_with fail
                go_roundw
                case rel => exact ⟨i + 1, p + p5 + p6, by omega, by go_num, rfl, ⟨ft, b7, b8, b9⟩, hide (unhide HR).symm, HBd, rfl, rfl, by rw [unhide HFT2], rfl, by rw [unhide HFD2]⟩
                case measure => simp [intOf] <;> omega
            · have hii : i = k := by omega
              have HZ : Hid (b = (List.range (j + 1)).foldl (rbestF ss least) (startB ss)) := hide (by
                rw [rrange_next, ← unhide HBo, unhide HBi, hii]
                unfold rbestF
                rw [List.take_of_length_le (by rw [unhide HL]; exact Nat.le_refl _)])
              clear HBo HBi
              go_wp2_with fail
              go_roundw
              case rel => exact ⟨j + 1, p, by omega, by go_num, rfl, b, HZ, HBd, rfl, rfl, rfl, rfl, rfl⟩
              case measure => simp [intOf] <;> omega
        · obtain rfl : j = n := by omega
          go_wp2_with fail
          go_ret3
          unfold RSplitPost
          rw [← unhide HEND, ← unhide HBj]
          exact ⟨rfl, p, rfl⟩
end Go.Proofs.YtdpijhnbhopnbaaGreatDoor
/- Chapter 1 in the references: Fit, Add, Mul, Floor, Round, Total, firsts, Sorted, Mean, Median. Conditions: as each lemma names. -/
namespace Go.Proofs.YtdpijhnbhopnbaaGreatDoor
set_option linter.unusedVariables false
set_option linter.unusedSimpArgs false
open Go.RowKit

theorem rfit_any (n : Int) (w : World) : Calls Tryz.prog 50 #[.int .i64 n] w fun e w' => e = .returned (.int .i64 (fitV n)) ∧ w = w' := by
  go_enter Tryz.func50, Tryz.ntmps50
  go_wp2 <;> (go_ret; exact ⟨ret_int (by unfold fitV; omega), rfl⟩)
theorem radd_any (a b : Int) (w : World) : Calls Tryz.prog 51 #[.int .i64 a, .int .i64 b] w fun e w' => e = .returned (.int .i64 (addV a b)) ∧ w = w' := by
  have ha := fitV_le a
  have hb := fitV_le b
  go_enter Tryz.func51, Tryz.ntmps51
  go_wp2_with fail
  refine (rfit_any _ _).mono ?_; rintro e w1 ⟨rfl, rfl⟩
  go_wp2_with fail
  refine (rfit_any _ _).mono ?_; rintro e w1 ⟨rfl, rfl⟩
  go_wp2_with fail
  refine (rfit_any _ _).mono ?_; rintro e w1 ⟨rfl, rfl⟩
  go_wp2_with fail
  go_ret
  exact ⟨rfl, rfl⟩

theorem rmul_any (a b : Int) (w : World) : Calls Tryz.prog 29 #[.int .i64 a, .int .i64 b] w fun e w' => e = .returned (.int .i64 (mulV a b)) ∧ w = w' := by
  have hm : mulV a b = fitV (fitV a * fitV b) := rfl
  generalize hx : fitV a = x at *
  generalize hy : fitV b = y at *
  have hx1 := fitV_le a
  have hy1 := fitV_le b
  rw [hx] at hx1
  rw [hy] at hy1
  have HM := hide hm
  have HX := hide hx
  have HY := hide hy
  clear hm hx hy
  by_cases x0 : x = 0
  · have E : Hid (mulV a b = 0) := hide (mulV_zero (.inl (by rw [unhide HX, x0])))
    have b0 : (x == 0) = true := by simpa using x0
    clear x0
    go_enter Tryz.func29, Tryz.ntmps29
    go_wp2_with fail
    refine (rfit_any _ _).mono ?_; rintro e w1 ⟨rfl, rfl⟩; rw [unhide HX]
    go_wp2_with fail
    refine (rfit_any _ _).mono ?_; rintro e w1 ⟨rfl, rfl⟩; rw [unhide HY]
    go_wp2_with fail
    go_ret
    exact ⟨ret_int (unhide E).symm, rfl⟩
  by_cases y0 : y = 0
  · have E : Hid (mulV a b = 0) := hide (mulV_zero (.inr (by rw [unhide HY, y0])))
    have b0 : (x == 0) = false := by simpa using x0
    have b1 : (y == 0) = true := by simpa using y0
    clear y0
    go_enter Tryz.func29, Tryz.ntmps29
    go_wp2_with fail
    refine (rfit_any _ _).mono ?_; rintro e w1 ⟨rfl, rfl⟩; rw [unhide HX]
    go_wp2_with fail
    refine (rfit_any _ _).mono ?_; rintro e w1 ⟨rfl, rfl⟩; rw [unhide HY]
    go_wp2_with fail
    go_ret
    exact ⟨ret_int (unhide E).symm, rfl⟩
  have b0 : (x == 0) = false := by simpa using x0
  have b1 : (y == 0) = false := by simpa using y0
  by_cases hs : 0 < x ∧ 0 < y
  · obtain ⟨hs1, hs2⟩ := hs
    have p1 : 0 < x := by omega
    have p2 : 0 < y := by omega
    have d1 : decide (x < 0) = false := by simp; omega
    have d2 : decide (y < 0) = false := by simp; omega
    clear hs1 hs2 x0 y0
    by_cases hq : 1099511627776 / y < x
    · have E : Hid (mulV a b = 1099511627776) := hide (by
        have := (prod_gt (n := 1099511627776) (x := x) (y := y) (by omega) (by omega)).1 hq
        rw [unhide HM]; try simp only [Int.neg_mul, Int.mul_neg, Int.neg_neg]
        unfold fitV; omega)
      go_enter Tryz.func29, Tryz.ntmps29
      go_wp2_with fail
      refine (rfit_any _ _).mono ?_; rintro e w1 ⟨rfl, rfl⟩; rw [unhide HX]
      go_wp2_with fail
      refine (rfit_any _ _).mono ?_; rintro e w1 ⟨rfl, rfl⟩; rw [unhide HY]
      go_wp2_with fail
      go_ret
      exact ⟨ret_int (unhide E).symm, rfl⟩
    · have hp : x * y ≤ 1099511627776 := by
        have := (prod_gt (n := 1099511627776) (x := x) (y := y) (by omega) (by omega)).2
        exact Int.not_lt.1 fun h => hq (this h)
      have hp0 : 0 ≤ x * y := Int.mul_nonneg (by omega) (by omega)
      have E : Hid (mulV a b = x * y) := hide (by
        rw [unhide HM]; try simp only [Int.neg_mul, Int.mul_neg, Int.neg_neg]
        exact fitV_id (by omega) (by omega))
      go_enter Tryz.func29, Tryz.ntmps29
      go_wp2_with fail
      refine (rfit_any _ _).mono ?_; rintro e w1 ⟨rfl, rfl⟩; rw [unhide HX]
      go_wp2_with fail
      refine (rfit_any _ _).mono ?_; rintro e w1 ⟨rfl, rfl⟩; rw [unhide HY]
      go_wp2_with fail
      go_ret
      exact ⟨ret_int (unhide E).symm, rfl⟩
  by_cases hs : 0 < x ∧ y < 0
  · obtain ⟨hs1, hs2⟩ := hs
    obtain ⟨Y, rfl⟩ : ∃ Y, y = -Y := ⟨-y, by omega⟩
    have p1 : 0 < x := by omega
    have p2 : 0 < Y := by omega
    have d1 : decide (x < 0) = false := by simp; omega
    have d2 : decide ((-Y) < 0) = true := by simp; omega
    clear hs1 hs2 x0 y0
    by_cases hq : 1099511627776 / Y < x
    · have E : Hid (mulV a b = -1099511627776) := hide (by
        have := (prod_gt (n := 1099511627776) (x := x) (y := Y) (by omega) (by omega)).1 hq
        rw [unhide HM]; try simp only [Int.neg_mul, Int.mul_neg, Int.neg_neg]
        unfold fitV; omega)
      go_enter Tryz.func29, Tryz.ntmps29
      go_wp2_with fail
      refine (rfit_any _ _).mono ?_; rintro e w1 ⟨rfl, rfl⟩; rw [unhide HX]
      go_wp2_with fail
      refine (rfit_any _ _).mono ?_; rintro e w1 ⟨rfl, rfl⟩; rw [unhide HY]
      go_wp2_with fail
      go_ret
      exact ⟨ret_int (unhide E).symm, rfl⟩
    · have hp : x * Y ≤ 1099511627776 := by
        have := (prod_gt (n := 1099511627776) (x := x) (y := Y) (by omega) (by omega)).2
        exact Int.not_lt.1 fun h => hq (this h)
      have hp0 : 0 ≤ x * Y := Int.mul_nonneg (by omega) (by omega)
      have E : Hid (mulV a b = -(x * Y)) := hide (by
        rw [unhide HM]; try simp only [Int.neg_mul, Int.mul_neg, Int.neg_neg]
        exact fitV_id (by omega) (by omega))
      go_enter Tryz.func29, Tryz.ntmps29
      go_wp2_with fail
      refine (rfit_any _ _).mono ?_; rintro e w1 ⟨rfl, rfl⟩; rw [unhide HX]
      go_wp2_with fail
      refine (rfit_any _ _).mono ?_; rintro e w1 ⟨rfl, rfl⟩; rw [unhide HY]
      go_wp2_with fail
      go_ret
      exact ⟨ret_int (unhide E).symm, rfl⟩
  by_cases hs : x < 0 ∧ 0 < y
  · obtain ⟨hs1, hs2⟩ := hs
    obtain ⟨X, rfl⟩ : ∃ X, x = -X := ⟨-x, by omega⟩
    have p1 : 0 < X := by omega
    have p2 : 0 < y := by omega
    have d1 : decide ((-X) < 0) = true := by simp; omega
    have d2 : decide (y < 0) = false := by simp; omega
    clear hs1 hs2 x0 y0
    by_cases hq : 1099511627776 / y < X
    · have E : Hid (mulV a b = -1099511627776) := hide (by
        have := (prod_gt (n := 1099511627776) (x := X) (y := y) (by omega) (by omega)).1 hq
        rw [unhide HM]; try simp only [Int.neg_mul, Int.mul_neg, Int.neg_neg]
        unfold fitV; omega)
      go_enter Tryz.func29, Tryz.ntmps29
      go_wp2_with fail
      refine (rfit_any _ _).mono ?_; rintro e w1 ⟨rfl, rfl⟩; rw [unhide HX]
      go_wp2_with fail
      refine (rfit_any _ _).mono ?_; rintro e w1 ⟨rfl, rfl⟩; rw [unhide HY]
      go_wp2_with fail
      go_ret
      exact ⟨ret_int (unhide E).symm, rfl⟩
    · have hp : X * y ≤ 1099511627776 := by
        have := (prod_gt (n := 1099511627776) (x := X) (y := y) (by omega) (by omega)).2
        exact Int.not_lt.1 fun h => hq (this h)
      have hp0 : 0 ≤ X * y := Int.mul_nonneg (by omega) (by omega)
      have E : Hid (mulV a b = -(X * y)) := hide (by
        rw [unhide HM]; try simp only [Int.neg_mul, Int.mul_neg, Int.neg_neg]
        exact fitV_id (by omega) (by omega))
      go_enter Tryz.func29, Tryz.ntmps29
      go_wp2_with fail
      refine (rfit_any _ _).mono ?_; rintro e w1 ⟨rfl, rfl⟩; rw [unhide HX]
      go_wp2_with fail
      refine (rfit_any _ _).mono ?_; rintro e w1 ⟨rfl, rfl⟩; rw [unhide HY]
      go_wp2_with fail
      go_ret
      exact ⟨ret_int (unhide E).symm, rfl⟩
  by_cases hs : x < 0 ∧ y < 0
  · obtain ⟨hs1, hs2⟩ := hs
    obtain ⟨X, rfl⟩ : ∃ X, x = -X := ⟨-x, by omega⟩
    obtain ⟨Y, rfl⟩ : ∃ Y, y = -Y := ⟨-y, by omega⟩
    have p1 : 0 < X := by omega
    have p2 : 0 < Y := by omega
    have d1 : decide ((-X) < 0) = true := by simp; omega
    have d2 : decide ((-Y) < 0) = true := by simp; omega
    clear hs1 hs2 x0 y0
    by_cases hq : 1099511627776 / Y < X
    · have E : Hid (mulV a b = 1099511627776) := hide (by
        have := (prod_gt (n := 1099511627776) (x := X) (y := Y) (by omega) (by omega)).1 hq
        rw [unhide HM]; try simp only [Int.neg_mul, Int.mul_neg, Int.neg_neg]
        unfold fitV; omega)
      go_enter Tryz.func29, Tryz.ntmps29
      go_wp2_with fail
      refine (rfit_any _ _).mono ?_; rintro e w1 ⟨rfl, rfl⟩; rw [unhide HX]
      go_wp2_with fail
      refine (rfit_any _ _).mono ?_; rintro e w1 ⟨rfl, rfl⟩; rw [unhide HY]
      go_wp2_with fail
      go_ret
      exact ⟨ret_int (unhide E).symm, rfl⟩
    · have hp : X * Y ≤ 1099511627776 := by
        have := (prod_gt (n := 1099511627776) (x := X) (y := Y) (by omega) (by omega)).2
        exact Int.not_lt.1 fun h => hq (this h)
      have hp0 : 0 ≤ X * Y := Int.mul_nonneg (by omega) (by omega)
      have E : Hid (mulV a b = X * Y) := hide (by
        rw [unhide HM]; try simp only [Int.neg_mul, Int.mul_neg, Int.neg_neg]
        exact fitV_id (by omega) (by omega))
      go_enter Tryz.func29, Tryz.ntmps29
      go_wp2_with fail
      refine (rfit_any _ _).mono ?_; rintro e w1 ⟨rfl, rfl⟩; rw [unhide HX]
      go_wp2_with fail
      refine (rfit_any _ _).mono ?_; rintro e w1 ⟨rfl, rfl⟩; rw [unhide HY]
      go_wp2_with fail
      go_ret
      exact ⟨ret_int (unhide E).symm, rfl⟩
  omega

theorem rfloor_any (a b : Int) (w : World) (hb : 0 < b) (ha1 : -4000000000000000000 ≤ a) (ha2 : a ≤ 4000000000000000000) (hb2 : b ≤ 4000000000000000000) :
    Calls Tryz.prog 27 #[.int .i64 a, .int .i64 b] w fun e w' => e = .returned (.int .i64 (a / b)) ∧ w = w' := by
  by_cases h : a < 0
  · have E : Hid (-((b - 1 - a) / b) = a / b) := hide (by
      have h1 := Int.emod_nonneg a (show b ≠ 0 by omega)
      have h2 := Int.emod_lt_of_pos a hb
      have h3 := Int.emod_add_mul_ediv a b
      have : (b - 1 - a) / b = -(a / b) := by
        refine ((Int.ediv_emod_unique (r := b - 1 - a % b) (q := -(a / b)) hb).2 ⟨?_, by omega, by omega⟩).1
        rw [Int.mul_neg]; omega
      rw [this, Int.neg_neg])
    have hi := ediv_in (a := b - 1 - a) (b := b) (n := 8000000000000000000) hb (by omega) (by omega) (by omega)
    go_enter Tryz.func27, Tryz.ntmps27
    go_wp2
    go_ret
    exact ⟨ret_int (unhide E), rfl⟩
  · go_enter Tryz.func27, Tryz.ntmps27
    go_wp2
    go_ret
    exact ⟨rfl, rfl⟩


theorem rtotal_any (A : Option Addr) (n c B : Nat) (l : List Int) (w : World) (h : IReads w B A n l) (hn : n ≤ maxLen) :
    Calls Tryz.prog 30 #[.slice A n c] w fun e w' => e = .returned (.int .i64 (totalV l)) ∧ w = w' := by
  unfold maxLen at hn
  have HL := hide h.len
  go_enter Tryz.func30, Tryz.ntmps30
  go_wp2_with fail
  go_loop [3, 4] (fun s i => ∃ k : Nat, k ≤ n ∧ i = .int .i64 k ∧ s = .int .i64 (totalV (l.take k))) (fun _ i => n - (intOf i).toNat)
  case atStart => exact ⟨0, Nat.zero_le _, rfl, rfl⟩
  case round =>
    obtain ⟨k, hk, rfl, rfl⟩ := hrel
    by_cases hlt : k < n
    · obtain ⟨b, o, x, rfl, hb, hx, cx⟩ := h.get hlt
      have HX := hide hx
      clear hx
      go_wp2_with fail
      refine (radd_any _ _ _).mono ?_; rintro e w1 ⟨rfl, rfl⟩
      go_wp2_with fail
      go_round
      case rel => exact ⟨k + 1, by omega, by go_num, by rw [totalV_take (unhide HX)]⟩
      case measure => simp [intOf]; omega
    · obtain rfl : k = n := by omega
      go_wp2_with fail
      go_ret
      exact ⟨ret_int (by rw [List.take_of_length_le (by have := unhide HL; omega)]), rfl⟩





end Go.Proofs.YtdpijhnbhopnbaaGreatDoor
