/- Part 14 of what LawGrowTells needs: GrowRef2, RefTree, RefLeaf, CutBin, TreeDeep. Conditions: as each lemma names. -/
import Derived.Test.YtdpijhnbhopnbaaDoorPkGrowTells13
import Derived.Test.YtdpijhnbhopnbaaDoorPkGrowTells03
import Derived.BigGuardPart
import Derived.Test.YtdpijhnbhopnbaaDoorPkGrowTells04
import Derived.Test.YtdpijhnbhopnbaaDoorPkGrowTells11
/- What the document says of samples: Split. Conditions: samples that read as data and are right. -/
namespace Go.Proofs.YtdpijhnbhopnbaaDoor
set_option linter.unusedVariables false
set_option linter.unusedSimpArgs false
open Go.RowKit

theorem MReads.drewN {w : World} {B n : Nat} {A : Option Addr} {ss : List Sm} (h : MReads w B A n ss) (q : Nat) : MReads (w.drewN q) B A n ss := ⟨h.1.drewN q, fun s hs => ⟨(h.2 s hs).reads.drewN q, (h.2 s hs).len⟩⟩
/-- bounds of what is put right -/
def Bd (b : Bs) : Prop := 0 < b.dn ∧ b.dn ≤ 900 ∧ 0 ≤ b.up ∧ b.up ≤ 1000000000000 ∧ -1 ≤ b.f
theorem Bd.start {ss : List Sm} {n : Nat} (hs : SRight ss n) : Bd (startB ss) := by
  obtain ⟨a, b, c, d, e, _⟩ := BsOk.start (least := 1) hs
  exact ⟨a, b, c, d, e⟩
theorem Bd.at_ {ss : List Sm} {n least f : Nat} {c : Int} (hs : SRight ss n) (hl : 1 ≤ least) (h : OkC ss least f c) : Bd (atC ss f c) := by
  have hp := parts_len f c ss
  have hm := hs.most
  have hu := upOf_le (a := lowS f c ss) (b := highS f c ss) (by omega) (fun s h => hs.tlo s (lowS_mem h).1) (fun s h => hs.thi s (lowS_mem h).1) (fun s h => hs.tlo s (highS_mem h).1) (fun s h => hs.thi s (highS_mem h).1)
  exact ⟨h.dn hl, prod_900 (by omega), hu.1, hu.2, by show (-1 : Int) ≤ (f : Int); omega⟩
theorem Bd.rstep {ss : List Sm} {n least f : Nat} {st : Bs} (hs : SRight ss n) (hl : 1 ≤ least) (h : Bd st) (s : Sm) : Bd (rstepB ss least f st s) := by
  unfold rstepB
  split
  · exact h
  split
  · exact h
  · have ho : OkC ss least f (cellS f s) := ⟨by omega, by omega⟩
    split
    · exact Bd.at_ hs hl ho
    split
    · exact Bd.at_ hs hl ho
    · exact h
theorem rbestF_next {ss : List Sm} {least f k : Nat} {s : Sm} {st : Bs} (h : ss[k]? = some s) : (ss.take (k + 1)).foldl (rstepB ss least f) st = rstepB ss least f ((ss.take k).foldl (rstepB ss least f) st) s := by
  rw [take_next h, List.foldl_append]; rfl
theorem rrange_next (ss : List Sm) (least k : Nat) (st : Bs) : (List.range (k + 1)).foldl (rbestF ss least) st = rbestF ss least ((List.range k).foldl (rbestF ss least) st) k := by
  rw [List.range_succ, List.foldl_append]; rfl
theorem sum_next0 {ss : List Sm} {k : Nat} {s : Sm} (h : ss[k]? = some s) : sumM (ss.take (k + 1)) = sumM (ss.take k) + s.t := sumM_next h
def ftB (b : Bs) : Int := if 0 ≤ b.f then b.f else 0
def fdB (b : Bs) : Bool := decide (0 ≤ b.f)
theorem ftB_some {b : Bs} (h : 0 ≤ b.f) : ftB b = b.f := if_pos h
theorem fdB_some {b : Bs} (h : 0 ≤ b.f) : fdB b = true := decide_eq_true h
theorem fdB_none {b : Bs} (h : ¬ 0 ≤ b.f) : fdB b = false := decide_eq_false h
def RSplitPost (ss : List Sm) (n least : Nat) (w : World) (e : Ending) (w' : World) : Prop :=
  e = .returned (.tuple #[.int .i64 (ftB (bestB ss n least)), .int .i64 (bestB ss n least).c, .bool (fdB (bestB ss n least))]) ∧ ∃ q, w' = w.drewN q

set_option maxRecDepth 100000 in
set_option maxHeartbeats 8000000 in
theorem rsplit_any (A : Option Addr) (m c n least : Nat) (ss : List Sm) (w : World) (h : MReads w w.heap.size A m ss) (hs : SRight ss n) (hl : 1 ≤ least) (hl2 : least ≤ 60) :
    Calls Tryd.prog 7 #[.slice A m c, .int .i64 n, .int .i64 least] w (RSplitPost ss n least w) := by
  have hlen := h.len
  have hm60 : m ≤ 60 := by have := hs.most; omega
  have hm1 : 1 ≤ m := by have := hs.pos; omega
  have hn8 := hs.fe8
  have HS := hide (fun (b : Bool) (f : Nat) (q : Int) (hf : f < n) (p : Nat) => rsum_any b A m c f q ss (w.drewN p) (h.drewN p) hm60 hs.tlo hs.thi (fun s hsm => by rw [hs.len s hsm]; exact hf))
  have HSR := hide hs
  have HSB : Hid (∀ k, -60000 ≤ sumM (ss.take k) ∧ sumM (ss.take k) ≤ 60000) := hide fun k => sum_60 (by rw [List.length_take]; omega) (fun s hsm => hs.tlo s (List.mem_of_mem_take hsm)) (fun s hsm => hs.thi s (List.mem_of_mem_take hsm))
  have HST : Hid ((startB ss).f = -1 ∧ (startB ss).c = 0 ∧ (startB ss).up = sumM ss * sumM ss ∧ (startB ss).dn = m ∧ Bd (startB ss)) := hide ⟨rfl, rfl, rfl, by show (ss.length : Int) = m; omega, Bd.start hs⟩
  have HEND : Hid ((List.range n).foldl (rbestF ss least) (startB ss) = bestB ss n least) := hide (rbestB_eq hs hl n (Nat.le_refl _)).1
  have HL := hide hlen
  clear hlen hs
  go_enter Tryd.func7, Tryd.ntmps7
  go_wp2_with fail
  go_loopw [9, 10] (fun s i wr => ∃ k p : Nat, k ≤ m ∧ s = .int .i64 (sumM (ss.take k)) ∧ i = .int .i64 k ∧ wr = w.drewN p) (fun _ i _ => m - (intOf i).toNat)
  case atStart => exact ⟨0, 0, Nat.zero_le _, rfl, rfl, rfl⟩
  case round =>
    obtain ⟨k, p, hk, rfl, rfl, rfl⟩ := hrel
    by_cases hlt : k < m
    · obtain ⟨bb, o, s, rfl, _, hx, c0, c1, hok⟩ := h.get hlt
      have HN := hide (sumM_next hx)
      have t1 := (unhide HSR).tlo s (List.mem_of_getElem? hx)
      have t2 := (unhide HSR).thi s (List.mem_of_getElem? hx)
      obtain ⟨b1, b2⟩ := unhide HSB k
      obtain ⟨S, hS⟩ : ∃ S, S = sumM (ss.take k) := ⟨_, rfl⟩
      rw [← hS] at b1 b2 HN ⊢
      obtain ⟨sA, sn, sc, sr, st⟩ := s
      dsimp only at c0 c1 HN t1 t2
      clear hx hok hS
      go_wp2_with fail
      go_roundw
      case rel => exact ⟨k + 1, p, by omega, by rw [unhide HN], by go_num, rfl⟩
      case measure => simp [intOf]; omega
    · obtain rfl : k = m := by omega
      rw [List.take_of_length_le (by rw [unhide HL]; exact Nat.le_refl _)]
      have hsum := unhide HSB k
      rw [List.take_of_length_le (by rw [unhide HL]; exact Nat.le_refl _)] at hsum
      have hsq := sq_le (a := sumM ss) (m := 60000) (by omega) (by omega)
      obtain ⟨S, hS⟩ : ∃ S, S = sumM ss := ⟨_, rfl⟩
      rw [← hS] at hsum hsq HST ⊢
      clear hS HSB
      go_wp2_with fail
      go_loopw [11, 12, 13, 14, 15, 16] (fun s11 s12 s13 s14 s15 i wr => ∃ j p : Nat, j ≤ n ∧ i = .int .i64 j ∧ wr = w.drewN p ∧ ∃ b : Bs, Hid (b = (List.range j).foldl (rbestF ss least) (startB ss)) ∧ Hid (Bd b) ∧ s11 = .int .i64 b.up ∧ s12 = .int .i64 b.dn ∧ s13 = .int .i64 (ftB b) ∧ s14 = .int .i64 b.c ∧ s15 = .bool (fdB b)) (fun _ _ _ _ _ i _ => n - (intOf i).toNat)
      case atStart =>
        obtain ⟨h1, h2, h3, h4, h5⟩ := unhide HST
        exact ⟨0, p, Nat.zero_le _, rfl, rfl, startB ss, hide rfl, hide h5, by rw [h3], by rw [h4], by unfold ftB; rw [h1]; rfl, by rw [h2], by unfold fdB; rw [h1]; rfl⟩
      case round =>
        clear HST hsum hsq
        obtain ⟨j, p, hj, rfl, rfl, b, HBj, HBd, rfl, rfl, rfl, rfl, rfl⟩ := hrel
        by_cases hlj : j < n
        · obtain ⟨bo, hbo⟩ : ∃ x, x = b := ⟨_, rfl⟩
          have HBo : Hid (bo = (List.range j).foldl (rbestF ss least) (startB ss)) := hide (by rw [hbo]; exact unhide HBj)
          have HB0 : Hid (b = (ss.take 0).foldl (rstepB ss least j) bo) := hide (by rw [hbo]; rfl)
          clear hbo HBj
          go_wp2_with fail
          go_loopw [11, 12, 13, 14, 15, 17] (fun s11 s12 s13 s14 s15 i wr => ∃ i' p : Nat, i' ≤ k ∧ i = .int .i64 i' ∧ wr = w.drewN p ∧ ∃ b : Bs, Hid (b = (ss.take i').foldl (rstepB ss least j) bo) ∧ Hid (Bd b) ∧ s11 = .int .i64 b.up ∧ s12 = .int .i64 b.dn ∧ s13 = .int .i64 (ftB b) ∧ s14 = .int .i64 b.c ∧ s15 = .bool (fdB b)) (fun _ _ _ _ _ i _ => k - (intOf i).toNat)
          case atStart => exact ⟨0, p, Nat.zero_le _, rfl, rfl, b, HB0, HBd, rfl, rfl, rfl, rfl, rfl⟩
          case round =>
            clear HB0 HBd
            obtain ⟨i, p, hi, rfl, rfl, b, HBi, HBd, rfl, rfl, rfl, rfl, rfl⟩ := hrel
            by_cases hli : i < k
            · obtain ⟨bb, o, s, rfl, _, hx, c0, c1, hok⟩ := h.get hli
              have HNi := hide (rbestF_next (least := least) (f := j) (st := bo) hx)
              rw [← unhide HBi] at HNi
              have HBN : Hid (Bd (rstepB ss least j b s)) := hide ((unhide HBd).rstep (unhide HSR) hl s)
              have hrl := (unhide HSR).len s (List.mem_of_getElem? hx)
              have hrd := hok.reads
              have hl1 : s.n ≤ maxLen := hok.len
              obtain ⟨sA, sn, sc, sr, st⟩ := s
              dsimp only at c0 c1 hrl hrd hl1
              unfold maxLen at hl1
              obtain rfl : sn = n := by rw [← hrd.len, hrl]
              obtain ⟨rb, ro, y, rfl, hrb, hrx, cry⟩ := hrd.get hlj
              have HX : Hid (cellS j ⟨some ⟨rb, ro, none⟩, sn, sc, sr, st⟩ = y) := hide (by unfold cellS; rw [List.getD_eq_getElem?_getD, hrx]; rfl)
              have HST : Hid (rstepB ss least j b ⟨some ⟨rb, ro, none⟩, sn, sc, sr, st⟩ = if (lowS j y ss).length < least then b else if (highS j y ss).length < least then b else if b.up * dnC ss j y < upC ss j y * b.dn then atC ss j y else if 0 ≤ b.f ∧ upC ss j y * b.dn = b.up * dnC ss j y ∧ b.f = j ∧ y < b.c then atC ss j y else b) := hide (by unfold rstepB; rw [unhide HX])
              have HBN2 : Hid (∀ b', rstepB ss least j b ⟨some ⟨rb, ro, none⟩, sn, sc, sr, st⟩ = b' → Bd b') := hide (fun b' e => by rw [← e]; exact unhide HBN)
              have hT := hide (fun (q : Nat) => unhide HS true j y hlj q)
              have hF := hide (fun (q : Nat) => unhide HS false j y hlj q)
              have hpl := parts_len j y ss
              rw [unhide HL] at hpl
              obtain ⟨e1, e2, e3, e4, e5⟩ := unhide HBd
              have HAt : Hid (atC ss j y = ⟨j, y, upC ss j y, dnC ss j y⟩) := hide rfl
              have HU := hide (upOf_le (a := lowS j y ss) (b := highS j y ss) (by omega) (fun s h => (unhide HSR).tlo s (lowS_mem h).1) (fun s h => (unhide HSR).thi s (lowS_mem h).1) (fun s h => (unhide HSR).tlo s (highS_mem h).1) (fun s h => (unhide HSR).thi s (highS_mem h).1))
              have hsa := sum_60 (ss := lowS j y ss) (by omega) (fun s h => (unhide HSR).tlo s (lowS_mem h).1) (fun s h => (unhide HSR).thi s (lowS_mem h).1)
              have hsb := sum_60 (ss := highS j y ss) (by omega) (fun s h => (unhide HSR).tlo s (highS_mem h).1) (fun s h => (unhide HSR).thi s (highS_mem h).1)
              have hup : upC ss j y = sumM (lowS j y ss) * sumM (lowS j y ss) * ((highS j y ss).length : Int) + sumM (highS j y ss) * sumM (highS j y ss) * ((lowS j y ss).length : Int) := rfl
              have hdn : dnC ss j y = ((lowS j y ss).length : Int) * ((highS j y ss).length : Int) := rfl
              have hu := unhide HU
              rw [show upOf (lowS j y ss) (highS j y ss) = upC ss j y from rfl, hup] at hu
              rw [hup, hdn] at HST HAt
              unfold selS at hT hF
              rw [if_pos rfl] at hT
              rw [if_neg (by simp)] at hF
              obtain ⟨sa, hsae⟩ : ∃ x, x = sumM (lowS j y ss) := ⟨_, rfl⟩
              obtain ⟨sb, hsbe⟩ : ∃ x, x = sumM (highS j y ss) := ⟨_, rfl⟩
              obtain ⟨la, hla⟩ : ∃ x, x = (lowS j y ss).length := ⟨_, rfl⟩
              obtain ⟨lb, hlb⟩ : ∃ x, x = (highS j y ss).length := ⟨_, rfl⟩
              rw [← hsae, ← hsbe, ← hla, ← hlb] at HST HAt hu
              rw [← hsae, ← hla] at hT
              rw [← hsbe, ← hlb] at hF
              rw [← hsae] at hsa
              rw [← hsbe] at hsb
              rw [← hla, ← hlb] at hpl
              obtain ⟨b6, b7, b8, b9⟩ := b
              dsimp only at e1 e2 e3 e4 e5 HST
              have g1 := sq_le (a := sa) (m := 60000) (by omega) (by omega)
              have g2 := sq_le (a := sb) (m := 60000) (by omega) (by omega)
              have g3 : 0 ≤ sa * sa * (lb : Int) := Int.mul_nonneg g1.1 (by omega)
              have g4 : 0 ≤ sb * sb * (la : Int) := Int.mul_nonneg g2.1 (by omega)
              have g5 : (la : Int) * lb ≤ 900 := prod_900 (by omega)
              have g6 : 0 ≤ (la : Int) * lb := Int.mul_nonneg (by omega) (by omega)
              have g7 : 0 ≤ b8 * ((la : Int) * lb) := Int.mul_nonneg e3 (by omega)
              have g8 : b8 * ((la : Int) * lb) ≤ 1000000000000 * 900 := Int.mul_le_mul e4 g5 (by omega) (by omega)
              have g9 : 0 ≤ (sa * sa * (lb : Int) + sb * sb * (la : Int)) * b9 := Int.mul_nonneg hu.1 (by omega)
              have g10 : (sa * sa * (lb : Int) + sb * sb * (la : Int)) * b9 ≤ 1000000000000 * 900 := Int.mul_le_mul hu.2 e2 (by omega) (by omega)
              have hg1 := g1.1
              have hg1' := g1.2
              have hg2 := g2.1
              have hg2' := g2.2
              have hu1 := hu.2
              have hla60 : la ≤ 60 := by omega
              have hlb60 : lb ≤ 60 := by omega
              have HG := hide (And.intro g3 (And.intro g4 (And.intro g5 (And.intro g6 (And.intro g7 (And.intro g8 (And.intro g9 g10)))))))
              clear hx hok hrl hrd hrx hup hdn HU hsae hsbe hla hlb g1 g2 hu HX HBi HBN
              obtain ⟨ft, hft⟩ : ∃ x, x = ftB ⟨b6, b7, b8, b9⟩ := ⟨_, rfl⟩
              obtain ⟨fd, hfd⟩ : ∃ x, x = fdB ⟨b6, b7, b8, b9⟩ := ⟨_, rfl⟩
              rw [← hft, ← hfd]
              have HFT := hide hft
              have HFD := hide hfd
              clear hft hfd
              by_cases q1 : la < least
              · have d1 : decide (la < least) = true := decide_eq_true q1
                have d1' : decide ((la : Int) < (least : Int)) = true := decide_eq_true (by omega)
                have HR : Hid ((ss.take (i + 1)).foldl (rstepB ss least j) bo = ⟨b6, b7, b8, b9⟩) := hide (by rw [unhide HNi, unhide HST, if_pos q1])
                clear HNi HST HG HAt HBN2 q1 e1 e2 e3 e4 e5 hu1 hg1 hg1' hg2 hg2'
                go_wp2_with fail
                refine (unhide hT p).mono ?_
                rintro e w5 ⟨rfl, p5, rfl⟩
                rw [World.drewN_drewN]
                go_wp2_with fail
                refine (unhide hF (p + p5)).mono ?_
                rintro e w6 ⟨rfl, p6, rfl⟩
                rw [World.drewN_drewN]
                clear hT hF
                go_wp2_with fail
                go_roundw
                case rel => exact ⟨i + 1, p + p5 + p6, by omega, by go_num, rfl, ⟨b6, b7, b8, b9⟩, hide (unhide HR).symm, HBd, rfl, rfl, by rw [unhide HFT], rfl, by rw [unhide HFD]⟩
                case measure => simp [intOf] <;> omega
              have d1 : decide (la < least) = false := decide_eq_false q1
              have d1' : decide ((la : Int) < (least : Int)) = false := decide_eq_false (by omega)
              by_cases q2 : lb < least
              · have d2 : decide (lb < least) = true := decide_eq_true q2
                have d2' : decide ((lb : Int) < (least : Int)) = true := decide_eq_true (by omega)
                have HR : Hid ((ss.take (i + 1)).foldl (rstepB ss least j) bo = ⟨b6, b7, b8, b9⟩) := hide (by rw [unhide HNi, unhide HST, if_neg q1, if_pos q2])
                clear HNi HST HG HAt HBN2 q1 q2 e1 e2 e3 e4 e5 hu1 hg1 hg1' hg2 hg2'
                go_wp2_with fail
                refine (unhide hT p).mono ?_
                rintro e w5 ⟨rfl, p5, rfl⟩
                rw [World.drewN_drewN]
                go_wp2_with fail
                refine (unhide hF (p + p5)).mono ?_
                rintro e w6 ⟨rfl, p6, rfl⟩
                rw [World.drewN_drewN]
                clear hT hF
                go_wp2_with fail
                go_roundw
                case rel => exact ⟨i + 1, p + p5 + p6, by omega, by go_num, rfl, ⟨b6, b7, b8, b9⟩, hide (unhide HR).symm, HBd, rfl, rfl, by rw [unhide HFT], rfl, by rw [unhide HFD]⟩
                case measure => simp [intOf] <;> omega
              have d2 : decide (lb < least) = false := decide_eq_false q2
              have d2' : decide ((lb : Int) < (least : Int)) = false := decide_eq_false (by omega)
              have d0 : ((la : Int) == 0) = false := by simp; omega
              obtain ⟨g3, g4, g5, g6, g7, g8, g9, g10⟩ := unhide HG
              rw [unhide HAt] at HST
              rw [if_neg q1, if_neg q2] at HST
              clear HG HAt q1 q2 e5
              by_cases q3 : b8 * ((la : Int) * lb) < (sa * sa * (lb : Int) + sb * sb * (la : Int)) * b9
              · have d3 : decide (b8 * ((la : Int) * lb) < (sa * sa * (lb : Int) + sb * sb * (la : Int)) * b9) = true := decide_eq_true q3
                have HRR : Hid (rstepB ss least j ⟨b6, b7, b8, b9⟩ ⟨some ⟨rb, ro, none⟩, sn, sc, sr, st⟩ = ⟨j, y, (sa * sa * (lb : Int) + sb * sb * (la : Int)), ((la : Int) * lb)⟩) := hide (by rw [unhide HST, if_pos q3])
                have HR : Hid ((ss.take (i + 1)).foldl (rstepB ss least j) bo = ⟨j, y, (sa * sa * (lb : Int) + sb * sb * (la : Int)), ((la : Int) * lb)⟩) := hide (by rw [unhide HNi, unhide HRR])
                clear HNi HST q3
                go_wp2_with fail
                refine (unhide hT p).mono ?_
                rintro e w5 ⟨rfl, p5, rfl⟩
                rw [World.drewN_drewN]
                go_wp2_with fail
                refine (unhide hF (p + p5)).mono ?_
                rintro e w6 ⟨rfl, p6, rfl⟩
                rw [World.drewN_drewN]
                clear hT hF
                go_wp2_with fail
                go_roundw
                case rel => exact ⟨i + 1, p + p5 + p6, by omega, by go_num, rfl, ⟨j, y, (sa * sa * (lb : Int) + sb * sb * (la : Int)), ((la : Int) * lb)⟩, hide (unhide HR).symm, hide (unhide HBN2 _ (unhide HRR)), rfl, rfl, by rw [ftB_some (by dsimp only; omega)], rfl, by rw [fdB_some (by dsimp only; omega)]⟩
                case measure => simp [intOf] <;> omega
              have d3 : decide (b8 * ((la : Int) * lb) < (sa * sa * (lb : Int) + sb * sb * (la : Int)) * b9) = false := decide_eq_false q3
              rw [if_neg q3] at HST
              clear q3
              by_cases q4 : 0 ≤ b6
              case neg =>
                have hfd : fd = false := by rw [unhide HFD]; exact fdB_none q4
                have HR : Hid ((ss.take (i + 1)).foldl (rstepB ss least j) bo = ⟨b6, b7, b8, b9⟩) := hide (by rw [unhide HNi, unhide HST, if_neg (fun e => q4 e.1)])
                have HFD2 : Hid (fdB ⟨b6, b7, b8, b9⟩ = false) := hide (fdB_none q4)
                subst hfd
                clear HNi HST HBN2 q4
                go_wp2_with fail
                refine (unhide hT p).mono ?_
                rintro e w5 ⟨rfl, p5, rfl⟩
                rw [World.drewN_drewN]
                go_wp2_with fail
                refine (unhide hF (p + p5)).mono ?_
                rintro e w6 ⟨rfl, p6, rfl⟩
                rw [World.drewN_drewN]
                clear hT hF
                go_wp2_with fail
                go_roundw
                case rel => exact ⟨i + 1, p + p5 + p6, by omega, by go_num, rfl, ⟨b6, b7, b8, b9⟩, hide (unhide HR).symm, HBd, rfl, rfl, by rw [unhide HFT], rfl, by rw [unhide HFD2]⟩
                case measure => simp [intOf] <;> omega
              have hfd : fd = true := by rw [unhide HFD]; exact fdB_some q4
              have hft : ft = b6 := by rw [unhide HFT]; exact ftB_some q4
              have HFD2 : Hid (fdB ⟨b6, b7, b8, b9⟩ = true) := hide (fdB_some q4)
              have HFT2 : Hid (ftB ⟨b6, b7, b8, b9⟩ = b6) := hide (ftB_some q4)
              subst hfd hft
              clear HFT HFD
              by_cases q5 : (sa * sa * (lb : Int) + sb * sb * (la : Int)) * b9 = b8 * ((la : Int) * lb)
              case neg =>
                have d5 : ((sa * sa * (lb : Int) + sb * sb * (la : Int)) * b9 == b8 * ((la : Int) * lb)) = false := by simpa using q5
                have HR : Hid ((ss.take (i + 1)).foldl (rstepB ss least j) bo = ⟨ft, b7, b8, b9⟩) := hide (by rw [unhide HNi, unhide HST, if_neg (fun e => q5 e.2.1)])
                clear HNi HST HBN2 q4 q5
                go_wp2_with fail
                refine (unhide hT p).mono ?_
                rintro e w5 ⟨rfl, p5, rfl⟩
                rw [World.drewN_drewN]
                go_wp2_with fail
                refine (unhide hF (p + p5)).mono ?_
                rintro e w6 ⟨rfl, p6, rfl⟩
                rw [World.drewN_drewN]
                clear hT hF
                go_wp2_with fail
                go_roundw
                case rel => exact ⟨i + 1, p + p5 + p6, by omega, by go_num, rfl, ⟨ft, b7, b8, b9⟩, hide (unhide HR).symm, HBd, rfl, rfl, by rw [unhide HFT2], rfl, by rw [unhide HFD2]⟩
                case measure => simp [intOf] <;> omega
              have d5 : ((sa * sa * (lb : Int) + sb * sb * (la : Int)) * b9 == b8 * ((la : Int) * lb)) = true := by simpa using q5
              by_cases q6 : ft = (j : Int)
              case neg =>
                have d6 : ((j : Int) == ft) = false := by simp; omega
                have HR : Hid ((ss.take (i + 1)).foldl (rstepB ss least j) bo = ⟨ft, b7, b8, b9⟩) := hide (by rw [unhide HNi, unhide HST, if_neg (fun e => q6 e.2.2.1)])
                clear HNi HST HBN2 q4 q5 q6
                go_wp2_with fail
                refine (unhide hT p).mono ?_
                rintro e w5 ⟨rfl, p5, rfl⟩
                rw [World.drewN_drewN]
                go_wp2_with fail
                refine (unhide hF (p + p5)).mono ?_
                rintro e w6 ⟨rfl, p6, rfl⟩
                rw [World.drewN_drewN]
                clear hT hF
                go_wp2_with fail
                go_roundw
                case rel => exact ⟨i + 1, p + p5 + p6, by omega, by go_num, rfl, ⟨ft, b7, b8, b9⟩, hide (unhide HR).symm, HBd, rfl, rfl, by rw [unhide HFT2], rfl, by rw [unhide HFD2]⟩
                case measure => simp [intOf] <;> omega
              have d6 : ((j : Int) == ft) = true := by simp; omega
              by_cases q7 : y < b7
              · have d7 : decide (y < b7) = true := decide_eq_true q7
                have HRR : Hid (rstepB ss least j ⟨ft, b7, b8, b9⟩ ⟨some ⟨rb, ro, none⟩, sn, sc, sr, st⟩ = ⟨j, y, (sa * sa * (lb : Int) + sb * sb * (la : Int)), ((la : Int) * lb)⟩) := hide (by rw [unhide HST, if_pos ⟨q4, q5, q6, q7⟩])
                have HR : Hid ((ss.take (i + 1)).foldl (rstepB ss least j) bo = ⟨j, y, (sa * sa * (lb : Int) + sb * sb * (la : Int)), ((la : Int) * lb)⟩) := hide (by rw [unhide HNi, unhide HRR])
                clear HNi HST q4 q5 q6 q7
                go_wp2_with fail
                refine (unhide hT p).mono ?_
                rintro e w5 ⟨rfl, p5, rfl⟩
                rw [World.drewN_drewN]
                go_wp2_with fail
                refine (unhide hF (p + p5)).mono ?_
                rintro e w6 ⟨rfl, p6, rfl⟩
                rw [World.drewN_drewN]
                clear hT hF
                go_wp2_with fail
                go_roundw
                case rel => exact ⟨i + 1, p + p5 + p6, by omega, by go_num, rfl, ⟨j, y, (sa * sa * (lb : Int) + sb * sb * (la : Int)), ((la : Int) * lb)⟩, hide (unhide HR).symm, hide (unhide HBN2 _ (unhide HRR)), rfl, rfl, by rw [ftB_some (by dsimp only; omega)], rfl, by rw [fdB_some (by dsimp only; omega)]⟩
                case measure => simp [intOf] <;> omega
              · have d7 : decide (y < b7) = false := decide_eq_false q7
                have HR : Hid ((ss.take (i + 1)).foldl (rstepB ss least j) bo = ⟨ft, b7, b8, b9⟩) := hide (by rw [unhide HNi, unhide HST, if_neg (fun e => q7 e.2.2.2)])
                clear HNi HST HBN2 q4 q5 q6 q7
                go_wp2_with fail
                refine (unhide hT p).mono ?_
                rintro e w5 ⟨rfl, p5, rfl⟩
                rw [World.drewN_drewN]
                go_wp2_with fail
                refine (unhide hF (p + p5)).mono ?_
                rintro e w6 ⟨rfl, p6, rfl⟩
                rw [World.drewN_drewN]
                clear hT hF
                go_wp2_with fail
                go_roundw
                case rel => exact ⟨i + 1, p + p5 + p6, by omega, by go_num, rfl, ⟨ft, b7, b8, b9⟩, hide (unhide HR).symm, HBd, rfl, rfl, by rw [unhide HFT2], rfl, by rw [unhide HFD2]⟩
                case measure => simp [intOf] <;> omega
            · have hii : i = k := by omega
              have HZ : Hid (b = (List.range (j + 1)).foldl (rbestF ss least) (startB ss)) := hide (by
                rw [rrange_next, ← unhide HBo, unhide HBi, hii]
                unfold rbestF
                rw [List.take_of_length_le (by rw [unhide HL]; exact Nat.le_refl _)])
              clear HBo HBi
              go_wp2_with fail
              go_roundw
              case rel => exact ⟨j + 1, p, by omega, by go_num, rfl, b, HZ, HBd, rfl, rfl, rfl, rfl, rfl⟩
              case measure => simp [intOf] <;> omega
        · obtain rfl : j = n := by omega
          go_wp2_with fail
          go_ret3
          unfold RSplitPost
          rw [← unhide HEND, ← unhide HBj]
          exact ⟨rfl, p, rfl⟩
end Go.Proofs.YtdpijhnbhopnbaaDoor
/- The references of chapter 4: Depth, Tree, Ready, Left, Leaf. Conditions: a tree that reads as a list of nodes. -/
namespace Go.Proofs.YtdpijhnbhopnbaaDoor
set_option linter.unusedVariables false
set_option linter.unusedSimpArgs false
open Go.RowKit

theorem rdepth_any (A : Option Addr) (m d B : Nat) (t : List Nd) (hm : m ≤ 63) (hb : Behind t) : ∀ (k i : Nat) (w : World), m ≤ i + k → i < m → NReads w B A m t →
    Calls Tryd.prog 39 #[.slice A m d, .int .i64 i] w fun e w' => e = .returned (.int .i64 (dep t i)) ∧ w = w' := by
  intro k
  induction k with
  | zero => intro i w h1 h2; omega
  | succ k ih =>
    intro i w h1 h2 ht
    have hlt := ht.len
    obtain ⟨b, o, n, rfl, hbb, hn, g0, g1, g2, g3, g4, g5⟩ := ht.get h2
    have hda := dep_at hn (fun hf => (hb i n hn hf).1) (fun hf => (hb i n hn hf).2.2.1)
    by_cases hf : n.f = -1
    · rw [if_pos hf] at hda
      have HD := hide hda
      rw [hf] at g0
      clear hda hn hlt
      go_enter Tryd.func39, Tryd.ntmps39
      go_wp2_with fail
      go_ret
      exact ⟨ret_int (by rw [unhide HD]; rfl), rfl⟩
    · rw [if_neg hf] at hda
      obtain ⟨a1, a2, a3, a4⟩ := hb i n hn hf
      obtain ⟨ln, hln⟩ : ∃ ln : Nat, n.l = ln := ⟨n.l.toNat, by omega⟩
      obtain ⟨rn, hrn⟩ : ∃ rn : Nat, n.r = rn := ⟨n.r.toNat, by omega⟩
      rw [hln, hrn] at hda
      rw [hln] at a1 a2 g2
      rw [hrn] at a3 a4 g3
      have c1 := ih ln w (by omega) (by omega) ht
      have c2 := ih rn w (by omega) (by omega) ht
      have l1 := dep_le t ln
      have l2 := dep_le t rn
      simp only [Int.toNat_natCast] at hda
      generalize dep t ln = x at *
      generalize dep t rn = y at *
      have HD := hide hda
      have hq : (n.f == -1) = false := by simpa using hf
      clear hda hn hf ih
      by_cases hxy : x < y
      · go_enter Tryd.func39, Tryd.ntmps39
        go_wp2_with fail
        refine c1.mono ?_; rintro e w1 ⟨rfl, rfl⟩
        go_wp2_with fail
        refine c2.mono ?_; rintro e w1 ⟨rfl, rfl⟩
        clear c1 c2
        go_wp2_with fail
        go_ret
        exact ⟨ret_int (by rw [unhide HD]; omega), rfl⟩
      · go_enter Tryd.func39, Tryd.ntmps39
        go_wp2_with fail
        refine c1.mono ?_; rintro e w1 ⟨rfl, rfl⟩
        go_wp2_with fail
        refine c2.mono ?_; rintro e w1 ⟨rfl, rfl⟩
        clear c1 c2
        go_wp2_with fail
        go_ret
        exact ⟨ret_int (by rw [unhide HD]; omega), rfl⟩

theorem rleft_any (f c l r v x : Int) (less : Bool) (w : World) :
    Calls Tryd.prog 49 #[.agg #[.int .i64 f, .int .i64 c, .int .i64 l, .int .i64 r, .bool less, .int .i64 v], .int .i64 x] w fun e w' => e = .returned (.bool (if x = -1125899906842624 then less else decide (x < c))) ∧ Below w.heap.size w w' := by
  by_cases hx : x = -1125899906842624
  · subst hx
    go_enter Tryd.func49, Tryd.ntmps49
    go_wp2_with fail
    refine (rnone_any _ _).mono ?_; rintro e w1 ⟨rfl, rfl⟩
    go_wp2_with fail
    go_ret
    exact ⟨rfl, by go_grown⟩
  · have q : (x == -1125899906842624) = false := by simpa using hx
    have HX := hide hx
    clear hx
    go_enter Tryd.func49, Tryd.ntmps49
    go_wp2_with fail
    refine (rnone_any _ _).mono ?_; rintro e w1 ⟨rfl, rfl⟩; rw [q]
    go_wp2_with fail
    go_ret
    exact ⟨ret_bool (by first | rw [if_neg (unhide HX)] | rfl), by go_grown⟩
end Go.Proofs.YtdpijhnbhopnbaaDoor
/- The reference of the walk to a leaf: orchref1.Leaf (the leaf, and the way). Conditions: a tree in which what is below stands behind; a row that has the cells it asks. -/
namespace Go.Proofs.YtdpijhnbhopnbaaDoor
set_option linter.unusedVariables false
set_option linter.unusedSimpArgs false
open Go.RowKit

def RLPost (t : List Nd) (row : List Int) (w : World) (e : Ending) (w' : World) : Prop :=
  ∃ v, e = .returned (.tuple #[.int .i64 (leafOf t row : Nat), v]) ∧ w'.ownsRow w.heap.size 3 1 v ((0 :: wayFrom t row t.length 0).length) ((0 :: wayFrom t row t.length 0).map (Value.int .i64)) ∧ Below w.heap.size w w'

set_option maxRecDepth 100000 in
set_option maxHeartbeats 2000000 in
theorem rleaf_any (A C : Option Addr) (m d k q : Nat) (t : List Nd) (row : List Int) (w : World) (ht : NReads w w.heap.size A m t) (hr : IReads w w.heap.size C k row) (h0 : 0 < m) (hm : m ≤ 63) (h8 : k ≤ 8) (hb : Behind t)
    (ha : ∀ (i : Nat) n, t[i]? = some n → n.f ≠ -1 → 0 ≤ n.f ∧ n.f < k) :
    Calls Tryd.prog 40 #[.slice A m d, .slice C k q] w (RLPost t row w) := by
  have hlen := ht.len
  have HO : Hid (leafOf t row = leafFrom t row m 0) := hide (by unfold leafOf; rw [hlen])
  have HB := hide hb
  have HA := hide ha
  have HL := hide hlen
  clear hlen hb ha
  have hown0 := own_new (w := w) (B := w.heap.size) [.int .i64 0] 3 1 1 rfl (by decide) (Nat.le_refl _)
  go_enter Tryd.func40, Tryd.ntmps40
  go_wp2_with fail
  go_loopw [6, 7] (fun i v wr => ∃ (j F : Nat) (l : List Int), j < m ∧ i = .int .i64 j ∧ m ≤ j + F ∧ l.length ≤ j + 1 ∧ Hid (leafFrom t row F j = leafFrom t row m 0) ∧ Hid (l ++ wayFrom t row F j = 0 :: wayFrom t row m 0) ∧ wr.ownsRow w.heap.size 3 1 v l.length (l.map (Value.int .i64)) ∧ Below w.heap.size w wr) (fun i _ _ => m - (intOf i).toNat)
  case atStart => exact ⟨0, m, [0], h0, rfl, by omega, Nat.le_refl _, hide rfl, hide rfl, hown0, (Below.refl _ _).alloc (Nat.le_refl _) _⟩
  case round =>
    obtain ⟨j, F, l, hj, rfl, hF, hlj, HF0, HF, hown, hbel⟩ := hrel
    have hsz := hbel.size
    obtain ⟨b, o, n, rfl, hbb, hn, g0, g1, g2, g3, g4, g5⟩ := (ht.below hbel).get hj
    by_cases hf : n.f = -1
    · have HZ : Hid (leafOf t row = j) := hide (by rw [unhide HO, ← unhide HF0, leafFrom_leaf hn hf])
      have HY : Hid (0 :: wayFrom t row t.length 0 = l) := hide (by rw [unhide HL, ← unhide HF, wayFrom_leaf hn hf, List.append_nil])
      rw [hf] at g0
      clear hn
      go_wp2_with fail
      go_ret2
      exact ⟨_, by rw [unhide HZ]; rfl, by rw [unhide HY]; exact hown, hbel⟩
    · have hnf : (n.f != -1) = true := by simpa using hf
      obtain ⟨a1, a2⟩ := (unhide HA) j n hn hf
      obtain ⟨fn, hfn⟩ : ∃ fn : Nat, n.f = fn := ⟨n.f.toNat, by omega⟩
      have hfk : fn < k := by omega
      obtain ⟨b3, o3, x, rfl, hbb2, hx, cx⟩ := (hr.below hbel).get hfk
      have hcx : cellAt row n.f = x := by unfold cellAt; rw [hfn, Int.toNat_natCast, List.getD_eq_getElem?_getD, hx]; rfl
      obtain ⟨j2, hj2, hlt, hjm⟩ := nextOf_lt (c := x) (unhide HB) hn hf
      rw [unhide HL] at hjm
      obtain ⟨F2, rfl⟩ : ∃ F2, F = F2 + 1 := ⟨F - 1, by omega⟩
      have HF2 : Hid ((l ++ [(j2 : Int)]) ++ wayFrom t row F2 j2 = 0 :: wayFrom t row m 0) := hide (by
        have := unhide HF
        rw [wayFrom_step hn hf, hcx, hj2, Int.toNat_natCast] at this
        rw [← this]; simp)
      have HF3 : Hid (leafFrom t row F2 j2 = leafFrom t row m 0) := hide (by
        have := unhide HF0
        rw [leafFrom_step hn hf, hcx, hj2, Int.toNat_natCast] at this
        exact this)
      have hgo : nextOf n x = if (if x = -1125899906842624 then n.less else decide (x < n.c)) = true then n.l else n.r := rfl
      rw [hj2] at hgo
      obtain ⟨nf, nc, nl, nr, nless, nv⟩ := n
      simp only at hfn g0 g1 g2 g3 g4 g5 hnf hgo
      subst hfn
      have hk9 : l.length < 1000000000 := by omega
      have hrl := rleft_any (fn : Int) nc nl nr nv x nless
      generalize (if x = -1125899906842624 then nless else decide (x < nc)) = bg at *
      have HGO := hide hgo
      clear hn hx hcx hj2 hf a1 a2 hgo
      go_wp2_with fail
      go_still_tail 12, (by kernel_rfl)
      go_wp2_with fail
      refine (hrl _).mono ?_
      clear hrl
      rintro e w2 ⟨rfl, hb2⟩
      have hb3 : Below wr.heap.size wr w2 := ((Below.refl _ _).drew).trans hb2
      have hown2 : w2.ownsRow w.heap.size 3 1 u7 l.length (l.map (Value.int .i64)) := own_below hown hb3
      have hs2 := Nat.le_trans hsz hb3.size
      have k2 := (hb3.cell (p := ⟨b, o + j * 6 + 2, none⟩) (by dsimp only; omega)).trans g2
      have k3 := (hb3.cell (p := ⟨b, o + j * 6 + 3, none⟩) (by dsimp only; omega)).trans g3
      cases bg
      · have hjr : nr = j2 := by have := unhide HGO; simpa using this.symm
        subst hjr
        go_wp2_with (at_builtin; refine app_one elem_int (.tmp 40) (.tmp 42) [.int .i64 (j2 : Int)] rfl rfl rfl hown2 rfl rfl rfl (ints_oneCell .i64 [(j2 : Int)]) hk9 hs2 ?_; intro v' w3 hown3 hb4 _ _)
        have hown4 : w3.ownsRow w.heap.size 3 1 v' (l ++ [(j2 : Int)]).length ((l ++ [(j2 : Int)]).map (Value.int .i64)) := by simpa using hown3
        clear hown3
        go_wp2_with fail
        go_roundw
        case rel => exact ⟨j2, F2, l ++ [(j2 : Int)], by omega, rfl, by omega, by simp; omega, HF3, HF2, hown4, (hbel.trans (hb3.mono hsz)).trans hb4⟩
        case measure => simp [intOf] <;> omega
      · have hjr : nl = j2 := by have := unhide HGO; simpa using this.symm
        subst hjr
        go_wp2_with (at_builtin; refine app_one elem_int (.tmp 40) (.tmp 42) [.int .i64 (j2 : Int)] rfl rfl rfl hown2 rfl rfl rfl (ints_oneCell .i64 [(j2 : Int)]) hk9 hs2 ?_; intro v' w3 hown3 hb4 _ _)
        have hown4 : w3.ownsRow w.heap.size 3 1 v' (l ++ [(j2 : Int)]).length ((l ++ [(j2 : Int)]).map (Value.int .i64)) := by simpa using hown3
        clear hown3
        go_wp2_with fail
        go_roundw
        case rel => exact ⟨j2, F2, l ++ [(j2 : Int)], by omega, rfl, by omega, by simp; omega, HF3, HF2, hown4, (hbel.trans (hb3.mono hsz)).trans hb4⟩
        case measure => simp [intOf] <;> omega
end Go.Proofs.YtdpijhnbhopnbaaDoor
/- cut.Bin and cut.Merge: their contracts. Conditions: slices that read as lists. -/
namespace Go.Proofs.YtdpijhnbhopnbaaDoor
set_option linter.unusedVariables false
set_option linter.unusedSimpArgs false
open Go.RowKit

/-- of a list that rises: what stands at its bin, less one, is the greatest that is at most a number -/
theorem bin_rep {l : List Int} (h : l.Pairwise (· < ·)) (c : Int) : binN l c ≤ l.length ∧ (∀ (j : Nat) x, l[j]? = some x → (j < binN l c ↔ x ≤ c)) := by
  induction l with
  | nil => exact ⟨Nat.le_refl _, fun j x h => by simp at h⟩
  | cons a r ih =>
    rw [List.pairwise_cons] at h
    obtain ⟨h1, h2⟩ := ih h.2
    unfold binN at *
    rw [List.filter_cons]
    by_cases ha : a ≤ c
    · simp only [ha, decide_true, if_true, List.length_cons]
      refine ⟨by omega, fun j x hx => ?_⟩
      cases j with
      | zero => simp at hx; subst hx; simp [ha]
      | succ j => rw [← h2 j x (by simpa using hx)]; omega
    · have h0 : (r.filter fun x => decide (x ≤ c)) = [] := by
        rw [List.filter_eq_nil_iff]
        intro x hx
        have := h.1 x hx
        simp; omega
      simp only [ha, decide_false, Bool.false_eq_true, if_false, h0, List.length_nil]
      refine ⟨Nat.zero_le _, fun j x hx => ?_⟩
      constructor
      · intro hj; omega
      · intro hxc
        exfalso
        cases j with
        | zero => simp at hx; subst hx; exact ha hxc
        | succ j => have := h.1 x (List.mem_of_getElem? (by simpa using hx : r[j]? = some x)); omega
def binE (l : List Int) (x : Int) : Int := if cutE l = 0 then (if cellB x = true then 0 else 1) else cutE l
def binV (l : List Int) (x : Int) : Int := if binE l x = 0 then (binN l x : Int) else 0
def mergeE (a b : List Int) : Int := if cutE a = 0 then (if cutE b = 0 then (if 60 < (mergeV a b).length then 4 else 0) else cutE b) else cutE a
def mergeR (a b : List Int) : List Int := if mergeE a b = 0 then mergeV a b else []
def MergePost (a b : List Int) (w : World) (e : Ending) (w' : World) : Prop :=
  ∃ v, e = .returned (.tuple #[v, errV (mergeE a b)]) ∧ IOwn w' w.heap.size v (mergeR a b) ∧ Below w.heap.size w w'
theorem MergePost.fault {a b : List Int} {w w' : World} {k : Int} {ev : Value} (h : mergeE a b = k) (hk : k ≠ 0) (hv : ev = errV k) (hb : Below w.heap.size w w') : MergePost a b w (.returned (.tuple #[.slice none 0 0, ev])) w' :=
  ⟨_, by rw [h, hv], by unfold mergeR; rw [if_neg (by rw [h]; exact hk)]; exact IOwn.nil_ _ _, hb⟩

end Go.Proofs.YtdpijhnbhopnbaaDoor
/- TreeDeep: the walk of the law's function. Conditions: arguments read as lists. -/
namespace Go.Proofs.YtdpijhnbhopnbaaDoor
set_option linter.unusedVariables false
set_option linter.unusedSimpArgs false
open Go.RowKit

def tree3 (a b : Int) : List Nd := [⟨0, 0, 1, 2, false, 0⟩, ⟨-1, 0, 0, 0, false, a⟩, ⟨-1, 0, 0, 0, false, b⟩]
theorem tree3_right : treeE (tree3 0 0) 8 = 0 := by decide
theorem tree3_depth : depthV (tree3 0 0) = 1 := by decide

theorem pow_step {k x : Nat} (h : x = 2 ^ k) : x * 2 = 2 ^ (k + 1) := by rw [h, Nat.pow_succ]
theorem pow_le10 {k : Nat} (h : k ≤ 10) : 2 ^ k ≤ 1024 := Nat.le_trans (Nat.pow_le_pow_right (by omega) h) (by decide)

end Go.Proofs.YtdpijhnbhopnbaaDoor
