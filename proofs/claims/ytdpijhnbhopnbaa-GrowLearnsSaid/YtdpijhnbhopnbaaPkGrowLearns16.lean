/- Part 16 of what LawGrowLearns needs: GrowB, RefRow, GrowRef, GrowRef2, RefTree, RefLeaf, CutBin, TreeDeep, TreeHalves. Conditions: as each lemma names. -/
import Derived.Test.YtdpijhnbhopnbaaPkGrowLearns14
import Derived.Test.YtdpijhnbhopnbaaPkGrowLearns15
import Derived.Test.YtdpijhnbhopnbaaPkGrowLearns07
import Derived.Test.YtdpijhnbhopnbaaPkGrowLearns11
import Derived.Test.YtdpijhnbhopnbaaPkGrowLearns02
import Derived.Test.YtdpijhnbhopnbaaPkGrowLearns13
import Derived.Test.YtdpijhnbhopnbaaPkGrowLearns12
import Derived.Test.YtdpijhnbhopnbaaPkGrowLearns03
import Derived.BigGuardPart
import Derived.Test.YtdpijhnbhopnbaaPkGrowLearns04
/- Package grow: best, Grow, Fit. Conditions: samples that read as data and are right. -/
namespace Go.Proofs.Ytdpijhnbhopnbaa
set_option linter.unusedVariables false
set_option linter.unusedSimpArgs false
open Go.RowKit

def BestPost (ss : List Sm) (n least : Nat) (w : World) (e : Ending) (w' : World) : Prop := e = .returned (.tuple #[.int .i64 (bestB ss n least).f, .int .i64 (bestB ss n least).c]) ∧ Below w.heap.size w w'
theorem world_name {p : World → Prop} (w : World) (h : ∀ x, x = w → p x) : p w := h w rfl
theorem cells_next {ss : List Sm} {f j : Nat} {s : Sm} (h : ss[j]? = some s) : (ss.take (j + 1)).map (cellS f) = (ss.take j).map (cellS f) ++ [cellS f s] := by rw [take_next h, List.map_append]; rfl
theorem cutsF_at {ss : List Sm} {f j : Nat} : (cutsF ss f)[j]? = (compactL (sortL (ss.map (cellS f))))[j + 1]? := by
  unfold cutsF
  rw [List.getElem?_drop, Nat.add_comm]

set_option maxRecDepth 100000 in
set_option maxHeartbeats 8000000 in
theorem best_any (A : Option Addr) (m c n least : Nat) (ss : List Sm) (w : World) (h : MReads w w.heap.size A m ss) (hs : SRight ss n) (hl : 1 ≤ least) (hl2 : least ≤ 60) :
    Calls Try.prog 25 #[.slice A m c, .int .i64 n, .int .i64 least] w (BestPost ss n least w) := by
  have hlen := h.len
  have hm60 : m ≤ 60 := by have := hs.most; omega
  have hm1 : 1 ≤ m := by have := hs.pos; omega
  have hn8 := hs.fe8
  have hsum := sum_60 hs.most hs.tlo hs.thi
  have hsq := sq_le (a := sumM ss) (m := 60000) (by omega) (by omega)
  have HS := hide (fun (W : World) (hB : Below w.heap.size w W) => msum_any A m c ss W ((h.below hB).more hB.size) hm60 hs.tlo hs.thi)
  have HP := hide (fun (W : World) (hB : Below w.heap.size w W) (f : Nat) (q : Int) (hf : f < n) => mpart_any A m c f q ss W ((h.below hB).more hB.size) hm60 (fun s hsm => by rw [hs.len s hsm]; exact hf))
  have HSR := hide hs
  have HST : Hid ((startB ss).f = -1 ∧ (startB ss).c = 0 ∧ (startB ss).up = sumM ss * sumM ss ∧ (startB ss).dn = m) := hide ⟨rfl, rfl, rfl, by show (ss.length : Int) = m; omega⟩
  have HL := hide hlen
  obtain ⟨S, hS⟩ : ∃ S, S = sumM ss := ⟨_, rfl⟩
  rw [← hS] at hsum hsq HS HST
  clear hlen hs hS
  go_enter Try.func25, Try.ntmps25
  go_wp2_with fail
  refine (unhide HS w (Below.refl _ _)).mono ?_
  rintro e w1 ⟨rfl, hb1⟩
  go_wp2_with fail
  refine (unhide HS w1 hb1).mono ?_
  rintro e w2 ⟨rfl, hb2⟩
  have hB2 := hb1.trans (hb2.mono hb1.size)
  clear hb1 hb2
  go_wp2_with fail
  go_loopw [6, 7, 8, 9, 28] (fun s6 s7 s8 s9 i wr => ∃ k : Nat, k ≤ n ∧ i = .int .i64 k ∧ ∃ b : Bs, Hid (b = (List.range k).foldl (bestF ss least) (startB ss)) ∧ s6 = .int .i64 b.f ∧ s7 = .int .i64 b.c ∧ s8 = .int .i64 b.up ∧ s9 = .int .i64 b.dn ∧ Below w.heap.size w wr) (fun _ _ _ _ i _ => n - (intOf i).toNat)
  case atStart =>
    obtain ⟨h1, h2, h3, h4⟩ := unhide HST
    exact ⟨0, Nat.zero_le _, rfl, startB ss, hide rfl, by rw [h1], by rw [h2], by rw [h3], by rw [h4], hB2⟩
  case round =>
    clear hB2 HST HS
    obtain ⟨k, hk, rfl, b, HBk, rfl, rfl, rfl, rfl, hbel⟩ := hrel
    by_cases hlk : k < n
    · obtain ⟨w0, hw0⟩ : ∃ w0, w0 = wr := ⟨_, rfl⟩
      subst hw0
      have hz0 := hbel.size
      obtain ⟨bf, bc, bu, bd⟩ := b
      dsimp only
      go_wp2_with fail
      go_loopw [11, 33] (fun v i wr => ∃ j : Nat, j ≤ m ∧ i = .int .i64 j ∧ Hid (IOwn wr w0.heap.size v ((ss.take j).map (cellS k))) ∧ Below w0.heap.size w0 wr) (fun _ i _ => m - (intOf i).toNat)
      case atStart => exact ⟨0, Nat.zero_le _, rfl, hide (IOwn.nil_ _ _), Below.refl _ _⟩
      case round =>
        obtain ⟨j, hj, rfl, HO, hbel1⟩ := hrel
        have hz1 := hbel1.size
        have hbelr := hbel.trans (hbel1.mono hz0)
        by_cases hlj : j < m
        · obtain ⟨b, o, s, rfl, _, hx, c0, c1, hok⟩ := (h.below hbelr).get hlj
          have HN := hide (cells_next (f := k) hx)
          have hrl := (unhide HSR).len s (List.mem_of_getElem? hx)
          have hrd := hok.reads
          have hl1 : s.n ≤ maxLen := hok.len
          unfold maxLen at hl1
          obtain ⟨sA, sn, sc, sr, st⟩ := s
          dsimp only at c0 c1 HN hrl hrd hl1
          obtain rfl : sn = n := by rw [← hrd.len, hrl]
          obtain ⟨rb, ro, x, rfl, hrb, hrx, crx⟩ := hrd.get hlk
          have HX : Hid (cellS k ⟨some ⟨rb, ro, none⟩, sn, sc, sr, st⟩ = x) := hide (by unfold cellS; rw [List.getD_eq_getElem?_getD, hrx]; rfl)
          rw [unhide HX] at HN
          obtain ⟨L, hL⟩ : ∃ L, L = (ss.take j).map (cellS k) := ⟨_, rfl⟩
          have hLl : L.length = j := by rw [hL, List.length_map, List.length_take, unhide HL]; omega
          rw [← hL] at HN HO
          have hbA := hbel1.alloc hz1 (.cells #[.slice (some ⟨rb, ro, none⟩) sn sc, .int .i64 st] 25)
          have hcx : (wr.alloc (.cells #[.slice (some ⟨rb, ro, none⟩) sn sc, .int .i64 st] 25)).cell? ⟨rb, ro + k, none⟩ = some (.int .i64 x) := (World.cell?_alloc_lt wr _ _ (by show rb < _; omega)).trans crx
          have hOA : (wr.alloc (.cells #[.slice (some ⟨rb, ro, none⟩) sn sc, .int .i64 st] 25)).ownsRow w0.heap.size 3 1 _ L.length (L.map (Value.int .i64)) := World.ownsRow.alloc (unhide HO) _
          rw [hLl] at hOA
          have hwz : w0.heap.size ≤ (wr.alloc (.cells #[.slice (some ⟨rb, ro, none⟩) sn sc, .int .i64 st] 25)).heap.size := by rw [World.size_alloc]; omega
          have HLl := hide hLl
          clear hx hok hrd hrx hL crx HO hbel1 hrl hLl
          go_wp2_with (at_builtin; refine app_one elem_int (.tmp 37) (.tmp 43) [.int .i64 x] rfl rfl rfl hOA rfl (World.size_alloc _ _) rfl (ints_oneCell .i64 [x]) (by omega) hwz ?_; intro v2 w2 hown2 hb2 _ _)
          have hown3 : IOwn w2 w0.heap.size v2 ((ss.take (j + 1)).map (cellS k)) := by
            rw [unhide HN]
            unfold IOwn
            rw [List.length_append, List.map_append, unhide HLl]
            exact hown2
          clear hown2 hOA
          go_wp2_with fail
          go_roundw
          case rel => exact ⟨j + 1, by omega, by go_num, hide hown3, hbA.trans hb2⟩
          case measure => simp [intOf] <;> omega
        · obtain rfl : j = m := by omega
          rw [List.take_of_length_le (by rw [unhide HL]; exact Nat.le_refl _)] at HO
          have hcl : (ss.map (cellS k)).length = j := by rw [List.length_map, unhide HL]
          have hSo := hide (sort_any _ (ss.map (cellS k)) w0.heap.size wr (unhide HO) hz1 (by omega))
          obtain ⟨A0, c0, hv0, _, _, _, _⟩ := (unhide HO).slice_
          rw [hcl] at hv0
          subst hv0
          clear HO
          go_wp2_with fail
          refine (unhide hSo).mono ?_
          rintro e w3 ⟨rfl, ho3, _, hb3⟩
          have hB3 := hbel1.trans hb3
          have hz3 := hB3.size
          have hCo := hide (compact_any _ (sortL (ss.map (cellS k))) w0.heap.size w3 ho3 hz3 (by rw [sortL_len]; omega))
          have HCS := hide (compactL_sorted (sortL_sorted (ss.map (cellS k))))
          clear hSo ho3 hb3 hbel1 hbelr
          go_wp2_with fail
          refine (unhide hCo).mono ?_
          rintro e w4 ⟨v4, rfl, ho4, hb4⟩
          have hB4 := hB3.trans hb4
          have hz4 := hB4.size
          have hbel4 := hbel.trans (hB4.mono hz0)
          obtain ⟨CL, hCL⟩ : ∃ CL, CL = compactL (sortL (ss.map (cellS k))) := ⟨_, rfl⟩
          have HCT : Hid (∀ i, (cutsF ss k)[i]? = CL[i + 1]?) := hide (fun i => by rw [hCL]; exact cutsF_at)
          have HCN : Hid ((cutsF ss k).length = CL.length - 1) := hide (by rw [hCL]; unfold cutsF; rw [List.length_drop])
          rw [← hCL] at ho4
          have hp1 : 1 ≤ CL.length := by
            rw [hCL]
            have h1 := (unhide HCS).2
            cases hz : compactL (sortL (ss.map (cellS k))) with
            | nil =>
              rw [hz] at h1
              have h2 := (sortL_perm (ss.map (cellS k))).length_eq
              cases hy : sortL (ss.map (cellS k)) with
              | nil => rw [hy] at h2; simp at h2; simp at hcl; omega
              | cons y r => have := (h1 y).2 (by rw [hy]; exact List.mem_cons_self ..); simp at this
            | cons y r => simp
          have hp60 : CL.length ≤ j := by
            have := compactL_len (sortL (ss.map (cellS k)))
            rw [sortL_len, hcl] at this
            rw [hCL]; exact this
          obtain ⟨A4, c4, rfl, hr4, _, hpc, _⟩ := ho4.slice_
          have hc4 := own_cap ho4
          unfold maxLen at hc4
          obtain ⟨p, hp⟩ : ∃ p, p = CL.length := ⟨_, rfl⟩
          rw [← hp] at hr4 hp1 hp60 hpc ⊢
          obtain ⟨g, o4, rfl, hg, hcell⟩ := Reads.spot hr4 (by omega) (by omega)
          have HPL := hide hp
          have HCELL : Hid (∀ i y, CL[i + 1]? = some y → w4.cell? ⟨g, o4 + 1 + i, none⟩ = some (.int .i64 y)) := hide (fun i y hy => by
            have := hcell (i + 1) (.int .i64 y) (by rw [List.getElem?_map, hy]; rfl)
            rw [show o4 + 1 + i = o4 + (i + 1) by omega]; exact this)
          clear hcell hr4 ho4 hCo hCL hb4 hB3 hp HCS
          have hmin : min 1 (j : Int) = 1 := by omega
          have HNX : Hid ((List.range (k + 1)).foldl (bestF ss least) (startB ss) = bestF ss least ⟨bf, bc, bu, bd⟩ k) := hide (by rw [bestB_next, ← unhide HBk])
          have HOK : Hid (∀ i, BsOk ss n least (((cutsF ss k).take i).foldl (stepB ss least k) ⟨bf, bc, bu, bd⟩)) := hide (fun i => by
            have := BsOk.range (unhide HSR) hl k (by omega)
            rw [← unhide HBk] at this
            exact this.part (unhide HSR) hlk hl)
          clear HBk hbel hB4 hz3
          by_cases hc1 : c4 = 1
          · have hp0 : p = 1 := by omega
            have HZ : Hid ((List.range (k + 1)).foldl (bestF ss least) (startB ss) = ⟨bf, bc, bu, bd⟩) := hide (by
              rw [unhide HNX]
              unfold bestF
              rw [show cutsF ss k = [] from List.length_eq_zero_iff.1 (by rw [unhide HCN, ← unhide HPL, hp0])]
              rfl)
            subst hp0
            subst hc1
            clear HCELL HCT HCN HPL HNX HOK
            go_wp2_with fail
            go_loopw [6, 7, 8, 9, 55] (fun s6 s7 s8 s9 i wr => s6 = .int .i64 bf ∧ s7 = .int .i64 bc ∧ s8 = .int .i64 bu ∧ s9 = .int .i64 bd ∧ i = .int .i64 0 ∧ wr = w4) (fun _ _ _ _ _ _ => 0)
            case atStart => exact ⟨rfl, rfl, rfl, rfl, rfl, rfl⟩
            case round =>
              obtain ⟨rfl, rfl, rfl, rfl, rfl, rfl⟩ := hrel
              go_wp2_with fail
              go_roundw
              case rel => exact ⟨k + 1, by omega, by go_num, ⟨bf, bc, bu, bd⟩, hide (unhide HZ).symm, rfl, rfl, rfl, rfl, hbel4⟩
              case measure => simp [intOf] <;> omega
          · go_wp2_with fail
            go_loopw [6, 7, 8, 9, 55] (fun s6 s7 s8 s9 i wr => ∃ i' : Nat, i' ≤ p - 1 ∧ i = .int .i64 i' ∧ ∃ b : Bs, Hid (b = ((cutsF ss k).take i').foldl (stepB ss least k) ⟨bf, bc, bu, bd⟩) ∧ s6 = .int .i64 b.f ∧ s7 = .int .i64 b.c ∧ s8 = .int .i64 b.up ∧ s9 = .int .i64 b.dn ∧ Below w4.heap.size w4 wr) (fun _ _ _ _ i _ => p - (intOf i).toNat)
            case atStart => exact ⟨0, Nat.zero_le _, rfl, ⟨bf, bc, bu, bd⟩, hide rfl, rfl, rfl, rfl, rfl, Below.refl _ _⟩
            case round =>
              obtain ⟨i, hi, rfl, b, HBi, rfl, rfl, rfl, rfl, hbel5⟩ := hrel
              have hz5 := hbel5.size
              have hbw5 := hbel4.trans (hbel5.mono hbel4.size)
              by_cases hli : i < p - 1
              · obtain ⟨y, hy⟩ : ∃ y, CL[i + 1]? = some y := ⟨_, List.getElem?_eq_getElem (by have := unhide HPL; omega)⟩
                have hcy := (hbel5.cell (p := ⟨g, o4 + 1 + i, none⟩) hg).trans (unhide HCELL i y hy)
                have hcut : (cutsF ss k)[i]? = some y := (unhide HCT i).trans hy
                have HNi := hide (bestF_next (ss := ss) (least := least) (st := ⟨bf, bc, bu, bd⟩) hcut)
                have hok := unhide HOK i
                rw [← unhide HBi] at HNi hok
                obtain ⟨e1, e2, e3, e4, e5, e6, e7, e8, _⟩ := hok
                have hPt := hide (unhide HP wr hbw5 k y hlk)
                unfold PartPost at hPt
                have hpl := parts_len k y ss
                rw [unhide HL] at hpl
                have HM1 : Hid (∀ s ∈ lowS k y ss, -1000 ≤ s.t ∧ s.t ≤ 1000) := hide (fun s hs => ⟨(unhide HSR).tlo s (lowS_mem hs).1, (unhide HSR).thi s (lowS_mem hs).1⟩)
                have HM2 : Hid (∀ s ∈ highS k y ss, -1000 ≤ s.t ∧ s.t ≤ 1000) := hide (fun s hs => ⟨(unhide HSR).tlo s (highS_mem hs).1, (unhide HSR).thi s (highS_mem hs).1⟩)
                obtain ⟨La, hLa⟩ : ∃ L, L = lowS k y ss := ⟨_, rfl⟩
                obtain ⟨Lb, hLb⟩ : ∃ L, L = highS k y ss := ⟨_, rfl⟩
                have HST : Hid (stepB ss least k b y = tryB least k y La Lb b) := hide (by rw [hLa, hLb]; rfl)
                rw [← hLa] at hPt hpl HM1
                rw [← hLb] at hPt hpl HM2
                obtain ⟨la, hla⟩ : ∃ n, n = La.length := ⟨_, rfl⟩
                obtain ⟨lb, hlb⟩ : ∃ n, n = Lb.length := ⟨_, rfl⟩
                rw [← hla, ← hlb] at hPt hpl
                have HLA := hide hla
                have HLB := hide hlb
                obtain ⟨b6, b7, b8, b9⟩ := b
                dsimp only at e1 e2 e3 e4 e5 e6 e7 e8
                clear hy hcut hLa hLb hla hlb
                by_cases q1 : la < least
                · have d1 : decide (la < least) = true := decide_eq_true q1
                  have d1' : decide ((la : Int) < (least : Int)) = true := decide_eq_true (by omega)
                  have HF : Hid (((cutsF ss k).take (i + 1)).foldl (stepB ss least k) ⟨bf, bc, bu, bd⟩ = ⟨b6, b7, b8, b9⟩) := hide (by rw [unhide HNi, unhide HST]; unfold tryB; rw [if_pos (by rw [← unhide HLA]; exact q1)])
                  clear HNi HST q1 e1 e2 e3 e4 e5 e6 e7 e8
                  go_wp2_with fail
                  refine (unhide hPt).mono ?_
                  rintro e w6 ⟨A1, c1, A2, c2, rfl, ⟨_, hr1⟩, ⟨_, hr2⟩, hb6⟩
                  clear hPt
                  go_wp2_with fail
                  go_roundw
                  case rel => exact ⟨i + 1, by omega, by go_num, ⟨b6, b7, b8, b9⟩, hide (unhide HF).symm, rfl, rfl, rfl, rfl, hbel5.trans (hb6.mono hz5)⟩
                  case measure => simp [intOf] <;> omega
                have d1 : decide (la < least) = false := decide_eq_false q1
                have d1' : decide ((la : Int) < (least : Int)) = false := decide_eq_false (by omega)
                by_cases q2 : lb < least
                · have d2 : decide (lb < least) = true := decide_eq_true q2
                  have d2' : decide ((lb : Int) < (least : Int)) = true := decide_eq_true (by omega)
                  have HF : Hid (((cutsF ss k).take (i + 1)).foldl (stepB ss least k) ⟨bf, bc, bu, bd⟩ = ⟨b6, b7, b8, b9⟩) := hide (by rw [unhide HNi, unhide HST]; unfold tryB; rw [if_neg (by rw [← unhide HLA]; exact q1), if_pos (by rw [← unhide HLB]; exact q2)])
                  clear HNi HST q1 q2 e1 e2 e3 e4 e5 e6 e7 e8
                  go_wp2_with fail
                  refine (unhide hPt).mono ?_
                  rintro e w6 ⟨A1, c1, A2, c2, rfl, ⟨_, hr1⟩, ⟨_, hr2⟩, hb6⟩
                  clear hPt
                  go_wp2_with fail
                  go_roundw
                  case rel => exact ⟨i + 1, by omega, by go_num, ⟨b6, b7, b8, b9⟩, hide (unhide HF).symm, rfl, rfl, rfl, rfl, hbel5.trans (hb6.mono hz5)⟩
                  case measure => simp [intOf] <;> omega
                have d2 : decide (lb < least) = false := decide_eq_false q2
                have d2' : decide ((lb : Int) < (least : Int)) = false := decide_eq_false (by omega)
                have HU := hide (upOf_le (a := La) (b := Lb) (by rw [← unhide HLA, ← unhide HLB]; omega) (fun s h => (unhide HM1 s h).1) (fun s h => (unhide HM1 s h).2) (fun s h => (unhide HM2 s h).1) (fun s h => (unhide HM2 s h).2))
                have hsa := sum_60 (ss := La) (by rw [← unhide HLA]; omega) (fun s h => (unhide HM1 s h).1) (fun s h => (unhide HM1 s h).2)
                have hsb := sum_60 (ss := Lb) (by rw [← unhide HLB]; omega) (fun s h => (unhide HM2 s h).1) (fun s h => (unhide HM2 s h).2)
                have HSa := hide (fun (W : World) (A' : Option Addr) (c' : Nat) (h' : MReads W W.heap.size A' La.length La) => msum_any A' La.length c' La W h' (by rw [← unhide HLA]; omega) (fun s h => (unhide HM1 s h).1) (fun s h => (unhide HM1 s h).2))
                have HSb := hide (fun (W : World) (A' : Option Addr) (c' : Nat) (h' : MReads W W.heap.size A' Lb.length Lb) => msum_any A' Lb.length c' Lb W h' (by rw [← unhide HLB]; omega) (fun s h => (unhide HM2 s h).1) (fun s h => (unhide HM2 s h).2))
                have hTry : tryB least k y La Lb ⟨b6, b7, b8, b9⟩ = if b8 * dnOf La Lb < upOf La Lb * b9 then ⟨k, y, upOf La Lb, dnOf La Lb⟩ else ⟨b6, b7, b8, b9⟩ := by
                  unfold tryB
                  rw [if_neg (by rw [← unhide HLA]; exact q1), if_neg (by rw [← unhide HLB]; exact q2)]
                have hup : upOf La Lb = sumM La * sumM La * (lb : Int) + sumM Lb * sumM Lb * (la : Int) := by unfold upOf; rw [← unhide HLA, ← unhide HLB]
                have hdn : dnOf La Lb = (la : Int) * (lb : Int) := by unfold dnOf; rw [← unhide HLA, ← unhide HLB]
                rw [← unhide HLA] at HSa
                rw [← unhide HLB] at HSb
                obtain ⟨sa, hsae⟩ : ∃ s, s = sumM La := ⟨_, rfl⟩
                obtain ⟨sb, hsbe⟩ : ∃ s, s = sumM Lb := ⟨_, rfl⟩
                rw [← hsae] at hsa HSa hup
                rw [← hsbe] at hsb HSb hup
                have g1 := sq_le (a := sa) (m := 60000) (by omega) (by omega)
                have g2 := sq_le (a := sb) (m := 60000) (by omega) (by omega)
                have g3 : 0 ≤ sa * sa * (lb : Int) := Int.mul_nonneg g1.1 (by omega)
                have g4 : 0 ≤ sb * sb * (la : Int) := Int.mul_nonneg g2.1 (by omega)
                have hu := unhide HU
                rw [hup] at hu hTry
                rw [hdn] at hTry
                have g5 : (la : Int) * lb ≤ 900 := prod_900 (by omega)
                have g6 : 0 < (la : Int) * lb := Int.mul_pos (by omega) (by omega)
                have g7 : 0 ≤ b8 * ((la : Int) * lb) := Int.mul_nonneg e3 (by omega)
                have g8 : b8 * ((la : Int) * lb) ≤ 1000000000000 * 900 := Int.mul_le_mul e4 g5 (by omega) (by omega)
                have g9 : 0 ≤ (sa * sa * (lb : Int) + sb * sb * (la : Int)) * b9 := Int.mul_nonneg hu.1 (by omega)
                have g10 : (sa * sa * (lb : Int) + sb * sb * (la : Int)) * b9 ≤ 1000000000000 * 900 := Int.mul_le_mul hu.2 e2 (by omega) (by omega)
                have HNN := hide hTry
                have hg1 := g1.1
                have hg1' := g1.2
                have hg2 := g2.1
                have hg2' := g2.2
                have hu1 := hu.2
                clear hTry hup hdn hsae hsbe HU HM1 HM2 q1 q2 g1 g2 hu e5 e6 e7 e8
                by_cases q3 : b8 * ((la : Int) * lb) < (sa * sa * (lb : Int) + sb * sb * (la : Int)) * b9
                · have d3 : decide (b8 * ((la : Int) * lb) < (sa * sa * (lb : Int) + sb * sb * (la : Int)) * b9) = true := decide_eq_true q3
                  have HF : Hid (((cutsF ss k).take (i + 1)).foldl (stepB ss least k) ⟨bf, bc, bu, bd⟩ = ⟨k, y, sa * sa * (lb : Int) + sb * sb * (la : Int), (la : Int) * lb⟩) := hide (by rw [unhide HNi, unhide HST, unhide HNN, if_pos q3])
                  clear HNi HST HNN q3
                  go_wp2_with fail
                  refine (unhide hPt).mono ?_
                  rintro e w6 ⟨A1, c1, A2, c2, rfl, ⟨_, hr1⟩, ⟨_, hr2⟩, hb6⟩
                  clear hPt
                  have hz6 := hb6.size
                  go_wp2_with fail
                  refine (unhide HSa w6 A1 c1 hr1).mono ?_
                  rintro e w7 ⟨rfl, hb7⟩
                  have hr1' := (hr1.below hb7).more hb7.size
                  clear hr1
                  go_wp2_with fail
                  refine (unhide HSa w7 A1 c1 hr1').mono ?_
                  rintro e w8 ⟨rfl, hb8⟩
                  have hB8 := hb7.trans (hb8.mono hb7.size)
                  have hr2' := (hr2.below hB8).more hB8.size
                  clear hr2 hr1' hb7 hb8
                  go_wp2_with fail
                  refine (unhide HSb w8 A2 c2 hr2').mono ?_
                  rintro e w9 ⟨rfl, hb9⟩
                  have hB9 := hB8.trans (hb9.mono hB8.size)
                  have hr2'' := (hr2'.below hb9).more hb9.size
                  clear hr2' hB8 hb9
                  go_wp2_with fail
                  refine (unhide HSb w9 A2 c2 hr2'').mono ?_
                  rintro e w10 ⟨rfl, hb10⟩
                  have hB10 := hB9.trans (hb10.mono hB9.size)
                  clear hr2'' hB9 hb10 HSa HSb
                  go_wp2_with fail
                  go_roundw
                  case rel => exact ⟨i + 1, by omega, by go_num, ⟨k, y, sa * sa * (lb : Int) + sb * sb * (la : Int), (la : Int) * lb⟩, hide (unhide HF).symm, rfl, rfl, rfl, rfl, hbel5.trans ((hb6.trans (hB10.mono hz6)).mono hz5)⟩
                  case measure => simp [intOf] <;> omega
                · have d3 : decide (b8 * ((la : Int) * lb) < (sa * sa * (lb : Int) + sb * sb * (la : Int)) * b9) = false := decide_eq_false q3
                  have HF : Hid (((cutsF ss k).take (i + 1)).foldl (stepB ss least k) ⟨bf, bc, bu, bd⟩ = ⟨b6, b7, b8, b9⟩) := hide (by rw [unhide HNi, unhide HST, unhide HNN, if_neg q3])
                  clear HNi HST HNN q3
                  go_wp2_with fail
                  refine (unhide hPt).mono ?_
                  rintro e w6 ⟨A1, c1, A2, c2, rfl, ⟨_, hr1⟩, ⟨_, hr2⟩, hb6⟩
                  clear hPt
                  have hz6 := hb6.size
                  go_wp2_with fail
                  refine (unhide HSa w6 A1 c1 hr1).mono ?_
                  rintro e w7 ⟨rfl, hb7⟩
                  have hr1' := (hr1.below hb7).more hb7.size
                  clear hr1
                  go_wp2_with fail
                  refine (unhide HSa w7 A1 c1 hr1').mono ?_
                  rintro e w8 ⟨rfl, hb8⟩
                  have hB8 := hb7.trans (hb8.mono hb7.size)
                  have hr2' := (hr2.below hB8).more hB8.size
                  clear hr2 hr1' hb7 hb8
                  go_wp2_with fail
                  refine (unhide HSb w8 A2 c2 hr2').mono ?_
                  rintro e w9 ⟨rfl, hb9⟩
                  have hB9 := hB8.trans (hb9.mono hB8.size)
                  have hr2'' := (hr2'.below hb9).more hb9.size
                  clear hr2' hB8 hb9
                  go_wp2_with fail
                  refine (unhide HSb w9 A2 c2 hr2'').mono ?_
                  rintro e w10 ⟨rfl, hb10⟩
                  have hB10 := hB9.trans (hb10.mono hB9.size)
                  clear hr2'' hB9 hb10 HSa HSb
                  go_wp2_with fail
                  go_roundw
                  case rel => exact ⟨i + 1, by omega, by go_num, ⟨b6, b7, b8, b9⟩, hide (unhide HF).symm, rfl, rfl, rfl, rfl, hbel5.trans ((hb6.trans (hB10.mono hz6)).mono hz5)⟩
                  case measure => simp [intOf] <;> omega
              · have hii : i = p - 1 := by omega
                have HZ : Hid ((List.range (k + 1)).foldl (bestF ss least) (startB ss) = b) := hide (by
                  rw [unhide HNX, unhide HBi]
                  unfold bestF
                  rw [List.take_of_length_le (by rw [unhide HCN, ← unhide HPL]; omega)])
                obtain ⟨b6, b7, b8, b9⟩ := b
                dsimp only
                clear HCELL HCT HCN HPL HNX HOK HBi
                go_wp2_with fail
                go_roundw
                case rel => exact ⟨k + 1, by omega, by go_num, ⟨b6, b7, b8, b9⟩, hide (unhide HZ).symm, rfl, rfl, rfl, rfl, hbw5⟩
                case measure => simp [intOf] <;> omega
    · obtain rfl : k = n := by omega
      go_wp2_with fail
      go_ret2
      unfold BestPost
      rw [show bestB ss k least = b from (unhide HBk).symm]
      exact ⟨rfl, hbel⟩
end Go.Proofs.Ytdpijhnbhopnbaa
/- The references of chapter 3: Cell, none, Row. Conditions: a slice that reads as a list. -/
namespace Go.Proofs.Ytdpijhnbhopnbaa
set_option linter.unusedVariables false
set_option linter.unusedSimpArgs false
open Go.RowKit

end Go.Proofs.Ytdpijhnbhopnbaa
/- What the document says of samples: Samples, sum, part. Conditions: samples that read as data. -/
namespace Go.Proofs.Ytdpijhnbhopnbaa
set_option linter.unusedVariables false
set_option linter.unusedSimpArgs false
open Go.RowKit

def RSampPost (ss : List Sm) (fe : Int) (w : World) (e : Ending) (w' : World) : Prop := e = .returned (.tuple #[.int .i64 ((sampC ss fe).1 : Nat), .int .i64 (sampE ss fe)]) ∧ ∃ q, w' = w.drewN q
theorem rsampPost_at {ss : List Sm} {fe : Int} {w : World} {k : Nat} {x : Int} (h : sampC ss fe = (k, x)) : RSampPost ss fe w = fun e w' => e = .returned (.tuple #[.int .i64 (k : Nat), .int .i64 x]) ∧ ∃ q, w' = w.drewN q := by
  funext e w'
  unfold RSampPost sampE
  rw [h]

/-- samples below a cut, or not -/
def selS (b : Bool) (f : Nat) (q : Int) (ss : List Sm) : List Sm := if b then lowS f q ss else highS f q ss
theorem selS_next {b : Bool} {f : Nat} {q : Int} {ss : List Sm} {k : Nat} {s : Sm} (h : ss[k]? = some s) : selS b f q (ss.take (k + 1)) = selS b f q (ss.take k) ++ if (decide (cellS f s < q) == b) = true then [s] else [] := by
  unfold selS
  cases b
  · rw [if_neg (by simp), if_neg (by simp), highS_next h]
    by_cases hc : cellS f s < q <;> simp [hc]
  · rw [if_pos rfl, if_pos rfl, lowS_next h]
    by_cases hc : cellS f s < q <;> simp [hc]
theorem selS_mem {b : Bool} {f : Nat} {q : Int} {ss : List Sm} {s : Sm} (h : s ∈ selS b f q ss) : s ∈ ss := by
  unfold selS at h
  cases b
  · exact (highS_mem (by simpa using h)).1
  · exact (lowS_mem (by simpa using h)).1
theorem selS_len (b : Bool) (f : Nat) (q : Int) (ss : List Sm) : (selS b f q ss).length ≤ ss.length := by
  unfold selS lowS highS
  cases b
  · exact List.length_filter_le _ _
  · exact List.length_filter_le _ _

def RPartPost (a : List Sm) (w : World) (e : Ending) (w' : World) : Prop :=
  ∃ A c, e = .returned (.slice A a.length c) ∧ MOwn w' w.heap.size (.slice A a.length c) a ∧ MReads w' w'.heap.size A a.length a ∧ Below w.heap.size w w'
end Go.Proofs.Ytdpijhnbhopnbaa
/- What the document says of samples: Split. Conditions: samples that read as data and are right. -/
namespace Go.Proofs.Ytdpijhnbhopnbaa
set_option linter.unusedVariables false
set_option linter.unusedSimpArgs false
open Go.RowKit

theorem MReads.drewN {w : World} {B n : Nat} {A : Option Addr} {ss : List Sm} (h : MReads w B A n ss) (q : Nat) : MReads (w.drewN q) B A n ss := ⟨h.1.drewN q, fun s hs => ⟨(h.2 s hs).reads.drewN q, (h.2 s hs).len⟩⟩
/-- bounds of what is put right -/
def Bd (b : Bs) : Prop := 0 < b.dn ∧ b.dn ≤ 900 ∧ 0 ≤ b.up ∧ b.up ≤ 1000000000000 ∧ -1 ≤ b.f
theorem Bd.start {ss : List Sm} {n : Nat} (hs : SRight ss n) : Bd (startB ss) := by
  obtain ⟨a, b, c, d, e, _⟩ := BsOk.start (least := 1) hs
  exact ⟨a, b, c, d, e⟩
theorem Bd.at_ {ss : List Sm} {n least f : Nat} {c : Int} (hs : SRight ss n) (hl : 1 ≤ least) (h : OkC ss least f c) : Bd (atC ss f c) := by
  have hp := parts_len f c ss
  have hm := hs.most
  have hu := upOf_le (a := lowS f c ss) (b := highS f c ss) (by omega) (fun s h => hs.tlo s (lowS_mem h).1) (fun s h => hs.thi s (lowS_mem h).1) (fun s h => hs.tlo s (highS_mem h).1) (fun s h => hs.thi s (highS_mem h).1)
  exact ⟨h.dn hl, prod_900 (by omega), hu.1, hu.2, by show (-1 : Int) ≤ (f : Int); omega⟩
theorem Bd.rstep {ss : List Sm} {n least f : Nat} {st : Bs} (hs : SRight ss n) (hl : 1 ≤ least) (h : Bd st) (s : Sm) : Bd (rstepB ss least f st s) := by
  unfold rstepB
  split
  · exact h
  split
  · exact h
  · have ho : OkC ss least f (cellS f s) := ⟨by omega, by omega⟩
    split
    · exact Bd.at_ hs hl ho
    split
    · exact Bd.at_ hs hl ho
    · exact h
theorem rbestF_next {ss : List Sm} {least f k : Nat} {s : Sm} {st : Bs} (h : ss[k]? = some s) : (ss.take (k + 1)).foldl (rstepB ss least f) st = rstepB ss least f ((ss.take k).foldl (rstepB ss least f) st) s := by
  rw [take_next h, List.foldl_append]; rfl
theorem rrange_next (ss : List Sm) (least k : Nat) (st : Bs) : (List.range (k + 1)).foldl (rbestF ss least) st = rbestF ss least ((List.range k).foldl (rbestF ss least) st) k := by
  rw [List.range_succ, List.foldl_append]; rfl
theorem sum_next0 {ss : List Sm} {k : Nat} {s : Sm} (h : ss[k]? = some s) : sumM (ss.take (k + 1)) = sumM (ss.take k) + s.t := sumM_next h
def ftB (b : Bs) : Int := if 0 ≤ b.f then b.f else 0
def fdB (b : Bs) : Bool := decide (0 ≤ b.f)
theorem ftB_some {b : Bs} (h : 0 ≤ b.f) : ftB b = b.f := if_pos h
theorem fdB_some {b : Bs} (h : 0 ≤ b.f) : fdB b = true := decide_eq_true h
theorem fdB_none {b : Bs} (h : ¬ 0 ≤ b.f) : fdB b = false := decide_eq_false h
def RSplitPost (ss : List Sm) (n least : Nat) (w : World) (e : Ending) (w' : World) : Prop :=
  e = .returned (.tuple #[.int .i64 (ftB (bestB ss n least)), .int .i64 (bestB ss n least).c, .bool (fdB (bestB ss n least))]) ∧ ∃ q, w' = w.drewN q

end Go.Proofs.Ytdpijhnbhopnbaa
/- The references of chapter 4: Depth, Tree, Ready, Left, Leaf. Conditions: a tree that reads as a list of nodes. -/
namespace Go.Proofs.Ytdpijhnbhopnbaa
set_option linter.unusedVariables false
set_option linter.unusedSimpArgs false
open Go.RowKit

end Go.Proofs.Ytdpijhnbhopnbaa
/- The reference of the walk to a leaf: orchref1.Leaf (the leaf, and the way). Conditions: a tree in which what is below stands behind; a row that has the cells it asks. -/
namespace Go.Proofs.Ytdpijhnbhopnbaa
set_option linter.unusedVariables false
set_option linter.unusedSimpArgs false
open Go.RowKit

def RLPost (t : List Nd) (row : List Int) (w : World) (e : Ending) (w' : World) : Prop :=
  ∃ v, e = .returned (.tuple #[.int .i64 (leafOf t row : Nat), v]) ∧ w'.ownsRow w.heap.size 3 1 v ((0 :: wayFrom t row t.length 0).length) ((0 :: wayFrom t row t.length 0).map (Value.int .i64)) ∧ Below w.heap.size w w'

end Go.Proofs.Ytdpijhnbhopnbaa
/- cut.Bin and cut.Merge: their contracts. Conditions: slices that read as lists. -/
namespace Go.Proofs.Ytdpijhnbhopnbaa
set_option linter.unusedVariables false
set_option linter.unusedSimpArgs false
open Go.RowKit

/-- of a list that rises: what stands at its bin, less one, is the greatest that is at most a number -/
theorem bin_rep {l : List Int} (h : l.Pairwise (· < ·)) (c : Int) : binN l c ≤ l.length ∧ (∀ (j : Nat) x, l[j]? = some x → (j < binN l c ↔ x ≤ c)) := by
  induction l with
  | nil => exact ⟨Nat.le_refl _, fun j x h => by simp at h⟩
  | cons a r ih =>
    rw [List.pairwise_cons] at h
    obtain ⟨h1, h2⟩ := ih h.2
    unfold binN at *
    rw [List.filter_cons]
    by_cases ha : a ≤ c
    · simp only [ha, decide_true, if_true, List.length_cons]
      refine ⟨by omega, fun j x hx => ?_⟩
      cases j with
      | zero => simp at hx; subst hx; simp [ha]
      | succ j => rw [← h2 j x (by simpa using hx)]; omega
    · have h0 : (r.filter fun x => decide (x ≤ c)) = [] := by
        rw [List.filter_eq_nil_iff]
        intro x hx
        have := h.1 x hx
        simp; omega
      simp only [ha, decide_false, Bool.false_eq_true, if_false, h0, List.length_nil]
      refine ⟨Nat.zero_le _, fun j x hx => ?_⟩
      constructor
      · intro hj; omega
      · intro hxc
        exfalso
        cases j with
        | zero => simp at hx; subst hx; exact ha hxc
        | succ j => have := h.1 x (List.mem_of_getElem? (by simpa using hx : r[j]? = some x)); omega
def binE (l : List Int) (x : Int) : Int := if cutE l = 0 then (if cellB x = true then 0 else 1) else cutE l
def binV (l : List Int) (x : Int) : Int := if binE l x = 0 then (binN l x : Int) else 0
def mergeE (a b : List Int) : Int := if cutE a = 0 then (if cutE b = 0 then (if 60 < (mergeV a b).length then 4 else 0) else cutE b) else cutE a
def mergeR (a b : List Int) : List Int := if mergeE a b = 0 then mergeV a b else []
def MergePost (a b : List Int) (w : World) (e : Ending) (w' : World) : Prop :=
  ∃ v, e = .returned (.tuple #[v, errV (mergeE a b)]) ∧ IOwn w' w.heap.size v (mergeR a b) ∧ Below w.heap.size w w'
theorem MergePost.fault {a b : List Int} {w w' : World} {k : Int} {ev : Value} (h : mergeE a b = k) (hk : k ≠ 0) (hv : ev = errV k) (hb : Below w.heap.size w w') : MergePost a b w (.returned (.tuple #[.slice none 0 0, ev])) w' :=
  ⟨_, by rw [h, hv], by unfold mergeR; rw [if_neg (by rw [h]; exact hk)]; exact IOwn.nil_ _ _, hb⟩

end Go.Proofs.Ytdpijhnbhopnbaa
/- TreeDeep: the walk of the law's function. Conditions: arguments read as lists. -/
namespace Go.Proofs.Ytdpijhnbhopnbaa
set_option linter.unusedVariables false
set_option linter.unusedSimpArgs false
open Go.RowKit

def tree3 (a b : Int) : List Nd := [⟨0, 0, 1, 2, false, 0⟩, ⟨-1, 0, 0, 0, false, a⟩, ⟨-1, 0, 0, 0, false, b⟩]
theorem tree3_right : treeE (tree3 0 0) 8 = 0 := by decide
theorem tree3_depth : depthV (tree3 0 0) = 1 := by decide

theorem fact_depth (w : World) : Calls Try.prog 8 #[.slice (some ⟨w.heap.size, 0, none⟩) 3 3]
    (w.alloc (.cells #[.int .i64 0, .int .i64 0, .int .i64 1, .int .i64 2, .bool false, .int .i64 0, .int .i64 (-1), .int .i64 0, .int .i64 0, .int .i64 0, .bool false, .int .i64 0, .int .i64 (-1), .int .i64 0, .int .i64 0, .int .i64 0, .bool false, .int .i64 0] 32))
    fun e w' => e = .returned (.tuple #[.int .i64 1, .nilIface]) ∧ Below w.heap.size w w' := by
  have h1 := Reads.new_ w 6 3 ((tree3 0 0).flatMap Nd.cells) 32 rfl
  have hs : (w.alloc (.cells ((tree3 0 0).flatMap Nd.cells).toArray 32)).heap.size = w.heap.size + 1 := World.size_alloc _ _
  have := Depth_any (some ⟨w.heap.size, 0, none⟩) 3 3 (tree3 0 0) _ (by rw [hs]; exact h1) (by decide)
  refine Calls.mono this fun e w' ⟨he, hb⟩ => ⟨?_, ?_⟩
  · rw [he, tree3_right, tree3_depth]; rfl
  · rw [hs] at hb
    exact ((Below.refl w.heap.size w).alloc (Nat.le_refl _) _).trans (hb.mono (by omega))

theorem pow_step {k x : Nat} (h : x = 2 ^ k) : x * 2 = 2 ^ (k + 1) := by rw [h, Nat.pow_succ]
theorem pow_le10 {k : Nat} (h : k ≤ 10) : 2 ^ k ≤ 1024 := Nat.le_trans (Nat.pow_le_pow_right (by omega) h) (by decide)

end Go.Proofs.Ytdpijhnbhopnbaa
/- TreeHalves: the walk of the law's function. Conditions: arguments read as lists. -/
namespace Go.Proofs.Ytdpijhnbhopnbaa
set_option linter.unusedVariables false
set_option linter.unusedSimpArgs false
open Go.RowKit

/-! ### plain -/
theorem leaves_mem {t : List Nd} : ∀ (i k : Nat) (n : Nd), t[k]? = some n → n.f = -1 → ((i + k : Nat) : Int) ∈ leavesFrom i t := by
  induction t with
  | nil => intro i k n h; simp at h
  | cons x r ih =>
    intro i k n h hf
    rw [leavesFrom]
    cases k with
    | zero =>
      simp at h; subst h
      rw [if_pos hf]; simp
    | succ k =>
      have := ih (i + 1) k n (by simpa using h) hf
      rw [show i + 1 + k = i + (k + 1) by omega] at this
      split
      · exact List.mem_cons_of_mem _ this
      · exact this
theorem leafFrom_is {t : List Nd} {row : List Int} (hb : Behind t) : ∀ (F i : Nat), i < t.length → t.length ≤ i + F → ∃ n, t[leafFrom t row F i]? = some n ∧ n.f = -1 := by
  intro F
  induction F with
  | zero => intro i h1 h2; omega
  | succ F ih =>
    intro i h1 h2
    have hn : t[i]? = some t[i] := List.getElem?_eq_getElem h1
    by_cases hf : (t[i]).f = -1
    · rw [leafFrom_leaf hn hf]; exact ⟨_, hn, hf⟩
    · rw [leafFrom_step hn hf]
      obtain ⟨j, hj, hlt, hjl⟩ := nextOf_lt (c := cellAt row (t[i]).f) hb hn hf
      rw [hj, Int.toNat_natCast]
      exact ih j hjl (by omega)
theorem leafOf_is {t : List Nd} {row : List Int} (hb : Behind t) (h0 : 0 < t.length) : ∃ n, t[leafOf t row]? = some n ∧ n.f = -1 := leafFrom_is hb t.length 0 h0 (by omega)
theorem leafFrom_same {t : List Nd} {r s : List Int} (h : ∀ (i : Nat) n, t[i]? = some n → n.f ≠ -1 → cellAt r n.f = cellAt s n.f) : ∀ (F i : Nat), leafFrom t r F i = leafFrom t s F i := by
  intro F
  induction F with
  | zero => intro i; rfl
  | succ F ih =>
    intro i
    cases hn : t[i]? with
    | none => simp only [leafFrom, hn]
    | some n =>
      by_cases hf : n.f = -1
      · rw [leafFrom_leaf hn hf, leafFrom_leaf hn hf]
      · rw [leafFrom_step hn hf, leafFrom_step hn hf, h i n hn hf, ih]
theorem cellAt_set {r : List Int} {f : Nat} {g c : Int} (hg : 0 ≤ g) (h : g ≠ f) : cellAt (r.set f c) g = cellAt r g := by
  unfold cellAt
  rw [List.getD_eq_getElem?_getD, List.getD_eq_getElem?_getD, List.getElem?_set_ne (by omega)]
theorem rowE_set {r : List Int} {f : Nat} {c : Int} (h : rowE r = 0) (hc : -1000000 ≤ c ∧ c ≤ 1000000) : rowE (r.set f c) = 0 := by
  unfold rowE at h ⊢
  split at h
  · cases h
  · rename_i h8
    split at h
    · rename_i ha
      rw [if_neg (by simpa using h8), if_pos]
      rw [List.all_eq_true] at ha ⊢
      intro x hx
      rcases List.mem_or_eq_of_mem_set hx with hx | rfl
      · exact ha x hx
      · exact rowGood_cell hc.1 hc.2
    · cases h
theorem readyE_set {t : List Nd} {r : List Int} {f : Nat} {c : Int} (h : readyE t r = 0) (hc : -1000000 ≤ c ∧ c ≤ 1000000) : readyE t (r.set f c) = 0 := by
  unfold readyE at h ⊢
  split at h
  · rename_i h1
    rw [if_pos (rowE_set h1 hc), List.length_set]; exact h
  · rename_i h1; exact absurd h h1
theorem leafV_set {t : List Nd} {r : List Int} {f : Nat} {c : Int} (h : readyE t r = 0) (hc : -1000000 ≤ c ∧ c ≤ 1000000) (hf : ∀ (i : Nat) n, t[i]? = some n → n.f ≠ f) : leafV t (r.set f c) = leafV t r := by
  have h2 := readyE_set (f := f) h hc
  obtain ⟨_, hR, _⟩ := readyE_right h
  unfold leafV leafOf
  rw [if_pos h, if_pos h2, leafFrom_same (r := r.set f c) (s := r)]
  intro i n hn hf2
  exact cellAt_set (hR.asks i n hn hf2).1 (hf i n hn)

theorem tree3_eval4 : evalV [⟨0, 5, 1, 2, false, 0⟩, ⟨-1, 0, 0, 0, false, 7⟩, ⟨-1, 0, 0, 0, false, 9⟩] [4] = 7 ∧ readyE [⟨0, 5, 1, 2, false, 0⟩, ⟨-1, 0, 0, 0, false, 7⟩, ⟨-1, 0, 0, 0, false, 9⟩] [4] = 0 := by decide
theorem tree3_eval5 : evalV [⟨0, 5, 1, 2, false, 0⟩, ⟨-1, 0, 0, 0, false, 7⟩, ⟨-1, 0, 0, 0, false, 9⟩] [5] = 9 ∧ readyE [⟨0, 5, 1, 2, false, 0⟩, ⟨-1, 0, 0, 0, false, 7⟩, ⟨-1, 0, 0, 0, false, 9⟩] [5] = 0 := by decide

end Go.Proofs.Ytdpijhnbhopnbaa
