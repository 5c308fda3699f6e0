/- Part 18 of what LawWeighNeeds needs: GrowB. Conditions: as each lemma names. -/
import Derived.Test.YtopncifebldklaaPkWeighNeeds17
import Derived.Test.YtopncifebldklaaPkWeighNeeds08
import Derived.Test.YtopncifebldklaaPkWeighNeeds14
/- Package grow: best, Grow, Fit. Conditions: samples that read as data and are right. -/
namespace Go.Proofs.Ytopncifebldklaa
set_option linter.unusedVariables false
set_option linter.unusedSimpArgs false
open Go.RowKit

def BestPost (ss : List Sm) (n least : Nat) (w : World) (e : Ending) (w' : World) : Prop := e = .returned (.tuple #[.int .i64 (bestB ss n least).f, .int .i64 (bestB ss n least).c]) ∧ Below w.heap.size w w'
theorem world_name {p : World → Prop} (w : World) (h : ∀ x, x = w → p x) : p w := h w rfl
theorem cells_next {ss : List Sm} {f j : Nat} {s : Sm} (h : ss[j]? = some s) : (ss.take (j + 1)).map (cellS f) = (ss.take j).map (cellS f) ++ [cellS f s] := by rw [take_next h, List.map_append]; rfl
theorem cutsF_at {ss : List Sm} {f j : Nat} : (cutsF ss f)[j]? = (compactL (sortL (ss.map (cellS f))))[j + 1]? := by
  unfold cutsF
  rw [List.getElem?_drop, Nat.add_comm]

set_option maxRecDepth 100000 in
set_option maxHeartbeats 8000000 in
theorem best_any (A : Option Addr) (m c n least : Nat) (ss : List Sm) (w : World) (h : MReads w w.heap.size A m ss) (hs : SRight ss n) (hl : 1 ≤ least) (hl2 : least ≤ 60) :
    Calls Try.prog 53 #[.slice A m c, .int .i64 n, .int .i64 least] w (BestPost ss n least w) := by
  have hlen := h.len
  have hm60 : m ≤ 60 := by have := hs.most; omega
  have hm1 : 1 ≤ m := by have := hs.pos; omega
  have hn8 := hs.fe8
  have hsum := sum_60 hs.most hs.tlo hs.thi
  have hsq := sq_le (a := sumM ss) (m := 60000) (by omega) (by omega)
  have HS := hide (fun (W : World) (hB : Below w.heap.size w W) => msum_any A m c ss W ((h.below hB).more hB.size) hm60 hs.tlo hs.thi)
  have HP := hide (fun (W : World) (hB : Below w.heap.size w W) (f : Nat) (q : Int) (hf : f < n) => mpart_any A m c f q ss W ((h.below hB).more hB.size) hm60 (fun s hsm => by rw [hs.len s hsm]; exact hf))
  have HSR := hide hs
  have HST : Hid ((startB ss).f = -1 ∧ (startB ss).c = 0 ∧ (startB ss).up = sumM ss * sumM ss ∧ (startB ss).dn = m) := hide ⟨rfl, rfl, rfl, by show (ss.length : Int) = m; omega⟩
  have HL := hide hlen
  obtain ⟨S, hS⟩ : ∃ S, S = sumM ss := ⟨_, rfl⟩
  rw [← hS] at hsum hsq HS HST
  clear hlen hs hS
  go_enter Try.func53, Try.ntmps53
  go_wp2_with fail
  refine (unhide HS w (Below.refl _ _)).mono ?_
  rintro e w1 ⟨rfl, hb1⟩
  go_wp2_with fail
  refine (unhide HS w1 hb1).mono ?_
  rintro e w2 ⟨rfl, hb2⟩
  have hB2 := hb1.trans (hb2.mono hb1.size)
  clear hb1 hb2
  go_wp2_with fail
  go_loopw [6, 7, 8, 9, 28] (fun s6 s7 s8 s9 i wr => ∃ k : Nat, k ≤ n ∧ i = .int .i64 k ∧ ∃ b : Bs, Hid (b = (List.range k).foldl (bestF ss least) (startB ss)) ∧ s6 = .int .i64 b.f ∧ s7 = .int .i64 b.c ∧ s8 = .int .i64 b.up ∧ s9 = .int .i64 b.dn ∧ Below w.heap.size w wr) (fun _ _ _ _ i _ => n - (intOf i).toNat)
  case atStart =>
    obtain ⟨h1, h2, h3, h4⟩ := unhide HST
    exact ⟨0, Nat.zero_le _, rfl, startB ss, hide rfl, by rw [h1], by rw [h2], by rw [h3], by rw [h4], hB2⟩
  case round =>
    clear hB2 HST HS
    obtain ⟨k, hk, rfl, b, HBk, rfl, rfl, rfl, rfl, hbel⟩ := hrel
    by_cases hlk : k < n
    · obtain ⟨w0, hw0⟩ : ∃ w0, w0 = wr := ⟨_, rfl⟩
      subst hw0
      have hz0 := hbel.size
      obtain ⟨bf, bc, bu, bd⟩ := b
      dsimp only
      go_wp2_with fail
      go_loopw [11, 33] (fun v i wr => ∃ j : Nat, j ≤ m ∧ i = .int .i64 j ∧ Hid (IOwn wr w0.heap.size v ((ss.take j).map (cellS k))) ∧ Below w0.heap.size w0 wr) (fun _ i _ => m - (intOf i).toNat)
      case atStart => exact ⟨0, Nat.zero_le _, rfl, hide (IOwn.nil_ _ _), Below.refl _ _⟩
      case round =>
        obtain ⟨j, hj, rfl, HO, hbel1⟩ := hrel
        have hz1 := hbel1.size
        have hbelr := hbel.trans (hbel1.mono hz0)
        by_cases hlj : j < m
        · obtain ⟨b, o, s, rfl, _, hx, c0, c1, hok⟩ := (h.below hbelr).get hlj
          have HN := hide (cells_next (f := k) hx)
          have hrl := (unhide HSR).len s (List.mem_of_getElem? hx)
          have hrd := hok.reads
          have hl1 : s.n ≤ maxLen := hok.len
          unfold maxLen at hl1
          obtain ⟨sA, sn, sc, sr, st⟩ := s
          dsimp only at c0 c1 HN hrl hrd hl1
          obtain rfl : sn = n := by rw [← hrd.len, hrl]
          obtain ⟨rb, ro, x, rfl, hrb, hrx, crx⟩ := hrd.get hlk
          have HX : Hid (cellS k ⟨some ⟨rb, ro, none⟩, sn, sc, sr, st⟩ = x) := hide (by unfold cellS; rw [List.getD_eq_getElem?_getD, hrx]; rfl)
          rw [unhide HX] at HN
          obtain ⟨L, hL⟩ : ∃ L, L = (ss.take j).map (cellS k) := ⟨_, rfl⟩
          have hLl : L.length = j := by rw [hL, List.length_map, List.length_take, unhide HL]; omega
          rw [← hL] at HN HO
          have hbA := hbel1.alloc hz1 (.cells #[.slice (some ⟨rb, ro, none⟩) sn sc, .int .i64 st] 46)
          have hcx : (wr.alloc (.cells #[.slice (some ⟨rb, ro, none⟩) sn sc, .int .i64 st] 46)).cell? ⟨rb, ro + k, none⟩ = some (.int .i64 x) := (World.cell?_alloc_lt wr _ _ (by show rb < _; omega)).trans crx
          have hOA : (wr.alloc (.cells #[.slice (some ⟨rb, ro, none⟩) sn sc, .int .i64 st] 46)).ownsRow w0.heap.size 3 1 _ L.length (L.map (Value.int .i64)) := World.ownsRow.alloc (unhide HO) _
          rw [hLl] at hOA
          have hwz : w0.heap.size ≤ (wr.alloc (.cells #[.slice (some ⟨rb, ro, none⟩) sn sc, .int .i64 st] 46)).heap.size := by rw [World.size_alloc]; omega
          have HLl := hide hLl
          clear hx hok hrd hrx hL crx HO hbel1 hrl hLl
          go_wp2_with (at_builtin; refine app_one elem_int (.tmp 37) (.tmp 43) [.int .i64 x] rfl rfl rfl hOA rfl (World.size_alloc _ _) rfl (ints_oneCell .i64 [x]) (by omega) hwz ?_; intro v2 w2 hown2 hb2 _ _)
          have hown3 : IOwn w2 w0.heap.size v2 ((ss.take (j + 1)).map (cellS k)) := by
            rw [unhide HN]
            unfold IOwn
            rw [List.length_append, List.map_append, unhide HLl]
            exact hown2
          clear hown2 hOA
          go_wp2_with fail
          go_roundw
          case rel => exact ⟨j + 1, by omega, by go_num, hide hown3, hbA.trans hb2⟩
          case measure => simp [intOf] <;> omega
        · obtain rfl : j = m := by omega
          rw [List.take_of_length_le (by rw [unhide HL]; exact Nat.le_refl _)] at HO
          have hcl : (ss.map (cellS k)).length = j := by rw [List.length_map, unhide HL]
          have hSo := hide (sort_any _ (ss.map (cellS k)) w0.heap.size wr (unhide HO) hz1 (by omega))
          obtain ⟨A0, c0, hv0, _, _, _, _⟩ := (unhide HO).slice_
          rw [hcl] at hv0
          subst hv0
          clear HO
          go_wp2_with fail
          refine (unhide hSo).mono ?_
          rintro e w3 ⟨rfl, ho3, _, hb3⟩
          have hB3 := hbel1.trans hb3
          have hz3 := hB3.size
          have hCo := hide (compact_any _ (sortL (ss.map (cellS k))) w0.heap.size w3 ho3 hz3 (by rw [sortL_len]; omega))
          have HCS := hide (compactL_sorted (sortL_sorted (ss.map (cellS k))))
          clear hSo ho3 hb3 hbel1 hbelr
          go_wp2_with fail
          refine (unhide hCo).mono ?_
          rintro e w4 ⟨v4, rfl, ho4, hb4⟩
          have hB4 := hB3.trans hb4
          have hz4 := hB4.size
          have hbel4 := hbel.trans (hB4.mono hz0)
          obtain ⟨CL, hCL⟩ : ∃ CL, CL = compactL (sortL (ss.map (cellS k))) := ⟨_, rfl⟩
          have HCT : Hid (∀ i, (cutsF ss k)[i]? = CL[i + 1]?) := hide (fun i => by rw [hCL]; exact cutsF_at)
          have HCN : Hid ((cutsF ss k).length = CL.length - 1) := hide (by rw [hCL]; unfold cutsF; rw [List.length_drop])
          rw [← hCL] at ho4
          have hp1 : 1 ≤ CL.length := by
            rw [hCL]
            have h1 := (unhide HCS).2
            cases hz : compactL (sortL (ss.map (cellS k))) with
            | nil =>
              rw [hz] at h1
              have h2 := (sortL_perm (ss.map (cellS k))).length_eq
              cases hy : sortL (ss.map (cellS k)) with
              | nil => rw [hy] at h2; simp at h2; simp at hcl; omega
              | cons y r => have := (h1 y).2 (by rw [hy]; exact List.mem_cons_self ..); simp at this
            | cons y r => simp
          have hp60 : CL.length ≤ j := by
            have := compactL_len (sortL (ss.map (cellS k)))
            rw [sortL_len, hcl] at this
            rw [hCL]; exact this
          obtain ⟨A4, c4, rfl, hr4, _, hpc, _⟩ := ho4.slice_
          have hc4 := own_cap ho4
          unfold maxLen at hc4
          obtain ⟨p, hp⟩ : ∃ p, p = CL.length := ⟨_, rfl⟩
          rw [← hp] at hr4 hp1 hp60 hpc ⊢
          obtain ⟨g, o4, rfl, hg, hcell⟩ := Reads.spot hr4 (by omega) (by omega)
          have HPL := hide hp
          have HCELL : Hid (∀ i y, CL[i + 1]? = some y → w4.cell? ⟨g, o4 + 1 + i, none⟩ = some (.int .i64 y)) := hide (fun i y hy => by
            have := hcell (i + 1) (.int .i64 y) (by rw [List.getElem?_map, hy]; rfl)
            rw [show o4 + 1 + i = o4 + (i + 1) by omega]; exact this)
          clear hcell hr4 ho4 hCo hCL hb4 hB3 hp HCS
          have hmin : min 1 (j : Int) = 1 := by omega
          have HNX : Hid ((List.range (k + 1)).foldl (bestF ss least) (startB ss) = bestF ss least ⟨bf, bc, bu, bd⟩ k) := hide (by rw [bestB_next, ← unhide HBk])
          have HOK : Hid (∀ i, BsOk ss n least (((cutsF ss k).take i).foldl (stepB ss least k) ⟨bf, bc, bu, bd⟩)) := hide (fun i => by
            have := BsOk.range (unhide HSR) hl k (by omega)
            rw [← unhide HBk] at this
            exact this.part (unhide HSR) hlk hl)
          clear HBk hbel hB4 hz3
          by_cases hc1 : c4 = 1
          · have hp0 : p = 1 := by omega
            have HZ : Hid ((List.range (k + 1)).foldl (bestF ss least) (startB ss) = ⟨bf, bc, bu, bd⟩) := hide (by
              rw [unhide HNX]
              unfold bestF
              rw [show cutsF ss k = [] from List.length_eq_zero_iff.1 (by rw [unhide HCN, ← unhide HPL, hp0])]
              rfl)
            subst hp0
            subst hc1
            clear HCELL HCT HCN HPL HNX HOK
            go_wp2_with fail
            go_loopw [6, 7, 8, 9, 55] (fun s6 s7 s8 s9 i wr => s6 = .int .i64 bf ∧ s7 = .int .i64 bc ∧ s8 = .int .i64 bu ∧ s9 = .int .i64 bd ∧ i = .int .i64 0 ∧ wr = w4) (fun _ _ _ _ _ _ => 0)
            case atStart => exact ⟨rfl, rfl, rfl, rfl, rfl, rfl⟩
            case round =>
              obtain ⟨rfl, rfl, rfl, rfl, rfl, rfl⟩ := hrel
              go_wp2_with fail
              go_roundw
              case rel => exact ⟨k + 1, by omega, by go_num, ⟨bf, bc, bu, bd⟩, hide (unhide HZ).symm, rfl, rfl, rfl, rfl, hbel4⟩
              case measure => simp [intOf] <;> omega
          · go_wp2_with fail
            go_loopw [6, 7, 8, 9, 55] (fun s6 s7 s8 s9 i wr => ∃ i' : Nat, i' ≤ p - 1 ∧ i = .int .i64 i' ∧ ∃ b : Bs, Hid (b = ((cutsF ss k).take i').foldl (stepB ss least k) ⟨bf, bc, bu, bd⟩) ∧ s6 = .int .i64 b.f ∧ s7 = .int .i64 b.c ∧ s8 = .int .i64 b.up ∧ s9 = .int .i64 b.dn ∧ Below w4.heap.size w4 wr) (fun _ _ _ _ i _ => p - (intOf i).toNat)
            case atStart => exact ⟨0, Nat.zero_le _, rfl, ⟨bf, bc, bu, bd⟩, hide rfl, rfl, rfl, rfl, rfl, Below.refl _ _⟩
            case round =>
              obtain ⟨i, hi, rfl, b, HBi, rfl, rfl, rfl, rfl, hbel5⟩ := hrel
              have hz5 := hbel5.size
              have hbw5 := hbel4.trans (hbel5.mono hbel4.size)
              by_cases hli : i < p - 1
              · obtain ⟨y, hy⟩ : ∃ y, CL[i + 1]? = some y := ⟨_, List.getElem?_eq_getElem (by have := unhide HPL; omega)⟩
                have hcy := (hbel5.cell (p := ⟨g, o4 + 1 + i, none⟩) hg).trans (unhide HCELL i y hy)
                have hcut : (cutsF ss k)[i]? = some y := (unhide HCT i).trans hy
                have HNi := hide (bestF_next (ss := ss) (least := least) (st := ⟨bf, bc, bu, bd⟩) hcut)
                have hok := unhide HOK i
                rw [← unhide HBi] at HNi hok
                obtain ⟨e1, e2, e3, e4, e5, e6, e7, e8, _⟩ := hok
                have hPt := hide (unhide HP wr hbw5 k y hlk)
                unfold PartPost at hPt
                have hpl := parts_len k y ss
                rw [unhide HL] at hpl
                have HM1 : Hid (∀ s ∈ lowS k y ss, -1000 ≤ s.t ∧ s.t ≤ 1000) := hide (fun s hs => ⟨(unhide HSR).tlo s (lowS_mem hs).1, (unhide HSR).thi s (lowS_mem hs).1⟩)
                have HM2 : Hid (∀ s ∈ highS k y ss, -1000 ≤ s.t ∧ s.t ≤ 1000) := hide (fun s hs => ⟨(unhide HSR).tlo s (highS_mem hs).1, (unhide HSR).thi s (highS_mem hs).1⟩)
                obtain ⟨La, hLa⟩ : ∃ L, L = lowS k y ss := ⟨_, rfl⟩
                obtain ⟨Lb, hLb⟩ : ∃ L, L = highS k y ss := ⟨_, rfl⟩
                have HST : Hid (stepB ss least k b y = tryB least k y La Lb b) := hide (by rw [hLa, hLb]; rfl)
                rw [← hLa] at hPt hpl HM1
                rw [← hLb] at hPt hpl HM2
                obtain ⟨la, hla⟩ : ∃ n, n = La.length := ⟨_, rfl⟩
                obtain ⟨lb, hlb⟩ : ∃ n, n = Lb.length := ⟨_, rfl⟩
                rw [← hla, ← hlb] at hPt hpl
                have HLA := hide hla
                have HLB := hide hlb
                obtain ⟨b6, b7, b8, b9⟩ := b
                dsimp only at e1 e2 e3 e4 e5 e6 e7 e8
                clear hy hcut hLa hLb hla hlb
                by_cases q1 : la < least
                · have d1 : decide (la < least) = true := decide_eq_true q1
                  have d1' : decide ((la : Int) < (least : Int)) = true := decide_eq_true (by omega)
                  have HF : Hid (((cutsF ss k).take (i + 1)).foldl (stepB ss least k) ⟨bf, bc, bu, bd⟩ = ⟨b6, b7, b8, b9⟩) := hide (by rw [unhide HNi, unhide HST]; unfold tryB; rw [if_pos (by rw [← unhide HLA]; exact q1)])
                  clear HNi HST q1 e1 e2 e3 e4 e5 e6 e7 e8
                  go_wp2_with fail
                  refine (unhide hPt).mono ?_
                  rintro e w6 ⟨A1, c1, A2, c2, rfl, ⟨_, hr1⟩, ⟨_, hr2⟩, hb6⟩
                  clear hPt
                  go_wp2_with fail
                  go_roundw
                  case rel => exact ⟨i + 1, by omega, by go_num, ⟨b6, b7, b8, b9⟩, hide (unhide HF).symm, rfl, rfl, rfl, rfl, hbel5.trans (hb6.mono hz5)⟩
                  case measure => simp [intOf] <;> omega
                have d1 : decide (la < least) = false := decide_eq_false q1
                have d1' : decide ((la : Int) < (least : Int)) = false := decide_eq_false (by omega)
                by_cases q2 : lb < least
                · have d2 : decide (lb < least) = true := decide_eq_true q2
                  have d2' : decide ((lb : Int) < (least : Int)) = true := decide_eq_true (by omega)
                  have HF : Hid (((cutsF ss k).take (i + 1)).foldl (stepB ss least k) ⟨bf, bc, bu, bd⟩ = ⟨b6, b7, b8, b9⟩) := hide (by rw [unhide HNi, unhide HST]; unfold tryB; rw [if_neg (by rw [← unhide HLA]; exact q1), if_pos (by rw [← unhide HLB]; exact q2)])
                  clear HNi HST q1 q2 e1 e2 e3 e4 e5 e6 e7 e8
                  go_wp2_with fail
                  refine (unhide hPt).mono ?_
                  rintro e w6 ⟨A1, c1, A2, c2, rfl, ⟨_, hr1⟩, ⟨_, hr2⟩, hb6⟩
                  clear hPt
                  go_wp2_with fail
                  go_roundw
                  case rel => exact ⟨i + 1, by omega, by go_num, ⟨b6, b7, b8, b9⟩, hide (unhide HF).symm, rfl, rfl, rfl, rfl, hbel5.trans (hb6.mono hz5)⟩
                  case measure => simp [intOf] <;> omega
                have d2 : decide (lb < least) = false := decide_eq_false q2
                have d2' : decide ((lb : Int) < (least : Int)) = false := decide_eq_false (by omega)
                have HU := hide (upOf_le (a := La) (b := Lb) (by rw [← unhide HLA, ← unhide HLB]; omega) (fun s h => (unhide HM1 s h).1) (fun s h => (unhide HM1 s h).2) (fun s h => (unhide HM2 s h).1) (fun s h => (unhide HM2 s h).2))
                have hsa := sum_60 (ss := La) (by rw [← unhide HLA]; omega) (fun s h => (unhide HM1 s h).1) (fun s h => (unhide HM1 s h).2)
                have hsb := sum_60 (ss := Lb) (by rw [← unhide HLB]; omega) (fun s h => (unhide HM2 s h).1) (fun s h => (unhide HM2 s h).2)
                have HSa := hide (fun (W : World) (A' : Option Addr) (c' : Nat) (h' : MReads W W.heap.size A' La.length La) => msum_any A' La.length c' La W h' (by rw [← unhide HLA]; omega) (fun s h => (unhide HM1 s h).1) (fun s h => (unhide HM1 s h).2))
                have HSb := hide (fun (W : World) (A' : Option Addr) (c' : Nat) (h' : MReads W W.heap.size A' Lb.length Lb) => msum_any A' Lb.length c' Lb W h' (by rw [← unhide HLB]; omega) (fun s h => (unhide HM2 s h).1) (fun s h => (unhide HM2 s h).2))
                have hTry : tryB least k y La Lb ⟨b6, b7, b8, b9⟩ = if b8 * dnOf La Lb < upOf La Lb * b9 then ⟨k, y, upOf La Lb, dnOf La Lb⟩ else ⟨b6, b7, b8, b9⟩ := by
                  unfold tryB
                  rw [if_neg (by rw [← unhide HLA]; exact q1), if_neg (by rw [← unhide HLB]; exact q2)]
                have hup : upOf La Lb = sumM La * sumM La * (lb : Int) + sumM Lb * sumM Lb * (la : Int) := by unfold upOf; rw [← unhide HLA, ← unhide HLB]
                have hdn : dnOf La Lb = (la : Int) * (lb : Int) := by unfold dnOf; rw [← unhide HLA, ← unhide HLB]
                rw [← unhide HLA] at HSa
                rw [← unhide HLB] at HSb
                obtain ⟨sa, hsae⟩ : ∃ s, s = sumM La := ⟨_, rfl⟩
                obtain ⟨sb, hsbe⟩ : ∃ s, s = sumM Lb := ⟨_, rfl⟩
                rw [← hsae] at hsa HSa hup
                rw [← hsbe] at hsb HSb hup
                have g1 := sq_le (a := sa) (m := 60000) (by omega) (by omega)
                have g2 := sq_le (a := sb) (m := 60000) (by omega) (by omega)
                have g3 : 0 ≤ sa * sa * (lb : Int) := Int.mul_nonneg g1.1 (by omega)
                have g4 : 0 ≤ sb * sb * (la : Int) := Int.mul_nonneg g2.1 (by omega)
                have hu := unhide HU
                rw [hup] at hu hTry
                rw [hdn] at hTry
                have g5 : (la : Int) * lb ≤ 900 := prod_900 (by omega)
                have g6 : 0 < (la : Int) * lb := Int.mul_pos (by omega) (by omega)
                have g7 : 0 ≤ b8 * ((la : Int) * lb) := Int.mul_nonneg e3 (by omega)
                have g8 : b8 * ((la : Int) * lb) ≤ 1000000000000 * 900 := Int.mul_le_mul e4 g5 (by omega) (by omega)
                have g9 : 0 ≤ (sa * sa * (lb : Int) + sb * sb * (la : Int)) * b9 := Int.mul_nonneg hu.1 (by omega)
                have g10 : (sa * sa * (lb : Int) + sb * sb * (la : Int)) * b9 ≤ 1000000000000 * 900 := Int.mul_le_mul hu.2 e2 (by omega) (by omega)
                have HNN := hide hTry
                have hg1 := g1.1
                have hg1' := g1.2
                have hg2 := g2.1
                have hg2' := g2.2
                have hu1 := hu.2
                clear hTry hup hdn hsae hsbe HU HM1 HM2 q1 q2 g1 g2 hu e5 e6 e7 e8
                by_cases q3 : b8 * ((la : Int) * lb) < (sa * sa * (lb : Int) + sb * sb * (la : Int)) * b9
                · have d3 : decide (b8 * ((la : Int) * lb) < (sa * sa * (lb : Int) + sb * sb * (la : Int)) * b9) = true := decide_eq_true q3
                  have HF : Hid (((cutsF ss k).take (i + 1)).foldl (stepB ss least k) ⟨bf, bc, bu, bd⟩ = ⟨k, y, sa * sa * (lb : Int) + sb * sb * (la : Int), (la : Int) * lb⟩) := hide (by rw [unhide HNi, unhide HST, unhide HNN, if_pos q3])
                  clear HNi HST HNN q3
                  go_wp2_with fail
                  refine (unhide hPt).mono ?_
                  rintro e w6 ⟨A1, c1, A2, c2, rfl, ⟨_, hr1⟩, ⟨_, hr2⟩, hb6⟩
                  clear hPt
                  have hz6 := hb6.size
                  go_wp2_with fail
                  refine (unhide HSa w6 A1 c1 hr1).mono ?_
                  rintro e w7 ⟨rfl, hb7⟩
                  have hr1' := (hr1.below hb7).more hb7.size
                  clear hr1
                  go_wp2_with fail
                  refine (unhide HSa w7 A1 c1 hr1').mono ?_
                  rintro e w8 ⟨rfl, hb8⟩
                  have hB8 := hb7.trans (hb8.mono hb7.size)
                  have hr2' := (hr2.below hB8).more hB8.size
                  clear hr2 hr1' hb7 hb8
                  go_wp2_with fail
                  refine (unhide HSb w8 A2 c2 hr2').mono ?_
                  rintro e w9 ⟨rfl, hb9⟩
                  have hB9 := hB8.trans (hb9.mono hB8.size)
                  have hr2'' := (hr2'.below hb9).more hb9.size
                  clear hr2' hB8 hb9
                  go_wp2_with fail
                  refine (unhide HSb w9 A2 c2 hr2'').mono ?_
                  rintro e w10 ⟨rfl, hb10⟩
                  have hB10 := hB9.trans (hb10.mono hB9.size)
                  clear hr2'' hB9 hb10 HSa HSb
                  go_wp2_with fail
                  go_roundw
                  case rel => exact ⟨i + 1, by omega, by go_num, ⟨k, y, sa * sa * (lb : Int) + sb * sb * (la : Int), (la : Int) * lb⟩, hide (unhide HF).symm, rfl, rfl, rfl, rfl, hbel5.trans ((hb6.trans (hB10.mono hz6)).mono hz5)⟩
                  case measure => simp [intOf] <;> omega
                · have d3 : decide (b8 * ((la : Int) * lb) < (sa * sa * (lb : Int) + sb * sb * (la : Int)) * b9) = false := decide_eq_false q3
                  have HF : Hid (((cutsF ss k).take (i + 1)).foldl (stepB ss least k) ⟨bf, bc, bu, bd⟩ = ⟨b6, b7, b8, b9⟩) := hide (by rw [unhide HNi, unhide HST, unhide HNN, if_neg q3])
                  clear HNi HST HNN q3
                  go_wp2_with fail
                  refine (unhide hPt).mono ?_
                  rintro e w6 ⟨A1, c1, A2, c2, rfl, ⟨_, hr1⟩, ⟨_, hr2⟩, hb6⟩
                  clear hPt
                  have hz6 := hb6.size
                  go_wp2_with fail
                  refine (unhide HSa w6 A1 c1 hr1).mono ?_
                  rintro e w7 ⟨rfl, hb7⟩
                  have hr1' := (hr1.below hb7).more hb7.size
                  clear hr1
                  go_wp2_with fail
                  refine (unhide HSa w7 A1 c1 hr1').mono ?_
                  rintro e w8 ⟨rfl, hb8⟩
                  have hB8 := hb7.trans (hb8.mono hb7.size)
                  have hr2' := (hr2.below hB8).more hB8.size
                  clear hr2 hr1' hb7 hb8
                  go_wp2_with fail
                  refine (unhide HSb w8 A2 c2 hr2').mono ?_
                  rintro e w9 ⟨rfl, hb9⟩
                  have hB9 := hB8.trans (hb9.mono hB8.size)
                  have hr2'' := (hr2'.below hb9).more hb9.size
                  clear hr2' hB8 hb9
                  go_wp2_with fail
                  refine (unhide HSb w9 A2 c2 hr2'').mono ?_
                  rintro e w10 ⟨rfl, hb10⟩
                  have hB10 := hB9.trans (hb10.mono hB9.size)
                  clear hr2'' hB9 hb10 HSa HSb
                  go_wp2_with fail
                  go_roundw
                  case rel => exact ⟨i + 1, by omega, by go_num, ⟨b6, b7, b8, b9⟩, hide (unhide HF).symm, rfl, rfl, rfl, rfl, hbel5.trans ((hb6.trans (hB10.mono hz6)).mono hz5)⟩
                  case measure => simp [intOf] <;> omega
              · have hii : i = p - 1 := by omega
                have HZ : Hid ((List.range (k + 1)).foldl (bestF ss least) (startB ss) = b) := hide (by
                  rw [unhide HNX, unhide HBi]
                  unfold bestF
                  rw [List.take_of_length_le (by rw [unhide HCN, ← unhide HPL]; omega)])
                obtain ⟨b6, b7, b8, b9⟩ := b
                dsimp only
                clear HCELL HCT HCN HPL HNX HOK HBi
                go_wp2_with fail
                go_roundw
                case rel => exact ⟨k + 1, by omega, by go_num, ⟨b6, b7, b8, b9⟩, hide (unhide HZ).symm, rfl, rfl, rfl, rfl, hbw5⟩
                case measure => simp [intOf] <;> omega
    · obtain rfl : k = n := by omega
      go_wp2_with fail
      go_ret2
      unfold BestPost
      rw [show bestB ss k least = b from (unhide HBk).symm]
      exact ⟨rfl, hbel⟩
end Go.Proofs.Ytopncifebldklaa
