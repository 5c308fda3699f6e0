/- Part 20 of what LawGrowTells needs: GrowTells, Args2, Grove, ArgsG, ArgsM. Conditions: as each lemma names. -/
import Derived.Test.YtdpijhnbhopnbaaDoorPkGrowTells18
import Derived.Test.YtdpijhnbhopnbaaDoorPkGrowTells19
import Derived.Deep.CutRange
import Derived.Test.YtdpijhnbhopnbaaDoorPkGrowTells05
import Derived.Test.YtdpijhnbhopnbaaDoorPkGrowTells02
import Derived.Deep.Slices
import Derived.Test.YtdpijhnbhopnbaaDoorPkGrowTells03
import Derived.Test.YtdpijhnbhopnbaaDoorPkGrowTells10
/- GrowTells: the walk. Conditions: a tree and samples that read as data, the type of errors as it lies. -/
namespace Go.Proofs.YtdpijhnbhopnbaaDoor
set_option linter.unusedVariables false
set_option linter.unusedSimpArgs false
open Go.RowKit

def NdAt (l : List Nd) (v : Value) (w : World) : Prop := ∃ A c, v = .slice A l.length c ∧ NReads w w.heap.size A l.length l
theorem NdAt.below {l : List Nd} {v : Value} {w w' : World} (h : NdAt l v w) (hb : Below w.heap.size w w') : NdAt l v w' := by
  obtain ⟨A, c, e, hr⟩ := h
  exact ⟨A, c, e, (hr.below hb).more hb.size⟩
theorem NdAt.nil_ (w : World) : NdAt [] (.slice none 0 0) w := ⟨none, 0, rfl, Reads.none_⟩
theorem NOwn.at' {l : List Nd} {v : Value} {w : World} {base : Nat} (h : NOwn w base v l) : NdAt l v w := by
  obtain ⟨A, c, e, hr, _⟩ := h.slice
  exact ⟨A, c, e, hr⟩
theorem calls_nameG {P : Program} {f : FuncId} {xs : Array Value} {W : World} {Q : Ending → World → Prop} (h : ∀ X, X = W → Calls P f xs X Q) : Calls P f xs W Q := h W rfl
def bad1 (E least : Int) : Bool := (E == 0) && (decide (least < 1) || decide (60 < least))
def bad2 (E depth least : Int) : Bool := (E == 0) && (decide (depth < 0) || decide (5 < depth) || decide (least < 1) || decide (60 < least))
def F1 (E least : Int) : Int := if bad1 E least = true then 1 else E
theorem split_F1 {ss : List Sm} {fe least : Int} (h : F1 (sampE ss fe) least ≠ 0) : splitE ss fe least = F1 (sampE ss fe) least ∧ splitF ss fe least = 0 ∧ splitC ss fe least = 0 := by
  have key : splitE ss fe least = F1 (sampE ss fe) least := by
    unfold F1 bad1 at h ⊢
    unfold splitE
    by_cases h0 : sampE ss fe = 0
    · by_cases h1 : least < 1 ∨ 60 < least
      · rw [if_pos h0, if_pos h1, if_pos (by simp [h0, h1])]
      · rw [if_neg (by simp [h0]; omega)] at h
        exact absurd h0 h
    · rw [if_neg h0, if_neg (by simp [h0])]
  refine ⟨key, ?_, ?_⟩
  · unfold splitF; rw [key, if_neg h]
  · unfold splitC; rw [key, if_neg h]
theorem F1_0 {E least : Int} (h : F1 E least = 0) : E = 0 ∧ 1 ≤ least ∧ least ≤ 60 := by
  unfold F1 bad1 at h
  by_cases h0 : E = 0
  · by_cases h1 : least < 1 ∨ 60 < least
    · rw [if_pos (by simp [h0, h1])] at h; cases h
    · exact ⟨h0, by omega, by omega⟩
  · rw [if_neg (by simp [h0])] at h; exact absurd h h0
theorem fit_F2 {ss : List Sm} {fe depth least : Int} : fitE ss fe depth least = if bad2 (sampE ss fe) depth least = true then 1 else sampE ss fe := by
  unfold fitE bad2
  by_cases h0 : sampE ss fe = 0
  · rw [if_pos h0]
    by_cases h1 : depth < 0 ∨ 5 < depth ∨ least < 1 ∨ 60 < least
    · rw [if_pos h1, if_pos (by simp [h0]; omega)]
    · rw [if_neg h1, if_neg (by simp [h0]; omega)]; exact h0.symm
  · rw [if_neg h0, if_neg (by simp [h0])]

set_option maxRecDepth 100000 in
set_option maxHeartbeats 8000000 in
theorem growTells_walk (A C : Option Addr) (m c k d : Nat) (fe depth least : Int) (ss : List Sm) (t : List Nd) (w : World) (he : ErrT w) (hs : MReads w w.heap.size A m ss) (ht : NReads w w.heap.size C k t) (hm : m ≤ maxLen) (hk : k ≤ maxLen) :
    Calls Tryd.prog 3 #[.slice A m c, .int .i64 fe, .int .i64 depth, .int .i64 least, .slice C k d] w fun e w' => e = .returned (.bool true) ∧ Below w.heap.size w w' := by
  have h0s := he.lt
  have cEr := hide (fun (W : World) (hB : Below w.heap.size w W) (a b : Int) => error_any a b W (he.below hB h0s))
  have cS := hide (rsamples_any A m c fe ss w hs hm)
  unfold RSampPost at cS
  have cC := hide (fun (W : World) (hB : Below w.heap.size w W) => gCheck_any A m c fe ss W ((hs.below hB).more hB.size) hm)
  unfold MCheckPost at cC
  have cSp := hide (fun (W : World) (hB : Below w.heap.size w W) => split_any A m c fe least ss W ((hs.below hB).more hB.size) hm)
  have cRS : Hid (F1 (sampE ss fe) least = 0 → ∃ x y fd, (splitF ss fe least = if fd = true then x else 0) ∧ (splitC ss fe least = if fd = true then y else 0) ∧ (splitE ss fe least = if fd = true then 0 else 5) ∧ ∀ W, Below w.heap.size w W → Calls Tryd.prog 7 #[.slice A m c, .int .i64 fe, .int .i64 least] W fun e w' => e = .returned (.tuple #[.int .i64 x, .int .i64 y, .bool fd]) ∧ ∃ q, w' = W.drewN q) := hide (fun h => by
    obtain ⟨e0, l1, l2⟩ := F1_0 h
    obtain ⟨n, rfl, hsr⟩ := samp_right e0
    obtain ⟨ls, rfl⟩ : ∃ l : Nat, least = l := ⟨least.toNat, by omega⟩
    refine ⟨_, _, fdB (bestB ss n ls), ?_, ?_, ?_, fun W hB => rsplit_any A m c n ls ss W ((hs.below hB).more hB.size) hsr (by omega) (by omega)⟩
    all_goals
      by_cases hb : 0 ≤ (bestB ss n ls).f
      · have hE : splitE ss n ls = 0 := by unfold splitE; rw [if_pos e0, if_neg (by omega), Int.toNat_natCast, Int.toNat_natCast, if_neg (by omega)]
        simp only [splitF, splitC, hE, fdB_some hb, ftB_some hb, Int.toNat_natCast, if_true]
      · have hE : splitE ss n ls = 5 := by unfold splitE; rw [if_pos e0, if_neg (by omega), Int.toNat_natCast, Int.toNat_natCast, if_pos (by omega)]
        simp [splitF, splitC, hE, fdB_none hb])
  have cF := hide (fun (W : World) (hB : Below w.heap.size w W) => fit_grow A m c fe depth least ss W ((hs.below hB).more hB.size) hm)
  unfold NodesPost at cF
  have cG : Hid (fitE ss fe depth least = 0 → ∀ W, Below w.heap.size w W → Calls Tryd.prog 9 #[.slice none 0 0, .slice A m c, .int .i64 fe, .int .i64 depth, .int .i64 least] W fun e w' => ∃ v, e = .returned v ∧ NdAt (fitT ss fe depth least) v w' ∧ Below W.heap.size W w') := hide (fun h W hB => by
    obtain ⟨a1, a2, a3, a4, a5⟩ := fitE_0 h
    obtain ⟨n, hn, hsr⟩ := samp_right a1
    obtain ⟨dd, hd⟩ : ∃ d : Nat, depth = d := ⟨depth.toNat, by omega⟩
    obtain ⟨ls, hls⟩ : ∃ l : Nat, least = l := ⟨least.toNat, by omega⟩
    have HT : fitT ss fe depth least = layK 0 (growK n ls dd ss) := by unfold fitT; rw [if_pos h, hn, hd, hls]; rfl
    have hsz := growK_size n ls dd ss
    have hpow : 2 ^ (dd + 1) ≤ 2 ^ 6 := Nat.pow_le_pow_right (by omega) (by omega)
    subst hn hd hls
    rw [HT]
    refine (rgrow_any n ls (by omega) (by omega) dd dd rfl (by omega) ss A m c [] (.slice none 0 0) W.heap.size W hsr (fun w' hg => (hs.below ((hB.trans ((only_of_below_none hg).mono hB.size)))).more (Nat.le_trans hB.size hg.size)) (NOwn.nil_ _ _) (Nat.le_refl _) (by simp; omega)).mono ?_
    rintro e w' ⟨v, rfl, ho, hg, _⟩
    exact ⟨v, rfl, ho.at', only_of_below_none hg⟩)
  have cR := hide (fun (W : World) (hB : Below w.heap.size w W) => rreadyS_any C A k d m c t ss W ((ht.below hB).more hB.size) ((hs.below hB).more hB.size) hk hm)
  have cRW : Hid (readyS t ss = 0 → ∀ W, Below w.heap.size w W → Calls Tryd.prog 13 #[.slice C k d, .slice A m c] W fun e w' => e = .returned (.int .i64 (wrongE t ss)) ∧ Below W.heap.size W w') := hide (fun h W hB => by
    obtain ⟨n, hRS, _, _⟩ := readyS_0 h
    have := rwrong_any C A k d m c n t ss W ((ht.below hB).more hB.size) ((hs.below hB).more hB.size) hRS
    rwa [show wrongM t ss = wrongE t ss by unfold wrongE; rw [if_pos h]] at this)
  have cW := hide (fun (W : World) (hB : Below w.heap.size w W) => wrong_any C A k d m c t ss W ((ht.below hB).more hB.size) ((hs.below hB).more hB.size) hk hm)
  have HW0 : Hid (readyS t ss ≠ 0 → wrongE t ss = 0) := hide (fun h => by unfold wrongE; rw [if_neg h])
  have HS1 : Hid (F1 (sampE ss fe) least ≠ 0 → splitE ss fe least = F1 (sampE ss fe) least ∧ splitF ss fe least = 0 ∧ splitC ss fe least = 0) := hide split_F1
  have HF2 : Hid (fitE ss fe depth least = if bad2 (sampE ss fe) depth least = true then 1 else sampE ss fe) := hide fit_F2
  have HT0 : Hid (fitE ss fe depth least ≠ 0 → fitT ss fe depth least = []) := hide (fun h => by unfold fitT; rw [if_neg h])
  have cN := hide (fun (W : World) (A' C' : Option Addr) (c1 c2 : Nat) (l : List Nd) (h1 : NReads W W.heap.size A' l.length l) (h2 : NReads W W.heap.size C' l.length l) (hl : l.length ≤ maxLen) => sameNodes_any A' C' l.length c1 c2 l W _ _ h1 h2 hl)
  have HTL : Hid ((fitT ss fe depth least).length ≤ maxLen) := hide (by
    unfold maxLen
    by_cases h : fitE ss fe depth least = 0
    · have := fit_len h; omega
    · unfold fitT; rw [if_neg h]; simp)
  obtain ⟨K0, hK0⟩ : ∃ K, K = (((sampC ss fe).1 : Nat) : Int) := ⟨_, rfl⟩
  rw [← hK0] at cS cC
  obtain ⟨E, hE⟩ : ∃ E, E = sampE ss fe := ⟨_, rfl⟩
  rw [← hE] at cS cC cRS HS1 HF2
  obtain ⟨SE, hSE⟩ : ∃ E, E = splitE ss fe least := ⟨_, rfl⟩
  obtain ⟨XX, hXX⟩ : ∃ E, E = splitF ss fe least := ⟨_, rfl⟩
  obtain ⟨CC, hCC⟩ : ∃ E, E = splitC ss fe least := ⟨_, rfl⟩
  rw [← hSE, ← hXX, ← hCC] at cRS HS1 cSp
  obtain ⟨FE, hFE⟩ : ∃ E, E = fitE ss fe depth least := ⟨_, rfl⟩
  obtain ⟨FT, hFT⟩ : ∃ E, E = fitT ss fe depth least := ⟨_, rfl⟩
  rw [← hFE, ← hFT] at cF cG HT0
  rw [← hFE] at HF2
  rw [← hFT] at HTL
  obtain ⟨RE, hRE⟩ : ∃ E, E = readyS t ss := ⟨_, rfl⟩
  obtain ⟨WE, hWE⟩ : ∃ E, E = wrongE t ss := ⟨_, rfl⟩
  rw [← hRE] at cR cRW cW HW0
  rw [← hWE] at cRW cW HW0
  obtain ⟨b1, hb1⟩ : ∃ b, b = bad1 E least := ⟨_, rfl⟩
  obtain ⟨b2, hb2⟩ : ∃ b, b = bad2 E depth least := ⟨_, rfl⟩
  obtain ⟨f1, hf1⟩ : ∃ f, f = F1 E least := ⟨_, rfl⟩
  rw [← hb2] at HF2
  rw [← hf1] at cRS HS1
  have HB1 := hide hb1
  have HB2 := hide hb2
  have HF1 : Hid (f1 = if b1 = true then 1 else E) := hide (by rw [hf1, hb1]; rfl)
  clear hK0 hE hSE hXX hCC hFE hFT hRE hWE hb1 hb2 hf1
  have ek : (K0 != K0) = false := by simp
  have eE : (E == E) = true := by simp
  have eS : (SE == SE) = true := by simp
  have eF : (FE == FE) = true := by simp
  have eR : (RE == RE) = true := by simp
  go_enter Tryd.func3, Tryd.ntmps3
  go_wp2_with fail
  refine (unhide cS).mono ?_
  rintro e w1 ⟨rfl, q1, rfl⟩
  have S1 : Below w.heap.size w (w.drewN q1) := below_drewN (Below.refl _ _) q1
  clear cS
  go_wp2_with fail
  refine (unhide cC _ S1).mono ?_
  rintro e w2 ⟨rfl, hb2⟩
  have S2 := S1.trans (hb2.mono S1.size)
  clear cC hb2
  go_wp2_with fail
  refine (unhide cEr _ S2 E E).mono ?_
  rintro e w3 ⟨rfl, hb3⟩
  have S3 := S2.trans (hb3.mono S2.size)
  rw [eE]
  clear hb3
  go_upto_region 7 with (fail)
  go_cut [64] from 54 to 64 (fun s64 wx => s64 = .bool b1 ∧ Below w.heap.size w wx)
  case first =>
    by_cases h0 : E = 0
    · have d0 : (E == 0) = true := by simpa using h0
      by_cases h1 : least < 1
      · have d1 : decide (least < 1) = true := decide_eq_true h1
        have HV : Hid (b1 = true) := hide (by rw [unhide HB1]; unfold bad1; rw [d0, d1]; rfl)
        clear h0 h1
        go_wp2_with fail
        go_meet
        case rel => exact ⟨by rw [unhide HV], S3⟩
      · have d1 : decide (least < 1) = false := decide_eq_false h1
        by_cases h2 : 60 < least
        · have d2 : decide (60 < least) = true := decide_eq_true h2
          have HV : Hid (b1 = true) := hide (by rw [unhide HB1]; unfold bad1; rw [d0, d1, d2]; rfl)
          clear h0 h1 h2
          go_wp2_with fail
          go_meet
          case rel => exact ⟨by rw [unhide HV], S3⟩
        · have d2 : decide (60 < least) = false := decide_eq_false h2
          have HV : Hid (b1 = false) := hide (by rw [unhide HB1]; unfold bad1; rw [d0, d1, d2]; rfl)
          clear h0 h1 h2
          go_wp2_with fail
          go_meet
          case rel => exact ⟨by rw [unhide HV], S3⟩
    · have d0 : (E == 0) = false := by simpa using h0
      have HV : Hid (b1 = false) := hide (by rw [unhide HB1]; unfold bad1; rw [d0]; rfl)
      clear h0
      go_wp2_with fail
      go_meet
      case rel => exact ⟨by rw [unhide HV], S3⟩
  case rest =>
    clear S1 S2 S3
    obtain ⟨rfl, S4⟩ := hcut
    go_upto_if 64 with (fail)
    go_cut [16] from 54 to 64 (fun s16 wx => s16 = .int .i64 f1 ∧ Below w.heap.size w wx)
    case first =>
      cases b1
      · have HV : Hid (f1 = E) := hide (by rw [unhide HF1]; rfl)
        go_wp2_with fail
        go_meet
        case rel => exact ⟨by rw [unhide HV], S4⟩
      · have HV : Hid (f1 = 1) := hide (by rw [unhide HF1]; rfl)
        go_wp2_with fail
        go_meet
        case rel => exact ⟨by rw [unhide HV], S4⟩
    case rest =>
      clear S4
      obtain ⟨rfl, S5⟩ := hcut
      go_upto_if 66 with (fail)
      go_cut [16, 17, 18] from 65 to 77 (fun s16 s17 s18 wx => s16 = .int .i64 SE ∧ s17 = .int .i64 XX ∧ s18 = .int .i64 CC ∧ Below w.heap.size w wx)
      case first =>
        by_cases h0 : f1 = 0
        case neg =>
          have d0 : (f1 == 0) = false := by simpa using h0
          obtain ⟨e1, e2, e3⟩ := unhide HS1 h0
          have HV := hide (And.intro e1 (And.intro e2 e3))
          clear e1 e2 e3 h0
          rw [d0]
          go_wp2_with fail
          go_meet
          case rel => exact ⟨by rw [(unhide HV).1], by rw [(unhide HV).2.1], by rw [(unhide HV).2.2], S5⟩
        have d0 : (f1 == 0) = true := by simpa using h0
        obtain ⟨x, y, fd, e1, e2, e3, hc⟩ := unhide cRS h0
        have HV := hide (And.intro e1 (And.intro e2 e3))
        have hc1 := hide (hc _ S5)
        clear e1 e2 e3 h0 hc
        rw [d0]
        go_wp2_with fail
        refine (unhide hc1).mono ?_
        rintro e w6 ⟨rfl, q6, rfl⟩
        clear hc1
        have S6 := below_drewN S5 q6
        cases fd
        · have HV2 : Hid (XX = 0 ∧ CC = 0 ∧ SE = 5) := hide (unhide HV)
          go_wp2_with fail
          go_meet
          case rel => exact ⟨by rw [(unhide HV2).2.2], by rw [(unhide HV2).1], by rw [(unhide HV2).2.1], S6⟩
        · have HV2 : Hid (XX = x ∧ CC = y ∧ SE = 0) := hide (unhide HV)
          have HF0 : Hid (f1 = 0) := hide (by simpa using d0)
          go_wp2_with fail
          go_meet
          case rel => exact ⟨by rw [(unhide HV2).2.2, unhide HF0], by rw [(unhide HV2).1], by rw [(unhide HV2).2.1], S6⟩
      case rest =>
        clear S5
        obtain ⟨rfl, rfl, rfl, S7⟩ := hcut
        go_wp2_with fail
        refine (unhide cSp _ S7).mono ?_
        rintro e w8 ⟨rfl, hb8⟩
        have S8 := S7.trans (hb8.mono S7.size)
        clear hb8 cSp cRS
        go_wp2_with fail
        refine (unhide cEr _ S8 SE SE).mono ?_
        rintro e w9 ⟨rfl, hb9⟩
        have S9 := S8.trans (hb9.mono S8.size)
        rw [eS]
        clear hb9
        go_upto_region 20 with (fail)
        go_cut [107] from 89 to 107 (fun s wx => s = .bool b2 ∧ Below w.heap.size w wx)
        case first =>
          by_cases h0 : E = 0
          case neg =>
            have d0 : (E == 0) = false := by simpa using h0
            have HV : Hid (b2 = false) := hide (by rw [unhide HB2]; unfold bad2; rw [d0]; rfl)
            clear h0
            go_wp2_with fail
            go_meet
            case rel => exact ⟨by rw [unhide HV], S9⟩
          have d0 : (E == 0) = true := by simpa using h0
          by_cases h3 : depth < 0
          · have d3 : decide (depth < 0) = true := decide_eq_true h3
            have HV : Hid (b2 = true) := hide (by rw [unhide HB2]; unfold bad2; rw [d0, d3]; rfl)
            clear h0 h3
            go_wp2_with fail
            go_meet
            case rel => exact ⟨by rw [unhide HV], S9⟩
          have d3 : decide (depth < 0) = false := decide_eq_false h3
          by_cases h4 : 5 < depth
          · have d4 : decide (5 < depth) = true := decide_eq_true h4
            have HV : Hid (b2 = true) := hide (by rw [unhide HB2]; unfold bad2; rw [d0, d3, d4]; rfl)
            clear h0 h3 h4
            go_wp2_with fail
            go_meet
            case rel => exact ⟨by rw [unhide HV], S9⟩
          have d4 : decide (5 < depth) = false := decide_eq_false h4
          by_cases h1 : least < 1
          · have d1 : decide (least < 1) = true := decide_eq_true h1
            have HV : Hid (b2 = true) := hide (by rw [unhide HB2]; unfold bad2; rw [d0, d3, d4, d1]; rfl)
            clear h0 h3 h4 h1
            go_wp2_with fail
            go_meet
            case rel => exact ⟨by rw [unhide HV], S9⟩
          have d1 : decide (least < 1) = false := decide_eq_false h1
          by_cases h2 : 60 < least
          · have d2 : decide (60 < least) = true := decide_eq_true h2
            have HV : Hid (b2 = true) := hide (by rw [unhide HB2]; unfold bad2; rw [d0, d3, d4, d1, d2]; rfl)
            clear h0 h3 h4 h1 h2
            go_wp2_with fail
            go_meet
            case rel => exact ⟨by rw [unhide HV], S9⟩
          · have d2 : decide (60 < least) = false := decide_eq_false h2
            have HV : Hid (b2 = false) := hide (by rw [unhide HB2]; unfold bad2; rw [d0, d3, d4, d1, d2]; rfl)
            clear h0 h3 h4 h1 h2
            go_wp2_with fail
            go_meet
            case rel => exact ⟨by rw [unhide HV], S9⟩
        case rest =>
          clear S7 S8 S9
          obtain ⟨rfl, S10⟩ := hcut
          go_upto_if 107 with (fail)
          go_cut [16] from 89 to 107 (fun s16 wx => s16 = .int .i64 FE ∧ Below w.heap.size w wx)
          case first =>
            cases b2
            · have HV : Hid (FE = E) := hide (by rw [unhide HF2]; rfl)
              go_wp2_with fail
              go_meet
              case rel => exact ⟨by rw [unhide HV], S10⟩
            · have HV : Hid (FE = 1) := hide (by rw [unhide HF2]; rfl)
              go_wp2_with fail
              go_meet
              case rel => exact ⟨by rw [unhide HV], S10⟩
          case rest =>
            clear S10
            obtain ⟨rfl, S11⟩ := hcut
            go_upto_if 109 with (fail)
            go_cut [25] from 108 to 114 (fun s25 wx => NdAt FT s25 wx ∧ Below w.heap.size w wx)
            case first =>
              by_cases h0 : FE = 0
              · have d0 : (FE == 0) = true := by simpa using h0
                have hc := hide (unhide cG h0 _ S11)
                clear h0
                rw [d0]
                go_wp2_with fail
                refine (unhide hc).mono ?_
                rintro e w12 ⟨v12, rfl, hN12, hb12⟩
                go_wp2_with fail
                go_meet
                case rel => exact ⟨hN12, S11.trans (hb12.mono S11.size)⟩
              · have d0 : (FE == 0) = false := by simpa using h0
                have HV := hide (unhide HT0 h0)
                clear h0
                rw [d0]
                go_wp2_with fail
                go_meet
                case rel => exact ⟨by rw [unhide HV]; exact NdAt.nil_ _, S11⟩
            case rest =>
              clear S11 cG
              obtain ⟨hN, S12⟩ := hcut
              go_wp2_with fail
              refine (unhide cF _ S12).mono ?_
              rintro e w13 ⟨v13, rfl, ho13, hb13⟩
              have S13 := S12.trans (hb13.mono S12.size)
              have hN13 := hN.below hb13
              have hM13 := ho13.at'
              clear hb13 hN ho13 cF
              go_wp2_with fail
              refine (unhide cEr _ S13 FE FE).mono ?_
              rintro e w14 ⟨rfl, hb14⟩
              have S14 := S13.trans (hb14.mono S13.size)
              obtain ⟨A1, c1, rfl, hr1⟩ := hN13.below hb14
              obtain ⟨A2, c2, rfl, hr2⟩ := hM13.below hb14
              rw [eF]
              have hc := hide (unhide cN w14 A2 A1 c2 c1 FT hr2 hr1 (unhide HTL))
              obtain ⟨nf, hnf⟩ : ∃ n, n = FT.length := ⟨_, rfl⟩
              rw [← hnf] at hc ⊢
              clear hb14 hN13 hM13 hr1 hr2 cN hnf
              go_wp2_with fail
              refine (unhide hc).mono ?_
              rintro e w15 ⟨rfl, q15, rfl⟩
              have S15 := below_drewN S14 q15
              clear hc
              go_wp2_with fail
              refine (unhide cR _ S15).mono ?_
              rintro e w16 ⟨rfl, hb16⟩
              have S16 := S15.trans (hb16.mono S15.size)
              clear hb16 cR S12 S13 S14 S15
              go_upto_if 133 with (fail)
              go_cut [29] from 132 to 136 (fun s29 wx => s29 = .int .i64 WE ∧ Below w.heap.size w wx)
              case first =>
                by_cases h0 : RE = 0
                · have d0 : (RE == 0) = true := by simpa using h0
                  have hc := hide (unhide cRW h0 _ S16)
                  clear h0
                  rw [d0]
                  go_wp2_with fail
                  refine (unhide hc).mono ?_
                  rintro e w17 ⟨rfl, hb17⟩
                  go_wp2_with fail
                  go_meet
                  case rel => exact ⟨rfl, S16.trans (hb17.mono S16.size)⟩
                · have d0 : (RE == 0) = false := by simpa using h0
                  have HV := hide (unhide HW0 h0)
                  clear h0
                  rw [d0]
                  go_wp2_with fail
                  go_meet
                  case rel => exact ⟨by rw [unhide HV], S16⟩
              case rest =>
                clear S16 cRW
                obtain ⟨rfl, S17⟩ := hcut
                go_wp2_with fail
                refine (unhide cW _ S17).mono ?_
                rintro e w18 ⟨rfl, hb18⟩
                have S18 := S17.trans (hb18.mono S17.size)
                clear hb18 cW S17
                go_wp2_with fail
                refine (unhide cEr _ S18 RE RE).mono ?_
                rintro e w19 ⟨rfl, hb19⟩
                have S19 := S18.trans (hb19.mono S18.size)
                rw [eR]
                clear hb19 S18 cEr
                have x1 : (XX == XX) = true := by simp
                have x2 : (CC == CC) = true := by simp
                have x3 : (WE == WE) = true := by simp
                go_wp2_with fail
                go_ret
                exact ⟨rfl, S19⟩
end Go.Proofs.YtdpijhnbhopnbaaDoor
/- From an argument's reading to the words of the walks: a slice of nodes. Conditions: none. -/
namespace Go.Proofs.YtdpijhnbhopnbaaDoor
set_option linter.unusedVariables false
set_option linter.unusedSimpArgs false
open Go.RowKit Go.ChangeShapes Go.WideShapes Go.Deep

theorem reads_flat {α : Type} {w : World} {size n : Nat} {a : Addr} (f : α → List Value) (hf : ∀ x, (f x).length = size) (hs : 0 < size) (l : List α) (hl : l.length = n) (hb : 0 < n → a.block < w.heap.size)
    (h : ∀ (i : Nat) x, l[i]? = some x → ∀ (r : Nat) u, r < size → (f x)[r]? = some u → w.cell? (a.add (i * size + r)) = some u) : Reads w w.heap.size size (some a) n (l.flatMap f) := by
  refine ⟨by rw [flatMap_len f size hf, hl], fun hn => ⟨a, rfl, hb hn, fun j u hu => ?_⟩⟩
  have hj : j < n * size := by
    have := (List.getElem?_eq_some_iff.1 hu).1
    rwa [flatMap_len f size hf, hl] at this
  have hi : j / size < n := Nat.div_lt_of_lt_mul (by rwa [Nat.mul_comm])
  have hx : l[j / size]? = some l[j / size] := List.getElem?_eq_getElem (by omega)
  have hr : j % size < size := Nat.mod_lt _ hs
  have e : j / size * size + j % size = j := by rw [Nat.mul_comm]; exact Nat.div_add_mod j size
  have := flatMap_at f size hf l (j / size) (j % size) _ hx hr
  rw [e, hu] at this
  have := h _ _ hx _ u hr this.symm
  rwa [e] at this

theorem arg_nodes {H : Type} {enc : TypeId × Value → H} {w : World} {sp : Nat → Bool} {A : Option Addr} {n c : Nat} {d : DataW H} {p : List MemPlace}
    (h : DataW.Trod enc Tryd.prog w 0 sp true 23 (.slice A n c) d p) : ∃ t : List Nd, NReads w w.heap.size A n t ∧ n ≤ maxLen ∧ n ≤ c := by
  obtain ⟨fuel, hf⟩ := h
  rcases open_slice_fields Tryd.underlying23 Tryd.underlying55 (by kernel_rfl) (by kernel_rfl) hf with ⟨hcs, _⟩ | ⟨a, len, cap, m, D, Pl, hcs, _, hl, hm, hmm, _, hi⟩
  · simp [Value.cells] at hcs
    obtain ⟨rfl, rfl, rfl⟩ := hcs
    exact ⟨[], ⟨by simp, fun h0 => absurd h0 (by omega)⟩, Nat.zero_le _, Nat.le_refl _⟩
  · simp [Value.cells] at hcs
    obtain ⟨rfl, rfl, rfl⟩ := hcs
    have hmn : n ≤ m := by rw [hmm]; split <;> omega
    have key : ∀ i, i < n → ∃ x : Nd, ∀ (r : Nat) u, r < 6 → (Nd.cells x)[r]? = some u → w.cell? (a.add (i * 6 + r)) = some u := by
      intro i hin
      obtain ⟨ys, q, _, _, _, hfl⟩ := hi i (by omega)
      obtain ⟨v0, y0, c0, _, t0⟩ := hfl 0 _ rfl
      obtain ⟨v1, y1, c1, _, t1⟩ := hfl 1 _ rfl
      obtain ⟨v2, y2, c2, _, t2⟩ := hfl 2 _ rfl
      obtain ⟨v3, y3, c3, _, t3⟩ := hfl 3 _ rfl
      obtain ⟨v4, y4, c4, _, t4⟩ := hfl 4 _ rfl
      obtain ⟨v5, y5, c5, _, t5⟩ := hfl 5 _ rfl
      obtain ⟨x0, e0, _⟩ := DataW.trod_int Tryd.underlying3 t0
      obtain ⟨x1, e1, _⟩ := DataW.trod_int Tryd.underlying3 t1
      obtain ⟨x2, e2, _⟩ := DataW.trod_int Tryd.underlying3 t2
      obtain ⟨x3, e3, _⟩ := DataW.trod_int Tryd.underlying3 t3
      obtain ⟨x4, e4, _⟩ := DataW.trod_bool Tryd.underlying4 t4
      obtain ⟨x5, e5, _⟩ := DataW.trod_int Tryd.underlying3 t5
      simp at e0 e1 e2 e3 e4 e5
      subst e0 e1 e2 e3 e4 e5
      refine ⟨⟨x0, x1, x2, x3, x4, x5⟩, fun r u hr hu => ?_⟩
      match r, hr with
      | 0, _ => simp [Nd.cells] at hu; subst hu; exact c0
      | 1, _ => simp [Nd.cells] at hu; subst hu; exact c1
      | 2, _ => simp [Nd.cells] at hu; subst hu; exact c2
      | 3, _ => simp [Nd.cells] at hu; subst hu; exact c3
      | 4, _ => simp [Nd.cells] at hu; subst hu; exact c4
      | 5, _ => simp [Nd.cells] at hu; subst hu; exact c5
    have key2 : ∀ i, ∃ x : Nd, i < n → ∀ (r : Nat) u, r < 6 → (Nd.cells x)[r]? = some u → w.cell? (a.add (i * 6 + r)) = some u := by
      intro i
      by_cases hin : i < n
      · obtain ⟨x, hx⟩ := key i hin
        exact ⟨x, fun _ => hx⟩
      · exact ⟨⟨0, 0, 0, 0, false, 0⟩, fun h => absurd h hin⟩
    refine ⟨(List.range n).map (fun i => Classical.choose (key2 i)), reads_flat Nd.cells (fun _ => rfl) (by omega) _ (by simp) ?_ ?_, by omega, hl⟩
    · intro hn
      obtain ⟨x, hx⟩ := key 0 hn
      have := cell_lt (hx 0 _ (by omega) rfl)
      rwa [block_of_add] at this
    · intro i x hx r u hr hu
      simp only [List.getElem?_map, Option.map_eq_some_iff] at hx
      obtain ⟨j, hj, rfl⟩ := hx
      obtain ⟨hjl, rfl⟩ := List.getElem?_eq_some_iff.1 hj
      simp only [List.getElem_range] at hu
      exact Classical.choose_spec (key2 i) (by simpa using hjl) r u hr hu
end Go.Proofs.YtdpijhnbhopnbaaDoor
/- Groves: a grove as an argument, what is wrong with one; grove.Check. Conditions: arguments read as lists. -/
namespace Go.Proofs.YtdpijhnbhopnbaaDoor
set_option linter.unusedVariables false
set_option linter.unusedSimpArgs false
open Go.RowKit

/-- a slice of nodes as a value, with what it reads as -/
structure Tr where
  A : Option Addr
  n : Nat
  c : Nat
  l : List Nd
def Tr.val (r : Tr) : Value := .slice r.A r.n r.c
structure TrOk (w : World) (B : Nat) (r : Tr) : Prop where
  reads : NReads w B r.A r.n r.l
  len : r.n ≤ maxLen
  nil : r.A = none → r.c = 0
def TReads (w : World) (B : Nat) (A : Option Addr) (n : Nat) (ts : List Tr) : Prop := Reads w B 1 A n (ts.map Tr.val) ∧ ∀ r ∈ ts, TrOk w B r
section
variable {w w' : World} {B B' n : Nat} {A : Option Addr} {ts : List Tr}
theorem TrOk.below {r : Tr} (h : TrOk w B r) (hb : Below B w w') : TrOk w' B r := ⟨h.reads.below hb, h.len, h.nil⟩
theorem TrOk.more {r : Tr} (h : TrOk w B r) (hB : B ≤ B') : TrOk w B' r := ⟨h.reads.more hB, h.len, h.nil⟩
theorem TReads.below (h : TReads w B A n ts) (hb : Below B w w') : TReads w' B A n ts := ⟨h.1.below hb, fun r hr => (h.2 r hr).below hb⟩
theorem TReads.more (h : TReads w B A n ts) (hB : B ≤ B') : TReads w B' A n ts := ⟨h.1.more hB, fun r hr => (h.2 r hr).more hB⟩
theorem TReads.len (h : TReads w B A n ts) : ts.length = n := by have := h.1.1; simpa using this
theorem TReads.get (h : TReads w B A n ts) {k : Nat} (hk : k < n) :
    ∃ b off r, A = some ⟨b, off, none⟩ ∧ b < B ∧ ts[k]? = some r ∧ w.cell? ⟨b, off + k, none⟩ = some (.slice r.A r.n r.c) ∧ TrOk w B r := by
  obtain ⟨b, off, rfl, hb, hc⟩ := Reads.spot h.1 (by omega) (by omega)
  have hl : k < ts.length := by rw [h.len]; exact hk
  have hr : ts[k]? = some ts[k] := List.getElem?_eq_getElem hl
  exact ⟨b, off, ts[k], rfl, hb, hr, hc k _ (by simp [hl, Tr.val]), h.2 _ (List.mem_of_getElem? hr)⟩
end

/-- a grove as a value, with what it reads as -/
structure Gv where
  f : Int
  way : Int
  Aw : Option Addr
  nw : Nat
  cw : Nat
  ws : List Int
  At : Option Addr
  nt : Nat
  ct : Nat
  ts : List Tr
def Gv.val (g : Gv) : Value := .agg #[.int .i64 g.f, .int .i64 g.way, .slice g.Aw g.nw g.cw, .slice g.At g.nt g.ct]
def Gv.cells (g : Gv) : Array Value := #[.int .i64 g.f, .int .i64 g.way, .slice g.Aw g.nw g.cw, .slice g.At g.nt g.ct]
def Gv.trees (g : Gv) : List (List Nd) := g.ts.map Tr.l
structure GReads (w : World) (B : Nat) (g : Gv) : Prop where
  ws : IReads w B g.Aw g.nw g.ws
  ts : TReads w B g.At g.nt g.ts
  nw : g.nw ≤ maxLen
  nt : g.nt ≤ maxLen
  nilw : g.Aw = none → g.cw = 0
  nilt : g.At = none → g.ct = 0
section
variable {w w' : World} {B B' : Nat} {g : Gv}
theorem GReads.below (h : GReads w B g) (hb : Below B w w') : GReads w' B g := ⟨h.ws.below hb, h.ts.below hb, h.nw, h.nt, h.nilw, h.nilt⟩
theorem GReads.more (h : GReads w B g) (hB : B ≤ B') : GReads w B' g := ⟨h.ws.more hB, h.ts.more hB, h.nw, h.nt, h.nilw, h.nilt⟩
theorem Gv.trees_len (g : Gv) : g.trees.length = g.ts.length := by simp [Gv.trees]
theorem Gv.trees_at {k : Nat} {r : Tr} (h : g.ts[k]? = some r) : g.trees[k]? = some r.l := by simp [Gv.trees, h]
end

/-- the first weight that is none -/
def weightsE : List Int → Int
  | [] => 0
  | x :: r => if x < 1 then 1 else if 1000 < x then 1 else weightsE r
/-- the first tree that is wrong -/
def treesE (fe : Int) : List (List Nd) → Int
  | [] => 0
  | t :: r => if treeE t fe = 0 then treesE fe r else treeE t fe
/-- what is wrong with a grove -/
def groveE (f way : Int) (ws : List Int) (ts : List (List Nd)) : Int :=
  if f < 0 then 1 else if 8 < f then 1 else if way < 1 then 1 else if 3 < way then 1 else if ts.length = 0 then 5 else if 12 < ts.length then 4 else if ws.length = ts.length then (if weightsE ws = 0 then treesE f ts else weightsE ws) else 3
def Gv.e (g : Gv) : Int := groveE g.f g.way g.ws g.trees
/-- a grove that is right -/
structure GRight (g : Gv) : Prop where
  f0 : 0 ≤ g.f
  f8 : g.f ≤ 8
  way1 : 1 ≤ g.way
  way3 : g.way ≤ 3
  pos : 0 < g.ts.length
  most : g.ts.length ≤ 12
  wlen : g.ws.length = g.ts.length
  weights : ∀ x ∈ g.ws, 1 ≤ x ∧ x ≤ 1000
  trees : ∀ t ∈ g.ts, treeE t.l g.f = 0
theorem weightsE_0 {ws : List Int} (h : weightsE ws = 0) : ∀ x ∈ ws, 1 ≤ x ∧ x ≤ 1000 := by
  induction ws with
  | nil => intro x hx; cases hx
  | cons y r ih =>
    unfold weightsE at h
    by_cases h1 : y < 1
    · rw [if_pos h1] at h; cases h
    · rw [if_neg h1] at h
      by_cases h2 : 1000 < y
      · rw [if_pos h2] at h; cases h
      · rw [if_neg h2] at h
        intro x hx
        rcases List.mem_cons.1 hx with rfl | hx
        · omega
        · exact ih h x hx
theorem weightsE_of {ws : List Int} (h : ∀ x ∈ ws, 1 ≤ x ∧ x ≤ 1000) : weightsE ws = 0 := by
  induction ws with
  | nil => rfl
  | cons y r ih =>
    have := h y (List.mem_cons_self ..)
    unfold weightsE
    rw [if_neg (by omega), if_neg (by omega)]
    exact ih fun x hx => h x (List.mem_cons_of_mem _ hx)
theorem weightsE_bad {ws : List Int} {k : Nat} {x : Int} (h : ws[k]? = some x) (hx : x < 1 ∨ 1000 < x) : weightsE ws = 1 := by
  induction ws generalizing k with
  | nil => simp at h
  | cons y r ih =>
    unfold weightsE
    by_cases h1 : y < 1
    · rw [if_pos h1]
    · rw [if_neg h1]
      by_cases h2 : 1000 < y
      · rw [if_pos h2]
      · rw [if_neg h2]
        cases k with
        | zero => simp at h; omega
        | succ k => exact ih (k := k) (by simpa using h)
theorem treesE_0 {fe : Int} {ts : List (List Nd)} (h : treesE fe ts = 0) : ∀ t ∈ ts, treeE t fe = 0 := by
  induction ts with
  | nil => intro x hx; cases hx
  | cons y r ih =>
    unfold treesE at h
    by_cases h1 : treeE y fe = 0
    · rw [if_pos h1] at h
      intro x hx
      rcases List.mem_cons.1 hx with rfl | hx
      · exact h1
      · exact ih h x hx
    · rw [if_neg h1] at h; exact absurd h h1
theorem treesE_of {fe : Int} {ts : List (List Nd)} (h : ∀ t ∈ ts, treeE t fe = 0) : treesE fe ts = 0 := by
  induction ts with
  | nil => rfl
  | cons y r ih =>
    unfold treesE
    rw [if_pos (h y (List.mem_cons_self ..))]
    exact ih fun x hx => h x (List.mem_cons_of_mem _ hx)
theorem treesE_drop {fe : Int} {ts : List (List Nd)} {k : Nat} {t : List Nd} (h : ts[k]? = some t) : treesE fe (ts.drop k) = if treeE t fe = 0 then treesE fe (ts.drop (k + 1)) else treeE t fe := by
  obtain ⟨hk, e⟩ := List.getElem?_eq_some_iff.1 h
  rw [List.drop_eq_getElem_cons hk, treesE, e]
theorem groveE_right {g : Gv} (h : g.e = 0) : GRight g := by
  unfold Gv.e groveE at h
  by_cases h1 : g.f < 0
  · rw [if_pos h1] at h; cases h
  rw [if_neg h1] at h
  by_cases h2 : 8 < g.f
  · rw [if_pos h2] at h; cases h
  rw [if_neg h2] at h
  by_cases h3 : g.way < 1
  · rw [if_pos h3] at h; cases h
  rw [if_neg h3] at h
  by_cases h4 : 3 < g.way
  · rw [if_pos h4] at h; cases h
  rw [if_neg h4, g.trees_len] at h
  by_cases h5 : g.ts.length = 0
  · rw [if_pos h5] at h; cases h
  rw [if_neg h5] at h
  by_cases h6 : 12 < g.ts.length
  · rw [if_pos h6] at h; cases h
  rw [if_neg h6] at h
  by_cases h7 : g.ws.length = g.ts.length
  · rw [if_pos h7] at h
    by_cases h8 : weightsE g.ws = 0
    · rw [if_pos h8] at h
      exact ⟨by omega, by omega, by omega, by omega, by omega, by omega, h7, weightsE_0 h8, fun t ht => treesE_0 h t.l (List.mem_map.2 ⟨t, ht, rfl⟩)⟩
    · rw [if_neg h8] at h; exact absurd h h8
  · rw [if_neg h7] at h; cases h
theorem GRight.e0 {g : Gv} (h : GRight g) : g.e = 0 := by
  unfold Gv.e groveE
  have := h.f0; have := h.f8; have := h.way1; have := h.way3; have := h.pos; have := h.most
  rw [if_neg (by omega), if_neg (by omega), if_neg (by omega), if_neg (by omega), g.trees_len, if_neg (by omega), if_neg (by omega), if_pos h.wlen, if_pos (weightsE_of h.weights)]
  exact treesE_of fun t ht => by
    obtain ⟨r, hr, rfl⟩ := List.mem_map.1 ht
    exact h.trees r hr

end Go.Proofs.YtdpijhnbhopnbaaDoor
/- From an argument's reading to the words of the walks: a grove. Conditions: none. -/
namespace Go.Proofs.YtdpijhnbhopnbaaDoor
set_option linter.unusedVariables false
set_option linter.unusedSimpArgs false
open Go.RowKit Go.ChangeShapes Go.WideShapes Go.Deep Go.Joins

theorem choose_list {α : Type} [Inhabited α] {n : Nat} {P : Nat → α → Prop} (h : ∀ i, i < n → ∃ x, P i x) : ∃ l : List α, l.length = n ∧ ∀ (i : Nat) x, l[i]? = some x → P i x := by
  have key : ∀ i, ∃ x : α, i < n → P i x := fun i => by
    by_cases hin : i < n
    · obtain ⟨x, hx⟩ := h i hin; exact ⟨x, fun _ => hx⟩
    · exact ⟨default, fun h => absurd h hin⟩
  refine ⟨(List.range n).map (fun i => Classical.choose (key i)), by simp, fun i x hx => ?_⟩
  simp only [List.getElem?_map, Option.map_eq_some_iff] at hx
  obtain ⟨j, hj, rfl⟩ := hx
  obtain ⟨hjl, rfl⟩ := List.getElem?_eq_some_iff.1 hj
  simp only [List.getElem_range]
  exact Classical.choose_spec (key i) (by simpa using hjl)
instance : Inhabited Tr := ⟨⟨none, 0, 0, []⟩⟩
/-- a slice's cell: its form, and nil's -/
theorem slice_form {H : Type} {enc : TypeId × Value → H} {P : Program} {w : World} {base : Nat} {sp : Nat → Bool} {held : Bool} {t e : TypeId} {fuel : Nat} {v : Value} {x : DataW H × List MemPlace} (ht : P.underlying t = some (.slice e)) (h : DataW.trod enc P w base sp held fuel t [v] = some x) :
    ∃ A n c, v = .slice A n c ∧ (A = none → c = 0) ∧ n ≤ c := by
  rcases open_slice ht h with ⟨h0, _⟩ | ⟨a, len, cap, m, k, D, Pl, hcs, _, hl, _⟩
  · injection h0 with h0; subst h0; exact ⟨none, 0, 0, rfl, fun _ => rfl, Nat.le_refl _⟩
  · injection hcs with hcs; subst hcs; exact ⟨some a, len, cap, rfl, (fun e => by cases e), hl⟩

end Go.Proofs.YtdpijhnbhopnbaaDoor
/- From an argument's reading to the words of the walks: a slice of samples. Conditions: none. -/
namespace Go.Proofs.YtdpijhnbhopnbaaDoor
set_option linter.unusedVariables false
set_option linter.unusedSimpArgs false
open Go.RowKit Go.ChangeShapes Go.WideShapes Go.Deep Go.Joins

set_option maxRecDepth 100000 in
theorem arg_samples {H : Type} {enc : TypeId × Value → H} {w : World} {sp : Nat → Bool} {A : Option Addr} {n c : Nat} {d : DataW H} {p : List MemPlace}
    (h : DataW.Trod enc Tryd.prog w 0 sp true 22 (.slice A n c) d p) : ∃ ss : List Sm, MReads w w.heap.size A n ss ∧ n ≤ maxLen ∧ n ≤ c ∧ (A = none → c = 0) := by
  obtain ⟨fuel, hf⟩ := h
  rcases open_slice_fields Tryd.underlying22 Tryd.underlying45 (by kernel_rfl) (by kernel_rfl) hf with ⟨hcs, _⟩ | ⟨a, len, cap, m, D, Pl, hcs, _, hl, hm, hmm, hx, hi⟩
  · simp [Value.cells] at hcs
    obtain ⟨rfl, rfl, rfl⟩ := hcs
    exact ⟨[], ⟨⟨by simp, fun h0 => absurd h0 (by omega)⟩, fun r hr => by cases hr⟩, Nat.zero_le _, Nat.le_refl _, fun _ => rfl⟩
  · simp [Value.cells] at hcs
    obtain ⟨rfl, rfl, rfl⟩ := hcs
    have hmn : n ≤ m := by rw [hmm]; split <;> omega
    have key : ∀ i, i < n → ∃ x : Sm, (∀ (r : Nat) u, r < 2 → (Sm.cells x)[r]? = some u → w.cell? (a.add (i * 2 + r)) = some u) ∧ SmOk w w.heap.size x := by
      intro i hin
      obtain ⟨ys, q, _, _, _, hfl⟩ := hi i (by omega)
      obtain ⟨v0, y0, c0, _, t0⟩ := hfl 0 _ rfl
      obtain ⟨v1, y1, c1, _, t1⟩ := hfl 1 _ rfl
      obtain ⟨x1, e1, _⟩ := DataW.trod_int Tryd.underlying3 t1
      simp at e1
      subst e1
      obtain ⟨A0, n0, k0, rfl, _, _⟩ := slice_form Tryd.underlying43 t0
      obtain ⟨l0, g1, g2, _⟩ := arg_ints (sp := sp) (c := k0) Tryd.underlying43 Tryd.underlying3 (by kernel_rfl) ⟨_, t0⟩
      refine ⟨⟨A0, n0, k0, l0, x1⟩, fun r u hr hu => ?_, ⟨g1, g2⟩⟩
      match r, hr with
      | 0, _ => simp [Sm.cells] at hu; subst hu; exact c0
      | 1, _ => simp [Sm.cells] at hu; subst hu; exact c1
    obtain ⟨ts, hlen2, hts⟩ := choose_list (n := n) key
    refine ⟨ts, ⟨reads_flat Sm.cells (fun _ => rfl) (by omega) _ hlen2 ?_ (fun i x hx => (hts i x hx).1), fun r hr => ?_⟩, by omega, hl, fun e => by cases e⟩
    · intro hn
      obtain ⟨x, hx, _⟩ := key 0 hn
      have := cell_lt (hx 0 _ (by omega) rfl)
      rwa [block_of_add] at this
    · obtain ⟨i, hi'⟩ := List.mem_iff_getElem?.1 hr
      exact (hts i r hi').2
end Go.Proofs.YtdpijhnbhopnbaaDoor
