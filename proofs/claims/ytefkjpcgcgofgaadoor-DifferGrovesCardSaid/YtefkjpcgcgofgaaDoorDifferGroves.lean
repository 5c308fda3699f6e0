/- DifferGroves: the walk. Conditions: arguments read as data; the variable errors.errorType holds the handle of error. -/
import Derived.Test.YtefkjpcgcgofgaaDoorGroves
import Derived.Test.YtefkjpcgcgofgaaDoorRefGrove
import Derived.Test.YtefkjpcgcgofgaaDoorTold2
import Derived.Deep.DeepCutAuto
namespace Go.Proofs.YtefkjpcgcgofgaaDoor
set_option linter.unusedVariables false
set_option linter.unusedSimpArgs false
open Go.RowKit

def gE1 (a b : Gv) : Int := if a.e = 0 then b.e else a.e
def gE2 (a b : Gv) : Int := if gE1 a b = 0 then (if a.f = b.f then (if a.way = b.way then (if a.ts.length = b.ts.length then 0 else 3) else 3) else 3) else gE1 a b
theorem grovesC_no {a b : Gv} (h : gE2 a b ≠ 0) : grovesC a b = (0, gE2 a b) := by
  unfold gE2 gE1 at *
  unfold grovesC
  by_cases h1 : a.e = 0
  · simp only [h1, if_true] at h ⊢
    by_cases h2 : b.e = 0
    · simp only [h2, if_true] at h ⊢
      by_cases h3 : a.f = b.f
      · simp only [h3, if_true] at h ⊢
        by_cases h4 : a.way = b.way
        · simp only [h4, if_true] at h ⊢
          by_cases h5 : a.ts.length = b.ts.length
          · simp only [h5, if_true] at h; exact absurd rfl h
          · simp only [h5, if_false]
        · simp only [h4, if_false]
      · simp only [h3, if_false]
    · simp only [h2, if_false]
  · simp only [h1, if_false]
theorem grovesC_yes {a b : Gv} (h : gE2 a b = 0) : a.e = 0 ∧ b.e = 0 ∧ a.f = b.f ∧ a.way = b.way ∧ a.ts.length = b.ts.length ∧ grovesC a b = findD (diffAt a b) 0 a.ts.length := by
  unfold gE2 gE1 at h
  unfold grovesC
  by_cases h1 : a.e = 0
  · simp only [h1, if_true] at h ⊢
    by_cases h2 : b.e = 0
    · simp only [h2, if_true] at h ⊢
      by_cases h3 : a.f = b.f
      · simp only [h3, if_true] at h ⊢
        by_cases h4 : a.way = b.way
        · simp only [h4, if_true] at h ⊢
          by_cases h5 : a.ts.length = b.ts.length
          · simp only [h5, if_true]; exact ⟨trivial, trivial, trivial, trivial, trivial, trivial⟩
          · simp only [h5, if_false] at h; cases h
        · simp only [h4, if_false] at h; cases h
      · simp only [h3, if_false] at h; cases h
    · simp only [h2, if_false] at h
  · simp only [h1, if_false] at h

set_option maxRecDepth 100000 in
set_option maxHeartbeats 8000000 in
theorem differGroves_walk (a b : Gv) (A C : Option Addr) (m d m' d' : Nat) (x y : List Nd) (fe : Int) (w : World) (hg : ErrT w) (ha : GReads w w.heap.size a) (hb : GReads w w.heap.size b) (hx : NReads w w.heap.size A m x) (hy : NReads w w.heap.size C m' y) (hm : m ≤ maxLen) (hm' : m' ≤ maxLen) :
    Calls Tryd.prog 5 #[a.val, b.val, .slice A m d, .slice C m' d', .int .i64 fe] w fun e w' => e = .returned (.bool true) ∧ Below w.heap.size w w' := by
  have hca : Hid (∀ W, Below w.heap.size w W → Calls Tryd.prog 14 #[a.val] W fun e w' => e = .returned (.int .i64 a.e) ∧ Below W.heap.size W w') := hide (fun W hB => rgrove_any a W ((ha.below hB).more hB.size))
  have hcb : Hid (∀ W, Below w.heap.size w W → Calls Tryd.prog 14 #[b.val] W fun e w' => e = .returned (.int .i64 b.e) ∧ Below W.heap.size W w') := hide (fun W hB => rgrove_any b W ((hb.below hB).more hB.size))
  have hcg : Hid (∀ W, Below w.heap.size w W → Calls Tryd.prog 20 #[a.val, b.val] W (GrovesPost a b W)) := hide (fun W hB => groves_any a b W ((ha.below hB).more hB.size) ((hb.below hB).more hB.size))
  have haw := ha.ws
  have hat := ha.ts
  have hbw := hb.ws
  have hbt := hb.ts
  have hla := ha.ts.len
  have hlb := hb.ts.len
  obtain ⟨E1, hE1⟩ : ∃ E, E = gE1 a b := ⟨_, rfl⟩
  obtain ⟨E2, hE2⟩ : ∃ E, E = gE2 a b := ⟨_, rfl⟩
  obtain ⟨R, hR⟩ : ∃ R, R = grovesC a b := ⟨_, rfl⟩
  have HE1 : Hid (E1 = if a.e = 0 then b.e else a.e) := hide (by rw [hE1]; rfl)
  have HE2 : Hid (E2 = if E1 = 0 then (if a.f = b.f then (if a.way = b.way then (if a.ts.length = b.ts.length then 0 else 3) else 3) else 3) else E1) := hide (by rw [hE2, hE1]; rfl)
  have HR0 : Hid (E2 ≠ 0 → R = (0, E2)) := hide (fun h => by rw [hR, hE2]; exact grovesC_no (by rw [← hE2]; exact h))
  have HR1 : Hid (E2 = 0 → R = findD (diffAt a b) 0 a.ts.length ∧ GRight a ∧ GRight b ∧ a.f = b.f ∧ a.ts.length = b.ts.length) := hide (fun h => by
    obtain ⟨p1, p2, p3, p4, p5, p6⟩ := grovesC_yes (hE2.symm.trans h)
    exact ⟨by rw [hR, p6], groveE_right p1, groveE_right p2, p3, p5⟩)
  have HRR := hide hR
  clear hE1 hE2 hR ha hb
  obtain ⟨P, hP⟩ : ∃ P, P = diffAt a b := ⟨_, rfl⟩
  have HP := hide hP
  rw [← hP] at HR1
  have hpost : Hid (∀ W e w', GrovesPost a b W e w' → e = .returned (.tuple #[.int .i64 R.1, errV R.2]) ∧ Below W.heap.size W w') := hide (fun W e w' h => by rw [unhide HRR]; exact h)
  clear hP HRR
  obtain ⟨EA, hEA⟩ : ∃ E, E = a.e := ⟨_, rfl⟩
  obtain ⟨EB, hEB⟩ : ∃ E, E = b.e := ⟨_, rfl⟩
  rw [← hEA] at hca HE1
  rw [← hEB] at hcb HE1
  clear hEA hEB
  obtain ⟨f, way, Aw, nw, cw, ws, At, nt, ct, ts⟩ := a
  obtain ⟨f', way', Aw', nw', cw', ws', At', nt', ct', ts'⟩ := b
  dsimp only at haw hat hbw hbt hla hlb HE2 HR1
  rw [hla, hlb] at HE2
  rw [hla, hlb] at HR1
  simp only [Gv.val] at hca hcb hcg ⊢
  have HLA := hide hla
  have HLB := hide hlb
  clear hla hlb
  obtain ⟨W, hW, bg, bo, hWs, hB0⟩ : ∃ W, W = (w.alloc (.cells #[.int .i64 f, .int .i64 way, .slice Aw nw cw, .slice At nt ct] 26)).alloc (.cells #[.int .i64 f', .int .i64 way', .slice Aw' nw' cw', .slice At' nt' ct'] 26) ∧
      Blk W w.heap.size 26 #[.int .i64 f, .int .i64 way, .slice Aw nw cw, .slice At nt ct] ∧ Blk W (w.heap.size + 1) 26 #[.int .i64 f', .int .i64 way', .slice Aw' nw' cw', .slice At' nt' ct'] ∧ W.heap.size = w.heap.size + 1 + 1 ∧ Below w.heap.size w W := by
    refine ⟨_, rfl, (Blk.new _ _ _).alloc _, ?_, by simp, ((Below.refl _ _).alloc (Nat.le_refl _) _).alloc (by simp) _⟩
    have := Blk.new (w.alloc (.cells #[.int .i64 f, .int .i64 way, .slice Aw nw cw, .slice At nt ct] 26)) 26 #[.int .i64 f', .int .i64 way', .slice Aw' nw' cw', .slice At' nt' ct']
    rwa [World.size_alloc] at this
  have hc1 := hide (unhide hca _ hB0)
  clear hca
  go_enter Tryd.func5, Tryd.ntmps5
  go_wp2_with fail
  rw [← hW]
  clear hW
  refine (unhide hc1).mono ?_
  rintro e w1 ⟨rfl, hb1⟩
  have bg1 := bg.below hb1 (by omega)
  have bo1 := bo.below hb1 (by omega)
  have hB1 := hB0.trans (hb1.mono hB0.size)
  have hs1 : w.heap.size + 1 + 1 ≤ w1.heap.size := by have := hb1.size; omega
  obtain ⟨y0, y1, y2, y3⟩ := bo1.cells4d
  clear hc1 hb1 bg bo hB0 hWs
  go_upto_if 24 with (fail)
  go_cut [11] (fun s11 wx => s11 = .int .i64 E1 ∧ Blk wx w.heap.size 26 #[.int .i64 f, .int .i64 way, .slice Aw nw cw, .slice At nt ct] ∧ Blk wx (w.heap.size + 1) 26 #[.int .i64 f', .int .i64 way', .slice Aw' nw' cw', .slice At' nt' ct'] ∧ Below w.heap.size w wx ∧ w.heap.size + 1 + 1 ≤ wx.heap.size)
  case first =>
    by_cases h : EA = 0
    · have h' : (EA == 0) = true := by simpa using h
      have HX : Hid (E1 = EB) := hide (by rw [unhide HE1, if_pos h])
      have hc2 := hide (unhide hcb _ hB1)
      clear h hcb hcg
      go_wp2_with fail
      refine (unhide hc2).mono ?_
      rintro e w2 ⟨rfl, hb2⟩
      go_wp2_with fail
      go_meet
      case rel => exact ⟨by rw [unhide HX], bg1.below hb2 (by omega), bo1.below hb2 (by omega), hB1.trans (hb2.mono hB1.size), by have := hb2.size; omega⟩
    · have h' : (EA == 0) = false := by simpa using h
      have HX : Hid (E1 = EA) := hide (by rw [unhide HE1, if_neg h])
      clear h hcb hcg
      go_wp2_with fail
      go_meet
      case rel => exact ⟨by rw [unhide HX], bg1, bo1, hB1, hs1⟩
  case rest =>
    obtain ⟨rfl, bg2, bo2, hB2, hs2⟩ := hcut
    clear bg1 bo1 hB1 hs1 y0 y1 y2 y3 hcb HE1
    obtain ⟨x0, x1, x2, x3⟩ := bg2.cells4d
    obtain ⟨y0, y1, y2, y3⟩ := bo2.cells4d
    obtain ⟨bB, hbB⟩ : ∃ bB : Bool, bB = (E1 == 0 && !(f == f' && way == way' && nt == nt')) := ⟨_, rfl⟩
    have HB1 : Hid (bB = true → E2 = 3) := hide (fun h => by
      rw [hbB] at h
      rw [unhide HE2]
      simp only [Bool.and_eq_true, beq_iff_eq, Bool.not_eq_true', Bool.and_eq_false_iff, beq_eq_false_iff_ne] at h
      rw [if_pos h.1]
      rcases h.2 with (h | h) | h
      · rw [if_neg h]
      · rw [if_neg h]; split <;> rfl
      · rw [if_neg h]; split; split <;> rfl; rfl)
    have HB2 : Hid (bB = false → E2 = E1) := hide (fun h => by
      rw [hbB] at h
      rw [unhide HE2]
      by_cases h1 : E1 = 0
      · simp only [h1, beq_self_eq_true, Bool.true_and, Bool.not_eq_false', Bool.and_eq_true, beq_iff_eq] at h
        rw [if_pos h1, if_pos h.1.1, if_pos h.1.2, if_pos h.2, h1]
      · rw [if_neg h1])
    have HBB := hide hbB
    clear hbB
    go_upto_region 4 with (fail)
    go_cut [51] (fun s51 wx => s51 = .bool bB ∧ Blk wx w.heap.size 26 #[.int .i64 f, .int .i64 way, .slice Aw nw cw, .slice At nt ct] ∧ Blk wx (w.heap.size + 1) 26 #[.int .i64 f', .int .i64 way', .slice Aw' nw' cw', .slice At' nt' ct'] ∧ Below w.heap.size w wx ∧ w.heap.size + 1 + 1 ≤ wx.heap.size)
    case first =>
      by_cases h : E1 = 0
      · have h' : (E1 == 0) = true := by simpa using h
        by_cases g1 : f = f'
        · have t1 : (f != f') = false := by simpa using g1
          by_cases g2 : way = way'
          · have t2 : (way != way') = false := by simpa using g2
            by_cases g3 : nt = nt'
            · have HX : Hid (bB = false) := hide (by rw [unhide HBB, g1, g2, g3]; simp)
              have t3 : ((nt : Int) != (nt' : Int)) = false := by simp [g3]
              have t4 : (nt != nt') = false := by simp [g3]
              clear h g1 g2 g3 hcg
              go_wp2_with fail
              go_meet
              case rel => exact ⟨by rw [unhide HX], bg2, bo2, hB2, hs2⟩
            · have HX : Hid (bB = true) := hide (by rw [unhide HBB, h', g1, g2]; simp [g3])
              have t3 : ((nt : Int) != (nt' : Int)) = true := by simpa using fun h : (nt : Int) = nt' => g3 (by omega)
              have t4 : (nt != nt') = true := by simpa using g3
              clear h g1 g2 g3 hcg
              go_wp2_with fail
              go_meet
              case rel => exact ⟨by rw [unhide HX], bg2, bo2, hB2, hs2⟩
          · have HX : Hid (bB = true) := hide (by rw [unhide HBB, h', g1]; simp [g2])
            have t2 : (way != way') = true := by simpa using g2
            clear h g1 g2 hcg
            go_wp2_with fail
            go_meet
            case rel => exact ⟨by rw [unhide HX], bg2, bo2, hB2, hs2⟩
        · have HX : Hid (bB = true) := hide (by rw [unhide HBB, h']; simp [g1])
          have t1 : (f != f') = true := by simpa using g1
          clear h g1 hcg
          go_wp2_with fail
          go_meet
          case rel => exact ⟨by rw [unhide HX], bg2, bo2, hB2, hs2⟩
      · have h' : (E1 == 0) = false := by simpa using h
        have HX : Hid (bB = false) := hide (by rw [unhide HBB, h']; rfl)
        clear h hcg
        go_wp2_with fail
        go_meet
        case rel => exact ⟨by rw [unhide HX], bg2, bo2, hB2, hs2⟩
    case' rest =>
      obtain ⟨rfl, bg2', bo2', hB2', hs2'⟩ := hcut
      clear bg2 bo2 hB2 hs2 x0 x1 x2 x3 y0 y1 y2 y3 HE2 HBB
      go_upto_if 51 with (fail)
      go_cut [11] (fun s11 wx => s11 = .int .i64 E2 ∧ Blk wx w.heap.size 26 #[.int .i64 f, .int .i64 way, .slice Aw nw cw, .slice At nt ct] ∧ Blk wx (w.heap.size + 1) 26 #[.int .i64 f', .int .i64 way', .slice Aw' nw' cw', .slice At' nt' ct'] ∧ Below w.heap.size w wx ∧ w.heap.size + 1 + 1 ≤ wx.heap.size)
    case first =>
      cases bB
      · have HX := hide (unhide HB2 rfl)
        clear hcg
        go_wp2_with fail
        go_meet
        case rel => exact ⟨by rw [unhide HX], bg2', bo2', hB2', hs2'⟩
      · have HX := hide (unhide HB1 rfl)
        clear hcg
        go_wp2_with fail
        go_meet
        case rel => exact ⟨by rw [unhide HX], bg2', bo2', hB2', hs2'⟩
    case rest =>
      obtain ⟨rfl, bg3, bo3, hB3, hs3⟩ := hcut
      clear bg2' bo2' hB2' hs2' HB1 HB2
      go_upto_if 53 with (fail)
      go_cut [11, 12] (fun s11 s12 wx => s11 = .int .i64 R.2 ∧ s12 = .int .i64 R.1 ∧ Blk wx w.heap.size 26 #[.int .i64 f, .int .i64 way, .slice Aw nw cw, .slice At nt ct] ∧ Blk wx (w.heap.size + 1) 26 #[.int .i64 f', .int .i64 way', .slice Aw' nw' cw', .slice At' nt' ct'] ∧ Below w.heap.size w wx ∧ w.heap.size + 1 + 1 ≤ wx.heap.size)
      case first =>
        by_cases h : E2 = 0
        · obtain ⟨hRP, hGa, hGb, hff, hnn⟩ := unhide HR1 h
          have h' : (E2 == 0) = true := by simpa using h
          subst hff hnn
          have hm12 : nt ≤ 12 := by have := hGa.most; have := unhide HLA; dsimp only at *; omega
          have hf0 : 0 ≤ f := hGa.f0
          have hwl : nw = nt := by have h1 := hGa.wlen; have h2 := unhide HLA; have h3 := haw.len; dsimp only at h1; omega
          have hwl' : nw' = nt := by have h1 := hGb.wlen; have h2 := unhide HLB; have h3 := hbw.len; dsimp only at h1; omega
          subst hwl
          have HTA : Hid (∀ r ∈ ts, Right r.l f) := hide (fun r hr => right_of (hGa.trees r hr))
          have HTB : Hid (∀ r ∈ ts', Right r.l f) := hide (fun r hr => right_of (hGb.trees r hr))
          obtain ⟨n, rfl⟩ : ∃ n : Nat, f = n := ⟨f.toNat, by omega⟩
          have HF0 : Hid (findD P 0 nw = R) := hide hRP.symm
          rw [h']
          clear hGa hGb hRP HR0 HR1 h h' hcg hpost
          have hwl2 : nw ≤ nw' := by omega
          clear hwl'
          have hsw := hB3.size
          go_wp2_with fail
          go_loopw [11, 12, 13] (fun s11 s12 i wr => ∃ (k : Nat) (e a1 : Int), k ≤ nw ∧ i = .int .i64 k ∧ s11 = .int .i64 e ∧ s12 = .int .i64 a1 ∧ Hid ((e = 5 ∧ a1 = 0 ∧ findD P k (nw - k) = R) ∨ (e = 0 ∧ R.2 = 0 ∧ a1 = R.1)) ∧ Below w.heap.size w wr ∧ Blk wr w.heap.size 26 #[.int .i64 n, .int .i64 way, .slice Aw nw cw, .slice At nw ct] ∧ Blk wr (w.heap.size + 1) 26 #[.int .i64 n, .int .i64 way', .slice Aw' nw' cw', .slice At' nw ct'] ∧ w.heap.size + 1 + 1 ≤ wr.heap.size) (fun _ _ i _ => nw - (intOf i).toNat)
          case atStart => exact ⟨0, 5, 0, Nat.zero_le _, rfl, rfl, rfl, hide (.inl ⟨rfl, rfl, unhide HF0⟩), hB3, bg3, bo3, hs3⟩
          case round =>
            clear hB3 bg3 bo3 hs3 hsw
            obtain ⟨k, e, a1, hk, rfl, rfl, rfl, HD, hbel, bg, bo, hs⟩ := hrel
            obtain ⟨x0, x1, x2, x3⟩ := bg.cells4d
            obtain ⟨y0, y1, y2, y3⟩ := bo.cells4d
            have hsr := hbel.size
            rcases unhide HD with ⟨rfl, rfl, hF⟩ | ⟨rfl, hR2, rfl⟩
            · by_cases hlt : k < nw
              · obtain ⟨q, hq⟩ : ∃ q, nw - k = q + 1 := ⟨nw - k - 1, by omega⟩
                rw [hq] at hF
                obtain ⟨b1, o1, r, rfl, _, hr, cr, okr⟩ := (hat.below hbel).get hlt
                obtain ⟨b2, o2, r', rfl, hb2, hr', cr', okr'⟩ := (hbt.below hbel).get hlt
                obtain ⟨b3, o3, xa, rfl, hb3, hxa, ca⟩ := (haw.below hbel).get hlt
                obtain ⟨b4, o4, xb, rfl, hb4, hxb, cb⟩ := (hbw.below hbel).get (Nat.lt_of_lt_of_le hlt hwl2)
                have hRa := unhide HTA r (List.mem_of_getElem? hr)
                have hRb := unhide HTB r' (List.mem_of_getElem? hr')
                obtain ⟨V, hV⟩ : ∃ V : Int, V = (movedR r.l r'.l n : Nat) := ⟨_, rfl⟩
                have HPK : Hid (P k = (decide (0 < V) || (xa != xb))) := hide (by
                  rw [unhide HP]
                  unfold diffAt trAt
                  simp only [hr, hr', List.getD_eq_getElem?_getD, hxa, hxb, Option.getD_some, Int.toNat_natCast]
                  congr 1
                  rw [hV, ← pairsL_moved hRa hRb]
                  cases pairsL r.l r'.l n with
                  | nil => rfl
                  | cons z zs => simp)
                have HW := hide (rmoved_any r.A r'.A r.n r.c r'.n r'.c n r.l r'.l hRa hRb wr.drew (Reads.drew (okr.reads.more hsr)) (Reads.drew (okr'.reads.more hsr)))
                rw [← hV] at HW
                have HF := hide hF
                obtain ⟨rA, rn, rc, rl⟩ := r
                obtain ⟨rA', rn', rc', rl'⟩ := r'
                dsimp only at cr cr' HW
                clear hr hr' hxa hxb hRa hRb okr okr' hF HD hV
                go_wp2_with fail
                go_still_tail 12, (by kernel_rfl)
                go_wp2_with fail
                refine (unhide HW).mono ?_
                rintro e w4 ⟨rfl, hb5⟩
                have hb5' : Below wr.heap.size wr w4 := ⟨hb5.os, hb5.tape, hb5.output, hb5.size, hb5.block⟩
                have hbel4 := hbel.trans (hb5'.mono hsr)
                have ca4 := (hb5'.cell (p := ⟨b3, o3 + k, none⟩) (by show b3 < _; omega)).trans ca
                have cb4 := (hb5'.cell (p := ⟨b4, o4 + k, none⟩) (by show b4 < _; omega)).trans cb
                have bg4 := bg.below hb5' (by omega)
                have bo4 := bo.below hb5' (by omega)
                have hs4 : w.heap.size + 1 + 1 ≤ w4.heap.size := by have := hb5'.size; omega
                obtain ⟨x0', x1', x2', x3'⟩ := bg4.cells4d
                obtain ⟨y0', y1', y2', y3'⟩ := bo4.cells4d
                clear HW hb5 hb5' hbel bg bo hs x0 x1 x2 x3 y0 y1 y2 y3 cr cr' ca cb
                by_cases hV0 : 0 < V
                · have d1 : decide (0 < V) = true := by simpa using hV0
                  have HR2 : Hid (R = (k, 0)) := hide (findD_hit (unhide HF) (by rw [unhide HPK, d1]; rfl))
                  clear hV0
                  go_wp2_with fail
                  go_quiet (fail)
                  go_wp2_with fail
                  go_roundw
                  case rel => exact ⟨k + 1, 0, k, by omega, by go_num, rfl, rfl, hide (.inr ⟨rfl, by rw [unhide HR2], by rw [unhide HR2]⟩), below_drewN hbel4 _, bg4.drewN _, bo4.drewN _, hs4⟩
                  case measure => simp [intOf]; omega
                · have d2 : decide (0 < V) = false := by simpa using hV0
                  by_cases hx : xa = xb
                  · have fx : (xa != xb) = false := by simp [hx]
                    have HF2 : Hid (findD P (k + 1) (nw - (k + 1)) = R) := hide (by rw [show nw - (k + 1) = q by omega]; exact findD_miss (unhide HF) (by rw [unhide HPK, fx, d2]; rfl))
                    clear hx hV0
                    go_wp2_with fail
                    go_quiet (fail)
                    go_wp2_with fail
                    go_roundw
                    case rel => exact ⟨k + 1, 5, 0, by omega, by go_num, rfl, rfl, hide (.inl ⟨rfl, rfl, unhide HF2⟩), below_drewN hbel4 _, bg4.drewN _, bo4.drewN _, hs4⟩
                    case measure => simp [intOf]; omega
                  · have fx : (xa != xb) = true := by simpa using hx
                    have HR2 : Hid (R = (k, 0)) := hide (findD_hit (unhide HF) (by rw [unhide HPK, fx]; simp))
                    clear hx hV0
                    go_wp2_with fail
                    go_quiet (fail)
                    go_wp2_with fail
                    go_roundw
                    case rel => exact ⟨k + 1, 0, k, by omega, by go_num, rfl, rfl, hide (.inr ⟨rfl, by rw [unhide HR2], by rw [unhide HR2]⟩), below_drewN hbel4 _, bg4.drewN _, bo4.drewN _, hs4⟩
                    case measure => simp [intOf]; omega
              · have HR2 : Hid (R = (0, 5)) := hide (by rw [← hF, show nw - k = 0 by omega]; rfl)
                clear hF HD
                go_wp2_with fail
                go_meet
                case rel => exact ⟨by rw [unhide HR2], by rw [unhide HR2]; rfl, bg, bo, hbel, hs⟩
            · have HR2 := hide hR2
              clear hR2 HD
              by_cases hlt : k < nw
              all_goals
                go_wp2_with fail
                go_meet
                case rel => exact ⟨by rw [unhide HR2], rfl, bg, bo, hbel, hs⟩
        · have h' : (E2 == 0) = false := by simpa using h
          have HR2 := hide (unhide HR0 h)
          clear h hcg hpost HR0 HR1
          go_wp2_with fail
          go_meet
          case rel => exact ⟨by rw [unhide HR2], by rw [unhide HR2]; rfl, bg3, bo3, hB3, hs3⟩
      case rest =>
        obtain ⟨rfl, rfl, bg4, bo4, hB4, hs4⟩ := hcut
        obtain ⟨x0, x1, x2, x3⟩ := bg4.cells4d
        obtain ⟨y0, y1, y2, y3⟩ := bo4.cells4d
        have hs4' : w.heap.size ≤ _ := hB4.size
        have hcc := hide (unhide hcg _ hB4)
        have HER := hide (rfl : R.2 = R.2)
        clear bg3 bo3 hB3 hs3 bg4 bo4 HR0 HR1
        obtain ⟨R1, R2⟩ := R
        dsimp only at *
        go_wp2_with fail
        refine (unhide hcc).mono ?_
        intro e w5 hp
        obtain ⟨rfl, hb5⟩ := unhide hpost _ _ _ hp
        dsimp only
        have hB5 := hB4.trans (hb5.mono hs4')
        have hs5 := hB5.size
        have hg5 := hg.below hB5 hg.lt
        clear hp hcc hcg hb5 hB4 x0 x1 x2 x3 y0 y1 y2 y3 hpost
        go_wp2_with fail
        refine (error_any R2 R2 _ hg5).mono ?_
        rintro e w6 ⟨rfl, hb6⟩
        rw [beq_self_eq_true]
        have hB6 := hB5.trans (hb6.mono hs5)
        have hs6 := hB6.size
        clear hb6 hB5 hs5 hg5
        go_wp2_with fail
        refine (rtree_any A m d fe x w6 ((hx.below hB6).more hs6) hm).mono ?_
        rintro e w7 ⟨rfl, hb7⟩
        have hB7 := hB6.trans (hb7.mono hs6)
        have hs7 := hB7.size
        rw [show (treeC x fe).2 = treeE x fe from rfl]
        clear hb7 hB6 hs6
        by_cases ex : treeE x fe = 0
        · rw [ex]
          go_wp2_with fail
          refine (rtree_any C m' d' fe y w7 ((hy.below hB7).more hs7) hm').mono ?_
          rintro e w8 ⟨rfl, hb8⟩
          have hB8 := hB7.trans (hb8.mono hs7)
          have hs8 := hB8.size
          rw [show (treeC y fe).2 = treeE y fe from rfl]
          clear hb8 hB7 hs7
          by_cases ey : treeE y fe = 0
          · have hrx := right_of ex
            have hry := right_of ey
            obtain ⟨n, rfl⟩ : ∃ n : Nat, fe = n := ⟨fe.toNat, by have := hrx.fe0; omega⟩
            have hE : bothE x y n = 0 := by unfold bothE; rw [if_pos ex, ey]
            have HM : Hid (movedV x y n = (movedR x y n : Nat)) := hide (by unfold movedV; rw [if_pos hE, Int.toNat_natCast, pairsL_moved hrx hry])
            have HEE := hide hE
            have HX := hide hrx
            have HY := hide hry
            rw [ey]
            clear ex ey hE hrx hry
            go_wp2_with fail
            refine (rmoved_any A C m d m' d' n x y (unhide HX) (unhide HY) w8 ((hx.below hB8).more hs8) ((hy.below hB8).more hs8)).mono ?_
            rintro e w9 ⟨rfl, hb9⟩
            have hB9 := hB8.trans (hb9.mono hs8)
            have hs9 := hB9.size
            clear hb9 hB8 hs8
            go_wp2_with fail
            refine (Moved_any A C m d m' d' x y n w9 ((hx.below hB9).more hs9) ((hy.below hB9).more hs9) hm hm').mono ?_
            rintro e w10 ⟨rfl, hb10⟩
            rw [unhide HM, unhide HEE]
            have hB10 := hB9.trans (hb10.mono hs9)
            have hs10 := hB10.size
            have hg10 := hg.below hB10 hg.lt
            clear hb10 hB9 hs9
            go_wp2_with fail
            refine (error_any 0 0 _ hg10).mono ?_
            rintro e w11 ⟨rfl, hb11⟩
            rw [beq_self_eq_true]
            go_wp2_with fail
            go_ret
            exact ⟨rfl, hB10.trans (hb11.mono hs10)⟩
          · have hE : bothE x y fe = treeE y fe := by unfold bothE; rw [if_pos ex]
            have hM : movedV x y fe = 0 := by unfold movedV; rw [if_neg (by rw [hE]; exact ey)]
            have HEE := hide hE
            have HM := hide hM
            have ey' : (treeE y fe == 0) = false := by simpa using ey
            clear ex ey hE hM
            go_wp2_with fail
            refine (Moved_any A C m d m' d' x y fe w8 ((hx.below hB8).more hs8) ((hy.below hB8).more hs8) hm hm').mono ?_
            rintro e w10 ⟨rfl, hb10⟩
            rw [unhide HM, unhide HEE]
            have hB10 := hB8.trans (hb10.mono hs8)
            have hs10 := hB10.size
            have hg10 := hg.below hB10 hg.lt
            clear hb10 hB8 hs8
            go_wp2_with fail
            refine (error_any _ _ _ hg10).mono ?_
            rintro e w11 ⟨rfl, hb11⟩
            rw [beq_self_eq_true]
            go_wp2_with fail
            go_ret
            exact ⟨rfl, hB10.trans (hb11.mono hs10)⟩
        · have hE : bothE x y fe = treeE x fe := by unfold bothE; rw [if_neg ex]
          have hM : movedV x y fe = 0 := by unfold movedV; rw [if_neg (by rw [hE]; exact ex)]
          have HEE := hide hE
          have HM := hide hM
          have ex' : (treeE x fe == 0) = false := by simpa using ex
          clear ex hE hM
          go_wp2_with fail
          refine (Moved_any A C m d m' d' x y fe w7 ((hx.below hB7).more hs7) ((hy.below hB7).more hs7) hm hm').mono ?_
          rintro e w10 ⟨rfl, hb10⟩
          rw [unhide HM, unhide HEE]
          have hB10 := hB7.trans (hb10.mono hs7)
          have hs10 := hB10.size
          have hg10 := hg.below hB10 hg.lt
          clear hb10 hB7 hs7
          go_wp2_with fail
          refine (error_any _ _ _ hg10).mono ?_
          rintro e w11 ⟨rfl, hb11⟩
          rw [beq_self_eq_true]
          go_wp2_with fail
          go_ret
          exact ⟨rfl, hB10.trans (hb11.mono hs10)⟩
end Go.Proofs.YtefkjpcgcgofgaaDoor
