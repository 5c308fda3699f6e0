/- Part 25 of what LawBoostTells needs: Together3, GroveOps, GroveOps2. Conditions: as each lemma names. -/
import Derived.Test.YtdpijhnbhopnbaaGreatDoorPkBoostTells24
import Derived.Test.YtdpijhnbhopnbaaGreatDoorPkBoostTells21
/- grove.Together: the walk. Conditions: as many values as weights, at most 12, cells and weights in their bounds. -/
namespace Go.Proofs.YtdpijhnbhopnbaaGreatDoor
set_option linter.unusedVariables false
set_option linter.unusedSimpArgs false
open Go.RowKit Go.Maps Go.Sort Go.Shelf

theorem zip_take {α β : Type} {l : List α} {s : List β} {k : Nat} {x : α} {y : β} (hx : l[k]? = some x) (hy : s[k]? = some y) : (l.zip s).take (k + 1) = (l.zip s).take k ++ [(x, y)] := by
  rw [List.take_add_one]
  congr 1
  have : (l.zip s)[k]? = some (x, y) := List.getElem?_zip_eq_some.2 ⟨hx, hy⟩
  rw [this]; rfl
theorem keyed_int : Keyed Tryz.prog 3 := int_keyed Tryz.underlying3
theorem zero_int (w : World) : (zeroValue 3).run Tryz.prog w = .ok (.int .i64 0) w := by kernel_rfl
theorem take_in {ps : Ps} {k : Nat} (hw : ∀ p ∈ ps, (-1000000 ≤ p.1 ∧ p.1 ≤ 1000000) ∧ 1 ≤ p.2 ∧ p.2 ≤ 1000) (hk : ps.length ≤ 12) :
    (-12000000000 ≤ pSum (ps.take k) ∧ pSum (ps.take k) ≤ 12000000000) ∧ (0 ≤ pAll (ps.take k) ∧ pAll (ps.take k) ≤ 12000) ∧ ∀ v, 0 ≤ pVotes (ps.take k) v ∧ pVotes (ps.take k) v ≤ 12000 := by
  have hl : (ps.take k).length ≤ 12 := by rw [List.length_take]; omega
  have hm : ∀ p ∈ ps.take k, (-1000000 ≤ p.1 ∧ p.1 ≤ 1000000) ∧ 1 ≤ p.2 ∧ p.2 ≤ 1000 := fun p hp => hw p (List.mem_of_mem_take hp)
  have h1 := pSum_in (ps := ps.take k) (fun p hp => mul_in (hm p hp).1 ⟨by have := (hm p hp).2; omega, (hm p hp).2.2⟩)
  have h2 := pAll_in (ps := ps.take k) (fun p hp => (hm p hp).2)
  refine ⟨by omega, by omega, fun v => ?_⟩
  have h3 := pVotes_in (ps := ps.take k) (v := v) (fun p hp => ⟨by have := (hm p hp).2; omega, (hm p hp).2.2⟩)
  omega

set_option maxRecDepth 100000 in
set_option maxHeartbeats 4000000 in
theorem tog_any (way : Int) (Aw Al : Option Addr) (nw cw nl cl : Nat) (ws l : List Int) (w : World) (hw : IReads w w.heap.size Aw nw ws) (hl : IReads w w.heap.size Al nl l) (hn : nl = nw) (h12 : nl ≤ 12) (hpos : 0 < nl)
    (hwb : ∀ x ∈ ws, 1 ≤ x ∧ x ≤ 1000) (hlb : ∀ x ∈ l, -1000000 ≤ x ∧ x ≤ 1000000) :
    Calls Tryz.prog 54 #[.int .i64 way, .slice Aw nw cw, .slice Al nl cl] w fun e w' => e = .returned (.int .i64 (togV way ws l)) ∧ Below w.heap.size w w' := by
  subst hn
  have hmm := @run_makeMap Tryz.prog
  have hlenl := hl.len
  have hlenw := hw.len
  obtain ⟨ps, hps⟩ : ∃ ps, ps = l.zip ws := ⟨_, rfl⟩
  have hpl : ps.length = nl := by rw [hps, List.length_zip, hlenl, hlenw]; exact Nat.min_self _
  have hpb : ∀ p ∈ ps, (-1000000 ≤ p.1 ∧ p.1 ≤ 1000000) ∧ 1 ≤ p.2 ∧ p.2 ≤ 1000 := fun p hp => by
    rw [hps] at hp
    have := List.of_mem_zip (a := p.1) (b := p.2) hp
    exact ⟨hlb _ this.1, hwb _ this.2⟩
  have HB : Hid (∀ k, (-12000000000 ≤ pSum (ps.take k) ∧ pSum (ps.take k) ≤ 12000000000) ∧ (0 ≤ pAll (ps.take k) ∧ pAll (ps.take k) ≤ 12000) ∧ ∀ v, 0 ≤ pVotes (ps.take k) v ∧ pVotes (ps.take k) v ≤ 12000) := hide (fun k => take_in hpb (by omega))
  have HT : Hid (togV way ws l = if way = 1 then pSum ps else if way = 2 then pSum ps / pAll ps else voteV ps) := hide (by rw [hps]; rfl)
  have HA : Hid ((nl : Int) ≤ pAll ps) := hide (by have := (pAll_in (ps := ps) (fun p hp => (hpb p hp).2)).1; rw [hpl] at this; exact this)
  have HPL := hide hpl
  have HPS := hide hps
  have HPB := hide hpb
  clear hpl hps hpb hlenl hlenw hwb hlb
  go_enter Tryz.func54, Tryz.ntmps54
  go_wp2_with fail
  have hb0 : Below w.heap.size w (w.alloc (.map #[] 0)) := (Below.refl _ _).alloc (Nat.le_refl _) _
  have ho0 : (w.alloc (.map #[] 0)).ownsMap Tryz.prog 3 (plainElem (H := Value) Tryz.prog 3) w.heap.size 0 (.map []) := World.ownsMap_made w Tryz.prog 3 _
  go_loopw [7, 8, 16] (fun s a i wr => ∃ (k nn : Nat) (S T : Int) (D : DataW Value), k ≤ nl ∧ i = .int .i64 k ∧ s = .int .i64 S ∧ a = .int .i64 T ∧ Hid (S = pSum (ps.take k)) ∧ Hid (T = pAll (ps.take k)) ∧
      nn ≤ k ∧ wr.ownsMap Tryz.prog 3 (plainElem Tryz.prog 3) w.heap.size nn D ∧ Hid (VoteMap D (ps.take k)) ∧ Below w.heap.size w wr) (fun _ _ i _ => nl - (Lib.intOf i).toNat)
  case atStart => exact ⟨0, 0, 0, 0, .map [], Nat.zero_le _, rfl, rfl, rfl, hide rfl, hide rfl, Nat.le_refl _, ho0, hide (VoteMap.zero), hb0⟩
  case round =>
    clear ho0 hb0 hmm
    obtain ⟨k, nn, S, T, D, hk, rfl, rfl, rfl, HS, HTT, hnn, hown, HV, hbel⟩ := hrel
    obtain ⟨⟨hS1, hS2⟩, ⟨hT1, hT2⟩, _⟩ := unhide HB k
    rw [← unhide HS] at hS1 hS2
    rw [← unhide HTT] at hT1 hT2
    by_cases hlt : k < nl
    · obtain ⟨b, o, x, rfl, hbb, hx, cx⟩ := (hl.below hbel).get hlt
      obtain ⟨b2, o2, y, rfl, hbb2, hy, cy⟩ := (hw.below hbel).get hlt
      have HZ : Hid (ps.take (k + 1) = ps.take k ++ [(x, y)]) := hide (by rw [unhide HPS]; exact zip_take hx hy)
      obtain ⟨⟨hx1, hx2⟩, hy1, hy2⟩ := unhide HPB (x, y) (by rw [unhide HPS]; exact List.mem_of_getElem? (List.getElem?_zip_eq_some.2 ⟨hx, hy⟩))
      dsimp only at hx1 hx2 hy1 hy2
      obtain ⟨hm1, hm2⟩ := mul_in ⟨hx1, hx2⟩ ⟨by omega, hy2⟩
      have hkey := keyI_key (P := Tryz.prog) Tryz.underlying3 (x := x) (by omega)
      have hDm := hown.isMap
      clear hx hy
      go_wp2_with fail
      have hpl := (World.ownsMap.drew hown).lookup_int keyed_int Tryz.underlying104 Tryz.underlying3 (zero_int _) hkey
      obtain ⟨c, hlk, hat, hwc⟩ := hpl
      obtain ⟨hV2, hcv⟩ := (unhide HV).next hDm (x, y) hat
      obtain ⟨hc1, hc2⟩ := (unhide HB k).2.2 x
      dsimp only at hcv
      rw [← hcv] at hc1 hc2
      have HV2 := hide hV2
      clear hV2 hcv hat hwc
      have hsum : IntKind.i64.wrap (c + y) = c + y := IntWalk.i64_in _ (by omega)
      go_still_tail 8, (by kernel_rfl)
      have hnn2 : nn < maxLen := by unfold maxLen; omega
      have howd := World.ownsMap.drew hown
      have hel : plainElem (H := Value) Tryz.prog 3 (.int .i64 (c + y)) = some (.lit (.int .i64 (c + y)), []) := plainElem_int Tryz.underlying3 (WalkArith.wf_i64 (by omega))
      refine wpList_mapUpdate_own _ rfl _ _ _ 104 rfl 3 3 keyed_int Tryz.underlying104 _ w.heap.size nn _ rfl howd hnn2 _ _ _ rfl rfl hkey _ _ hel ?_
      intro w2 hown2 hgr
      have hbel2 : Below w.heap.size w w2 := by
        refine hbel.trans ?_
        have hg' : wr.drew.grownBy w2 (some w.heap.size) := hgr
        exact ((Below.refl w.heap.size wr).drew).grown hg' hbel.size (fun j hj => by injection hj with hj; omega)
      have HS2 : Hid (S + x * y = pSum (ps.take (k + 1))) := hide (by rw [unhide HZ, pSum_snoc, unhide HS])
      have HT2 : Hid (T + y = pAll (ps.take (k + 1))) := hide (by rw [unhide HZ, pAll_snoc, unhide HTT])
      have HV3 : Hid (VoteMap (D.put (keyI x) (.lit (.int .i64 (c + y)))) (ps.take (k + 1))) := hide (by rw [unhide HZ]; exact unhide HV2)
      clear hsum howd hgr hlk hel hown HV2 HV hbel hDm
      go_wp2_with fail
      go_roundw
      case rel => exact ⟨k + 1, nn + 1, _, _, _, by omega, by go_num, rfl, rfl, HS2, HT2, by omega, hown2, HV3, hbel2⟩
      case measure => simp [Lib.intOf]; omega
    · obtain rfl : k = nl := by omega
      have htk : ps.take k = ps := List.take_of_length_le (by rw [unhide HPL]; exact Nat.le_refl _)
      have hVM := unhide HV
      have hS0 := unhide HS
      have hT0 := unhide HTT
      rw [htk] at hVM hS0 hT0
      have HVM := hide hVM
      have HS0 := hide hS0
      have HT0 := hide hT0
      have hTp : 0 < T := by rw [hT0]; have := unhide HA; omega
      clear hVM hS0 hT0 htk HV HS HTT
      by_cases h1 : way = 1
      · have e1 : (way == 1) = true := by simp [h1]
        have HR : Hid (togV way ws l = S) := hide (by rw [unhide HT, if_pos h1, unhide HS0])
        clear h1
        go_wp2_with fail
        go_ret
        exact ⟨by rw [unhide HR]; rfl, hbel⟩
      have e1 : (way == 1) = false := by simp [h1]
      by_cases h2 : way = 2
      · have e2 : (way == 2) = true := by simp [h2]
        have HR : Hid (togV way ws l = S / T) := hide (by rw [unhide HT, if_neg h1, if_pos h2, unhide HS0, unhide HT0])
        clear h1 h2
        go_wp2_with fail
        refine (floor_any S T _ hTp (by omega) (by omega) (by omega)).mono ?_
        rintro e w3 ⟨rfl, rfl⟩
        go_wp2_with fail
        go_ret
        exact ⟨by rw [unhide HR]; rfl, hbel⟩
      have e2 : (way == 2) = false := by simp [h2]
      have HR : Hid (togV way ws l = voteV ps) := hide (by rw [unhide HT, if_neg h1, if_neg h2])
      have hsz := hown.size_le
      have hmlt := hown.lt
      have hps0 : ps ≠ [] := by intro e; have := unhide HPL; rw [e] at this; simp at this; omega
      have HP0 := hide hps0
      clear h1 h2 hps0
      go_wp2_with fail
      refine (mvals_any _ _).mono ?_
      rintro e w3 ⟨rfl, rfl⟩
      have hB1 : Below wr.heap.size wr (wr.alloc (.cells #[.map (some w.heap.size)] 104)) := (Below.refl _ _).alloc (Nat.le_refl _) _
      have hbx : (wr.alloc (.cells #[.map (some w.heap.size)] 104)).cell? ⟨wr.heap.size, 0, none⟩ = some (.map (some w.heap.size)) := (Blk.new wr 104 #[.map (some w.heap.size)]).cell 0
      have hs1 : (wr.alloc (.cells #[.map (some w.heap.size)] 104)).heap.size = wr.heap.size + 1 := by simp
      have ho1 := own_map_of_below hown hB1 hmlt
      have hbel1 := hbel.trans (hB1.mono hbel.size)
      generalize wr.alloc (.cells #[.map (some w.heap.size)] 104) = w1 at *
      have hcol := mcollect_any 83 #[.pointer (some ⟨wr.heap.size, 0, none⟩)] (enters_of Tryz.func83 (by kernel_rfl) rfl) (ValsOf D) (Maps.size D) (by omega) w1
        (mvals_gives 3 (by omega) wr.heap.size w.heap.size nn D w1 (by omega) hbx ho1)
      have HC := hide hcol
      clear hcol hbx
      go_wp2_with fail
      refine (unhide HC).mono ?_
      rintro e w3 ⟨v3, vs, rfl, hvs, hown3, hb3⟩
      clear HC
      have ho3 := own_map_of_below ho1 hb3 ho1.lt
      have hbel3 := hbel1.trans (hb3.mono hbel1.size)
      have hvn : vs ≠ [] := (vote_of (unhide HVM) hvs (unhide HP0) (ss := (ps.map (·.1)).filter fun x => Lib.maxOf vs ≤ pVotes ps x) (fun x => by simp [List.mem_filter])).1
      have hmax := max_any v3 vs _ w3 hown3 hvn
      have HVS := hide hvs
      have HVN := hide hvn
      clear hvs hvn hown hB1
      go_wp2_with fail
      refine hmax.mono ?_
      rintro e w4 ⟨rfl, rfl⟩
      clear hmax
      obtain ⟨best, hbest⟩ : ∃ b, b = Lib.maxOf vs := ⟨_, rfl⟩
      rw [← hbest]
      have HBE := hide hbest
      clear hbest
      go_wp2_with fail
      have hz3 := hb3.size
      have hB4 : Below w3.heap.size w3 (w3.alloc (.cells #[.int .i64 best] 3)) := (Below.refl _ _).alloc (Nat.le_refl _) _
      have hbx4 : (w3.alloc (.cells #[.int .i64 best] 3)).cell? ⟨w3.heap.size, 0, none⟩ = some (.int .i64 best) := (Blk.new w3 3 #[.int .i64 best]).cell 0
      have hs4 : (w3.alloc (.cells #[.int .i64 best] 3)).heap.size = w3.heap.size + 1 := by simp
      have ho4 := own_map_of_below ho3 hB4 ho3.lt
      have hbel4 := hbel3.trans (hB4.mono hbel3.size)
      have hlt3 := ho3.lt
      clear hown3 hb3 hB4
      generalize w3.alloc (.cells #[.int .i64 best] 3) = w4 at *
      have hdel := mdel_any w.heap.size nn w3.heap.size D best w4 ho4 hbx4 (by omega)
      clear hbx4
      refine hdel.mono ?_
      clear hdel
      rintro e w5 ⟨rfl, ho5, hg5⟩
      have hbel5 : Below w.heap.size w w5 := hbel4.grown hg5 hbel4.size (fun j hj => by injection hj with hj; omega)
      go_wp2_with fail
      refine (mkeys_any _ _).mono ?_
      rintro e w6 ⟨rfl, rfl⟩
      have hB6 : Below w5.heap.size w5 (w5.alloc (.cells #[.map (some w.heap.size)] 104)) := (Below.refl _ _).alloc (Nat.le_refl _) _
      have hbx6 : (w5.alloc (.cells #[.map (some w.heap.size)] 104)).cell? ⟨w5.heap.size, 0, none⟩ = some (.map (some w.heap.size)) := (Blk.new w5 104 #[.map (some w.heap.size)]).cell 0
      have hs6 : (w5.alloc (.cells #[.map (some w.heap.size)] 104)).heap.size = w5.heap.size + 1 := by simp
      have ho6 := own_map_of_below ho5 hB6 ho5.lt
      have hbel6 := hbel5.trans (hB6.mono hbel5.size)
      generalize w5.alloc (.cells #[.map (some w.heap.size)] 104) = w6 at *
      have hsz6 := ho6.size_le
      have hcol6 := mcollect_any 84 #[.pointer (some ⟨w5.heap.size, 0, none⟩)] (enters_of Tryz.func84 (by kernel_rfl) rfl) _ (Maps.size (Lib.deleteFuncD (fewD best) D)) (by omega) w6
        (mkeys_gives 3 (by omega) w5.heap.size w.heap.size nn (Lib.deleteFuncD (fewD best) D) w6 (by omega) hbx6 ho6)
      have HC6 := hide hcol6
      clear hcol6 hbx6
      go_wp2_with fail
      refine (unhide HC6).mono ?_
      rintro e w7 ⟨v7, ss, rfl, hss, hown7, hb7⟩
      clear HC6
      have hbel7 := hbel6.trans (hb7.mono hbel6.size)
      have hkl := keys_left (P := Tryz.prog) keyed_int Tryz.underlying3 ho4 (unhide HVM) hss
      rw [unhide HBE] at hkl
      obtain ⟨_, hsn, hvote⟩ := vote_of (unhide HVM) (unhide HVS) (unhide HP0) hkl
      have HR2 : Hid (togV way ws l = Lib.minOf ss) := hide (by rw [unhide HR, voteV_eq hvote])
      have hmin := hide (min_any v7 ss _ w7 hown7 hsn)
      clear hkl hsn hvote hss hown7
      go_wp2_with fail
      refine (unhide hmin).mono ?_
      rintro e w8 ⟨rfl, rfl⟩
      go_wp2_with fail
      go_ret
      exact ⟨by rw [unhide HR2]; rfl, hbel7⟩
end Go.Proofs.YtdpijhnbhopnbaaGreatDoor
/- grove.Ready, Each, Eval: contracts. Conditions: arguments read as lists. -/
namespace Go.Proofs.YtdpijhnbhopnbaaGreatDoor
set_option linter.unusedVariables false
set_option linter.unusedSimpArgs false
open Go.RowKit

def standE (g : Gv) (r : List Int) : Int := if g.e = 0 then (if rowE r = 0 then (if (r.length : Int) = g.f then 0 else 3) else rowE r) else g.e
def eachV (g : Gv) (r : List Int) : List Int := g.ts.map fun t => valAt t.l (leafOf t.l r)
def eachR (g : Gv) (r : List Int) : List Int := if standE g r = 0 then eachV g r else []
noncomputable def gevalV (g : Gv) (r : List Int) : Int := if standE g r = 0 then togV g.way g.ws (eachV g r) else 0
theorem standE_0 {g : Gv} {r : List Int} (h : standE g r = 0) : GRight g ∧ rowE r = 0 ∧ (r.length : Int) = g.f := by
  unfold standE at h
  by_cases h1 : g.e = 0
  · rw [if_pos h1] at h
    by_cases h2 : rowE r = 0
    · rw [if_pos h2] at h
      by_cases h3 : (r.length : Int) = g.f
      · exact ⟨groveE_right h1, h2, h3⟩
      · rw [if_neg h3] at h; cases h
    · rw [if_neg h2] at h; exact absurd h h2
  · rw [if_neg h1] at h; exact absurd h h1
theorem Blk.cells4 {w : World} {g : Nat} {T : TypeId} {x0 x1 x2 x3 : Value} (h : Blk w g T #[x0, x1, x2, x3]) : w.cell? ⟨g, 0, none⟩ = some x0 ∧ w.cell? ⟨g, 1, none⟩ = some x1 ∧ w.cell? ⟨g, 2, none⟩ = some x2 ∧ w.cell? ⟨g, 3, none⟩ = some x3 :=
  ⟨h.cell 0, h.cell 1, h.cell 2, h.cell 3⟩
theorem gbox (w : World) (f way : Int) (Aw : Option Addr) (nw cw : Nat) (At : Option Addr) (nt ct : Nat) : ∃ W, W = w.alloc (.cells #[.int .i64 f, .int .i64 way, .slice Aw nw cw, .slice At nt ct] 26) ∧
    Blk W w.heap.size 26 #[.int .i64 f, .int .i64 way, .slice Aw nw cw, .slice At nt ct] ∧ W.heap.size = w.heap.size + 1 ∧ Below w.heap.size w W :=
  ⟨_, rfl, Blk.new _ _ _, by simp, (Below.refl _ _).alloc (Nat.le_refl _) _⟩

set_option maxRecDepth 100000 in
set_option maxHeartbeats 1000000 in
theorem gready_any (g : Gv) (C : Option Addr) (k q : Nat) (r : List Int) (w : World) (hg : GReads w w.heap.size g) (hr : IReads w w.heap.size C k r) (hk : k ≤ maxLen) :
    Calls Tryz.prog 68 #[g.val, .slice C k q] w fun e w' => e = .returned (errV (standE g r)) ∧ Below w.heap.size w w' := by
  obtain ⟨W, hW, bx, hWs, hb0⟩ := gbox w g.f g.way g.Aw g.nw g.cw g.At g.nt g.ct
  have hck := hide (gcheck_any g W ((hg.below hb0).more (by omega)))
  have hrk := hr.len
  have c0 := bx.cell 0
  have c1 := bx.cell 1
  have c2 := bx.cell 2
  have c3 := bx.cell 3
  simp at c0 c1 c2 c3
  unfold maxLen at hk
  have HK := hide hrk
  have HS : Hid (standE g r = if g.e = 0 then (if rowE r = 0 then (if (r.length : Int) = g.f then 0 else 3) else rowE r) else g.e) := hide rfl
  generalize standE g r = SE at *
  have HG := hide hg
  clear hg hrk
  by_cases h1 : g.e = 0
  · have hv := errV_0 h1
    have HV := hide hv
    have HS1 : Hid (SE = (if rowE r = 0 then (if (r.length : Int) = g.f then 0 else 3) else rowE r)) := hide (by rw [unhide HS, if_pos h1])
    clear h1
    obtain ⟨f, way, Aw, nw, cw, ws, At, nt, ct, ts⟩ := g
    simp only [Gv.val] at hck ⊢
    dsimp only at hW bx c0 c1 c2 c3 hv HS1
    have HE := hide hv
    go_enter Tryz.func68, Tryz.ntmps68
    go_wp2_with fail
    rw [← hW]
    refine (unhide hck).mono ?_
    rintro e w1 ⟨rfl, hb1⟩
    rw [hv]
    have z1 := hb1.size
    have d0 : w1.cell? ⟨w.heap.size, 0, none⟩ = some (.int .i64 f) := (hb1.cell (p := ⟨w.heap.size, 0, none⟩) (by show w.heap.size < _; omega)).trans c0
    have hB1 := hb0.trans (hb1.mono (by omega))
    have hrc := hide (rowCheck_any C k q r w1 _ (hr.below hB1) (by unfold maxLen; omega))
    clear hv hck hW c0 c1 c2 c3 bx
    by_cases h2 : rowE r = 0
    · have hv2 := errV_0 h2
      have HS2 : Hid (SE = if (r.length : Int) = f then 0 else 3) := hide (by rw [unhide HS1, if_pos h2])
      clear h2
      go_wp2_with fail
      refine (unhide hrc).mono ?_
      rintro e w2 ⟨rfl, rfl⟩
      rw [hv2]
      clear hv2
      by_cases h3 : (k : Int) = f
      · have HS3 : Hid (SE = 0) := hide (by rw [unhide HS2, unhide HK, if_pos h3])
        have e3 : ((k : Int) != f) = false := by simp [h3]
        clear h3
        go_wp2_with fail
        go_ret
        exact ⟨by rw [unhide HS3]; rfl, hB1⟩
      · have HS3 : Hid (SE = 3) := hide (by rw [unhide HS2, unhide HK, if_neg h3])
        have e3 : ((k : Int) != f) = true := by simp [h3]
        clear h3
        go_wp2_with fail
        go_ret
        exact ⟨by rw [unhide HS3]; rfl, hB1⟩
    · have hv2 := errV_1 h2
      have HV2 := hide hv2
      have HS2 : Hid (SE = rowE r) := hide (by rw [unhide HS1, if_neg h2])
      clear h2
      go_wp2_with fail
      refine (unhide hrc).mono ?_
      rintro e w2 ⟨rfl, rfl⟩
      rw [hv2]
      clear hv2
      go_wp2_with fail
      go_ret
      exact ⟨by rw [unhide HS2, unhide HV2]; rfl, hB1⟩
  · have hv := errV_1 h1
    have HV := hide hv
    have HS1 : Hid (SE = g.e) := hide (by rw [unhide HS, if_neg h1])
    clear h1
    obtain ⟨E, hE⟩ : ∃ E, E = g.e := ⟨_, rfl⟩
    rw [← hE] at HS1 hck hv HV
    clear hE
    obtain ⟨f, way, Aw, nw, cw, ws, At, nt, ct, ts⟩ := g
    simp only [Gv.val] at hck ⊢
    dsimp only at hW bx c0 c1 c2 c3
    go_enter Tryz.func68, Tryz.ntmps68
    go_wp2_with fail
    rw [← hW]
    refine (unhide hck).mono ?_
    rintro e w1 ⟨rfl, hb1⟩
    rw [hv]
    clear hv hck
    go_wp2_with fail
    go_ret
    exact ⟨by rw [unhide HS1, unhide HV]; rfl, hb0.trans (hb1.mono (by omega))⟩

/-- what Each answers -/
def EachPost (g : Gv) (r : List Int) (w : World) (e : Ending) (w' : World) : Prop :=
  ∃ v, e = .returned (.tuple #[v, errV (standE g r)]) ∧ IOwn w' w.heap.size v (eachR g r) ∧ Below w.heap.size w w'
theorem leaf_in {t : List Nd} {fe : Int} {r : List Int} (h : Right t fe) : ∃ n, t[leafOf t r]? = some n ∧ n.f = -1 ∧ -1000000 ≤ n.v ∧ n.v ≤ 1000000 := by
  obtain ⟨n, hn, hf⟩ := leafOf_is (row := r) h.behind h.pos
  rcases node_of (h.node _ n hn) with h1 | h1
  · exact ⟨n, hn, hf, h1.2.1, h1.2.2.1⟩
  · omega

set_option maxRecDepth 100000 in
set_option maxHeartbeats 2000000 in
theorem each_any (g : Gv) (C : Option Addr) (k q : Nat) (r : List Int) (w : World) (hg : GReads w w.heap.size g) (hr : IReads w w.heap.size C k r) (hk : k ≤ maxLen) :
    Calls Tryz.prog 53 #[g.val, .slice C k q] w (EachPost g r w) := by
  obtain ⟨W, hW, bx, hWs, hb0⟩ := gbox w g.f g.way g.Aw g.nw g.cw g.At g.nt g.ct
  have hrd := hide (gready_any g C k q r W ((hg.below hb0).more (by omega)) ((hr.below hb0).more (by omega)) hk)
  have c0 := bx.cell 0
  have c1 := bx.cell 1
  have c2 := bx.cell 2
  have c3 := bx.cell 3
  simp at c0 c1 c2 c3
  by_cases h0 : standE g r = 0
  · have hv := errV_0 h0
    have HR : Hid (eachR g r = eachV g r) := hide (by unfold eachR; rw [if_pos h0])
    obtain ⟨hG, hrow, hlen⟩ := standE_0 h0
    have hrl := hr.len
    have h8 : k ≤ 8 := by have := hG.f8; omega
    have hnt : g.ts.length = g.nt := hg.ts.len
    have hn12 : g.nt ≤ 12 := by have := hG.most; omega
    have HTR : Hid (∀ t ∈ g.ts, Right t.l (k : Int)) := hide (fun t ht => by
      have := right_of (hG.trees t ht)
      rwa [← hlen, hrl] at this)
    have HE : Hid (eachV g r = g.ts.map fun t => valAt t.l (leafOf t.l r)) := hide rfl
    have HV := hide hv
    have htr := hg.ts
    have HNT := hide hnt
    clear hG hrow hlen hrl h0 hg hnt
    obtain ⟨f, way, Aw, nw, cw, ws, At, nt, ct, ts⟩ := g
    simp only [Gv.val] at hrd ⊢
    dsimp only at hW bx c0 c1 c2 c3 htr hn12 HTR HE HNT
    go_enter Tryz.func53, Tryz.ntmps53
    go_wp2_with fail
    rw [← hW]
    refine (unhide hrd).mono ?_
    rintro e w1 ⟨rfl, hb1⟩
    rw [hv]
    have z1 := hb1.size
    have d3 : w1.cell? ⟨w.heap.size, 3, none⟩ = some (.slice At nt ct) := (hb1.cell (p := ⟨w.heap.size, 3, none⟩) (by show w.heap.size < _; omega)).trans c3
    have hB1 := hb0.trans (hb1.mono (by omega))
    clear hv hrd hW c0 c1 c2 c3 bx hb1
    go_wp2_with fail
    go_loopw [7, 19] (fun v i wr => ∃ j : Nat, j ≤ nt ∧ i = .int .i64 j ∧ wr.ownsRow w.heap.size 3 1 v j (((ts.map fun t => valAt t.l (leafOf t.l r)).take j).map (Value.int .i64)) ∧ Below w.heap.size w wr) (fun _ i _ => nt - (Lib.intOf i).toNat)
    case atStart => exact ⟨0, Nat.zero_le _, rfl, World.ownsRow_nil _ _ _ _, hB1⟩
    case round =>
      obtain ⟨j, hj, rfl, hown, hbel⟩ := hrel
      have hsz := hbel.size
      by_cases hlt : j < nt
      · obtain ⟨b, o, t, rfl, _, hx, hcx, hok⟩ := (htr.below hbel).get hlt
        have hRt := unhide HTR t (List.mem_of_getElem? hx)
        have hln := hok.reads.len
        obtain ⟨n, hn, _, hn1, hn2⟩ := leaf_in (r := r) hRt
        have hp := hRt.pos
        have hmost := hRt.most
        have hlf : leafOf t.l r < t.n := by rw [← hln]; exact (List.getElem?_eq_some_iff.1 hn).1
        have HX : Hid ((ts.map fun t => valAt t.l (leafOf t.l r)).take (j + 1) = (ts.map fun t => valAt t.l (leafOf t.l r)).take j ++ [n.v]) := hide (take_next (by rw [List.getElem?_map, hx]; simp [valAt, hn]))
        have hwk := hide (walk_any t.A C t.n t.c k q t.l r wr (hok.reads.more hsz) ((hr.below hbel).more hsz) (by omega) (by omega) h8 hRt.behind hRt.asks)
        obtain ⟨i, hi⟩ : ∃ i, i = leafOf t.l r := ⟨_, rfl⟩
        rw [← hi] at hlf hn hwk
        have hrr := hok.reads
        obtain ⟨tA, tn, tc, tl⟩ := t
        dsimp only at hcx hln hlf hn hwk hrr HX hi
        clear hi hx hok hRt hp hmost hln
        go_wp2_with fail
        refine (unhide hwk).mono ?_
        rintro e w2 ⟨rfl, hb2⟩
        clear hwk
        obtain ⟨b5, o5, n', rfl, _, hn', _, _, _, _, _, g5⟩ := (hrr.below (hb2.mono hsz)).get hlf
        rw [hn] at hn'
        injection hn' with hn'
        subst hn'
        have hown2 := own_below hown hb2
        have hs2 := Nat.le_trans hsz hb2.size
        obtain ⟨x, hxe⟩ : ∃ x, x = n.v := ⟨_, rfl⟩
        rw [← hxe] at g5 hn1 hn2 HX
        have hbel2 := hbel.trans (hb2.mono hsz)
        clear hn hrr hown hxe
        go_wp2_with (at_builtin; refine app_one elem_int (.tmp 23) (.tmp 31) [.int .i64 x] rfl rfl rfl hown2 rfl rfl rfl (ints_oneCell .i64 [x]) (by omega) hs2 ?_; intro v' w3 hown3 hb3 _ _)
        go_wp2_with fail
        go_roundw
        case rel => exact ⟨j + 1, by omega, by go_num, by rw [unhide HX, List.map_append]; exact hown3, hbel2.trans hb3⟩
        case measure => simp [Lib.intOf]; omega
      · obtain rfl : j = nt := by omega
        rw [List.take_of_length_le (by rw [List.length_map, unhide HNT]; exact Nat.le_refl _), ← unhide HE, ← unhide HR] at hown
        have HL : Hid (j = (eachR ⟨f, way, Aw, nw, cw, ws, At, j, ct, ts⟩ r).length) := hide (by rw [unhide HR, unhide HE, List.length_map, unhide HNT])
        go_wp2_with fail
        go_ret2
        refine ⟨_, by rw [unhide HV]; rfl, ?_, hbel⟩
        unfold IOwn
        rw [← unhide HL]
        exact hown
  · have hv := errV_1 h0
    have HV := hide hv
    have HR : Hid (eachR g r = []) := hide (by unfold eachR; rw [if_neg h0])
    obtain ⟨E, hE⟩ : ∃ E, E = standE g r := ⟨_, rfl⟩
    rw [← hE] at hrd hv HV
    have HEE := hide hE
    clear hE h0
    obtain ⟨f, way, Aw, nw, cw, ws, At, nt, ct, ts⟩ := g
    simp only [Gv.val] at hrd ⊢
    dsimp only at hW bx c0 c1 c2 c3
    go_enter Tryz.func53, Tryz.ntmps53
    go_wp2_with fail
    rw [← hW]
    refine (unhide hrd).mono ?_
    rintro e w1 ⟨rfl, hb1⟩
    rw [hv]
    clear hv hrd
    go_wp2_with fail
    go_ret2
    exact ⟨_, by rw [← unhide HEE, unhide HV]; rfl, by rw [unhide HR]; exact IOwn.nil_ _ _, hb0.trans (hb1.mono (by omega))⟩
end Go.Proofs.YtdpijhnbhopnbaaGreatDoor
/- grove.Eval, Between, Bounds: contracts. Conditions: arguments read as lists. -/
namespace Go.Proofs.YtdpijhnbhopnbaaGreatDoor
set_option linter.unusedVariables false
set_option linter.unusedSimpArgs false
open Go.RowKit

theorem eachV_in {g : Gv} {r : List Int} (h : standE g r = 0) : ∀ x ∈ eachV g r, -1000000 ≤ x ∧ x ≤ 1000000 := by
  obtain ⟨hG, _, hl⟩ := standE_0 h
  intro x hx
  obtain ⟨t, ht, rfl⟩ := List.mem_map.1 hx
  obtain ⟨n, hn, _, h1, h2⟩ := leaf_in (r := r) (right_of (hG.trees t ht))
  simp only [valAt, hn]
  exact ⟨h1, h2⟩
theorem eachV_len (g : Gv) (r : List Int) : (eachV g r).length = g.ts.length := by simp [eachV]

set_option maxRecDepth 100000 in
set_option maxHeartbeats 1000000 in
theorem geval_any (g : Gv) (C : Option Addr) (k q : Nat) (r : List Int) (w : World) (hg : GReads w w.heap.size g) (hr : IReads w w.heap.size C k r) (hk : k ≤ maxLen) :
    Calls Tryz.prog 32 #[g.val, .slice C k q] w fun e w' => e = .returned (.tuple #[.int .i64 (gevalV g r), errV (standE g r)]) ∧ Below w.heap.size w w' := by
  obtain ⟨W, hW, bx, hWs, hb0⟩ := gbox w g.f g.way g.Aw g.nw g.cw g.At g.nt g.ct
  have hrd := hide (each_any g C k q r W ((hg.below hb0).more (by omega)) ((hr.below hb0).more (by omega)) hk)
  have c0 := bx.cell 0
  have c1 := bx.cell 1
  have c2 := bx.cell 2
  have c3 := bx.cell 3
  simp at c0 c1 c2 c3
  by_cases h0 : standE g r = 0
  · have hv := errV_0 h0
    have HV := hide hv
    have HR : Hid (eachR g r = eachV g r) := hide (by unfold eachR; rw [if_pos h0])
    have HE : Hid (gevalV g r = togV g.way g.ws (eachV g r)) := hide (by unfold gevalV; rw [if_pos h0])
    have hin := hide (eachV_in h0)
    obtain ⟨hG, _, _⟩ := standE_0 h0
    have hws := hide hG.weights
    have hnw := hg.ws.len
    have hel : (eachV g r).length = g.nw := by rw [eachV_len, ← hG.wlen, hnw]
    have h12 : g.nw ≤ 12 := by have := hG.most; have := hG.wlen; omega
    have hpos : 0 < g.nw := by have := hG.pos; have := hG.wlen; omega
    have HEL := hide hel
    have hwr := hg.ws
    have hcon : Hid (∀ (v : Value) (w1 : World), IOwn w1 W.heap.size v (eachV g r) → Below w.heap.size w w1 → Calls Tryz.prog 54 #[.int .i64 g.way, .slice g.Aw g.nw g.cw, v] w1 fun e w' => e = .returned (.int .i64 (gevalV g r)) ∧ Below w1.heap.size w1 w') := hide (fun v w1 ho hb => by
      obtain ⟨A, c, rfl, hrr, _, _, _⟩ := ho.slice_
      rw [unhide HE]
      rw [hel] at hrr ⊢
      exact tog_any g.way g.Aw A g.nw g.cw g.nw c g.ws (eachV g r) w1 ((hwr.below hb).more hb.size) hrr rfl h12 hpos (unhide hws) (unhide hin))
    clear hG hel hnw h0 hg hwr hws hin
    obtain ⟨f, way, Aw, nw, cw, ws, At, nt, ct, ts⟩ := g
    simp only [Gv.val] at hrd ⊢
    dsimp only at hW bx c0 c1 c2 c3 hcon h12 hpos
    go_enter Tryz.func32, Tryz.ntmps32
    go_wp2_with fail
    rw [← hW]
    refine (unhide hrd).mono ?_
    rintro e w1 ⟨v, rfl, hown, hb1⟩
    rw [hv]
    rw [unhide HR] at hown
    have z1 := hb1.size
    have d1 : w1.cell? ⟨w.heap.size, 1, none⟩ = some (.int .i64 way) := (hb1.cell (p := ⟨w.heap.size, 1, none⟩) (by show w.heap.size < _; omega)).trans c1
    have d2 : w1.cell? ⟨w.heap.size, 2, none⟩ = some (.slice Aw nw cw) := (hb1.cell (p := ⟨w.heap.size, 2, none⟩) (by show w.heap.size < _; omega)).trans c2
    have hB1 := hb0.trans (hb1.mono (by omega))
    have hc := hide (unhide hcon v w1 hown hB1)
    clear hv hrd hW c0 c1 c2 c3 bx hb1 hown hcon
    go_wp2_with fail
    refine (unhide hc).mono ?_
    rintro e w2 ⟨rfl, hb2⟩
    have hB2 := hB1.trans (hb2.mono hB1.size)
    go_wp2_with fail
    go_ret2
    exact ⟨by rw [unhide HV]; rfl, hB2⟩
  · have hv := errV_1 h0
    have HV := hide hv
    have HE : Hid (gevalV g r = 0) := hide (by unfold gevalV; rw [if_neg h0])
    obtain ⟨E, hE⟩ : ∃ E, E = standE g r := ⟨_, rfl⟩
    unfold EachPost at hrd
    rw [← hE] at hrd hv HV ⊢
    have HEE := hide hE
    clear hE h0
    rw [unhide HE]
    obtain ⟨f, way, Aw, nw, cw, ws, At, nt, ct, ts⟩ := g
    simp only [Gv.val] at hrd ⊢
    dsimp only at hW bx c0 c1 c2 c3
    go_enter Tryz.func32, Tryz.ntmps32
    go_wp2_with fail
    rw [← hW]
    refine (unhide hrd).mono ?_
    rintro e w1 ⟨v, rfl, _, hb1⟩
    rw [hv]
    clear hv hrd
    go_wp2_with fail
    go_ret2
    exact ⟨by rw [unhide HV]; rfl, hb0.trans (hb1.mono (by omega))⟩

theorem maxR_any (A : Option Addr) (n c B : Nat) (l : List Int) (w : World) (hr : IReads w B A n l) (hpos : 0 < n) (hn : n ≤ maxLen) : Calls Tryz.prog 69 #[.slice A n c] w fun e w' => e = .returned (.int .i64 (Lib.maxOf l)) ∧ w = w' := by
  have hl := hr.len
  obtain ⟨b, off, rfl, _, hc⟩ := Reads.spot hr hpos (by omega)
  have := Tryz.slices_Max_int b off n c l w hpos (by omega) (by unfold maxLen at hn; omega) (fun j hj => hc j _ (by rw [List.getElem?_map, List.getElem?_eq_getElem hj, List.getD_eq_getElem?_getD, List.getElem?_eq_getElem hj]; rfl))
  refine this.mono ?_
  rintro e w' ⟨rfl, rfl⟩
  exact ⟨by rw [List.take_of_length_le (by omega)], rfl⟩
theorem minR_any (A : Option Addr) (n c B : Nat) (l : List Int) (w : World) (hr : IReads w B A n l) (hpos : 0 < n) (hn : n ≤ maxLen) : Calls Tryz.prog 74 #[.slice A n c] w fun e w' => e = .returned (.int .i64 (Lib.minOf l)) ∧ w = w' := by
  have hl := hr.len
  obtain ⟨b, off, rfl, _, hc⟩ := Reads.spot hr hpos (by omega)
  have := Tryz.slices_Min_int b off n c l w hpos (by omega) (by unfold maxLen at hn; omega) (fun j hj => hc j _ (by rw [List.getElem?_map, List.getElem?_eq_getElem hj, List.getD_eq_getElem?_getD, List.getElem?_eq_getElem hj]; rfl))
  refine this.mono ?_
  rintro e w' ⟨rfl, rfl⟩
  exact ⟨by rw [List.take_of_length_le (by omega)], rfl⟩

/-- between what a grove comes, of each tree's least and greatest -/
noncomputable def betwV (way : Int) (ws least most : List Int) : Int × Int := if way = 3 then (Lib.minOf least, Lib.maxOf most) else (togV way ws least, togV way ws most)
end Go.Proofs.YtdpijhnbhopnbaaGreatDoor
