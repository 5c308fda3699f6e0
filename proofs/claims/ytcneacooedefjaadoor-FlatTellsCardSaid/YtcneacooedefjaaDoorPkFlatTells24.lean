/- Part 24 of what LawFlatTells needs: Together2, Together3. Conditions: as each lemma names. -/
import Derived.Test.YtcneacooedefjaaDoorPkFlatTells23
/- grove.Together: the contract. Conditions: as each lemma names. -/
namespace Go.Proofs.YtcneacooedefjaaDoor
set_option linter.unusedVariables false
set_option linter.unusedSimpArgs false
open Go.RowKit Go.Maps Go.Sort Go.Shelf

/-- the map of votes -/
structure VoteMap (D : DataW Value) (ps : Ps) : Prop where
  has_ : ∀ x : Int, Maps.has D (.int .i64 x) = decide (x ∈ ps.map (·.1))
  at_ : ∀ x ∈ ps.map (·.1), ∀ z, D.atKey (.int .i64 x) z = .lit (.int .i64 (pVotes ps x))
theorem VoteMap.zero : VoteMap (.map []) [] := ⟨fun x => by simp [Maps.has], fun x hx => by simp at hx⟩
theorem VoteMap.next {D : DataW Value} {ps : Ps} (h : VoteMap D ps) (hD : IsMap D) (p : Int × Int) {c : Int} (hc : D.atKey (.int .i64 p.1) (.lit (.int .i64 0)) = .lit (.int .i64 c)) :
    VoteMap (D.put (.int .i64 p.1) (.lit (.int .i64 (c + p.2)))) (ps ++ [p]) ∧ c = pVotes ps p.1 := by
  have hcv : c = pVotes ps p.1 := by
    by_cases hm : p.1 ∈ ps.map (·.1)
    · rw [h.at_ _ hm] at hc; simpa using hc.symm
    · rw [atKey_of_not_has (by rw [h.has_]; simpa using hm)] at hc
      rw [pVotes_none hm]; simpa using hc.symm
  refine ⟨⟨fun x => ?_, fun x hx z => ?_⟩, hcv⟩
  · by_cases e : x = p.1
    · subst e; rw [has_put_same hD (show WideAt.IsKeyLit (Lit.int .i64 p.1) from trivial)]; simp
    · rw [has_put_other (by intro h; injection h with _ h; exact e h), h.has_]; simp [e]
  · by_cases e : x = p.1
    · subst e; rw [atKey_put_same hD (show WideAt.IsKeyLit (Lit.int .i64 p.1) from trivial), pVotes_snoc_same, hcv]
    · rw [atKey_put_other (by intro h; injection h with _ h; exact e h), pVotes_snoc_other _ _ (Ne.symm e)]
      refine h.at_ x ?_ z
      simp [e] at hx ⊢
      exact hx
/-- has an entry fewer votes? -/
def fewD (best : Int) (_ : Lit) : DataW Value → Bool
  | .lit (.int _ v) => decide (v < best)
  | _ => false
theorem keys_left {P : Program} {w : World} {k : TypeId} {b n : Nat} {D : DataW Value} {ps : Ps} {best : Int} (K : Keyed P k) (hk : P.underlying k = some (.int .i64)) {R : Value → Option (DataW Value × List MemPlace)} (hown : w.ownsMap P k R b n D) (hv : VoteMap D ps) {ss : List Int}
    (hs : ss.Perm (intKeys (Lib.deleteFuncD (fewD best) D))) : ∀ x, x ∈ ss ↔ x ∈ ps.map (·.1) ∧ best ≤ pVotes ps x := by
  intro x
  obtain ⟨es, hD, hpw, _⟩ := hown.entries K
  obtain ⟨es', hD', hko⟩ := hown.keysOf
  obtain rfl : es = es' := by rw [hD] at hD'; simpa using hD'
  subst hD
  rw [hs.mem_iff]
  show x ∈ (es.filter fun p => !fewD best p.1 p.2).map (fun p => Go.intOf p.1) ↔ _
  have key : ∀ p ∈ es, ∃ y, p.1 = .int .i64 y ∧ p.2 = .lit (.int .i64 (pVotes ps y)) ∧ y ∈ ps.map (·.1) := by
    intro p hp
    obtain ⟨v, hv'⟩ := hko p hp
    obtain ⟨y, _, hy, _⟩ := Maps.keyOf_i64 hk hv'
    have hh : Maps.has (.map es) (.int .i64 y) = true := by
      rw [has_eq, List.any_eq_true]
      exact ⟨p, hp, by rw [hy]; simp [Lit.sameKey]⟩
    rw [hv.has_] at hh
    have hy2 : y ∈ ps.map (·.1) := by simpa using hh
    have h1 := hv.at_ y hy2 .nil
    have h2 := WideAt.atKey_mem (.nil : DataW Value) (k := .int .i64 y) trivial hpw (d := p.2) (by rw [← hy]; exact hp)
    exact ⟨y, hy, h2.symm.trans h1, hy2⟩
  rw [List.mem_map]
  constructor
  · rintro ⟨p, hp, rfl⟩
    obtain ⟨hp1, hp2⟩ := List.mem_filter.1 hp
    obtain ⟨y, hy, hd, hm⟩ := key p hp1
    rw [hy]
    rw [hd] at hp2
    simp [fewD] at hp2
    exact ⟨hm, hp2⟩
  · rintro ⟨hm, hb⟩
    have hh : Maps.has (.map es) (.int .i64 x) = true := by rw [hv.has_]; simpa using hm
    rw [has_eq, List.any_eq_true] at hh
    obtain ⟨p, hp, hsk⟩ := hh
    obtain ⟨y, hy, hd, _⟩ := key p hp
    rw [hy] at hsk
    have hxy : y = x := by simpa [Lit.sameKey] using hsk
    subst hxy
    refine ⟨p, List.mem_filter.2 ⟨hp, ?_⟩, by rw [hy]; rfl⟩
    rw [hd]
    simp [fewD]
    exact hb
theorem vote_of {ps : Ps} {vs ss : List Int} {D : DataW Value} (hv : VoteMap D ps) (hvs : ValsOf D vs) (hne : ps ≠ []) (hss : ∀ x, x ∈ ss ↔ x ∈ ps.map (·.1) ∧ Lib.maxOf vs ≤ pVotes ps x) : vs ≠ [] ∧ ss ≠ [] ∧ IsVote ps (Lib.minOf ss) := by
  obtain ⟨qs, h1, h2, rfl⟩ := hvs
  have hq : ∀ p ∈ qs, p.1 ∈ ps.map (·.1) ∧ p.2 = pVotes ps p.1 := by
    intro p hp
    have hh := (h1 p.1).1 (List.mem_map.2 ⟨p, hp, rfl⟩)
    rw [hv.has_] at hh
    have hm : p.1 ∈ ps.map (·.1) := by simpa using hh
    have := h2 p hp .nil
    rw [hv.at_ _ hm] at this
    exact ⟨hm, by simpa using this.symm⟩
  have hq2 : ∀ x ∈ ps.map (·.1), pVotes ps x ∈ qs.map (·.2) := by
    intro x hx
    have := (h1 x).2 (by rw [hv.has_]; simpa using hx)
    obtain ⟨p, hp, rfl⟩ := List.mem_map.1 this
    exact List.mem_map.2 ⟨p, hp, (hq p hp).2⟩
  have hvn : qs.map (·.2) ≠ [] := by
    cases ps with
    | nil => exact absurd rfl hne
    | cons a r =>
      intro e
      have := hq2 a.1 (by simp)
      rw [e] at this; cases this
  obtain ⟨hmx, hall⟩ := maxOf_spec hvn
  obtain ⟨p, hp, hpe⟩ := List.mem_map.1 hmx
  have hpm := hq p hp
  have hsn : ss ≠ [] := by
    intro e
    have := (hss p.1).2 ⟨hpm.1, by rw [← hpe, hpm.2]; exact Int.le_refl _⟩
    rw [e] at this; cases this
  obtain ⟨hmin, hmall⟩ := minOf_spec hsn
  obtain ⟨hm1, hm2⟩ := (hss _).1 hmin
  refine ⟨hvn, hsn, hm1, fun v hv' => ?_, fun v hv' e => hmall v ((hss v).2 ⟨hv', by rw [e]; exact hm2⟩)⟩
  exact Int.le_trans (hall _ (hq2 v hv')) hm2

theorem few_any (key : Value) (v best : Int) (bx : Nat) (W : World) (hx : W.cell? ⟨bx, 0, none⟩ = some (.int .i64 best)) :
    Calls Tryd.prog 51 (#[key, .int .i64 v] ++ #[.pointer (some ⟨bx, 0, none⟩)]) W fun e w' => e = .returned (.bool (decide (v < best))) ∧ w' = W := by
  go_enter Tryd.func51, Tryd.ntmps51
  go_wp2
  go_ret
  exact ⟨rfl, rfl⟩
theorem mdel_any (b n bx : Nat) (D : DataW Value) (best : Int) (w : World) (hown : w.ownsMap Tryd.prog 3 (plainElem Tryd.prog 3) b n D) (hx : w.cell? ⟨bx, 0, none⟩ = some (.int .i64 best)) (hne : bx ≠ b) :
    Calls Tryd.prog 50 #[.map (some b), .func (.func 51) #[] #[.pointer (some ⟨bx, 0, none⟩)]] w fun e w' => e = .returned (.tuple #[]) ∧ w'.ownsMap Tryd.prog 3 (plainElem Tryd.prog 3) b n (Lib.deleteFuncD (fewD best) D) ∧ w.grownBy w' (some b) :=
  AnyDf.maps_DeleteFunc Tryd.delZ (int_keyed Tryd.underlying3) (plainElem Tryd.prog 3) (fewD best) 51 #[.pointer (some ⟨bx, 0, none⟩)] b n D w (enters_of Tryd.func51 (by kernel_rfl) rfl) hown (fun W key val kl yd yp hg _ hv => by
    obtain ⟨c, rfl, hy, _⟩ := plainElem_int_inv Tryd.underlying3 hv
    obtain rfl : yd = .lit (.int .i64 c) := by simpa using (congrArg Prod.fst hy)
    exact (few_any key c best bx W (hg.cell hx (fun e => hne (by injection e)))).mono fun _ _ ⟨he, hw⟩ => ⟨he, hw ▸ World.grownBy.refl _ _⟩)

theorem max_any (v : Value) (l : List Int) (base : Nat) (w : World) (ho : IOwn w base v l) (hne : l ≠ []) : Calls Tryd.prog 47 #[v] w fun e w' => e = .returned (.int .i64 (Lib.maxOf l)) ∧ w = w' := by
  obtain ⟨A, c, rfl, hr, hm, _, _⟩ := ho.slice_
  have hpos : 0 < l.length := List.length_pos_iff.2 hne
  obtain ⟨b, off, rfl, _, hc⟩ := Reads.spot hr hpos (by omega)
  have := Tryd.slices_Max_int b off l.length c l w hpos (Nat.le_refl _) (by unfold maxLen at hm; omega) (fun j hj => hc j _ (by rw [List.getElem?_map, List.getElem?_eq_getElem hj, List.getD_eq_getElem?_getD, List.getElem?_eq_getElem hj]; rfl))
  refine this.mono ?_
  rintro e w' ⟨rfl, rfl⟩
  exact ⟨by rw [List.take_of_length_le (Nat.le_refl _)], rfl⟩
theorem min_any (v : Value) (l : List Int) (base : Nat) (w : World) (ho : IOwn w base v l) (hne : l ≠ []) : Calls Tryd.prog 52 #[v] w fun e w' => e = .returned (.int .i64 (Lib.minOf l)) ∧ w = w' := by
  obtain ⟨A, c, rfl, hr, hm, _, _⟩ := ho.slice_
  have hpos : 0 < l.length := List.length_pos_iff.2 hne
  obtain ⟨b, off, rfl, _, hc⟩ := Reads.spot hr hpos (by omega)
  have := Tryd.slices_Min_int b off l.length c l w hpos (Nat.le_refl _) (by unfold maxLen at hm; omega) (fun j hj => hc j _ (by rw [List.getElem?_map, List.getElem?_eq_getElem hj, List.getD_eq_getElem?_getD, List.getElem?_eq_getElem hj]; rfl))
  refine this.mono ?_
  rintro e w' ⟨rfl, rfl⟩
  exact ⟨by rw [List.take_of_length_le (Nat.le_refl _)], rfl⟩
end Go.Proofs.YtcneacooedefjaaDoor
/- grove.Together: the walk. Conditions: as many values as weights, at most 12, cells and weights in their bounds. -/
namespace Go.Proofs.YtcneacooedefjaaDoor
set_option linter.unusedVariables false
set_option linter.unusedSimpArgs false
open Go.RowKit Go.Maps Go.Sort Go.Shelf

theorem zip_take {α β : Type} {l : List α} {s : List β} {k : Nat} {x : α} {y : β} (hx : l[k]? = some x) (hy : s[k]? = some y) : (l.zip s).take (k + 1) = (l.zip s).take k ++ [(x, y)] := by
  rw [List.take_add_one]
  congr 1
  have : (l.zip s)[k]? = some (x, y) := List.getElem?_zip_eq_some.2 ⟨hx, hy⟩
  rw [this]; rfl
theorem keyed_int : Keyed Tryd.prog 3 := int_keyed Tryd.underlying3
theorem zero_int (w : World) : (zeroValue 3).run Tryd.prog w = .ok (.int .i64 0) w := by kernel_rfl
theorem take_in {ps : Ps} {k : Nat} (hw : ∀ p ∈ ps, (-1000000 ≤ p.1 ∧ p.1 ≤ 1000000) ∧ 1 ≤ p.2 ∧ p.2 ≤ 1000) (hk : ps.length ≤ 12) :
    (-12000000000 ≤ pSum (ps.take k) ∧ pSum (ps.take k) ≤ 12000000000) ∧ (0 ≤ pAll (ps.take k) ∧ pAll (ps.take k) ≤ 12000) ∧ ∀ v, 0 ≤ pVotes (ps.take k) v ∧ pVotes (ps.take k) v ≤ 12000 := by
  have hl : (ps.take k).length ≤ 12 := by rw [List.length_take]; omega
  have hm : ∀ p ∈ ps.take k, (-1000000 ≤ p.1 ∧ p.1 ≤ 1000000) ∧ 1 ≤ p.2 ∧ p.2 ≤ 1000 := fun p hp => hw p (List.mem_of_mem_take hp)
  have h1 := pSum_in (ps := ps.take k) (fun p hp => mul_in (hm p hp).1 ⟨by have := (hm p hp).2; omega, (hm p hp).2.2⟩)
  have h2 := pAll_in (ps := ps.take k) (fun p hp => (hm p hp).2)
  refine ⟨by omega, by omega, fun v => ?_⟩
  have h3 := pVotes_in (ps := ps.take k) (v := v) (fun p hp => ⟨by have := (hm p hp).2; omega, (hm p hp).2.2⟩)
  omega

set_option maxRecDepth 100000 in
set_option maxHeartbeats 4000000 in
theorem tog_any (way : Int) (Aw Al : Option Addr) (nw cw nl cl : Nat) (ws l : List Int) (w : World) (hw : IReads w w.heap.size Aw nw ws) (hl : IReads w w.heap.size Al nl l) (hn : nl = nw) (h12 : nl ≤ 12) (hpos : 0 < nl)
    (hwb : ∀ x ∈ ws, 1 ≤ x ∧ x ≤ 1000) (hlb : ∀ x ∈ l, -1000000 ≤ x ∧ x ≤ 1000000) :
    Calls Tryd.prog 30 #[.int .i64 way, .slice Aw nw cw, .slice Al nl cl] w fun e w' => e = .returned (.int .i64 (togV way ws l)) ∧ Below w.heap.size w w' := by
  subst hn
  have hmm := @run_makeMap Tryd.prog
  have hlenl := hl.len
  have hlenw := hw.len
  obtain ⟨ps, hps⟩ : ∃ ps, ps = l.zip ws := ⟨_, rfl⟩
  have hpl : ps.length = nl := by rw [hps, List.length_zip, hlenl, hlenw]; exact Nat.min_self _
  have hpb : ∀ p ∈ ps, (-1000000 ≤ p.1 ∧ p.1 ≤ 1000000) ∧ 1 ≤ p.2 ∧ p.2 ≤ 1000 := fun p hp => by
    rw [hps] at hp
    have := List.of_mem_zip (a := p.1) (b := p.2) hp
    exact ⟨hlb _ this.1, hwb _ this.2⟩
  have HB : Hid (∀ k, (-12000000000 ≤ pSum (ps.take k) ∧ pSum (ps.take k) ≤ 12000000000) ∧ (0 ≤ pAll (ps.take k) ∧ pAll (ps.take k) ≤ 12000) ∧ ∀ v, 0 ≤ pVotes (ps.take k) v ∧ pVotes (ps.take k) v ≤ 12000) := hide (fun k => take_in hpb (by omega))
  have HT : Hid (togV way ws l = if way = 1 then pSum ps else if way = 2 then pSum ps / pAll ps else voteV ps) := hide (by rw [hps]; rfl)
  have HA : Hid ((nl : Int) ≤ pAll ps) := hide (by have := (pAll_in (ps := ps) (fun p hp => (hpb p hp).2)).1; rw [hpl] at this; exact this)
  have HPL := hide hpl
  have HPS := hide hps
  have HPB := hide hpb
  clear hpl hps hpb hlenl hlenw hwb hlb
  go_enter Tryd.func30, Tryd.ntmps30
  go_wp2_with fail
  have hb0 : Below w.heap.size w (w.alloc (.map #[] 0)) := (Below.refl _ _).alloc (Nat.le_refl _) _
  have ho0 : (w.alloc (.map #[] 0)).ownsMap Tryd.prog 3 (plainElem (H := Value) Tryd.prog 3) w.heap.size 0 (.map []) := World.ownsMap_made w Tryd.prog 3 _
  go_loopw [7, 8, 16] (fun s a i wr => ∃ (k nn : Nat) (S T : Int) (D : DataW Value), k ≤ nl ∧ i = .int .i64 k ∧ s = .int .i64 S ∧ a = .int .i64 T ∧ Hid (S = pSum (ps.take k)) ∧ Hid (T = pAll (ps.take k)) ∧
      nn ≤ k ∧ wr.ownsMap Tryd.prog 3 (plainElem Tryd.prog 3) w.heap.size nn D ∧ Hid (VoteMap D (ps.take k)) ∧ Below w.heap.size w wr) (fun _ _ i _ => nl - (Lib.intOf i).toNat)
  case atStart => exact ⟨0, 0, 0, 0, .map [], Nat.zero_le _, rfl, rfl, rfl, hide rfl, hide rfl, Nat.le_refl _, ho0, hide (VoteMap.zero), hb0⟩
  case round =>
    clear ho0 hb0 hmm
    obtain ⟨k, nn, S, T, D, hk, rfl, rfl, rfl, HS, HTT, hnn, hown, HV, hbel⟩ := hrel
    obtain ⟨⟨hS1, hS2⟩, ⟨hT1, hT2⟩, _⟩ := unhide HB k
    rw [← unhide HS] at hS1 hS2
    rw [← unhide HTT] at hT1 hT2
    by_cases hlt : k < nl
    · obtain ⟨b, o, x, rfl, hbb, hx, cx⟩ := (hl.below hbel).get hlt
      obtain ⟨b2, o2, y, rfl, hbb2, hy, cy⟩ := (hw.below hbel).get hlt
      have HZ : Hid (ps.take (k + 1) = ps.take k ++ [(x, y)]) := hide (by rw [unhide HPS]; exact zip_take hx hy)
      obtain ⟨⟨hx1, hx2⟩, hy1, hy2⟩ := unhide HPB (x, y) (by rw [unhide HPS]; exact List.mem_of_getElem? (List.getElem?_zip_eq_some.2 ⟨hx, hy⟩))
      dsimp only at hx1 hx2 hy1 hy2
      obtain ⟨hm1, hm2⟩ := mul_in ⟨hx1, hx2⟩ ⟨by omega, hy2⟩
      have hkey := keyI_key (P := Tryd.prog) Tryd.underlying3 (x := x) (by omega)
      have hDm := hown.isMap
      clear hx hy
      go_wp2_with fail
      have hpl := (World.ownsMap.drew hown).lookup_int keyed_int Tryd.underlying84 Tryd.underlying3 (zero_int _) hkey
      obtain ⟨c, hlk, hat, hwc⟩ := hpl
      obtain ⟨hV2, hcv⟩ := (unhide HV).next hDm (x, y) hat
      obtain ⟨hc1, hc2⟩ := (unhide HB k).2.2 x
      dsimp only at hcv
      rw [← hcv] at hc1 hc2
      have HV2 := hide hV2
      clear hV2 hcv hat hwc
      have hsum : IntKind.i64.wrap (c + y) = c + y := IntWalk.i64_in _ (by omega)
      go_still_tail 8, (by kernel_rfl)
      have hnn2 : nn < maxLen := by unfold maxLen; omega
      have howd := World.ownsMap.drew hown
      have hel : plainElem (H := Value) Tryd.prog 3 (.int .i64 (c + y)) = some (.lit (.int .i64 (c + y)), []) := plainElem_int Tryd.underlying3 (WalkArith.wf_i64 (by omega))
      refine wpList_mapUpdate_own _ rfl _ _ _ 84 rfl 3 3 keyed_int Tryd.underlying84 _ w.heap.size nn _ rfl howd hnn2 _ _ _ rfl rfl hkey _ _ hel ?_
      intro w2 hown2 hgr
      have hbel2 : Below w.heap.size w w2 := by
        refine hbel.trans ?_
        have hg' : wr.drew.grownBy w2 (some w.heap.size) := hgr
        exact ((Below.refl w.heap.size wr).drew).grown hg' hbel.size (fun j hj => by injection hj with hj; omega)
      have HS2 : Hid (S + x * y = pSum (ps.take (k + 1))) := hide (by rw [unhide HZ, pSum_snoc, unhide HS])
      have HT2 : Hid (T + y = pAll (ps.take (k + 1))) := hide (by rw [unhide HZ, pAll_snoc, unhide HTT])
      have HV3 : Hid (VoteMap (D.put (keyI x) (.lit (.int .i64 (c + y)))) (ps.take (k + 1))) := hide (by rw [unhide HZ]; exact unhide HV2)
      clear hsum howd hgr hlk hel hown HV2 HV hbel hDm
      go_wp2_with fail
      go_roundw
      case rel => exact ⟨k + 1, nn + 1, _, _, _, by omega, by go_num, rfl, rfl, HS2, HT2, by omega, hown2, HV3, hbel2⟩
      case measure => simp [Lib.intOf]; omega
    · obtain rfl : k = nl := by omega
      have htk : ps.take k = ps := List.take_of_length_le (by rw [unhide HPL]; exact Nat.le_refl _)
      have hVM := unhide HV
      have hS0 := unhide HS
      have hT0 := unhide HTT
      rw [htk] at hVM hS0 hT0
      have HVM := hide hVM
      have HS0 := hide hS0
      have HT0 := hide hT0
      have hTp : 0 < T := by rw [hT0]; have := unhide HA; omega
      clear hVM hS0 hT0 htk HV HS HTT
      by_cases h1 : way = 1
      · have e1 : (way == 1) = true := by simp [h1]
        have HR : Hid (togV way ws l = S) := hide (by rw [unhide HT, if_pos h1, unhide HS0])
        clear h1
        go_wp2_with fail
        go_ret
        exact ⟨by rw [unhide HR]; rfl, hbel⟩
      have e1 : (way == 1) = false := by simp [h1]
      by_cases h2 : way = 2
      · have e2 : (way == 2) = true := by simp [h2]
        have HR : Hid (togV way ws l = S / T) := hide (by rw [unhide HT, if_neg h1, if_pos h2, unhide HS0, unhide HT0])
        clear h1 h2
        go_wp2_with fail
        refine (floor_any S T _ hTp (by omega) (by omega) (by omega)).mono ?_
        rintro e w3 ⟨rfl, rfl⟩
        go_wp2_with fail
        go_ret
        exact ⟨by rw [unhide HR]; rfl, hbel⟩
      have e2 : (way == 2) = false := by simp [h2]
      have HR : Hid (togV way ws l = voteV ps) := hide (by rw [unhide HT, if_neg h1, if_neg h2])
      have hsz := hown.size_le
      have hmlt := hown.lt
      have hps0 : ps ≠ [] := by intro e; have := unhide HPL; rw [e] at this; simp at this; omega
      have HP0 := hide hps0
      clear h1 h2 hps0
      go_wp2_with fail
      refine (mvals_any _ _).mono ?_
      rintro e w3 ⟨rfl, rfl⟩
      have hB1 : Below wr.heap.size wr (wr.alloc (.cells #[.map (some w.heap.size)] 84)) := (Below.refl _ _).alloc (Nat.le_refl _) _
      have hbx : (wr.alloc (.cells #[.map (some w.heap.size)] 84)).cell? ⟨wr.heap.size, 0, none⟩ = some (.map (some w.heap.size)) := (Blk.new wr 84 #[.map (some w.heap.size)]).cell 0
      have hs1 : (wr.alloc (.cells #[.map (some w.heap.size)] 84)).heap.size = wr.heap.size + 1 := by simp
      have ho1 := own_map_of_below hown hB1 hmlt
      have hbel1 := hbel.trans (hB1.mono hbel.size)
      generalize wr.alloc (.cells #[.map (some w.heap.size)] 84) = w1 at *
      have hcol := mcollect_any 66 #[.pointer (some ⟨wr.heap.size, 0, none⟩)] (enters_of Tryd.func66 (by kernel_rfl) rfl) (ValsOf D) (Maps.size D) (by omega) w1
        (mvals_gives 3 (by omega) wr.heap.size w.heap.size nn D w1 (by omega) hbx ho1)
      have HC := hide hcol
      clear hcol hbx
      go_wp2_with fail
      refine (unhide HC).mono ?_
      rintro e w3 ⟨v3, vs, rfl, hvs, hown3, hb3⟩
      clear HC
      have ho3 := own_map_of_below ho1 hb3 ho1.lt
      have hbel3 := hbel1.trans (hb3.mono hbel1.size)
      have hvn : vs ≠ [] := (vote_of (unhide HVM) hvs (unhide HP0) (ss := (ps.map (·.1)).filter fun x => Lib.maxOf vs ≤ pVotes ps x) (fun x => by simp [List.mem_filter])).1
      have hmax := max_any v3 vs _ w3 hown3 hvn
      have HVS := hide hvs
      have HVN := hide hvn
      clear hvs hvn hown hB1
      go_wp2_with fail
      refine hmax.mono ?_
      rintro e w4 ⟨rfl, rfl⟩
      clear hmax
      obtain ⟨best, hbest⟩ : ∃ b, b = Lib.maxOf vs := ⟨_, rfl⟩
      rw [← hbest]
      have HBE := hide hbest
      clear hbest
      go_wp2_with fail
      have hz3 := hb3.size
      have hB4 : Below w3.heap.size w3 (w3.alloc (.cells #[.int .i64 best] 3)) := (Below.refl _ _).alloc (Nat.le_refl _) _
      have hbx4 : (w3.alloc (.cells #[.int .i64 best] 3)).cell? ⟨w3.heap.size, 0, none⟩ = some (.int .i64 best) := (Blk.new w3 3 #[.int .i64 best]).cell 0
      have hs4 : (w3.alloc (.cells #[.int .i64 best] 3)).heap.size = w3.heap.size + 1 := by simp
      have ho4 := own_map_of_below ho3 hB4 ho3.lt
      have hbel4 := hbel3.trans (hB4.mono hbel3.size)
      have hlt3 := ho3.lt
      clear hown3 hb3 hB4
      generalize w3.alloc (.cells #[.int .i64 best] 3) = w4 at *
      have hdel := mdel_any w.heap.size nn w3.heap.size D best w4 ho4 hbx4 (by omega)
      clear hbx4
      refine hdel.mono ?_
      clear hdel
      rintro e w5 ⟨rfl, ho5, hg5⟩
      have hbel5 : Below w.heap.size w w5 := hbel4.grown hg5 hbel4.size (fun j hj => by injection hj with hj; omega)
      go_wp2_with fail
      refine (mkeys_any _ _).mono ?_
      rintro e w6 ⟨rfl, rfl⟩
      have hB6 : Below w5.heap.size w5 (w5.alloc (.cells #[.map (some w.heap.size)] 84)) := (Below.refl _ _).alloc (Nat.le_refl _) _
      have hbx6 : (w5.alloc (.cells #[.map (some w.heap.size)] 84)).cell? ⟨w5.heap.size, 0, none⟩ = some (.map (some w.heap.size)) := (Blk.new w5 84 #[.map (some w.heap.size)]).cell 0
      have hs6 : (w5.alloc (.cells #[.map (some w.heap.size)] 84)).heap.size = w5.heap.size + 1 := by simp
      have ho6 := own_map_of_below ho5 hB6 ho5.lt
      have hbel6 := hbel5.trans (hB6.mono hbel5.size)
      generalize w5.alloc (.cells #[.map (some w.heap.size)] 84) = w6 at *
      have hsz6 := ho6.size_le
      have hcol6 := mcollect_any 67 #[.pointer (some ⟨w5.heap.size, 0, none⟩)] (enters_of Tryd.func67 (by kernel_rfl) rfl) _ (Maps.size (Lib.deleteFuncD (fewD best) D)) (by omega) w6
        (mkeys_gives 3 (by omega) w5.heap.size w.heap.size nn (Lib.deleteFuncD (fewD best) D) w6 (by omega) hbx6 ho6)
      have HC6 := hide hcol6
      clear hcol6 hbx6
      go_wp2_with fail
      refine (unhide HC6).mono ?_
      rintro e w7 ⟨v7, ss, rfl, hss, hown7, hb7⟩
      clear HC6
      have hbel7 := hbel6.trans (hb7.mono hbel6.size)
      have hkl := keys_left (P := Tryd.prog) keyed_int Tryd.underlying3 ho4 (unhide HVM) hss
      rw [unhide HBE] at hkl
      obtain ⟨_, hsn, hvote⟩ := vote_of (unhide HVM) (unhide HVS) (unhide HP0) hkl
      have HR2 : Hid (togV way ws l = Lib.minOf ss) := hide (by rw [unhide HR, voteV_eq hvote])
      have hmin := hide (min_any v7 ss _ w7 hown7 hsn)
      clear hkl hsn hvote hss hown7
      go_wp2_with fail
      refine (unhide hmin).mono ?_
      rintro e w8 ⟨rfl, rfl⟩
      go_wp2_with fail
      go_ret
      exact ⟨by rw [unhide HR2]; rfl, hbel7⟩
end Go.Proofs.YtcneacooedefjaaDoor
