/- Part 28 of what LawFlatTells needs: FlatEval, NsRows. Conditions: as each lemma names. -/
import Derived.Test.YtcneacooedefjaaDoorPkFlatTells27
import Derived.Test.YtcneacooedefjaaDoorPkFlatTells02
/- flat.eval: of a row that is right. Conditions: a flat one that reads as data. -/
namespace Go.Proofs.YtcneacooedefjaaDoor
set_option linter.unusedVariables false
set_option linter.unusedSimpArgs false
open Go.RowKit

/-! ### plain -/
theorem flat_pair {fe : Int} : ∀ (f i : Nat) (q : List Kt), (∀ s ∈ q, s.Fit fe) → ∀ (j : Nat) x, (flatL f i q)[j]? = some x → x.f ≠ -1 → x.r = x.l + 1 := by
  intro f
  induction f with
  | zero => intro i q _ j x hx; simp [flatL] at hx
  | succ f ih =>
    intro i q hq j x hx hf
    cases q with
    | nil => simp [flatL] at hx
    | cons k q =>
      rw [flatL] at hx
      have hk := hq k (List.mem_cons_self ..)
      cases j with
      | zero =>
        have hx := Option.some.inj hx
        subst hx
        cases k with
        | leaf y => exact absurd (hk.2 y (by simp [Kt.leaves])).1 hf
        | node y a b => show ((i + 2 + q.length : Nat) : Int) = ((i + 1 + q.length : Nat) : Int) + 1; omega
      | succ j =>
        rw [List.getElem?_cons_succ] at hx
        refine ih (i + 1) (q ++ k.kids) (fun s hs => ?_) j x hx hf
        rcases List.mem_append.1 hs with h | h
        · exact hq s (List.mem_cons_of_mem _ h)
        · cases k with
          | leaf y => simp [Kt.kids] at h
          | node y a b =>
            simp [Kt.kids] at h
            rcases h with rfl | rfl
            · exact hk.left
            · exact hk.right
theorem Right.flatPair {t : List Nd} {fe : Int} (h : Right t fe) {j : Nat} {x : Nd} (hx : (flatT t)[j]? = some x) (hf : x.f ≠ -1) : x.r = x.l + 1 :=
  flat_pair _ _ _ (fun s hs => by rw [List.mem_singleton.1 hs]; exact h.kfit) j x hx hf
/-- the way of a row through what is laid -/
structure FlAt (t : List Nd) (r : List Int) (p : Nat) : Prop where
  lt : p < t.length
  val : kval r (kof (flatT t) t.length p) = valAt t (leafOf t r)
theorem FlAt.start {t : List Nd} {fe : Int} (h : Right t fe) (r : List Int) : FlAt t r 0 := ⟨h.pos, by
  have h1 := h.flat.value r
  rw [h.flatValue r] at h1
  rw [h1]
  unfold kTree
  rw [h.flatLen]⟩
theorem FlAt.leaf {t : List Nd} {fe : Int} (h : Right t fe) {r : List Int} {p : Nat} (ha : FlAt t r p) {x : Nd} (hx : (flatT t)[p]? = some x) (hf : x.f = -1) : x.v = valAt t (leafOf t r) := by
  have h1 := ha.val
  obtain ⟨N, hN⟩ : ∃ N, t.length = N + 1 := ⟨t.length - 1, by have := h.pos; omega⟩
  rw [hN, kof_leaf hx hf] at h1
  exact h1
theorem FlAt.step {t : List Nd} {fe : Int} (h : Right t fe) {r : List Int} {p : Nat} (ha : FlAt t r p) {x : Nd} (hx : (flatT t)[p]? = some x) (hf : x.f ≠ -1) :
    ∃ q : Nat, FlAt t r q ∧ p < q ∧ (q : Int) = x.l + (if goes x (cellAt r x.f) = true then 0 else 1) ∧ 0 ≤ x.f ∧ x.f < fe := by
  have h1 := ha.val
  have hb := h.flat.behind
  obtain ⟨b1, b2, b3, b4⟩ := hb p x hx hf
  rw [h.flatLen] at b2 b4
  have hp := h.flatPair hx hf
  obtain ⟨a1, a2⟩ : 0 ≤ x.f ∧ x.f < fe := by
    rcases node_of (h.flat.node p x hx) with h2 | h2
    · exact absurd h2.1 hf
    · exact ⟨h2.1, h2.2.1⟩
  obtain ⟨N, hN⟩ : ∃ N, t.length = N + 1 := ⟨t.length - 1, by have := h.pos; omega⟩
  have hl := h.flatLen
  rw [hN, kof_node hx hf, kval] at h1
  by_cases hg : goes x (cellAt r x.f) = true
  · rw [if_pos hg] at h1
    refine ⟨x.l.toNat, ⟨by omega, ?_⟩, by omega, by rw [if_pos hg]; omega, a1, a2⟩
    rw [← kofMore hb N t.length x.l.toNat (by omega) (by omega) (by omega)]
    exact h1
  · rw [if_neg hg] at h1
    refine ⟨x.r.toNat, ⟨by omega, ?_⟩, by omega, by rw [if_neg hg]; omega, a1, a2⟩
    rw [← kofMore hb N t.length x.r.toNat (by omega) (by omega) (by omega)]
    exact h1

def feachV (ts : List (List Nd)) (r : List Int) : List Int := ts.map fun t => valAt t (leafOf t r)

set_option maxRecDepth 100000 in
set_option maxHeartbeats 8000000 in
theorem feval_any (gF : Nat) (f way : Int) (ws : List Int) (ts : List (List Nd)) (C : Option Addr) (k q : Nat) (r : List Int) (w : World) (hF : FlIs w w.heap.size gF f way ws (flR ts ts.length) (flL ts)) (hr : IReads w w.heap.size C k r)
    (hR : ∀ t ∈ ts, Right t k) (hpos : 0 < ts.length) (h12 : ts.length ≤ 12) (hwl : ws.length = ts.length) (hws : ∀ x ∈ ws, 1 ≤ x ∧ x ≤ 1000) :
    Calls Tryd.prog 26 #[.pointer (some ⟨gF, 0, none⟩), .slice C k q] w fun e w' => e = .returned (.int .i64 (togV way ws (feachV ts r))) ∧ Below w.heap.size w w' := by
  obtain ⟨Aw, nw, cw, Ar, nr, cr, A4, A5, A6, A7, A8, c4, c5, c6, c7, c8, hb, hlt, ⟨hw1, hw2, hw3⟩, ⟨hr1, hr2⟩, h4, h5, h6, h7, h8⟩ := hF
  have hk8 : k ≤ 8 := by
    have := (hR _ (List.getElem_mem hpos)).fe8
    omega
  have hnr : nr = ts.length + 1 := by have := hr1.1; rw [List.length_map, flR_len] at this; omega
  have hnw : nw = ts.length := by have := hw1.len; omega
  have HR := hide hR
  have hLn : 0 < (flL ts).length ∧ (flL ts).length ≤ 756 := by
    have h1 := flPre_le (ts := ts) hR ts.length
    have h2 := (hR _ (List.getElem_mem hpos)).pos
    obtain ⟨y, hy⟩ : ∃ y, (flatT (ts[0]'hpos))[0]? = some y := ⟨_, List.getElem?_eq_getElem (by rw [(hR _ (List.getElem_mem hpos)).flatLen]; exact h2)⟩
    have h3 := flL_at ts.length (ts := ts) (k := 0) (j := 0) hpos (List.getElem?_eq_getElem hpos) hy
    rw [List.take_length] at h3
    have h4 := (List.getElem?_eq_some_iff.1 h3).1
    unfold flPre at h1
    rw [List.take_length] at h1
    omega
  obtain ⟨L, hL⟩ : ∃ L, L = flL ts := ⟨_, rfl⟩
  have HAT : Hid (∀ (k j : Nat) (t : List Nd) (x : Nd), ts[k]? = some t → (flatT t)[j]? = some x → L[flPre ts k + j]? = some (fsh (flPre ts k) x)) := hide (fun k j t x ht hx => by
    have := flL_at ts.length (List.getElem?_eq_some_iff.1 ht).1 ht hx
    rw [List.take_length] at this
    rw [hL]; exact this)
  rw [← hL] at hb h4 h5 h6 h7 h8 hLn
  obtain ⟨N, hN⟩ : ∃ N, N = L.length := ⟨_, rfl⟩
  rw [← hN] at hb h4 h5 h6 h7 h8 hLn
  obtain ⟨bR, oR, rfl, lR, hcR⟩ := Reads.spot hr1 (by omega) Nat.zero_lt_one
  obtain ⟨b4, o4, rfl, l4, hc4⟩ := Reads.spot h4 (by omega) Nat.zero_lt_one
  obtain ⟨b5, o5, rfl, l5, hc5⟩ := Reads.spot h5 (by omega) Nat.zero_lt_one
  obtain ⟨b6, o6, rfl, l6, hc6⟩ := Reads.spot h6 (by omega) Nat.zero_lt_one
  obtain ⟨b7, o7, rfl, l7, hc7⟩ := Reads.spot h7 (by omega) Nat.zero_lt_one
  obtain ⟨b8, o8, rfl, l8, hc8⟩ := Reads.spot h8 (by omega) Nat.zero_lt_one
  have HROW : Hid (∀ (p : Nat) (x : Nd), L[p]? = some x → p < N ∧ w.cell? ⟨b4, o4 + p, none⟩ = some (.int .i64 x.f) ∧ w.cell? ⟨b5, o5 + p, none⟩ = some (.int .i64 x.c) ∧ w.cell? ⟨b6, o6 + p, none⟩ = some (.int .i64 x.l) ∧ w.cell? ⟨b7, o7 + p, none⟩ = some (.bool x.less) ∧ w.cell? ⟨b8, o8 + p, none⟩ = some (.int .i64 x.v)) := hide (fun p x hx =>
    ⟨by rw [hN]; exact (List.getElem?_eq_some_iff.1 hx).1, hc4 p _ (by rw [List.getElem?_map, hx]; rfl), hc5 p _ (by rw [List.getElem?_map, hx]; rfl), hc6 p _ (by rw [List.getElem?_map, hx]; rfl), hc7 p _ (by rw [List.getElem?_map, hx]; rfl), hc8 p _ (by rw [List.getElem?_map, hx]; rfl)⟩)
  have HRT : Hid (∀ k, k ≤ ts.length → w.cell? ⟨bR, oR + k, none⟩ = some (.int .i64 (flPre ts k : Nat))) := hide (fun k hk => hcR k _ (by rw [List.getElem?_map, flR_at ts hk]; rfl))
  obtain ⟨nt, hnt⟩ : ∃ nt, nt = ts.length := ⟨_, rfl⟩
  have HNT := hide hnt
  rw [← hnt] at hnr hnw hpos h12 hwl
  rw [← hnt] at HRT
  subst hnr
  subst hnw
  have x1 := hb.cell 1
  have x2 := hb.cell 2
  have x3 := hb.cell 3
  have x4 := hb.cell 4
  have x5 := hb.cell 5
  have x6 := hb.cell 6
  have x7 := hb.cell 7
  have x8 := hb.cell 8
  simp only [cellsF, List.getElem?_toArray, List.getElem?_cons_zero, List.getElem?_cons_succ] at x1 x2 x3 x4 x5 x6 x7 x8
  have hcon : Hid (∀ (v : Value) (X : World), X.ownsRow w.heap.size 3 1 v nw ((feachV ts r).map (Value.int .i64)) → Below w.heap.size w X → Calls Tryd.prog 30 #[.int .i64 way, .slice Aw nw cw, v] X fun e w' => e = .returned (.int .i64 (togV way ws (feachV ts r))) ∧ Below X.heap.size X w') := hide (fun v X ho hB => by
    obtain ⟨A, c, rfl, hrr, _, _⟩ := own_slice ho
    refine tog_any way Aw A nw cw nw c ws (feachV ts r) X ((hw1.below hB).more hB.size) hrr rfl h12 hpos hws ?_
    intro x hx
    obtain ⟨t, ht, rfl⟩ := List.mem_map.1 hx
    obtain ⟨n, hn, _, h1, h2⟩ := leaf_in (r := r) (unhide HR t ht)
    simp only [valAt, hn]
    exact ⟨h1, h2⟩)
  have s1 : IntKind.i64.wrap ((nw + 1 : Nat) - 1 : Int) = (nw : Int) := by rw [IntKind.wrap_i64]; omega
  have s2 : (0 : Int) ≤ (nw : Int) := by omega
  have s3 : ((nw : Int)).toNat = nw := by omega
  have s4 : nw ≤ cr := by omega
  have hnc : ¬ cr = 0 := by omega
  clear h4 h5 h6 h7 h8 hr1 hw1 hw2 hw3 hR hL hN hws hwl hc4 hc5 hc6 hc7 hc8 hcR hnt hb
  go_enter Tryd.func26, Tryd.ntmps26
  go_wp2_with fail
  go_quiet (fail)
  go_wp2_with fail
  clear s1 s2 s3
  go_loopw [5, 22] (fun v5 v wr => ∃ (j : Nat), j ≤ nw ∧ v = .int .i64 j ∧ wr.ownsRow w.heap.size 3 1 v5 j (((feachV ts r).take j).map (Value.int .i64)) ∧ Below w.heap.size w wr) (fun _ v _ => nw - (Lib.intOf v).toNat)
  case atStart => exact ⟨0, Nat.zero_le _, rfl, World.ownsRow_nil _ _ _ _, below_drewN (Below.refl _ _) _⟩
  case round =>
    obtain ⟨j, hj, rfl, hown, hbel⟩ := hrel
    have hsz := hbel.size
    have e1 := (hbel.cell (p := ⟨gF, 1, none⟩) hlt).trans x1
    have e2 := (hbel.cell (p := ⟨gF, 2, none⟩) hlt).trans x2
    have e4 := (hbel.cell (p := ⟨gF, 4, none⟩) hlt).trans x4
    have e5 := (hbel.cell (p := ⟨gF, 5, none⟩) hlt).trans x5
    have e6 := (hbel.cell (p := ⟨gF, 6, none⟩) hlt).trans x6
    have e7 := (hbel.cell (p := ⟨gF, 7, none⟩) hlt).trans x7
    have e8 := (hbel.cell (p := ⟨gF, 8, none⟩) hlt).trans x8
    by_cases hlj : j < nw
    · have kr := (hbel.cell (p := ⟨bR, oR + j, none⟩) lR).trans (unhide HRT j (by omega))
      obtain ⟨t, ht⟩ : ∃ t, ts[j]? = some t := ⟨_, List.getElem?_eq_getElem (by rw [← unhide HNT]; exact hlj)⟩
      have hRt := hide (unhide HR t (List.mem_of_getElem? ht))
      have HV : Hid ((feachV ts r).take (j + 1) = (feachV ts r).take j ++ [valAt t (leafOf t r)]) := hide (take_next (by unfold feachV; rw [List.getElem?_map, ht]; rfl))
      obtain ⟨pre, hpre⟩ : ∃ pre, pre = flPre ts j := ⟨_, rfl⟩
      have HX : Hid (∀ (p : Nat) (x : Nd), (flatT t)[p]? = some x → L[pre + p]? = some (fsh pre x)) := hide (fun p x hx => by rw [hpre]; exact unhide HAT j p t x ht hx)
      rw [← hpre] at kr
      have hst := FlAt.start (unhide hRt) r
      have hst := hide hst
      clear hpre ht
      go_wp2_with fail
      go_loop [7] (fun v7 => ∃ p : Nat, v7 = .int .i64 ((pre + p : Nat) : Int) ∧ FlAt t r p) (fun v7 => pre + 64 - (Lib.intOf v7).toNat)
      case atStart => exact ⟨0, rfl, unhide hst⟩
      case round =>
        obtain ⟨p, rfl, hat⟩ := hrel
        have hpl := hat.lt
        have hm63 := (unhide hRt).most
        obtain ⟨x, hx⟩ : ∃ x, (flatT t)[p]? = some x := ⟨_, List.getElem?_eq_getElem (by rw [(unhide hRt).flatLen]; exact hpl)⟩
        obtain ⟨i0, i4, i5, i6, i7, i8⟩ := unhide HROW (pre + p) (fsh pre x) (unhide HX p x hx)
        have j4 := (hbel.cell (p := ⟨b4, o4 + (pre + p), none⟩) l4).trans i4
        have j5 := (hbel.cell (p := ⟨b5, o5 + (pre + p), none⟩) l5).trans i5
        have j6 := (hbel.cell (p := ⟨b6, o6 + (pre + p), none⟩) l6).trans i6
        have j7 := (hbel.cell (p := ⟨b7, o7 + (pre + p), none⟩) l7).trans i7
        have j8 := (hbel.cell (p := ⟨b8, o8 + (pre + p), none⟩) l8).trans i8
        clear i4 i5 i6 i7 i8
        simp only [fsh] at j4 j5 j6 j7 j8
        obtain ⟨pp, hpp⟩ : ∃ pp : Nat, pp = pre + p := ⟨_, rfl⟩
        rw [← hpp] at j4 j5 j6 j7 j8 i0 ⊢
        have hp63 : pp < pre + 63 := by omega
        have HPP := hide hpp
        clear hpp
        by_cases hf : x.f = -1
        · have hv := hat.leaf (unhide hRt) hx hf
          rw [hf] at j4
          rw [hv] at j8
          obtain ⟨V, hV⟩ : ∃ V, V = valAt t (leafOf t r) := ⟨_, rfl⟩
          rw [← hV] at j8 HV
          have HVV := hide hV
          have hj9 : j < 1000000000 := by omega
          clear hf hv hx hat j5 j6 j7 hV e1 e2 e5 e6 e7
          go_wp2_with (at_builtin; refine app_one elem_int (.tmp 81) (.tmp 89) [.int .i64 V] rfl rfl rfl hown rfl rfl rfl (ints_oneCell .i64 [V]) hj9 hsz ?_; intro v' w3 hown3 hb4 _ _)
          have hown4 : w3.ownsRow w.heap.size 3 1 v' (j + 1) (((feachV ts r).take (j + 1)).map (Value.int .i64)) := by rw [unhide HV, List.map_append]; exact hown3
          have hO := hide hown4
          clear hown3 hown4 hown j4 j8
          go_wp2_with fail
          go_roundw
          case rel => exact ⟨j + 1, by omega, by go_num, unhide hO, hbel.trans hb4⟩
          case measure => simp [Lib.intOf]; omega
        · obtain ⟨q', hat2, hpq, hqe, hf0, hfk⟩ := hat.step (unhide hRt) hx hf
          have hq63 := hat2.lt
          obtain ⟨fn, hfn⟩ : ∃ fn : Nat, x.f = fn := ⟨x.f.toNat, by omega⟩
          obtain ⟨b2, o2, c, rfl, _, hc, cc⟩ := (hr.below hbel).get (show fn < k by omega)
          have hca : cellAt r x.f = c := by unfold cellAt; rw [hfn, Int.toNat_natCast, List.getD_eq_getElem?_getD, hc]; rfl
          rw [hca] at hqe
          rw [if_neg hf] at j6
          obtain ⟨dn, hdn⟩ : ∃ dn : Int, dn = (pre : Int) + x.l := ⟨_, rfl⟩
          rw [← hdn] at j6
          have hfk2 : fn < k := by omega
          have hnf : ((fn : Int) != -1) = true := by simp <;> omega
          have hp756 : pre ≤ 756 := by have := unhide HPP; omega
          have hat3 := hide hat2
          rw [hfn] at j4
          obtain ⟨xf, xc, xl, xr, xb, xv⟩ := x
          dsimp only at hqe hdn j4 j5 j6 j7 j8 hfn hf hf0 hfk
          have hdnb : 0 ≤ dn ∧ dn ≤ 900 := by
            split at hqe <;> omega
          obtain ⟨hd0, hd1⟩ := hdnb
          by_cases hcn : c = -1125899906842624
          · have hg : goes ⟨xf, xc, xl, xr, xb, xv⟩ c = xb := by unfold goes; rw [if_pos hcn]
            have k1 : (c == -1125899906842624) = true := by simp [hcn]
            have k2 : (c != -1125899906842624) = false := by simp [hcn]
            rw [hg] at hqe
            cases xb with
            | true =>
              have HE : Hid (dn = ((pre + q' : Nat) : Int)) := hide (by rw [if_pos rfl] at hqe; omega)
              clear hg hcn hqe hfn hf hx hat hc hca hdn hat2 j5 j8 e1 e2 e8
              go_wp2_with fail
              go_round
              case rel => exact ⟨q', by rw [unhide HE], unhide hat3⟩
              case measure => have := unhide HE; have := unhide HPP; simp [Lib.intOf]; omega
            | false =>
              have HE : Hid (dn + 1 = ((pre + q' : Nat) : Int)) := hide (by rw [if_neg (by simp)] at hqe; omega)
              clear hg hcn hqe hfn hf hx hat hc hca hdn hat2 j5 j8 e1 e2 e8
              go_wp2_with fail
              go_round
              case rel => exact ⟨q', by rw [unhide HE], unhide hat3⟩
              case measure => have := unhide HE; have := unhide HPP; simp [Lib.intOf]; omega
          · have hg : goes ⟨xf, xc, xl, xr, xb, xv⟩ c = decide (c < xc) := by unfold goes; rw [if_neg hcn]
            have k1 : (c == -1125899906842624) = false := by simp [hcn]
            have k2 : (c != -1125899906842624) = true := by simp [hcn]
            rw [hg] at hqe
            by_cases hlc : c < xc
            · have k3 : decide (xc ≤ c) = false := by simp; omega
              have HE : Hid (dn = ((pre + q' : Nat) : Int)) := hide (by rw [if_pos (by simpa using hlc)] at hqe; omega)
              clear hg hcn hqe hfn hf hx hat hc hca hdn hat2 j7 j8 e1 e2 e8 hlc
              go_wp2_with fail
              go_round
              case rel => exact ⟨q', by rw [unhide HE], unhide hat3⟩
              case measure => have := unhide HE; have := unhide HPP; simp [Lib.intOf]; omega
            · have k3 : decide (xc ≤ c) = true := by simp; omega
              have HE : Hid (dn + 1 = ((pre + q' : Nat) : Int)) := hide (by rw [if_neg (by simpa using hlc)] at hqe; omega)
              clear hg hcn hqe hfn hf hx hat hc hca hdn hat2 j7 j8 e1 e2 e8 hlc
              go_wp2_with fail
              go_round
              case rel => exact ⟨q', by rw [unhide HE], unhide hat3⟩
              case measure => have := unhide HE; have := unhide HPP; simp [Lib.intOf]; omega
    · obtain rfl : j = nw := by omega
      have ho : wr.ownsRow w.heap.size 3 1 u5 j ((feachV ts r).map (Value.int .i64)) := by
        have h := hown
        rwa [List.take_of_length_le (by unfold feachV; rw [List.length_map, ← unhide HNT]; exact Nat.le_refl _)] at h
      have hcc := hide (unhide hcon u5 wr.drew (World.ownsRow.drew ho) hbel.drew)
      clear ho hown e4 e5 e6 e7 e8
      go_wp2_with fail
      go_still_tail 9, (by kernel_rfl)
      go_wp2_with fail
      refine (unhide hcc).mono ?_
      rintro e w5 ⟨rfl, hb5⟩
      go_wp2_with fail
      go_ret
      exact ⟨rfl, (hbel.drew).trans (hb5.mono (by simpa using hsz))⟩
end Go.Proofs.YtcneacooedefjaaDoor
/- A slice of slices of numbers: how it reads. Conditions: none. -/
namespace Go.Proofs.YtcneacooedefjaaDoor
set_option linter.unusedVariables false
set_option linter.unusedSimpArgs false
open Go.RowKit

/-- a slice of numbers that lies in a row -/
structure Ns where
  (A : Option Addr) (n c : Nat) (l : List Int)
def Ns.val (r : Ns) : Value := .slice r.A r.n r.c
instance : Inhabited Ns := ⟨⟨none, 0, 0, []⟩⟩
structure NsOk (k : IntKind) (w : World) (B : Nat) (r : Ns) : Prop where
  reads : Reads w B 1 r.A r.n (r.l.map (Value.int k))
  len : r.n ≤ maxLen
  cap : r.n ≤ r.c
  nil : r.A = none → r.c = 0
  wf : ∀ x ∈ r.l, (Lit.int k x).wf = true
def NsReads (k : IntKind) (w : World) (B : Nat) (A : Option Addr) (n : Nat) (ts : List Ns) : Prop := Reads w B 1 A n (ts.map Ns.val) ∧ ∀ r ∈ ts, NsOk k w B r
section
variable {k : IntKind} {w w' : World} {B B' n : Nat} {A : Option Addr} {ts : List Ns}
theorem NsOk.below {r : Ns} (h : NsOk k w B r) (hb : Below B w w') : NsOk k w' B r := ⟨h.reads.below hb, h.len, h.cap, h.nil, h.wf⟩
theorem NsReads.len (h : NsReads k w B A n ts) : ts.length = n := by have := h.1.1; simpa using this
theorem NsReads.below (h : NsReads k w B A n ts) (hb : Below B w w') : NsReads k w' B A n ts := ⟨h.1.below hb, fun r hr => (h.2 r hr).below hb⟩
theorem NsReads.more (h : NsReads k w B A n ts) (hB : B ≤ B') : NsReads k w B' A n ts := ⟨h.1.more hB, fun r hr => ⟨(h.2 r hr).reads.more hB, (h.2 r hr).len, (h.2 r hr).cap, (h.2 r hr).nil, (h.2 r hr).wf⟩⟩
theorem NsReads.get (h : NsReads k w B A n ts) {i : Nat} (hi : i < n) : ∃ b o r, A = some ⟨b, o, none⟩ ∧ b < B ∧ ts[i]? = some r ∧ w.cell? ⟨b, o + i, none⟩ = some (.slice r.A r.n r.c) ∧ NsOk k w B r := by
  obtain ⟨b, o, e, hb, hc⟩ := h.1.spot (by omega) (by omega)
  have hl := h.len
  have hi' : ts[i]? = some ts[i] := List.getElem?_eq_getElem (by omega)
  refine ⟨b, o, ts[i], e, hb, hi', hc i _ (by rw [List.getElem?_map, hi']; rfl), h.2 _ (List.getElem_mem _)⟩
end
end Go.Proofs.YtcneacooedefjaaDoor
