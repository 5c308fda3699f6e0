/- Part 23 of what LawBoostTells needs: BoostR. Conditions: as each lemma names. -/
import Derived.Test.YtdpijhnbhopnbaaGreatDoorPkBoostTells18
import Derived.Test.YtdpijhnbhopnbaaGreatDoorPkBoostTells21
import Derived.Test.YtdpijhnbhopnbaaGreatDoorPkBoostTells22
/- What the document says of a grove of samples: Squares, Boost. Conditions: samples that read as data and are right. -/
namespace Go.Proofs.YtdpijhnbhopnbaaGreatDoor
set_option linter.unusedVariables false
set_option linter.unusedSimpArgs false
open Go.RowKit

theorem below_grownR {w x : World} {B : Nat} {w' : World} {row : Option Nat} (h : Below B w x) (hg : x.drew.grownBy w' row) (hB : B ≤ x.heap.size) (hr : ∀ k, row = some k → B ≤ k) : Below B w w' :=
  h.grown (w' := w') ⟨hg.os, hg.tape, hg.output, hg.size, hg.block⟩ hB hr
theorem squares_total (l : List Int) : totalV (l.map fun x => mulV x x) = squaresV l := by
  unfold totalV squaresV
  rw [List.foldl_map]
theorem lessV_next {rest : List Int} {t : List Nd} {ss : List Sm} {k : Nat} {y : Int} {s : Sm} (hy : rest[k]? = some y) (hs : ss[k]? = some s) : (lessV rest t ss).take (k + 1) = (lessV rest t ss).take k ++ [y - valAt t (leafOf t s.r)] := by
  have hv : (lessV rest t ss)[k]? = some (y - valAt t (leafOf t s.r)) := by unfold lessV; rw [List.getElem?_zipWith, hy, hs]
  rw [take_next hv]
theorem reS_next {rest : List Int} {ss : List Sm} {k : Nat} {y : Int} {s : Sm} (hy : rest[k]? = some y) (hs : ss[k]? = some s) : (reS rest ss).take (k + 1) = (reS rest ss).take k ++ [⟨s.A, s.n, s.c, s.r, clipT y⟩] := by
  have hv : (reS rest ss)[k]? = some (setT s y) := by unfold reS; rw [List.getElem?_zipWith, hy, hs]
  rw [take_next hv]
  rfl
theorem first_at {ss : List Sm} {n : Nat} (hs : SRight ss n) (r : List Int) : valAt (firstT ss) (leafOf (firstT ss) r) = (leafG ss).v := by
  obtain ⟨x, hx, e, _⟩ := valAt_in (firstT_right hs).1 r
  have hm := List.mem_of_getElem? hx
  unfold firstT at hm
  obtain rfl := List.mem_singleton.1 hm
  exact e
theorem wp_bst {P : Program} {c : Code} {Q : Exit → Act → World → Prop} {a : Act} {w0 w : World} {base : Nat} {fe : Int} {rv tv wv : Value} {rest : List Int} {nw g15 g10 : Nat} {ts : List (Value × List Nd)} (hB : BSt w0 w base fe rv rest tv wv nw ts g15 g10) (h : ∀ X, BSt w0 X base fe rv rest tv wv nw ts g15 g10 → Code.wp P c Q a X) : Code.wp P c Q a w := h w hB

theorem BSt.put {w0 w : World} {base : Nat} {fe : Int} {rv tv wv : Value} {rest : List Int} {nw nT u q g15 g10 g : Nat} {ts : List (Value × List Nd)} {p : Value × List Nd} {c : Nat} (hB : BSt w0 w base fe rv rest tv wv nw (endQ nT ts u p q) g15 g10) (hp : ts[u]? = some p) (hv : p.1 = .slice (some ⟨g, 0, none⟩) p.2.length c) {x : Nd} (hx : p.2[q]? = some x) :
    BSt w0 (w.setCell ⟨g, q * 6 + 5, none⟩ (.int .i64 (endF nT x.v))) base fe rv rest tv wv nw (endQ nT ts u p (q + 1)) g15 g10 := by
  obtain ⟨g', e, _, _, h⟩ := BSt.cur hB hp hv hx
  injection e with e
  injection e with e1 _
  subst e1
  exact h

set_option maxRecDepth 100000 in
set_option maxHeartbeats 2000000 in
theorem rsquares_any (A : Option Addr) (n c : Nat) (l : List Int) (w : World) (hr : IReads w w.heap.size A n l) (hn : n ≤ 1000000) :
    Calls Tryz.prog 12 #[.slice A n c] w fun e w' => e = .returned (.int .i64 (squaresV l)) ∧ Below w.heap.size w w' := by
  have hlen := hr.len
  have HL := hide hlen
  have HT : Hid (l.take n = l) := hide (List.take_of_length_le (by omega))
  have HSQ := hide (squares_total l)
  clear hlen
  go_enter Tryz.func12, Tryz.ntmps12
  go_wp2_with fail
  go_loopw [3, 4] (fun u i wr => ∃ k : Nat, k ≤ n ∧ i = .int .i64 k ∧ Hid (IOwn wr w.heap.size u ((l.take k).map fun x => mulV x x)) ∧ Below w.heap.size w wr) (fun _ i _ => n - (intOf i).toNat)
  case atStart => exact ⟨0, Nat.zero_le _, rfl, hide (IOwn.nil_ _ _), Below.refl _ _⟩
  case round =>
    obtain ⟨k, hk, rfl, HO, hbel⟩ := hrel
    have hsz := hbel.size
    by_cases hlt : k < n
    · obtain ⟨b, o, x, rfl, hb, hx, cx⟩ := (hr.below hbel).get hlt
      have HN : Hid ((l.take (k + 1)).map (fun x => mulV x x) = (l.take k).map (fun x => mulV x x) ++ [mulV x x]) := hide (by rw [take_next hx, List.map_append]; rfl)
      obtain ⟨L, hL⟩ : ∃ L, L = (l.take k).map (fun x => mulV x x) := ⟨_, rfl⟩
      have hLl : L.length = k := by rw [hL, List.length_map, List.length_take, unhide HL]; omega
      rw [← hL] at HN HO
      have HLl := hide hLl
      clear hx hL hLl
      go_wp2_with fail
      go_quiet ((go_at_call 29; exact quiet_left (rmul_any _ _ _)))
      have hbq := below_drewN hbel nq
      have hO2 : (wr.drewN nq).ownsRow w.heap.size 3 1 _ L.length (L.map (Value.int .i64)) := own_over (unhide HO) (below_drewN (Below.refl _ _) nq)
      rw [unhide HLl] at hO2
      have hz2 : w.heap.size ≤ (wr.drewN nq).heap.size := hbq.size
      clear HO hbel
      go_wp2_with (at_builtin; refine app_one elem_int (.tmp 21) (.tmp 23) [.int .i64 (mulV x x)] rfl rfl rfl hO2 rfl rfl rfl (ints_oneCell .i64 [mulV x x]) (by omega) hz2 ?_; intro v2 w2 hown2 hb2 _ _)
      have hown3 : IOwn w2 w.heap.size v2 ((l.take (k + 1)).map fun x => mulV x x) := by
        rw [unhide HN]
        unfold IOwn
        rw [List.length_append, List.map_append, unhide HLl]
        exact hown2
      clear hown2 hO2
      go_wp2_with fail
      go_roundw
      case rel => exact ⟨k + 1, by omega, by go_num, hide hown3, hbq.trans hb2⟩
      case measure => simp [intOf] <;> omega
    · obtain rfl : k = n := by omega
      rw [unhide HT] at HO
      have hml : (l.map fun x => mulV x x).length = k := by rw [List.length_map, unhide HL]
      obtain ⟨A1, c1, rfl, hr1, hn1, _, _⟩ := (unhide HO).slice_
      rw [hml] at hr1 ⊢
      have hcl := hide (rtotal_any A1 k c1 _ _ wr hr1 (by unfold maxLen; omega))
      rw [unhide HSQ] at hcl
      clear HO hr1 hn1
      go_wp2_with fail
      refine (unhide hcl).mono ?_
      rintro e w1 ⟨rfl, rfl⟩
      go_wp2_with fail
      go_ret
      exact ⟨rfl, hbel⟩

theorem Reads.grownR {w w' : World} {B size n : Nat} {A : Option Addr} {xs : List Value} (h : Reads w B size A n xs) (hB : B ≤ w.heap.size) {row : Option Nat} (hg : w.grownBy w' row) (hne : 0 < n → ∀ a, A = some a → row ≠ some a.block) : Reads w' B size A n xs :=
  ⟨h.1, fun hn => by
    obtain ⟨ad, e, hb, hc⟩ := h.2 hn
    refine ⟨ad, e, hb, fun j v hv => ?_⟩
    rw [← hc j v hv]
    exact World.cell?_of_block (hg.block _ (by rw [block_of_add]; omega) (fun e' => hne hn ad e (by rw [← block_of_add ad j]; exact e'.symm)))⟩
/-- a grove whose rows are the call's own -/
structure GLow (w : World) (base : Nat) (g : Gv) : Prop where
  ws : w.ownsRow base 3 1 (.slice g.Aw g.nw g.cw) g.nw (g.ws.map (Value.int .i64))
  ts : w.ownsRow base 48 1 (.slice g.At g.nt g.ct) g.nt (g.ts.map Tr.val)
  nw : g.nw ≤ maxLen
  nt : g.nt ≤ maxLen
  each : ∀ r ∈ g.ts, TrOk w w.heap.size r ∧ (0 < r.n → ∀ a, r.A = some a → base ≤ a.block)
theorem GLow.reads {w : World} {base : Nat} {g : Gv} (h : GLow w base g) : GReads w w.heap.size g :=
  ⟨Reads.of_own h.ws, ⟨Reads.of_own h.ts, fun r hr => (h.each r hr).1⟩, h.nw, h.nt, own_nilB h.ws, own_nilB h.ts⟩
theorem GLow.kept {w W : World} {base q : Nat} {g : Gv} (h : GLow w base g) (hg : w.grownBy W (some q)) (hq : q < base) : GLow W base g := by
  have ne : ∀ {e : TypeId} {size n : Nat} {v : Value} {xs : List Value}, w.ownsRow base e size v n xs → W.ownsRow base e size v n xs := fun ho => by
    refine ho.kept hg ?_
    rename_i v _
    rcases hv : v.ownBlock with _ | k
    · exact .inl rfl
    · exact .inr fun e => by have := (ho.lt k hv).1; injection e with e; omega
  refine ⟨ne h.ws, ne h.ts, h.nw, h.nt, fun r hr => ?_⟩
  obtain ⟨h1, h2⟩ := h.each r hr
  exact ⟨⟨(Reads.grownR h1.reads (Nat.le_refl _) hg (fun hn a ha e => by have := h2 hn a ha; injection e with e; omega)).more hg.size, h1.len, h1.nil⟩, h2⟩
theorem trs_low {w : World} {base : Nat} : ∀ (ts : List (Value × List Nd)), (∀ p ∈ ts, w.ownsRow base 51 6 p.1 p.2.length (p.2.flatMap Nd.cells)) → ∃ trs : List Tr, trs.map Tr.val = ts.map (·.1) ∧ trs.map Tr.l = ts.map (·.2) ∧ ∀ r ∈ trs, TrOk w w.heap.size r ∧ (0 < r.n → ∀ a, r.A = some a → base ≤ a.block) := by
  intro ts
  induction ts with
  | nil => intro _; exact ⟨[], rfl, rfl, fun r hr => by cases hr⟩
  | cons p r ih =>
    intro hp
    obtain ⟨trs, h1, h2, h3⟩ := ih fun q hq => hp q (List.mem_cons_of_mem _ hq)
    have ho := hp p (List.mem_cons_self ..)
    obtain ⟨A, c, e, hr, hn, _⟩ := own_slice ho
    refine ⟨⟨A, p.2.length, c, p.2⟩ :: trs, by simp [Tr.val, h1, e], by simp [h2], fun x hx => ?_⟩
    rcases List.mem_cons.1 hx with rfl | hx
    · refine ⟨⟨hr, hn, fun hA => ?_⟩, fun _ a ha => ?_⟩
      · dsimp only at hA
        subst hA
        rw [e] at ho
        exact own_nilB ho rfl
      · dsimp only at ha
        subst ha
        rw [e] at ho
        exact own_block_ge ho _ rfl
    · exact h3 x hx

def RBoostPost (ss : List Sm) (n R d : Nat) (part : Int) (w : World) (e : Ending) (w' : World) : Prop :=
  ∃ g' : Gv, e = .returned g'.val ∧ GLow w' w.heap.size g' ∧ Below w.heap.size w w' ∧ g'.f = n ∧ g'.way = 2 ∧ g'.trees = boostTrees ss n R d part ∧ g'.ws = List.replicate g'.trees.length 1

set_option maxRecDepth 100000 in
set_option maxHeartbeats 8000000 in
theorem rboost_any (A : Option Addr) (m c n R d : Nat) (part : Int) (ss : List Sm) (w : World) (h : MReads w w.heap.size A m ss) (hs : SRight ss n) (hR8 : R ≤ 8) (hd1 : 1 ≤ d) (hd4 : d ≤ 4) (a5 : 1 ≤ part) (a6 : part ≤ 100) :
    Calls Tryz.prog 5 #[.slice A m c, .int .i64 n, .int .i64 R, .int .i64 d, .int .i64 part] w (RBoostPost ss n R d part w) := by
  have hlen := h.len
  have hm60 : m ≤ 60 := by have := hs.most; omega
  have hm1 : 1 ≤ m := by have := hs.pos; omega
  have HS := hide hs
  have HL := hide hlen
  have cG : Hid (∀ W, Below w.heap.size w W → Calls Tryz.prog 17 #[.slice none 0 0, .slice A m c, .int .i64 n, .int .i64 0, .int .i64 1] W fun e w' => ∃ A' c', e = .returned (.slice A' 1 c') ∧ NOwn w' W.heap.size (.slice A' 1 c') (firstT ss) ∧ Below W.heap.size W w') := hide (fun W hB => by
    refine Calls.mono (rgrow_any n 1 (by omega) (by omega) 0 0 rfl (by omega) ss A m c [] (.slice none 0 0) W.heap.size W hs (fun w' hg => (h.below ((hB.trans ((only_of_below_none hg).mono hB.size)))).more (Nat.le_trans hB.size hg.size)) (NOwn.nil_ _ _) (Nat.le_refl _) (by simp [growK, Kt.size])) ?_
    rintro e w' ⟨v, rfl, ho, hg, _⟩
    obtain ⟨A', c', rfl, _, _⟩ := ho.slice
    exact ⟨A', c', rfl, ho, only_of_below_none hg⟩)
  have B0 := ((Bag.mk0 w).box_ 26 #[.int .i64 0, .int .i64 0, .slice none 0 0, .slice none 0 0]).box_ 26 #[.int .i64 n, .int .i64 2, .slice none 0 0, .slice none 0 0]
  rw [World.size_alloc] at B0
  have hl := leaf_v hs
  obtain ⟨fv, hfv⟩ : ∃ v, v = (leafG ss).v := ⟨_, rfl⟩
  rw [← hfv] at hl
  have HFV := hide hfv
  have HB1K : Hid (∀ s ∈ ss, -1000 ≤ s.t ∧ s.t ≤ 1000) := hide (fun s hm => ⟨hs.tlo s hm, hs.thi s hm⟩)
  clear hs hlen hfv
  go_enter Tryz.func5, Tryz.ntmps5
  go_wp2_with fail
  obtain ⟨W, hW⟩ : ∃ W, W = (w.alloc (.cells #[.int .i64 0, .int .i64 0, .slice none 0 0, .slice none 0 0] 26)).alloc (.cells #[.int .i64 n, .int .i64 2, .slice none 0 0, .slice none 0 0] 26) := ⟨_, rfl⟩
  rw [← hW] at B0 ⊢
  clear hW
  obtain ⟨g15, hg15⟩ : ∃ g, g = w.heap.size + 1 := ⟨_, rfl⟩
  rw [← hg15] at B0 ⊢
  clear hg15
  refine (unhide cG W B0.bel).mono ?_
  rintro e w2 ⟨A14, c14, rfl, ho2, hb2⟩
  have B2 := (((B0.addB hb2 ho2).nil1 3 1).nil1 48 1).nil1 3 1
  clear cG B0 ho2 hb2
  have BP := B2.push_ 48 1 1 [.slice A14 1 c14] rfl (by decide)
  have bk := (B2.blk _ (List.mem_cons_self ..)).1
  have k3 := bk.cell 3
  simp at k3
  clear B2 bk
  go_wp2_with (at_builtin; refine wpList_append_bag elem_trs BP rfl (.tmp 32) (.tmp 34) rfl 1 rfl rfl (List.mem_cons_self ..) rfl (fun u hu => by rw [List.mem_singleton.1 hu]; rfl) (by omega) ?_; intro A' c' w8 hB8; have bk8 := (hB8.blk _ (List.mem_cons_self ..)).1; have k38 := bk8.cell 3; have f38 := bk8.frozen 3; simp at k38)
  have B9 : BSt w (w8.setCell ⟨g15, 3, none⟩ (.slice A' 1 c')) w.heap.size n (.slice none 0 0) [] (.slice A' 1 c') (.slice none 0 0) 0 [(.slice A14 1 c14, firstT ss)] g15 w.heap.size :=
    (hB8.forget).store 0 3 (.slice A' 1 c') rfl
  clear BP hB8 bk8 k38 f38 k3
  refine wp_bst B9 fun X B4 => ?_
  clear B9
  have hBX := Bag.bel B4
  have hMX : MReads X X.heap.size A m ss := (h.below hBX).more hBX.size
  have htr : NReads X X.heap.size A14 1 (firstT ss) := Reads.of_own (Bag.has B4 (i := 3) (r := treeRow (.slice A14 1 c14, firstT ss)) rfl)
  have HB4 := hide B4
  clear B4
  go_loopw [13, 14] (fun v i wr => ∃ k : Nat, k ≤ m ∧ i = .int .i64 k ∧ Hid (IOwn wr X.heap.size v ((startBS ss).rest.take k)) ∧ Below X.heap.size X wr) (fun _ i _ => m - (intOf i).toNat)
  case atStart => exact ⟨0, Nat.zero_le _, rfl, hide (IOwn.nil_ _ _), Below.refl _ _⟩
  case round =>
    obtain ⟨k, hk, rfl, HO, hbel⟩ := hrel
    have hsz := hbel.size
    by_cases hlt : k < m
    · obtain ⟨b, o, s, rfl, hbb, hx, c0, c1, hok⟩ := (hMX.below hbel).get hlt
      obtain ⟨tb, to_, y, hA14, htb, hy, q0, q1, q2, q3, q4, q5⟩ := (htr.below hbel).get (k := 0) (by omega)
      have hyv : y.v = fv := by rw [unhide HFV]; have hy' : [leafG ss][0]? = some y := hy; simp at hy'; rw [hy']
      rw [hyv] at q5
      subst hA14
      have hsv := unhide HB1K s (List.mem_of_getElem? hx)
      have HN : Hid ((startBS ss).rest.take (k + 1) = (startBS ss).rest.take k ++ [s.t - fv]) := hide (by
        have := lessV_next (rest := ss.map (·.t)) (t := firstT ss) (ss := ss) (k := k) (y := s.t) (by rw [List.getElem?_map, hx]; rfl) hx
        rw [first_at (unhide HS), ← unhide HFV] at this
        exact this)
      obtain ⟨sA, sn, sc, sr, st⟩ := s
      dsimp only at c0 c1 HN hsv
      have hsv1 := hsv.1
      have hsv2 := hsv.2
      obtain ⟨L, hL⟩ : ∃ L, L = (startBS ss).rest.take k := ⟨_, rfl⟩
      have hLl : L.length = k := by rw [hL, List.length_take]; unfold startBS; rw [lessV_len (by simp), unhide HL]; omega
      rw [← hL] at HN HO
      have hoa0 : wr.ownsRow X.heap.size 3 1 _ L.length (L.map (Value.int .i64)) := unhide HO
      rw [hLl] at hoa0
      obtain ⟨A5, c5, hv5, _, _, _⟩ := own_slice hoa0
      subst hv5
      have hbA := hbel.alloc hsz (.cells #[.int .i64 (st - fv)] 3)
      have hnew := hide (Reads.new_ wr 1 1 [.int .i64 (st - fv)] 3 rfl)
      have hoa := hide (hoa0.alloc (.cells #[.int .i64 (st - fv)] 3))
      have hBw : X.heap.size ≤ (wr.alloc (.cells #[.int .i64 (st - fv)] 3)).heap.size := by rw [World.size_alloc]; omega
      have HC1 := hide (ints_oneCell .i64 [st - fv])
      obtain ⟨i0, hi0, hz0, hs0, hby0⟩ := info_parts (elem_int).info
      have hk1 : k + 1 ≤ maxLen := by unfold maxLen; omega
      have hk2 : (k + 1) * 8 ≤ 140737488355328 := by omega
      have hwr : IntKind.i64.wrap (st - fv) = st - fv := IntWalk.i64_in _ (by omega)
      have HLl := hide hLl
      have hk60 : k ≤ 60 := by omega
      clear hx hok hL HO hLl hy q0 q1 q2 q3 q4 hyv hsv
      go_wp2_with fail
      go_region_law (refine step_append_any _ rfl (.tmp 43) (.tmp 54) 23 rfl X.heap.size 3 i0 _ 1 8 (elem_int).und hi0 hz0 hs0 hby0 (elem_int).zs (elem_int).pos (.slice A5 k c5) k _ rfl (unhide hoa) _ _ 1 1 _ rfl (unhide hnew) (unhide HC1) hk1 hk2 hBw ?_
                     intro v12 w12 o12 g12 _)
      all_goals
        have hown3 : IOwn w12 X.heap.size v12 ((startBS ss).rest.take (k + 1)) := by
          rw [unhide HN]
          unfold IOwn
          rw [List.length_append, List.map_append, unhide HLl]
          exact o12
        clear o12
        go_wp2_with fail
        go_roundw
        case rel => exact ⟨k + 1, by omega, by go_num, hide hown3, below_grownR hbA g12 hBw (own_block_ge hoa0)⟩
        case measure => simp [intOf] <;> omega
    · obtain rfl : k = m := by omega
      have hsl : (startBS ss).rest.length = k := by unfold startBS; rw [lessV_len (by simp), unhide HL]
      rw [List.take_of_length_le (by rw [hsl]; exact Nat.le_refl _)] at HO
      obtain ⟨A16, c16, rfl, _, _, _, _⟩ := (unhide HO).slice_
      rw [hsl]
      have B7 : BSt w wr w.heap.size n (.slice A16 k c16) (startBS ss).rest (.slice A' 1 c') (.slice none 0 0) 0 [(.slice A14 1 c14, firstT ss)] g15 w.heap.size := by
        have h1 := Bag.addB (unhide HB4) hbel (unhide HO)
        rw [hsl] at h1
        have h2 := (h1.swap_).pop
        unfold BSt
        rw [hsl]
        exact h2
      clear HO hbel HB4 hMX htr hBX hsl
      go_upto_block 2 with (fail)
      go_cut [13] from 13 to 139 (fun s16 wx => ∃ (rest : List Int) (rv tv : Value) (ts : List (Value × List Nd)), Hid (ts.map (·.2) = (roundsB ss n d part R (startBS ss)).trees) ∧ Hid (∀ p ∈ ts, p.2.length ≤ 63 ∧ ∀ y ∈ p.2, -1000 ≤ y.v ∧ y.v ≤ 1000) ∧ ts.length ≤ 9 ∧ Hid (BSt w wx w.heap.size n rv rest tv (.slice none 0 0) 0 ts g15 w.heap.size))
      case first =>
        --{
        have HR0 : Hid (RSt ss n d part R 0 (startBS ss).rest [(.slice A14 1 c14, firstT ss)]) := hide (RSt.start (unhide HS))
        have HB7 := hide B7
        clear B7
        go_wp2_with fail
        go_loopw [13, 15] (fun v i wr => ∃ (kk : Nat) (rest : List Int) (tv : Value) (ts : List (Value × List Nd)), kk ≤ R ∧ i = .int .i64 kk ∧ Hid (RSt ss n d part R kk rest ts) ∧ Hid (BSt w wr w.heap.size n v rest tv (.slice none 0 0) 0 ts g15 w.heap.size)) (fun _ i _ => R - (intOf i).toNat)
        case atStart => exact ⟨0, _, _, _, Nat.zero_le _, rfl, HR0, HB7⟩
        case round =>
          clear HR0 HB7
          obtain ⟨kk, rest, tv, ts, hkk, rfl, HRS, HB⟩ := hrel
          by_cases hlk : kk < R
          · obtain ⟨w0, hw0⟩ : ∃ w0, w0 = wr := ⟨_, rfl⟩
            subst hw0
            have hB0 : BSt w w0 w.heap.size n _ rest tv (.slice none 0 0) 0 ts g15 w.heap.size := unhide HB
            have hbel := hB0.bel
            have hz0 := hbel.size
            have hrl : rest.length = k := by rw [(unhide HRS).len, unhide HL]
            have hro : IOwn w0 w.heap.size _ rest := hB0.has (i := 0) rfl
            obtain ⟨Ar, cr, hv16, hir, _, _, hzr⟩ := hro.slice_
            subst hv16
            rw [hrl] at hir ⊢
            have hM0 : MReads w0 w0.heap.size A k ss := (h.below hbel).more hz0
            clear hro HB
            have HB0 := hide hB0
            clear hB0
            go_wp2_with fail
            go_loopw [16, 17] (fun u i wr => ∃ j : Nat, j ≤ k ∧ i = .int .i64 j ∧ Hid (MOwn wr w0.heap.size u ((reS rest ss).take j)) ∧ Below w0.heap.size w0 wr) (fun _ i _ => k - (intOf i).toNat)
            case atStart => exact ⟨0, Nat.zero_le _, rfl, hide (MOwn.nil_ _ _), Below.refl _ _⟩
            case round =>
              obtain ⟨j, hj, rfl, HO, hbel1⟩ := hrel
              have hz1 := hbel1.size
              by_cases hlj : j < k
              · obtain ⟨b, o, y, hAr, hbb, hy, cy⟩ := (hir.below hbel1).get hlj
                obtain ⟨sb, so, s, hAs, hsb, hs, c0, c1, hok⟩ := (hM0.below hbel1).get hlj
                subst hAr hAs
                have HN := reS_next hy hs
                obtain ⟨sA, sn, sc, sr, st⟩ := s
                dsimp only at c0 c1 HN
                obtain ⟨L, hL⟩ : ∃ L, L = (reS rest ss).take j := ⟨_, rfl⟩
                have hal : L.length ≤ j := by rw [hL]; exact List.length_take_le _ _
                rw [← hL] at HN HO
                have hO : wr.ownsRow w0.heap.size 40 2 _ L.length (L.flatMap Sm.cells) := unhide HO
                clear hy hs hok hL HO
                by_cases h1 : 1000 < y
                · have hV : clipT y = 1000 := by unfold clipT; omega
                  rw [hV] at HN
                  have d1 : decide (1000 < y) = true := decide_eq_true h1
                  have HN2 := hide HN
                  clear hV HN h1
                  go_wp2_with (at_builtin; refine app_one elem_smp (.tmp 75) (.tmp 83) [.slice sA sn sc, .int .i64 1000] rfl rfl rfl hO rfl rfl rfl (smp_one _ _ _ _) (by omega) hz1 ?_; intro v2 w2 hown2 hb2 _ _)
                  go_wp2_with fail
                  go_roundw
                  case rel => exact ⟨j + 1, by omega, by go_num, hide (by rw [unhide HN2]; exact MOwn.app (s := ⟨sA, sn, sc, sr, 1000⟩) hown2), hbel1.trans hb2⟩
                  case measure => simp [intOf] <;> omega
                · by_cases h2 : y < -1000
                  · have hV : clipT y = (-1000) := by unfold clipT; omega
                    rw [hV] at HN
                    have d1 : decide (1000 < y) = false := decide_eq_false h1
                    have d2 : decide (y < -1000) = true := decide_eq_true h2
                    have HN2 := hide HN
                    clear hV HN h1 h2
                    go_wp2_with (at_builtin; refine app_one elem_smp (.tmp 75) (.tmp 83) [.slice sA sn sc, .int .i64 (-1000)] rfl rfl rfl hO rfl rfl rfl (smp_one _ _ _ _) (by omega) hz1 ?_; intro v2 w2 hown2 hb2 _ _)
                    go_wp2_with fail
                    go_roundw
                    case rel => exact ⟨j + 1, by omega, by go_num, hide (by rw [unhide HN2]; exact MOwn.app (s := ⟨sA, sn, sc, sr, (-1000)⟩) hown2), hbel1.trans hb2⟩
                    case measure => simp [intOf] <;> omega
                  · have hV : clipT y = y := by unfold clipT; omega
                    rw [hV] at HN
                    have d1 : decide (1000 < y) = false := decide_eq_false h1
                    have d2 : decide (y < -1000) = false := decide_eq_false h2
                    have HN2 := hide HN
                    clear hV HN h1 h2
                    go_wp2_with (at_builtin; refine app_one elem_smp (.tmp 75) (.tmp 83) [.slice sA sn sc, .int .i64 y] rfl rfl rfl hO rfl rfl rfl (smp_one _ _ _ _) (by omega) hz1 ?_; intro v2 w2 hown2 hb2 _ _)
                    go_wp2_with fail
                    go_roundw
                    case rel => exact ⟨j + 1, by omega, by go_num, hide (by rw [unhide HN2]; exact MOwn.app (s := ⟨sA, sn, sc, sr, y⟩) hown2), hbel1.trans hb2⟩
                    case measure => simp [intOf] <;> omega
              · obtain rfl : j = k := by omega
                have hrsl : (reS rest ss).length = j := by rw [reS_len (unhide HRS).len, unhide HL]
                rw [List.take_of_length_le (by rw [hrsl]; exact Nat.le_refl _)] at HO
                obtain ⟨wA, hwA⟩ : ∃ x, x = wr := ⟨_, rfl⟩
                subst hwA
                obtain ⟨A19, c19, hv19, _, _⟩ := (unhide HO).slice
                rw [hrsl] at hv19
                subst hv19
                have hsre := (unhide HS).re (unhide HRS).len
                have hbA := hbel.trans (hbel1.mono hz0)
                have hGT := growK_size n 1 d (reS rest ss)
                have hpow : 2 ^ (d + 1) ≤ 2 ^ 5 := Nat.pow_le_pow_right (by omega) (by omega)
                have hgr := hide (rgrow_any n 1 (by omega) (by omega) d d rfl (by omega) (reS rest ss) A19 j c19 [] (.slice none 0 0) wA.heap.size wA hsre (fun w' hg => by
                  have hb' := only_of_below_none hg
                  obtain ⟨A', c', e', hr', _⟩ := ((unhide HO).over hb').slice
                  injection e' with e1 _ _
                  subst e1
                  rw [hrsl] at hr'
                  refine ⟨hr', fun s hs => ?_⟩
                  obtain ⟨x, hx, r, rfl⟩ := reS_mem hs
                  have := ((hM0.2 x hx).below (hbel1.trans (hb'.mono hz1))).more (Nat.le_trans hz1 hb'.size)
                  exact ⟨this.reads, this.len⟩) (NOwn.nil_ _ _) (Nat.le_refl _) (by simp; omega))
                unfold GrowPost at hgr
                rw [List.nil_append, show ([] : List Nd).length = 0 from rfl] at hgr
                have hGv := growK_v0 (n := n) (least := 1) (d := d) (Nat.le_refl _) hsre
                have hGl := layK_len (growK n 1 d (reS rest ss)) 0
                have hRT : Hid (roundT ss n d part rest = (layK 0 (growK n 1 d (reS rest ss))).map (reV (shareV part))) := hide rfl
                obtain ⟨GT, hGTe⟩ : ∃ G, G = layK 0 (growK n 1 d (reS rest ss)) := ⟨_, rfl⟩
                rw [← hGTe] at hgr hGv hGl hRT
                obtain ⟨L, hLe⟩ : ∃ L, L = GT.length := ⟨_, rfl⟩
                have hL63 : L ≤ 63 := by omega
                have HLe := hide hLe
                have HGv := hide hGv
                clear hGT hpow hsre HO hrsl hGTe hGl hGv hLe
                have hgr1 : Hid (Calls Tryz.prog 17 #[.slice none 0 0, .slice A19 j c19, .int .i64 n, .int .i64 d, .int .i64 1] wA fun e w' => ∃ A' c', e = .returned (.slice A' L c') ∧ NOwn w' wA.heap.size (.slice A' L c') GT ∧ Below wA.heap.size wA w') := hide (by
                  refine Calls.mono (unhide hgr) ?_
                  rintro e w' ⟨v, rfl, ho, hg, _⟩
                  obtain ⟨A', c', rfl, _, _⟩ := ho.slice
                  rw [← unhide HLe] at ho ⊢
                  exact ⟨A', c', rfl, ho, only_of_below_none hg⟩)
                clear hgr
                go_wp2_with fail
                refine (unhide hgr1).mono ?_
                rintro e w5 ⟨A22, c22, rfl, ho22, hb22⟩
                clear hgr1
                go_wp2_with fail
                go_loopw [20] (fun i wr => ∃ q : Nat, q ≤ L ∧ i = .int .i64 q ∧ Hid (NOwn wr wA.heap.size (.slice A22 L c22) (halfV (shareV part) GT q)) ∧ Below wA.heap.size wA wr) (fun i _ => L - (intOf i).toNat)
                case atStart => exact ⟨0, Nat.zero_le _, rfl, hide (by unfold halfV; simpa using ho22), hb22⟩
                case round =>
                  clear ho22 hb22
                  obtain ⟨q, hq, rfl, HO, hbel2⟩ := hrel
                  have hz2 := hbel2.size
                  by_cases hlq : q < L
                  · obtain ⟨x, hx⟩ : ∃ x, GT[q]? = some x := ⟨_, List.getElem?_eq_getElem (by rw [← unhide HLe]; exact hlq)⟩
                    obtain ⟨hp1, hp2, hp3⟩ := halfV_parts (f := shareV part) hx
                    have hl1 : ((GT.take q).map (reV (shareV part)) ++ x :: GT.drop (q + 1)).length = L := by rw [← hp1, halfV_len, unhide HLe]
                    have hO := unhide HO
                    rw [hp1] at hO
                    obtain ⟨g, hA1, hgb, hgs, cx, fx⟩ := hO.at_ hl1 (k := q) (x := x) (by rw [List.getElem?_append_right (by omega), hp2, Nat.sub_self]; rfl) 5 (by omega)
                    subst hA1
                    have hxv := unhide HGv x (List.mem_of_getElem? hx)
                    have hst := hO.stored hl1 (y := reV (shareV part) x) 5 (.int .i64 (shareV part x.v)) (by omega) rfl
                    rw [hp2] at hst
                    obtain ⟨xv, hxve⟩ : ∃ v, v = x.v := ⟨_, rfl⟩
                    rw [← hxve] at hxv hst
                    have cx' : wr.cell? ⟨g, q * 6 + 5, none⟩ = some (.int .i64 xv) := by rw [hxve]; exact cx
                    have hsv : shareV part xv = (xv * part).tdiv 100 := rfl
                    rw [hsv] at hst
                    have hb1 := shareV_in a5 a6 hxv
                    have hpv : -1000000 ≤ xv * part ∧ xv * part ≤ 1000000 := by
                      have := tdiv_parts (xv * part) 100 (by omega)
                      rw [hsv] at hb1
                      omega
                    have HST : Hid (NOwn (wr.setCell ⟨g, q * 6 + 5, none⟩ (.int .i64 ((xv * part).tdiv 100))) wA.heap.size (.slice (some ⟨g, 0, none⟩) L c22) (halfV (shareV part) GT (q + 1))) := hide (by rw [hp3]; exact hst)
                    have hbn := hbel2.setCell (p := ⟨g, q * 6 + 5, none⟩) hgb (.int .i64 ((xv * part).tdiv 100))
                    have hp1' := hpv.1
                    have hp2' := hpv.2
                    clear hx hp1 hp2 hp3 hl1 hO hst HO cx hxve hb1 hsv hpv
                    go_wp2_with fail
                    go_roundw
                    case rel => exact ⟨q + 1, by omega, by go_num, HST, hbn⟩
                    case measure => simp [intOf] <;> omega
                  · obtain rfl : q = L := by omega
                    have hall2 : halfV (shareV part) GT q = roundT ss n d part rest := by
                      unfold halfV
                      rw [List.take_of_length_le (by rw [← unhide HLe]; exact Nat.le_refl _), List.drop_of_length_le (by rw [← unhide HLe]; exact Nat.le_refl _), List.append_nil, unhide hRT]
                    rw [hall2] at HO
                    have hTl : (roundT ss n d part rest).length = q := by rw [← hall2, halfV_len, unhide HLe]
                    obtain ⟨hTr, hTv⟩ := roundT_right (depth := d) (part := part) (unhide HS) (unhide HRS).len (by omega) a5 a6
                    obtain ⟨wB, hwB⟩ : ∃ x, x = wr := ⟨_, rfl⟩
                    subst hwB
                    have hB6 := hbel1.trans (hbel2.mono hz1)
                    have BagT := hide (Bag.addB (unhide HB0) hB6 (own_lowB (unhide HO) hz1))
                    obtain ⟨At', ct', et', hrt, _⟩ := (unhide HO).slice
                    rw [hTl] at hrt
                    have hAt : At' = A22 := by injection et' with e1 _ _; exact e1.symm
                    clear et'
                    subst hAt
                    have hir6 := (hir.below hB6).more hB6.size
                    have hM6 : MReads wB wB.heap.size A j ss := (hM0.below hB6).more hB6.size
                    have hNl : (lessV rest (roundT ss n d part rest) ss).length = j := by rw [lessV_len (unhide HRS).len, unhide HL]
                    have HNX := hide (fun (v : Value) (hq : ¬ squaresV rest ≤ squaresV (lessV rest (roundT ss n d part rest) ss)) => (unhide HRS).next (v := v) (unhide HS) hd4 a5 a6 hlk hq)
                    have HST := hide (fun (hq : squaresV rest ≤ squaresV (lessV rest (roundT ss n d part rest) ss)) => (unhide HRS).stop hlk hq)
                    obtain ⟨TT, hTT⟩ : ∃ T, T = roundT ss n d part rest := ⟨_, rfl⟩
                    rw [← hTT] at hTl BagT hNl HNX HST hrt hTr hTv
                    have HNN : Hid (∀ q2 y s, rest[q2]? = some y → ss[q2]? = some s → (lessV rest TT ss).take (q2 + 1) = (lessV rest TT ss).take q2 ++ [y - valAt TT (leafOf TT s.r)]) := hide (fun q2 y s h1 h2 => lessV_next h1 h2)
                    obtain ⟨NX, hNX⟩ : ∃ N, N = lessV rest TT ss := ⟨_, rfl⟩
                    rw [← hNX] at hNl HNX HST HNN
                    have HTl := hide hTl
                    have HTR := hide hTr
                    have HTV := hide hTv
                    have HNl := hide hNl
                    clear hall2 hTr hTv hTT hNX HO hRT hTl hir hNl
                    go_wp2_with fail
                    go_loopw [21, 22] (fun u i wr => ∃ z : Nat, z ≤ j ∧ i = .int .i64 z ∧ Hid (IOwn wr wB.heap.size u (NX.take z)) ∧ Below wB.heap.size wB wr) (fun _ i _ => j - (intOf i).toNat)
                    case atStart => exact ⟨0, Nat.zero_le _, rfl, hide (IOwn.nil_ _ _), Below.refl _ _⟩
                    case round =>
                      obtain ⟨z, hz, rfl, HO, hbel3⟩ := hrel
                      have hz3 := hbel3.size
                      by_cases hlz : z < j
                      · obtain ⟨b, o, y, hAr, hbb, hy, cy⟩ := (hir6.below hbel3).get hlz
                        obtain ⟨sb, so, s, hAs, hsb, hs, c0, c1, hok⟩ := (hM6.below hbel3).get hlz
                        subst hAr hAs
                        have hrd := hok.reads
                        have hsl := (unhide HS).len s (List.mem_of_getElem? hs)
                        have hsn : s.n = n := by rw [← hrd.len, hsl]
                        have HN := hide (unhide HNN z y s hy hs)
                        obtain ⟨x, hx, hxe, _, _⟩ := valAt_in (unhide HTR) s.r
                        have hxb := unhide HTV x (List.mem_of_getElem? hx)
                        rw [← hxe] at hxb
                        have hyb := (unhide HRS).bnd y (List.mem_of_getElem? hy)
                        have HC := hide (fun (W : World) (hB : Below wr.heap.size wr W) => rvalue_any At' s.A q c22 s.n s.c TT s.r W ((hrt.below (hbel3.trans (hB.mono hz3))).more (Nat.le_trans hz3 hB.size)) ((hrd.below (hB.mono hz3)).more (Nat.le_trans hz3 hB.size)) (by rw [hsn]; exact unhide HTR))
                        unfold valOf at HC
                        obtain ⟨xv, hxv⟩ : ∃ v, v = valAt TT (leafOf TT s.r) := ⟨_, rfl⟩
                        rw [← hxv] at hxb HN HC
                        obtain ⟨sA, sn, sc, sr, st⟩ := s
                        dsimp only at c0 c1 HC
                        have hwr : IntKind.i64.wrap (y - xv) = y - xv := IntWalk.i64_in _ (by omega)
                        obtain ⟨L2, hL2⟩ : ∃ L, L = NX.take z := ⟨_, rfl⟩
                        have hLl : L2.length = z := by rw [hL2, List.length_take, unhide HNl]; omega
                        rw [← hL2] at HN HO
                        have hoa0 : wr.ownsRow wB.heap.size 3 1 _ L2.length (L2.map (Value.int .i64)) := unhide HO
                        rw [hLl] at hoa0
                        obtain ⟨A5, c5, hv5, _, _, _⟩ := own_slice hoa0
                        subst hv5
                        have HC1 := hide (ints_oneCell .i64 [y - xv])
                        obtain ⟨i0, hi0, hz0', hs0, hby0⟩ := info_parts (elem_int).info
                        have hk1 : z + 1 ≤ maxLen := by unfold maxLen; omega
                        have hk2 : (z + 1) * 8 ≤ 140737488355328 := by omega
                        have HLl := hide hLl
                        have hz60 : z ≤ 60 := by omega
                        have HOA := hide hoa0
                        have hbw : b < wr.heap.size := by omega
                        clear hs hok hL2 HO hLl hy hx hxe hxv hxb hyb hsn hrd hsl hoa0
                        go_wp2_with fail
                        go_region_law (first
                          | (refine step_append_any _ rfl (.tmp 113) (.tmp 126) 23 rfl wB.heap.size 3 i0 _ 1 8 (elem_int).und hi0 hz0' hs0 hby0 (elem_int).zs (elem_int).pos (.slice A5 z c5) z _ rfl (unhide hoa) _ _ 1 1 _ rfl (unhide hnew) (unhide HC1) hk1 hk2 hBw ?_
                             intro v12 w12 o12 g12 _)
                          | (go_simp
                             go_at_call 18
                             refine (unhide HC _ ((Below.refl _ _).drew)).mono ?_
                             rintro e w1 ⟨rfl, hb1⟩
                             have n0 : w1.cell? ⟨b, o + z, none⟩ = some (.int .i64 y) := (hb1.cell (p := ⟨b, o + z, none⟩) hbw).trans cy
                             have hoa1 : w1.ownsRow wB.heap.size 3 1 (.slice A5 z c5) z (L2.map (Value.int .i64)) := own_over (w := wr.drew) (unhide HOA) hb1
                             have hoa := hide (World.ownsRow.alloc hoa1 (.cells #[.int .i64 (y - xv)] 3))
                             have hnew := hide (Reads.new_ w1 1 1 [.int .i64 (y - xv)] 3 rfl)
                             have hb3 : Below wB.heap.size wB w1 := hbel3.drew.trans (hb1.mono hz3)
                             have hBw : wB.heap.size ≤ (w1.alloc (.cells #[.int .i64 (y - xv)] 3)).heap.size := by rw [World.size_alloc]; have := hb3.size; omega))
                        all_goals
                          have hown3 : IOwn w12 wB.heap.size v12 (NX.take (z + 1)) := by
                            rw [unhide HN]
                            unfold IOwn
                            rw [List.length_append, List.map_append, unhide HLl]
                            exact o12
                          have hbE := (hb3.alloc hb3.size (.cells #[.int .i64 (y - xv)] 3)).grown g12 hBw (own_block_ge hoa1)
                          clear o12 g12 hoa hoa1 hnew hb1 n0
                          go_wp2_with fail
                          go_roundw
                          case rel => exact ⟨z + 1, by omega, by go_num, hide hown3, hbE⟩
                          case measure => simp [intOf] <;> omega
                      · obtain rfl : z = j := by omega
                        rw [List.take_of_length_le (by rw [unhide HNl]; exact Nat.le_refl _)] at HO
                        obtain ⟨w6, hw6⟩ : ∃ x, x = wr := ⟨_, rfl⟩
                        subst hw6
                        have B7 := hide ((unhide BagT).addB hbel3 (unhide HO))
                        obtain ⟨A24, c24, hv24, hr24, _, _, _⟩ := (unhide HO).slice_
                        rw [unhide HNl] at hv24 hr24
                        subst hv24
                        have hir7 := (hir6.below hbel3).more hz3
                        have hsq1 := hide (rsquares_any A24 z c24 NX w6 hr24 (by omega))
                        have hsq2 := hide (fun (W : World) (hB : Below w6.heap.size w6 W) => rsquares_any Ar z cr rest W ((hir7.below hB).more hB.size) (by omega))
                        obtain ⟨SN, hSN⟩ : ∃ S, S = squaresV NX := ⟨_, rfl⟩
                        obtain ⟨SR, hSR⟩ : ∃ S, S = squaresV rest := ⟨_, rfl⟩
                        rw [← hSN] at hsq1 HNX HST
                        rw [← hSR] at hsq2 HNX HST
                        clear BagT HO hr24 hir6 hir7 hSN hSR HNN
                        go_wp2_with fail
                        refine (unhide hsq1).mono ?_
                        rintro e w7 ⟨rfl, hb7⟩
                        clear hsq1
                        go_wp2_with fail
                        refine (unhide hsq2 w7 hb7).mono ?_
                        rintro e w7b ⟨rfl, hb7b⟩
                        have B7b := hide (((unhide B7).below hb7).below hb7b)
                        clear hsq2 B7 hb7 hb7b
                        by_cases hqq : SR ≤ SN
                        · have d1 : decide (SR ≤ SN) = true := decide_eq_true hqq
                          have HF := hide (unhide HST hqq)
                          clear HNX HST hqq
                          go_wp2_with fail
                          go_meet
                          case rel =>
                            have B8 := ((unhide B7b).pop).pop
                            exact ⟨rest, _, tv, ts, HF, hide (unhide HRS).tok, by have := (unhide HRS).cnt; omega, hide B8⟩
                        · have d1 : decide (SR ≤ SN) = false := decide_eq_false hqq
                          have HRN := hide (unhide HNX (.slice At' q c22) (by omega))
                          clear HNX HST hqq
                          have B8 := ((unhide B7b).perm perm5).pop
                          obtain ⟨Atv, ctv, hvt, _, _, _⟩ := own_slice (B8.has (i := 1) rfl)
                          dsimp only at hvt
                          subst hvt
                          rw [unhide HTl] at B8
                          have BP := B8.push_ 48 1 1 [.slice At' q c22] rfl (by decide)
                          have bk := (B8.blk _ (List.mem_cons_self ..)).1
                          have k3 := bk.cell 3
                          simp at k3
                          have hct := (unhide HRS).cnt
                          clear B7b B8 bk
                          go_wp2_with (at_builtin; refine wpList_append_bag elem_trs BP rfl (.tmp 135) (.tmp 137) rfl 1 rfl rfl (List.mem_cons_self ..) rfl (fun u hu => by rw [List.mem_singleton.1 hu]; rfl) (by omega) ?_; intro A' c' w8 hB8; have bk8 := (hB8.blk _ (List.mem_cons_self ..)).1; have k38 := bk8.cell 3; have f38 := bk8.frozen 3; simp at k38)
                          have B9 : BSt w (w8.setCell ⟨g15, 3, none⟩ (.slice A' (ts.length + 1) c')) w.heap.size n (.slice A24 NX.length c24) NX (.slice A' (ts.length + 1) c') (.slice none 0 0) 0 (ts ++ [(.slice At' q c22, TT)]) g15 w.heap.size := by
                            have h1 := (hB8.forget).store 0 3 (.slice A' (ts.length + 1) c') rfl
                            unfold BSt
                            rw [List.length_append, List.map_append, List.map_append]
                            rw [unhide HNl] at h1 ⊢
                            have e1 : [((.slice At' q c22, TT) : Value × List Nd)].map treeRow = [⟨51, 6, .slice At' q c22, q, TT.flatMap Nd.cells⟩] := by simp only [List.map_cons, List.map_nil, treeRow]; rw [unhide HTl]
                            rw [e1]
                            exact h1
                          rw [unhide HNl] at B9
                          have HB9 := hide B9
                          clear BP hB8 bk8 k38 f38 B9 k3
                          go_roundw
                          case rel => exact ⟨kk + 1, NX, _, _, by omega, by go_num, HRN, HB9⟩
                          case measure => simp [intOf] <;> omega
          · obtain rfl : kk = R := by omega
            have hct := (unhide HRS).cnt
            go_wp2_with fail
            go_meet
            case rel => exact ⟨rest, _, tv, ts, hide (unhide HRS).full, hide (unhide HRS).tok, by omega, HB⟩
        --}
      case rest =>
        obtain ⟨rest, rv, tv, ts, HTS, HTK, hcnt, HB⟩ := hcut
        have hB0 : BSt w wc w.heap.size n rv rest tv (.slice none 0 0) 0 ts g15 w.heap.size := unhide HB
        obtain ⟨Atv, ctv, hvt, _, _, _⟩ := own_slice (Bag.has hB0 (i := 1) rfl)
        dsimp only at hvt
        subst hvt
        obtain ⟨nT, hnT⟩ : ∃ x, x = ts.length := ⟨_, rfl⟩
        rw [← hnT] at hcnt
        have HB2 : Hid (BSt w wc w.heap.size n rv rest (.slice Atv nT ctv) (.slice none 0 0) 0 (endS nT ts 0) g15 w.heap.size) := hide (by rw [hnT]; unfold endS; simpa using hB0)
        have HNT := hide hnT
        clear hB0 hnT HB B7
        go_wp2_with fail
        go_loopw [23] (fun i wr => ∃ (u : Nat) (wv : Value), u ≤ nT ∧ i = .int .i64 u ∧ Hid (BSt w wr w.heap.size n rv rest (.slice Atv nT ctv) wv u (endS nT ts u) g15 w.heap.size)) (fun i _ => nT - (intOf i).toNat)
        case atStart => exact ⟨0, _, Nat.zero_le _, rfl, HB2⟩
        case round =>
          clear HB2
          obtain ⟨u, wv, hu, rfl, HB⟩ := hrel
          have hB := unhide HB
          have bkA := (hB.blk _ (List.mem_cons_self ..)).1
          have kA3 := bkA.cell 3
          simp at kA3
          clear bkA
          by_cases hlu : u < nT
          · obtain ⟨p, hp⟩ : ∃ p, ts[u]? = some p := ⟨_, List.getElem?_eq_getElem (by rw [← unhide HNT]; exact hlu)⟩
            have hfst := endS_fst nT ts u
            have hslen := endS_len nT ts u
            have hr1 := Bag.has hB (i := 1) rfl
            dsimp only at hr1
            rw [hfst, hslen, ← unhide HNT] at hr1
            obtain ⟨gT, oT, hAt, hgT, hcT⟩ := Reads.spot (Reads.of_own hr1) (by omega) (by omega)
            subst hAt
            obtain ⟨Awv, cwv, hwv, _, _, _⟩ := own_slice (Bag.has hB (i := 2) rfl)
            dsimp only at hwv
            subst hwv
            rw [endQ_0 hp] at hB
            have hpo := Bag.has hB (i := 3 + u) (r := treeRow (p.1, halfV (endF nT) p.2 0)) (by rw [show 3 + u = u + 1 + 1 + 1 by omega, List.getElem?_cons_succ, List.getElem?_cons_succ, List.getElem?_cons_succ]; exact endQ_at (by rw [← unhide HNT]; exact hlu))
            obtain ⟨Ap, cp, hpv, _, _, _⟩ := own_slice hpo
            dsimp only [treeRow] at hpv
            rw [halfV_len] at hpv
            have bk := (hB.blk _ (List.mem_cons_self ..)).1
            have k2 := bk.cell 2
            simp at k2
            have BP := hB.push_ 3 1 1 [.int .i64 1] rfl (by decide)
            have hpl := (unhide HTK p (List.mem_of_getElem? hp)).1
            obtain ⟨lp, hlp⟩ : ∃ l, l = p.2.length := ⟨_, rfl⟩
            rw [← hlp] at hpl
            have HLP := hide hlp
            have HPV := hide hpv
            have HP := hide hp
            clear hfst hslen hr1 hcT hpo bk HB hB hlp hpv hp
            go_wp2_with (at_builtin; refine wpList_append_bag elem_int BP rfl (.tmp 148) (.tmp 149) rfl 2 rfl rfl (List.mem_cons_self ..) rfl (fun u hu => by rw [List.mem_singleton.1 hu]; rfl) (by omega) ?_; intro A' c' w8 hB8; have bk8 := (hB8.blk _ (List.mem_cons_self ..)).1; have k28 := bk8.cell 2; have f28 := bk8.frozen 2; simp at k28)
            have B9 : BSt w (w8.setCell ⟨g15, 2, none⟩ (.slice A' (u + 1) c')) w.heap.size n rv rest (.slice (some ⟨gT, oT, none⟩) nT ctv) (.slice A' (u + 1) c') (u + 1) (endQ nT ts u p 0) g15 w.heap.size := by
              have h1 := (hB8.forget).store 0 2 (.slice A' (u + 1) c') rfl
              unfold BSt
              rw [List.replicate_succ']
              exact h1
            have HB9 := hide B9
            clear BP hB8 bk8 k28 f28 B9 k2 kA3
            go_loopw [24] (fun i wr => ∃ q : Nat, q ≤ lp ∧ i = .int .i64 q ∧ Hid (BSt w wr w.heap.size n rv rest (.slice (some ⟨gT, oT, none⟩) nT ctv) (.slice A' (u + 1) c') (u + 1) (endQ nT ts u p q) g15 w.heap.size)) (fun i _ => lp - (intOf i).toNat)
            case atStart => exact ⟨0, Nat.zero_le _, rfl, HB9⟩
            case round =>
              clear HB9
              obtain ⟨q, hq, rfl, HB⟩ := hrel
              have hBq : BSt w wr w.heap.size n rv rest (.slice (some ⟨gT, oT, none⟩) nT ctv) (.slice A' (u + 1) c') (u + 1) (endQ nT ts u p q) g15 w.heap.size := unhide HB
              have bk := (hBq.blk _ (List.mem_cons_self ..)).1
              have k3 := bk.cell 3
              simp at k3
              have hr1 := Bag.has hBq (i := 1) rfl
              dsimp only at hr1
              rw [(endQ_fst (unhide HP)).1, (endQ_fst (unhide HP)).2, ← unhide HNT] at hr1
              obtain ⟨gT', oT', hAt', hgT', hcT'⟩ := Reads.spot (Reads.of_own hr1) (by omega) (by omega)
              injection hAt' with hAt'
              injection hAt' with hAt1 hAt2
              subst hAt1 hAt2
              have cT := hcT' u p.1 (by rw [List.getElem?_map, unhide HP]; rfl)
              rw [unhide HPV, ← unhide HLP] at cT
              clear hr1 hcT' bk hBq
              by_cases hlq : q < lp
              · obtain ⟨x, hx⟩ : ∃ x, p.2[q]? = some x := ⟨_, List.getElem?_eq_getElem (by rw [← unhide HLP]; exact hlq)⟩
                obtain ⟨g, hAp, cx, fx, hBn⟩ := BSt.cur (unhide HB) (unhide HP) (unhide HPV) hx
                subst hAp
                have hxv := (unhide HTK p (List.mem_of_getElem? (unhide HP))).2 x (List.mem_of_getElem? hx)
                obtain ⟨xv, hxve⟩ : ∃ v, v = x.v := ⟨_, rfl⟩
                rw [← hxve] at hxv cx hBn
                obtain ⟨m1, m2⟩ := endF_in (nT := nT) hxv (by omega)
                obtain ⟨pv, hpv⟩ : ∃ v, v = xv * (nT : Int) := ⟨_, rfl⟩
                have hwr : IntKind.i64.wrap (xv * (nT : Int)) = pv := by rw [hpv]; exact IntWalk.i64_in _ (by omega)
                rw [← hpv] at m1 m2
                have hEF : endF nT xv = pv := by unfold endF capV; rw [← hpv]; omega
                have HBN : Hid (∀ z, BSt w ((wr.drewN z).setCell ⟨g, q * 6 + 5, none⟩ (.int .i64 pv)) w.heap.size n rv rest (.slice (some ⟨gT, oT, none⟩) nT ctv) (.slice A' (u + 1) c') (u + 1) (endQ nT ts u p (q + 1)) g15 w.heap.size) := hide (fun z => by
                  have := BSt.put (show BSt w (wr.drewN z) w.heap.size n rv rest (.slice (some ⟨gT, oT, none⟩) nT ctv) (.slice A' (u + 1) c') (u + 1) (endQ nT ts u p q) g15 w.heap.size from Bag.drewN (unhide HB) z) (unhide HP) (unhide HPV) hx
                  rw [← hxve, hEF] at this
                  exact this)
                have d1 : decide (1000000 < pv) = false := decide_eq_false (by omega)
                have d2 : decide (pv < -1000000) = false := decide_eq_false (by omega)
                have cx' : wr.cell? ⟨g, q * 6 + 5, none⟩ = some (.int .i64 xv) := cx
                have fx' : wr.frozen? ⟨g, q * 6 + 5, none⟩ = false := fx
                clear hx hxve hpv hEF hBn cx fx
                go_wp2_with fail
                go_quiet (fail)
                go_wp2_with fail
                go_roundw
                case rel => exact ⟨q + 1, by omega, by go_num, hide (unhide HBN _)⟩
                case measure => simp [intOf] <;> omega
              · obtain rfl : q = lp := by omega
                have HBE : Hid (BSt w wr w.heap.size n rv rest (.slice (some ⟨gT, oT, none⟩) nT ctv) (.slice A' (u + 1) c') (u + 1) (endS nT ts (u + 1)) g15 w.heap.size) := hide (by rw [← endQ_full (unhide HP), ← unhide HLP]; exact unhide HB)
                clear HB
                go_wp2_with fail
                go_roundw
                case rel => exact ⟨u + 1, _, by omega, by go_num, HBE⟩
                case measure => simp [intOf] <;> omega
          · obtain rfl : u = nT := by omega
            have hsl := endS_len u ts u
            have hend : (endS u ts u).map (·.2) = boostTrees ss n R d part := by
              unfold endS boostTrees
              rw [← unhide HTS, List.drop_of_length_le (by rw [← unhide HNT]; exact Nat.le_refl _), List.append_nil, List.take_of_length_le (by rw [← unhide HNT]; exact Nat.le_refl _), List.map_map, List.map_map, List.length_map, ← unhide HNT]
              rfl
            obtain ⟨TE, hTE⟩ : ∃ T, T = endS u ts u := ⟨_, rfl⟩
            rw [← hTE] at hB hsl hend
            rw [← unhide HNT] at hsl
            obtain ⟨Awv, cwv, hwv, _, _, _⟩ := own_slice (Bag.has hB (i := 2) rfl)
            dsimp only at hwv
            subst hwv
            have bk := (hB.blk _ (List.mem_cons_self ..)).1
            have bk2 := (hB.blk _ (List.mem_cons_of_mem _ (List.mem_cons_self ..))).1
            dsimp only at bk bk2
            have x0 := bk.cell 0; have x1 := bk.cell 1; have x2 := bk.cell 2; have x3 := bk.cell 3
            have y0 := bk2.cell 0; have y1 := bk2.cell 1; have y2 := bk2.cell 2; have y3 := bk2.cell 3
            have f0 := bk2.frozen 0; have f1 := bk2.frozen 1; have f2 := bk2.frozen 2; have f3 := bk2.frozen 3
            simp at x0 x1 x2 x3 y0 y1 y2 y3
            have BF := (((Bag.store hB 1 0 (.int .i64 n) rfl).store 1 1 (.int .i64 2) rfl).store 1 2 (.slice Awv u cwv) rfl).store 1 3 (.slice Atv u ctv) rfl
            dsimp only at BF
            have HBF := hide BF
            have HSL := hide hsl
            have HEND := hide hend
            clear HB bk bk2 hB BF hsl hend hTE kA3
            go_wp2_with fail
            refine bodyPost_nameB fun WF hWF => ?_
            rw [← hWF] at HBF
            clear hWF x0 x1 x2 x3 y0 y1 y2 y3 f0 f1 f2 f3
            have BF := unhide HBF
            have hown1 := Bag.has BF (i := 1) rfl
            have hown2 := Bag.has BF (i := 2) rfl
            dsimp only at hown1 hown2
            rw [unhide HSL] at hown1
            obtain ⟨trs, ht1, ht2, ht3⟩ := trs_low (w := WF) (base := w.heap.size) TE (fun p hp => by
              have := BF.own (treeRow p) (by simp [List.mem_map_of_mem hp])
              exact this)
            have hr1 := Reads.of_own hown1
            have hr2 := Reads.of_own hown2
            have hn1 := own_slice hown1
            have bF := (BF.blk _ (List.mem_cons_of_mem _ (List.mem_cons_self ..))).1
            have k0 := bF.cell 0
            have k1 := bF.cell 1
            have k2 := bF.cell 2
            have k3 := bF.cell 3
            simp at k0 k1 k2 k3
            refine bodyPost_ret (v := .agg #[.int .i64 n, .int .i64 2, .slice Awv u cwv, .slice Atv u ctv]) (by simp [results, Tryz.results5, go_sem, k0, k1, k2, k3]) rfl ?_
            have hf : (⟨(n : Int), 2, Awv, u, cwv, List.replicate u 1, Atv, u, ctv, trs⟩ : Gv).trees = boostTrees ss n R d part := by
              unfold Gv.trees
              rw [ht2]
              exact unhide HEND
            have hul : u ≤ maxLen := by unfold maxLen; omega
            refine ⟨⟨n, 2, Awv, u, cwv, List.replicate u 1, Atv, u, ctv, trs⟩, rfl, ⟨?_, ?_, hul, hul, ht3⟩, BF.bel, rfl, rfl, hf, ?_⟩
            · dsimp only
              rw [List.map_replicate]
              exact hown2
            · dsimp only
              rw [ht1]; exact hown1
            · have := congrArg List.length (unhide HEND)
              rw [List.length_map, unhide HSL] at this
              rw [hf, ← this]
end Go.Proofs.YtdpijhnbhopnbaaGreatDoor
