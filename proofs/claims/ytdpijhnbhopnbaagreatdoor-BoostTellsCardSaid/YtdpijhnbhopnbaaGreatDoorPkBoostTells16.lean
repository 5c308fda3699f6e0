/- Part 16 of what LawBoostTells needs: BoostS, Bag. Conditions: as each lemma names. -/
import Derived.Test.YtdpijhnbhopnbaaGreatDoorPkBoostTells12
import Derived.Test.YtdpijhnbhopnbaaGreatDoorPkBoostTells14
import Derived.Test.YtdpijhnbhopnbaaGreatDoorPkBoostTells13
import Derived.Test.YtdpijhnbhopnbaaGreatDoorPkBoostTells15
import Derived.Deep.RegionHeld3
/- Package boost: a copy of samples, squares, less. Conditions: what is read reads as data. -/
namespace Go.Proofs.YtdpijhnbhopnbaaGreatDoor
set_option linter.unusedVariables false
set_option linter.unusedSimpArgs false
open Go.RowKit

theorem wp_nameB {P : Program} {c : Code} {Q : Exit → Act → World → Prop} {a : Act} {W : World} (h : ∀ X, X = W → Code.wp P c Q a X) : Code.wp P c Q a W := h W rfl
theorem smps_one (ss : List Sm) : ∀ u ∈ ss.flatMap Sm.cells, u.oneCell' = true := by
  intro u hu
  obtain ⟨s, _, hu⟩ := List.mem_flatMap.1 hu
  exact smp_one s.A s.n s.c s.t u hu

set_option maxRecDepth 100000 in
theorem cloneM_any (A : Option Addr) (n c : Nat) (ss : List Sm) (w : World) (hr : MReads w w.heap.size A n ss) (h0 : 0 < n) (hn : n ≤ 60) :
    Calls Tryz.prog 22 #[.slice A n c] w fun e w' => ∃ v, e = .returned v ∧ MOwn w' w.heap.size v ss ∧ Below w.heap.size w w' := by
  have hl := hr.len
  obtain ⟨b, off, _, rfl, _⟩ := hr.get h0
  have hq := fun (W : World) => Lib.run_eql_slice_nil (P := Tryz.prog) W 22 40 (some ⟨b, off, none⟩) n c 0 0 Tryz.underlying22
  have hown0 := own_new (w := w) (B := w.heap.size) [] 40 2 0 rfl (by decide) (Nat.le_refl _)
  have hra := Reads.alloc hr.1 (Nat.le_refl _) (.cells #[] 40)
  go_enter Tryz.func22, Tryz.ntmps22
  go_wp2_with (at_builtin; refine app_many elem_smp (.tmp 5) (.tmp 6) rfl rfl rfl hown0 rfl hra (smps_one ss) (by omega) (by rw [World.size_alloc]; omega) ?_; intro v2 w2 hown2 hb2 _)
  go_ret
  refine ⟨v2, rfl, ?_, ((Below.refl _ _).alloc (Nat.le_refl _) _).trans hb2⟩
  unfold MOwn
  rw [hl]
  simpa using hown2

set_option maxRecDepth 100000 in
set_option maxHeartbeats 1000000 in
theorem squares_any (A : Option Addr) (n c B : Nat) (l : List Int) (w : World) (hr : IReads w B A n l) (hn : n ≤ maxLen) :
    Calls Tryz.prog 23 #[.slice A n c] w fun e w' => e = .returned (.int .i64 (squaresV l)) ∧ w = w' := by
  unfold maxLen at hn
  have hl := hr.len
  have HT : Hid (l.take n = l) := hide (List.take_of_length_le (by omega))
  clear hl
  go_enter Tryz.func23, Tryz.ntmps23
  go_wp2_with fail
  go_loop [3, 8] (fun s i => ∃ k : Nat, k ≤ n ∧ s = .int .i64 (squaresV (l.take k)) ∧ i = .int .i64 k) (fun _ i => n - (intOf i).toNat)
  case atStart => exact ⟨0, Nat.zero_le _, rfl, rfl⟩
  case round =>
    obtain ⟨k, hk, rfl, rfl⟩ := hrel
    by_cases hlt : k < n
    · obtain ⟨b, o, x, rfl, _, hx, cx⟩ := hr.get hlt
      have HN := hide (squaresV_next hx)
      obtain ⟨S, hS⟩ : ∃ S, S = squaresV (l.take k) := ⟨_, rfl⟩
      rw [← hS] at HN ⊢
      clear hx hS
      go_wp2_with fail
      refine (mul_any x x _).mono ?_
      rintro e w1 ⟨rfl, rfl⟩
      go_wp2_with fail
      refine (add_any2 S (mulV x x) _).mono ?_
      rintro e w1 ⟨rfl, rfl⟩
      go_wp2_with fail
      go_round
      case rel => exact ⟨k + 1, by omega, by rw [unhide HN], by go_num⟩
      case measure => simp [intOf]; omega
    · obtain rfl : k = n := by omega
      rw [unhide HT]
      go_wp2_with fail
      go_ret
      exact ⟨rfl, rfl⟩

/-- half way -/
def halfLess (rest : List Int) (t : List Nd) (ss : List Sm) (k : Nat) : List Int := (lessV rest t ss).take k ++ rest.drop k
theorem halfLess_len {rest : List Int} {t : List Nd} {ss : List Sm} (h : rest.length = ss.length) (k : Nat) : (halfLess rest t ss k).length = rest.length := by
  unfold halfLess
  rw [List.length_append, List.length_take, List.length_drop, lessV_len h]
  omega
theorem halfLess_at {rest : List Int} {t : List Nd} {ss : List Sm} (h : rest.length = ss.length) {k : Nat} {x : Int} (hx : rest[k]? = some x) : (halfLess rest t ss k)[k]? = some x := by
  have hk := (List.getElem?_eq_some_iff.1 hx).1
  unfold halfLess
  rw [List.getElem?_append_right (by rw [List.length_take]; omega), List.length_take, lessV_len h, List.getElem?_drop]
  rw [show k + (k - min k ss.length) = k by omega]
  exact hx
theorem halfLess_set {rest : List Int} {t : List Nd} {ss : List Sm} (h : rest.length = ss.length) {k : Nat} {x : Int} {s : Sm} (hx : rest[k]? = some x) (hs : ss[k]? = some s) : (halfLess rest t ss k).set k (x - valAt t (leafOf t s.r)) = halfLess rest t ss (k + 1) := by
  have hk := (List.getElem?_eq_some_iff.1 hx).1
  have hv : (lessV rest t ss)[k]? = some (x - valAt t (leafOf t s.r)) := by unfold lessV; rw [List.getElem?_zipWith, hx, hs]
  have hl : ((lessV rest t ss).take k).length = k := by rw [List.length_take, lessV_len h]; omega
  unfold halfLess
  rw [List.set_append_right _ _ (by omega), hl, Nat.sub_self, drop_at hx, List.set_cons_zero, take_next hv]
  simp
theorem valAt_in {t : List Nd} {n : Nat} (h : Right t n) (r : List Int) : ∃ x, t[leafOf t r]? = some x ∧ valAt t (leafOf t r) = x.v ∧ -1000000 ≤ x.v ∧ x.v ≤ 1000000 := by
  have hlt : leafOf t r < t.length := leafFrom_lt h.behind _ _ h.pos
  refine ⟨_, List.getElem?_eq_getElem hlt, ?_, ?_⟩
  · unfold valAt
    rw [List.getElem?_eq_getElem hlt]
  · have := node_of (h.node _ _ (List.getElem?_eq_getElem hlt))
    omega

set_option maxRecDepth 100000 in
set_option maxHeartbeats 4000000 in
theorem less_any (A C D : Option Addr) (n c m d k q fe : Nat) (rest : List Int) (t : List Nd) (ss : List Sm) (w : World) (hr : IReads w w.heap.size A n rest) (ht : NReads w w.heap.size C m t) (hs : MReads w w.heap.size D k ss) (hR : Right t fe) (hS : SRight ss fe) (hnk : n = k) (hA : A = none → c = 0)
    (hb : ∀ x ∈ rest, -100000000 ≤ x ∧ x ≤ 100000000) :
    Calls Tryz.prog 21 #[.slice A n c, .slice C m d, .slice D k q] w fun e w' => ∃ v, e = .returned v ∧ IOwn w' w.heap.size v (lessV rest t ss) ∧ Below w.heap.size w w' := by
  subst hnk
  have hrl := hr.len
  have hsl := hs.len
  have hml := ht.len
  have hn60 : n ≤ 60 := by have := hS.most; omega
  have hm63 : m ≤ 63 := by have := hR.most; omega
  have hm0 : 0 < m := by have := hR.pos; omega
  have HEQ : Hid (rest.length = ss.length) := hide (by omega)
  have HCl := hide (cloneI_any A n c w.heap.size rest w hr (Nat.le_refl _) (by omega) hA)
  unfold IPost at HCl
  have HRL := hide hrl
  have HML := hide hml
  have HR := hide hR
  have HS := hide hS
  have HB := hide hb
  clear hrl hsl hml hR hS hb hr
  go_enter Tryz.func21, Tryz.ntmps21
  go_wp2_with fail
  refine (unhide HCl).mono ?_
  rintro e w1 ⟨v1, rfl, ho1, hb1⟩
  obtain ⟨A1, c1, rfl, _, _, _, _⟩ := ho1.slice_
  rw [unhide HRL] at ho1 ⊢
  clear HCl
  go_wp2_with fail
  go_loopw [13] (fun i wr => ∃ j : Nat, j ≤ n ∧ i = .int .i64 j ∧ Hid (IOwn wr w.heap.size (.slice A1 n c1) (halfLess rest t ss j)) ∧ Below w.heap.size w wr) (fun i _ => n - (intOf i).toNat)
  case atStart => exact ⟨0, Nat.zero_le _, rfl, hide (by unfold halfLess; simpa using ho1), hb1⟩
  case round =>
    clear ho1 hb1
    obtain ⟨j, hj, rfl, HO, hbel⟩ := hrel
    have hsz := hbel.size
    by_cases hlt : j < n
    · obtain ⟨b, o, s, hD, hbb, hx, c0, c1', hok⟩ := (hs.below hbel).get hlt
      subst hD
      obtain ⟨y, hy⟩ : ∃ y, rest[j]? = some y := ⟨_, List.getElem?_eq_getElem (by rw [unhide HRL]; exact hlt)⟩
      have hyb := unhide HB y (List.mem_of_getElem? hy)
      have hl1 : (halfLess rest t ss j).length = n := by rw [halfLess_len (unhide HEQ), unhide HRL]
      obtain ⟨g, hA1, hgb, hgs, cy, fy⟩ := IOwn.at_ (unhide HO) hl1 (halfLess_at (unhide HEQ) hy)
      subst hA1
      have hrl2 := (unhide HS).len s (List.mem_of_getElem? hx)
      obtain ⟨x, hxt, hxv, v1, v2⟩ := valAt_in (unhide HR) s.r
      have HN := hide (halfLess_set (t := t) (unhide HEQ) hy hx)
      rw [hxv] at HN
      have hrd := hok.reads
      have hlf : leafOf t s.r < m := by have := (List.getElem?_eq_some_iff.1 hxt).1; have := unhide HML; omega
      have HC := hide (fun (W : World) (hB : Below w.heap.size w W) (hr' : IReads W W.heap.size s.A s.n s.r) => walk_any C s.A m d s.n s.c t s.r W ((ht.below hB).more hB.size) hr' hm0 hm63 (by have h1 := (unhide HR).fe8; have h2 := hrd.len; omega) (unhide HR).behind (by rw [← hrd.len, hrl2]; exact (unhide HR).asks))
      obtain ⟨lf, hlfe⟩ : ∃ v, v = leafOf t s.r := ⟨_, rfl⟩
      rw [← hlfe] at HC hlf hxt
      obtain ⟨tb, to_, z, hC, htb, hz, y0, y1, y2, y3, y4, y5⟩ := ht.get hlf
      rw [hxt] at hz
      injection hz with hz
      subst hz
      subst hC
      obtain ⟨xv, hxve⟩ : ∃ v, v = x.v := ⟨_, rfl⟩
      rw [← hxve] at v1 v2 HN y5
      have hsn : s.n ≤ maxLen := hok.len
      obtain ⟨sA, sn, sc, sr, st⟩ := s
      dsimp only at c0 c1' HC hrd hsn
      unfold maxLen at hsn
      have hsub : IntKind.i64.wrap (y - xv) = y - xv := IntWalk.i64_in _ (by omega)
      clear hok hxv hxve hrl2 hlfe hxt y0 y1 y2 y3 y4
      go_upto_region 5 with (fail)
      refine wp_nameB fun X hX => ?_
      have bX : Blk X wr.heap.size 40 #[.slice sA sn sc, .int .i64 st] := by rw [hX]; exact Blk.new _ _ _
      have hBX : Below w.heap.size w X := by rw [hX]; exact hbel.alloc hsz _
      have hrX : IReads X X.heap.size sA sn sr := by rw [hX]; exact (Reads.alloc hrd hsz _).more (by rw [World.size_alloc]; omega)
      have HOX : Hid (IOwn X w.heap.size (.slice (some ⟨g, 0, none⟩) n c1) (halfLess rest t ss j)) := hide (by rw [hX]; exact (unhide HO).alloc _)
      have hgX := bX.lt
      have cyX : X.cell? ⟨g, j, none⟩ = some (.int .i64 y) := by rw [hX]; exact cell_alloc cy hgs _
      have fyX : X.frozen? ⟨g, j, none⟩ = false := (IOwn.at_ (unhide HOX) hl1 (halfLess_at (unhide HEQ) hy)).elim fun g' h => by
        obtain ⟨e, _, _, _, f⟩ := h
        injection e with e
        injection e with e
        subst e
        exact f
      have hgXs : g < X.heap.size := by rw [hX, World.size_alloc]; omega
      have hrXd : IReads X.drew X.drew.heap.size sA sn sr := show Reads X.drew X.heap.size 1 sA sn (sr.map (Value.int .i64)) from Reads.drew (show Reads X X.heap.size 1 sA sn (sr.map (Value.int .i64)) from hrX)
      have y5X : X.cell? ⟨tb, to_ + lf * 6 + 5, none⟩ = some (.int .i64 xv) := (hBX.cell (p := ⟨tb, to_ + lf * 6 + 5, none⟩) htb).trans y5
      have z0 := bX.cell 0
      simp at z0
      clear hX hrd c0 c1' cy fy
      obtain ⟨g2, hg2⟩ : ∃ g, g = wr.heap.size := ⟨_, rfl⟩
      rw [← hg2] at bX z0 hgX ⊢
      clear hg2
      have HXH := hide hx
      have HYH := hide hy
      clear hx hy HO
      go_region_law (first
        | (go_simp
           go_at_call 44
           refine (unhide HC _ hBX.drew hrXd).mono ?_
           rintro e w5 ⟨rfl, hb5⟩
           have n0 : w5.cell? ⟨g2, 0, none⟩ = some (.slice sA sn sc) := (hb5.cell (p := ⟨g2, 0, none⟩) hgX).trans z0
           have n1 : w5.cell? ⟨g, j, none⟩ = some (.int .i64 y) := (hb5.cell (p := ⟨g, j, none⟩) hgXs).trans cyX
           have n5 : w5.cell? ⟨tb, to_ + lf * 6 + 5, none⟩ = some (.int .i64 xv) := (hb5.cell (p := ⟨tb, to_ + lf * 6 + 5, none⟩) (Nat.lt_of_lt_of_le htb hBX.size)).trans y5X
           have nf : w5.frozen? ⟨g, j, none⟩ = false := (hb5.frozen (p := ⟨g, j, none⟩) hgXs).trans fyX))
      all_goals
        have hBE : Below w.heap.size w (w5.setCell ⟨g, j, none⟩ (.int .i64 (y - xv))) := (hBX.drew.trans (hb5.mono hBX.size)).setCell (p := ⟨g, j, none⟩) hgb _
        have hOE : Hid (IOwn (w5.setCell ⟨g, j, none⟩ (.int .i64 (y - xv))) w.heap.size (.slice (some ⟨g, 0, none⟩) n c1) (halfLess rest t ss (j + 1))) := hide (by
          have h1 : IOwn w5 w.heap.size (.slice (some ⟨g, 0, none⟩) n c1) (halfLess rest t ss j) := (unhide HOX).drew.below hb5 (Nat.le_refl _)
          have h2 := h1.stored hl1 j (y - xv)
          rw [unhide HN] at h2
          exact h2)
        clear hb5 n0 n1 n5 nf HC hsub
        go_wp2_with fail
        go_roundw
        case rel => exact ⟨j + 1, by omega, by go_num, hOE, hBE⟩
        case measure => simp [intOf]; omega
    · obtain rfl : j = n := by omega
      have hall : halfLess rest t ss j = lessV rest t ss := by
        unfold halfLess
        rw [List.take_of_length_le (by rw [lessV_len (unhide HEQ), ← unhide HEQ, unhide HRL]; exact Nat.le_refl _), List.drop_of_length_le (by rw [unhide HRL]; exact Nat.le_refl _), List.append_nil]
      rw [hall] at HO
      go_wp2_with fail
      go_ret
      exact ⟨_, rfl, unhide HO, hbel⟩
end Go.Proofs.YtdpijhnbhopnbaaGreatDoor
/- Rows of the call's own that lie apart, beside blocks of the call's own: what becomes of them all at an allocation, an append, a store. Conditions: as each lemma names. -/
namespace Go.Proofs.YtdpijhnbhopnbaaGreatDoor
set_option linter.unusedVariables false
set_option linter.unusedSimpArgs false
open Go.RowKit

theorem own_under {w w' : World} {base : Nat} {e : TypeId} {size n : Nat} {v : Value} {xs : List Value} (h : w.ownsRow base e size v n xs) (hb : Below w.heap.size w w') : w'.ownsRow base e size v n xs := by
  refine ⟨h.1, ?_⟩
  rcases h.2 with hn | ⟨g, cap, cur, rfl, hg, hh, rest⟩
  · exact .inl hn
  · exact .inr ⟨g, cap, cur, rfl, hg, (hb.block g (Array.getElem?_eq_some_iff.1 hh).1).trans hh, rest⟩

/-- a row of the call's own -/
structure BRow where
  e : TypeId
  z : Nat
  v : Value
  n : Nat
  xs : List Value
/-- a block known whole -/
structure Bk where
  g : Nat
  t : TypeId
  cs : Array Value
def farB (e : TypeId) (bs : List Bk) : Bool := bs.all fun b => e != b.t
def farR (t : TypeId) (rs : List BRow) : Bool := rs.all fun r => r.e != t
structure Bag (w0 w : World) (base : Nat) (rs ps : List BRow) (bs : List Bk) : Prop where
  own : ∀ r ∈ rs ++ ps, w.ownsRow base r.e r.z r.v r.n r.xs
  apart : (rs ++ ps).Pairwise fun r s => Apart r.v s.v
  blk : ∀ b ∈ bs, Blk w b.g b.t b.cs ∧ base ≤ b.g
  ne : ∀ r ∈ rs ++ ps, ∀ b ∈ bs, r.v.ownBlock ≠ some b.g
  bne : bs.Pairwise fun a b => a.g ≠ b.g
  low : base ≤ w.heap.size
  bel : Below base w0 w
section
variable {w0 w w' : World} {base : Nat} {rs ps : List BRow} {bs : List Bk}
theorem far_ne {e : TypeId} {b : Bk} (h : farB e bs = true) (hb : b ∈ bs) : e ≠ b.t := by
  unfold farB at h
  have := List.all_eq_true.1 h b hb
  simpa using this
theorem Bag.drew (h : Bag w0 w base rs ps bs) : Bag w0 w.drew base rs ps bs := ⟨h.own, h.apart, h.blk, h.ne, h.bne, h.low, h.bel.drew⟩
theorem Bag.drewN (h : Bag w0 w base rs ps bs) (n : Nat) : Bag w0 (w.drewN n) base rs ps bs := ⟨h.own, h.apart, h.blk, h.ne, h.bne, h.low, below_drewN h.bel n⟩
theorem Bag.alloc (h : Bag w0 w base rs ps bs) (o : Obj) : Bag w0 (w.alloc o) base rs ps bs :=
  ⟨fun r hr => (h.own r hr).alloc o, h.apart, fun b hb => ⟨(h.blk b hb).1.alloc o, (h.blk b hb).2⟩, h.ne, h.bne, by rw [World.size_alloc]; exact Nat.le_succ_of_le h.low, h.bel.alloc h.low o⟩
theorem Bag.below (h : Bag w0 w base rs ps bs) (hb : Below w.heap.size w w') : Bag w0 w' base rs ps bs :=
  ⟨fun r hr => own_under (h.own r hr) hb, h.apart, fun b hb' => ⟨(h.blk b hb').1.below hb (h.blk b hb').1.lt, (h.blk b hb').2⟩, h.ne, h.bne, Nat.le_trans h.low hb.size, h.bel.trans (hb.mono h.low)⟩
/-- nothing pending -/
theorem Bag.forget (h : Bag w0 w base rs ps bs) : Bag w0 w base rs [] bs :=
  ⟨fun r hr => h.own r (List.mem_append_left _ (by simpa using hr)), by simpa using (List.pairwise_append.1 h.apart).1, h.blk, fun r hr => h.ne r (List.mem_append_left _ (by simpa using hr)), h.bne, h.low, h.bel⟩
/-- a fresh row pending -/
theorem Bag.push_ (h : Bag w0 w base rs ps bs) (e : TypeId) (z n : Nat) (cs : List Value) (hc : cs.length = n * z) (hn : n ≤ maxLen) :
    Bag w0 (w.alloc (.cells cs.toArray e)) base rs (⟨e, z, .slice (some ⟨w.heap.size, 0, none⟩) n n, n, cs⟩ :: ps) bs := by
  have h1 := h.alloc (.cells cs.toArray e)
  have hfr : ∀ r ∈ rs ++ ps, Apart r.v (.slice (some ⟨w.heap.size, 0, none⟩) n n) := fun r hr k hk e => by
    have := ((h.own r hr).lt k hk).2
    simp [Value.ownBlock] at e
    omega
  have hmem : ∀ r, r ∈ rs ++ (⟨e, z, .slice (some ⟨w.heap.size, 0, none⟩) n n, n, cs⟩ :: ps) → r = ⟨e, z, .slice (some ⟨w.heap.size, 0, none⟩) n n, n, cs⟩ ∨ r ∈ rs ++ ps := fun r hr => by
    simp only [List.mem_append, List.mem_cons] at hr ⊢
    rcases hr with hr | hr | hr
    · exact .inr (.inl hr)
    · exact .inl hr
    · exact .inr (.inr hr)
  refine ⟨fun r hr => ?_, ?_, h1.blk, fun r hr => ?_, h1.bne, h1.low, h1.bel⟩
  · rcases hmem r hr with rfl | hr
    · exact ⟨hc, .inr ⟨w.heap.size, n, cs.toArray, rfl, h.low, heap_alloc_new w _, Nat.le_refl _, hn, by simpa using hc, by rw [List.take_of_length_le (by simp [hc])]⟩⟩
    · exact h1.own r hr
  · have ha := List.pairwise_append.1 h.apart
    refine List.pairwise_append.2 ⟨ha.1, List.pairwise_cons.2 ⟨fun s hs => (hfr s (List.mem_append_right _ hs)).symm, ha.2.1⟩, fun r hr s hs => ?_⟩
    rcases List.mem_cons.1 hs with rfl | hs
    · exact hfr r (List.mem_append_left _ hr)
    · exact ha.2.2 r hr s hs
  · rcases hmem r hr with rfl | hr
    · intro b hb e
      have := (h.blk b hb).1.lt
      simp [Value.ownBlock] at e
      omega
    · exact h.ne r hr
theorem Bag.push (h : Bag w0 w base rs ps bs) (e : TypeId) (z n : Nat) (cs : List Value) (hc : cs.length = n * z) (hn : n ≤ maxLen) (hf : farB e bs = true) :
    Bag w0 (w.alloc (.cells cs.toArray e)) base rs (⟨e, z, .slice (some ⟨w.heap.size, 0, none⟩) n n, n, cs⟩ :: ps) bs := h.push_ e z n cs hc hn
/-- a nil row more -/
theorem Bag.nil1 (h : Bag w0 w base rs ps bs) (e : TypeId) (z : Nat) : Bag w0 w base (⟨e, z, .slice none 0 0, 0, []⟩ :: rs) ps bs := by
  refine ⟨fun r hr => ?_, ?_, h.blk, fun r hr => ?_, h.bne, h.low, h.bel⟩
  · rcases List.mem_cons.1 hr with rfl | hr
    · exact World.ownsRow_nil _ _ _ _
    · exact h.own r hr
  · exact List.pairwise_cons.2 ⟨fun s _ => Apart.nil_ _ _ _, h.apart⟩
  · rcases List.mem_cons.1 hr with rfl | hr
    · intro b _ e
      simp [Value.ownBlock] at e
    · exact h.ne r hr
theorem Bag.nil_ (h : Bag w0 w base rs ps bs) (e : TypeId) (z : Nat) (hf : farB e bs = true) : Bag w0 w base (⟨e, z, .slice none 0 0, 0, []⟩ :: rs) ps bs := h.nil1 e z
/-- what was pending stays as a row -/
theorem Bag.take (h : Bag w0 w base rs ps bs) (q : BRow) (hq : q ∈ ps) : Bag w0 w base (q :: rs) [] bs := by
  have ha := List.pairwise_append.1 h.apart
  refine ⟨fun r hr => ?_, ?_, h.blk, fun r hr => ?_, h.bne, h.low, h.bel⟩
  · simp only [List.append_nil] at hr
    rcases List.mem_cons.1 hr with rfl | hr
    · exact h.own _ (List.mem_append_right _ hq)
    · exact h.own _ (List.mem_append_left _ hr)
  · rw [List.append_nil]
    exact List.pairwise_cons.2 ⟨fun s hs => (ha.2.2 s hs q hq).symm, ha.1⟩
  · simp only [List.append_nil] at hr
    rcases List.mem_cons.1 hr with rfl | hr
    · exact h.ne _ (List.mem_append_right _ hq)
    · exact h.ne _ (List.mem_append_left _ hr)
/-- a box more -/
theorem Bag.box_ (h : Bag w0 w base rs ps bs) (t : TypeId) (cs : Array Value) : Bag w0 (w.alloc (.cells cs t)) base rs ps (⟨w.heap.size, t, cs⟩ :: bs) := by
  have h1 := h.alloc (.cells cs t)
  refine ⟨h1.own, h1.apart, fun b hb => ?_, fun r hr => ?_, List.pairwise_cons.2 ⟨fun b hb => ?_, h.bne⟩, h1.low, h1.bel⟩
  · rcases List.mem_cons.1 hb with rfl | hb
    · exact ⟨Blk.new _ _ _, h.low⟩
    · exact h1.blk b hb
  · intro b hb e
    rcases List.mem_cons.1 hb with rfl | hb
    · have := ((h.own r hr).lt _ e).2
      exact absurd this (Nat.lt_irrefl _)
    · exact h.ne r hr b hb e
  · have := (h.blk b hb).1.lt
    show w.heap.size ≠ b.g
    omega
theorem Bag.box (h : Bag w0 w base rs ps bs) (t : TypeId) (cs : Array Value) (hf : farR t (rs ++ ps) = true) : Bag w0 (w.alloc (.cells cs t)) base rs ps (⟨w.heap.size, t, cs⟩ :: bs) := h.box_ t cs
theorem pairwise_set {α : Type} {R : α → α → Prop} (hsym : ∀ a b, R a b → R b a) : ∀ {l : List α} {i : Nat} {x : α}, l.Pairwise R → (∀ (j : Nat) y, l[j]? = some y → j ≠ i → R x y) → (l.set i x).Pairwise R := by
  intro l
  induction l with
  | nil => intro i x h _; exact h
  | cons a l ih =>
    intro i x h hx
    obtain ⟨h1, h2⟩ := List.pairwise_cons.1 h
    cases i with
    | zero =>
      refine List.pairwise_cons.2 ⟨fun b hb => ?_, h2⟩
      obtain ⟨j, hj⟩ := List.mem_iff_getElem?.1 hb
      exact hx (j + 1) b (by simpa using hj) (by omega)
    | succ i =>
      refine List.pairwise_cons.2 ⟨fun b hb => ?_, ih h2 fun j y hy hne => hx (j + 1) y (by simpa using hy) (by omega)⟩
      rcases List.mem_or_eq_of_mem_set hb with hb | rfl
      · exact h1 b hb
      · exact hsym _ _ (hx 0 a rfl (by omega))
/-- a store into a block -/
theorem Bag.store (h : Bag w0 w base rs ps bs) (i k : Nat) (u : Value) {b : Bk} (hb : bs[i]? = some b) : Bag w0 (w.setCell ⟨b.g, k, none⟩ u) base rs ps (bs.set i ⟨b.g, b.t, b.cs.setIfInBounds k u⟩) := by
  have hm := List.mem_of_getElem? hb
  have hg := (h.blk b hm).2
  refine ⟨fun r hr => ?_, h.apart, fun c hc => ?_, fun r hr => ?_, ?_, ?_, h.bel.setCell hg u⟩
  · have ho := h.own r hr
    refine ho.kept (row := some b.g) (only_setCell (World.grownBy.refl w _) (.inl rfl) u) ?_
    exact .inr (h.ne r hr b hm)
  · obtain ⟨j, hj⟩ := List.mem_iff_getElem?.1 hc
    rw [List.getElem?_set] at hj
    by_cases hij : i = j
    · subst hij
      rw [if_pos rfl, if_pos (List.getElem?_eq_some_iff.1 hb).1] at hj
      injection hj with hj
      subst hj
      exact ⟨(h.blk b hm).1.set_ k u, hg⟩
    · rw [if_neg hij] at hj
      have hcm := List.mem_of_getElem? hj
      refine ⟨(h.blk c hcm).1.far ?_ u, (h.blk c hcm).2⟩
      have hp := h.bne
      show c.g ≠ b.g
      rcases Nat.lt_or_ge i j with hlt | hge
      · have := List.pairwise_iff_getElem.1 hp i j (List.getElem?_eq_some_iff.1 hb).1 (List.getElem?_eq_some_iff.1 hj).1 hlt
        rw [(List.getElem?_eq_some_iff.1 hb).2, (List.getElem?_eq_some_iff.1 hj).2] at this
        exact fun e => this e.symm
      · have := List.pairwise_iff_getElem.1 hp j i (List.getElem?_eq_some_iff.1 hj).1 (List.getElem?_eq_some_iff.1 hb).1 (by omega)
        rw [(List.getElem?_eq_some_iff.1 hb).2, (List.getElem?_eq_some_iff.1 hj).2] at this
        exact this
  · intro c hc
    rcases List.mem_or_eq_of_mem_set hc with hc | rfl
    · exact h.ne r hr c hc
    · exact h.ne r hr b hm
  · refine pairwise_set (fun a b h e => h e.symm) h.bne fun j y hy hne => ?_
    show b.g ≠ y.g
    rcases Nat.lt_or_ge i j with hlt | hge
    · have := List.pairwise_iff_getElem.1 h.bne i j (List.getElem?_eq_some_iff.1 hb).1 (List.getElem?_eq_some_iff.1 hy).1 hlt
      rw [(List.getElem?_eq_some_iff.1 hb).2, (List.getElem?_eq_some_iff.1 hy).2] at this
      exact this
    · have := List.pairwise_iff_getElem.1 h.bne j i (List.getElem?_eq_some_iff.1 hy).1 (List.getElem?_eq_some_iff.1 hb).1 (by omega)
      rw [(List.getElem?_eq_some_iff.1 hb).2, (List.getElem?_eq_some_iff.1 hy).2] at this
      exact fun e => this e.symm
  · rw [World.size_setCell]; exact h.low
/-- behind an append onto one of the rows -/
theorem Bag.grow (h : Bag w0 w base rs ps bs) (i : Nat) {r : BRow} (hr : rs[i]? = some r) {v' : Value} {n' : Nat} {xs' : List Value} (hown : w'.ownsRow base r.e r.z v' n' xs') (hg : w.grownBy w' r.v.ownBlock) (hv : v'.ownBlock = r.v.ownBlock ∨ v'.ownBlock = some w.heap.size) :
    Bag w0 w' base (rs.set i ⟨r.e, r.z, v', n', xs'⟩) ps bs := by
  have hm : r ∈ rs := List.mem_of_getElem? hr
  have hmm : r ∈ rs ++ ps := List.mem_append_left _ hm
  have hi : i < rs.length := (List.getElem?_eq_some_iff.1 hr).1
  have hset : rs.set i ⟨r.e, r.z, v', n', xs'⟩ ++ ps = (rs ++ ps).set i ⟨r.e, r.z, v', n', xs'⟩ := by rw [List.set_append_left _ _ hi]
  have hrr : (rs ++ ps)[i]? = some r := by rw [List.getElem?_append_left hi]; exact hr
  have key : ∀ (j : Nat) s, (rs ++ ps)[j]? = some s → j ≠ i → Apart r.v s.v := fun j s hs hne => by
    rcases Nat.lt_or_ge i j with hlt | hge
    · have := List.pairwise_iff_getElem.1 h.apart i j (List.getElem?_eq_some_iff.1 hrr).1 (List.getElem?_eq_some_iff.1 hs).1 hlt
      rw [(List.getElem?_eq_some_iff.1 hrr).2, (List.getElem?_eq_some_iff.1 hs).2] at this
      exact this
    · have := List.pairwise_iff_getElem.1 h.apart j i (List.getElem?_eq_some_iff.1 hs).1 (List.getElem?_eq_some_iff.1 hrr).1 (by omega)
      rw [(List.getElem?_eq_some_iff.1 hrr).2, (List.getElem?_eq_some_iff.1 hs).2] at this
      exact this.symm
  refine ⟨fun s hs => ?_, ?_, fun b hb => ?_, fun s hs => ?_, h.bne, Nat.le_trans h.low hg.size, h.bel.grown hg h.low (own_block_ge (h.own r hmm))⟩
  · rw [hset] at hs
    obtain ⟨j, hj⟩ := List.mem_iff_getElem?.1 hs
    rw [List.getElem?_set] at hj
    by_cases hij : i = j
    · subst hij
      rw [if_pos rfl, if_pos (List.getElem?_eq_some_iff.1 hrr).1] at hj
      injection hj with hj
      subst hj
      exact hown
    · rw [if_neg hij] at hj
      refine (h.own s (List.mem_of_getElem? hj)).kept hg ?_
      rcases hb : s.v.ownBlock with _ | k
      · exact .inl rfl
      · exact .inr fun e => key j s hj (fun e => hij e.symm) k e.symm hb
  · rw [hset]
    refine pairwise_set (fun a b h => h.symm) h.apart fun j s hs hne => ?_
    show Apart v' s.v
    intro k hk e
    rcases hv with hv | hv
    · exact key j s hs hne k (by rw [← hv]; exact hk) e
    · rw [hv] at hk
      injection hk with hk
      have := ((h.own s (List.mem_of_getElem? hs)).lt k e).2
      omega
  · exact ⟨(h.blk b hb).1.grown hg (fun e => h.ne r hmm b hb e.symm), (h.blk b hb).2⟩
  · rw [hset] at hs
    rcases List.mem_or_eq_of_mem_set hs with hs | rfl
    · exact h.ne s hs
    · intro b hb e
      rcases hv with hv | hv
      · exact h.ne r hmm b hb (by rw [← hv]; exact e)
      · have h1 : v'.ownBlock = some b.g := e
        rw [hv] at h1
        injection h1 with h1
        have := (h.blk b hb).1.lt
        omega
end

/-- a box, a row, forgotten -/
theorem Bag.unbox {w0 w : World} {base : Nat} {rs ps : List BRow} {b : Bk} {bs : List Bk} (h : Bag w0 w base rs ps (b :: bs)) : Bag w0 w base rs ps bs :=
  ⟨h.own, h.apart, fun c hc => h.blk c (List.mem_cons_of_mem _ hc), fun r hr c hc => h.ne r hr c (List.mem_cons_of_mem _ hc), (List.pairwise_cons.1 h.bne).2, h.low, h.bel⟩
theorem Bag.pop {w0 w : World} {base : Nat} {rs ps : List BRow} {r : BRow} {bs : List Bk} (h : Bag w0 w base (r :: rs) ps bs) : Bag w0 w base rs ps bs :=
  ⟨fun s hs => h.own s (List.mem_cons_of_mem _ hs), (List.pairwise_cons.1 h.apart).2, h.blk, fun s hs => h.ne s (List.mem_cons_of_mem _ hs), h.bne, h.low, h.bel⟩

theorem Bag.mk0 (w : World) : Bag w w w.heap.size [] [] [] := ⟨fun _ h => by simp at h, by simp, fun _ h => by simp at h, fun _ h => by simp at h, by simp, Nat.le_refl _, Below.refl _ _⟩
theorem Bag.swap_ {w0 w : World} {base : Nat} {a b : BRow} {rs ps : List BRow} {bs : List Bk} (h : Bag w0 w base (a :: b :: rs) ps bs) : Bag w0 w base (b :: a :: rs) ps bs := by
  have hp := h.apart
  simp only [List.cons_append, List.pairwise_cons, List.mem_cons] at hp
  have hm : ∀ r, r ∈ b :: a :: rs ++ ps → r ∈ a :: b :: rs ++ ps := fun r hr => by
    simp only [List.cons_append, List.mem_cons] at hr ⊢
    rcases hr with h1 | h1 | h1
    · exact .inr (.inl h1)
    · exact .inl h1
    · exact .inr (.inr h1)
  refine ⟨fun r hr => h.own r (hm r hr), ?_, h.blk, fun r hr => h.ne r (hm r hr), h.bne, h.low, h.bel⟩
  simp only [List.cons_append, List.pairwise_cons, List.mem_cons]
  refine ⟨fun s hs => ?_, fun s hs => hp.1 s (.inr hs), hp.2.2⟩
  rcases hs with rfl | hs
  · exact (hp.1 b (.inl rfl)).symm
  · exact hp.2.1 s hs

/-- append of what is pending onto a row -/
theorem wp_append_bag {P : Program} {T E : TypeId} {z : Value} {size bytes : Nat} (hE : Elem P T E z size bytes) {o : Oper} {a : Act} {K : Act → World → Prop} {Q : Exit → Act → World → Prop} {w0 w : World} {base : Nat} {rs ps : List BRow} {bs : List Bk} (hB : Bag w0 w base rs ps bs)
    (s x : Operand) (ho : o.op = .call { callee := .builtin .append, args := #[s, x], argTypes := #[T, T] }) (i : Nat) {v : Value} {n : Nat} {xs : List Value} (hi : rs[i]? = some ⟨E, size, v, n, xs⟩) (hs : a.eval s = v)
    {A : Option Addr} {m c : Nat} {news : List Value} (hq : ⟨E, size, .slice A m c, m, news⟩ ∈ ps) (hx : a.eval x = .slice A m c) (h1 : ∀ u ∈ news, u.oneCell' = true) (hn : n + m < 1000000000)
    (h : ∀ (A' : Option Addr) (c' : Nat) w', Bag w0 w' base (rs.set i ⟨E, size, .slice A' (n + m) c', n + m, xs ++ news⟩) ps bs → K (a.put o.dst (.slice A' (n + m) c')) w') : o.wp P a w K Q := by
  obtain ⟨i0, hi0, hz, hsz, hby⟩ := info_parts hE.info
  have hw := hE.wide
  have hown := hB.own _ (List.mem_append_left _ (List.mem_of_getElem? hi))
  refine wp_append_any w s x T ho base E i0 z size bytes hE.und hi0 hz hsz hby hE.zs hE.pos v n xs hs hown w.heap.size A m c news hx (Reads.of_own (hB.own _ (List.mem_append_right _ hq))) h1 (by unfold maxLen; omega) ?_ hB.low ?_
  · have : (n + m) * bytes ≤ (n + m) * 1000 := Nat.mul_le_mul_left _ hw
    omega
  · intro v' w' h2 h3 h4
    obtain ⟨A', c', rfl, _⟩ := own_slice h2
    exact h A' c' w' (hB.grow i hi h2 h3 h4)
theorem wpList_append_bag {P : Program} {T E : TypeId} {z : Value} {size bytes : Nat} (hE : Elem P T E z size bytes) {ops : Array Oper} {rest : List Oper} {o : Oper} {a : Act} {Q : Exit → Act → World → Prop} {w0 w : World} {base : Nat} {rs ps : List BRow} {bs : List Bk} (hB : Bag w0 w base rs ps bs) (hgd : o.guard = none)
    (s x : Operand) (ho : o.op = .call { callee := .builtin .append, args := #[s, x], argTypes := #[T, T] }) (i : Nat) {v : Value} {n : Nat} {xs : List Value} (hi : rs[i]? = some ⟨E, size, v, n, xs⟩) (hs : a.eval s = v)
    {A : Option Addr} {m c : Nat} {news : List Value} (hq : ⟨E, size, .slice A m c, m, news⟩ ∈ ps) (hx : a.eval x = .slice A m c) (h1 : ∀ u ∈ news, u.oneCell' = true) (hn : n + m < 1000000000)
    (h : ∀ (A' : Option Addr) (c' : Nat) w', Bag w0 w' base (rs.set i ⟨E, size, .slice A' (n + m) c', n + m, xs ++ news⟩) ps bs → wpList P ops Q rest (a.put o.dst (.slice A' (n + m) c')) w') : wpList P ops Q (o :: rest) a w :=
  wpList_plain hgd fun _ hK => wp_append_bag hE hB s x ho i hi hs hq hx h1 hn fun A' c' w' hB' => hK _ _ (h A' c' w' hB')
theorem step_append_bag {P : Program} {T E : TypeId} {z : Value} {size bytes : Nat} (hE : Elem P T E z size bytes) {ops : Array Oper} {o : Oper} {a : Act} {K : Act → World → Prop} {Q : Exit → Act → World → Prop} {R : Prop} {w0 w : World} {base : Nat} {rs ps : List BRow} {bs : List Bk} (hB : Bag w0 w base rs ps bs) (hgd : o.guard = none)
    (s x : Operand) (ho : o.op = .call { callee := .builtin .append, args := #[s, x], argTypes := #[T, T] }) (i : Nat) {v : Value} {n : Nat} {xs : List Value} (hi : rs[i]? = some ⟨E, size, v, n, xs⟩) (hs : a.eval s = v)
    {A : Option Addr} {m c : Nat} {news : List Value} (hq : ⟨E, size, .slice A m c, m, news⟩ ∈ ps) (hx : a.eval x = .slice A m c) (h1 : ∀ u ∈ news, u.oneCell' = true) (hn : n + m < 1000000000)
    (h : ∀ (A' : Option Addr) (c' : Nat) w', Bag w0 w' base (rs.set i ⟨E, size, .slice A' (n + m) c', n + m, xs ++ news⟩) ps bs → K (a.put o.dst (.slice A' (n + m) c')) w') : if Region.wanted o (yielded ops a.tmps) = true then Oper.wp P o a w K Q else R := by
  have hw : Region.wanted o (yielded ops a.tmps) = true := by simp [Region.wanted, hgd]
  rw [if_pos hw]
  exact wp_append_bag hE hB s x ho i hi hs hq hx h1 hn h
/-- the world by a letter -/
theorem wp_bag {P : Program} {c : Code} {Q : Exit → Act → World → Prop} {a : Act} {w0 w : World} {base : Nat} {rs ps : List BRow} {bs : List Bk} (hB : Bag w0 w base rs ps bs) (h : ∀ X, Bag w0 X base rs ps bs → Code.wp P c Q a X) : Code.wp P c Q a w := h w hB
end Go.Proofs.YtdpijhnbhopnbaaGreatDoor
