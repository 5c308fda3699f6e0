/- Part 14 of what LawLimitTells needs: Limit2. Conditions: as each lemma names. -/
import Derived.Test.YtafaedhjlmkamaaGreatDoorPkLimitTells13
/- Package limit: of. Conditions: the tree is right, the spans as many as it has features. -/
namespace Go.Proofs.YtafaedhjlmkamaaGreatDoor
set_option linter.unusedVariables false
set_option linter.unusedSimpArgs false
open Go.RowKit

structure En where
  low : Int
  high : Int
  least : List Int
  most : List Int
  some : Bool
def en0 : En := ⟨0, 0, [], [], false⟩
def enStep (t : List Nd) (ro : Nat → Option (List Sp)) (e : En) (i : Nat) : En := match ro i with
  | none => e
  | some l => ⟨if (!e.some || decide (valAt t i < e.low)) = true then valAt t i else e.low, if (!e.some || decide (e.high < valAt t i)) = true then valAt t i else e.high,
      if (!e.some || decide (valAt t i < e.low)) = true then pickL l else e.least, if (!e.some || decide (e.high < valAt t i)) = true then pickL l else e.most, true⟩
def enTo (t : List Nd) (ro : Nat → Option (List Sp)) (k : Nat) : En := (List.range k).foldl (enStep t ro) en0
theorem enTo_next (t : List Nd) (ro : Nat → Option (List Sp)) (k : Nat) : enTo t ro (k + 1) = enStep t ro (enTo t ro k) k := by unfold enTo; rw [List.range_succ, List.foldl_append]; rfl
/-- the spans of each leaf to which some row within spans comes -/
def roL (t : List Nd) (l : List Sp) (i : Nat) : Option (List Sp) := rowOf (lv t t.length 0 l) i
def endsV (t : List Nd) (l : List Sp) : En := enTo t (roL t l) t.length
/-- ends lie in a box -/
def EnIs (g0 g : Nat) (e : En) (w : World) : Prop :=
  ∃ A1 n1 c1 A2 n2 c2, Blk w g 60 #[.int .i64 e.low, .int .i64 e.high, .slice A1 n1 c1, .slice A2 n2 c2, .bool e.some] ∧ IReads w w.heap.size A1 n1 e.least ∧ IReads w w.heap.size A2 n2 e.most ∧
    (∀ a, A1 = some a → a.block ≠ g) ∧ (∀ a, A2 = some a → a.block ≠ g) ∧ (A1 = none → c1 = 0) ∧ (A2 = none → c2 = 0) ∧ n1 ≤ c1 ∧ n2 ≤ c2 ∧ (∀ a, A1 = some a → g0 < a.block) ∧ (∀ a, A2 = some a → g0 < a.block)
def OfPost (en : En) (w : World) (e : Ending) (w' : World) : Prop :=
  ∃ A1 n1 c1 A2 n2 c2, e = .returned (.agg #[.int .i64 en.low, .int .i64 en.high, .slice A1 n1 c1, .slice A2 n2 c2, .bool en.some]) ∧ IReads w' w'.heap.size A1 n1 en.least ∧ IReads w' w'.heap.size A2 n2 en.most ∧ (A1 = none → c1 = 0) ∧ (A2 = none → c2 = 0) ∧ n1 ≤ c1 ∧ n2 ≤ c2 ∧ Below w.heap.size w w'
theorem rows_info : (Tryz.prog.info? 24).map (fun i => (i.zero, i.size, i.bytes)) = some (some (.slice none 0 0), 1, 24) := by kernel_rfl

theorem IReads.atop {w : World} {g n : Nat} {A : Option Addr} {l : List Int} (h : IReads w w.heap.size A n l) (hne : ∀ a, A = some a → a.block ≠ g) (i : Nat) (u : Value) : IReads (w.setCell ⟨g, i, none⟩ u) (w.setCell ⟨g, i, none⟩ u).heap.size A n l := by
  have ht : Touch (LimT g) w (w.setCell ⟨g, i, none⟩ u) := touch_set (p := ⟨g, i, none⟩) rfl u
  exact (Reads.touch h ht (Nat.le_refl _) (fun a e h' => hne a e h')).more ht.size
theorem calls_name {P : Program} {f : FuncId} {xs : Array Value} {W : World} {Q : Ending → World → Prop} (h : ∀ X, X = W → Calls P f xs X Q) : Calls P f xs W Q := h W rfl
def LeafPost (Q : World → Prop) (e : Ending) (w' : World) : Prop := (∃ v, e = .returned v) ∧ Q w'
set_option maxRecDepth 100000 in
theorem leaves_leaf (F : FuncId) (caps : Array Value) (hF : Enters Tryz.prog F) (A : Option Addr) (m d B : Nat) (t : List Nd) (i : Nat) (x : Nd) (hx : t[i]? = some x) (hf : x.f = -1) (him : i < m) (w : World) (ht : NReads w B A m t) (Al : Option Addr) (n cl : Nat) (Q : World → Prop)
    (hs : Calls Tryz.prog F (#[.int .i64 i, .slice Al n cl] ++ caps) (w.alloc (.cells #[.int .i64 x.f, .int .i64 x.c, .int .i64 x.l, .int .i64 x.r, .bool x.less, .int .i64 x.v] 46)) (LeafPost Q)) :
    Calls Tryz.prog 40 #[.slice A m d, .int .i64 i, .slice Al n cl, .func (.func F) #[] caps] w (LeafPost Q) := by
  obtain ⟨b, o, x', hA, hbb, hx', g0, g1, g2, g3, g4, g5⟩ := ht.get him
  subst hA
  rw [hx] at hx'
  cases hx'
  obtain ⟨xf, xc, xlf, xr, xs, xv⟩ := x
  simp only at hf g0 g1 g2 g3 g4 g5 hs
  subst hf
  clear hx
  have hent := fun (ars : Array Value) (W : World) => hF ars W
  go_enter Tryz.func40, Tryz.ntmps40
  go_wp2_with fail
  refine hs.mono ?_
  rintro e w2 ⟨⟨v, rfl⟩, hq⟩
  go_wp2_with fail
  go_end0
  exact ⟨⟨_, rfl⟩, hq⟩

set_option maxRecDepth 100000 in
set_option maxHeartbeats 4000000 in
theorem of2_any (A C : Option Addr) (m d n c : Nat) (t : List Nd) (l : List Sp) (hR : Right t n) (w : World) (ht : NReads w w.heap.size A m t) (hl : SReads w w.heap.size C n l) (hC : C = none → c = 0) :
    Calls Tryz.prog 25 #[.slice A m d, .slice C n c] w (OfPost (endsV t l) w) := by
  have hlen := ht.len
  have hm63 : m ≤ 63 := by have := hR.most; omega
  have hm0 : 0 < m := by have := hR.pos; omega
  have hn8 : n ≤ 8 := by have := hR.fe8; omega
  have hl24 : (lv t m 0 l).length ≤ 1024 := lv_1024 hR _ _
  have HEV : Hid (endsV t l = enTo t (rowOf (lv t m 0 l)) m) := hide (by unfold endsV roL; rw [hlen])
  have HR := hide hR
  have HL := hide hlen
  clear hR hlen
  have hmk := run_make_row' (P := Tryz.prog) 74 24 (.slice none 0 0) 24 Tryz.underlying74 rows_info rfl .i64 .i64 m (by omega) (by omega)
  have bE0 := Blk.new w 60 #[.int .i64 0, .int .i64 0, .slice none 0 0, .slice none 0 0, .bool false]
  go_enter Tryz.func25, Tryz.ntmps25
  go_wp2_with fail
  obtain ⟨W, hW, bE, bR, bP, hsW, hBW⟩ : ∃ W, W = ((w.alloc (.cells #[.int .i64 0, .int .i64 0, .slice none 0 0, .slice none 0 0, .bool false] 60)).alloc (.cells (madeCells #[.slice none 0 0] m) 24)).alloc (.cells #[.slice (some ⟨w.heap.size + 1, 0, none⟩) m m] 74) ∧
      Blk W w.heap.size 60 #[.int .i64 0, .int .i64 0, .slice none 0 0, .slice none 0 0, .bool false] ∧ Blk W (w.heap.size + 1) 24 (List.replicate m (.slice none 0 0)).toArray ∧ Blk W (w.heap.size + 1 + 1) 74 #[.slice (some ⟨w.heap.size + 1, 0, none⟩) m m] ∧ W.heap.size = w.heap.size + 1 + 1 + 1 ∧ Below w.heap.size w W := by
    refine ⟨_, rfl, (bE0.alloc _).alloc _, ?_, ?_, by simp, (((Below.refl _ _).alloc (Nat.le_refl _) _).alloc (by simp) _).alloc (by simp; omega) _⟩
    · have := Blk.new (w.alloc (.cells #[.int .i64 0, .int .i64 0, .slice none 0 0, .slice none 0 0, .bool false] 60)) 24 (madeCells #[.slice none 0 0] m)
      rw [World.size_alloc] at this
      have h2 := this.alloc (.cells #[.slice (some ⟨w.heap.size + 1, 0, none⟩) m m] 74)
      have h3 : madeCells #[.slice none 0 0] m = (List.replicate m (Value.slice none 0 0)).toArray := by rw [← toList_madeCells_one]
      rw [h3] at h2 ⊢
      exact h2
    · have := Blk.new ((w.alloc (.cells #[.int .i64 0, .int .i64 0, .slice none 0 0, .slice none 0 0, .bool false] 60)).alloc (.cells (madeCells #[.slice none 0 0] m) 24)) 74 #[.slice (some ⟨w.heap.size + 1, 0, none⟩) m m]
      rw [World.size_alloc, World.size_alloc] at this
      exact this
  rw [← hW]
  clear hW bE0 hmk
  have cP := bP.cell 0
  simp at cP
  have hJ0 : LimJ (w.heap.size + 1) m n w.heap.size ⟨w.heap.size + 1 + 1, 0, none⟩ [] W := ⟨cP, by show w.heap.size + 1 + 1 ≠ w.heap.size + 1; omega, _, by simp, bR, fun i v hi => by
    have := List.eq_of_mem_replicate (List.mem_of_getElem? hi)
    exact this⟩
  have hEar := lim_ear (w.heap.size + 1) m n w.heap.size ⟨w.heap.size + 1 + 1, 0, none⟩ (by omega)
  have hstep : ∀ pre (k : Nat) (l' : List Sp) (A' : Option Addr) (c' : Nat) (w' : World), k < m → LimJ (w.heap.size + 1) m n w.heap.size ⟨w.heap.size + 1 + 1, 0, none⟩ pre w' → SReads w' w'.heap.size A' n l' →
      Calls Tryz.prog 41 (#[.int .i64 k, .slice A' n c'] ++ #[.pointer (some ⟨w.heap.size + 1 + 1, 0, none⟩)]) w' (Hear (LimT (w.heap.size + 1)) (LimJ (w.heap.size + 1) m n w.heap.size ⟨w.heap.size + 1 + 1, 0, none⟩) (pre ++ [(k, l')]) w') :=
    fun pre k l' A' c' w' hk hJ hl' => lim1_step _ m n w.heap.size (by omega) _ (by omega) pre k hk (by unfold maxLen; omega) l' A' c' w' hJ hl'
  have hlv : Calls Tryz.prog 40 #[.slice A m d, .int .i64 0, .slice C n c, .func (.func 41) #[] #[.pointer (some ⟨w.heap.size + 1 + 1, 0, none⟩)]] W (Hear (LimT (w.heap.size + 1)) (LimJ (w.heap.size + 1) m n w.heap.size ⟨w.heap.size + 1 + 1, 0, none⟩) ([] ++ lv t m 0 l) W) := by
    rcases Nat.eq_zero_or_pos n with h0 | h0
    · obtain ⟨x0, hx⟩ : ∃ x, t[0]? = some x := ⟨_, List.getElem?_eq_getElem (unhide HR).pos⟩
      have hf : x0.f = -1 := Decidable.byContradiction fun hf => by
        have := (unhide HR).asks 0 _ hx hf
        omega
      obtain ⟨q, hq⟩ : ∃ q, m = q + 1 := ⟨m - 1, by omega⟩
      have hbA : Below W.heap.size W (W.alloc (.cells #[.int .i64 x0.f, .int .i64 x0.c, .int .i64 x0.l, .int .i64 x0.r, .bool x0.less, .int .i64 x0.v] 46)) := (Below.refl _ _).alloc (Nat.le_refl _) _
      have h1 := hstep [] 0 l C c (W.alloc (.cells #[.int .i64 x0.f, .int .i64 x0.c, .int .i64 x0.l, .int .i64 x0.r, .bool x0.less, .int .i64 x0.v] 46)) hm0 (hEar.keep _ _ _ hJ0 hbA).1 (((Reads.below hl hBW).more (by omega) : SReads W W.heap.size C n l).below hbA |>.more hbA.size)
      have hlve : lv t m 0 l = [(0, l)] := by rw [hq]; exact lv_leaf hx hf
      rw [hlve]
      refine Calls.mono (leaves_leaf 41 _ (enters_of Tryz.func41 (by kernel_rfl) rfl) A m d w.heap.size t 0 _ hx hf hm0 W (ht.below hBW) C n c (fun w' => LimJ _ m n w.heap.size _ ([] ++ [(0, l)]) w' ∧ Touch _ W w') (h1.mono fun e w' ⟨h2, h3, h4⟩ => ⟨h2, h3, (Touch.of_below hbA (fun _ h => h)).trans h4⟩)) fun e w' ⟨h2, h3, h4⟩ => ⟨h2, h3, h4⟩
    · exact leavesW_any (LimT (w.heap.size + 1)) (LimJ (w.heap.size + 1) m n w.heap.size ⟨w.heap.size + 1 + 1, 0, none⟩) w.heap.size hEar 41 #[.pointer (some ⟨w.heap.size + 1 + 1, 0, none⟩)] (enters_of Tryz.func41 (by kernel_rfl) rfl) n (by omega) A m d t (by unfold maxLen; omega) (unhide HR).behind (unhide HR).asks (unhide HR).fit.cut False 1024
        (fun pre k l' A' c' w' hy hJ hl' hc' hT' hS' hpl => by
          obtain ⟨y, hy, _⟩ := hy
          have hk := (List.getElem?_eq_some_iff.1 hy).1
          exact hstep pre k l' A' c' w' (by have := unhide HL; omega) hJ hl')
        m 0 l [] C c W (by omega) hm0 (ht.below hBW) hBW.size hJ0 ((Reads.below hl hBW).more (by omega)) hC (fun a e h => by
          obtain ⟨ad, e', hbd, _⟩ := hl.2 h0
          rw [e] at e'; cases e'
          have : a.block = w.heap.size + 1 := h
          omega) (fun h => h.elim) (by simpa using hl24)
  refine hlv.mono ?_
  clear hlv
  rintro e w4 ⟨⟨v4, rfl⟩, hJ4, hT4⟩
  rw [List.nil_append] at hJ4
  have hB4 : Below w.heap.size w w4 := hBW.trans (hT4.below hBW.size (fun g hg => (hEar.lt [] W g hJ0 hg).2))
  obtain ⟨cP4, _, vals, hvl, hv4, hL4⟩ := hJ4
  have bE4 : Blk w4 w.heap.size 60 #[.int .i64 0, .int .i64 0, .slice none 0 0, .slice none 0 0, .bool false] := (hT4.block w.heap.size (by omega) (fun h => by have : w.heap.size = w.heap.size + 1 := h; omega)).trans bE
  have hs4 : w.heap.size + 1 + 1 + 1 ≤ w4.heap.size := by have := hT4.size; omega
  have ht4 := (ht.below hB4)
  obtain ⟨ro, hro⟩ : ∃ ro, ro = rowOf (lv t m 0 l) := ⟨_, rfl⟩
  rw [← hro] at hL4 HEV
  have HL4 := hide hL4
  have cP5 := cell_alloc cP4 (by show w.heap.size + 1 + 1 < _; omega)
  have bG := Blk.new w4 60 #[.int .i64 0, .int .i64 0, .slice none 0 0, .slice none 0 0, .bool false]
  have HVL := hide hvl
  clear hJ0 hEar hT4 hBW bE bR bP cP hsW hL4 hro hl cP4 hvl hstep
  go_wp2_with fail
  go_loopw [19] (fun i wr => ∃ k : Nat, k ≤ m ∧ i = .int .i64 k ∧ Hid (EnIs w.heap.size w4.heap.size (enTo t ro k) wr) ∧ Below w4.heap.size w4 wr) (fun i _ => m - (intOf i).toNat)
  case atStart => exact ⟨0, Nat.zero_le _, rfl, hide ⟨none, 0, 0, none, 0, 0, bG, IReads.nil_, IReads.nil_, (fun a h => by cases h), (fun a h => by cases h), fun _ => rfl, fun _ => rfl, Nat.le_refl _, Nat.le_refl _, (fun a h => by cases h), (fun a h => by cases h)⟩, (Below.refl _ _).alloc (Nat.le_refl _) _⟩
  case round =>
    clear bG cP5
    obtain ⟨k, hk, rfl, HE, hbel⟩ := hrel
    have hsr := hbel.size
    obtain ⟨A1, n1, c1, A2, n2, c2, bg, hi1, hi2, hne1, hne2, hz1, hz2, hc1, hc2, hlb1, hlb2⟩ := unhide HE
    have HN := hide (enTo_next t ro k)
    obtain ⟨en, hen⟩ : ∃ en, en = enTo t ro k := ⟨_, rfl⟩
    rw [← hen] at HN HE hi1 hi2 bg
    have HEN := hide hen
    obtain ⟨lo, hi, ls, ms, so⟩ := en
    dsimp only at bg hi1 hi2
    have e0 := bg.cell 0
    have e1 := bg.cell 1
    have e2 := bg.cell 2
    have e3 := bg.cell 3
    have e4 := bg.cell 4
    have g0 := bg.frozen 0
    have g1 := bg.frozen 1
    have g2 := bg.frozen 2
    have g3 := bg.frozen 3
    have g4 := bg.frozen 4
    simp at e0 e1 e2 e3 e4
    clear hen
    by_cases hlt : k < m
    · have hkv : k < vals.length := by have := unhide HVL; omega
      obtain ⟨v, hv⟩ : ∃ v, v = vals[k] := ⟨_, rfl⟩
      have hvk : vals[k]? = some v := by rw [hv]; exact List.getElem?_eq_getElem hkv
      have hLk := unhide HL4 k v hvk
      have cv : wr.cell? ⟨w.heap.size + 1, k, none⟩ = some v := by
        rw [hbel.cell (p := ⟨w.heap.size + 1, k, none⟩) (by show w.heap.size + 1 < _; omega), hv4.cell k]
        simpa using hvk
      clear hv hvk hkv
      cases hrk : ro k with
      | none =>
        rw [hrk] at hLk
        have hvn : v = .slice none 0 0 := hLk
        have HS : Hid (enTo t ro (k + 1) = ⟨lo, hi, ls, ms, so⟩) := hide (by rw [unhide HN]; unfold enStep; rw [hrk])
        have hq := fun (W : World) => Lib.run_eql_slice_nil (P := Tryz.prog) W 24 3 none 0 0 0 0 Tryz.underlying24
        rw [hvn] at cv
        clear hrk hLk hvn
        go_wp2_with fail
        go_roundw
        case rel => exact ⟨k + 1, by omega, by go_num, hide (by rw [unhide HS]; exact unhide HE), hbel⟩
        case measure => simp [intOf]; omega
      | some lk =>
        rw [hrk] at hLk
        obtain ⟨a, cc, hva, hia0, hnr, hal, hca⟩ := hLk
        rw [hva] at cv
        have hia : IReads wr wr.heap.size (some a) n (pickL lk) := (hia0.below hbel).more hsr
        have hnea : ∀ b, some a = some b → b.block ≠ w4.heap.size := fun b hb => by cases hb; omega
        have hlba : ∀ b, some a = some b → w.heap.size < b.block := fun b hb => by cases hb; omega
        have hq := fun (W : World) => Lib.run_eql_slice_nil (P := Tryz.prog) W 24 3 (some a) n cc 0 0 Tryz.underlying24
        obtain ⟨b1, o1, x, rfl, hbb1, hx, x0, x1, x2, x3, x4, x5⟩ := (ht.below (hB4.trans (hbel.mono hB4.size))).get hlt
        have hvv := valAt_of hx
        clear hx hia0 hva hnr
        cases so
        · have HS : Hid (enTo t ro (k + 1) = ⟨x.v, x.v, pickL lk, pickL lk, true⟩) := hide (by rw [unhide HN]; unfold enStep; rw [hrk]; simp [hvv])
          clear hrk hvv HEN
          go_wp2_with fail
          refine calls_name fun X hX => ?_
          have bX : Blk X w4.heap.size 60 #[.int .i64 x.v, .int .i64 hi, .slice (some a) n cc, .slice A2 n2 c2, .bool false] := by rw [hX]; exact (bg.set_ 0 _).set_ 2 _
          have bwX : Below w4.heap.size w4 X := by rw [hX]; exact (hbel.setCell (p := ⟨w4.heap.size, 0, none⟩) (Nat.le_refl _) _).setCell (p := ⟨w4.heap.size, 2, none⟩) (Nat.le_refl _) _
          have i1X : IReads X X.heap.size (some a) n (pickL lk) := by rw [hX]; exact (hia.atop hnea 0 _).atop hnea 2 _
          clear hX e0 e1 e2 e3 e4 g0 g1 g2 g3 g4 bg hbel hi1 hi2 hia cv HE
          have hXs := bwX.size
          refine (cloneI_any (some a) n cc X.heap.size (pickL lk) X i1X (Nat.le_refl _) (by omega) (fun h => by cases h)).mono ?_
          rintro e w5 ⟨v5, rfl, ho5, hb5⟩
          obtain ⟨A5, c5, rfl, hi5, _, hc5, hz5⟩ := ho5.slice_
          have bg5 := bX.below hb5 bX.lt
          have i15 := (i1X.below hb5).more hb5.size
          have hn5 : ∀ b, A5 = some b → b.block ≠ w4.heap.size := fun b hb => by have := own_fresh ho5 b hb; have := bX.lt; omega
          have bw5 := bwX.trans (hb5.mono hXs)
          have hlb5 : ∀ b, A5 = some b → w.heap.size < b.block := fun b hb => by have := own_fresh ho5 b hb; omega
          have e0 := bg5.cell 0; have e1 := bg5.cell 1; have e2 := bg5.cell 2; have e3 := bg5.cell 3; have e4 := bg5.cell 4; have g0 := bg5.frozen 0; have g1 := bg5.frozen 1; have g2 := bg5.frozen 2; have g3 := bg5.frozen 3; have g4 := bg5.frozen 4
          simp at e0 e1 e2 e3 e4
          have HR6 : Hid (EnIs w.heap.size w4.heap.size (enTo t ro (k + 1)) (((w5.setCell ⟨w4.heap.size, 1, none⟩ (.int .i64 x.v)).setCell ⟨w4.heap.size, 3, none⟩ (.slice A5 (pickL lk).length c5)).setCell ⟨w4.heap.size, 4, none⟩ (.bool true))) := hide (by rw [unhide HS]; exact ⟨_, _, _, _, _, _, ((bg5.set_ 1 _).set_ 3 _).set_ 4 _, ((i15.atop hnea 1 _).atop hnea 3 _).atop hnea 4 _, ((hi5.atop hn5 1 _).atop hn5 3 _).atop hn5 4 _, hnea, hn5, (fun h => by cases h), hz5, hca, hc5, hlba, hlb5⟩)
          have hb6 := ((bw5.setCell (p := ⟨w4.heap.size, 1, none⟩) (Nat.le_refl _) (.int .i64 x.v)).setCell (p := ⟨w4.heap.size, 3, none⟩) (Nat.le_refl _) (.slice A5 (pickL lk).length c5)).setCell (p := ⟨w4.heap.size, 4, none⟩) (Nat.le_refl _) (.bool true)
          clear bX bwX i1X ho5 hb5 hi5 bg5 i15 bw5
          go_wp2_with fail
          go_roundw
          case rel => exact ⟨k + 1, by omega, by go_num, HR6, hb6⟩
          case measure => simp [intOf]; omega
        · by_cases hL : x.v < lo
          · by_cases hH : hi < x.v
            · have HS : Hid (enTo t ro (k + 1) = ⟨x.v, x.v, pickL lk, pickL lk, true⟩) := hide (by rw [unhide HN]; unfold enStep; rw [hrk]; simp [hvv, hL, hH])
              have d1 : decide (x.v < lo) = true := by simpa using hL
              have d2 : decide (hi < x.v) = true := by simpa using hH
              clear hL hH
              clear hrk hvv HEN
              go_wp2_with fail
              refine calls_name fun X hX => ?_
              have bX : Blk X w4.heap.size 60 #[.int .i64 x.v, .int .i64 hi, .slice (some a) n cc, .slice A2 n2 c2, .bool true] := by rw [hX]; exact (bg.set_ 0 _).set_ 2 _
              have bwX : Below w4.heap.size w4 X := by rw [hX]; exact (hbel.setCell (p := ⟨w4.heap.size, 0, none⟩) (Nat.le_refl _) _).setCell (p := ⟨w4.heap.size, 2, none⟩) (Nat.le_refl _) _
              have i1X : IReads X X.heap.size (some a) n (pickL lk) := by rw [hX]; exact (hia.atop hnea 0 _).atop hnea 2 _
              clear hX e0 e1 e2 e3 e4 g0 g1 g2 g3 g4 bg hbel hi1 hi2 hia cv HE
              have hXs := bwX.size
              refine (cloneI_any (some a) n cc X.heap.size (pickL lk) X i1X (Nat.le_refl _) (by omega) (fun h => by cases h)).mono ?_
              rintro e w5 ⟨v5, rfl, ho5, hb5⟩
              obtain ⟨A5, c5, rfl, hi5, _, hc5, hz5⟩ := ho5.slice_
              have bg5 := bX.below hb5 bX.lt
              have i15 := (i1X.below hb5).more hb5.size
              have hn5 : ∀ b, A5 = some b → b.block ≠ w4.heap.size := fun b hb => by have := own_fresh ho5 b hb; have := bX.lt; omega
              have bw5 := bwX.trans (hb5.mono hXs)
              have hlb5 : ∀ b, A5 = some b → w.heap.size < b.block := fun b hb => by have := own_fresh ho5 b hb; omega
              have e0 := bg5.cell 0; have e1 := bg5.cell 1; have e2 := bg5.cell 2; have e3 := bg5.cell 3; have e4 := bg5.cell 4; have g0 := bg5.frozen 0; have g1 := bg5.frozen 1; have g2 := bg5.frozen 2; have g3 := bg5.frozen 3; have g4 := bg5.frozen 4
              simp at e0 e1 e2 e3 e4
              have HR6 : Hid (EnIs w.heap.size w4.heap.size (enTo t ro (k + 1)) (((w5.setCell ⟨w4.heap.size, 1, none⟩ (.int .i64 x.v)).setCell ⟨w4.heap.size, 3, none⟩ (.slice A5 (pickL lk).length c5)).setCell ⟨w4.heap.size, 4, none⟩ (.bool true))) := hide (by rw [unhide HS]; exact ⟨_, _, _, _, _, _, ((bg5.set_ 1 _).set_ 3 _).set_ 4 _, ((i15.atop hnea 1 _).atop hnea 3 _).atop hnea 4 _, ((hi5.atop hn5 1 _).atop hn5 3 _).atop hn5 4 _, hnea, hn5, (fun h => by cases h), hz5, hca, hc5, hlba, hlb5⟩)
              have hb6 := ((bw5.setCell (p := ⟨w4.heap.size, 1, none⟩) (Nat.le_refl _) (.int .i64 x.v)).setCell (p := ⟨w4.heap.size, 3, none⟩) (Nat.le_refl _) (.slice A5 (pickL lk).length c5)).setCell (p := ⟨w4.heap.size, 4, none⟩) (Nat.le_refl _) (.bool true)
              clear bX bwX i1X ho5 hb5 hi5 bg5 i15 bw5
              go_wp2_with fail
              go_roundw
              case rel => exact ⟨k + 1, by omega, by go_num, HR6, hb6⟩
              case measure => simp [intOf]; omega
            · have HS : Hid (enTo t ro (k + 1) = ⟨x.v, hi, pickL lk, ms, true⟩) := hide (by rw [unhide HN]; unfold enStep; rw [hrk]; simp [hvv, hL, hH])
              have d1 : decide (x.v < lo) = true := by simpa using hL
              have d2 : decide (hi < x.v) = false := by simpa using hH
              clear hL hH
              clear hrk hvv HEN
              have HR6 : Hid (EnIs w.heap.size w4.heap.size (enTo t ro (k + 1)) (((wr.setCell ⟨w4.heap.size, 0, none⟩ (.int .i64 x.v)).setCell ⟨w4.heap.size, 2, none⟩ (.slice (some a) n cc)).setCell ⟨w4.heap.size, 4, none⟩ (.bool true))) := hide (by rw [unhide HS]; exact ⟨_, _, _, _, _, _, ((bg.set_ 0 _).set_ 2 _).set_ 4 _, ((hia.atop hnea 0 _).atop hnea 2 _).atop hnea 4 _, ((hi2.atop hne2 0 _).atop hne2 2 _).atop hne2 4 _, hnea, hne2, (fun h => by cases h), hz2, hca, hc2, hlba, hlb2⟩)
              have hb6 := ((hbel.setCell (p := ⟨w4.heap.size, 0, none⟩) (Nat.le_refl _) (.int .i64 x.v)).setCell (p := ⟨w4.heap.size, 2, none⟩) (Nat.le_refl _) (.slice (some a) n cc)).setCell (p := ⟨w4.heap.size, 4, none⟩) (Nat.le_refl _) (.bool true)
              clear bg hia hi1 hi2 HE
              go_wp2_with fail
              go_roundw
              case rel => exact ⟨k + 1, by omega, by go_num, HR6, hb6⟩
              case measure => simp [intOf]; omega
          · by_cases hH : hi < x.v
            · have HS : Hid (enTo t ro (k + 1) = ⟨lo, x.v, ls, pickL lk, true⟩) := hide (by rw [unhide HN]; unfold enStep; rw [hrk]; simp [hvv, hL, hH])
              have d1 : decide (x.v < lo) = false := by simpa using hL
              have d2 : decide (hi < x.v) = true := by simpa using hH
              clear hL hH
              clear hrk hvv HEN
              go_wp2_with fail
              refine calls_name fun X hX => ?_
              have bX : Blk X w4.heap.size 60 #[.int .i64 lo, .int .i64 hi, .slice A1 n1 c1, .slice A2 n2 c2, .bool true] := by rw [hX]; exact bg
              have bwX : Below w4.heap.size w4 X := by rw [hX]; exact hbel
              have i1X : IReads X X.heap.size A1 n1 ls := by rw [hX]; exact hi1
              have iaX : IReads X X.heap.size (some a) n (pickL lk) := by rw [hX]; exact hia
              clear hX e0 e1 e2 e3 e4 g0 g1 g2 g3 g4 bg hbel hi1 hi2 hia cv HE
              have hXs := bwX.size
              refine (cloneI_any (some a) n cc X.heap.size (pickL lk) X iaX (Nat.le_refl _) (by omega) (fun h => by cases h)).mono ?_
              rintro e w5 ⟨v5, rfl, ho5, hb5⟩
              obtain ⟨A5, c5, rfl, hi5, _, hc5, hz5⟩ := ho5.slice_
              have bg5 := bX.below hb5 bX.lt
              have i15 := (i1X.below hb5).more hb5.size
              have hn5 : ∀ b, A5 = some b → b.block ≠ w4.heap.size := fun b hb => by have := own_fresh ho5 b hb; have := bX.lt; omega
              have bw5 := bwX.trans (hb5.mono hXs)
              have hlb5 : ∀ b, A5 = some b → w.heap.size < b.block := fun b hb => by have := own_fresh ho5 b hb; omega
              have e0 := bg5.cell 0; have e1 := bg5.cell 1; have e2 := bg5.cell 2; have e3 := bg5.cell 3; have e4 := bg5.cell 4; have g0 := bg5.frozen 0; have g1 := bg5.frozen 1; have g2 := bg5.frozen 2; have g3 := bg5.frozen 3; have g4 := bg5.frozen 4
              simp at e0 e1 e2 e3 e4
              have HR6 : Hid (EnIs w.heap.size w4.heap.size (enTo t ro (k + 1)) (((w5.setCell ⟨w4.heap.size, 1, none⟩ (.int .i64 x.v)).setCell ⟨w4.heap.size, 3, none⟩ (.slice A5 (pickL lk).length c5)).setCell ⟨w4.heap.size, 4, none⟩ (.bool true))) := hide (by rw [unhide HS]; exact ⟨_, _, _, _, _, _, ((bg5.set_ 1 _).set_ 3 _).set_ 4 _, ((i15.atop hne1 1 _).atop hne1 3 _).atop hne1 4 _, ((hi5.atop hn5 1 _).atop hn5 3 _).atop hn5 4 _, hne1, hn5, hz1, hz5, hc1, hc5, hlb1, hlb5⟩)
              have hb6 := ((bw5.setCell (p := ⟨w4.heap.size, 1, none⟩) (Nat.le_refl _) (.int .i64 x.v)).setCell (p := ⟨w4.heap.size, 3, none⟩) (Nat.le_refl _) (.slice A5 (pickL lk).length c5)).setCell (p := ⟨w4.heap.size, 4, none⟩) (Nat.le_refl _) (.bool true)
              clear bX bwX i1X iaX ho5 hb5 hi5 bg5 i15 bw5
              go_wp2_with fail
              go_roundw
              case rel => exact ⟨k + 1, by omega, by go_num, HR6, hb6⟩
              case measure => simp [intOf]; omega
            · have HS : Hid (enTo t ro (k + 1) = ⟨lo, hi, ls, ms, true⟩) := hide (by rw [unhide HN]; unfold enStep; rw [hrk]; simp [hvv, hL, hH])
              have d1 : decide (x.v < lo) = false := by simpa using hL
              have d2 : decide (hi < x.v) = false := by simpa using hH
              clear hL hH
              clear hrk hvv HEN
              have HR6 : Hid (EnIs w.heap.size w4.heap.size (enTo t ro (k + 1)) (wr.setCell ⟨w4.heap.size, 4, none⟩ (.bool true))) := hide (by rw [unhide HS]; exact ⟨_, _, _, _, _, _, bg.set_ 4 _, hi1.atop hne1 4 _, hi2.atop hne2 4 _, hne1, hne2, hz1, hz2, hc1, hc2, hlb1, hlb2⟩)
              have hb6 := hbel.setCell (p := ⟨w4.heap.size, 4, none⟩) (Nat.le_refl _) (.bool true)
              clear bg hia hi1 hi2 HE
              go_wp2_with fail
              go_roundw
              case rel => exact ⟨k + 1, by omega, by go_num, HR6, hb6⟩
              case measure => simp [intOf]; omega
    · obtain rfl : k = m := by omega
      have HRes : Hid (endsV t l = ⟨lo, hi, ls, ms, so⟩) := hide (by rw [unhide HEV, ← unhide HEN])
      have bEr := bE4.below hbel (by omega)
      have r0 := bEr.cell 0
      have r1 := bEr.cell 1
      have r2 := bEr.cell 2
      have r3 := bEr.cell 3
      have r4 := bEr.cell 4
      have q0 := bEr.frozen 0
      have q1 := bEr.frozen 1
      have q2 := bEr.frozen 2
      have q3 := bEr.frozen 3
      have q4 := bEr.frozen 4
      simp at r0 r1 r2 r3 r4
      have hnn1 : ∀ a, A1 = some a → a.block ≠ w.heap.size := fun a ha => by have := hlb1 a ha; omega
      have hnn2 : ∀ a, A2 = some a → a.block ≠ w.heap.size := fun a ha => by have := hlb2 a ha; omega
      obtain ⟨WF, hWF, bF, j1, j2, hbF⟩ : ∃ WF, WF = ((((wr.setCell ⟨w.heap.size, 0, none⟩ (.int .i64 lo)).setCell ⟨w.heap.size, 1, none⟩ (.int .i64 hi)).setCell ⟨w.heap.size, 2, none⟩ (.slice A1 n1 c1)).setCell ⟨w.heap.size, 3, none⟩ (.slice A2 n2 c2)).setCell ⟨w.heap.size, 4, none⟩ (.bool so) ∧
          Blk WF w.heap.size 60 #[.int .i64 lo, .int .i64 hi, .slice A1 n1 c1, .slice A2 n2 c2, .bool so] ∧ IReads WF WF.heap.size A1 n1 ls ∧ IReads WF WF.heap.size A2 n2 ms ∧ Below w.heap.size w WF :=
        ⟨_, rfl, ((((bEr.set_ 0 _).set_ 1 _).set_ 2 _).set_ 3 _).set_ 4 _, ((((hi1.atop hnn1 0 _).atop hnn1 1 _).atop hnn1 2 _).atop hnn1 3 _).atop hnn1 4 _, ((((hi2.atop hnn2 0 _).atop hnn2 1 _).atop hnn2 2 _).atop hnn2 3 _).atop hnn2 4 _,
          (((((hB4.trans (hbel.mono hB4.size)).setCell (p := ⟨w.heap.size, 0, none⟩) (Nat.le_refl _) _).setCell (p := ⟨w.heap.size, 1, none⟩) (Nat.le_refl _) _).setCell (p := ⟨w.heap.size, 2, none⟩) (Nat.le_refl _) _).setCell (p := ⟨w.heap.size, 3, none⟩) (Nat.le_refl _) _).setCell (p := ⟨w.heap.size, 4, none⟩) (Nat.le_refl _) _⟩
      have HWF := hide hWF
      have k0 := bF.cell 0
      have k1 := bF.cell 1
      have k2 := bF.cell 2
      have k3 := bF.cell 3
      have k4 := bF.cell 4
      simp at k0 k1 k2 k3 k4
      clear hWF bEr bE4 HE
      go_wp2_with fail
      rw [← unhide HWF]
      refine bodyPost_ret (v := .agg #[.int .i64 lo, .int .i64 hi, .slice A1 n1 c1, .slice A2 n2 c2, .bool so]) (by simp [results, Tryz.results25, go_sem, k0, k1, k2, k3, k4]) rfl ?_
      rw [unhide HRes]
      exact ⟨A1, n1, c1, A2, n2, c2, rfl, j1, j2, hz1, hz2, hc1, hc2, hbF⟩
end Go.Proofs.YtafaedhjlmkamaaGreatDoor
