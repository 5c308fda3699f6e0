/- Part 19 of what LawPathTells needs: RefRegion. Conditions: as each lemma names. -/
import Derived.Test.YtibbohebmmahmaaGreatDoorPkPathTells18
/- The reference's Region (what cells may be so that a row comes to a node): contract. Conditions: the tree is right and reads as nodes. -/
namespace Go.Proofs.YtibbohebmmahmaaGreatDoor
set_option linter.unusedVariables false
set_option linter.unusedSimpArgs false
open Go.RowKit

/-- the sides of all nodes above one, from below -/
def climb (t : List Nd) : Nat → Nat → List Sp → List Sp
  | 0, _, l => l
  | m + 1, k, l => if upAt k 0 t < 0 then l else match t[(upAt k 0 t).toNat]? with
    | some x => climb t m (upAt k 0 t).toNat (sideL l x (x.l == k))
    | none => l
def regR (t : List Nd) (n k : Nat) : List Sp := climb t k k (wideL n)
theorem climb_end {t : List Nd} {k : Nat} (h : upAt k 0 t = -1) (m : Nat) (l : List Sp) : climb t m k l = l := by
  cases m with
  | zero => rfl
  | succ m => rw [climb, if_pos (by rw [h]; decide)]
theorem climb_step {t : List Nd} {k u : Nat} {x : Nd} (h : upAt k 0 t = u) (hx : t[u]? = some x) (m : Nat) (l : List Sp) : climb t (m + 1) k l = climb t m u (sideL l x (x.l == k)) := by
  rw [climb, if_neg (by rw [h]; omega), h, Int.toNat_natCast, hx]
theorem wide_next (k : Nat) : (wideL k).flatMap Sp.cells ++ [.int .i64 (-1000000), .int .i64 1000000, .bool true] = (wideL (k + 1)).flatMap Sp.cells := by
  unfold wideL
  rw [List.replicate_succ', List.flatMap_append]
  rfl
theorem sideL_set {l : List Sp} {x : Nd} {b : Bool} {f : Nat} {s : Sp} (hf : x.f = f) (h : l[f]? = some s) : sideL l x b = l.set f (sideS s x.c x.less b) := by
  unfold sideL; rw [hf, Int.toNat_natCast, h]
theorem span_set (l : List Sp) (f : Nat) (s : Sp) (h : f < l.length) :
    ((((l.flatMap Sp.cells).set (f * 3) (.int .i64 s.low)).set (f * 3 + 1) (.int .i64 s.high)).set (f * 3 + 2) (.bool s.ab)) = (l.set f s).flatMap Sp.cells := by
  obtain ⟨xs, x, zs, rfl, rfl⟩ : ∃ xs x zs, l = xs ++ x :: zs ∧ f = xs.length := ⟨l.take f, l[f], l.drop (f + 1), by simp, by simp; omega⟩
  have hl := flatMap_len Sp.cells 3 (fun _ => rfl) xs
  rw [List.set_append_right _ _ (Nat.le_refl _), Nat.sub_self, List.set_cons_zero]
  simp only [List.flatMap_append, List.flatMap_cons]
  rw [List.set_append_right _ _ (by omega), List.set_append_right _ _ (by omega), List.set_append_right _ _ (by omega), hl, Nat.sub_self, show xs.length * 3 + 1 - xs.length * 3 = 1 by omega, show xs.length * 3 + 2 - xs.length * 3 = 2 by omega]
  rfl

/-- a row of spans of a call's own -/
def SpOwn (w : World) (base : Nat) (v : Value) (n : Nat) (l : List Sp) : Prop := w.ownsRow base 44 3 v n (l.flatMap Sp.cells)
theorem SpOwn.len {w : World} {base n : Nat} {v : Value} {l : List Sp} (h : SpOwn w base v n l) : l.length = n := by
  have := h.1
  rw [flatMap_len Sp.cells 3 (fun _ => rfl)] at this
  omega
theorem SpOwn.set_ {w : World} {base n cap g f : Nat} {l : List Sp} (h : SpOwn w base (.slice (some ⟨g, 0, none⟩) n cap) n l) (hf : f < n) (s : Sp) :
    SpOwn (((w.setCell ⟨g, f * 3, none⟩ (.int .i64 s.low)).setCell ⟨g, f * 3 + 1, none⟩ (.int .i64 s.high)).setCell ⟨g, f * 3 + 2, none⟩ (.bool s.ab)) base (.slice (some ⟨g, 0, none⟩) n cap) n (l.set f s) := by
  have hl := h.len
  unfold SpOwn at h ⊢
  rw [← span_set l f s (by omega)]
  exact ((((h.stored _ _).1).stored _ _).1.stored _ _).1
theorem wp_name {P : Program} {c : Code} {Q : Exit → Act → World → Prop} {a : Act} {W : World} (h : ∀ X, X = W → Code.wp P c Q a X) : Code.wp P c Q a W := h W rfl
theorem own_farR {w : World} {base : Nat} {e : TypeId} {size n : Nat} {v : Value} {xs : List Value} (h : w.ownsRow base e size v n xs) {p : Addr} (hp : ∀ k, v.ownBlock = some k → k ≠ p.block) (u : Value) : (w.setCell p u).ownsRow base e size v n xs := by
  refine h.kept (row := some p.block) (only_setCell (World.grownBy.refl w _) (.inl rfl) u) ?_
  rcases hb : v.ownBlock with _ | k
  · exact .inl rfl
  · exact .inr fun e => hp k hb (by injection e)
def RegPost1 (t : List Nd) (n k : Nat) (w : World) (e : Ending) (w' : World) : Prop :=
  ∃ v, e = .returned v ∧ SpOwn w' w.heap.size v n (regR t n k) ∧ Below w.heap.size w w'

set_option maxRecDepth 100000 in
set_option maxHeartbeats 2000000 in
theorem rregion_any (A : Option Addr) (m d n k : Nat) (t : List Nd) (hR : Right t n) (hk : k < t.length) (w : World) (ht : NReads w w.heap.size A m t) :
    Calls Tryz.prog 12 #[.slice A m d, .int .i64 n, .int .i64 k] w (RegPost1 t n k w) := by
  have hlen := ht.len
  have hm63 : m ≤ 63 := by have := hR.most; omega
  have hn8 : n ≤ 8 := by have := hR.fe8; omega
  have HR := hide hR
  have HL := hide hlen
  clear hR hlen
  go_enter Tryz.func12, Tryz.ntmps12
  go_wp2_with fail
  go_loopw [7, 8] (fun v i wr => ∃ j : Nat, j ≤ n ∧ i = .int .i64 j ∧ Hid (SpOwn wr w.heap.size v j (wideL j)) ∧ Below w.heap.size w wr) (fun _ i _ => n - (intOf i).toNat)
  case atStart => exact ⟨0, Nat.zero_le _, rfl, hide (World.ownsRow_nil _ _ _ _), Below.refl _ _⟩
  case round =>
    obtain ⟨j, hj, rfl, HO, hbel⟩ := hrel
    have hsz := hbel.size
    by_cases hlt : j < n
    · have hown := unhide HO
      unfold SpOwn at hown
      go_wp2_with (at_builtin; refine app_one elem_span (.tmp 18) (.tmp 20) [.int .i64 (-1000000), .int .i64 1000000, .bool true] rfl rfl rfl hown rfl rfl rfl (by simp [Value.oneCell']) (by omega) hsz ?_; intro v1 w2 hown2 hb2 _ _)
      go_roundw
      case rel => exact ⟨j + 1, by omega, by go_num, hide (by unfold SpOwn; rw [← wide_next]; exact hown2), hbel.trans hb2⟩
      case measure => simp [intOf]; omega
    · obtain rfl : j = n := by omega
      have hown0 := unhide HO
      have htr := ht.below hbel
      go_wp2_with fail
      refine (up_any A m d w.heap.size k t wr htr (by unfold maxLen; omega)).mono ?_
      rintro e w1 ⟨rfl, rfl⟩
      go_wp2_with fail
      go_loopw [9, 10] (fun a b wq => ∃ (k' q : Nat) (L : List Sp), a = .int .i64 k' ∧ b = .int .i64 (upAt k' 0 t) ∧ k' ≤ q ∧ Hid (climb t q k' L = regR t j k) ∧ Hid (SpOwn wq w.heap.size u7 j L) ∧ Below w.heap.size w wq) (fun a _ _ => (intOf a).toNat)
      case atStart => exact ⟨k, k, wideL j, rfl, rfl, Nat.le_refl _, hide rfl, HO, hbel⟩
      case round =>
        clear hown0 htr HO hbel hsz
        obtain ⟨k', q, L, rfl, rfl, hkq, HC, HO, hbel⟩ := hrel
        have hsz := hbel.size
        rcases up_par (t := t) (at_ := k') with h | ⟨u, ⟨x, hx, hf, hlr⟩, hu⟩
        · have HC2 : Hid (L = regR t j k) := hide (by rw [← unhide HC, climb_end h])
          rw [h]
          clear h
          go_wp2_with fail
          go_ret
          exact ⟨_, rfl, by rw [← unhide HC2]; exact unhide HO, hbel⟩
        · have hstep := climb_step hu hx
          have huk : u < k' := by have := (unhide HR).behind u x hx hf; omega
          have hum : u < m := by have := (List.getElem?_eq_some_iff.1 hx).1; have := unhide HL; omega
          obtain ⟨q, rfl⟩ : ∃ q', q = q' + 1 := ⟨q - 1, by omega⟩
          obtain ⟨hf0, hfn⟩ := (unhide HR).asks u x hx hf
          obtain ⟨hc1, hc2⟩ := (unhide HR).fit.cut u x hx hf
          obtain ⟨f, hxf⟩ : ∃ f : Nat, x.f = f := ⟨x.f.toNat, by omega⟩
          have hfj : f < j := by omega
          obtain ⟨g, cap, hv, hgb, hgl⟩ := (unhide HO).form (by omega)
          cases hv
          have hr9 : SReads wr wr.heap.size (some ⟨g, 0, none⟩) j L := Reads.of_own (unhide HO)
          obtain ⟨_, _, s, e0, _, hs, d0, d1, d2⟩ := hr9.get hfj
          cases e0
          obtain ⟨s0, s1, s2⟩ := s
          simp only [Nat.zero_add] at d0 d1 d2
          have HSL : Hid (∀ b, sideL L x b = L.set f (sideS ⟨s0, s1, s2⟩ x.c x.less b)) := hide (fun b => sideL_set hxf hs)
          have hfz : ∀ i, wr.frozen? ⟨g, i, none⟩ = false := fun i => (unhide HO : wr.ownsRow _ _ 3 _ j _).frozenAt _
          obtain ⟨b1, o1, x', rfl, hbb1, hx', x0, x1, x2, x3, x4, x5⟩ := (ht.below hbel).get hum
          rw [hx] at hx'
          cases hx'
          rw [hxf] at x0
          have HST := hide hstep
          have HU := hide hu
          obtain ⟨xf, xc, xl, xr, xs, xv⟩ := x
          dsimp only at hxf x1 x2 x3 x4 x5 hf hc1 hc2 hlr
          rw [hu]
          clear hx hstep hr9 hs hf hu hf0 hfn
          have f0 := hfz (f * 3)
          have f1 := hfz (f * 3 + 1)
          have f2 := hfz (f * 3 + 2)
          clear hfz
          by_cases hl : xl = (k' : Int)
          · have hb : (xl == (k' : Int)) = true := by simpa using hl
            subst hl
            by_cases hm : xc - 1 < s1
            · cases s2
              · go_upto_region 19 with (fail)
                refine wp_name fun X hX => ?_
                have bX : Blk X (wr.heap.size + 1) 44 #[.int .i64 s0, .int .i64 (xc - 1), .bool false] := by rw [hX]; have := Blk.new (wr.alloc (.cells #[.int .i64 f, .int .i64 xc, .int .i64 k', .int .i64 xr, .bool xs, .int .i64 xv] 40)) 44 #[.int .i64 s0, .int .i64 (xc - 1), .bool false]; rw [World.size_alloc] at this; exact this
                have bNX : Blk X wr.heap.size 40 #[.int .i64 f, .int .i64 xc, .int .i64 k', .int .i64 xr, .bool xs, .int .i64 xv] := by rw [hX]; exact (Blk.new wr _ _).alloc _
                have oX : SpOwn X w.heap.size (.slice (some ⟨g, 0, none⟩) j cap) j L := by rw [hX]; exact ((unhide HO : wr.ownsRow _ _ 3 _ j _).alloc _).alloc _
                have hbX : Below w.heap.size w X := by rw [hX]; exact (hbel.alloc hsz _).alloc (by rw [World.size_alloc]; omega) _
                have HS2 : Hid (sideL L ⟨xf, xc, k', xr, xs, xv⟩ true = L.set f ⟨s0, (xc - 1), false⟩) := hide (by rw [unhide HSL]; congr 1; simp [sideS]; try omega)
                clear hX x0 x1 x2 x3 x4 x5 d0 d1 d2 f0 f1 f2
                have e0 := bX.cell 0; have e1 := bX.cell 1; have e2 := bX.cell 2; have n0 := bNX.cell 0
                simp at e0 e1 e2 n0
                have f0 := (oX : X.ownsRow _ _ 3 _ j _).frozenAt (g := g) (f * 3); have f1 := (oX : X.ownsRow _ _ 3 _ j _).frozenAt (g := g) (f * 3 + 1); have f2 := (oX : X.ownsRow _ _ 3 _ j _).frozenAt (g := g) (f * 3 + 2)
                have hrX : SReads X X.heap.size (some ⟨g, 0, none⟩) j L := Reads.of_own oX
                obtain ⟨_, _, s', e0', _, _, d0, d1, d2⟩ := hrX.get hfj
                cases e0'
                simp only [Nat.zero_add] at d0 d1 d2
                have oY := oX.set_ hfj ⟨s0, (xc - 1), false⟩
                have hbY := ((hbX.setCell (p := ⟨g, f * 3, none⟩) hgb (.int .i64 s0)).setCell (p := ⟨g, f * 3 + 1, none⟩) hgb (.int .i64 (xc - 1))).setCell (p := ⟨g, f * 3 + 2, none⟩) hgb (.bool false)
                dsimp only at oY
                have HOY := hide oY
                clear oY oX bX bNX hbX hrX
                go_wp2_with fail
                refine (up_any (some ⟨b1, o1, none⟩) m d w.heap.size u t _ (ht.below hbY) (by unfold maxLen; omega)).mono ?_
                rintro e w9 ⟨rfl, rfl⟩
                go_wp2_with fail
                go_roundw
                case rel => exact ⟨u, q, _, rfl, rfl, by omega, hide (by rw [← unhide HC, unhide HST, hb, unhide HS2]), HOY, hbY⟩
                case measure => simp [intOf]; omega
              · go_upto_region 19 with (fail)
                refine wp_name fun X hX => ?_
                have bX : Blk X (wr.heap.size + 1) 44 #[.int .i64 s0, .int .i64 (xc - 1), .bool xs] := by rw [hX]; have := Blk.new (wr.alloc (.cells #[.int .i64 f, .int .i64 xc, .int .i64 k', .int .i64 xr, .bool xs, .int .i64 xv] 40)) 44 #[.int .i64 s0, .int .i64 (xc - 1), .bool xs]; rw [World.size_alloc] at this; exact this
                have bNX : Blk X wr.heap.size 40 #[.int .i64 f, .int .i64 xc, .int .i64 k', .int .i64 xr, .bool xs, .int .i64 xv] := by rw [hX]; exact (Blk.new wr _ _).alloc _
                have oX : SpOwn X w.heap.size (.slice (some ⟨g, 0, none⟩) j cap) j L := by rw [hX]; exact ((unhide HO : wr.ownsRow _ _ 3 _ j _).alloc _).alloc _
                have hbX : Below w.heap.size w X := by rw [hX]; exact (hbel.alloc hsz _).alloc (by rw [World.size_alloc]; omega) _
                have HS2 : Hid (sideL L ⟨xf, xc, k', xr, xs, xv⟩ true = L.set f ⟨s0, (xc - 1), xs⟩) := hide (by rw [unhide HSL]; congr 1; simp [sideS]; try omega)
                clear hX x0 x1 x2 x3 x4 x5 d0 d1 d2 f0 f1 f2
                have e0 := bX.cell 0; have e1 := bX.cell 1; have e2 := bX.cell 2; have n0 := bNX.cell 0
                simp at e0 e1 e2 n0
                have f0 := (oX : X.ownsRow _ _ 3 _ j _).frozenAt (g := g) (f * 3); have f1 := (oX : X.ownsRow _ _ 3 _ j _).frozenAt (g := g) (f * 3 + 1); have f2 := (oX : X.ownsRow _ _ 3 _ j _).frozenAt (g := g) (f * 3 + 2)
                have hrX : SReads X X.heap.size (some ⟨g, 0, none⟩) j L := Reads.of_own oX
                obtain ⟨_, _, s', e0', _, _, d0, d1, d2⟩ := hrX.get hfj
                cases e0'
                simp only [Nat.zero_add] at d0 d1 d2
                have oY := oX.set_ hfj ⟨s0, (xc - 1), xs⟩
                have hbY := ((hbX.setCell (p := ⟨g, f * 3, none⟩) hgb (.int .i64 s0)).setCell (p := ⟨g, f * 3 + 1, none⟩) hgb (.int .i64 (xc - 1))).setCell (p := ⟨g, f * 3 + 2, none⟩) hgb (.bool xs)
                dsimp only at oY
                have HOY := hide oY
                clear oY oX bX bNX hbX hrX
                go_wp2_with fail
                refine (up_any (some ⟨b1, o1, none⟩) m d w.heap.size u t _ (ht.below hbY) (by unfold maxLen; omega)).mono ?_
                rintro e w9 ⟨rfl, rfl⟩
                go_wp2_with fail
                go_roundw
                case rel => exact ⟨u, q, _, rfl, rfl, by omega, hide (by rw [← unhide HC, unhide HST, hb, unhide HS2]), HOY, hbY⟩
                case measure => simp [intOf]; omega
            · cases s2
              · go_upto_region 19 with (fail)
                refine wp_name fun X hX => ?_
                have bX : Blk X (wr.heap.size + 1) 44 #[.int .i64 s0, .int .i64 s1, .bool false] := by rw [hX]; have := Blk.new (wr.alloc (.cells #[.int .i64 f, .int .i64 xc, .int .i64 k', .int .i64 xr, .bool xs, .int .i64 xv] 40)) 44 #[.int .i64 s0, .int .i64 s1, .bool false]; rw [World.size_alloc] at this; exact this
                have bNX : Blk X wr.heap.size 40 #[.int .i64 f, .int .i64 xc, .int .i64 k', .int .i64 xr, .bool xs, .int .i64 xv] := by rw [hX]; exact (Blk.new wr _ _).alloc _
                have oX : SpOwn X w.heap.size (.slice (some ⟨g, 0, none⟩) j cap) j L := by rw [hX]; exact ((unhide HO : wr.ownsRow _ _ 3 _ j _).alloc _).alloc _
                have hbX : Below w.heap.size w X := by rw [hX]; exact (hbel.alloc hsz _).alloc (by rw [World.size_alloc]; omega) _
                have HS2 : Hid (sideL L ⟨xf, xc, k', xr, xs, xv⟩ true = L.set f ⟨s0, s1, false⟩) := hide (by rw [unhide HSL]; congr 1; simp [sideS]; try omega)
                clear hX x0 x1 x2 x3 x4 x5 d0 d1 d2 f0 f1 f2
                have e0 := bX.cell 0; have e1 := bX.cell 1; have e2 := bX.cell 2; have n0 := bNX.cell 0
                simp at e0 e1 e2 n0
                have f0 := (oX : X.ownsRow _ _ 3 _ j _).frozenAt (g := g) (f * 3); have f1 := (oX : X.ownsRow _ _ 3 _ j _).frozenAt (g := g) (f * 3 + 1); have f2 := (oX : X.ownsRow _ _ 3 _ j _).frozenAt (g := g) (f * 3 + 2)
                have hrX : SReads X X.heap.size (some ⟨g, 0, none⟩) j L := Reads.of_own oX
                obtain ⟨_, _, s', e0', _, _, d0, d1, d2⟩ := hrX.get hfj
                cases e0'
                simp only [Nat.zero_add] at d0 d1 d2
                have oY := oX.set_ hfj ⟨s0, s1, false⟩
                have hbY := ((hbX.setCell (p := ⟨g, f * 3, none⟩) hgb (.int .i64 s0)).setCell (p := ⟨g, f * 3 + 1, none⟩) hgb (.int .i64 s1)).setCell (p := ⟨g, f * 3 + 2, none⟩) hgb (.bool false)
                dsimp only at oY
                have HOY := hide oY
                clear oY oX bX bNX hbX hrX
                go_wp2_with fail
                refine (up_any (some ⟨b1, o1, none⟩) m d w.heap.size u t _ (ht.below hbY) (by unfold maxLen; omega)).mono ?_
                rintro e w9 ⟨rfl, rfl⟩
                go_wp2_with fail
                go_roundw
                case rel => exact ⟨u, q, _, rfl, rfl, by omega, hide (by rw [← unhide HC, unhide HST, hb, unhide HS2]), HOY, hbY⟩
                case measure => simp [intOf]; omega
              · go_upto_region 19 with (fail)
                refine wp_name fun X hX => ?_
                have bX : Blk X (wr.heap.size + 1) 44 #[.int .i64 s0, .int .i64 s1, .bool xs] := by rw [hX]; have := Blk.new (wr.alloc (.cells #[.int .i64 f, .int .i64 xc, .int .i64 k', .int .i64 xr, .bool xs, .int .i64 xv] 40)) 44 #[.int .i64 s0, .int .i64 s1, .bool xs]; rw [World.size_alloc] at this; exact this
                have bNX : Blk X wr.heap.size 40 #[.int .i64 f, .int .i64 xc, .int .i64 k', .int .i64 xr, .bool xs, .int .i64 xv] := by rw [hX]; exact (Blk.new wr _ _).alloc _
                have oX : SpOwn X w.heap.size (.slice (some ⟨g, 0, none⟩) j cap) j L := by rw [hX]; exact ((unhide HO : wr.ownsRow _ _ 3 _ j _).alloc _).alloc _
                have hbX : Below w.heap.size w X := by rw [hX]; exact (hbel.alloc hsz _).alloc (by rw [World.size_alloc]; omega) _
                have HS2 : Hid (sideL L ⟨xf, xc, k', xr, xs, xv⟩ true = L.set f ⟨s0, s1, xs⟩) := hide (by rw [unhide HSL]; congr 1; simp [sideS]; try omega)
                clear hX x0 x1 x2 x3 x4 x5 d0 d1 d2 f0 f1 f2
                have e0 := bX.cell 0; have e1 := bX.cell 1; have e2 := bX.cell 2; have n0 := bNX.cell 0
                simp at e0 e1 e2 n0
                have f0 := (oX : X.ownsRow _ _ 3 _ j _).frozenAt (g := g) (f * 3); have f1 := (oX : X.ownsRow _ _ 3 _ j _).frozenAt (g := g) (f * 3 + 1); have f2 := (oX : X.ownsRow _ _ 3 _ j _).frozenAt (g := g) (f * 3 + 2)
                have hrX : SReads X X.heap.size (some ⟨g, 0, none⟩) j L := Reads.of_own oX
                obtain ⟨_, _, s', e0', _, _, d0, d1, d2⟩ := hrX.get hfj
                cases e0'
                simp only [Nat.zero_add] at d0 d1 d2
                have oY := oX.set_ hfj ⟨s0, s1, xs⟩
                have hbY := ((hbX.setCell (p := ⟨g, f * 3, none⟩) hgb (.int .i64 s0)).setCell (p := ⟨g, f * 3 + 1, none⟩) hgb (.int .i64 s1)).setCell (p := ⟨g, f * 3 + 2, none⟩) hgb (.bool xs)
                dsimp only at oY
                have HOY := hide oY
                clear oY oX bX bNX hbX hrX
                go_wp2_with fail
                refine (up_any (some ⟨b1, o1, none⟩) m d w.heap.size u t _ (ht.below hbY) (by unfold maxLen; omega)).mono ?_
                rintro e w9 ⟨rfl, rfl⟩
                go_wp2_with fail
                go_roundw
                case rel => exact ⟨u, q, _, rfl, rfl, by omega, hide (by rw [← unhide HC, unhide HST, hb, unhide HS2]), HOY, hbY⟩
                case measure => simp [intOf]; omega
          · have hb : (xl == (k' : Int)) = false := by simpa using hl
            clear hl
            by_cases hm : s0 < xc
            · cases s2
              · go_upto_region 19 with (fail)
                refine wp_name fun X hX => ?_
                have bX : Blk X (wr.heap.size + 1) 44 #[.int .i64 xc, .int .i64 s1, .bool false] := by rw [hX]; have := Blk.new (wr.alloc (.cells #[.int .i64 f, .int .i64 xc, .int .i64 xl, .int .i64 xr, .bool xs, .int .i64 xv] 40)) 44 #[.int .i64 xc, .int .i64 s1, .bool false]; rw [World.size_alloc] at this; exact this
                have bNX : Blk X wr.heap.size 40 #[.int .i64 f, .int .i64 xc, .int .i64 xl, .int .i64 xr, .bool xs, .int .i64 xv] := by rw [hX]; exact (Blk.new wr _ _).alloc _
                have oX : SpOwn X w.heap.size (.slice (some ⟨g, 0, none⟩) j cap) j L := by rw [hX]; exact ((unhide HO : wr.ownsRow _ _ 3 _ j _).alloc _).alloc _
                have hbX : Below w.heap.size w X := by rw [hX]; exact (hbel.alloc hsz _).alloc (by rw [World.size_alloc]; omega) _
                have HS2 : Hid (sideL L ⟨xf, xc, xl, xr, xs, xv⟩ false = L.set f ⟨xc, s1, false⟩) := hide (by rw [unhide HSL]; congr 1; simp [sideS]; try omega)
                clear hX x0 x1 x2 x3 x4 x5 d0 d1 d2 f0 f1 f2
                have e0 := bX.cell 0; have e1 := bX.cell 1; have e2 := bX.cell 2; have n0 := bNX.cell 0
                simp at e0 e1 e2 n0
                have f0 := (oX : X.ownsRow _ _ 3 _ j _).frozenAt (g := g) (f * 3); have f1 := (oX : X.ownsRow _ _ 3 _ j _).frozenAt (g := g) (f * 3 + 1); have f2 := (oX : X.ownsRow _ _ 3 _ j _).frozenAt (g := g) (f * 3 + 2)
                have hrX : SReads X X.heap.size (some ⟨g, 0, none⟩) j L := Reads.of_own oX
                obtain ⟨_, _, s', e0', _, _, d0, d1, d2⟩ := hrX.get hfj
                cases e0'
                simp only [Nat.zero_add] at d0 d1 d2
                have oY := oX.set_ hfj ⟨xc, s1, false⟩
                have hbY := ((hbX.setCell (p := ⟨g, f * 3, none⟩) hgb (.int .i64 xc)).setCell (p := ⟨g, f * 3 + 1, none⟩) hgb (.int .i64 s1)).setCell (p := ⟨g, f * 3 + 2, none⟩) hgb (.bool false)
                dsimp only at oY
                have HOY := hide oY
                clear oY oX bX bNX hbX hrX
                go_wp2_with fail
                refine (up_any (some ⟨b1, o1, none⟩) m d w.heap.size u t _ (ht.below hbY) (by unfold maxLen; omega)).mono ?_
                rintro e w9 ⟨rfl, rfl⟩
                go_wp2_with fail
                go_roundw
                case rel => exact ⟨u, q, _, rfl, rfl, by omega, hide (by rw [← unhide HC, unhide HST, hb, unhide HS2]), HOY, hbY⟩
                case measure => simp [intOf]; omega
              · go_upto_region 19 with (fail)
                refine wp_name fun X hX => ?_
                have bX : Blk X (wr.heap.size + 1) 44 #[.int .i64 xc, .int .i64 s1, .bool !xs] := by rw [hX]; have := Blk.new (wr.alloc (.cells #[.int .i64 f, .int .i64 xc, .int .i64 xl, .int .i64 xr, .bool xs, .int .i64 xv] 40)) 44 #[.int .i64 xc, .int .i64 s1, .bool !xs]; rw [World.size_alloc] at this; exact this
                have bNX : Blk X wr.heap.size 40 #[.int .i64 f, .int .i64 xc, .int .i64 xl, .int .i64 xr, .bool xs, .int .i64 xv] := by rw [hX]; exact (Blk.new wr _ _).alloc _
                have oX : SpOwn X w.heap.size (.slice (some ⟨g, 0, none⟩) j cap) j L := by rw [hX]; exact ((unhide HO : wr.ownsRow _ _ 3 _ j _).alloc _).alloc _
                have hbX : Below w.heap.size w X := by rw [hX]; exact (hbel.alloc hsz _).alloc (by rw [World.size_alloc]; omega) _
                have HS2 : Hid (sideL L ⟨xf, xc, xl, xr, xs, xv⟩ false = L.set f ⟨xc, s1, !xs⟩) := hide (by rw [unhide HSL]; congr 1; simp [sideS]; try omega)
                clear hX x0 x1 x2 x3 x4 x5 d0 d1 d2 f0 f1 f2
                have e0 := bX.cell 0; have e1 := bX.cell 1; have e2 := bX.cell 2; have n0 := bNX.cell 0
                simp at e0 e1 e2 n0
                have f0 := (oX : X.ownsRow _ _ 3 _ j _).frozenAt (g := g) (f * 3); have f1 := (oX : X.ownsRow _ _ 3 _ j _).frozenAt (g := g) (f * 3 + 1); have f2 := (oX : X.ownsRow _ _ 3 _ j _).frozenAt (g := g) (f * 3 + 2)
                have hrX : SReads X X.heap.size (some ⟨g, 0, none⟩) j L := Reads.of_own oX
                obtain ⟨_, _, s', e0', _, _, d0, d1, d2⟩ := hrX.get hfj
                cases e0'
                simp only [Nat.zero_add] at d0 d1 d2
                have oY := oX.set_ hfj ⟨xc, s1, !xs⟩
                have hbY := ((hbX.setCell (p := ⟨g, f * 3, none⟩) hgb (.int .i64 xc)).setCell (p := ⟨g, f * 3 + 1, none⟩) hgb (.int .i64 s1)).setCell (p := ⟨g, f * 3 + 2, none⟩) hgb (.bool !xs)
                dsimp only at oY
                have HOY := hide oY
                clear oY oX bX bNX hbX hrX
                go_wp2_with fail
                refine (up_any (some ⟨b1, o1, none⟩) m d w.heap.size u t _ (ht.below hbY) (by unfold maxLen; omega)).mono ?_
                rintro e w9 ⟨rfl, rfl⟩
                go_wp2_with fail
                go_roundw
                case rel => exact ⟨u, q, _, rfl, rfl, by omega, hide (by rw [← unhide HC, unhide HST, hb, unhide HS2]), HOY, hbY⟩
                case measure => simp [intOf]; omega
            · cases s2
              · go_upto_region 19 with (fail)
                refine wp_name fun X hX => ?_
                have bX : Blk X (wr.heap.size + 1) 44 #[.int .i64 s0, .int .i64 s1, .bool false] := by rw [hX]; have := Blk.new (wr.alloc (.cells #[.int .i64 f, .int .i64 xc, .int .i64 xl, .int .i64 xr, .bool xs, .int .i64 xv] 40)) 44 #[.int .i64 s0, .int .i64 s1, .bool false]; rw [World.size_alloc] at this; exact this
                have bNX : Blk X wr.heap.size 40 #[.int .i64 f, .int .i64 xc, .int .i64 xl, .int .i64 xr, .bool xs, .int .i64 xv] := by rw [hX]; exact (Blk.new wr _ _).alloc _
                have oX : SpOwn X w.heap.size (.slice (some ⟨g, 0, none⟩) j cap) j L := by rw [hX]; exact ((unhide HO : wr.ownsRow _ _ 3 _ j _).alloc _).alloc _
                have hbX : Below w.heap.size w X := by rw [hX]; exact (hbel.alloc hsz _).alloc (by rw [World.size_alloc]; omega) _
                have HS2 : Hid (sideL L ⟨xf, xc, xl, xr, xs, xv⟩ false = L.set f ⟨s0, s1, false⟩) := hide (by rw [unhide HSL]; congr 1; simp [sideS]; try omega)
                clear hX x0 x1 x2 x3 x4 x5 d0 d1 d2 f0 f1 f2
                have e0 := bX.cell 0; have e1 := bX.cell 1; have e2 := bX.cell 2; have n0 := bNX.cell 0
                simp at e0 e1 e2 n0
                have f0 := (oX : X.ownsRow _ _ 3 _ j _).frozenAt (g := g) (f * 3); have f1 := (oX : X.ownsRow _ _ 3 _ j _).frozenAt (g := g) (f * 3 + 1); have f2 := (oX : X.ownsRow _ _ 3 _ j _).frozenAt (g := g) (f * 3 + 2)
                have hrX : SReads X X.heap.size (some ⟨g, 0, none⟩) j L := Reads.of_own oX
                obtain ⟨_, _, s', e0', _, _, d0, d1, d2⟩ := hrX.get hfj
                cases e0'
                simp only [Nat.zero_add] at d0 d1 d2
                have oY := oX.set_ hfj ⟨s0, s1, false⟩
                have hbY := ((hbX.setCell (p := ⟨g, f * 3, none⟩) hgb (.int .i64 s0)).setCell (p := ⟨g, f * 3 + 1, none⟩) hgb (.int .i64 s1)).setCell (p := ⟨g, f * 3 + 2, none⟩) hgb (.bool false)
                dsimp only at oY
                have HOY := hide oY
                clear oY oX bX bNX hbX hrX
                go_wp2_with fail
                refine (up_any (some ⟨b1, o1, none⟩) m d w.heap.size u t _ (ht.below hbY) (by unfold maxLen; omega)).mono ?_
                rintro e w9 ⟨rfl, rfl⟩
                go_wp2_with fail
                go_roundw
                case rel => exact ⟨u, q, _, rfl, rfl, by omega, hide (by rw [← unhide HC, unhide HST, hb, unhide HS2]), HOY, hbY⟩
                case measure => simp [intOf]; omega
              · go_upto_region 19 with (fail)
                refine wp_name fun X hX => ?_
                have bX : Blk X (wr.heap.size + 1) 44 #[.int .i64 s0, .int .i64 s1, .bool !xs] := by rw [hX]; have := Blk.new (wr.alloc (.cells #[.int .i64 f, .int .i64 xc, .int .i64 xl, .int .i64 xr, .bool xs, .int .i64 xv] 40)) 44 #[.int .i64 s0, .int .i64 s1, .bool !xs]; rw [World.size_alloc] at this; exact this
                have bNX : Blk X wr.heap.size 40 #[.int .i64 f, .int .i64 xc, .int .i64 xl, .int .i64 xr, .bool xs, .int .i64 xv] := by rw [hX]; exact (Blk.new wr _ _).alloc _
                have oX : SpOwn X w.heap.size (.slice (some ⟨g, 0, none⟩) j cap) j L := by rw [hX]; exact ((unhide HO : wr.ownsRow _ _ 3 _ j _).alloc _).alloc _
                have hbX : Below w.heap.size w X := by rw [hX]; exact (hbel.alloc hsz _).alloc (by rw [World.size_alloc]; omega) _
                have HS2 : Hid (sideL L ⟨xf, xc, xl, xr, xs, xv⟩ false = L.set f ⟨s0, s1, !xs⟩) := hide (by rw [unhide HSL]; congr 1; simp [sideS]; try omega)
                clear hX x0 x1 x2 x3 x4 x5 d0 d1 d2 f0 f1 f2
                have e0 := bX.cell 0; have e1 := bX.cell 1; have e2 := bX.cell 2; have n0 := bNX.cell 0
                simp at e0 e1 e2 n0
                have f0 := (oX : X.ownsRow _ _ 3 _ j _).frozenAt (g := g) (f * 3); have f1 := (oX : X.ownsRow _ _ 3 _ j _).frozenAt (g := g) (f * 3 + 1); have f2 := (oX : X.ownsRow _ _ 3 _ j _).frozenAt (g := g) (f * 3 + 2)
                have hrX : SReads X X.heap.size (some ⟨g, 0, none⟩) j L := Reads.of_own oX
                obtain ⟨_, _, s', e0', _, _, d0, d1, d2⟩ := hrX.get hfj
                cases e0'
                simp only [Nat.zero_add] at d0 d1 d2
                have oY := oX.set_ hfj ⟨s0, s1, !xs⟩
                have hbY := ((hbX.setCell (p := ⟨g, f * 3, none⟩) hgb (.int .i64 s0)).setCell (p := ⟨g, f * 3 + 1, none⟩) hgb (.int .i64 s1)).setCell (p := ⟨g, f * 3 + 2, none⟩) hgb (.bool !xs)
                dsimp only at oY
                have HOY := hide oY
                clear oY oX bX bNX hbX hrX
                go_wp2_with fail
                refine (up_any (some ⟨b1, o1, none⟩) m d w.heap.size u t _ (ht.below hbY) (by unfold maxLen; omega)).mono ?_
                rintro e w9 ⟨rfl, rfl⟩
                go_wp2_with fail
                go_roundw
                case rel => exact ⟨u, q, _, rfl, rfl, by omega, hide (by rw [← unhide HC, unhide HST, hb, unhide HS2]), HOY, hbY⟩
                case measure => simp [intOf]; omega
end Go.Proofs.YtibbohebmmahmaaGreatDoor
