/- Part 21 of what LawPruneTells needs: RefMeet. Conditions: as each lemma names. -/
import Derived.Test.YtefkjpcgcgofgaaDoorPkPruneTells20
/- The reference's Any and Meet of spans: contracts. Conditions: arguments read as spans. -/
namespace Go.Proofs.YtefkjpcgcgofgaaDoor
set_option linter.unusedVariables false
set_option linter.unusedSimpArgs false
open Go.RowKit

def meetS (a b : Sp) : Sp := ⟨max a.low b.low, min a.high b.high, a.ab && b.ab⟩
def meetL (a b : List Sp) : List Sp := List.zipWith meetS a b
theorem meetL_len {a b : List Sp} (h : a.length = b.length) : (meetL a b).length = a.length := by unfold meetL; rw [List.length_zipWith]; omega
theorem all_next2 {l : List Sp} {k : Nat} {s : Sp} (h : l[k]? = some s) (ha : anyB (l.take k) = true) (hs : someB s = true) : anyB (l.take (k + 1)) = true := by
  unfold anyB at *
  rw [take_next h, List.all_append, ha]
  simp [hs]
theorem any_bad {l : List Sp} {k : Nat} {s : Sp} (h : l[k]? = some s) (hs : someB s = false) : anyB l = false := by
  cases hb : anyB l with
  | false => rfl
  | true => have := any_at hb h; rw [this] at hs; cases hs

set_option maxRecDepth 100000 in
set_option maxHeartbeats 1000000 in
theorem rany_any (A : Option Addr) (n c B : Nat) (l : List Sp) (w : World) (hr : SReads w B A n l) (hn : n ≤ maxLen) :
    Calls Tryd.prog 28 #[.slice A n c] w fun e w' => e = .returned (.bool (anyB l)) ∧ ∃ q, w' = w.drewN q := by
  have HL := hide hr.len
  unfold maxLen at hn
  go_enter Tryd.func28, Tryd.ntmps28
  go_wp2_with fail
  go_loopw [3] (fun i wr => ∃ k q : Nat, k ≤ n ∧ i = .int .i64 k ∧ Hid (anyB (l.take k) = true) ∧ wr = w.drewN q) (fun i _ => n - (intOf i).toNat)
  case atStart => exact ⟨0, 0, Nat.zero_le _, rfl, hide rfl, rfl⟩
  case round =>
    obtain ⟨k, q, hk, rfl, HA, rfl⟩ := hrel
    by_cases hlt : k < n
    · obtain ⟨b, o, s, rfl, hb, hs, c0, c1, c2⟩ := hr.get hlt
      by_cases h1 : s.high < s.low
      · by_cases h2 : s.ab = true
        · have HA2 := hide (all_next2 hs (unhide HA) (by simp [someB, h2]))
          rw [h2] at c2
          clear hs h2
          go_wp2_with fail
          go_quiet (fail)
          go_wp2_with fail
          go_roundw
          case rel => exact ⟨k + 1, q + nq, by omega, by go_num, HA2, by first | rfl | rw [World.drewN_drewN]⟩
          case measure => simp [intOf]; omega
        · have h2' : s.ab = false := by simpa using h2
          have HA2 := hide (any_bad hs (by simp [someB, h2']; omega))
          rw [h2'] at c2
          clear hs h2 h2'
          go_wp2_with fail
          go_quiet (fail)
          go_wp2_with fail
          go_ret
          exact ⟨by rw [unhide HA2]; rfl, _, by first | rfl | rw [World.drewN_drewN]⟩
      · have HA2 := hide (all_next2 hs (unhide HA) (by simp [someB]; left; omega))
        have h1' : decide (s.high < s.low) = false := by simpa using h1
        clear hs
        go_wp2_with fail
        go_quiet (fail)
        go_wp2_with fail
        go_roundw
        case rel => exact ⟨k + 1, q + nq, by omega, by go_num, HA2, by first | rfl | rw [World.drewN_drewN]⟩
        case measure => simp [intOf]; omega
    · have HA2 : Hid (anyB l = true) := hide (by have := unhide HA; rwa [List.take_of_length_le (by have := unhide HL; omega)] at this)
      go_wp2_with fail
      go_ret
      exact ⟨by rw [unhide HA2]; rfl, q, rfl⟩

theorem post_name {Q : Exit → Act → World → Prop} {x : Exit} {a : Act} {W : World} (h : ∀ X, X = W → Q x a X) : Q x a W := h W rfl
theorem own_lt2 {w : World} {base : Nat} {e : TypeId} {size n : Nat} {v : Value} {xs : List Value} (h : w.ownsRow base e size v n xs) : ∀ k, v.ownBlock = some k → k < w.heap.size := fun k hk => (h.lt k hk).2
theorem own_drewN {w : World} {base : Nat} {e : TypeId} {size n : Nat} {v : Value} {xs : List Value} (h : w.ownsRow base e size v n xs) (q : Nat) : (w.drewN q).ownsRow base e size v n xs := h
theorem meet_next {a b : List Sp} {k : Nat} {s u : Sp} (h : a[k]? = some s) (h' : b[k]? = some u) : meetL (a.take (k + 1)) (b.take (k + 1)) = meetL (a.take k) (b.take k) ++ [meetS s u] := by
  unfold meetL
  have h1 : k < a.length := (List.getElem?_eq_some_iff.1 h).1
  have h2 : k < b.length := (List.getElem?_eq_some_iff.1 h').1
  rw [take_next h, take_next h', List.zipWith_append (by simp; omega)]
  rfl

set_option maxRecDepth 100000 in
set_option maxHeartbeats 2000000 in
theorem rmeet_any (A C : Option Addr) (n c c' B B' : Nat) (a b : List Sp) (w : World) (ha : SReads w B A n a) (hb : SReads w B' C n b) (hB : B ≤ w.heap.size) (hB' : B' ≤ w.heap.size) (hn : n ≤ 100000000) :
    Calls Tryd.prog 42 #[.slice A n c, .slice C n c'] w fun e w' => ∃ v, e = .returned v ∧ SpOwn w' w.heap.size v n (meetL a b) ∧ Below w.heap.size w w' := by
  have HLa := hide ha.len
  have HLb := hide hb.len
  go_enter Tryd.func42, Tryd.ntmps42
  go_wp2_with fail
  go_loopw [5, 6] (fun v i wr => ∃ k : Nat, k ≤ n ∧ i = .int .i64 k ∧ Hid (SpOwn wr w.heap.size v k (meetL (a.take k) (b.take k))) ∧ Below w.heap.size w wr) (fun _ i _ => n - (intOf i).toNat)
  case atStart => exact ⟨0, Nat.zero_le _, rfl, hide (World.ownsRow_nil _ _ _ _), Below.refl _ _⟩
  case round =>
    obtain ⟨k, hk, rfl, HO, hbel⟩ := hrel
    have hsz := hbel.size
    by_cases hlt : k < n
    · obtain ⟨b1, o1, s, rfl, hb1, hs, c0, c1, c2⟩ := (ha.below (hbel.mono hB)).get hlt
      obtain ⟨b2, o2, u, rfl, hb2, hu, d0, d1, d2⟩ := (hb.below (hbel.mono hB')).get hlt
      have HN := hide (meet_next hs hu)
      obtain ⟨s0, s1, s2⟩ := s
      obtain ⟨u0, u1, u2⟩ := u
      dsimp only at c0 c1 c2 d0 d1 d2
      have hb1' : b1 < wr.heap.size := by omega
      have hb2' : b2 < wr.heap.size := by omega
      clear hs hu
      have hown := unhide HO
      unfold SpOwn at hown
      have hne : ∀ i, u5.ownBlock = some i → i ≠ wr.heap.size := fun i hi => by have := own_lt2 hown i hi; omega
      by_cases h1 : s0 < u0
      · by_cases h2 : u1 < s1
        · cases s2
          · have HM : Hid (meetS ⟨s0, s1, false⟩ ⟨u0, u1, u2⟩ = ⟨u0, u1, false⟩) := hide (by simp [meetS]; omega)
            go_wp2_with fail
            go_quiet (fail)
            refine post_name fun X hX => ?_
            have bX : Blk X wr.heap.size 87 #[.int .i64 s0, .int .i64 s1, .bool false] := by rw [hX]; exact (Blk.new wr _ _).drewN _
            have oX : X.ownsRow w.heap.size 87 3 u5 k ((meetL (a.take k) (b.take k)).flatMap Sp.cells) := by rw [hX]; exact own_drewN (hown.alloc _) _
            have bwX : Below wr.heap.size wr X := by rw [hX]; exact below_drewN ((Below.refl _ _).alloc (Nat.le_refl _) _) _
            have d0X := (bwX.cell (p := ⟨b2, o2 + k * 3, none⟩) hb2').trans d0
            have d1X := (bwX.cell (p := ⟨b2, o2 + k * 3 + 1, none⟩) hb2').trans d1
            have d2X := (bwX.cell (p := ⟨b2, o2 + k * 3 + 2, none⟩) hb2').trans d2
            have e0 := bX.cell 0; have e1 := bX.cell 1; have e2 := bX.cell 2; have g0 := bX.frozen 0; have g1 := bX.frozen 1; have g2 := bX.frozen 2
            simp at e0 e1 e2
            clear hX c0 c1 c2 d0 d1 d2
            go_wp2_with fail
            go_quiet (fail)
            refine post_name fun Y hY => ?_
            have bY : Blk Y wr.heap.size 87 #[.int .i64 u0, .int .i64 s1, .bool false] := by rw [hY]; exact (bX.set_ 0 _).drewN _
            have oY : Y.ownsRow w.heap.size 87 3 u5 k ((meetL (a.take k) (b.take k)).flatMap Sp.cells) := by rw [hY]; exact own_drewN (own_farR oX (p := ⟨wr.heap.size, 0, none⟩) hne _) _
            have bwY : Below wr.heap.size wr Y := by rw [hY]; exact below_drewN (bwX.setCell (p := ⟨wr.heap.size, 0, none⟩) (Nat.le_refl _) _) _
            have d1Y := (bwY.cell (p := ⟨b2, o2 + k * 3 + 1, none⟩) hb2').trans ((bwX.cell (p := ⟨b2, o2 + k * 3 + 1, none⟩) hb2').symm.trans d1X)
            have d2Y := (bwY.cell (p := ⟨b2, o2 + k * 3 + 2, none⟩) hb2').trans ((bwX.cell (p := ⟨b2, o2 + k * 3 + 2, none⟩) hb2').symm.trans d2X)
            have k0 := bY.cell 0; have k1 := bY.cell 1; have k2 := bY.cell 2; have j0 := bY.frozen 0; have j1 := bY.frozen 1; have j2 := bY.frozen 2
            simp at k0 k1 k2
            have hsY : w.heap.size ≤ Y.heap.size := Nat.le_trans hsz bwY.size
            have oZ := (own_farR (own_farR oY (p := ⟨wr.heap.size, 1, none⟩) hne (.int .i64 u1)) (p := ⟨wr.heap.size, 2, none⟩) hne (.bool false))
            have HBZ := hide ((bwY.setCell (p := ⟨wr.heap.size, 1, none⟩) (Nat.le_refl _) (.int .i64 u1)).setCell (p := ⟨wr.heap.size, 2, none⟩) (Nat.le_refl _) (.bool false))
            clear hY bX oX bwX d0X d1X d2X e0 e1 e2 g0 g1 g2 bY oY bwY
            go_wp2_with (at_builtin; refine app_one elem_span (.tmp 56) (.tmp 58) [.int .i64 u0, .int .i64 u1, .bool false] rfl rfl rfl oZ rfl (by simp [World.setCell]) rfl (by simp [Value.oneCell']) (by omega) (by simp [World.setCell]; omega) ?_; intro v1 w2 hown2 hb9 _ _)
            go_roundw
            case rel => exact ⟨k + 1, by omega, by go_num, hide (by unfold SpOwn; rw [unhide HN, unhide HM, List.flatMap_append]; exact hown2), (hbel.trans ((unhide HBZ).mono hsz)).trans hb9⟩
            case measure => simp [intOf]; omega
          · have HM : Hid (meetS ⟨s0, s1, true⟩ ⟨u0, u1, u2⟩ = ⟨u0, u1, u2⟩) := hide (by simp [meetS]; omega)
            go_wp2_with fail
            go_quiet (fail)
            refine post_name fun X hX => ?_
            have bX : Blk X wr.heap.size 87 #[.int .i64 s0, .int .i64 s1, .bool true] := by rw [hX]; exact (Blk.new wr _ _).drewN _
            have oX : X.ownsRow w.heap.size 87 3 u5 k ((meetL (a.take k) (b.take k)).flatMap Sp.cells) := by rw [hX]; exact own_drewN (hown.alloc _) _
            have bwX : Below wr.heap.size wr X := by rw [hX]; exact below_drewN ((Below.refl _ _).alloc (Nat.le_refl _) _) _
            have d0X := (bwX.cell (p := ⟨b2, o2 + k * 3, none⟩) hb2').trans d0
            have d1X := (bwX.cell (p := ⟨b2, o2 + k * 3 + 1, none⟩) hb2').trans d1
            have d2X := (bwX.cell (p := ⟨b2, o2 + k * 3 + 2, none⟩) hb2').trans d2
            have e0 := bX.cell 0; have e1 := bX.cell 1; have e2 := bX.cell 2; have g0 := bX.frozen 0; have g1 := bX.frozen 1; have g2 := bX.frozen 2
            simp at e0 e1 e2
            clear hX c0 c1 c2 d0 d1 d2
            go_wp2_with fail
            go_quiet (fail)
            refine post_name fun Y hY => ?_
            have bY : Blk Y wr.heap.size 87 #[.int .i64 u0, .int .i64 s1, .bool true] := by rw [hY]; exact (bX.set_ 0 _).drewN _
            have oY : Y.ownsRow w.heap.size 87 3 u5 k ((meetL (a.take k) (b.take k)).flatMap Sp.cells) := by rw [hY]; exact own_drewN (own_farR oX (p := ⟨wr.heap.size, 0, none⟩) hne _) _
            have bwY : Below wr.heap.size wr Y := by rw [hY]; exact below_drewN (bwX.setCell (p := ⟨wr.heap.size, 0, none⟩) (Nat.le_refl _) _) _
            have d1Y := (bwY.cell (p := ⟨b2, o2 + k * 3 + 1, none⟩) hb2').trans ((bwX.cell (p := ⟨b2, o2 + k * 3 + 1, none⟩) hb2').symm.trans d1X)
            have d2Y := (bwY.cell (p := ⟨b2, o2 + k * 3 + 2, none⟩) hb2').trans ((bwX.cell (p := ⟨b2, o2 + k * 3 + 2, none⟩) hb2').symm.trans d2X)
            have k0 := bY.cell 0; have k1 := bY.cell 1; have k2 := bY.cell 2; have j0 := bY.frozen 0; have j1 := bY.frozen 1; have j2 := bY.frozen 2
            simp at k0 k1 k2
            have hsY : w.heap.size ≤ Y.heap.size := Nat.le_trans hsz bwY.size
            have oZ := (own_farR (own_farR oY (p := ⟨wr.heap.size, 1, none⟩) hne (.int .i64 u1)) (p := ⟨wr.heap.size, 2, none⟩) hne (.bool u2))
            have HBZ := hide ((bwY.setCell (p := ⟨wr.heap.size, 1, none⟩) (Nat.le_refl _) (.int .i64 u1)).setCell (p := ⟨wr.heap.size, 2, none⟩) (Nat.le_refl _) (.bool u2))
            clear hY bX oX bwX d0X d1X d2X e0 e1 e2 g0 g1 g2 bY oY bwY
            go_wp2_with (at_builtin; refine app_one elem_span (.tmp 56) (.tmp 58) [.int .i64 u0, .int .i64 u1, .bool u2] rfl rfl rfl oZ rfl (by simp [World.setCell]) rfl (by simp [Value.oneCell']) (by omega) (by simp [World.setCell]; omega) ?_; intro v1 w2 hown2 hb9 _ _)
            go_roundw
            case rel => exact ⟨k + 1, by omega, by go_num, hide (by unfold SpOwn; rw [unhide HN, unhide HM, List.flatMap_append]; exact hown2), (hbel.trans ((unhide HBZ).mono hsz)).trans hb9⟩
            case measure => simp [intOf]; omega
        · cases s2
          · have HM : Hid (meetS ⟨s0, s1, false⟩ ⟨u0, u1, u2⟩ = ⟨u0, s1, false⟩) := hide (by simp [meetS]; omega)
            go_wp2_with fail
            go_quiet (fail)
            refine post_name fun X hX => ?_
            have bX : Blk X wr.heap.size 87 #[.int .i64 s0, .int .i64 s1, .bool false] := by rw [hX]; exact (Blk.new wr _ _).drewN _
            have oX : X.ownsRow w.heap.size 87 3 u5 k ((meetL (a.take k) (b.take k)).flatMap Sp.cells) := by rw [hX]; exact own_drewN (hown.alloc _) _
            have bwX : Below wr.heap.size wr X := by rw [hX]; exact below_drewN ((Below.refl _ _).alloc (Nat.le_refl _) _) _
            have d0X := (bwX.cell (p := ⟨b2, o2 + k * 3, none⟩) hb2').trans d0
            have d1X := (bwX.cell (p := ⟨b2, o2 + k * 3 + 1, none⟩) hb2').trans d1
            have d2X := (bwX.cell (p := ⟨b2, o2 + k * 3 + 2, none⟩) hb2').trans d2
            have e0 := bX.cell 0; have e1 := bX.cell 1; have e2 := bX.cell 2; have g0 := bX.frozen 0; have g1 := bX.frozen 1; have g2 := bX.frozen 2
            simp at e0 e1 e2
            clear hX c0 c1 c2 d0 d1 d2
            go_wp2_with fail
            go_quiet (fail)
            refine post_name fun Y hY => ?_
            have bY : Blk Y wr.heap.size 87 #[.int .i64 u0, .int .i64 s1, .bool false] := by rw [hY]; exact (bX.set_ 0 _).drewN _
            have oY : Y.ownsRow w.heap.size 87 3 u5 k ((meetL (a.take k) (b.take k)).flatMap Sp.cells) := by rw [hY]; exact own_drewN (own_farR oX (p := ⟨wr.heap.size, 0, none⟩) hne _) _
            have bwY : Below wr.heap.size wr Y := by rw [hY]; exact below_drewN (bwX.setCell (p := ⟨wr.heap.size, 0, none⟩) (Nat.le_refl _) _) _
            have d1Y := (bwY.cell (p := ⟨b2, o2 + k * 3 + 1, none⟩) hb2').trans ((bwX.cell (p := ⟨b2, o2 + k * 3 + 1, none⟩) hb2').symm.trans d1X)
            have d2Y := (bwY.cell (p := ⟨b2, o2 + k * 3 + 2, none⟩) hb2').trans ((bwX.cell (p := ⟨b2, o2 + k * 3 + 2, none⟩) hb2').symm.trans d2X)
            have k0 := bY.cell 0; have k1 := bY.cell 1; have k2 := bY.cell 2; have j0 := bY.frozen 0; have j1 := bY.frozen 1; have j2 := bY.frozen 2
            simp at k0 k1 k2
            have hsY : w.heap.size ≤ Y.heap.size := Nat.le_trans hsz bwY.size
            have oZ := (own_farR oY (p := ⟨wr.heap.size, 2, none⟩) hne (.bool false))
            have HBZ := hide (bwY.setCell (p := ⟨wr.heap.size, 2, none⟩) (Nat.le_refl _) (.bool false))
            clear hY bX oX bwX d0X d1X d2X e0 e1 e2 g0 g1 g2 bY oY bwY
            go_wp2_with (at_builtin; refine app_one elem_span (.tmp 56) (.tmp 58) [.int .i64 u0, .int .i64 s1, .bool false] rfl rfl rfl oZ rfl (by simp [World.setCell]) rfl (by simp [Value.oneCell']) (by omega) (by simp [World.setCell]; omega) ?_; intro v1 w2 hown2 hb9 _ _)
            go_roundw
            case rel => exact ⟨k + 1, by omega, by go_num, hide (by unfold SpOwn; rw [unhide HN, unhide HM, List.flatMap_append]; exact hown2), (hbel.trans ((unhide HBZ).mono hsz)).trans hb9⟩
            case measure => simp [intOf]; omega
          · have HM : Hid (meetS ⟨s0, s1, true⟩ ⟨u0, u1, u2⟩ = ⟨u0, s1, u2⟩) := hide (by simp [meetS]; omega)
            go_wp2_with fail
            go_quiet (fail)
            refine post_name fun X hX => ?_
            have bX : Blk X wr.heap.size 87 #[.int .i64 s0, .int .i64 s1, .bool true] := by rw [hX]; exact (Blk.new wr _ _).drewN _
            have oX : X.ownsRow w.heap.size 87 3 u5 k ((meetL (a.take k) (b.take k)).flatMap Sp.cells) := by rw [hX]; exact own_drewN (hown.alloc _) _
            have bwX : Below wr.heap.size wr X := by rw [hX]; exact below_drewN ((Below.refl _ _).alloc (Nat.le_refl _) _) _
            have d0X := (bwX.cell (p := ⟨b2, o2 + k * 3, none⟩) hb2').trans d0
            have d1X := (bwX.cell (p := ⟨b2, o2 + k * 3 + 1, none⟩) hb2').trans d1
            have d2X := (bwX.cell (p := ⟨b2, o2 + k * 3 + 2, none⟩) hb2').trans d2
            have e0 := bX.cell 0; have e1 := bX.cell 1; have e2 := bX.cell 2; have g0 := bX.frozen 0; have g1 := bX.frozen 1; have g2 := bX.frozen 2
            simp at e0 e1 e2
            clear hX c0 c1 c2 d0 d1 d2
            go_wp2_with fail
            go_quiet (fail)
            refine post_name fun Y hY => ?_
            have bY : Blk Y wr.heap.size 87 #[.int .i64 u0, .int .i64 s1, .bool true] := by rw [hY]; exact (bX.set_ 0 _).drewN _
            have oY : Y.ownsRow w.heap.size 87 3 u5 k ((meetL (a.take k) (b.take k)).flatMap Sp.cells) := by rw [hY]; exact own_drewN (own_farR oX (p := ⟨wr.heap.size, 0, none⟩) hne _) _
            have bwY : Below wr.heap.size wr Y := by rw [hY]; exact below_drewN (bwX.setCell (p := ⟨wr.heap.size, 0, none⟩) (Nat.le_refl _) _) _
            have d1Y := (bwY.cell (p := ⟨b2, o2 + k * 3 + 1, none⟩) hb2').trans ((bwX.cell (p := ⟨b2, o2 + k * 3 + 1, none⟩) hb2').symm.trans d1X)
            have d2Y := (bwY.cell (p := ⟨b2, o2 + k * 3 + 2, none⟩) hb2').trans ((bwX.cell (p := ⟨b2, o2 + k * 3 + 2, none⟩) hb2').symm.trans d2X)
            have k0 := bY.cell 0; have k1 := bY.cell 1; have k2 := bY.cell 2; have j0 := bY.frozen 0; have j1 := bY.frozen 1; have j2 := bY.frozen 2
            simp at k0 k1 k2
            have hsY : w.heap.size ≤ Y.heap.size := Nat.le_trans hsz bwY.size
            have oZ := (own_farR oY (p := ⟨wr.heap.size, 2, none⟩) hne (.bool u2))
            have HBZ := hide (bwY.setCell (p := ⟨wr.heap.size, 2, none⟩) (Nat.le_refl _) (.bool u2))
            clear hY bX oX bwX d0X d1X d2X e0 e1 e2 g0 g1 g2 bY oY bwY
            go_wp2_with (at_builtin; refine app_one elem_span (.tmp 56) (.tmp 58) [.int .i64 u0, .int .i64 s1, .bool u2] rfl rfl rfl oZ rfl (by simp [World.setCell]) rfl (by simp [Value.oneCell']) (by omega) (by simp [World.setCell]; omega) ?_; intro v1 w2 hown2 hb9 _ _)
            go_roundw
            case rel => exact ⟨k + 1, by omega, by go_num, hide (by unfold SpOwn; rw [unhide HN, unhide HM, List.flatMap_append]; exact hown2), (hbel.trans ((unhide HBZ).mono hsz)).trans hb9⟩
            case measure => simp [intOf]; omega
      · by_cases h2 : u1 < s1
        · cases s2
          · have HM : Hid (meetS ⟨s0, s1, false⟩ ⟨u0, u1, u2⟩ = ⟨s0, u1, false⟩) := hide (by simp [meetS]; omega)
            go_wp2_with fail
            go_quiet (fail)
            refine post_name fun X hX => ?_
            have bX : Blk X wr.heap.size 87 #[.int .i64 s0, .int .i64 s1, .bool false] := by rw [hX]; exact (Blk.new wr _ _).drewN _
            have oX : X.ownsRow w.heap.size 87 3 u5 k ((meetL (a.take k) (b.take k)).flatMap Sp.cells) := by rw [hX]; exact own_drewN (hown.alloc _) _
            have bwX : Below wr.heap.size wr X := by rw [hX]; exact below_drewN ((Below.refl _ _).alloc (Nat.le_refl _) _) _
            have d0X := (bwX.cell (p := ⟨b2, o2 + k * 3, none⟩) hb2').trans d0
            have d1X := (bwX.cell (p := ⟨b2, o2 + k * 3 + 1, none⟩) hb2').trans d1
            have d2X := (bwX.cell (p := ⟨b2, o2 + k * 3 + 2, none⟩) hb2').trans d2
            have e0 := bX.cell 0; have e1 := bX.cell 1; have e2 := bX.cell 2; have g0 := bX.frozen 0; have g1 := bX.frozen 1; have g2 := bX.frozen 2
            simp at e0 e1 e2
            clear hX c0 c1 c2 d0 d1 d2
            go_wp2_with fail
            go_quiet (fail)
            refine post_name fun Y hY => ?_
            have bY : Blk Y wr.heap.size 87 #[.int .i64 s0, .int .i64 s1, .bool false] := by rw [hY]; exact bX.drewN _
            have oY : Y.ownsRow w.heap.size 87 3 u5 k ((meetL (a.take k) (b.take k)).flatMap Sp.cells) := by rw [hY]; exact own_drewN oX _
            have bwY : Below wr.heap.size wr Y := by rw [hY]; exact below_drewN bwX _
            have d1Y := (bwY.cell (p := ⟨b2, o2 + k * 3 + 1, none⟩) hb2').trans ((bwX.cell (p := ⟨b2, o2 + k * 3 + 1, none⟩) hb2').symm.trans d1X)
            have d2Y := (bwY.cell (p := ⟨b2, o2 + k * 3 + 2, none⟩) hb2').trans ((bwX.cell (p := ⟨b2, o2 + k * 3 + 2, none⟩) hb2').symm.trans d2X)
            have k0 := bY.cell 0; have k1 := bY.cell 1; have k2 := bY.cell 2; have j0 := bY.frozen 0; have j1 := bY.frozen 1; have j2 := bY.frozen 2
            simp at k0 k1 k2
            have hsY : w.heap.size ≤ Y.heap.size := Nat.le_trans hsz bwY.size
            have oZ := (own_farR (own_farR oY (p := ⟨wr.heap.size, 1, none⟩) hne (.int .i64 u1)) (p := ⟨wr.heap.size, 2, none⟩) hne (.bool false))
            have HBZ := hide ((bwY.setCell (p := ⟨wr.heap.size, 1, none⟩) (Nat.le_refl _) (.int .i64 u1)).setCell (p := ⟨wr.heap.size, 2, none⟩) (Nat.le_refl _) (.bool false))
            clear hY bX oX bwX d0X d1X d2X e0 e1 e2 g0 g1 g2 bY oY bwY
            go_wp2_with (at_builtin; refine app_one elem_span (.tmp 56) (.tmp 58) [.int .i64 s0, .int .i64 u1, .bool false] rfl rfl rfl oZ rfl (by simp [World.setCell]) rfl (by simp [Value.oneCell']) (by omega) (by simp [World.setCell]; omega) ?_; intro v1 w2 hown2 hb9 _ _)
            go_roundw
            case rel => exact ⟨k + 1, by omega, by go_num, hide (by unfold SpOwn; rw [unhide HN, unhide HM, List.flatMap_append]; exact hown2), (hbel.trans ((unhide HBZ).mono hsz)).trans hb9⟩
            case measure => simp [intOf]; omega
          · have HM : Hid (meetS ⟨s0, s1, true⟩ ⟨u0, u1, u2⟩ = ⟨s0, u1, u2⟩) := hide (by simp [meetS]; omega)
            go_wp2_with fail
            go_quiet (fail)
            refine post_name fun X hX => ?_
            have bX : Blk X wr.heap.size 87 #[.int .i64 s0, .int .i64 s1, .bool true] := by rw [hX]; exact (Blk.new wr _ _).drewN _
            have oX : X.ownsRow w.heap.size 87 3 u5 k ((meetL (a.take k) (b.take k)).flatMap Sp.cells) := by rw [hX]; exact own_drewN (hown.alloc _) _
            have bwX : Below wr.heap.size wr X := by rw [hX]; exact below_drewN ((Below.refl _ _).alloc (Nat.le_refl _) _) _
            have d0X := (bwX.cell (p := ⟨b2, o2 + k * 3, none⟩) hb2').trans d0
            have d1X := (bwX.cell (p := ⟨b2, o2 + k * 3 + 1, none⟩) hb2').trans d1
            have d2X := (bwX.cell (p := ⟨b2, o2 + k * 3 + 2, none⟩) hb2').trans d2
            have e0 := bX.cell 0; have e1 := bX.cell 1; have e2 := bX.cell 2; have g0 := bX.frozen 0; have g1 := bX.frozen 1; have g2 := bX.frozen 2
            simp at e0 e1 e2
            clear hX c0 c1 c2 d0 d1 d2
            go_wp2_with fail
            go_quiet (fail)
            refine post_name fun Y hY => ?_
            have bY : Blk Y wr.heap.size 87 #[.int .i64 s0, .int .i64 s1, .bool true] := by rw [hY]; exact bX.drewN _
            have oY : Y.ownsRow w.heap.size 87 3 u5 k ((meetL (a.take k) (b.take k)).flatMap Sp.cells) := by rw [hY]; exact own_drewN oX _
            have bwY : Below wr.heap.size wr Y := by rw [hY]; exact below_drewN bwX _
            have d1Y := (bwY.cell (p := ⟨b2, o2 + k * 3 + 1, none⟩) hb2').trans ((bwX.cell (p := ⟨b2, o2 + k * 3 + 1, none⟩) hb2').symm.trans d1X)
            have d2Y := (bwY.cell (p := ⟨b2, o2 + k * 3 + 2, none⟩) hb2').trans ((bwX.cell (p := ⟨b2, o2 + k * 3 + 2, none⟩) hb2').symm.trans d2X)
            have k0 := bY.cell 0; have k1 := bY.cell 1; have k2 := bY.cell 2; have j0 := bY.frozen 0; have j1 := bY.frozen 1; have j2 := bY.frozen 2
            simp at k0 k1 k2
            have hsY : w.heap.size ≤ Y.heap.size := Nat.le_trans hsz bwY.size
            have oZ := (own_farR (own_farR oY (p := ⟨wr.heap.size, 1, none⟩) hne (.int .i64 u1)) (p := ⟨wr.heap.size, 2, none⟩) hne (.bool u2))
            have HBZ := hide ((bwY.setCell (p := ⟨wr.heap.size, 1, none⟩) (Nat.le_refl _) (.int .i64 u1)).setCell (p := ⟨wr.heap.size, 2, none⟩) (Nat.le_refl _) (.bool u2))
            clear hY bX oX bwX d0X d1X d2X e0 e1 e2 g0 g1 g2 bY oY bwY
            go_wp2_with (at_builtin; refine app_one elem_span (.tmp 56) (.tmp 58) [.int .i64 s0, .int .i64 u1, .bool u2] rfl rfl rfl oZ rfl (by simp [World.setCell]) rfl (by simp [Value.oneCell']) (by omega) (by simp [World.setCell]; omega) ?_; intro v1 w2 hown2 hb9 _ _)
            go_roundw
            case rel => exact ⟨k + 1, by omega, by go_num, hide (by unfold SpOwn; rw [unhide HN, unhide HM, List.flatMap_append]; exact hown2), (hbel.trans ((unhide HBZ).mono hsz)).trans hb9⟩
            case measure => simp [intOf]; omega
        · cases s2
          · have HM : Hid (meetS ⟨s0, s1, false⟩ ⟨u0, u1, u2⟩ = ⟨s0, s1, false⟩) := hide (by simp [meetS]; omega)
            go_wp2_with fail
            go_quiet (fail)
            refine post_name fun X hX => ?_
            have bX : Blk X wr.heap.size 87 #[.int .i64 s0, .int .i64 s1, .bool false] := by rw [hX]; exact (Blk.new wr _ _).drewN _
            have oX : X.ownsRow w.heap.size 87 3 u5 k ((meetL (a.take k) (b.take k)).flatMap Sp.cells) := by rw [hX]; exact own_drewN (hown.alloc _) _
            have bwX : Below wr.heap.size wr X := by rw [hX]; exact below_drewN ((Below.refl _ _).alloc (Nat.le_refl _) _) _
            have d0X := (bwX.cell (p := ⟨b2, o2 + k * 3, none⟩) hb2').trans d0
            have d1X := (bwX.cell (p := ⟨b2, o2 + k * 3 + 1, none⟩) hb2').trans d1
            have d2X := (bwX.cell (p := ⟨b2, o2 + k * 3 + 2, none⟩) hb2').trans d2
            have e0 := bX.cell 0; have e1 := bX.cell 1; have e2 := bX.cell 2; have g0 := bX.frozen 0; have g1 := bX.frozen 1; have g2 := bX.frozen 2
            simp at e0 e1 e2
            clear hX c0 c1 c2 d0 d1 d2
            go_wp2_with fail
            go_quiet (fail)
            refine post_name fun Y hY => ?_
            have bY : Blk Y wr.heap.size 87 #[.int .i64 s0, .int .i64 s1, .bool false] := by rw [hY]; exact bX.drewN _
            have oY : Y.ownsRow w.heap.size 87 3 u5 k ((meetL (a.take k) (b.take k)).flatMap Sp.cells) := by rw [hY]; exact own_drewN oX _
            have bwY : Below wr.heap.size wr Y := by rw [hY]; exact below_drewN bwX _
            have d1Y := (bwY.cell (p := ⟨b2, o2 + k * 3 + 1, none⟩) hb2').trans ((bwX.cell (p := ⟨b2, o2 + k * 3 + 1, none⟩) hb2').symm.trans d1X)
            have d2Y := (bwY.cell (p := ⟨b2, o2 + k * 3 + 2, none⟩) hb2').trans ((bwX.cell (p := ⟨b2, o2 + k * 3 + 2, none⟩) hb2').symm.trans d2X)
            have k0 := bY.cell 0; have k1 := bY.cell 1; have k2 := bY.cell 2; have j0 := bY.frozen 0; have j1 := bY.frozen 1; have j2 := bY.frozen 2
            simp at k0 k1 k2
            have hsY : w.heap.size ≤ Y.heap.size := Nat.le_trans hsz bwY.size
            have oZ := (own_farR oY (p := ⟨wr.heap.size, 2, none⟩) hne (.bool false))
            have HBZ := hide (bwY.setCell (p := ⟨wr.heap.size, 2, none⟩) (Nat.le_refl _) (.bool false))
            clear hY bX oX bwX d0X d1X d2X e0 e1 e2 g0 g1 g2 bY oY bwY
            go_wp2_with (at_builtin; refine app_one elem_span (.tmp 56) (.tmp 58) [.int .i64 s0, .int .i64 s1, .bool false] rfl rfl rfl oZ rfl (by simp [World.setCell]) rfl (by simp [Value.oneCell']) (by omega) (by simp [World.setCell]; omega) ?_; intro v1 w2 hown2 hb9 _ _)
            go_roundw
            case rel => exact ⟨k + 1, by omega, by go_num, hide (by unfold SpOwn; rw [unhide HN, unhide HM, List.flatMap_append]; exact hown2), (hbel.trans ((unhide HBZ).mono hsz)).trans hb9⟩
            case measure => simp [intOf]; omega
          · have HM : Hid (meetS ⟨s0, s1, true⟩ ⟨u0, u1, u2⟩ = ⟨s0, s1, u2⟩) := hide (by simp [meetS]; omega)
            go_wp2_with fail
            go_quiet (fail)
            refine post_name fun X hX => ?_
            have bX : Blk X wr.heap.size 87 #[.int .i64 s0, .int .i64 s1, .bool true] := by rw [hX]; exact (Blk.new wr _ _).drewN _
            have oX : X.ownsRow w.heap.size 87 3 u5 k ((meetL (a.take k) (b.take k)).flatMap Sp.cells) := by rw [hX]; exact own_drewN (hown.alloc _) _
            have bwX : Below wr.heap.size wr X := by rw [hX]; exact below_drewN ((Below.refl _ _).alloc (Nat.le_refl _) _) _
            have d0X := (bwX.cell (p := ⟨b2, o2 + k * 3, none⟩) hb2').trans d0
            have d1X := (bwX.cell (p := ⟨b2, o2 + k * 3 + 1, none⟩) hb2').trans d1
            have d2X := (bwX.cell (p := ⟨b2, o2 + k * 3 + 2, none⟩) hb2').trans d2
            have e0 := bX.cell 0; have e1 := bX.cell 1; have e2 := bX.cell 2; have g0 := bX.frozen 0; have g1 := bX.frozen 1; have g2 := bX.frozen 2
            simp at e0 e1 e2
            clear hX c0 c1 c2 d0 d1 d2
            go_wp2_with fail
            go_quiet (fail)
            refine post_name fun Y hY => ?_
            have bY : Blk Y wr.heap.size 87 #[.int .i64 s0, .int .i64 s1, .bool true] := by rw [hY]; exact bX.drewN _
            have oY : Y.ownsRow w.heap.size 87 3 u5 k ((meetL (a.take k) (b.take k)).flatMap Sp.cells) := by rw [hY]; exact own_drewN oX _
            have bwY : Below wr.heap.size wr Y := by rw [hY]; exact below_drewN bwX _
            have d1Y := (bwY.cell (p := ⟨b2, o2 + k * 3 + 1, none⟩) hb2').trans ((bwX.cell (p := ⟨b2, o2 + k * 3 + 1, none⟩) hb2').symm.trans d1X)
            have d2Y := (bwY.cell (p := ⟨b2, o2 + k * 3 + 2, none⟩) hb2').trans ((bwX.cell (p := ⟨b2, o2 + k * 3 + 2, none⟩) hb2').symm.trans d2X)
            have k0 := bY.cell 0; have k1 := bY.cell 1; have k2 := bY.cell 2; have j0 := bY.frozen 0; have j1 := bY.frozen 1; have j2 := bY.frozen 2
            simp at k0 k1 k2
            have hsY : w.heap.size ≤ Y.heap.size := Nat.le_trans hsz bwY.size
            have oZ := (own_farR oY (p := ⟨wr.heap.size, 2, none⟩) hne (.bool u2))
            have HBZ := hide (bwY.setCell (p := ⟨wr.heap.size, 2, none⟩) (Nat.le_refl _) (.bool u2))
            clear hY bX oX bwX d0X d1X d2X e0 e1 e2 g0 g1 g2 bY oY bwY
            go_wp2_with (at_builtin; refine app_one elem_span (.tmp 56) (.tmp 58) [.int .i64 s0, .int .i64 s1, .bool u2] rfl rfl rfl oZ rfl (by simp [World.setCell]) rfl (by simp [Value.oneCell']) (by omega) (by simp [World.setCell]; omega) ?_; intro v1 w2 hown2 hb9 _ _)
            go_roundw
            case rel => exact ⟨k + 1, by omega, by go_num, hide (by unfold SpOwn; rw [unhide HN, unhide HM, List.flatMap_append]; exact hown2), (hbel.trans ((unhide HBZ).mono hsz)).trans hb9⟩
            case measure => simp [intOf]; omega
    · obtain rfl : k = n := by omega
      have hown := unhide HO
      rw [List.take_of_length_le (by have := unhide HLa; omega), List.take_of_length_le (by have := unhide HLb; omega)] at hown
      clear HO
      have HO := hide hown
      clear hown
      go_wp2_with fail
      go_ret
      exact ⟨_, rfl, unhide HO, hbel⟩
end Go.Proofs.YtefkjpcgcgofgaaDoor
