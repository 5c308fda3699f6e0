/- Part 14 of what LawPathTells needs: Pick, Args, Differ. Conditions: as each lemma names. -/
import Derived.Test.YtibbohebmmahmaaGreatDoorPkPathTells13
import Derived.Test.YtibbohebmmahmaaGreatDoorPkPathTells02
import Derived.OpenShut
/- path.Wide, path.Pick. Conditions: as each lemma names. -/
namespace Go.Proofs.YtibbohebmmahmaaGreatDoor
set_option linter.unusedVariables false
set_option linter.unusedSimpArgs false
open Go.RowKit

def wideS : Sp := ⟨-1000000, 1000000, true⟩
def wideL (n : Nat) : List Sp := List.replicate n wideS
def pickS (s : Sp) : Int := if s.low ≤ s.high then s.low else -1125899906842624
def pickL (l : List Sp) : List Int := l.map pickS
theorem pick_next {l : List Sp} {k : Nat} {s : Sp} (h : l[k]? = some s) : pickL (l.take (k + 1)) = pickL (l.take k) ++ [pickS s] := by unfold pickL; rw [take_next h]; simp

set_option maxRecDepth 100000 in
set_option maxHeartbeats 1000000 in
theorem pick_any (A : Option Addr) (n c B : Nat) (l : List Sp) (w : World) (hr : SReads w B A n l) (hB : B ≤ w.heap.size) (hn : n ≤ 100000000) :
    Calls Tryz.prog 40 #[.slice A n c] w fun e w' => ∃ v, e = .returned v ∧ w'.ownsRow w.heap.size 3 1 v n ((pickL l).map (Value.int .i64)) ∧ (v = .slice none 0 0 ↔ n = 0) ∧ Below w.heap.size w w' := by
  have HL := hide hr.len
  go_enter Tryz.func40, Tryz.ntmps40
  go_wp2_with fail
  go_loopw [3, 8] (fun v i wr => ∃ k : Nat, k ≤ n ∧ i = .int .i64 k ∧ wr.ownsRow w.heap.size 3 1 v k ((pickL (l.take k)).map (Value.int .i64)) ∧ Hid (v = .slice none 0 0 ↔ k = 0) ∧ Below w.heap.size w wr) (fun _ i _ => n - (intOf i).toNat)
  case atStart => exact ⟨0, Nat.zero_le _, rfl, by simpa [pickL] using World.ownsRow_nil _ _ _ _, hide (by simp), Below.refl _ _⟩
  case round =>
    obtain ⟨k, hk, rfl, hown, HV, hbel⟩ := hrel
    have hsz := hbel.size
    by_cases hlt : k < n
    · obtain ⟨b, o, s, rfl, hb, hx, c0, c1, c2⟩ := (hr.below (hbel.mono hB)).get hlt
      have HX := hide (pick_next hx)
      obtain ⟨s0, s1, s2⟩ := s
      dsimp only at c0 c1 c2
      have hb9 : ∀ o, w.heap.size ≤ (wr.alloc o).heap.size := fun o => by rw [World.size_alloc]; omega
      clear hx
      by_cases h1 : s0 ≤ s1
      · have HY : Hid (pickL (l.take (k + 1)) = pickL (l.take k) ++ [s0]) := hide (by rw [unhide HX]; simp [pickS, h1])
        have hk9 : k < 1000000000 := by omega
        go_wp2_with (at_builtin; refine app_one elem_int (.tmp 17) (.tmp 20) [.int .i64 s0] rfl rfl rfl (hown.alloc _) rfl (World.size_alloc _ _) rfl (ints_oneCell .i64 [s0]) hk9 (hb9 _) ?_; intro v' w2 hown2 hb2 hne _)
        go_roundw
        case rel => exact ⟨k + 1, by omega, by go_num, by rw [unhide HY]; simpa using hown2, hide (by constructor <;> intro h <;> first | exact absurd h hne | omega), (hbel.alloc hsz _).trans hb2⟩
        case measure => simp [intOf] <;> omega
      · have HY : Hid (pickL (l.take (k + 1)) = pickL (l.take k) ++ [-1125899906842624]) := hide (by rw [unhide HX]; simp [pickS, h1])
        have hk9 : k < 1000000000 := by omega
        go_wp2_with (at_builtin; refine app_one elem_int (.tmp 22) (.tmp 23) [.int .i64 (-1125899906842624)] rfl rfl rfl (hown.alloc _) rfl (World.size_alloc _ _) rfl (ints_oneCell .i64 [-1125899906842624]) hk9 (hb9 _) ?_; intro v' w2 hown2 hb2 hne _)
        go_roundw
        case rel => exact ⟨k + 1, by omega, by go_num, by rw [unhide HY]; simpa using hown2, hide (by constructor <;> intro h <;> first | exact absurd h hne | omega), (hbel.alloc hsz _).trans hb2⟩
        case measure => simp [intOf] <;> omega
    · obtain rfl : k = n := by omega
      rw [List.take_of_length_le (by have := unhide HL; omega)] at hown
      go_wp2_with fail
      go_ret
      exact ⟨_, rfl, hown, unhide HV, hbel⟩

def zeroS : Sp := ⟨0, 0, false⟩
theorem made_span (n : Nat) (hn : n ≤ 8) : madeCells (Value.agg #[.int .i64 0, .int .i64 0, .bool false]).cells (n * 3) = ((List.replicate n zeroS).flatMap Sp.cells).toArray := by
  rcases n with _ | _ | _ | _ | _ | _ | _ | _ | _ | n <;> first | omega | kernel_rfl
theorem run_make_span (n : Nat) (hn : n ≤ 8) (w : World) : (Instr.makeSlice 24 (.int .i64 (n : Int)) (.int .i64 (n : Int))).run Tryz.prog w = .ok (.slice (some ⟨w.heap.size, 0, none⟩) n n) (w.alloc (.cells ((List.replicate n zeroS).flatMap Sp.cells).toArray 44)) := by
  obtain ⟨i, hi, hz, hs, hb⟩ := info_parts elem_span.info
  have := run_makeSlice (P := Tryz.prog) w 24 44 i _ elem_span.und hi hz .i64 .i64 n n (by omega) (by omega) (by rw [hs]; omega) (by rw [hb]; omega) (by omega)
  rw [hs, Int.toNat_natCast, made_span n hn] at this
  exact this
def wideK (n k : Nat) : List Sp := List.replicate k wideS ++ List.replicate (n - k) zeroS
theorem wideK_set {n k : Nat} (h : k < n) : (wideK n k).set k wideS = wideK n (k + 1) := by
  unfold wideK
  obtain ⟨m, hm⟩ : ∃ m, n - k = m + 1 := ⟨n - k - 1, by omega⟩
  rw [List.set_append_right _ _ (by simp), hm, show n - (k + 1) = m by omega, List.length_replicate, Nat.sub_self, List.replicate_succ, List.set_cons_zero, List.replicate_succ', List.append_assoc]
  rfl

theorem set3 {w : World} {g a : Nat} {u0 u1 u2 x0 x1 x2 : Value} (c0 : w.cell? ⟨g, a, none⟩ = some x0) (c1 : w.cell? ⟨g, a + 1, none⟩ = some x1) (c2 : w.cell? ⟨g, a + 2, none⟩ = some x2) :
    (∀ j, j ≠ a → j ≠ a + 1 → j ≠ a + 2 → (((w.setCell ⟨g, a, none⟩ u0).setCell ⟨g, a + 1, none⟩ u1).setCell ⟨g, a + 2, none⟩ u2).cell? ⟨g, j, none⟩ = w.cell? ⟨g, j, none⟩) ∧
    (((w.setCell ⟨g, a, none⟩ u0).setCell ⟨g, a + 1, none⟩ u1).setCell ⟨g, a + 2, none⟩ u2).cell? ⟨g, a, none⟩ = some u0 ∧
    (((w.setCell ⟨g, a, none⟩ u0).setCell ⟨g, a + 1, none⟩ u1).setCell ⟨g, a + 2, none⟩ u2).cell? ⟨g, a + 1, none⟩ = some u1 ∧
    (((w.setCell ⟨g, a, none⟩ u0).setCell ⟨g, a + 1, none⟩ u1).setCell ⟨g, a + 2, none⟩ u2).cell? ⟨g, a + 2, none⟩ = some u2 := by
  have N : ∀ (W : World) (i j : Nat) (u : Value), i ≠ j → (W.setCell ⟨g, i, none⟩ u).cell? ⟨g, j, none⟩ = W.cell? ⟨g, j, none⟩ := fun W i j u h => World.cell?_setCell_other _ _ _ _ (by intro e; injection e; omega)
  refine ⟨fun j h0 h1 h2 => ?_, ?_, ?_, ?_⟩
  · rw [N _ _ _ _ (by omega), N _ _ _ _ (by omega), N _ _ _ _ (by omega)]
  · rw [N _ _ _ _ (by omega), N _ _ _ _ (by omega)]; exact World.cell?_setCell_same' _ _ _ (by rw [c0]; rfl)
  · rw [N _ _ _ _ (by omega)]; exact World.cell?_setCell_same' _ _ _ (by rw [N _ _ _ _ (by omega), c1]; rfl)
  · exact World.cell?_setCell_same' _ _ _ (by rw [N _ _ _ _ (by omega), N _ _ _ _ (by omega), c2]; rfl)
set_option maxRecDepth 100000 in
set_option maxHeartbeats 1000000 in
theorem wide_any (n : Nat) (hn : n ≤ 8) (w : World) :
    Calls Tryz.prog 34 #[.int .i64 n] w (SpPost n (wideL n) w) := by
  have hmk := run_make_span n hn
  have hbk := Blk.new w 44 ((List.replicate n zeroS).flatMap Sp.cells).toArray
  have hrd := Reads.new_ w 3 n ((List.replicate n zeroS).flatMap Sp.cells) 44 (by rw [flatMap_len Sp.cells 3 (fun _ => rfl)]; simp)
  go_enter Tryz.func34, Tryz.ntmps34
  go_wp2_with fail
  go_loopw [4, 9] (fun _ i wr => ∃ k : Nat, k ≤ n ∧ i = .int .i64 k ∧ SReads wr (w.heap.size + 1) (some ⟨w.heap.size, 0, none⟩) n (wideK n k) ∧ Hid (∃ cs, Blk wr w.heap.size 44 cs) ∧ Below w.heap.size w wr) (fun _ i _ => n - (intOf i).toNat)
  case atStart => exact ⟨0, Nat.zero_le _, rfl, by unfold wideK; simpa [SReads] using hrd, hide ⟨_, hbk⟩, (Below.refl _ _).alloc (Nat.le_refl _) _⟩
  case round =>
    obtain ⟨k, hk, rfl, hs, hblk, hbel⟩ := hrel
    obtain ⟨cs, hblk⟩ := unhide hblk
    clear hmk hbk hrd
    by_cases hlt : k < n
    · obtain ⟨b, o, s, e, hb, hx, c0, c1, c2⟩ := hs.get hlt
      cases e
      have f0 := hblk.frozen (k * 3)
      have f1 := hblk.frozen (k * 3 + 1)
      have f2 := hblk.frozen (k * 3 + 2)
      simp only [Nat.zero_add] at c0 c1 c2
      obtain ⟨s3a, s3b, s3c, s3d⟩ := set3 (u0 := .int .i64 (-1000000)) (u1 := .int .i64 1000000) (u2 := .bool true) c0 c1 c2
      have HS : Hid (SReads (((wr.setCell ⟨w.heap.size, k * 3, none⟩ (.int .i64 (-1000000))).setCell ⟨w.heap.size, k * 3 + 1, none⟩ (.int .i64 1000000)).setCell ⟨w.heap.size, k * 3 + 2, none⟩ (.bool true)) (w.heap.size + 1) (some ⟨w.heap.size, 0, none⟩) n (wideK n (k + 1))) := hide (by
        rw [← wideK_set hlt]
        refine SReads.set_ hs hlt wideS (fun j h1 h2 h3 => ?_) ?_ ?_ ?_
        all_goals rw [Nat.zero_add]
        · exact s3a j h1 h2 h3
        · exact s3b
        · exact s3c
        · exact s3d)
      clear s3a s3b s3c s3d
      go_wp2_with fail
      go_roundw
      case rel => exact ⟨k + 1, by omega, by go_num, unhide HS, hide ⟨_, ((hblk.set_ _ _).set_ _ _).set_ _ _⟩, ((hbel.setCell (by simp) _).setCell (by simp) _).setCell (by simp) _⟩
      case measure => simp [intOf] <;> omega
    · obtain rfl : k = n := by omega
      have hw : wideK k k = wideL k := by simp [wideK, wideL]
      rw [hw] at hs
      clear hw
      go_wp2_with fail
      go_ret
      exact ⟨_, _, rfl, hs.more (by have := hblk.lt; omega), (by intro h; cases h), (by intro a h; cases h; exact Nat.le_refl _), (by intro a h; cases h; exact ⟨Nat.le_refl _, _, hblk⟩), hbel⟩
end Go.Proofs.YtibbohebmmahmaaGreatDoor
/- From an argument's reading to the words of the walks: slices of numbers. Conditions: none. -/
namespace Go.Proofs.YtibbohebmmahmaaGreatDoor
set_option linter.unusedVariables false
set_option linter.unusedSimpArgs false
open Go.RowKit Go.ChangeShapes Go.WideShapes

theorem cell_lt {w : World} {a : Addr} {v : Value} (h : w.cell? a = some v) : a.block < w.heap.size := by
  unfold World.cell? at h
  split at h
  · rename_i c _ _ hh
    exact (Array.getElem?_eq_some_iff.1 hh).1
  · cases h

theorem arg_nums {H : Type} {enc : TypeId × Value → H} {P : Program} {w : World} {sp : Nat → Bool} {t e : TypeId} {k : IntKind} {A : Option Addr} {n c : Nat} {d : DataW H} {p : List MemPlace}
    (ht : P.underlying t = some (.slice e)) (he : P.underlying e = some (.int k)) (hc : P.cellsOf e = 1) (h : DataW.Trod enc P w 0 sp true t (.slice A n c) d p) :
    ∃ l : List Int, Reads w w.heap.size 1 A n (l.map (Value.int k)) ∧ n ≤ maxLen ∧ n ≤ c ∧ ∀ x ∈ l, (Lit.int k x).wf = true := by
  obtain ⟨fuel, hf⟩ := h
  rcases open_ints ht he hc hf with ⟨hcs, _⟩ | ⟨x, l, c', zs, hcs, _, hl, hm, hz, _, hcell, hwz⟩
  · simp [Value.cells] at hcs
    obtain ⟨rfl, rfl, rfl⟩ := hcs
    exact ⟨[], ⟨by simp, fun h0 => absurd h0 (by omega)⟩, Nat.zero_le _, Nat.le_refl _, by simp⟩
  · simp [Value.cells] at hcs
    obtain ⟨rfl, rfl, rfl⟩ := hcs
    have hzn : n ≤ zs.length := by rw [hz]; split <;> omega
    have hlen : (zs.take n).length = n := by rw [List.length_take]; omega
    refine ⟨zs.take n, ⟨by rw [List.length_map, hlen]; omega, fun h0 => ⟨x, rfl, ?_, ?_⟩⟩, by omega, hl, fun y hy => hwz y (List.mem_of_mem_take hy)⟩
    · have := cell_lt (hcell 0 (by omega))
      rwa [block_of_add] at this
    · intro j u hu
      rw [List.getElem?_map, Option.map_eq_some_iff] at hu
      obtain ⟨y, hy, rfl⟩ := hu
      have hj : j < n := by
        have := (List.getElem?_eq_some_iff.1 hy).1
        omega
      rw [List.getElem?_take_of_lt hj] at hy
      rw [hcell j (by omega), List.getD_eq_getElem?_getD, hy]
      rfl

theorem arg_ints {H : Type} {enc : TypeId × Value → H} {P : Program} {w : World} {sp : Nat → Bool} {t e : TypeId} {A : Option Addr} {n c : Nat} {d : DataW H} {p : List MemPlace}
    (ht : P.underlying t = some (.slice e)) (he : P.underlying e = some (.int .i64)) (hc : P.cellsOf e = 1) (h : DataW.Trod enc P w 0 sp true t (.slice A n c) d p) :
    ∃ l : List Int, IReads w w.heap.size A n l ∧ n ≤ maxLen ∧ n ≤ c ∧ ∀ x ∈ l, (Lit.int .i64 x).wf = true := arg_nums ht he hc h

theorem wf_in {x : Int} (h : (Lit.int .i64 x).wf = true) : -9223372036854775808 ≤ x ∧ x ≤ 9223372036854775807 := Go.bounds_i64 h

/-- an argument that is a slice of numbers -/
structure NArg (k : IntKind) (W : World) (A : Option Addr) (n c : Nat) (l : List Int) : Prop where
  reads : Reads W W.heap.size 1 A n (l.map (Value.int k))
  len : n ≤ maxLen
  cap : n ≤ c
  capm : c ≤ maxLen
  nil : A = none → c = 0
  wf : ∀ x ∈ l, (Lit.int k x).wf = true
abbrev IArg := NArg .i64
theorem arg_nums2 {H : Type} {enc : TypeId × Value → H} {P : Program} {w : World} {sp : Nat → Bool} {t e : TypeId} {k : IntKind} {A : Option Addr} {n c : Nat} {d : DataW H} {p : List MemPlace}
    (ht : P.underlying t = some (.slice e)) (he : P.underlying e = some (.int k)) (hc : P.cellsOf e = 1) (h : DataW.Trod enc P w 0 sp true t (.slice A n c) d p) :
    ∃ l : List Int, NArg k w A n c l := by
  obtain ⟨l, h1, h2, h3, h4⟩ := arg_nums ht he hc h
  have hx : c ≤ maxLen ∧ (A = none → c = 0) := by
    obtain ⟨fuel, hf⟩ := h
    rcases open_ints ht he hc hf with ⟨hcs, _⟩ | ⟨x, l, c', zs, hcs, _, hl, hm, hz, _, hcell, hwz⟩
    · simp [Value.cells] at hcs
      obtain ⟨rfl, rfl, rfl⟩ := hcs
      exact ⟨Nat.zero_le _, fun _ => rfl⟩
    · simp [Value.cells] at hcs
      obtain ⟨rfl, rfl, rfl⟩ := hcs
      exact ⟨hm, fun h => by cases h⟩
  exact ⟨l, h1, h2, h3, hx.1, hx.2, h4⟩
end Go.Proofs.YtibbohebmmahmaaGreatDoor
/- differ.pairs: of each pair of leaves to which a row comes that differ, their spans. Conditions: as each lemma names. -/
namespace Go.Proofs.YtibbohebmmahmaaGreatDoor
set_option linter.unusedVariables false
set_option linter.unusedSimpArgs false
open Go.RowKit

def meets (a b : List Nd) (i : Nat) (q : Nat × List Sp) : Bool := anyB q.2 && (valAt a i != valAt b q.1)
def pairsAt (a b : List Nd) (p : Nat × List Sp) : List (List Sp) := if anyB p.2 then ((lv b b.length 0 p.2).filter (meets a b p.1)).map (·.2) else []
def pairsL (a b : List Nd) (n : Nat) : List (List Sp) := (lv a a.length 0 (wideL n)).flatMap (pairsAt a b)

theorem valAt_of {t : List Nd} {i : Nat} {x : Nd} (h : t[i]? = some x) : valAt t i = x.v := by unfold valAt; rw [h]

/-- a listener for spans -/
def SpanStep (T : World → Nat → Prop) (J : List (List Sp) → World → Prop) (F : FuncId) (caps : Array Value) (n : Nat) : Prop :=
  ∀ pre (l' : List Sp) (A' : Option Addr) (c' : Nat) (w : World), J pre w → SReads w w.heap.size A' n l' → (A' = none → c' = 0) → (∀ a, A' = some a → ¬ T w a.block) →
    Calls Tryz.prog F (#[.slice A' n c'] ++ caps) w (Hear T J (pre ++ [l']) w)

theorem any_no (A : Option Addr) (n c B : Nat) (l : List Sp) (h : anyB l = false) (w : World) (hr : SReads w B A n l) (hB : B ≤ w.heap.size) (hn : n ≤ 100000000) :
    Calls Tryz.prog 36 #[.slice A n c] w fun e w' => e = .returned (.bool false) ∧ Below w.heap.size w w' := by
  have := any_any A n c B l w hr hB hn
  rwa [h] at this
theorem pairsAt_fold (a b : List Nd) (i : Nat) (ys : List (Nat × List Sp)) (q : Nat × List Sp) :
    ((ys ++ [q]).filter (meets a b i)).map (·.2) = (ys.filter (meets a b i)).map (·.2) ++ if meets a b i q then [q.2] else [] := by
  rw [List.filter_append, List.map_append, List.filter_cons]
  split <;> simp

/-- a tree as Leaves wants it -/
structure Fit_ (t : List Nd) (n : Nat) : Prop where
  len0 : 0 < t.length
  len : t.length ≤ 63
  behind : Behind t
  asks : Asks t n
  cut : ∀ (i : Nat) x, t[i]? = some x → x.f ≠ -1 → -1000000 ≤ x.c ∧ x.c ≤ 1000000

end Go.Proofs.YtibbohebmmahmaaGreatDoor
