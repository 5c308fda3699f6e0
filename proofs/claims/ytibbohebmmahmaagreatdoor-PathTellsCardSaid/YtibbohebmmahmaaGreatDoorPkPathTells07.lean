/- Part 7 of what LawPathTells needs: RefTree, RefLeaf. Conditions: as each lemma names. -/
import Derived.Test.YtibbohebmmahmaaGreatDoorPkPathTells06
import Derived.Test.YtibbohebmmahmaaGreatDoorPkPathTells05
import Derived.BigGuardPart
/- The references of chapter 4: Depth, Tree, Ready, Left, Leaf. Conditions: a tree that reads as a list of nodes. -/
namespace Go.Proofs.YtibbohebmmahmaaGreatDoor
set_option linter.unusedVariables false
set_option linter.unusedSimpArgs false
open Go.RowKit

theorem rdepth_any (A : Option Addr) (m d B : Nat) (t : List Nd) (hm : m ≤ 63) (hb : Behind t) : ∀ (k i : Nat) (w : World), m ≤ i + k → i < m → NReads w B A m t →
    Calls Tryz.prog 30 #[.slice A m d, .int .i64 i] w fun e w' => e = .returned (.int .i64 (dep t i)) ∧ w = w' := by
  intro k
  induction k with
  | zero => intro i w h1 h2; omega
  | succ k ih =>
    intro i w h1 h2 ht
    have hlt := ht.len
    obtain ⟨b, o, n, rfl, hbb, hn, g0, g1, g2, g3, g4, g5⟩ := ht.get h2
    have hda := dep_at hn (fun hf => (hb i n hn hf).1) (fun hf => (hb i n hn hf).2.2.1)
    by_cases hf : n.f = -1
    · rw [if_pos hf] at hda
      have HD := hide hda
      rw [hf] at g0
      clear hda hn hlt
      go_enter Tryz.func30, Tryz.ntmps30
      go_wp2_with fail
      go_ret
      exact ⟨ret_int (by rw [unhide HD]; rfl), rfl⟩
    · rw [if_neg hf] at hda
      obtain ⟨a1, a2, a3, a4⟩ := hb i n hn hf
      obtain ⟨ln, hln⟩ : ∃ ln : Nat, n.l = ln := ⟨n.l.toNat, by omega⟩
      obtain ⟨rn, hrn⟩ : ∃ rn : Nat, n.r = rn := ⟨n.r.toNat, by omega⟩
      rw [hln, hrn] at hda
      rw [hln] at a1 a2 g2
      rw [hrn] at a3 a4 g3
      have c1 := ih ln w (by omega) (by omega) ht
      have c2 := ih rn w (by omega) (by omega) ht
      have l1 := dep_le t ln
      have l2 := dep_le t rn
      simp only [Int.toNat_natCast] at hda
      generalize dep t ln = x at *
      generalize dep t rn = y at *
      have HD := hide hda
      have hq : (n.f == -1) = false := by simpa using hf
      clear hda hn hf ih
      by_cases hxy : x < y
      · go_enter Tryz.func30, Tryz.ntmps30
        go_wp2_with fail
        refine c1.mono ?_; rintro e w1 ⟨rfl, rfl⟩
        go_wp2_with fail
        refine c2.mono ?_; rintro e w1 ⟨rfl, rfl⟩
        clear c1 c2
        go_wp2_with fail
        go_ret
        exact ⟨ret_int (by rw [unhide HD]; omega), rfl⟩
      · go_enter Tryz.func30, Tryz.ntmps30
        go_wp2_with fail
        refine c1.mono ?_; rintro e w1 ⟨rfl, rfl⟩
        go_wp2_with fail
        refine c2.mono ?_; rintro e w1 ⟨rfl, rfl⟩
        clear c1 c2
        go_wp2_with fail
        go_ret
        exact ⟨ret_int (by rw [unhide HD]; omega), rfl⟩

theorem rleft_any (f c l r v x : Int) (less : Bool) (w : World) :
    Calls Tryz.prog 21 #[.agg #[.int .i64 f, .int .i64 c, .int .i64 l, .int .i64 r, .bool less, .int .i64 v], .int .i64 x] w fun e w' => e = .returned (.bool (if x = -1125899906842624 then less else decide (x < c))) ∧ Below w.heap.size w w' := by
  by_cases hx : x = -1125899906842624
  · subst hx
    go_enter Tryz.func21, Tryz.ntmps21
    go_wp2_with fail
    refine (rnone_any _ _).mono ?_; rintro e w1 ⟨rfl, rfl⟩
    go_wp2_with fail
    go_ret
    exact ⟨rfl, by go_grown⟩
  · have q : (x == -1125899906842624) = false := by simpa using hx
    have HX := hide hx
    clear hx
    go_enter Tryz.func21, Tryz.ntmps21
    go_wp2_with fail
    refine (rnone_any _ _).mono ?_; rintro e w1 ⟨rfl, rfl⟩; rw [q]
    go_wp2_with fail
    go_ret
    exact ⟨ret_bool (by first | rw [if_neg (unhide HX)] | rfl), by go_grown⟩
end Go.Proofs.YtibbohebmmahmaaGreatDoor
/- The reference of the walk to a leaf: orchref1.Leaf (the leaf, and the way). Conditions: a tree in which what is below stands behind; a row that has the cells it asks. -/
namespace Go.Proofs.YtibbohebmmahmaaGreatDoor
set_option linter.unusedVariables false
set_option linter.unusedSimpArgs false
open Go.RowKit

def RLPost (t : List Nd) (row : List Int) (w : World) (e : Ending) (w' : World) : Prop :=
  ∃ v, e = .returned (.tuple #[.int .i64 (leafOf t row : Nat), v]) ∧ w'.ownsRow w.heap.size 3 1 v ((0 :: wayFrom t row t.length 0).length) ((0 :: wayFrom t row t.length 0).map (Value.int .i64)) ∧ Below w.heap.size w w'

set_option maxRecDepth 100000 in
set_option maxHeartbeats 2000000 in
theorem rleaf_any (A C : Option Addr) (m d k q : Nat) (t : List Nd) (row : List Int) (w : World) (ht : NReads w w.heap.size A m t) (hr : IReads w w.heap.size C k row) (h0 : 0 < m) (hm : m ≤ 63) (h8 : k ≤ 8) (hb : Behind t)
    (ha : ∀ (i : Nat) n, t[i]? = some n → n.f ≠ -1 → 0 ≤ n.f ∧ n.f < k) :
    Calls Tryz.prog 5 #[.slice A m d, .slice C k q] w (RLPost t row w) := by
  have hlen := ht.len
  have HO : Hid (leafOf t row = leafFrom t row m 0) := hide (by unfold leafOf; rw [hlen])
  have HB := hide hb
  have HA := hide ha
  have HL := hide hlen
  clear hlen hb ha
  have hown0 := own_new (w := w) (B := w.heap.size) [.int .i64 0] 3 1 1 rfl (by decide) (Nat.le_refl _)
  go_enter Tryz.func5, Tryz.ntmps5
  go_wp2_with fail
  go_loopw [6, 7] (fun i v wr => ∃ (j F : Nat) (l : List Int), j < m ∧ i = .int .i64 j ∧ m ≤ j + F ∧ l.length ≤ j + 1 ∧ Hid (leafFrom t row F j = leafFrom t row m 0) ∧ Hid (l ++ wayFrom t row F j = 0 :: wayFrom t row m 0) ∧ wr.ownsRow w.heap.size 3 1 v l.length (l.map (Value.int .i64)) ∧ Below w.heap.size w wr) (fun i _ _ => m - (intOf i).toNat)
  case atStart => exact ⟨0, m, [0], h0, rfl, by omega, Nat.le_refl _, hide rfl, hide rfl, hown0, (Below.refl _ _).alloc (Nat.le_refl _) _⟩
  case round =>
    obtain ⟨j, F, l, hj, rfl, hF, hlj, HF0, HF, hown, hbel⟩ := hrel
    have hsz := hbel.size
    obtain ⟨b, o, n, rfl, hbb, hn, g0, g1, g2, g3, g4, g5⟩ := (ht.below hbel).get hj
    by_cases hf : n.f = -1
    · have HZ : Hid (leafOf t row = j) := hide (by rw [unhide HO, ← unhide HF0, leafFrom_leaf hn hf])
      have HY : Hid (0 :: wayFrom t row t.length 0 = l) := hide (by rw [unhide HL, ← unhide HF, wayFrom_leaf hn hf, List.append_nil])
      rw [hf] at g0
      clear hn
      go_wp2_with fail
      go_ret2
      exact ⟨_, by rw [unhide HZ]; rfl, by rw [unhide HY]; exact hown, hbel⟩
    · have hnf : (n.f != -1) = true := by simpa using hf
      obtain ⟨a1, a2⟩ := (unhide HA) j n hn hf
      obtain ⟨fn, hfn⟩ : ∃ fn : Nat, n.f = fn := ⟨n.f.toNat, by omega⟩
      have hfk : fn < k := by omega
      obtain ⟨b3, o3, x, rfl, hbb2, hx, cx⟩ := (hr.below hbel).get hfk
      have hcx : cellAt row n.f = x := by unfold cellAt; rw [hfn, Int.toNat_natCast, List.getD_eq_getElem?_getD, hx]; rfl
      obtain ⟨j2, hj2, hlt, hjm⟩ := nextOf_lt (c := x) (unhide HB) hn hf
      rw [unhide HL] at hjm
      obtain ⟨F2, rfl⟩ : ∃ F2, F = F2 + 1 := ⟨F - 1, by omega⟩
      have HF2 : Hid ((l ++ [(j2 : Int)]) ++ wayFrom t row F2 j2 = 0 :: wayFrom t row m 0) := hide (by
        have := unhide HF
        rw [wayFrom_step hn hf, hcx, hj2, Int.toNat_natCast] at this
        rw [← this]; simp)
      have HF3 : Hid (leafFrom t row F2 j2 = leafFrom t row m 0) := hide (by
        have := unhide HF0
        rw [leafFrom_step hn hf, hcx, hj2, Int.toNat_natCast] at this
        exact this)
      have hgo : nextOf n x = if (if x = -1125899906842624 then n.less else decide (x < n.c)) = true then n.l else n.r := rfl
      rw [hj2] at hgo
      obtain ⟨nf, nc, nl, nr, nless, nv⟩ := n
      simp only at hfn g0 g1 g2 g3 g4 g5 hnf hgo
      subst hfn
      have hk9 : l.length < 1000000000 := by omega
      have hrl := rleft_any (fn : Int) nc nl nr nv x nless
      generalize (if x = -1125899906842624 then nless else decide (x < nc)) = bg at *
      have HGO := hide hgo
      clear hn hx hcx hj2 hf a1 a2 hgo
      go_wp2_with fail
      go_still_tail 12, (by kernel_rfl)
      go_wp2_with fail
      refine (hrl _).mono ?_
      clear hrl
      rintro e w2 ⟨rfl, hb2⟩
      have hb3 : Below wr.heap.size wr w2 := ((Below.refl _ _).drew).trans hb2
      have hown2 : w2.ownsRow w.heap.size 3 1 u7 l.length (l.map (Value.int .i64)) := own_below hown hb3
      have hs2 := Nat.le_trans hsz hb3.size
      have k2 := (hb3.cell (p := ⟨b, o + j * 6 + 2, none⟩) (by dsimp only; omega)).trans g2
      have k3 := (hb3.cell (p := ⟨b, o + j * 6 + 3, none⟩) (by dsimp only; omega)).trans g3
      cases bg
      · have hjr : nr = j2 := by have := unhide HGO; simpa using this.symm
        subst hjr
        go_wp2_with (at_builtin; refine app_one elem_int (.tmp 40) (.tmp 42) [.int .i64 (j2 : Int)] rfl rfl rfl hown2 rfl rfl rfl (ints_oneCell .i64 [(j2 : Int)]) hk9 hs2 ?_; intro v' w3 hown3 hb4 _ _)
        have hown4 : w3.ownsRow w.heap.size 3 1 v' (l ++ [(j2 : Int)]).length ((l ++ [(j2 : Int)]).map (Value.int .i64)) := by simpa using hown3
        clear hown3
        go_wp2_with fail
        go_roundw
        case rel => exact ⟨j2, F2, l ++ [(j2 : Int)], by omega, rfl, by omega, by simp; omega, HF3, HF2, hown4, (hbel.trans (hb3.mono hsz)).trans hb4⟩
        case measure => simp [intOf] <;> omega
      · have hjr : nl = j2 := by have := unhide HGO; simpa using this.symm
        subst hjr
        go_wp2_with (at_builtin; refine app_one elem_int (.tmp 40) (.tmp 42) [.int .i64 (j2 : Int)] rfl rfl rfl hown2 rfl rfl rfl (ints_oneCell .i64 [(j2 : Int)]) hk9 hs2 ?_; intro v' w3 hown3 hb4 _ _)
        have hown4 : w3.ownsRow w.heap.size 3 1 v' (l ++ [(j2 : Int)]).length ((l ++ [(j2 : Int)]).map (Value.int .i64)) := by simpa using hown3
        clear hown3
        go_wp2_with fail
        go_roundw
        case rel => exact ⟨j2, F2, l ++ [(j2 : Int)], by omega, rfl, by omega, by simp; omega, HF3, HF2, hown4, (hbel.trans (hb3.mono hsz)).trans hb4⟩
        case measure => simp [intOf] <;> omega
end Go.Proofs.YtibbohebmmahmaaGreatDoor
