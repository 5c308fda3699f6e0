/- Part 29 of what LawFlatTells needs: FlatOps. Conditions: as each lemma names. -/
import Derived.Test.YtcneacooedefjaaDoorPkFlatTells28
/- flat: Size, Eval, Many. Conditions: a flat one that reads as data; rows that read as lists. -/
namespace Go.Proofs.YtcneacooedefjaaDoor
set_option linter.unusedVariables false
set_option linter.unusedSimpArgs false
open Go.RowKit

/-- a grove laid flat, as it may be read -/
def FlG (w : World) (gF : Nat) (g : Gv) : Prop := g.e = 0 ∧ FlIs w w.heap.size gF g.f g.way g.ws (flR g.trees g.trees.length) (flL g.trees)
theorem FlG.below {w w' : World} {gF : Nat} {g : Gv} (h : FlG w gF g) (hb : Below w.heap.size w w') : FlG w' gF g := ⟨h.1, (h.2.below hb).more hb.size⟩
theorem FlG.ptr {w : World} {gF : Nat} {g : Gv} (h : FlG w gF g) : gF < w.heap.size := by
  obtain ⟨_, _, _, _, _, _, _, _, _, _, _, _, _, _, _, _, _, _, h2, _⟩ := h
  exact h2

theorem fsize_any (gF : Nat) (g : Gv) (w : World) (h : FlG w gF g) : Calls Tryd.prog 11 #[.pointer (some ⟨gF, 0, none⟩)] w fun e w' => e = .returned (.int .i64 ((flL g.trees).length : Nat)) ∧ w = w' := by
  obtain ⟨_, Aw, nw, cw, Ar, nr, cr, A4, A5, A6, A7, A8, c4, c5, c6, c7, c8, hb, hlt, _, _, _⟩ := h
  have x4 := hb.cell 4
  simp only [cellsF, List.getElem?_toArray, List.getElem?_cons_zero, List.getElem?_cons_succ] at x4
  clear hb
  go_enter Tryd.func11, Tryd.ntmps11
  go_wp2_with fail
  go_ret
  exact ⟨rfl, rfl⟩

theorem FlG.all {w : World} {gF : Nat} {g : Gv} (h : FlG w gF g) : (∀ t ∈ g.trees, Right t g.f) ∧ 0 < g.trees.length ∧ g.trees.length ≤ 12 ∧ g.ws.length = g.trees.length ∧ (∀ x ∈ g.ws, 1 ≤ x ∧ x ≤ 1000) := by
  have hG := groveE_right h.1
  rw [Gv.trees_len]
  refine ⟨fun t ht => ?_, hG.pos, hG.most, hG.wlen, hG.weights⟩
  obtain ⟨r, hr, rfl⟩ := List.mem_map.1 ht
  exact right_of (hG.trees r hr)
theorem feach_each (g : Gv) (r : List Int) : feachV g.trees r = eachV g r := by unfold feachV eachV Gv.trees; rw [List.map_map]; rfl
theorem standE_flat {g : Gv} (h : g.e = 0) (r : List Int) : standE g r = if rowE r = 0 then (if (r.length : Int) = g.f then 0 else 3) else rowE r := by unfold standE; rw [if_pos h]

set_option maxRecDepth 100000 in
set_option maxHeartbeats 2000000 in
theorem fEval_any (gF : Nat) (g : Gv) (C : Option Addr) (k q : Nat) (r : List Int) (w : World) (hF : FlG w gF g) (hr : IReads w w.heap.size C k r) (hk : k ≤ maxLen) :
    Calls Tryd.prog 12 #[.pointer (some ⟨gF, 0, none⟩), .slice C k q] w fun e w' => e = .returned (.tuple #[.int .i64 (gevalV g r), errV (standE g r)]) ∧ Below w.heap.size w w' := by
  have hlt := hF.ptr
  obtain ⟨hR, hpos, h12, hwl, hws⟩ := hF.all
  have hs := standE_flat hF.1 r
  have hlen := hr.len
  have x0 : w.cell? ⟨gF, 0, none⟩ = some (.int .i64 g.f) := by
    obtain ⟨_, _, _, _, _, _, _, _, _, _, _, _, _, _, _, _, _, h2, _⟩ := hF
    have := h2.cell 0
    simpa only [cellsF, List.getElem?_toArray, List.getElem?_cons_zero] using this
  by_cases h0 : rowE r = 0
  · rw [if_pos h0] at hs
    have hv := hide (errV_0 h0)
    by_cases h1 : (r.length : Int) = g.f
    · rw [if_pos h1] at hs
      have hev := hide (show gevalV g r = togV g.way g.ws (feachV g.trees r) by unfold gevalV; rw [if_pos hs, feach_each])
      have hcon := hide (fun (X : World) (hB : Below w.heap.size w X) => feval_any gF g.f g.way g.ws g.trees C k q r X (hF.below hB).2 ((hr.below hB).more hB.size) (fun t ht => by have := hR t ht; rwa [← h1, hlen] at this) hpos h12 hwl hws)
      have hne : ((k : Int) != g.f) = false := by rw [← hlen]; simpa using h1
      have HS := hide (errV_0 hs)
      obtain ⟨F, hFe⟩ : ∃ F, F = g.f := ⟨_, rfl⟩
      rw [← hFe] at hne x0
      clear h1 hs h0 hFe hR hlen
      go_enter Tryd.func12, Tryd.ntmps12
      go_wp2_with fail
      refine (rowCheck_any C k q r _ _ hr hk).mono ?_
      rintro e w1 ⟨rfl, rfl⟩
      rw [unhide hv]
      have hc := hide (unhide hcon w (Below.refl _ _))
      clear hcon
      go_wp2_with fail
      refine (unhide hc).mono ?_
      rintro e w2 ⟨rfl, hb2⟩
      go_wp2_with fail
      go_ret2
      exact ⟨by rw [unhide hev, unhide HS]; rfl, hb2⟩
    · rw [if_neg h1] at hs
      have hev := hide (show gevalV g r = 0 by unfold gevalV; rw [if_neg (by rw [hs]; decide)])
      have hne : ((k : Int) != g.f) = true := by rw [← hlen]; simpa using h1
      obtain ⟨F, hFe⟩ : ∃ F, F = g.f := ⟨_, rfl⟩
      rw [← hFe] at hne x0
      rw [hs]
      clear h1 hs h0 hFe hR hlen
      go_enter Tryd.func12, Tryd.ntmps12
      go_wp2_with fail
      refine (rowCheck_any C k q r _ _ hr hk).mono ?_
      rintro e w1 ⟨rfl, rfl⟩
      rw [unhide hv]
      go_wp2_with fail
      go_ret2
      exact ⟨by rw [unhide hev]; rfl, Below.refl _ _⟩
  · rw [if_neg h0] at hs
    have hv := errV_1 h0
    have HV := hide hv
    have hev := hide (show gevalV g r = 0 by unfold gevalV; rw [if_neg (by rw [hs]; exact h0)])
    rw [hs]
    clear hs h0 hlen
    go_enter Tryd.func12, Tryd.ntmps12
    go_wp2_with fail
    refine (rowCheck_any C k q r _ _ hr hk).mono ?_
    rintro e w1 ⟨rfl, rfl⟩
    rw [hv]
    clear hv
    go_wp2_with fail
    go_ret2
    exact ⟨by rw [unhide hev, unhide HV]; rfl, Below.refl _ _⟩

/-- the first row that is none, and what all rows come to -/
noncomputable def manyE (g : Gv) : List (List Int) → Int
  | [] => 0
  | r :: l => if standE g r = 0 then manyE g l else standE g r
noncomputable def manyV (g : Gv) (l : List (List Int)) : List Int := l.map (gevalV g)
theorem manyE_drop {g : Gv} {l : List (List Int)} {k : Nat} {r : List Int} (h : l[k]? = some r) : manyE g (l.drop k) = if standE g r = 0 then manyE g (l.drop (k + 1)) else standE g r := by
  obtain ⟨hk, e⟩ := List.getElem?_eq_some_iff.1 h
  rw [List.drop_eq_getElem_cons hk, manyE, e]
def ManyPost (g : Gv) (rs : List (List Int)) (w : World) (e : Ending) (w' : World) : Prop :=
  ∃ A n c, e = .returned (.tuple #[.slice A n c, errV (manyE g rs)]) ∧ IReads w' w'.heap.size A n (if manyE g rs = 0 then manyV g rs else []) ∧ n ≤ maxLen ∧ Below w.heap.size w w'

set_option maxRecDepth 100000 in
set_option maxHeartbeats 2000000 in
theorem fmany_any (gF : Nat) (g : Gv) (C : Option Addr) (n q : Nat) (rs : List Ns) (w : World) (hF : FlG w gF g) (hr : NsReads .i64 w w.heap.size C n rs) (hn : n ≤ 30) :
    Calls Tryd.prog 16 #[.pointer (some ⟨gF, 0, none⟩), .slice C n q] w (ManyPost g (rs.map Ns.l) w) := by
  have hlt := hF.ptr
  have hlen := hr.len
  have HLEN := hide hlen
  have hev := hide (fun (X : World) (A : Option Addr) (k q : Nat) (r : List Int) (hB : Below w.heap.size w X) (h : IReads X X.heap.size A k r) (hk : k ≤ maxLen) => fEval_any gF g A k q r X (hF.below hB) h hk)
  have HD0 : Hid (manyE g ((rs.map Ns.l).drop 0) = manyE g (rs.map Ns.l)) := hide rfl
  clear hlen
  go_enter Tryd.func16, Tryd.ntmps16
  go_wp2_with fail
  go_loopw [6, 17] (fun v6 v wr => ∃ j : Nat, j ≤ n ∧ v = .int .i64 j ∧ wr.ownsRow w.heap.size 3 1 v6 j (((manyV g (rs.map Ns.l)).take j).map (Value.int .i64)) ∧ Hid (manyE g ((rs.map Ns.l).drop j) = manyE g (rs.map Ns.l)) ∧ Below w.heap.size w wr) (fun _ v _ => n - (Lib.intOf v).toNat)
  case atStart => exact ⟨0, Nat.zero_le _, rfl, World.ownsRow_nil _ _ _ _, HD0, Below.refl _ _⟩
  case round =>
    obtain ⟨j, hj, rfl, hown, HD, hbel⟩ := hrel
    have hsz := hbel.size
    by_cases hlj : j < n
    · obtain ⟨b, o, r, rfl, hbb, hx, hc, hok⟩ := (hr.below hbel).get hlj
      obtain ⟨rA, rn, rc, rl⟩ := r
      have hxl : (rs.map Ns.l)[j]? = some rl := by rw [List.getElem?_map, hx]; rfl
      have hE := hide (unhide hev wr rA rn rc rl hbel (hok.reads.more hsz) hok.len)
      have HV : Hid ((manyV g (rs.map Ns.l)).take (j + 1) = (manyV g (rs.map Ns.l)).take j ++ [gevalV g rl]) := hide (take_next (by unfold manyV; rw [List.getElem?_map, hxl]; rfl))
      have hd := manyE_drop (g := g) hxl
      rw [unhide HD] at hd
      dsimp only at hc
      obtain ⟨V, hV⟩ : ∃ V, V = gevalV g rl := ⟨_, rfl⟩
      rw [← hV] at hE HV
      by_cases h0 : standE g rl = 0
      · rw [if_pos h0] at hd
        have HD2 : Hid (manyE g ((rs.map Ns.l).drop (j + 1)) = manyE g (rs.map Ns.l)) := hide hd.symm
        have hv := hide (errV_0 h0)
        have hj9 : j < 1000000000 := by omega
        clear hd hx hxl hok h0 hV HD
        go_wp2_with fail
        refine (unhide hE).mono ?_
        rintro e w1 ⟨rfl, hb1⟩
        rw [unhide hv]
        have ho1 := own_under hown hb1
        have hs1 := Nat.le_trans hsz hb1.size
        clear hown
        go_wp2_with (at_builtin; refine app_one elem_int (.tmp 30) (.tmp 32) [.int .i64 V] rfl rfl rfl ho1 rfl rfl rfl (ints_oneCell .i64 [V]) hj9 hs1 ?_; intro v' w3 hown3 hb4 _ _)
        have hO : Hid (w3.ownsRow w.heap.size 3 1 v' (j + 1) (((manyV g (rs.map Ns.l)).take (j + 1)).map (Value.int .i64))) := hide (by rw [unhide HV, List.map_append]; exact hown3)
        clear hown3
        go_wp2_with fail
        go_roundw
        case rel => exact ⟨j + 1, by omega, by go_num, unhide hO, HD2, (hbel.trans (hb1.mono hsz)).trans hb4⟩
        case measure => simp [Lib.intOf]; omega
      · rw [if_neg h0] at hd
        have hv := errV_1 h0
        have HVV := hide hv
        have HM := hide hd
        have HN := hide h0
        clear hd hx hxl hok h0 hV HD hown
        go_wp2_with fail
        refine (unhide hE).mono ?_
        rintro e w1 ⟨rfl, hb1⟩
        rw [hv]
        clear hv
        go_wp2_with fail
        go_ret2
        refine ⟨none, 0, 0, by rw [unhide HM, unhide HVV]; rfl, ?_, Nat.zero_le _, hbel.trans (hb1.mono hsz)⟩
        rw [unhide HM, if_neg (unhide HN)]
        exact IReads.nil_
    · obtain rfl : j = n := by omega
      have h0 : manyE g (rs.map Ns.l) = 0 := by
        rw [← unhide HD, List.drop_eq_nil_of_le (by rw [List.length_map, unhide HLEN]; exact Nat.le_refl _)]; rfl
      have ho := hown
      rw [List.take_of_length_le (by unfold manyV; rw [List.length_map, List.length_map, unhide HLEN]; exact Nat.le_refl _)] at ho
      obtain ⟨A, c, rfl, hrr, hm, _⟩ := own_slice ho
      have H0 := hide h0
      have HR := hide hrr
      clear ho hown h0 hrr HD
      go_wp2_with fail
      go_ret2
      exact ⟨A, j, c, by rw [unhide H0]; rfl, by rw [if_pos (unhide H0)]; exact unhide HR, hm, hbel⟩
end Go.Proofs.YtcneacooedefjaaDoor
