/- Part 27 of what LawPruneTells needs: RSort, RGive. Conditions: as each lemma names. -/
import Derived.Test.YtefkjpcgcgofgaaDoorPkPruneTells16
import Derived.Test.YtefkjpcgcgofgaaDoorPkPruneTells24
import Derived.Test.YtefkjpcgcgofgaaDoorPkPruneTells26
/- The reference's Sort: nodes laid one behind the other, each Left right behind its node. Conditions: nodes that read as a tree in which what is below stands behind. -/
namespace Go.Proofs.YtefkjpcgcgofgaaDoor
set_option linter.unusedVariables false
set_option linter.unusedSimpArgs false
open Go.RowKit

set_option maxRecDepth 100000 in
set_option maxHeartbeats 4000000 in
theorem rsortN_any (A : Option Addr) (m d : Nat) (t : List Nd) (hm : m ≤ maxLen) (hb : Behind t) : ∀ (k i : Nat) (xs : List Nd) (v : Value) (base : Nat) (w : World), i < t.length → t.length ≤ i + k → NReads w base A m t → NOwn w base v xs → base ≤ w.heap.size → xs.length + (kof t k i).size ≤ 1000000 →
    Calls Tryd.prog 9 #[.slice A m d, .int .i64 i, v] w fun e w' => ∃ v', e = .returned v' ∧ NOwn w' base v' (xs ++ layK xs.length (kof t k i)) ∧ Below base w w' := by
  intro k
  induction k with
  | zero => intro i xs v base w h1 h2; omega
  | succ k ih =>
    intro i xs v base w hi hk ht ho hB hn
    have hlen := ht.len
    have him : i < m := by omega
    unfold maxLen at hm
    obtain ⟨b, o, x, hAe, hbb, hx, c0, c1, c2, c3, c4, c5⟩ := ht.get him
    by_cases hf : x.f = -1
    · rw [kof_leaf hx hf] at hn ⊢
      subst hAe
      obtain ⟨Ao, c, rfl, hr, _⟩ := ho.slice
      have hown : w.ownsRow base 43 6 (.slice Ao xs.length c) xs.length (xs.flatMap Nd.cells) := ho
      simp only [Kt.size] at hn
      obtain ⟨xf, xc, xlf, xr, xs', xv⟩ := x
      dsimp only at c0 c1 c2 c3 c4 c5 hf
      subst hf
      clear hx ih
      go_enter Tryd.func9, Tryd.ntmps9
      go_wp2_with (at_builtin; refine app_one elem_nodeP (.tmp 10) (.tmp 15) [.int .i64 (-1), .int .i64 xc, .int .i64 xlf, .int .i64 xr, .bool xs', .int .i64 xv] rfl rfl rfl hown rfl rfl rfl (node_one ⟨-1, xc, xlf, xr, xs', xv⟩) (by omega) hB ?_; intro v1 w1 hown1 hb1 _ _; have d0 := (hb1.cell (p := ⟨b, o + i * 6, none⟩) hbb).trans c0)
      go_ret
      refine ⟨v1, rfl, ?_, hb1⟩
      unfold NOwn
      rw [layK, List.length_append, List.flatMap_append]
      exact hown1
    · obtain ⟨q1, q2, q3, q4⟩ := hb i x hx hf
      obtain ⟨li, hli⟩ : ∃ li : Nat, x.l = li := ⟨x.l.toNat, by omega⟩
      obtain ⟨ri, hri⟩ : ∃ ri : Nat, x.r = ri := ⟨x.r.toNat, by omega⟩
      have hkn := kof_node (k := k) hx hf
      rw [hli, hri, Int.toNat_natCast, Int.toNat_natCast] at hkn
      rw [hkn] at hn ⊢
      have e1 : (x.f == -1) = false := by simpa using hf
      have hIL := fun (xs : List Nd) (v : Value) (w : World) => ih li xs v base w (by omega) (by omega)
      have hIR := fun (xs : List Nd) (v : Value) (w : World) => ih ri xs v base w (by omega) (by omega)
      generalize kof t k li = a at *
      generalize kof t k ri = bb at *
      subst hAe
      obtain ⟨Ao, c, rfl, hr, _⟩ := ho.slice
      have hown : w.ownsRow base 43 6 (.slice Ao xs.length c) xs.length (xs.flatMap Nd.cells) := ho
      simp only [Kt.size] at hn
      obtain ⟨xf, xc, xlf, xr, xs', xv⟩ := x
      dsimp only at c0 c1 c2 c3 c4 c5 hli hri e1
      subst hli
      subst hri
      have HKL : Hid (layK xs.length (.node ⟨xf, xc, li, ri, xs', xv⟩ a bb) = ⟨xf, xc, ((xs.length + 1 : Nat) : Int), ((xs.length + 1 + a.size : Nat) : Int), xs', xv⟩ :: (layK (xs.length + 1) a ++ layK (xs.length + 1 + a.size) bb)) := hide rfl
      have HS := hide hn
      have HT := hide ht
      clear hx ih q1 q2 q3 q4 hf hkn hlen ht
      go_enter Tryd.func9, Tryd.ntmps9
      go_upto_region 3 with (at_builtin; refine app_one elem_nodeP (.tmp 10) (.tmp 15) [.int .i64 xf, .int .i64 xc, .int .i64 li, .int .i64 ri, .bool xs', .int .i64 xv] rfl rfl rfl hown rfl rfl rfl (node_one ⟨xf, xc, li, ri, xs', xv⟩) (by omega) hB ?_; intro v1 w1 hown1 hb1 _ _)
      have ho1 : NOwn w1 base v1 (xs ++ [⟨xf, xc, li, ri, xs', xv⟩]) := by
        unfold NOwn
        rw [List.length_append, List.flatMap_append]
        exact hown1
      obtain ⟨A1, d1, rfl, hr1, hd1⟩ := ho1.slice
      obtain ⟨g1, hA1, hg1, hg1s, e2, f2⟩ := ho1.at_ rfl (k := xs.length) (x := ⟨xf, xc, li, ri, xs', xv⟩) (by simp) 2 (by omega)
      subst hA1
      have d0 := (hb1.cell (p := ⟨b, o + i * 6, none⟩) hbb).trans c0
      have d2 := (hb1.cell (p := ⟨b, o + i * 6 + 2, none⟩) hbb).trans c2
      have hlen1 : (xs ++ [(⟨xf, xc, li, ri, xs', xv⟩ : Nd)]).length = xs.length + 1 := by simp
      rw [hlen1] at ho1 hr1 hd1
      have e2' : w1.cell? ⟨g1, xs.length * 6 + 2, none⟩ = some (.int .i64 li) := e2
      obtain ⟨M, hM⟩ : ∃ M, M = xs.length + 1 + a.size := ⟨_, rfl⟩
      have hC : ∀ W, NOwn W base (.slice (some ⟨g1, 0, none⟩) (xs.length + 1) d1) (xs ++ [⟨xf, xc, (xs.length : Int) + 1, ri, xs', xv⟩]) → Below base w W → Calls Tryd.prog 9 #[.slice (some ⟨b, o, none⟩) m d, .int .i64 li, .slice (some ⟨g1, 0, none⟩) (xs.length + 1) d1] W
          fun e w' => ∃ g2 d2, e = .returned (.slice (some ⟨g2, 0, none⟩) M d2) ∧ base ≤ g2 ∧ w'.cell? ⟨g2, xs.length * 6 + 3, none⟩ = some (.int .i64 ri) ∧ w'.frozen? ⟨g2, xs.length * 6 + 3, none⟩ = false ∧ (xs ++ (⟨xf, xc, (xs.length : Int) + 1, ri, xs', xv⟩ : Nd) :: layK (xs.length + 1) a).length = M ∧
            NOwn w' base (.slice (some ⟨g2, 0, none⟩) M d2) (xs ++ ⟨xf, xc, (xs.length : Int) + 1, ri, xs', xv⟩ :: layK (xs.length + 1) a) ∧ Below base W w' := by
        intro W h hbW
        refine (hIL (xs ++ [⟨xf, xc, (xs.length : Int) + 1, ri, xs', xv⟩]) _ W ((unhide HT).below hbW) h (Nat.le_trans hB hbW.size) (by simp; omega)).mono ?_
        rintro e w' ⟨v', rfl, ho, hb'⟩
        rw [show (xs ++ [(⟨xf, xc, (xs.length : Int) + 1, ri, xs', xv⟩ : Nd)]).length = xs.length + 1 by simp, List.append_assoc, List.singleton_append] at ho
        obtain ⟨A2, d2, rfl, _, hd⟩ := ho.slice
        have hl : (xs ++ (⟨xf, xc, (xs.length : Int) + 1, ri, xs', xv⟩ : Nd) :: layK (xs.length + 1) a).length = M := by simp [layK_len]; omega
        rw [hl] at ho hd ⊢
        obtain ⟨g2, rfl, h1, _, h2, h3⟩ := ho.at_ hl (k := xs.length) (x := ⟨xf, xc, (xs.length : Int) + 1, ri, xs', xv⟩) (by simp) 3 (by omega)
        exact ⟨g2, d2, rfl, h1, h2, h3, rfl, ho, hb'⟩
      have hST := NOwn.stored (n := xs.length + 1) (zs := []) (y := ⟨xf, xc, (xs.length : Int) + 1, ri, xs', xv⟩) ho1 (by simp) 2 (.int .i64 ((xs.length : Int) + 1)) (by omega) rfl
      have hB2 := hb1.setCell (p := ⟨g1, xs.length * 6 + 2, none⟩) hg1 (.int .i64 ((xs.length : Int) + 1))
      have HC := hide (hC _ hST hB2)
      have hD : ∀ W g2 d2, NOwn W base (.slice (some ⟨g2, 0, none⟩) M d2) (xs ++ ⟨xf, xc, (xs.length : Int) + 1, M, xs', xv⟩ :: layK (xs.length + 1) a) → Below base w W → Calls Tryd.prog 9 #[.slice (some ⟨b, o, none⟩) m d, .int .i64 ri, .slice (some ⟨g2, 0, none⟩) M d2] W
          fun e w' => ∃ v', e = .returned v' ∧ NOwn w' base v' (xs ++ layK xs.length (.node ⟨xf, xc, li, ri, xs', xv⟩ a bb)) ∧ Below base W w' := by
        intro W g2 d2 h hbW
        have hl : (xs ++ (⟨xf, xc, (xs.length : Int) + 1, M, xs', xv⟩ : Nd) :: layK (xs.length + 1) a).length = M := by simp [layK_len]; omega
        refine (hIR (xs ++ (⟨xf, xc, (xs.length : Int) + 1, M, xs', xv⟩ : Nd) :: layK (xs.length + 1) a) _ W ((unhide HT).below hbW) h (Nat.le_trans hB hbW.size) (by rw [hl]; omega)).mono ?_
        rintro e w' ⟨v', rfl, ho, hb'⟩
        refine ⟨v', rfl, ?_, hb'⟩
        rw [hl] at ho
        rw [unhide HKL]
        have h2 : ((xs.length + 1 : Nat) : Int) = (xs.length : Int) + 1 := by omega
        rw [← hM, h2]
        simpa using ho
      have HD := hide hD
      have hMlt : xs.length < M := by omega
      have hMle : M ≤ 1000000 := by omega
      have HB2 := hide hB2
      clear hown1 ho1 hr1 hr hd1 ho hown c0 c1 c2 c4 c5 e2 hC hD hST hB2 hIL hIR HKL hlen1 hM
      go_wp2_with fail
      refine (unhide HC).mono ?_
      rintro e w2 ⟨g2, d2', rfl, hg2, e3, f3, hd2, ho2, hb2⟩
      have hST := NOwn.stored (n := M) (y := ⟨xf, xc, (xs.length : Int) + 1, M, xs', xv⟩) ho2 hd2 3 (.int .i64 (M : Int)) (by omega) rfl
      have hbw2 := (unhide HB2).trans hb2
      have d3 := (hbw2.cell (p := ⟨b, o + i * 6 + 3, none⟩) hbb).trans c3
      have hB3 := hbw2.setCell (p := ⟨g2, xs.length * 6 + 3, none⟩) hg2 (.int .i64 (M : Int))
      have HE := hide (unhide HD _ g2 d2' hST hB3)
      have HB3 := hide hB3
      clear hST hbw2 hB3 ho2 hb2 HD HC HB2 d0 d2 e2' f2 c3 hb1
      go_wp2_with fail
      refine (unhide HE).mono ?_
      rintro e w3 ⟨v3, rfl, ho3, hb3⟩
      go_wp2_with fail
      go_ret
      exact ⟨v3, rfl, ho3, (unhide HB3).trans hb3⟩
end Go.Proofs.YtefkjpcgcgofgaaDoor
/- The reference's give: a node gives way to one below it. Conditions: the tree is right, and the node gives way. -/
namespace Go.Proofs.YtefkjpcgcgofgaaDoor
set_option linter.unusedVariables false
set_option linter.unusedSimpArgs false
open Go.RowKit

theorem NOwn.set_ {w : World} {base cap g u : Nat} {t : List Nd} (h : NOwn w base (.slice (some ⟨g, 0, none⟩) t.length cap) t) {x y : Nd} (hx : t[u]? = some x) (r : Nat) (z : Value) (hr : r < 6) (he : x.cells.set r z = y.cells) :
    NOwn (w.setCell ⟨g, u * 6 + r, none⟩ z) base (.slice (some ⟨g, 0, none⟩) t.length cap) (t.set u y) := by
  have hu : u < t.length := (List.getElem?_eq_some_iff.1 hx).1
  have e1 : t = t.take u ++ x :: t.drop (u + 1) := by
    have := List.getElem?_eq_some_iff.1 hx
    rw [← this.2, List.getElem_cons_drop, List.take_append_drop]
  have e2 : t.set u y = t.take u ++ y :: t.drop (u + 1) := by rw [List.set_eq_take_append_cons_drop, if_pos hu]
  have e3 : (t.take u).length = u := by rw [List.length_take]; omega
  rw [e2]
  have h' : NOwn w base (.slice (some ⟨g, 0, none⟩) t.length cap) (t.take u ++ x :: t.drop (u + 1)) := by rw [← e1]; exact h
  have := h'.stored (y := y) (by rw [← e1]) r z hr he
  rw [e3] at this
  exact this
def GivePost (l : List Nd) (w : World) (e : Ending) (w' : World) : Prop := ∃ v, e = .returned v ∧ NOwn w' w.heap.size v l ∧ Below w.heap.size w w'
set_option maxRecDepth 100000 in
set_option maxHeartbeats 4000000 in
theorem rgive_any (A : Option Addr) (m d n a c : Nat) (t : List Nd) (hR : Right t n) (h : toR t n a = some c) (w : World) (ht : NReads w w.heap.size A m t) :
    Calls Tryd.prog 29 #[.slice A m d, .int .i64 a, .int .i64 c] w (GivePost (gaveT t a c) w) := by
  have hlen := ht.len
  have hm63 : m ≤ 63 := by have := hR.most; omega
  obtain ⟨l1, l2, l3, l4⟩ := kid_less hR h t.length (by omega)
  have hs := hR.sortedLen
  have hnil := World.ownsRow_nil w w.heap.size 43 6
  have HUP := hide (fun (W : World) (hb : Below w.heap.size w W) => up_any A m d w.heap.size a t W (ht.below hb) (by unfold maxLen; omega))
  rcases up_par (t := t) (at_ := a) with hu | ⟨u, hpar, hu⟩
  · have e : gaveT t a c = layK 0 (kof t t.length c) := by unfold gaveT; rw [if_pos (by rw [hu]; decide)]
    have hsz : (kof t t.length c).size ≤ 1000000 := by
      have hd := kof_size hR.behind t.length c l4 (by omega)
      have hdd : dep t c ≤ 10 := by
        have h1 := kof_deep hR.behind t.length c l4 (by omega)
        have hi : a < t.length := by omega
        have h2 := kof_deep hR.behind t.length a hi (by omega)
        rcases Nat.eq_zero_or_pos a with h0 | h0
        · subst h0; have := hR.deep; omega
        · exact absurd hu (by
            obtain ⟨p, m', hp, hk⟩ := ups_some (t := t) (j := a) (by rw [hR.one a h0 hi]; exact Nat.le_refl _)
            obtain ⟨m2, hm', hf', hc'⟩ := kid_child hR.behind hp hk
            obtain ⟨b1, b2, b3, b4⟩ := hR.behind p m2 hm' hf'
            intro hu
            exact upAt_none t 0 hu p m2 hm' ⟨hf', by omega⟩)
      have : 2 ^ (dep t c + 1) ≤ 2 ^ 11 := Nat.pow_le_pow_right (by omega) (by omega)
      omega
    have HC := hide (fun (W : World) (hb : Below w.heap.size w W) => rsortN_any A m d t (by unfold maxLen; omega) hR.behind t.length c [] (.slice none 0 0) w.heap.size W l4 (by omega) (ht.below hb) (NOwn.nil_ _ _) hb.size (by simpa using hsz))
    rw [e]
    have HU := hide hu
    clear hR h hlen l1 l2 l3 hs hu e hsz
    go_enter Tryd.func29, Tryd.ntmps29
    go_upto_region 3 with (at_builtin; refine app_many elem_nodeP (.tmp 9) (.tmp 10) rfl rfl rfl hnil rfl ht (nodes_one t) (by omega) (Nat.le_refl _) ?_; intro v1 w1 ho1 hb1 hg1)
    clear ho1 hg1
    go_wp2_with fail
    refine (unhide HUP _ hb1).mono ?_
    rintro e w2 ⟨rfl, rfl⟩
    rw [unhide HU]
    go_wp2_with fail
    refine (unhide HC _ hb1).mono ?_
    rintro e w2 ⟨v2, rfl, ho2, hb2⟩
    go_wp2_with fail
    go_ret
    exact ⟨v2, rfl, by simpa using ho2, hb1.trans hb2⟩
  · obtain ⟨x, hx, hf, hl⟩ := hpar
    obtain ⟨e, hG⟩ := gave_up hR h hx hf hl
    have hb' := relink_behind (a := a) (c := c) hR.behind hx hf (by have := hR.behind u x hx hf; omega) l4
    have hul : u < t.length := (List.getElem?_eq_some_iff.1 hx).1
    have hsz : (kof (t.set u (relink x a c)) (t.set u (relink x a c)).length 0).size ≤ 1000000 := by
      have h1 := hG.less
      rw [e, layK_len] at h1
      unfold kTree at h1
      have := hR.most
      omega
    have HC : Hid (∀ (A' : Option Addr) (d' : Nat) (W : World), NReads W W.heap.size A' t.length (t.set u (relink x a c)) → Calls Tryd.prog 9 #[.slice A' t.length d', .int .i64 0, .slice none 0 0] W fun e w' => ∃ v', e = .returned v' ∧ NOwn w' W.heap.size v' (layK 0 (kTree (t.set u (relink x a c)))) ∧ Below W.heap.size W w') := hide (fun A' d' W hr => by
      have h := rsortN_any A' t.length d' (t.set u (relink x a c)) (by unfold maxLen; have := hR.most; omega) hb' (t.set u (relink x a c)).length 0 [] (.slice none 0 0) W.heap.size W (by rw [List.length_set]; exact hR.pos) (by omega) hr (NOwn.nil_ _ _) (Nat.le_refl _) (by simpa using hsz)
      rw [List.nil_append, List.length_nil] at h
      exact h)
    rw [e]
    have HU := hide hu
    have h63 : t.length ≤ 63 := hR.most
    have hm' : m = t.length := hlen.symm
    subst hm'
    clear hR h hlen l1 l2 l3 hs hu hsz hb' hG e
    go_enter Tryd.func29, Tryd.ntmps29
    go_upto_region 3 with (at_builtin; refine app_many elem_nodeP (.tmp 9) (.tmp 10) rfl rfl rfl hnil rfl ht (nodes_one t) (by omega) (Nat.le_refl _) ?_; intro v1 w1 ho1 hb1 hg1)
    rw [Nat.zero_add, List.nil_append] at ho1
    have hn1 : NOwn w1 w.heap.size v1 t := ho1
    obtain ⟨A1, d1, rfl, hr1, hd1⟩ := hn1.slice
    obtain ⟨g, hA1, hg, hgs, e2, f2⟩ := hn1.at_ rfl hx 2 (by omega)
    subst hA1
    obtain ⟨g', hA2, _, _, e3, f3⟩ := hn1.at_ rfl hx 3 (by omega)
    cases hA2
    have e2' : w1.cell? ⟨g, u * 6 + 2, none⟩ = some (.int .i64 x.l) := e2
    have e3' : w1.cell? ⟨g, u * 6 + 3, none⟩ = some (.int .i64 x.r) := e3
    clear ho1 hg1 e2 e3 hr1 hnil
    go_wp2_with fail
    refine (unhide HUP _ hb1).mono ?_
    rintro e w2 ⟨rfl, rfl⟩
    rw [unhide HU]
    by_cases hla : x.l = (a : Int)
    · have hq : (x.l == (a : Int)) = true := by simpa using hla
      have hst := hn1.set_ hx 2 (.int .i64 c) (y := relink x a c) (by omega) (by unfold relink; rw [if_pos hla]; rfl)
      have hB2 := hb1.setCell (p := ⟨g, u * 6 + 2, none⟩) hg (.int .i64 c)
      obtain ⟨_, _, es, hr2, _⟩ := hst.slice
      rw [List.length_set] at es hr2
      injection es with es1 es2 es3
      subst es1
      clear es2 es3
      have hcc := hide (unhide HC _ d1 _ hr2)
      have HB2 := hide hB2
      clear hla hst hB2 hr2 hn1 HUP HC hx hl hf
      go_wp2_with fail
      refine (unhide hcc).mono ?_
      rintro e w3 ⟨v3, rfl, ho3, hb3⟩
      have hs2 := (unhide HB2).size
      clear hcc
      go_wp2_with fail
      go_ret
      refine ⟨v3, rfl, ?_, (unhide HB2).trans (hb3.mono hs2)⟩
      exact NOwn.low ho3 hs2
    · have hq : (x.l == (a : Int)) = false := by simpa using hla
      have hst := hn1.set_ hx 3 (.int .i64 c) (y := relink x a c) (by omega) (by unfold relink; rw [if_neg hla]; rfl)
      have hB2 := hb1.setCell (p := ⟨g, u * 6 + 3, none⟩) hg (.int .i64 c)
      obtain ⟨_, _, es, hr2, _⟩ := hst.slice
      rw [List.length_set] at es hr2
      injection es with es1 es2 es3
      subst es1
      clear es2 es3
      have hcc := hide (unhide HC _ d1 _ hr2)
      have HB2 := hide hB2
      clear hla hst hB2 hr2 hn1 HUP HC hx hl hf
      go_wp2_with fail
      refine (unhide hcc).mono ?_
      rintro e w3 ⟨v3, rfl, ho3, hb3⟩
      have hs2 := (unhide HB2).size
      clear hcc
      go_wp2_with fail
      go_ret
      refine ⟨v3, rfl, ?_, (unhide HB2).trans (hb3.mono hs2)⟩
      exact NOwn.low ho3 hs2
end Go.Proofs.YtefkjpcgcgofgaaDoor
