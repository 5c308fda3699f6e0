/- WeighSame: the walk. Conditions: arguments read as data. -/
import Derived.Test.YtefkjpcgcgofgaaWSumLaw
import Derived.Test.YtefkjpcgcgofgaaWSame
import Derived.Deep.DeepCutAuto
import Derived.Deep.CutRange
namespace Go.Proofs.Ytefkjpcgcgofgaa
set_option linter.unusedVariables false
set_option linter.unusedSimpArgs false
open Go.RowKit

theorem same_fact : sameV [1, 2] [1, 3] = 1 ∧ sameE [1, 2] [1, 3] = 0 := ⟨by decide, by decide⟩
theorem sameE_comm (a b : List Int) : sameE b a = sameE a b := by
  unfold sameE
  by_cases h : a.length = b.length
  · rw [if_pos h, if_pos h.symm, h]
  · rw [if_neg h, if_neg (fun e => h e.symm)]
theorem sameV_comm (a b : List Int) : sameV b a = sameV a b := by unfold sameV; rw [sameE_comm, sameN_comm]
theorem sameV_le (a b : List Int) : sameV a b ≤ a.length := by
  unfold sameV
  have := sameN_le a b
  split <;> omega
theorem sameV_self {a : List Int} (h : a.length ≤ 1000) : sameE a a = 0 ∧ sameV a a = a.length := by
  have e : sameE a a = 0 := by unfold sameE; rw [if_pos rfl, if_neg (by omega)]
  exact ⟨e, by unfold sameV; rw [if_pos e, sameN_self]⟩
section
variable {w w' : World} {B n : Nat} {A : Option Addr} {us : List Us}
theorem UReads.len (h : UReads w B A n us) : us.length = n := by
  have := h.1
  rw [flatMap_len Us.cells 3 (fun _ => rfl)] at this
  omega
theorem UReads.get (h : UReads w B A n us) {k : Nat} (hk : k < n) : ∃ b off u, A = some ⟨b, off, none⟩ ∧ b < B ∧ us[k]? = some u ∧ w.cell? ⟨b, off + k * 3 + 1, none⟩ = some (.int .i64 u.n) := by
  obtain ⟨b, off, rfl, hb, hc⟩ := Reads.spot h (by omega) (by omega)
  have hl : k < us.length := by rw [h.len]; exact hk
  have hs : us[k]? = some us[k] := List.getElem?_eq_getElem hl
  exact ⟨b, off, us[k], rfl, hb, hs, hc (k * 3 + 1) _ (flatMap_at Us.cells 3 (fun _ => rfl) us k 1 _ hs (by omega))⟩
end
def sumTo' (us : List Us) (k : Nat) : Int := sumU (us.take k)
theorem sumTo'_next {us : List Us} {k : Nat} {u : Us} (h : us[k]? = some u) : sumTo' us (k + 1) = sumTo' us k + u.n := by
  unfold sumTo'
  rw [take_next h, sumU_app]
  simp [sumU]
theorem sumTo'_in {us : List Us} {b : Int} (h : Small us b) (hb : 0 ≤ b) : ∀ k, 0 ≤ sumTo' us k ∧ sumTo' us k ≤ b * us.length := by
  have key : ∀ l : List Us, (∀ u ∈ l, 0 ≤ u.n ∧ u.n ≤ b) → 0 ≤ sumU l ∧ sumU l ≤ b * l.length := by
    intro l
    induction l with
    | nil => intro _; simp [sumU]
    | cons x r ih =>
      intro hl
      have h1 := ih (fun u hu => hl u (List.mem_cons_of_mem _ hu))
      have h2 := hl x (List.mem_cons_self ..)
      have e : sumU (x :: r) = x.n + sumU r := by simp [sumU]
      have e2 : b * ((x :: r).length : Int) = b * (r.length : Int) + b := by
        rw [List.length_cons]
        push_cast
        rw [Int.mul_add, Int.mul_one]
      rw [e, e2]
      omega
  intro k
  have h1 := key (us.take k) (fun u hu => h u (List.mem_of_mem_take hu))
  have h2 : b * ((us.take k).length : Int) ≤ b * (us.length : Int) := Int.mul_le_mul_of_nonneg_left (by rw [List.length_take]; omega) hb
  unfold sumTo'
  omega
theorem calls_nameW {P : Program} {f : FuncId} {xs : Array Value} {W : World} {Q : Ending → World → Prop} (h : ∀ X, X = W → Calls P f xs X Q) : Calls P f xs W Q := h W rfl
theorem errV_nil (e : Int) : (e = 0 ∧ errV e = .nilIface) ∨ (e ≠ 0 ∧ errV e = .iface 71 (.int .i64 e)) := by
  by_cases h : e = 0
  · exact .inl ⟨h, errV_0 h⟩
  · exact .inr ⟨h, errV_1 h⟩
structure OneBoxW (w : World) (f way : Int) (Aw : Option Addr) (nw cw : Nat) (At : Option Addr) (nt ct : Nat) (wx : World) : Prop where
  below : Below w.heap.size w wx
  size : w.heap.size + 1 ≤ wx.heap.size
  a : Blk wx w.heap.size 43 #[.int .i64 f, .int .i64 way, .slice Aw nw cw, .slice At nt ct]
section
variable {w wx wy : World} {f way : Int} {Aw : Option Addr} {nw cw : Nat} {At : Option Addr} {nt ct : Nat}
theorem OneBoxW.next (h : OneBoxW w f way Aw nw cw At nt ct wx) (hb : Below wx.heap.size wx wy) : OneBoxW w f way Aw nw cw At nt ct wy :=
  ⟨h.below.trans (hb.mono (by have := h.size; omega)), Nat.le_trans h.size hb.size, h.a.below hb (by have := h.size; omega)⟩
theorem OneBoxW.cells (h : OneBoxW w f way Aw nw cw At nt ct wx) :
    wx.cell? ⟨w.heap.size, 0, none⟩ = some (.int .i64 f) ∧ wx.cell? ⟨w.heap.size, 1, none⟩ = some (.int .i64 way) ∧ wx.cell? ⟨w.heap.size, 2, none⟩ = some (.slice Aw nw cw) ∧ wx.cell? ⟨w.heap.size, 3, none⟩ = some (.slice At nt ct) := ⟨h.a.cell 0, h.a.cell 1, h.a.cell 2, h.a.cell 3⟩
end

set_option maxRecDepth 100000 in
set_option maxHeartbeats 16000000 in
theorem weighSame_walk (A C : Option Addr) (n ca m cc : Nat) (a b : List Int) (g : Gv) (w : World) (ha : IReads w w.heap.size A n a) (hb : IReads w w.heap.size C m b) (hg : GReads w w.heap.size g) (hn : n ≤ maxLen) (hm : m ≤ maxLen) :
    Calls Try.prog 5 #[.slice A n ca, .slice C m cc, g.val] w fun e w' => e = .returned (.bool true) ∧ Below w.heap.size w w' := by
  have cAB : Hid (∀ W, Below w.heap.size w W → Calls Try.prog 17 #[.slice A n ca, .slice C m cc] W fun e w' => e = .returned (.tuple #[.int .i64 (sameV a b), errV (sameE a b)]) ∧ w' = W) := hide (fun W hB => wsame_any A C n m ca cc a b W _ _ (ha.below hB) (hb.below hB) hn hm)
  have cBA : Hid (∀ W, Below w.heap.size w W → Calls Try.prog 17 #[.slice C m cc, .slice A n ca] W fun e w' => e = .returned (.tuple #[.int .i64 (sameV a b), errV (sameE a b)]) ∧ w' = W) := hide (fun W hB => by
    rw [← sameV_comm, ← sameE_comm]
    exact wsame_any C A m n cc ca b a W _ _ (hb.below hB) (ha.below hB) hm hn)
  have cAA : Hid (∀ W, n ≤ 1000 → Below w.heap.size w W → Calls Try.prog 17 #[.slice A n ca, .slice A n ca] W fun e w' => e = .returned (.tuple #[.int .i64 n, .nilIface]) ∧ w' = W) := hide (fun W h1 hB => by
    have h := wsame_any A A n n ca ca a a W _ _ (ha.below hB) (ha.below hB) hn hn
    have hl := ha.len
    obtain ⟨e1, e2⟩ := sameV_self (a := a) (by omega)
    rw [e1, e2, hl, errV_0 rfl] at h
    exact h)
  have cCk : Hid (∀ W, Below w.heap.size w W → Calls Try.prog 19 #[g.val] W fun e w' => e = .returned (errV g.e) ∧ Below W.heap.size W w') := hide (fun W hB => gcheck_any g W ((hg.below hB).more hB.size))
  have cPG : Hid (∀ W, Below w.heap.size w W → Calls Try.prog 18 #[g.val] W (PGrovePost g W)) := hide (fun W hB => pruneGrove_any g W ((hg.below hB).more hB.size))
  have cUs : Hid (∀ W, g.e = 0 → Below w.heap.size w W → Calls Try.prog 20 #[g.val] W fun e w' => ∃ A c, e = .returned (.tuple #[.slice A (usesL g.trees).length c, .nilIface]) ∧ UReads w' w'.heap.size A (usesL g.trees).length (usesL g.trees) ∧ Below W.heap.size W w') := hide (fun W h0 hB => by
    have h := uses_any g W ((hg.below hB).more hB.size)
    unfold UsesPost at h
    rw [if_pos h0, errV_0 h0] at h
    exact h)
  have HVL : Hid (sameV a b ≤ n) := hide (by have := sameV_le a b; rw [ha.len] at this; exact this)
  have HG1 : Hid (g.e = 0 → ∃ k : Nat, g.f = k ∧ (∀ t ∈ g.trees, Right t k)) := hide (fun h => by
    have hG := groveE_right h
    have h1 : ∀ t ∈ g.trees, Right t g.f := fun t ht => by
      obtain ⟨r, hr, rfl⟩ := List.mem_map.1 ht
      exact right_of (hG.trees r hr)
    have h0 : g.ts ≠ [] := fun e => by have := hG.pos; rw [e] at this; simp at this
    obtain ⟨r0, hr0⟩ := List.exists_mem_of_ne_nil _ h0
    obtain ⟨k, hk⟩ : ∃ k : Nat, g.f = k := ⟨g.f.toNat, by have := (h1 r0.l (List.mem_map.2 ⟨r0, hr0, rfl⟩)).fe0; omega⟩
    exact ⟨k, hk, fun t ht => by rw [← hk]; exact h1 t ht⟩)
  have HG2 : Hid (g.e = 0 → g.trees.length ≤ 12) := hide (fun h => by have := (groveE_right h).most; rw [g.trees_len]; exact this)
  unfold PGrovePost at cPG
  obtain ⟨V, hV⟩ : ∃ V, V = sameV a b := ⟨_, rfl⟩
  obtain ⟨E, hE⟩ : ∃ E, E = sameE a b := ⟨_, rfl⟩
  rw [← hV] at cAB cBA HVL
  rw [← hE] at cAB cBA
  obtain ⟨G, hGdef⟩ : ∃ G, G = g := ⟨_, rfl⟩
  rw [← hGdef] at cCk cPG cUs HG1 HG2
  have eG : G.val = g.val := by rw [hGdef]
  rw [eG] at cCk cPG cUs
  obtain ⟨f, way, Aw, nw, cw, ws, At, nt, ct, ts⟩ := g
  simp only [Gv.val] at cCk cPG cUs ⊢
  have HGD := hide hGdef
  clear hg ha hb hV hE eG hGdef
  go_enter Try.func5, Try.ntmps5
  go_wp2_with fail
  refine calls_nameW fun X hX => ?_
  have S0 : OneBoxW w f way Aw nw cw At nt ct X := by
    rw [hX]
    refine ⟨(((Below.refl _ _).alloc (Nat.le_refl _) _).alloc (by simp) _).alloc (by simp; omega) _, by simp, ((Blk.new _ _ _).alloc _).alloc _⟩
  have h1 : IReads X X.heap.size (some ⟨w.heap.size + 1, 0, none⟩) 2 [1, 2] := by
    have h := Reads.new_ (w.alloc (.cells #[.int .i64 f, .int .i64 way, .slice Aw nw cw, .slice At nt ct] 43)) 1 2 [.int .i64 1, .int .i64 2] 3 rfl
    rw [World.size_alloc] at h
    rw [hX]
    exact (Reads.alloc h (by simp) _).more (by simp)
  have h2 : IReads X X.heap.size (some ⟨w.heap.size + 1 + 1, 0, none⟩) 2 [1, 3] := by
    have h := Reads.new_ ((w.alloc (.cells #[.int .i64 f, .int .i64 way, .slice Aw nw cw, .slice At nt ct] 43)).alloc (.cells #[.int .i64 1, .int .i64 2] 3)) 1 2 [.int .i64 1, .int .i64 3] 3 rfl
    rw [World.size_alloc, World.size_alloc] at h
    rw [hX]
    exact h.more (by simp)
  clear hX
  refine (wsame_any _ _ 2 2 2 2 [1, 2] [1, 3] X _ _ h1 h2 (by decide) (by decide)).mono ?_
  rintro e w1 ⟨rfl, rfl⟩
  rw [same_fact.1, same_fact.2, errV_0 rfl]
  clear h1 h2
  go_wp2_with fail
  refine (unhide cAB _ S0.below).mono ?_
  rintro e w2 ⟨rfl, rfl⟩
  go_wp2_with fail
  refine (unhide cBA _ S0.below).mono ?_
  rintro e w3 ⟨rfl, rfl⟩
  clear cAB cBA
  go_upto_region 6 with (fail)
  have d1 : (V != V) = false := by simp
  have d2 : decide ((n : Int) < V) = false := decide_eq_false (by have := unhide HVL; omega)
  go_cut [10, 12, 61] from 22 to 61 (fun s10 s12 s wx => s10 = errV E ∧ s12 = errV E ∧ s = .bool false ∧ OneBoxW w f way Aw nw cw At nt ct wx)
  case first =>
    rcases errV_nil E with ⟨_, he⟩ | ⟨_, he⟩
    · rw [he]
      go_wp2_with fail
      go_quiet (fail)
      go_wp2_with fail
      go_meet
      case rel => exact ⟨he.symm, he.symm, rfl, S0.next (below_drewN (Below.refl _ _) _)⟩
    · rw [he]
      go_wp2_with fail
      go_quiet (fail)
      go_wp2_with fail
      go_meet
      case rel => exact ⟨he.symm, he.symm, rfl, S0.next (below_drewN (Below.refl _ _) _)⟩
  case rest =>
    obtain ⟨rfl, rfl, rfl, S1⟩ := hcut
    clear S0 d1 d2 HVL
    go_upto_if 64 with (fail)
    go_cut [13] from 62 to 78 (fun s13 wx => OneBoxW w f way Aw nw cw At nt ct wx)
    case first =>
      by_cases h1 : n ≤ 1000
      · have d1 : decide (n ≤ 1000) = true := decide_eq_true h1
        have d2 : decide ((n : Int) ≤ 1000) = true := decide_eq_true (by omega)
        have d3 : ((n : Int) != (n : Int)) = false := by simp
        have hc := hide (unhide cAA _ h1 S1.below)
        try rw [d2]
        clear h1
        go_wp2_with fail
        refine (unhide hc).mono ?_
        rintro e w4 ⟨rfl, rfl⟩
        clear hc
        go_wp2_with fail
        go_meet
        case rel => exact S1
      · have d1 : decide (n ≤ 1000) = false := decide_eq_false h1
        have d2 : decide ((n : Int) ≤ 1000) = false := decide_eq_false (by omega)
        try rw [d2]
        clear h1
        go_wp2_with fail
        go_meet
        case rel => exact S1
    case rest =>
      have S2 := hcut
      clear S1 cAA
      obtain ⟨x0, x1, x2, x3⟩ := S2.cells
      go_wp2_with fail
      refine (unhide cPG _ S2.below).mono ?_
      rintro e w5 ⟨g', rfl, hg5, hok, hbad, hb5⟩
      have S5 := S2.next hb5
      clear S2 hb5 x0 x1 x2 x3 cPG
      obtain ⟨x0, x1, x2, x3⟩ := S5.cells
      have hs5 := S5.size
      have y0 := cell_alloc x0 (by show w.heap.size < _; omega)
      have y1 := cell_alloc x1 (by show w.heap.size < _; omega)
      have y2 := cell_alloc x2 (by show w.heap.size < _; omega)
      have y3 := cell_alloc x3 (by show w.heap.size < _; omega)
      rcases errV_nil G.e with ⟨he0, he⟩ | ⟨he0, he⟩
      · have HP : Hid (g'.e = 0) := hide (by
          obtain ⟨k, hk, hRt⟩ := unhide HG1 he0
          obtain ⟨a1, a2, a3, a4⟩ := hok he0
          exact pruned_grove he0 hk a1 a2 a3 (by rw [a4, hk, Int.toNat_natCast]))
        have HSUM : Hid (sumU (usesL g'.trees) ≤ sumU (usesL G.trees) ∧ Small (usesL G.trees) 756 ∧ Small (usesL g'.trees) 756) := hide (by
          obtain ⟨k, hk, hRt⟩ := unhide HG1 he0
          obtain ⟨a1, a2, a3, a4⟩ := hok he0
          have h12 := unhide HG2 he0
          rw [hk, Int.toNat_natCast] at a4
          have hin : ∀ t, Right t k → ∀ x ∈ t, x.f ≠ -1 → 0 ≤ x.f ∧ x.f < 8 := fun t ht x hx hf => by
            obtain ⟨i, hi⟩ := List.mem_iff_getElem?.1 hx
            have := ht.fe8
            rcases node_of (ht.node i x hi) with h | h
            · exact absurd h.1 hf
            · omega
          have hRp : ∀ t ∈ g'.trees, Right t k := fun t ht => by
            rw [a4] at ht
            obtain ⟨s, hs, rfl⟩ := List.mem_map.1 ht
            exact (hRt s hs).pruned k
          have hl : g'.trees.length = G.trees.length := by rw [a4, List.length_map]
          refine ⟨?_, fun u hu => ?_, fun u hu => ?_⟩
          · rw [usesL_sum (fun t ht => hin t (hRp t ht)) (fun t ht => (hRp t ht).most), usesL_sum (fun t ht => hin t (hRt t ht)) (fun t ht => (hRt t ht).most), a4]
            have := askL_pruned hRt
            omega
          · have := tableOf_small (fun t ht => (hRt t ht).most) u (usesL_mem hu)
            omega
          · have := tableOf_small (fun t ht => (hRp t ht).most) u (usesL_mem hu)
            omega)
        have cU1 := hide (fun W hB => unhide cUs W he0 hB)
        obtain ⟨us, hus⟩ : ∃ u, u = usesL G.trees := ⟨_, rfl⟩
        obtain ⟨vs, hvs⟩ : ∃ u, u = usesL g'.trees := ⟨_, rfl⟩
        have HUL : Hid (us.length ≤ 8 ∧ vs.length ≤ 8) := hide ⟨by rw [hus]; exact usesL_len _, by rw [hvs]; exact usesL_len _⟩
        have HUS : Hid (us.Pairwise fun x y => y.n ≤ x.n) := hide (by rw [hus]; unfold usesL listT; exact sortU_sorted _)
        rw [← hus] at cU1 HSUM
        rw [← hvs] at HSUM
        have HVS := hide hvs
        rw [he]
        clear he0 he hok hbad cUs cCk HG1 HG2 hus hvs x0 x1 x2 x3
        go_wp2_with fail
        clear y0 y1 y2 y3
        refine calls_nameW fun W6 hW6 => ?_
        have hb6 : Below w5.heap.size w5 W6 := by rw [hW6]; exact (Below.refl _ _).alloc (Nat.le_refl _) _
        have bZ6 : Blk W6 w5.heap.size 43 g'.cells := by unfold Gv.cells; rw [hW6]; exact Blk.new _ _ _
        have S6 := S5.next hb6
        have hg6 := (hg5.below hb6).more hb6.size
        clear hW6 S5 hg5 hb6
        refine (unhide cU1 _ S6.below).mono ?_
        rintro e w7 ⟨A7, c7, rfl, hr7, hb7⟩
        have S7 := S6.next hb7
        have bZ7 := bZ6.below hb7 bZ6.lt
        have hg7 := (hg6.below hb7).more hb7.size
        clear S6 bZ6 hg6 hb7 cU1
        have cU2 := hide (uses_any g' w7 hg7)
        unfold UsesPost at cU2
        rw [if_pos (unhide HP), errV_0 (unhide HP), ← unhide HVS] at cU2
        obtain ⟨z0, z1, zA, zn, zc, zw, zB, zm, zd, zt⟩ := g'
        have q0 := bZ7.cell 0
        have q1 := bZ7.cell 1
        have q2 := bZ7.cell 2
        have q3 := bZ7.cell 3
        simp [Gv.cells] at q0 q1 q2 q3
        simp only [Gv.val] at cU2
        clear HP HVS hg7 bZ7
        go_wp2_with fail
        refine (unhide cU2).mono ?_
        rintro e w8 ⟨A8, c8, rfl, hr8, hb8⟩
        have S8 := S7.next hb8
        have hu8 : UReads w8 w8.heap.size A7 us.length us := (Reads.below hr7 hb8).more hb8.size
        clear S7 hr7 hb8 cU2 q0 q1 q2 q3
        obtain ⟨nu, hnu⟩ : ∃ n, n = us.length := ⟨_, rfl⟩
        obtain ⟨nv, hnv⟩ : ∃ n, n = vs.length := ⟨_, rfl⟩
        rw [← hnu] at HUL hu8 ⊢
        rw [← hnv] at HUL hr8 ⊢
        have HNU := hide hnu
        have HNV := hide hnv
        have hnu8 := (unhide HUL).1
        have hnv8 := (unhide HUL).2
        have HB8 := hide S8.below
        clear hnu hnv HUL S8
        go_wp2_with fail
        go_loopw [19, 20] (fun s i wr => ∃ (k q : Nat) (S : Int), k ≤ nu ∧ i = .int .i64 k ∧ s = .int .i64 S ∧ Hid (S = sumTo' us k) ∧ 0 ≤ S ∧ S ≤ 10000 ∧ wr = w8.drewN q) (fun _ i _ => nu - (intOf i).toNat)
        case atStart => exact ⟨0, 0, 0, Nat.zero_le _, rfl, rfl, hide (by simp [sumTo', sumU]), by omega, by omega, rfl⟩
        case round =>
          obtain ⟨k, q, S, hk, rfl, rfl, HS, hS0, hS1, rfl⟩ := hrel
          by_cases hlt : k < nu
          · obtain ⟨b1, o1, u, rfl, _, hu, cu⟩ := UReads.get hu8 hlt
            have HN := hide (sumTo'_next hu)
            have hin := sumTo'_in (unhide HSUM).2.1 (by omega) (k + 1)
            have hul := (unhide HSUM).2.1 u (List.mem_of_getElem? hu)
            obtain ⟨un, hun⟩ : ∃ x, x = u.n := ⟨_, rfl⟩
            rw [← hun] at cu HN hul
            have HS2 : Hid (S + un = sumTo' us (k + 1)) := hide (by rw [unhide HN, unhide HS])
            have hS2 : 0 ≤ S + un ∧ S + un ≤ 10000 := by rw [unhide HS2]; rw [← unhide HNU] at hin; omega
            rcases Nat.eq_zero_or_pos k with rfl | hk0
            · clear hu hin hun HN
              go_wp2_with fail
              go_quiet (fail)
              go_wp2_with fail
              go_roundw
              case rel => exact ⟨0 + 1, q + nq, S + un, by omega, by go_num, rfl, HS2, hS2.1, hS2.2, by first | rfl | rw [World.drewN_drewN]⟩
              case measure => simp [intOf]; omega
            · obtain ⟨j, rfl⟩ : ∃ j, k = j + 1 := ⟨k - 1, by omega⟩
              obtain ⟨_, _, v, hAe, _, hv, cv⟩ := UReads.get hu8 (k := j) (by omega)
              cases hAe
              have hle : decide (v.n < un) = false := decide_eq_false (by
                have h1 := List.pairwise_iff_getElem.1 (unhide HUS) j (j + 1) (List.getElem?_eq_some_iff.1 hv).1 (List.getElem?_eq_some_iff.1 hu).1 (by omega)
                rw [(List.getElem?_eq_some_iff.1 hv).2, (List.getElem?_eq_some_iff.1 hu).2] at h1
                rw [hun]; omega)
              obtain ⟨vn, hvn⟩ : ∃ x, x = v.n := ⟨_, rfl⟩
              rw [← hvn] at cv hle
              have e1 : decide ((0 : Int) < (j : Int) + 1) = true := decide_eq_true (by omega)
              have e2 : decide ((0 : Int) < ((j + 1 : Nat) : Int)) = true := decide_eq_true (by omega)
              clear hu hv hin hun HN hvn hk0
              go_wp2_with fail
              go_quiet (fail)
              go_wp2_with fail
              go_roundw
              case rel => exact ⟨j + 1 + 1, q + nq, S + un, by omega, by go_num, rfl, HS2, hS2.1, hS2.2, by first | rfl | rw [World.drewN_drewN]⟩
              case measure => simp [intOf]; omega
          · obtain rfl : k = nu := by omega
            have HT : Hid (S = sumU us) := hide (by rw [unhide HS]; unfold sumTo'; rw [List.take_of_length_le (by rw [unhide HNU]; exact Nat.le_refl _)])
            clear HS hu8
            go_wp2_with fail
            go_loopw [19, 21] (fun s i wr => ∃ (k' : Nat) (R : Int), k' ≤ nv ∧ i = .int .i64 k' ∧ s = .int .i64 R ∧ Hid (R = S - sumTo' vs k') ∧ -10000 ≤ R ∧ R ≤ 10000 ∧ wr = w8.drewN q) (fun _ i _ => nv - (intOf i).toNat)
            case atStart => exact ⟨0, S, Nat.zero_le _, rfl, rfl, hide (by simp [sumTo', sumU]), by omega, by omega, rfl⟩
            case round =>
              obtain ⟨k', R, hk', rfl, rfl, HR, hR0, hR1, rfl⟩ := hrel
              by_cases hlt' : k' < nv
              · obtain ⟨b1, o1, u, rfl, _, hu, cu⟩ := UReads.get hr8 hlt'
                have HN := hide (sumTo'_next hu)
                have hin := sumTo'_in (unhide HSUM).2.2 (by omega) (k' + 1)
                have hul := (unhide HSUM).2.2 u (List.mem_of_getElem? hu)
                obtain ⟨un, hun⟩ : ∃ x, x = u.n := ⟨_, rfl⟩
                rw [← hun] at cu HN hul
                have HR2 : Hid (R - un = S - sumTo' vs (k' + 1)) := hide (by rw [unhide HN, unhide HR]; omega)
                have hR2 : -10000 ≤ R - un ∧ R - un ≤ 10000 := by rw [unhide HR2]; rw [← unhide HNV] at hin; omega
                clear hu hin hun HN
                go_wp2_with fail
                go_roundw
                case rel => exact ⟨k' + 1, R - un, by omega, by go_num, rfl, HR2, hR2.1, hR2.2, by trivial⟩
                case measure => simp [intOf]; omega
              · obtain rfl : k' = nv := by omega
                have hfin : 0 ≤ R := by
                  have h1 := (unhide HSUM).1
                  have h2 : sumTo' vs k' = sumU vs := by unfold sumTo'; rw [List.take_of_length_le (by rw [unhide HNV]; exact Nat.le_refl _)]
                  rw [unhide HR, h2, unhide HT]
                  omega
                have e1 : decide (0 ≤ R) = true := decide_eq_true hfin
                clear HR hfin hr8
                go_wp2_with fail
                go_ret
                exact ⟨rfl, below_drewN (unhide HB8) _⟩
      · have hc := hide (fun W hB => unhide cCk W hB)
        rw [he] at hc ⊢
        clear he0 he hok hbad cUs cCk HG1 HG2 x0 x1 x2 x3
        go_wp2_with fail
        refine (unhide hc _ (S5.below.alloc (by omega) _)).mono ?_
        rintro e w7 ⟨rfl, hb7⟩
        have hB7 := (S5.below.alloc (by omega) (.cells g'.cells 43)).trans (hb7.mono (by rw [World.size_alloc]; omega))
        clear hc y0 y1 y2 y3
        go_wp2_with fail
        go_ret
        exact ⟨rfl, hB7⟩
end Go.Proofs.Ytefkjpcgcgofgaa
