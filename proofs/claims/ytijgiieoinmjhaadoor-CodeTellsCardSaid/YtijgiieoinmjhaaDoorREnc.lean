/- orchref3.Encode. Conditions: a grove that reads as data. -/
import Derived.Test.YtijgiieoinmjhaaDoorCodeE
import Derived.Test.YtijgiieoinmjhaaDoorRNum
import Derived.Test.YtijgiieoinmjhaaDoorRefGrove
import Derived.Test.YtijgiieoinmjhaaDoorCut
namespace Go.Proofs.YtijgiieoinmjhaaDoor
set_option linter.unusedVariables false
set_option linter.unusedSimpArgs false
open Go.RowKit

/-- a row of numbers of the call's own -/
def RowI (base : Nat) (W : World) (v : Value) (L : List Int) : Prop := W.ownsRow base 3 1 v L.length (L.map (Value.int .i64))
theorem RowI.alloc {base : Nat} {W : World} {v : Value} {L : List Int} (h : RowI base W v L) (o : Obj) : RowI base (W.alloc o) v L := World.ownsRow.alloc h o
theorem appI {ops : Array Oper} {rest : List Oper} {o : Oper} {a : Act} {Q : Exit → Act → World → Prop} {wr : World} (s x : Operand) (z : Int) (hgd : o.guard = none) (ho : o.op = .call { callee := .builtin .append, args := #[s, x], argTypes := #[23, 23] })
    {base : Nat} {v : Value} {L : List Int} (hs : a.eval s = v) (hown : RowI base wr v L) {g : Nat} (hx : a.eval x = .slice (some ⟨g, 0, none⟩) 1 1) (hgs : wr.heap.size = g) (hn : L.length ≤ 5000) (hbase : base ≤ wr.heap.size)
    (h : ∀ v' w', RowI base w' v' (L ++ [z]) → Below base wr w' → (∀ g t cs, 3 ≠ t → Blk wr g t cs → Blk w' g t cs) → wpList Tryd.prog ops Q rest (a.put o.dst v') w') : wpList Tryd.prog ops Q (o :: rest) a (wr.alloc (.cells #[.int .i64 z] 3)) := by
  refine app_one elem_int s x [.int .i64 z] hgd ho hs hown hx hgs rfl (by intro u hu; simp at hu; subst hu; rfl) (by omega) hbase ?_
  intro v' w' h2 h3 _ h4
  refine h v' w' ?_ h3 ?_
  · unfold RowI
    rw [List.length_append, List.map_append]
    exact h2
  · intro g t cs hne hb
    exact (hb.alloc _).grown h4 (fun e => own_blk_ne hown hb hne e.symm)
theorem RowI.base {base base' : Nat} {W : World} {v : Value} {L : List Int} (h : RowI base W v L) (hb : base' ≤ base) : RowI base' W v L := own_base h hb

set_option maxRecDepth 100000 in
set_option maxHeartbeats 8000000 in
theorem rencode_any (g : Gv) (w : World) (hr : GReads w w.heap.size g) :
    Calls Tryd.prog 34 #[g.val] w fun e w' => ∃ v, e = .returned (.tuple #[v, .int .i64 g.encE]) ∧ w'.ownsRow w.heap.size 5 1 v g.encB.length (g.encB.map (Value.int .u8)) ∧ Below w.heap.size w w' := by
  have cCk := hide (fun (W : World) (hB : Below w.heap.size w W) => rgrove_any g W ((hr.below hB).more hB.size))
  by_cases h0 : g.e = 0
  case neg =>
    have hE : g.encE = g.e := by unfold Gv.encE; rw [if_neg h0]
    have hEB : g.encB = [] := by unfold Gv.encB; rw [hE, if_neg h0]
    rw [hE, hEB]
    obtain ⟨E, hE⟩ : ∃ E, E = g.e := ⟨_, rfl⟩
    rw [← hE] at cCk h0 ⊢
    have d : (E == 0) = false := by simpa using h0
    obtain ⟨f, way, Aw, nw, cw, ws, At, nt, ct, ts⟩ := g
    simp only [Gv.val] at cCk ⊢
    clear hE hEB h0 hr
    obtain ⟨W, hW⟩ : ∃ W, W = w.alloc (.cells #[.int .i64 f, .int .i64 way, .slice Aw nw cw, .slice At nt ct] 73) := ⟨_, rfl⟩
    have hb0 : Below w.heap.size w W := by rw [hW]; exact (Below.refl _ _).alloc (Nat.le_refl _) _
    go_enter Tryd.func34, Tryd.ntmps34
    go_wp2_with fail
    rw [← hW]
    clear hW
    refine (unhide cCk W hb0).mono ?_
    rintro e w1 ⟨rfl, hb1⟩
    clear cCk
    go_wp2_with fail
    go_ret2
    exact ⟨.slice none 0 0, rfl, by simpa using World.ownsRow_nil _ _ _ _, hb0.trans (hb1.mono hb0.size)⟩
  have hG := groveE_right h0
  have hgood := hG.good
  have hnt : g.nt ≤ 12 := by have e1 := hr.ts.len; have e2 := hG.most; omega
  have hnw : g.nw = g.nt := by have e1 := hr.ts.len; have e2 := hr.ws.len; have e3 := hG.wlen; omega
  have HPL : Hid (g.pairs.length = g.nt) := hide (by
    have e1 := hr.ts.len; have e2 := hr.ws.len; have e3 := hG.wlen
    unfold Gv.pairs; rw [List.length_zip, g.trees_len]; omega)
  have HP : Hid (∀ (k : Nat) (x : Int) (r : Tr), g.ws[k]? = some x → g.ts[k]? = some r → g.pairs[k]? = some (x, r.l) ∧ TrGood (x, r.l)) := hide (fun k x r h1 h2 => ⟨pair_at h1 h2, hgood.ts _ (List.mem_of_getElem? (pair_at h1 h2))⟩)
  have HPM : Hid (∀ x ∈ g.pairs, x.2.length ≤ 63) := hide (fun x hx => (hgood.ts x hx).most)
  have HIN : Hid (∀ x ∈ groveNums g.f g.way g.pairs, In64 x) := hide (nums64 hgood)
  have HE : Hid (g.encE = if 6000 < (encs (groveNums g.f g.way g.pairs)).length then 4 else 0) := hide (by unfold Gv.encE; rw [if_pos h0]; rfl)
  have HB : Hid (g.encE = 0 → g.encB = encs (groveNums g.f g.way g.pairs)) := hide (fun h => by unfold Gv.encB; rw [if_pos h]; rfl)
  have HB0 : Hid (g.encE ≠ 0 → g.encB = []) := hide (fun h => by unfold Gv.encB; rw [if_neg h])
  obtain ⟨P, hP⟩ : ∃ P, P = g.pairs := ⟨_, rfl⟩
  obtain ⟨EE, hEE⟩ : ∃ E, E = g.encE := ⟨_, rfl⟩
  obtain ⟨EB, hEB⟩ : ∃ E, E = g.encB := ⟨_, rfl⟩
  rw [← hP] at HPL HP HPM HE HB HIN
  rw [← hEE] at HE HB HB0
  rw [← hEB] at HB HB0
  rw [← hEE, ← hEB]
  rw [h0] at cCk
  have htr := hr.ts
  have hwr := hr.ws
  obtain ⟨f, way, Aw, nw, cw, ws, At, nt, ct, ts⟩ := g
  dsimp only at hnt hnw HPL HP HE HB htr hwr HIN
  subst hnw
  simp only [Gv.val] at cCk ⊢
  clear hEE hEB hP h0 hG hgood hr
  obtain ⟨W, hW⟩ : ∃ W, W = w.alloc (.cells #[.int .i64 f, .int .i64 way, .slice Aw nw cw, .slice At nw ct] 73) := ⟨_, rfl⟩
  have hbx : Blk W w.heap.size 73 #[.int .i64 f, .int .i64 way, .slice Aw nw cw, .slice At nw ct] := by rw [hW]; exact Blk.new _ _ _
  have hb0 : Below w.heap.size w W := by rw [hW]; exact (Below.refl _ _).alloc (Nat.le_refl _) _
  have hsW : W.heap.size = w.heap.size + 1 := by rw [hW]; simp
  go_enter Tryd.func34, Tryd.ntmps34
  go_wp2_with fail
  rw [← hW]
  clear hW
  refine (unhide cCk W hb0).mono ?_
  rintro e w1 ⟨rfl, hb1⟩
  clear cCk
  have hbx1 := hbx.below hb1 (by omega)
  have hB1 := hb0.trans (hb1.mono (by omega))
  have hz1 := hb1.size
  obtain ⟨base, hbase⟩ : ∃ base, base = w1.heap.size := ⟨_, rfl⟩
  have hbw : w.heap.size < base := by omega
  have HX : Hid (∀ W', Below base w1 W' → W'.cell? ⟨w.heap.size, 0, none⟩ = some (.int .i64 f) ∧ W'.cell? ⟨w.heap.size, 1, none⟩ = some (.int .i64 way) ∧ W'.cell? ⟨w.heap.size, 2, none⟩ = some (.slice Aw nw cw) ∧ W'.cell? ⟨w.heap.size, 3, none⟩ = some (.slice At nw ct)) := hide (fun W' hb => by
    have := hbx1.below hb hbw
    exact ⟨this.cell 0, this.cell 1, this.cell 2, this.cell 3⟩)
  obtain ⟨p0, p1, p2, p3⟩ := unhide HX w1 (Below.refl _ _)
  obtain ⟨X, hX⟩ : ∃ X, X = w1.alloc (.cells #[.int .i64 f, .int .i64 way, .int .i64 (nw : Int)] 3) := ⟨_, rfl⟩
  have ho0 : RowI base X (.slice (some ⟨w1.heap.size, 0, none⟩) 3 3) (preN f way nw P 0) := by
    rw [hX]
    have e : preN f way nw P 0 = [f, way, (nw : Int)] := by simp [preN]
    unfold RowI
    rw [e]
    exact own_new (B := base) [.int .i64 f, .int .i64 way, .int .i64 (nw : Int)] 3 1 3 rfl (by unfold maxLen; decide) (by omega)
  have hbX : Below base w1 X := by rw [hX]; exact (Below.refl _ _).alloc (by omega) _
  clear hbx hb0 hsW hbx1 hb1
  have hbs : base ≤ w1.heap.size := by omega
  go_upto_region 5 with (fail)
  rw [← hX]
  clear hX p0 p1 p2 p3 hbase hz1
  generalize (Value.slice (some ⟨w1.heap.size, 0, none⟩) 3 3) = v0 at *
  go_wp2_with fail
  go_loopw [5, 6] (fun v i wr => ∃ k : Nat, k ≤ nw ∧ i = .int .i64 k ∧ RowI base wr v (preN f way nw P k) ∧ Below base w1 wr) (fun _ i _ => nw - (intOf i).toNat)
  case atStart => exact ⟨0, by omega, rfl, ho0, hbX⟩
  case round =>
    clear ho0 hbX
    obtain ⟨k, hk, rfl, ho, hb⟩ := hrel
    obtain ⟨p0, p1, p2, p3⟩ := unhide HX _ hb
    have hBr := hB1.trans (hb.mono (Nat.le_of_lt hbw))
    have hszr : base ≤ wr.heap.size := Nat.le_trans hbs hb.size
    obtain ⟨L, hL⟩ : ∃ L, L = preN f way nw P k := ⟨_, rfl⟩
    rw [← hL] at ho
    by_cases hlt : k < nw
    · skip
      obtain ⟨b, o, r, rfl, hbw2, hxr, cxr, hok⟩ := htr.get hlt
      obtain ⟨b2, o2, x, rfl, hbw3, hxx, cxx⟩ := hwr.get hlt
      obtain ⟨rA, rn, rc, rl⟩ := r
      obtain ⟨hPk, hTG⟩ := unhide HP k x _ hxx hxr
      dsimp only at cxr hPk hTG
      have HCX : Hid (∀ W', Below base w1 W' → W'.cell? ⟨b, o + k, none⟩ = some (.slice rA rn rc) ∧ W'.cell? ⟨w.heap.size, 2, none⟩ = some (.slice (some ⟨b2, o2, none⟩) nw cw) ∧ W'.cell? ⟨w.heap.size, 3, none⟩ = some (.slice (some ⟨b, o, none⟩) nw ct)) := hide (fun W' hb => by
        obtain ⟨_, _, h2, h3⟩ := unhide HX W' hb
        exact ⟨((hB1.trans (hb.mono (Nat.le_of_lt hbw))).cell (p := ⟨b, o + k, none⟩) hbw2).trans cxr, h2, h3⟩)
      obtain ⟨y0, _, _⟩ := unhide HCX _ hb
      have y1 : wr.cell? ⟨b2, o2 + k, none⟩ = some (.int .i64 x) := (hBr.cell (p := ⟨b2, o2 + k, none⟩) hbw3).trans cxx
      have hrl := hok.reads.len
      dsimp only at hrl
      have hLl : L.length ≤ 3 + 317 * k := by rw [hL]; exact preN_len (unhide HPM) k
      have hrn : rn ≤ 63 := by have := hTG.most; simp at this; omega
      have HNX : Hid (preN f way nw P (k + 1) = preT L x rl rn) := hide (by rw [preN_next hPk, ← hL, hrl])
      have hok := hok.reads
      dsimp only at hok
      have HT0 : Hid (L ++ [x] ++ [(rn : Int)] = preT L x rl 0) := hide (by simp [preT, hrl])
      have hn1 : L.length ≤ 5000 := by omega
      have hn2 : (L ++ [x]).length ≤ 5000 := by simp; omega
      clear hxx hxr hTG hL hPk cxr cxx
      go_upto_region 9 with (at_builtin; refine appI (.tmp 31) (.tmp 37) x rfl rfl rfl ho rfl rfl hn1 hszr ?_; intro v1 x1 o1 b1 t1)
      have hb1 := hb.trans b1
      obtain ⟨z0, z2, z3⟩ := unhide HCX _ hb1
      have hsz1 := Nat.le_trans hszr b1.size
      clear ho hb p0 p1 p2 p3 y0 y1
      go_upto_region 10 with (at_builtin; refine appI (.tmp 39) (.tmp 46) (rn : Int) rfl rfl rfl o1 rfl rfl hn2 hsz1 ?_; intro v2 x2 o2 b2 t2)
      have hb2 := hb1.trans b2
      have o2 : RowI base x2 v2 (preT L x rl 0) := by rw [← unhide HT0]; exact o2
      clear o1 b1 b2 t1 t2 hb1 z0 z2 z3
      go_wp2_with fail
      go_loopw [5, 7] (fun v i wr => ∃ j : Nat, j ≤ rn ∧ i = .int .i64 j ∧ RowI base wr v (preT L x rl j) ∧ Below base w1 wr) (fun _ i _ => rn - (intOf i).toNat)
      case atStart => exact ⟨0, by omega, rfl, o2, hb2⟩
      case round =>
        clear o2 hb2
        obtain ⟨j, hj, rfl, ho, hb⟩ := hrel
        obtain ⟨z0, z2, z3⟩ := unhide HCX _ hb
        have hBr2 := hB1.trans (hb.mono (Nat.le_of_lt hbw))
        have hszr : base ≤ wr.heap.size := Nat.le_trans hbs hb.size
        by_cases hlj : j < rn
        · skip
          obtain ⟨b4, o4, n, rfl, _, hn, d0, d1, d2, d3, d4, d5⟩ := (NReads.below hok hBr2).get hlj
          have HNJ := hide (preT_next (L := L) (x := x) hn)
          have hll : (preT L x rl j).length ≤ 4500 := by have := preT_len L x rl j; omega
          obtain ⟨M, hM⟩ : ∃ M, M = preT L x rl j := ⟨_, rfl⟩
          rw [← hM] at ho HNJ hll
          obtain ⟨V, hV⟩ : ∃ V, V = wr.alloc (.cells #[.int .i64 n.f, .int .i64 n.c, .int .i64 n.l, .int .i64 n.r, .bool n.less, .int .i64 n.v] 111) := ⟨_, rfl⟩
          obtain ⟨m, hm⟩ : ∃ m, m = wr.heap.size := ⟨_, rfl⟩
          have hv : Blk V m 111 #[.int .i64 n.f, .int .i64 n.c, .int .i64 n.l, .int .i64 n.r, .bool n.less, .int .i64 n.v] := by rw [hV, hm]; exact Blk.new _ _ _
          have hbV : Below base wr V := by rw [hV]; exact (Below.refl _ _).alloc hszr _
          have hoV := RowI.alloc ho (.cells #[.int .i64 n.f, .int .i64 n.c, .int .i64 n.l, .int .i64 n.r, .bool n.less, .int .i64 n.v] 111)
          rw [← hV] at hoV
          have hszV := Nat.le_trans hszr hbV.size
          have hbV := hb.trans hbV
          obtain ⟨q0, q1, q2, q3, q4, q5⟩ := hv.cells6
          have hl1 : M.length ≤ 5000 := by omega
          have hl2 : (M ++ [n.f]).length ≤ 5000 := by simp; omega
          clear hM ho hn
          go_upto_region 14 with (fail)
          rw [← hV, ← hm]
          clear hV hm d0 d1 d2 d3 d4 d5
          go_upto_region 15 with (at_builtin; refine appI (.tmp 66) (.tmp 69) n.f rfl rfl rfl hoV rfl rfl hl1 hszV ?_; intro v1 x1 o1 b1 t1)
          have hx1 := t1 m _ _ (by decide) hv
          obtain ⟨q0, q1, q2, q3, q4, q5⟩ := hx1.cells6
          have hb1 := hbV.trans b1
          have hsz1 := Nat.le_trans hszV b1.size
          clear hv b1 t1 hoV hbV
          by_cases hf : n.f = -1
          · have d : (n.f == -1) = true := by simpa using hf
            have HE2 : Hid (M ++ [n.f] ++ [n.v] = preT L x rl (j + 1)) := hide (by rw [unhide HNJ]; unfold ndNums; rw [if_pos hf]; simp)
            clear hf
            go_wp2_with (at_builtin; refine appI (.tmp 74) (.tmp 77) n.v rfl rfl rfl o1 rfl rfl hl2 hsz1 ?_; intro v2 x2 o2 b2 t2)
            rw [unhide HE2] at o2
            have hb2 := hb1.trans b2
            go_roundw
            case rel => exact ⟨j + 1, by omega, by go_num, o2, hb2⟩
            case measure => simp [intOf]; omega
          · have d : (n.f == -1) = false := by simpa using hf
            have hl3 : (M ++ [n.f] ++ [n.c]).length ≤ 5000 := by simp; omega
            have hl4 : (M ++ [n.f] ++ [n.c] ++ [n.l]).length ≤ 5000 := by simp; omega
            have hl5 : (M ++ [n.f] ++ [n.c] ++ [n.l] ++ [n.r]).length ≤ 5000 := by simp; omega
            obtain ⟨bl, hbl⟩ : ∃ bl, n.less = bl := ⟨_, rfl⟩
            have HE2 : Hid (M ++ [n.f] ++ [n.c] ++ [n.l] ++ [n.r] ++ [if bl then 1 else 0] = preT L x rl (j + 1)) := hide (by rw [unhide HNJ, ← hbl]; unfold ndNums; rw [if_neg hf]; simp)
            rw [hbl] at q4 hx1
            clear hf hbl
            go_upto_region 18 with (at_builtin; refine appI (.tmp 79) (.tmp 82) n.c rfl rfl rfl o1 rfl rfl hl2 hsz1 ?_; intro v2 x2 o2 b2 t2)
            have hx2 := t2 m _ _ (by decide) hx1
            obtain ⟨q0, q1, q2, q3, q4, q5⟩ := hx2.cells6
            have hb2 := hb1.trans b2
            have hsz2 := Nat.le_trans hsz1 b2.size
            clear hx1 b2 t2 o1 hb1
            go_upto_region 19 with (at_builtin; refine appI (.tmp 84) (.tmp 87) n.l rfl rfl rfl o2 rfl rfl hl3 hsz2 ?_; intro v3 x3 o3 b3 t3)
            have hx3 := t3 m _ _ (by decide) hx2
            obtain ⟨q0, q1, q2, q3, q4, q5⟩ := hx3.cells6
            have hb3 := hb2.trans b3
            have hsz3 := Nat.le_trans hsz2 b3.size
            clear hx2 b3 t3 o2 hb2
            go_upto_region 20 with (at_builtin; refine appI (.tmp 89) (.tmp 92) n.r rfl rfl rfl o3 rfl rfl hl4 hsz3 ?_; intro v4 x4 o4 b4 t4)
            have hx4 := t4 m _ _ (by decide) hx3
            obtain ⟨q0, q1, q2, q3, q4, q5⟩ := hx4.cells6
            have hb4 := hb3.trans b4
            have hsz4 := Nat.le_trans hsz3 b4.size
            clear hx3 b4 t4 o3 hb3
            cases bl
            · go_wp2_with (at_builtin; refine appI (.tmp 99) (.tmp 100) 0 rfl rfl rfl o4 rfl rfl hl5 hsz4 ?_; intro v5 x5 o5 b5 t5)
              have o5 : RowI base x5 v5 (preT L x rl (j + 1)) := by rw [← unhide HE2]; exact o5
              have hb5 := hb4.trans b5
              go_roundw
              case rel => exact ⟨j + 1, by omega, by go_num, o5, hb5⟩
              case measure => simp [intOf]; omega
            · go_wp2_with (at_builtin; refine appI (.tmp 96) (.tmp 97) 1 rfl rfl rfl o4 rfl rfl hl5 hsz4 ?_; intro v5 x5 o5 b5 t5)
              have o5 : RowI base x5 v5 (preT L x rl (j + 1)) := by rw [← unhide HE2]; exact o5
              have hb5 := hb4.trans b5
              go_roundw
              case rel => exact ⟨j + 1, by omega, by go_num, o5, hb5⟩
              case measure => simp [intOf]; omega
        · obtain rfl : j = rn := by omega
          go_wp2_with fail
          go_roundw
          case rel => exact ⟨k + 1, by omega, by go_num, by rw [unhide HNX]; exact ho, hb⟩
          case measure => simp [intOf]; omega
    · obtain rfl : k = nw := by omega
      have hLf : L = groveNums f way P := by
        rw [hL]; unfold preN groveNums
        rw [List.take_of_length_le (by rw [unhide HPL]; exact Nat.le_refl _), unhide HPL]
      have hLl : L.length ≤ 5000 := by have := preN_len (f := f) (way := way) (n := (k : Int)) (unhide HPM) k; rw [hL]; omega
      clear hL
      rw [← hLf] at HE HB HIN
      clear hLf
      obtain ⟨lA, lc, rfl, hlr, _, _, _, _⟩ := own_slice2 ho
      have hlr : IReads wr wr.heap.size lA L.length L := hlr
      obtain ⟨b9, hb9⟩ : ∃ b9, b9 = wr.heap.size := ⟨_, rfl⟩
      obtain ⟨M, hM⟩ : ∃ M, M = L.length := ⟨_, rfl⟩
      rw [← hb9, ← hM] at hlr
      have hw9 : w.heap.size ≤ b9 := by omega
      have hs9 : b9 ≤ wr.heap.size := by omega
      obtain ⟨w9, hw9e⟩ : ∃ w9, w9 = wr := ⟨_, rfl⟩
      subst hw9e
      rw [← hM] at hLl ⊢
      have HM := hide hM
      clear ho hb p0 p1 p2 hszr hb9 hM
      go_wp2_with fail
      clear p3
      go_loopw [9, 10] (fun v i wr => ∃ j : Nat, j ≤ M ∧ i = .int .i64 j ∧ RowE b9 wr v (L.take j) ∧ Below b9 w9 wr) (fun _ i _ => M - (intOf i).toNat)
      case atStart => exact ⟨0, by omega, rfl, by unfold RowE; simpa [encs_nil] using World.ownsRow_nil _ _ _ _, Below.refl _ _⟩
      case round =>
        obtain ⟨j, hj, rfl, ho, hb⟩ := hrel
        have hszr := Nat.le_trans hs9 hb.size
        have hel := encs_len (L.take j)
        have hjl : (L.take j).length ≤ j := by rw [List.length_take]; omega
        by_cases hlj : j < M
        · obtain ⟨b4, o4, z, rfl, _, hz, cz⟩ := (hlr.below hb).get hlj
          have hzI := unhide HIN z (List.mem_of_getElem? hz)
          have HNJ : Hid (encs (L.take (j + 1)) = encs (L.take j) ++ enc z) := hide (encs_next hz)
          have HRN := hide (rnum_any none 0 0 wr.heap.size [] z wr Reads.none_ (by omega) hzI.1 hzI.2)
          have hel2 := (enc_len z).2
          clear hz hzI
          go_wp2_with fail
          refine (unhide HRN).mono ?_
          rintro e x1 ⟨v1, rfl, o1, b1⟩
          rw [List.nil_append] at o1
          obtain ⟨nA, nc, rfl, hnr, _, _, _, _⟩ := own_slice2 o1
          have hoX := own_below ho b1
          have hbX := hb.trans (b1.mono hszr)
          have hszX := Nat.le_trans hszr b1.size
          have hlt : (encs (L.take j)).length + (enc z).length < 1000000000 := by omega
          clear HRN o1 b1
          go_wp2_with (at_builtin; refine app_many elem_byte (.tmp 108) (.tmp 113) rfl rfl rfl hoX rfl hnr (ints_oneCell .u8 (enc z)) hlt hszX ?_; intro v2 x2 o2 b2 _)
          have o2 : RowE b9 x2 v2 (L.take (j + 1)) := by
            unfold RowE
            rw [unhide HNJ, List.length_append, List.map_append]
            exact o2
          have hb2 := hbX.trans b2
          go_roundw
          case rel => exact ⟨j + 1, by omega, by go_num, o2, hb2⟩
          case measure => simp [intOf]; omega
        · obtain rfl : j = M := by omega
          rw [unhide HM, List.take_length] at ho
          have hBF := hBr.trans (hb.mono hw9)
          obtain ⟨vA, vc, rfl, _, _, _⟩ := own_slice2 ho
          have HEN := unhide HE
          by_cases hbig : 6000 < (encs L).length
          · rw [if_pos hbig] at HEN
            have hEB := unhide HB0 (by rw [HEN]; decide)
            subst HEN
            subst hEB
            obtain ⟨N, hN⟩ : ∃ N, N = (encs L).length := ⟨_, rfl⟩
            rw [← hN] at hbig ⊢
            clear HE HB HB0 ho hN hel hlr hb
            go_wp2_with fail
            go_ret2
            exact ⟨.slice none 0 0, rfl, by simpa using World.ownsRow_nil _ _ _ _, hBF⟩
          · rw [if_neg hbig] at HEN
            have hEB := unhide HB HEN
            subst HEN
            subst hEB
            have ho := own_base ho hw9
            have HO := hide ho
            obtain ⟨N, hN⟩ : ∃ N, N = (encs L).length := ⟨_, rfl⟩
            rw [← hN] at hbig HO ⊢
            clear HE HB HB0 ho hel hlr hb
            go_wp2_with fail
            go_ret2
            exact ⟨_, rfl, by rw [← hN]; exact unhide HO, hBF⟩
end Go.Proofs.YtijgiieoinmjhaaDoor
