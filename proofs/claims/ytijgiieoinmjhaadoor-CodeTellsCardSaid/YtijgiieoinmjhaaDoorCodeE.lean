/- code.Encode. Conditions: a grove that reads as data. -/
import Derived.Test.YtijgiieoinmjhaaDoorCodeQ
import Derived.Test.YtijgiieoinmjhaaDoorCodeN
import Derived.Test.YtijgiieoinmjhaaDoorAdd2
namespace Go.Proofs.YtijgiieoinmjhaaDoor
set_option linter.unusedVariables false
set_option linter.unusedSimpArgs false
open Go.RowKit

def Gv.encB (g : Gv) : List Int := if g.encE = 0 then encs g.nums else []
/-- a row of bytes of the call's own that has the numbers L -/
def RowE (base : Nat) (W : World) (v : Value) (L : List Int) : Prop := W.ownsRow base 5 1 v (encs L).length ((encs L).map (Value.int .u8))
theorem RowE.alloc {base : Nat} {W : World} {v : Value} {L : List Int} (h : RowE base W v L) (o : Obj) : RowE base (W.alloc o) v L := World.ownsRow.alloc h o
def AddE (base : Nat) (W : World) (L : List Int) (z : Int) (e : Ending) (w' : World) : Prop :=
  ∃ v', e = .returned v' ∧ RowE base w' v' (L ++ [z]) ∧ Below base W w' ∧ ∀ g t cs, 5 ≠ t → Blk W g t cs → Blk w' g t cs
theorem addE_any (base : Nat) (W : World) (v : Value) (L : List Int) (z : Int) (hB : base ≤ W.heap.size) (h : RowE base W v L) (hl : L.length ≤ 5000) (hz : In64 z) : Calls Tryd.prog 57 #[v, .int .i64 z] W (AddE base W L z) := by
  have hel := encs_len L
  refine (add2_any v (encs L).length base (encs L) z W h hB (by omega) rfl hz.1 hz.2).mono ?_
  rintro e w' ⟨v', rfl, ho, hg⟩
  have e1 : encs L ++ enc z = encs (L ++ [z]) := by rw [encs_app, encs_cons, encs_nil, List.append_nil]
  rw [e1] at ho
  exact ⟨v', rfl, ho, (Below.refl base W).grown hg hB (own_block_ge h), fun g t cs hne hb => hb.grown hg (fun e => own_blk_ne h hb hne e.symm)⟩
def preN (f way n : Int) (P : List (Int × List Nd)) (k : Nat) : List Int := [f, way, n] ++ (P.take k).flatMap treeNums
def preT (L : List Int) (x : Int) (t : List Nd) (j : Nat) : List Int := L ++ [x] ++ [(t.length : Int)] ++ (t.take j).flatMap ndNums
theorem nd_len (n : Nd) : (ndNums n).length ≤ 5 := by unfold ndNums; split <;> simp
theorem nds_len : ∀ t : List Nd, (t.flatMap ndNums).length ≤ 5 * t.length := by
  intro t
  induction t with
  | nil => simp
  | cons n r ih => rw [List.flatMap_cons, List.length_append, List.length_cons]; have := nd_len n; omega
theorem trees_len_ : ∀ t : List (Int × List Nd), (∀ x ∈ t, x.2.length ≤ 63) → (t.flatMap treeNums).length ≤ 317 * t.length := by
  intro t
  induction t with
  | nil => intro _; simp
  | cons x r ih =>
    intro h
    rw [List.flatMap_cons, List.length_append, List.length_cons]
    have h1 := ih fun y hy => h y (List.mem_cons_of_mem _ hy)
    have h2 := nds_len x.2
    have h3 := h x (List.mem_cons_self ..)
    have h4 : (treeNums x).length ≤ 317 := by unfold treeNums; rw [List.length_append]; simp only [List.length_cons, List.length_nil]; omega
    omega
theorem preN_len {f way n : Int} {P : List (Int × List Nd)} (h : ∀ x ∈ P, x.2.length ≤ 63) (k : Nat) : (preN f way n P k).length ≤ 3 + 317 * k := by
  unfold preN
  rw [List.length_append]
  have h1 := trees_len_ (P.take k) fun x hx => h x (List.mem_of_mem_take hx)
  have h2 : (P.take k).length ≤ k := by rw [List.length_take]; omega
  simp only [List.length_cons, List.length_nil]
  omega
theorem preT_len (L : List Int) (x : Int) (t : List Nd) (j : Nat) : (preT L x t j).length ≤ L.length + 2 + 5 * j := by
  unfold preT
  have h1 := nds_len (t.take j)
  have h2 : (t.take j).length ≤ j := by rw [List.length_take]; omega
  simp only [List.length_append, List.length_cons, List.length_nil]
  omega
theorem preT_next {L : List Int} {x : Int} {t : List Nd} {j : Nat} {n : Nd} (h : t[j]? = some n) : preT L x t (j + 1) = preT L x t j ++ ndNums n := by
  unfold preT
  rw [take_next h, List.flatMap_append]
  simp
theorem preN_next {f way m : Int} {P : List (Int × List Nd)} {k : Nat} {x : Int} {t : List Nd} (h : P[k]? = some (x, t)) : preN f way m P (k + 1) = preT (preN f way m P k) x t t.length := by
  unfold preN preT
  rw [take_next h, List.flatMap_append, List.take_length]
  simp [treeNums]
theorem pair_at {g : Gv} {k : Nat} {x : Int} {r : Tr} (h1 : g.ws[k]? = some x) (h2 : g.ts[k]? = some r) : g.pairs[k]? = some (x, r.l) := by
  unfold Gv.pairs
  rw [List.getElem?_zip_eq_some]
  exact ⟨h1, Gv.trees_at h2⟩

set_option maxRecDepth 100000 in
set_option maxHeartbeats 8000000 in
theorem cencode_any (g : Gv) (w : World) (hr : GReads w w.heap.size g) :
    Calls Tryd.prog 35 #[g.val] w fun e w' => ∃ v, e = .returned (.tuple #[v, errV g.encE]) ∧ w'.ownsRow w.heap.size 5 1 v g.encB.length (g.encB.map (Value.int .u8)) ∧ Below w.heap.size w w' := by
  have cCk := hide (fun (W : World) (hB : Below w.heap.size w W) => gcheck_any g W ((hr.below hB).more hB.size))
  by_cases h0 : g.e = 0
  case neg =>
    have hE : g.encE = g.e := by unfold Gv.encE; rw [if_neg h0]
    have hEB : g.encB = [] := by unfold Gv.encB; rw [hE, if_neg h0]
    rw [hE, hEB]
    have HE : Hid (errV g.e = .iface 89 (.int .i64 g.e)) := hide (errV_1 h0)
    obtain ⟨E, hE⟩ : ∃ E, E = g.e := ⟨_, rfl⟩
    rw [← hE] at HE
    rw [← hE] at cCk ⊢
    obtain ⟨f, way, Aw, nw, cw, ws, At, nt, ct, ts⟩ := g
    simp only [Gv.val] at cCk ⊢
    clear hE hEB h0 hr
    obtain ⟨W, hW⟩ : ∃ W, W = w.alloc (.cells #[.int .i64 f, .int .i64 way, .slice Aw nw cw, .slice At nt ct] 73) := ⟨_, rfl⟩
    have hb0 : Below w.heap.size w W := by rw [hW]; exact (Below.refl _ _).alloc (Nat.le_refl _) _
    go_enter Tryd.func35, Tryd.ntmps35
    go_wp2_with fail
    rw [← hW]
    clear hW
    refine (unhide cCk W hb0).mono ?_
    rintro e w1 ⟨rfl, hb1⟩
    rw [unhide HE]
    clear cCk
    go_wp2_with fail
    go_ret2
    exact ⟨.slice none 0 0, by rw [unhide HE]; rfl, by simpa using World.ownsRow_nil _ _ _ _, hb0.trans (hb1.mono hb0.size)⟩
  have hG := groveE_right h0
  have hgood := hG.good
  have hnt : g.nt ≤ 12 := by have e1 := hr.ts.len; have e2 := hG.most; omega
  have hnw : g.nw = g.nt := by have e1 := hr.ts.len; have e2 := hr.ws.len; have e3 := hG.wlen; omega
  have HPL : Hid (g.pairs.length = g.nt) := hide (by
    have e1 := hr.ts.len; have e2 := hr.ws.len; have e3 := hG.wlen
    unfold Gv.pairs; rw [List.length_zip, g.trees_len]; omega)
  have HP : Hid (∀ (k : Nat) (x : Int) (r : Tr), g.ws[k]? = some x → g.ts[k]? = some r → g.pairs[k]? = some (x, r.l) ∧ TrGood (x, r.l)) := hide (fun k x r h1 h2 => ⟨pair_at h1 h2, hgood.ts _ (List.mem_of_getElem? (pair_at h1 h2))⟩)
  have HPM : Hid (∀ x ∈ g.pairs, x.2.length ≤ 63) := hide (fun x hx => (hgood.ts x hx).most)
  have HF : Hid (In64 g.f ∧ In64 g.way) := hide ⟨hgood.f, hgood.way⟩
  have HE : Hid (g.encE = if 6000 < (encs (groveNums g.f g.way g.pairs)).length then 4 else 0) := hide (by unfold Gv.encE; rw [if_pos h0]; rfl)
  have HB : Hid (g.encE = 0 → g.encB = encs (groveNums g.f g.way g.pairs)) := hide (fun h => by unfold Gv.encB; rw [if_pos h]; rfl)
  have HB0 : Hid (g.encE ≠ 0 → g.encB = []) := hide (fun h => by unfold Gv.encB; rw [if_neg h])
  have HZ := hide h0
  obtain ⟨P, hP⟩ : ∃ P, P = g.pairs := ⟨_, rfl⟩
  obtain ⟨EE, hEE⟩ : ∃ E, E = g.encE := ⟨_, rfl⟩
  obtain ⟨EB, hEB⟩ : ∃ E, E = g.encB := ⟨_, rfl⟩
  rw [← hP] at HPL HP HPM HE HB
  rw [← hEE] at HE HB HB0
  rw [← hEB] at HB HB0
  rw [← hEE, ← hEB]
  have hGe : Hid (errV g.e = .nilIface) := hide (errV_0 h0)
  obtain ⟨E, hE⟩ : ∃ E, E = errV g.e := ⟨_, rfl⟩
  rw [← hE] at cCk hGe
  have htr := hr.ts
  have hwr := hr.ws
  obtain ⟨f, way, Aw, nw, cw, ws, At, nt, ct, ts⟩ := g
  dsimp only at hnt hnw HPL HP HF HE HB htr hwr
  subst hnw
  simp only [Gv.val] at cCk ⊢
  obtain rfl := unhide hGe
  clear hE hEE hEB hP h0 hG hgood hr hGe HZ
  obtain ⟨W, hW⟩ : ∃ W, W = w.alloc (.cells #[.int .i64 f, .int .i64 way, .slice Aw nw cw, .slice At nw ct] 73) := ⟨_, rfl⟩
  have hbx : Blk W w.heap.size 73 #[.int .i64 f, .int .i64 way, .slice Aw nw cw, .slice At nw ct] := by rw [hW]; exact Blk.new _ _ _
  have hb0 : Below w.heap.size w W := by rw [hW]; exact (Below.refl _ _).alloc (Nat.le_refl _) _
  have hsW : W.heap.size = w.heap.size + 1 := by rw [hW]; simp
  go_enter Tryd.func35, Tryd.ntmps35
  go_wp2_with fail
  rw [← hW]
  clear hW
  refine (unhide cCk W hb0).mono ?_
  rintro e w1 ⟨rfl, hb1⟩
  clear cCk
  have hbx1 := hbx.below hb1 (by omega)
  have hB1 := hb0.trans (hb1.mono (by omega))
  have hz1 := hb1.size
  obtain ⟨base, hbase⟩ : ∃ base, base = w1.heap.size := ⟨_, rfl⟩
  have hbw : w.heap.size < base := by omega
  have hbs : base ≤ w1.heap.size := by omega
  have HADD := hide (addE_any base)
  have hbxd : Blk w1.drew w.heap.size 73 #[.int .i64 f, .int .i64 way, .slice Aw nw cw, .slice At nw ct] := hbx1
  have HX : Hid (∀ W', Below base w1.drew W' → W'.cell? ⟨w.heap.size, 0, none⟩ = some (.int .i64 f) ∧ W'.cell? ⟨w.heap.size, 1, none⟩ = some (.int .i64 way) ∧ W'.cell? ⟨w.heap.size, 2, none⟩ = some (.slice Aw nw cw) ∧ W'.cell? ⟨w.heap.size, 3, none⟩ = some (.slice At nw ct)) := hide (fun W' hb => by
    have := hbxd.below hb hbw
    exact ⟨this.cell 0, this.cell 1, this.cell 2, this.cell 3⟩)
  have ho0 : RowE base w1.drew (.slice none 0 0) [] := World.ownsRow_nil _ _ _ _
  obtain ⟨p0, p1, p2, p3⟩ := unhide HX w1.drew (Below.refl _ _)
  have hF := unhide HF
  have hnI : In64 (nw : Int) := by unfold In64; omega
  have hBd : Below w.heap.size w w1.drew := hB1.drew
  have s1 := hide (unhide HADD w1.drew (.slice none 0 0) [] f hbs ho0 (by simp) hF.1)
  have k3 : w1.cell? ⟨w.heap.size, 3, none⟩ = some (.slice At nw ct) := p3
  clear hbx hb0 hsW hbx1 hbxd hb1 HF ho0 hbase hB1
  go_upto_region 4 with (fail)
  go_region_held3 (fun w' => w'.cell? ⟨w.heap.size, 0, none⟩ = some (.int .i64 f) ∧ w'.cell? ⟨w.heap.size, 1, none⟩ = some (.int .i64 way) ∧ w'.cell? ⟨w.heap.size, 3, none⟩ = some (.slice At nw ct))
    (first | exact ⟨p0, p1, p3⟩ | go_keep)
    (first
      | (go_at_call 57
         refine (unhide s3).mono ?_
         rintro e x3 ⟨v3, rfl, o3, b3, _⟩
         have b13 := b12.trans b3
         obtain ⟨p0, p1, p2, p3⟩ := unhide HX x3 b13)
      | (go_at_call 57
         refine (unhide s2).mono ?_
         rintro e x2 ⟨v2, rfl, o2, b2, _⟩
         have b12 := b1.trans b2
         obtain ⟨p0, p1, p2, p3⟩ := unhide HX x2 b12
         have s3 := hide (unhide HADD x2 v2 _ (nw : Int) (Nat.le_trans hbs b12.size) o2 (by simp) hnI))
      | (go_at_call 57
         refine (unhide s1).mono ?_
         rintro e x1 ⟨v1, rfl, o1, b1, _⟩
         obtain ⟨p0, p1, p2, p3⟩ := unhide HX x1 b1
         have s2 := hide (unhide HADD x1 v1 _ way (Nat.le_trans hbs b1.size) o1 (by simp) hF.2)))
  have o3 : RowE base x3 v3 (preN f way nw P 0) := by
    have e : preN f way nw P 0 = [] ++ [f] ++ [way] ++ [(nw : Int)] := by simp [preN]
    rw [e]; exact o3
  have hBx := hBd.trans (b13.mono (Nat.le_of_lt hbw))
  clear s1 s2 s3 p0 p1 o1 o2 b1 b2 b12 b3 hF
  go_wp2_with fail
  go_loopw [5, 29] (fun v i wr => ∃ k : Nat, k ≤ nw ∧ i = .int .i64 k ∧ RowE base wr v (preN f way nw P k) ∧ Below base w1.drew wr) (fun _ i _ => nw - (intOf i).toNat)
  case atStart => exact ⟨0, by omega, rfl, o3, b13⟩
  case round =>
    clear o3 b13 hBx p2 p3
    obtain ⟨k, hk, rfl, ho, hb⟩ := hrel
    obtain ⟨p0, p1, p2, p3⟩ := unhide HX _ hb
    have hBr := hBd.trans (hb.mono (Nat.le_of_lt hbw))
    have hszr : base ≤ wr.heap.size := Nat.le_trans hbs hb.size
    obtain ⟨L, hL⟩ : ∃ L, L = preN f way nw P k := ⟨_, rfl⟩
    rw [← hL] at ho
    by_cases hlt : k < nw
    · skip
      obtain ⟨b, o, r, rfl, _, hxr, cxr, hok⟩ := (htr.below hBr).get hlt
      obtain ⟨b2, o2, x, rfl, _, hxx, cxx⟩ := (hwr.below hBr).get hlt
      obtain ⟨rA, rn, rc, rl⟩ := r
      obtain ⟨hPk, hTG⟩ := unhide HP k x _ hxx hxr
      dsimp only at cxr hPk hTG
      have hrl := hok.reads.len
      dsimp only at hrl
      have hLl : L.length ≤ 3 + 317 * k := by rw [hL]; exact preN_len (unhide HPM) k
      have hrn : rn ≤ 63 := by have := hTG.most; simp at this; omega
      have HNX : Hid (preN f way nw P (k + 1) = preT L x rl rn) := hide (by rw [preN_next hPk, ← hL, hrl])
      have HND := hide hTG.nd
      have hxI := hTG.w
      dsimp only at hxI
      have hok := (htr.2 _ (List.mem_of_getElem? hxr)).reads
      dsimp only at hok
      have s1 := hide (unhide HADD wr _ L x hszr ho (by omega) hxI)
      clear hxx hxr hTG hL hPk
      go_wp2_with fail
      refine (unhide s1).mono ?_
      rintro e x1 ⟨v1, rfl, o1, b1, _⟩
      have hb1 := hb.trans b1
      have s2 := hide (unhide HADD x1 v1 _ (rn : Int) (Nat.le_trans hszr b1.size) o1 (by simp; omega) (by unfold In64; omega))
      clear s1
      go_wp2_with fail
      refine (unhide s2).mono ?_
      rintro e x2 ⟨v2, rfl, o2, b2, _⟩
      have hb2 := hb1.trans b2
      have o2 : RowE base x2 v2 (preT L x rl 0) := by
        have e : preT L x rl 0 = L ++ [x] ++ [(rn : Int)] := by simp [preT, hrl]
        rw [e]; exact o2
      clear s2 o1 b1 b2 hb1 ho hb p0 p1 p2 p3 cxr cxx
      go_wp2_with fail
      go_loopw [5, 46] (fun v i wr => ∃ j : Nat, j ≤ rn ∧ i = .int .i64 j ∧ RowE base wr v (preT L x rl j) ∧ Below base w1.drew wr) (fun _ i _ => rn - (intOf i).toNat)
      case atStart => exact ⟨0, by omega, rfl, o2, hb2⟩
      case round =>
        clear o2 hb2
        obtain ⟨j, hj, rfl, ho, hb⟩ := hrel
        have hBr2 := hBd.trans (hb.mono (Nat.le_of_lt hbw))
        have hszr : base ≤ wr.heap.size := Nat.le_trans hbs hb.size
        by_cases hlj : j < rn
        · skip
          obtain ⟨b4, o4, n, rfl, _, hn, d0, d1, d2, d3, d4, d5⟩ := (NReads.below hok hBr2).get hlj
          have hng := unhide HND n (List.mem_of_getElem? hn)
          have HNJ := hide (preT_next (L := L) (x := x) hn)
          have hll : (preT L x rl j).length ≤ 4500 := by have := preT_len L x rl j; omega
          obtain ⟨M, hM⟩ : ∃ M, M = preT L x rl j := ⟨_, rfl⟩
          rw [← hM] at ho HNJ hll
          obtain ⟨V, hV⟩ : ∃ V, V = wr.alloc (.cells #[.int .i64 n.f, .int .i64 n.c, .int .i64 n.l, .int .i64 n.r, .bool n.less, .int .i64 n.v] 111) := ⟨_, rfl⟩
          obtain ⟨m, hm⟩ : ∃ m, m = wr.heap.size := ⟨_, rfl⟩
          have hv : Blk V m 111 #[.int .i64 n.f, .int .i64 n.c, .int .i64 n.l, .int .i64 n.r, .bool n.less, .int .i64 n.v] := by rw [hV, hm]; exact Blk.new _ _ _
          have hbV : Below base wr V := by rw [hV]; exact (Below.refl _ _).alloc hszr _
          have hoV := RowE.alloc ho (.cells #[.int .i64 n.f, .int .i64 n.c, .int .i64 n.l, .int .i64 n.r, .bool n.less, .int .i64 n.v] 111)
          rw [← hV] at hoV
          have s1 := hide (unhide HADD V _ M n.f (Nat.le_trans hszr hbV.size) hoV (by omega) hng.f)
          have hbV := hb.trans hbV
          have hzc := hng.c; have hzl := hng.l; have hzr := hng.r; have hzv := hng.v
          have v0 := hv.cell 0
          simp at v0
          clear hng hM ho hn hoV
          go_wp2_with fail
          rw [← hV, ← hm]
          have hszV : base ≤ V.heap.size := by rw [hV]; simp; omega
          clear hV hm d0 d1 d2 d3 d4 d5
          refine (unhide s1).mono ?_
          rintro e x1 ⟨v1, rfl, o1, b1, t1⟩
          have hx1 := t1 m _ _ (by decide) hv
          obtain ⟨q0, q1, q2, q3, q4, q5⟩ := hx1.cells6
          have hb1 := hbV.trans b1
          have hsz1 := Nat.le_trans hszV b1.size
          have s2 := hide (fun z => unhide HADD x1 v1 _ z hsz1 o1 (by simp; omega))
          clear s1 hv b1 t1 v0
          by_cases hf : n.f = -1
          · have d : (n.f == -1) = true := by simpa using hf
            have HE2 : Hid (M ++ [n.f] ++ [n.v] = preT L x rl (j + 1)) := hide (by rw [unhide HNJ]; unfold ndNums; rw [if_pos hf]; simp)
            have s3 := hide (unhide s2 n.v hzv)
            clear hf s2
            go_wp2_with fail
            refine (unhide s3).mono ?_
            rintro e x2 ⟨v2, rfl, o2, b2, _⟩
            rw [unhide HE2] at o2
            have hb2 := hb1.trans b2
            clear s3 o1
            go_wp2_with fail
            go_roundw
            case rel => exact ⟨j + 1, by omega, by go_num, o2, hb2⟩
            case measure => simp [intOf]; omega
          · have d : (n.f == -1) = false := by simpa using hf
            obtain ⟨zb, hzb⟩ : ∃ zb : Int, zb = if n.less then 1 else 0 := ⟨_, rfl⟩
            have hzI : In64 zb := by rw [hzb]; unfold In64; cases n.less <;> simp
            have HE2 : Hid (M ++ [n.f] ++ [n.c] ++ [n.l] ++ [n.r] ++ [zb] = preT L x rl (j + 1)) := hide (by rw [unhide HNJ, hzb]; unfold ndNums; rw [if_neg hf]; simp)
            have hx1d : Blk x1.drew m 111 #[.int .i64 n.f, .int .i64 n.c, .int .i64 n.l, .int .i64 n.r, .bool n.less, .int .i64 n.v] := hx1
            have s3 := hide (unhide HADD x1.drew v1 _ n.c hsz1 o1 (by simp; omega) hzc)
            have hsz1d : base ≤ x1.drew.heap.size := hsz1
            have hb1d : Below base w1.drew x1.drew := hb1.drew
            obtain ⟨bl, hbl⟩ : ∃ bl, n.less = bl := ⟨_, rfl⟩
            rw [hbl] at q4 hzb
            clear hf s2 hbl hx1
            cases bl
            all_goals
              simp at hzb
              subst hzb
              go_upto_region 18 with (fail)
              go_region_held3 (fun w' => w'.cell? ⟨m, 1, none⟩ = some (.int .i64 n.c) ∧ w'.cell? ⟨m, 2, none⟩ = some (.int .i64 n.l) ∧ w'.cell? ⟨m, 3, none⟩ = some (.int .i64 n.r))
                (first | exact ⟨q1, q2, q3⟩ | go_keep)
                (first
                  | (go_at_call 57
                     refine (unhide s6).mono ?_
                     rintro e x5 ⟨v5, rfl, o5, b5, t5⟩
                     obtain ⟨q0, q1, q2, q3, q4, q5⟩ := (t5 m _ _ (by decide) hx4).cells6
                     have b15 := b14.trans b5)
                  | (go_at_call 57
                     refine (unhide s5).mono ?_
                     rintro e x4 ⟨v4, rfl, o4, b4, t4⟩
                     have hx4 := t4 m _ _ (by decide) hx3
                     obtain ⟨q0, q1, q2, q3, q4, q5⟩ := hx4.cells6
                     have b14 := b13.trans b4
                     have s6 := hide (unhide HADD x4 v4 _ _ (Nat.le_trans hsz1d b14.size) o4 (by simp; omega) hzI))
                  | (go_at_call 57
                     refine (unhide s4).mono ?_
                     rintro e x3 ⟨v3, rfl, o3, b3, t3⟩
                     have hx3 := t3 m _ _ (by decide) hx2
                     obtain ⟨q0, q1, q2, q3, q4, q5⟩ := hx3.cells6
                     have b13 := b12.trans b3
                     have s5 := hide (unhide HADD x3 v3 _ n.r (Nat.le_trans hsz1d b13.size) o3 (by simp; omega) hzr))
                  | (go_at_call 57
                     refine (unhide s3).mono ?_
                     rintro e x2 ⟨v2, rfl, o2, b2, t2⟩
                     have hx2 := t2 m _ _ (by decide) hx1d
                     obtain ⟨q0, q1, q2, q3, q4, q5⟩ := hx2.cells6
                     have b12 := b2
                     have s4 := hide (unhide HADD x2 v2 _ n.l (Nat.le_trans hsz1d b12.size) o2 (by simp; omega) hzl)))
              rw [unhide HE2] at o5
              have hb2 := hb1d.trans b15
              clear s3 s4 s5 s6 o1 o2 o3 o4 b12 b13 b14 b15 b2 b3 b4 b5 t2 t3 t4 t5 hx2 hx3 hx4 hx1d
              go_wp2_with fail
              go_roundw
              case rel => exact ⟨j + 1, by omega, by go_num, o5, hb2⟩
              case measure => simp [intOf]; omega
        · obtain rfl : j = rn := by omega
          go_wp2_with fail
          go_roundw
          case rel => exact ⟨k + 1, by omega, by go_num, by rw [unhide HNX]; exact ho, hb⟩
          case measure => simp [intOf]; omega
    · obtain rfl : k = nw := by omega
      have hLf : L = groveNums f way P := by
        rw [hL]; unfold preN groveNums
        rw [List.take_of_length_le (by rw [unhide HPL]; exact Nat.le_refl _), unhide HPL]
      rw [hLf] at ho
      clear hL hLf
      obtain ⟨vA, vc, rfl, _, _, _⟩ := own_slice2 ho
      have HEN := unhide HE
      by_cases hbig : 6000 < (encs (groveNums f way P)).length
      · rw [if_pos hbig] at HEN
        have hEB := unhide HB0 (by rw [HEN]; decide)
        subst HEN
        subst hEB
        have hbg := hbig
        obtain ⟨N, hN⟩ : ∃ N, N = (encs (groveNums f way P)).length := ⟨_, rfl⟩
        rw [← hN] at hbg ⊢
        clear HE HB HB0 ho hbig hN
        go_wp2_with fail
        go_ret2
        exact ⟨.slice none 0 0, rfl, by simpa using World.ownsRow_nil _ _ _ _, hBr⟩
      · rw [if_neg hbig] at HEN
        have hEB := unhide HB HEN
        subst HEN
        subst hEB
        have ho := own_base ho (Nat.le_of_lt hbw)
        obtain ⟨N, hN⟩ : ∃ N, N = (encs (groveNums f way P)).length := ⟨_, rfl⟩
        rw [← hN] at hbig ho ⊢
        clear HE HB HB0
        go_wp2_with fail
        go_ret2
        exact ⟨_, rfl, by rw [← hN]; exact ho, hBr⟩
end Go.Proofs.YtijgiieoinmjhaaDoor
