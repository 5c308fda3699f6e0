/- Part 18 of what LawGrowTells needs: GrowV, Fixed2, RefFix, GrowRef3, SameNd. Conditions: as each lemma names. -/
import Derived.Test.YtdpijhnbhopnbaaDoorPkGrowTells17
import Derived.Test.YtdpijhnbhopnbaaDoorPkGrowTells11
import Derived.Test.YtdpijhnbhopnbaaDoorPkGrowTells08
import Derived.Test.YtdpijhnbhopnbaaDoorPkGrowTells14
import Derived.Test.YtdpijhnbhopnbaaDoorPkGrowTells03
import Derived.Laws.StructEq
/- Package grow and the document: Wrong. Conditions: a tree and samples that read as data. -/
namespace Go.Proofs.YtdpijhnbhopnbaaDoor
set_option linter.unusedVariables false
set_option linter.unusedSimpArgs false
open Go.RowKit

theorem wp_nameW {P : Program} {c : Code} {Q : Exit → Act → World → Prop} {a : Act} {W : World} (h : ∀ X, X = W → Code.wp P c Q a X) : Code.wp P c Q a W := h W rfl
def wrongE (t : List Nd) (ss : List Sm) : Int := if readyS t ss = 0 then wrongM t ss else 0

set_option maxRecDepth 100000 in
set_option maxHeartbeats 4000000 in
theorem rwrong_any (A C : Option Addr) (m d k c n : Nat) (t : List Nd) (ss : List Sm) (w : World) (ht : NReads w w.heap.size A m t) (hs : MReads w w.heap.size C k ss) (hR : RS t ss n) :
    Calls Tryd.prog 13 #[.slice A m d, .slice C k c] w fun e w' => e = .returned (.int .i64 (wrongM t ss)) ∧ Below w.heap.size w w' := by
  have hl := hs.len
  have hk60 : k ≤ 60 := by have := hR.samp.most; omega
  have HT : Hid (ss.take k = ss) := hide (List.take_of_length_le (by omega))
  have HL := hide hl
  have HB : Hid (∀ j, j ≤ k → 0 ≤ wrongM t (ss.take j) ∧ wrongM t (ss.take j) ≤ 61000000000000) := hide fun j hj => by
    have := wrongM_le hR.tree (ss := ss.take j) (fun s hs => hR.samp.tlo s (List.mem_of_mem_take hs)) (fun s hs => hR.samp.thi s (List.mem_of_mem_take hs))
    rw [List.length_take] at this
    omega
  have HR := hide hR
  clear hl hR
  go_enter Tryd.func13, Tryd.ntmps13
  go_wp2_with fail
  go_loopw [5, 6] (fun s i wr => ∃ j : Nat, j ≤ k ∧ s = .int .i64 (wrongM t (ss.take j)) ∧ i = .int .i64 j ∧ Below w.heap.size w wr) (fun _ i _ => k - (intOf i).toNat)
  case atStart => exact ⟨0, Nat.zero_le _, rfl, rfl, Below.refl _ _⟩
  case round =>
    obtain ⟨j, hj, rfl, rfl, hbel⟩ := hrel
    have hsz := hbel.size
    by_cases hlt : j < k
    · obtain ⟨b, o, s, rfl, hbb, hx, c0, c1, hok⟩ := (hs.below hbel).get hlt
      have HN := hide (wrongM_next (t := t) hx)
      have t1 := (unhide HR).samp.tlo s (List.mem_of_getElem? hx)
      have t2 := (unhide HR).samp.thi s (List.mem_of_getElem? hx)
      have hrl := (unhide HR).samp.len s (List.mem_of_getElem? hx)
      obtain ⟨x, _, hxv, v1, v2⟩ := leaf_there (unhide HR).tree s.r
      rw [hxv] at HN
      obtain ⟨b1, b2⟩ := unhide HB j hj
      have hb' := (unhide HB (j + 1) (by omega)).2
      rw [unhide HN] at hb'
      obtain ⟨S, hS⟩ : ∃ S, S = wrongM t (ss.take j) := ⟨_, rfl⟩
      rw [← hS] at b1 b2 HN hb' ⊢
      have hrd := hok.reads
      have HC := hide (fun (W : World) (hB : Below wr.heap.size wr W) => rvalue_any A s.A m d s.n s.c t s.r W ((ht.below (hbel.trans (hB.mono hsz))).more (Nat.le_trans hsz hB.size)) ((hrd.below (hB.mono hsz)).more (Nat.le_trans hsz hB.size)) (by rw [← hrd.len, hrl]; exact (unhide HR).tree))
      rw [hxv] at HC
      obtain ⟨xv, hxve⟩ : ∃ v, v = x.v := ⟨_, rfl⟩
      rw [← hxve] at v1 v2 HN HC hb'
      obtain ⟨sA, sn, sc, sr, st⟩ := s
      dsimp only at c0 c1 HN t1 t2 HC hb'
      have q := sq_le (a := st - xv) (m := 1001000) (by omega) (by omega)
      have q1 := q.1
      have q2 := q.2
      have hsub : IntKind.i64.wrap (st - xv) = st - xv := IntWalk.i64_in _ (by omega)
      have q3 : -1001000 ≤ st - xv := by omega
      have q4 : st - xv ≤ 1001000 := by omega
      have hbw : b < wr.heap.size := by omega
      clear hx hok hS hxv hxve hrd hrl q
      go_wp2_with fail
      go_region_held3 (fun w' => w'.cell? ⟨b, o + j * 2, none⟩ = some (.slice sA sn sc) ∧ w'.cell? ⟨b, o + j * 2 + 1, none⟩ = some (.int .i64 st))
        (first | go_keep | (refine ⟨?_, ?_⟩ <;> with_reducible assumption))
        (first
          | (go_at_call 26
             (with_reducible refine (unhide HC _ ((Below.refl _ _).drew)).mono ?_)
             rintro e w1 ⟨rfl, hb1⟩
             have n0 : w1.cell? ⟨b, o + j * 2, none⟩ = some (.slice sA sn sc) := (hb1.cell (p := ⟨b, o + j * 2, none⟩) hbw).trans c0
             have n1 : w1.cell? ⟨b, o + j * 2 + 1, none⟩ = some (.int .i64 st) := (hb1.cell (p := ⟨b, o + j * 2 + 1, none⟩) hbw).trans c1))
      have hbE : Below w.heap.size w w1 := hbel.trans (((Below.refl _ _).drew.trans hb1).mono hsz)
      clear hb1 n0 n1 HC hsub c0 c1
      go_wp2_with fail
      go_roundw
      case rel => exact ⟨j + 1, by omega, by rw [unhide HN], by go_num, hbE⟩
      case measure => simp [intOf]; omega
    · obtain rfl : j = k := by omega
      rw [unhide HT]
      go_wp2_with fail
      go_ret
      exact ⟨rfl, hbel⟩

set_option maxRecDepth 100000 in
set_option maxHeartbeats 4000000 in
theorem wrong_any (A C : Option Addr) (m d k c : Nat) (t : List Nd) (ss : List Sm) (w : World) (ht : NReads w w.heap.size A m t) (hs : MReads w w.heap.size C k ss) (hm : m ≤ maxLen) (hk : k ≤ maxLen) :
    Calls Tryd.prog 14 #[.slice A m d, .slice C k c] w fun e w' => e = .returned (.tuple #[.int .i64 (wrongE t ss), errV (readyS t ss)]) ∧ Below w.heap.size w w' := by
  have HC0 := hide (gready_any A C m d k c t ss w ht hs hm hk)
  by_cases h0 : readyS t ss = 0
  case neg =>
    have HE : Hid (wrongE t ss = 0) := hide (by unfold wrongE; rw [if_neg h0])
    have hv := errV_1 h0
    have HV := hide hv
    clear h0
    go_enter Tryd.func14, Tryd.ntmps14
    go_wp2_with fail
    refine (unhide HC0).mono ?_
    rintro e w1 ⟨rfl, hb1⟩
    rw [hv]
    clear HC0 hv
    go_wp2_with fail
    go_ret2
    exact ⟨by rw [unhide HE, unhide HV]; rfl, hb1⟩
  have HE : Hid (wrongE t ss = wrongM t ss) := hide (by unfold wrongE; rw [if_pos h0])
  obtain ⟨n, hR, _, _⟩ := readyS_0 h0
  have hv := errV_0 h0
  have HV := hide hv
  have hl := hs.len
  have hk60 : k ≤ 60 := by have := hR.samp.most; omega
  have hml := ht.len
  have hm63 : m ≤ 63 := by have := hR.tree.most; omega
  have hm0 : 0 < m := by have := hR.tree.pos; omega
  have HT : Hid (ss.take k = ss) := hide (List.take_of_length_le (by omega))
  have HL := hide hl
  have HB : Hid (∀ j, j ≤ k → 0 ≤ wrongM t (ss.take j) ∧ wrongM t (ss.take j) ≤ 61000000000000) := hide fun j hj => by
    have := wrongM_le hR.tree (ss := ss.take j) (fun s hs => hR.samp.tlo s (List.mem_of_mem_take hs)) (fun s hs => hR.samp.thi s (List.mem_of_mem_take hs))
    rw [List.length_take] at this
    omega
  have HR := hide hR
  have HML := hide hml
  clear hl hR h0 hml
  go_enter Tryd.func14, Tryd.ntmps14
  go_wp2_with fail
  refine (unhide HC0).mono ?_
  rintro e w0 ⟨rfl, hb0⟩
  rw [hv]
  clear HC0 hv
  go_wp2_with fail
  go_loopw [7, 19] (fun s i wr => ∃ j : Nat, j ≤ k ∧ s = .int .i64 (wrongM t (ss.take j)) ∧ i = .int .i64 j ∧ Below w.heap.size w wr) (fun _ i _ => k - (intOf i).toNat)
  case atStart => exact ⟨0, Nat.zero_le _, rfl, rfl, hb0⟩
  case round =>
    clear hb0
    obtain ⟨j, hj, rfl, rfl, hbel⟩ := hrel
    have hsz := hbel.size
    by_cases hlt : j < k
    · obtain ⟨b, o, s, rfl, hbb, hx, c0, c1, hok⟩ := (hs.below hbel).get hlt
      have HN := hide (wrongM_next (t := t) hx)
      have t1 := (unhide HR).samp.tlo s (List.mem_of_getElem? hx)
      have t2 := (unhide HR).samp.thi s (List.mem_of_getElem? hx)
      have hrl := (unhide HR).samp.len s (List.mem_of_getElem? hx)
      obtain ⟨x, hxt, hxv, v1, v2⟩ := leaf_there (unhide HR).tree s.r
      rw [hxv] at HN
      obtain ⟨b1, b2⟩ := unhide HB j hj
      have hb' := (unhide HB (j + 1) (by omega)).2
      rw [unhide HN] at hb'
      obtain ⟨S, hS⟩ : ∃ S, S = wrongM t (ss.take j) := ⟨_, rfl⟩
      rw [← hS] at b1 b2 HN hb' ⊢
      have hrd := hok.reads
      have hlf : leafOf t s.r < m := by have := (List.getElem?_eq_some_iff.1 hxt).1; have := unhide HML; omega
      have HC := hide (fun (W : World) (hB : Below w.heap.size w W) (hr' : IReads W W.heap.size s.A s.n s.r) => walk_any A s.A m d s.n s.c t s.r W ((ht.below hB).more hB.size) hr' hm0 hm63 (by have h1 := (unhide HR).tree.fe8; have h2 := hrd.len; omega) (unhide HR).tree.behind (by rw [← hrd.len, hrl]; exact (unhide HR).tree.asks))
      obtain ⟨lf, hlfe⟩ : ∃ v, v = leafOf t s.r := ⟨_, rfl⟩
      rw [← hlfe] at HC hlf hxt
      obtain ⟨tb, to_, y, hA, htb, hy, y0, y1, y2, y3, y4, y5⟩ := ht.get hlf
      rw [hxt] at hy
      injection hy with hy
      subst hy
      subst hA
      obtain ⟨xv, hxve⟩ : ∃ v, v = x.v := ⟨_, rfl⟩
      rw [← hxve] at v1 v2 HN hb' y5
      have hsn : s.n ≤ maxLen := hok.len
      obtain ⟨sA, sn, sc, sr, st⟩ := s
      dsimp only at c0 c1 HN t1 t2 HC hb' hrd hsn
      unfold maxLen at hsn
      have q := sq_le (a := st - xv) (m := 1001000) (by omega) (by omega)
      have q1 := q.1
      have q2 := q.2
      have hsub : IntKind.i64.wrap (st - xv) = st - xv := IntWalk.i64_in _ (by omega)
      have q3 : -1001000 ≤ st - xv := by omega
      have q4 : st - xv ≤ 1001000 := by omega
      clear hx hok hS hxv hxve hrl q hlfe hxt y0 y1 y2 y3 y4
      go_upto_region 8 with (fail)
      refine wp_nameW fun X hX => ?_
      have bX : Blk X wr.heap.size 45 #[.slice sA sn sc, .int .i64 st] := by rw [hX]; exact Blk.new _ _ _
      have hBX : Below w.heap.size w X := by rw [hX]; exact hbel.alloc hsz _
      have hrX : IReads X X.heap.size sA sn sr := by rw [hX]; exact (Reads.alloc hrd hsz _).more (by rw [World.size_alloc]; omega)
      have hgX := bX.lt
      have hrXd : IReads X.drew X.drew.heap.size sA sn sr := show Reads X.drew X.heap.size 1 sA sn (sr.map (Value.int .i64)) from Reads.drew (show Reads X X.heap.size 1 sA sn (sr.map (Value.int .i64)) from hrX)
      have y5X : X.cell? ⟨tb, to_ + lf * 6 + 5, none⟩ = some (.int .i64 xv) := (hBX.cell (p := ⟨tb, to_ + lf * 6 + 5, none⟩) htb).trans y5
      have z0 := bX.cell 0
      have z1 := bX.cell 1
      simp at z0 z1
      clear hX hrd c0 c1
      obtain ⟨g, hg⟩ : ∃ g, g = wr.heap.size := ⟨_, rfl⟩
      rw [← hg] at bX z0 z1 hgX ⊢
      clear hg
      go_region_held3 (fun w' => w'.cell? ⟨g, 0, none⟩ = some (.slice sA sn sc) ∧ w'.cell? ⟨g, 1, none⟩ = some (.int .i64 st) ∧ w'.cell? ⟨tb, to_ + lf * 6 + 5, none⟩ = some (.int .i64 xv))
        (first | go_keep | (refine ⟨?_, ?_, ?_⟩ <;> with_reducible assumption))
        (first
          | (go_at_call 28
             (with_reducible refine (unhide HC _ hBX.drew hrXd).mono ?_)
             rintro e w1 ⟨rfl, hb1⟩
             have n0 : w1.cell? ⟨g, 0, none⟩ = some (.slice sA sn sc) := (hb1.cell (p := ⟨g, 0, none⟩) hgX).trans z0
             have n1 : w1.cell? ⟨g, 1, none⟩ = some (.int .i64 st) := (hb1.cell (p := ⟨g, 1, none⟩) hgX).trans z1
             have hBE := hBX.drew.trans (hb1.mono hBX.size)
             have n5 : w1.cell? ⟨tb, to_ + lf * 6 + 5, none⟩ = some (.int .i64 xv) := (hBE.cell (p := ⟨tb, to_ + lf * 6 + 5, none⟩) htb).trans y5))
      clear hb1 n0 n1 HC hsub z0 z1 bX hBX hrX hrXd n5 y5X
      go_wp2_with fail
      go_roundw
      case rel => exact ⟨j + 1, by omega, by rw [unhide HN], by go_num, hBE⟩
      case measure => simp [intOf]; omega
    · obtain rfl : j = k := by omega
      rw [unhide HT]
      go_wp2_with fail
      go_ret2
      exact ⟨by rw [unhide HE, unhide HV]; rfl, hbel⟩
end Go.Proofs.YtdpijhnbhopnbaaDoor
/- Chapter 1: the contracts of package fixed on lists. Conditions: as each lemma names. -/
namespace Go.Proofs.YtdpijhnbhopnbaaDoor
set_option linter.unusedVariables false
set_option linter.unusedSimpArgs false
open Go.RowKit

/-- the row half way: the first k made fit -/
def halfL (L : List Int) (k : Nat) : List Int := (L.take k).map fitV ++ L.drop k
theorem halfL_len (L : List Int) (k : Nat) : (halfL L k).length = L.length := by unfold halfL; simp; omega
theorem halfL_0 (L : List Int) : halfL L 0 = L := by simp [halfL]
theorem halfL_all (L : List Int) : halfL L L.length = L.map fitV := by simp [halfL]
theorem halfL_at {L : List Int} {k : Nat} {x : Int} (h : L[k]? = some x) : (halfL L k)[k]? = some x := by
  have hk := (List.getElem?_eq_some_iff.1 h).1
  unfold halfL
  rw [List.getElem?_append_right (by simp; omega)]
  simp only [List.length_map, List.length_take, List.getElem?_drop]
  rw [show k + (k - min k L.length) = k by omega]; exact h
theorem halfL_set {L : List Int} {k : Nat} {x : Int} (h : L[k]? = some x) : (halfL L k).set k (fitV x) = halfL L (k + 1) := by
  have hk := (List.getElem?_eq_some_iff.1 h).1
  unfold halfL
  rw [drop_at h, take_next h, List.map_append, List.append_assoc]
  rw [List.set_append_right _ _ (by simp; omega)]
  simp [show k - min k L.length = 0 by omega]

end Go.Proofs.YtdpijhnbhopnbaaDoor
/- Chapter 1 in the references: Fit, Add, Mul, Floor, Round, Total, firsts, Sorted, Mean, Median. Conditions: as each lemma names. -/
namespace Go.Proofs.YtdpijhnbhopnbaaDoor
set_option linter.unusedVariables false
set_option linter.unusedSimpArgs false
open Go.RowKit



theorem rfloor_any (a b : Int) (w : World) (hb : 0 < b) (ha1 : -4000000000000000000 ≤ a) (ha2 : a ≤ 4000000000000000000) (hb2 : b ≤ 4000000000000000000) :
    Calls Tryd.prog 22 #[.int .i64 a, .int .i64 b] w fun e w' => e = .returned (.int .i64 (a / b)) ∧ w = w' := by
  by_cases h : a < 0
  · have E : Hid (-((b - 1 - a) / b) = a / b) := hide (by
      have h1 := Int.emod_nonneg a (show b ≠ 0 by omega)
      have h2 := Int.emod_lt_of_pos a hb
      have h3 := Int.emod_add_mul_ediv a b
      have : (b - 1 - a) / b = -(a / b) := by
        refine ((Int.ediv_emod_unique (r := b - 1 - a % b) (q := -(a / b)) hb).2 ⟨?_, by omega, by omega⟩).1
        rw [Int.mul_neg]; omega
      rw [this, Int.neg_neg])
    have hi := ediv_in (a := b - 1 - a) (b := b) (n := 8000000000000000000) hb (by omega) (by omega) (by omega)
    go_enter Tryd.func22, Tryd.ntmps22
    go_wp2
    go_ret
    exact ⟨ret_int (unhide E), rfl⟩
  · go_enter Tryd.func22, Tryd.ntmps22
    go_wp2
    go_ret
    exact ⟨rfl, rfl⟩







end Go.Proofs.YtdpijhnbhopnbaaDoor
/- What the document says of samples: Grow. Conditions: samples that read as data. -/
namespace Go.Proofs.YtdpijhnbhopnbaaDoor
set_option linter.unusedVariables false
set_option linter.unusedSimpArgs false
open Go.RowKit

theorem MKept.reads {w w1 : World} {v : Value} {A : Option Addr} {n : Nat} {ss : List Sm} (h : MKept w v A n ss) (hb : Below w.heap.size w w1) : MReads w1 w1.heap.size A n ss := h w1 (only_of_below hb _)

set_option maxRecDepth 100000 in
set_option maxHeartbeats 8000000 in
theorem rgrow_any (n least : Nat) (hl : 1 ≤ least) (hl2 : least ≤ 60) : ∀ (d : Nat) (D : Int), D = d → d ≤ 1000 → ∀ (ss : List Sm) (A : Option Addr) (m c : Nat) (xs : List Nd) (v : Value) (base : Nat) (w : World), SRight ss n → MKept w v A m ss → NOwn w base v xs → base ≤ w.heap.size → xs.length + (growK n least d ss).size ≤ 1000000 →
    Calls Tryd.prog 9 #[v, .slice A m c, .int .i64 n, .int .i64 D, .int .i64 least] w (GrowPost (xs ++ layK xs.length (growK n least d ss)) v base w) := by
  intro d
  induction d with
  | zero =>
    intro D hD hd ss A m c xs v base w hs hk ho hB hn
    have hr := hk.now
    have hlen := hr.len
    have hm60 : m ≤ 60 := by have := hs.most; omega
    have hm1 : 1 ≤ m := by have := hs.pos; omega
    have d1 : (D == 0) = true := by simpa using hD
    have HG : Hid (layK xs.length (growK n least 0 ss) = [⟨-1, 0, 0, 0, false, sumM ss / (m : Int)⟩]) := hide (by simp only [growK, layK, leafG, hlen])
    have hxl : xs.length ≤ 1000000 := by omega
    have HSR := hide hs
    have HL := hide hlen
    have HSB : Hid (∀ k, -60000 ≤ sumM (ss.take k) ∧ sumM (ss.take k) ≤ 60000) := hide fun k => sum_60 (by rw [List.length_take]; omega) (fun s hsm => hs.tlo s (List.mem_of_mem_take hsm)) (fun s hsm => hs.thi s (List.mem_of_mem_take hsm))
    have hok := bestB_ok (least := least) hs hl
    have HSp := hide (rsplit_any A m c n least ss w hr hs hl hl2)
    unfold RSplitPost at HSp
    obtain ⟨x1, hx1⟩ : ∃ x, x = ftB (bestB ss n least) := ⟨_, rfl⟩
    obtain ⟨x2, hx2⟩ : ∃ x, x = (bestB ss n least).c := ⟨_, rfl⟩
    obtain ⟨x3, hx3⟩ : ∃ x, x = fdB (bestB ss n least) := ⟨_, rfl⟩
    rw [← hx1, ← hx2, ← hx3] at HSp
    have hb1 := sum_floor hs
    obtain ⟨S, hS⟩ : ∃ S, S = sumM ss := ⟨_, rfl⟩
    rw [← hS] at HG hb1
    have HSS := hide hS
    obtain ⟨Av, cv, rfl, _, _⟩ := ho.slice
    have hown : w.ownsRow base 55 6 (.slice Av xs.length cv) xs.length (xs.flatMap Nd.cells) := ho
    clear hs hk hlen hS hn hD ho hx1 hx2 hx3 hok
    go_enter Tryd.func9, Tryd.ntmps9
    go_wp2_with fail
    refine (unhide HSp).mono ?_
    rintro e wq ⟨rfl, q0, rfl⟩
    clear HSp
    go_wp2_with fail
    go_loopw [14, 15] (fun s i wr => ∃ k p : Nat, k ≤ m ∧ s = .int .i64 (sumM (ss.take k)) ∧ i = .int .i64 k ∧ wr = w.drewN p) (fun _ i _ => m - (intOf i).toNat)
    case atStart => exact ⟨0, q0, Nat.zero_le _, rfl, rfl, rfl⟩
    case round =>
      obtain ⟨k, p, hk, rfl, rfl, rfl⟩ := hrel
      by_cases hlt : k < m
      · obtain ⟨bb, o, s, rfl, _, hx, c0, c1, hok'⟩ := hr.get hlt
        have HN := hide (sumM_next hx)
        have t1 := (unhide HSR).tlo s (List.mem_of_getElem? hx)
        have t2 := (unhide HSR).thi s (List.mem_of_getElem? hx)
        obtain ⟨b1, b2⟩ := unhide HSB k
        obtain ⟨S', hS'⟩ : ∃ S, S = sumM (ss.take k) := ⟨_, rfl⟩
        rw [← hS'] at b1 b2 HN ⊢
        obtain ⟨sA, sn, sc, sr, st⟩ := s
        dsimp only at c0 c1 HN t1 t2
        clear hx hok' hS'
        go_wp2_with fail
        go_roundw
        case rel => exact ⟨k + 1, p, by omega, by rw [unhide HN], by go_num, rfl⟩
        case measure => simp [intOf]; omega
      · obtain rfl : k = m := by omega
        rw [List.take_of_length_le (by rw [unhide HL]; exact Nat.le_refl _), ← unhide HSS]
        have hbw : Below w.heap.size w (w.drewN p) := below_drewN (Below.refl _ _) p
        have hown1 := own_over hown hbw
        have hz1 : base ≤ (w.drewN p).heap.size := Nat.le_trans hB hbw.size
        go_wp2_with fail
        refine (rfloor_any S k (w.drewN p) (by omega) (by omega) (by omega) (by omega)).mono ?_
        rintro e w2 ⟨rfl, rfl⟩
        go_wp2_with (at_builtin; refine app_one2 elem_nodeP (.tmp 51) (.tmp 54) [.int .i64 (-1), .int .i64 0, .int .i64 0, .int .i64 0, .bool false, .int .i64 (S / (k : Int))] rfl rfl rfl hown1 rfl rfl rfl (node_one ⟨-1, 0, 0, 0, false, S / (k : Int)⟩) (by omega) hz1 ?_; intro v2 w2 hown2 hb2 hg2 hn2)
        go_ret
        refine ⟨v2, rfl, ?_, grown_next (only_of_below hbw _) (OwnNext.refl _ _) hg2, (OwnNext.refl _ _).trans hbw.size (ownNext_app hn2)⟩
        rw [unhide HG]
        unfold NOwn
        rw [List.length_append, List.flatMap_append]
        exact hown2
  | succ d ih =>
    intro D hD hd ss A m c xs v base w hs hk ho hB hn
    have hr := hk.now
    have hlen := hr.len
    have hm60 : m ≤ 60 := by have := hs.most; omega
    have hm1 : 1 ≤ m := by have := hs.pos; omega
    have hn8 := hs.fe8
    have d1 : (D == 0) = false := by simp; omega
    have hD1 : D - 1 = d := by omega
    have hD2 : D ≤ 1001 := by omega
    have hD3 : 0 < D := by omega
    have HSR := hide hs
    have HL := hide hlen
    have HSB : Hid (∀ k, -60000 ≤ sumM (ss.take k) ∧ sumM (ss.take k) ≤ 60000) := hide fun k => sum_60 (by rw [List.length_take]; omega) (fun s hsm => hs.tlo s (List.mem_of_mem_take hsm)) (fun s hsm => hs.thi s (List.mem_of_mem_take hsm))
    have hok := bestB_ok (least := least) hs hl
    have HSp := hide (rsplit_any A m c n least ss w hr hs hl hl2)
    unfold RSplitPost at HSp
    obtain ⟨_, _, _, _, hf1, hf2, _, _, hz⟩ := hok
    by_cases h0 : (bestB ss n least).f < 0
    · have HG : Hid (layK xs.length (growK n least (d + 1) ss) = [⟨-1, 0, 0, 0, false, sumM ss / (m : Int)⟩]) := hide (by simp only [growK]; rw [if_pos h0]; simp only [layK, leafG, hlen])
      have hxl : xs.length ≤ 1000000 := by omega
      have hb1 := sum_floor hs
      obtain ⟨S, hS⟩ : ∃ S, S = sumM ss := ⟨_, rfl⟩
      rw [← hS] at HG hb1
      have HSS := hide hS
      rw [fdB_none (by omega)] at HSp
      obtain ⟨x1, hx1⟩ : ∃ x, x = ftB (bestB ss n least) := ⟨_, rfl⟩
      rw [← hx1] at HSp
      obtain ⟨x2, hx2⟩ : ∃ x, x = (bestB ss n least).c := ⟨_, rfl⟩
      rw [← hx2] at HSp
      obtain ⟨Av, cv, rfl, _, _⟩ := ho.slice
      have hown : w.ownsRow base 55 6 (.slice Av xs.length cv) xs.length (xs.flatMap Nd.cells) := ho
      clear hs hk hlen hS hn hD ho hz hf1 hf2 ih hD1 h0 hx2 hx1
      go_enter Tryd.func9, Tryd.ntmps9
      go_wp2_with fail
      refine (unhide HSp).mono ?_
      rintro e wq ⟨rfl, q0, rfl⟩
      clear HSp
      go_wp2_with fail
      go_loopw [14, 15] (fun s i wr => ∃ k p : Nat, k ≤ m ∧ s = .int .i64 (sumM (ss.take k)) ∧ i = .int .i64 k ∧ wr = w.drewN p) (fun _ i _ => m - (intOf i).toNat)
      case atStart => exact ⟨0, q0, Nat.zero_le _, rfl, rfl, rfl⟩
      case round =>
        obtain ⟨k, p, hk, rfl, rfl, rfl⟩ := hrel
        by_cases hlt : k < m
        · obtain ⟨bb, o, s, rfl, _, hx, c0, c1, hok'⟩ := hr.get hlt
          have HN := hide (sumM_next hx)
          have t1 := (unhide HSR).tlo s (List.mem_of_getElem? hx)
          have t2 := (unhide HSR).thi s (List.mem_of_getElem? hx)
          obtain ⟨b1, b2⟩ := unhide HSB k
          obtain ⟨S', hS'⟩ : ∃ S, S = sumM (ss.take k) := ⟨_, rfl⟩
          rw [← hS'] at b1 b2 HN ⊢
          obtain ⟨sA, sn, sc, sr, st⟩ := s
          dsimp only at c0 c1 HN t1 t2
          clear hx hok' hS'
          go_wp2_with fail
          go_roundw
          case rel => exact ⟨k + 1, p, by omega, by rw [unhide HN], by go_num, rfl⟩
          case measure => simp [intOf]; omega
        · obtain rfl : k = m := by omega
          rw [List.take_of_length_le (by rw [unhide HL]; exact Nat.le_refl _), ← unhide HSS]
          have hbw : Below w.heap.size w (w.drewN p) := below_drewN (Below.refl _ _) p
          have hown1 := own_over hown hbw
          have hz1 : base ≤ (w.drewN p).heap.size := Nat.le_trans hB hbw.size
          go_wp2_with fail
          refine (rfloor_any S k (w.drewN p) (by omega) (by omega) (by omega) (by omega)).mono ?_
          rintro e w2 ⟨rfl, rfl⟩
          go_wp2_with (at_builtin; refine app_one2 elem_nodeP (.tmp 51) (.tmp 54) [.int .i64 (-1), .int .i64 0, .int .i64 0, .int .i64 0, .bool false, .int .i64 (S / (k : Int))] rfl rfl rfl hown1 rfl rfl rfl (node_one ⟨-1, 0, 0, 0, false, S / (k : Int)⟩) (by omega) hz1 ?_; intro v2 w2 hown2 hb2 hg2 hn2)
          go_ret
          refine ⟨v2, rfl, ?_, grown_next (only_of_below hbw _) (OwnNext.refl _ _) hg2, (OwnNext.refl _ _).trans hbw.size (ownNext_app hn2)⟩
          rw [unhide HG]
          unfold NOwn
          rw [List.length_append, List.flatMap_append]
          exact hown2
    · obtain ⟨f, hf⟩ : ∃ f : Nat, (bestB ss n least).f = f := ⟨(bestB ss n least).f.toNat, by omega⟩
      obtain ⟨C, hC⟩ : ∃ C, C = (bestB ss n least).c := ⟨_, rfl⟩
      rw [hf, ← hC, Int.toNat_natCast] at hz
      rw [hf] at hf2 h0
      have hlow : 1 ≤ (lowS f C ss).length := by rcases hz with hz | hz <;> omega
      have hhigh : 1 ≤ (highS f C ss).length := by rcases hz with hz | hz <;> omega
      have hpl := parts_len f C ss
      have hG : growK n least (d + 1) ss = .node ⟨f, C, 0, 0, decide ((highS f C ss).length < (lowS f C ss).length), 0⟩ (growK n least d (lowS f C ss)) (growK n least d (highS f C ss)) := by
        simp only [growK]
        rw [if_neg (by rw [hf]; omega)]
        simp only [hf, ← hC, Int.toNat_natCast]
      rw [ftB_some (by rw [hf]; omega), fdB_some (by rw [hf]; omega), hf, ← hC] at HSp
      have HP := hide (fun (W : World) (hb : Below w.heap.size w W) => rpart_any true A m c f C ss W ((hr.below hb).more hb.size) hm60 (fun s hsm => by rw [hs.len s hsm]; omega))
      have HQ := hide (fun (W : World) (hb : Below w.heap.size w W) => rpart_any false A m c f C ss W ((hr.below hb).more hb.size) hm60 (fun s hsm => by rw [hs.len s hsm]; omega))
      unfold selS at HP HQ
      rw [if_pos rfl] at HP
      rw [if_neg (by simp)] at HQ
      have hsl := hs.low (f := f) (c := C) hlow
      have hsh := hs.high (f := f) (c := C) hhigh
      rw [hG] at hn ⊢
      simp only [Kt.size] at hn
      obtain ⟨La, hLa⟩ : ∃ La, La = lowS f C ss := ⟨_, rfl⟩
      obtain ⟨Lb, hLb⟩ : ∃ Lb, Lb = highS f C ss := ⟨_, rfl⟩
      have HMa : Hid (∀ s ∈ La, s ∈ ss) := hide (by rw [hLa]; exact fun s hs => (lowS_mem hs).1)
      have HMb : Hid (∀ s ∈ Lb, s ∈ ss) := hide (by rw [hLb]; exact fun s hs => (highS_mem hs).1)
      rw [← hLa] at hn HP hsl hlow hpl ⊢
      rw [← hLb] at hn HQ hsh hhigh hpl ⊢
      obtain ⟨la, hla⟩ : ∃ la, la = La.length := ⟨_, rfl⟩
      obtain ⟨lb, hlb⟩ : ∃ lb, lb = Lb.length := ⟨_, rfl⟩
      unfold RPartPost at HP HQ
      rw [← hla] at HP
      rw [← hlb] at HQ
      obtain ⟨lo, hlo⟩ : ∃ lo : Bool, lo = decide (lb < la) := ⟨_, rfl⟩
      have d3 : decide (lb < la) = lo := hlo.symm
      have d3' : decide ((lb : Int) < (la : Int)) = lo := by rw [hlo, decide_eq_decide]; omega
      have hla60 : la ≤ 60 := by omega
      have hlb60 : lb ≤ 60 := by omega
      have hf8 : f ≤ 8 := by omega
      obtain ⟨Ka, hKa⟩ : ∃ Ka, Ka = growK n least d La := ⟨_, rfl⟩
      obtain ⟨Kb, hKb⟩ : ∃ Kb, Kb = growK n least d Lb := ⟨_, rfl⟩
      rw [← hKa, ← hKb] at hn ⊢
      rw [← hla, ← hlb, d3]
      have HKL : Hid (layK xs.length (.node ⟨f, C, 0, 0, lo, 0⟩ Ka Kb) = ⟨f, C, ((xs.length + 1 : Nat) : Int), ((xs.length + 1 + Ka.size : Nat) : Int), lo, 0⟩ :: (layK (xs.length + 1) Ka ++ layK (xs.length + 1 + Ka.size) Kb)) := hide rfl
      obtain ⟨M, hM⟩ : ∃ M, M = xs.length + 1 + Ka.size := ⟨_, rfl⟩
      rw [← hM] at HKL
      have hxl : xs.length ≤ 1000000 := by omega
      have hMle : M ≤ 1000000 := by omega
      obtain ⟨Av, cv, rfl, _, _⟩ := ho.slice
      have hown : w.ownsRow base 55 6 (.slice Av xs.length cv) xs.length (xs.flatMap Nd.cells) := ho
      have hk2 := hk
      have hN2 : (xs ++ [(⟨f, C, (xs.length : Int) + 1, 0, lo, 0⟩ : Nd)]).length = xs.length + 1 := by simp
      have HI1 := hide (fun (W : World) (v1 : Value) (c1 : Nat) (A1 : Option Addr) (hkk : MKept W v1 A1 la La) (hoo : NOwn W base v1 (xs ++ [⟨f, C, (xs.length : Int) + 1, 0, lo, 0⟩])) (hbb : base ≤ W.heap.size) =>
        ih (D - 1) hD1 (by omega) La A1 la c1 _ v1 base W hsl hkk hoo hbb (by rw [hN2, ← hKa]; omega))
      have HI2 := hide (fun (W : World) (v1 : Value) (c1 : Nat) (A1 : Option Addr) (hkk : MKept W v1 A1 lb Lb) (hoo : NOwn W base v1 (xs ++ ⟨f, C, (xs.length : Int) + 1, M, lo, 0⟩ :: layK (xs.length + 1) Ka)) (hbb : base ≤ W.heap.size) =>
        ih (D - 1) hD1 (by omega) Lb A1 lb c1 _ v1 base W hsh hkk hoo hbb (by simp [layK_len, ← hKb]; omega))
      rw [← hKa, hN2] at HI1
      rw [← hKb] at HI2
      have hN3 : (xs ++ (⟨f, C, (xs.length : Int) + 1, M, lo, 0⟩ : Nd) :: layK (xs.length + 1) Ka).length = M := by simp [layK_len]; omega
      have hN4 : (xs ++ (⟨f, C, (xs.length : Int) + 1, 0, lo, 0⟩ : Nd) :: layK (xs.length + 1) Ka).length = M := by simp [layK_len]; omega
      rw [hN3] at HI2
      have HM := hide hM
      have HLA := hide hla
      have HLB := hide hlb
      have HK0 := hide hk
      clear hs hk hlen hn hD ho hG hsl hsh hLa hLb hla hlb hKa hKb hz hf1 hf2 ih hD1 hpl hM hlow hhigh h0 hf hC hN2 hlo hk2
      go_enter Tryd.func9, Tryd.ntmps9
      go_wp2_with fail
      refine (unhide HSp).mono ?_
      rintro e wq ⟨rfl, q0, rfl⟩
      clear HSp
      have hbw0 : Below w.heap.size w (w.drewN q0) := below_drewN (Below.refl _ _) q0
      go_wp2_with fail
      refine (unhide HP _ hbw0).mono ?_
      rintro e wa ⟨A1, c1, rfl, hoa, _, hbwa⟩
      have hownq := own_over hown hbw0
      have hbwA := hbw0.trans (hbwa.mono hbw0.size)
      have hka0 : MKept wa (.slice Av xs.length cv) A1 la La := by rw [unhide HLA] at hoa ⊢; exact MKept.made hownq ((unhide HK0).next (only_of_below hbw0 _) (OwnNext.refl _ _)) hbwa hoa (unhide HMa)
      have hown0 := own_over hownq hbwa
      clear HP hoa
      go_wp2_with fail
      refine (unhide HQ wa hbwA).mono ?_
      rintro e w1 ⟨A2, c2, rfl, hob, _, hbw1⟩
      have hka := hka0.next (only_of_below hbw1 _) (OwnNext.refl _ _)
      have hkb : MKept w1 (.slice Av xs.length cv) A2 lb Lb := by rw [unhide HLB] at hob ⊢; exact MKept.made hown0 ((unhide HK0).next (only_of_below hbwA _) (OwnNext.refl _ _)) hbw1 hob (unhide HMb)
      have hbw := hbwA.trans (hbw1.mono hbwA.size)
      have hown1 := own_over hown0 hbw1
      have hz1 : base ≤ w1.heap.size := Nat.le_trans hB hbw.size
      have HKA := hide hka
      have HKB := hide hkb
      have HBW := hide hbw
      clear HQ hbw0 hbw1 hob hown0 hown hownq hbwA hbwa hka0 hka hkb hbw HLA HLB HK0 HMa HMb
      go_wp2_with (at_builtin; refine app_one2 elem_nodeP (.tmp 66) (.tmp 77) [.int .i64 f, .int .i64 C, .int .i64 ((xs.length : Int) + 1), .int .i64 0, .bool lo, .int .i64 0] rfl rfl rfl hown1 rfl rfl rfl (node_one ⟨f, C, (xs.length : Int) + 1, 0, lo, 0⟩) (by omega) hz1 ?_; intro v3 w3 hown3 hb3 hg3 hn3)
      have ho3 : NOwn w3 base v3 (xs ++ [⟨f, C, (xs.length : Int) + 1, 0, lo, 0⟩]) := by
        unfold NOwn
        rw [List.length_append, List.flatMap_append]
        exact hown3
      have hnx3 := ownNext_app hn3
      have hka3 := (unhide HKA).next hg3 hnx3
      have hkb3 := (unhide HKB).next hg3 hnx3
      have hz3 : base ≤ w3.heap.size := Nat.le_trans hz1 hb3.size
      have hbw := unhide HBW
      have G3 := grown_next (only_of_below hbw _) (OwnNext.refl _ _) hg3
      have N3 := (OwnNext.refl w _).trans hbw.size hnx3
      have HC1 := hide (unhide HI1 w3 v3 c1 A1 hka3 ho3 hz3)
      have HG3 := hide G3
      have HN3 := hide N3
      have HKB3 := hide hkb3
      clear hown3 hb3 hg3 hn3 ho3 hnx3 hka3 hkb3 hbw G3 N3 HI1 HKA HKB HBW hown1 hz1
      refine (unhide HC1).mono ?_
      rintro e w4 ⟨v4, rfl, ho4, hg4, hn4⟩
      rw [List.append_assoc, List.singleton_append] at ho4
      obtain ⟨A4, c4, rfl, _, _⟩ := ho4.slice
      rw [hN4] at ho4 hn4 ⊢
      obtain ⟨g4, rfl, hg4b, hg4s, e3, f3⟩ := ho4.at_ hN4 (k := xs.length) (x := ⟨f, C, (xs.length : Int) + 1, 0, lo, 0⟩) (by simp) 3 (by omega)
      have e3' : w4.cell? ⟨g4, xs.length * 6 + 3, none⟩ = some (.int .i64 0) := e3
      have hST := NOwn.stored (n := M) (y := ⟨f, C, (xs.length : Int) + 1, M, lo, 0⟩) ho4 hN4 3 (.int .i64 (M : Int)) (by omega) rfl
      have hG5 : w4.grownBy (w4.setCell ⟨g4, xs.length * 6 + 3, none⟩ (.int .i64 (M : Int))) (Value.slice (some ⟨g4, 0, none⟩) M c4).ownBlock := only_setCell (World.grownBy.refl _ _) (.inl rfl) _
      have hkb5 := ((unhide HKB3).next hg4 hn4).next hG5 (OwnNext.refl _ _)
      have G4 := grown_next (unhide HG3) (unhide HN3) hg4
      have N4 := (unhide HN3).trans (unhide HG3).size hn4
      have G5 := grown_next G4 N4 hG5
      have HC2 := hide (unhide HI2 _ _ c2 A2 hkb5 hST (by have h1 := hG5.size; have h2 := hg4.size; omega))
      have HG5 := hide G5
      have HN4 := hide N4
      have hMx : xs.length < M := by have := unhide HM; omega
      clear hST hG5 hkb5 G4 N4 G5 HC1 HI2 HG3 HN3 HKB3 hg4 hn4 ho4 e3 hN4 hN3
      go_wp2_with fail
      refine (unhide HC2).mono ?_
      rintro e w6 ⟨v6, rfl, ho6, hg6, hn6⟩
      go_wp2_with fail
      go_ret
      refine ⟨v6, rfl, ?_, grown_next (unhide HG5) (unhide HN4) hg6, (unhide HN4).trans (unhide HG5).size hn6⟩
      rw [unhide HKL]
      have h2 : ((xs.length + 1 : Nat) : Int) = (xs.length : Int) + 1 := by omega
      rw [h2]
      simpa using ho6

end Go.Proofs.YtdpijhnbhopnbaaDoor
/- orchsame.Nodes of two trees that are the same. Conditions: arguments read as nodes. -/
namespace Go.Proofs.YtdpijhnbhopnbaaDoor
set_option linter.unusedVariables false
set_option linter.unusedSimpArgs false
open Go.RowKit

def ndEq (a b : Nd) : Bool := a.f == b.f && a.c == b.c && a.l == b.l && a.r == b.r && a.less == b.less && a.v == b.v
theorem ndEq_t {a b : Nd} : ndEq a b = true ↔ a = b := by
  obtain ⟨a0, a1, a2, a3, a4, a5⟩ := a
  obtain ⟨b0, b1, b2, b3, b4, b5⟩ := b
  simp [ndEq, and_assoc]
set_option maxRecDepth 100000 in
theorem neq_node (a b : Nd) (W : World) : (binOp .neq 55 (.agg #[.int .i64 a.f, .int .i64 a.c, .int .i64 a.l, .int .i64 a.r, .bool a.less, .int .i64 a.v]) (.agg #[.int .i64 b.f, .int .i64 b.c, .int .i64 b.l, .int .i64 b.r, .bool b.less, .int .i64 b.v])).run Tryd.prog W = .ok (.bool (!(ndEq a b))) W := by
  have u := Tryd.underlying55
  have ui := Tryd.underlying3
  have ub := Tryd.underlying4
  rw [run_neq_struct, run_equalIn_agg _ _ _ _ _ (by unfold Program.fieldsOf; rw [u]) (by kernel_rfl)]
  simp only [Program.fieldsOf, u]
  simp [Op.eqFields, part, go_sem, ui, ub]
  unfold ndEq
  by_cases h0 : a.f = b.f <;> by_cases h1 : a.c = b.c <;> by_cases h2 : a.l = b.l <;> by_cases h3 : a.r = b.r <;> by_cases h4 : a.less = b.less <;> by_cases h5 : a.v = b.v <;> simp [h0, h1, h2, h3, h4, h5]
theorem same_node (f c l r : Int) (less : Bool) (v : Int) (W : World) : (binOp .neq 55 (.agg #[.int .i64 f, .int .i64 c, .int .i64 l, .int .i64 r, .bool less, .int .i64 v]) (.agg #[.int .i64 f, .int .i64 c, .int .i64 l, .int .i64 r, .bool less, .int .i64 v])).run Tryd.prog W = .ok (.bool false) W := by
  have := neq_node ⟨f, c, l, r, less, v⟩ ⟨f, c, l, r, less, v⟩ W
  rw [ndEq_t.2 rfl] at this
  exact this
set_option maxRecDepth 100000 in
set_option maxHeartbeats 1000000 in
theorem sameNodes_any (A C : Option Addr) (n ca cc : Nat) (xs : List Nd) (w : World) (BA BC : Nat) (ha : NReads w BA A n xs) (hc : NReads w BC C n xs) (hn : n ≤ maxLen) :
    Calls Tryd.prog 11 #[.slice A n ca, .slice C n cc] w fun e w' => e = .returned (.bool true) ∧ ∃ q, w' = w.drewN q := by
  unfold maxLen at hn
  have e0 : ((n : Int) != (n : Int)) = false := by simp
  go_enter Tryd.func11, Tryd.ntmps11
  go_wp2
  go_loopw [5] (fun i wr => ∃ k q : Nat, k ≤ n ∧ i = .int .i64 k ∧ wr = w.drewN q) (fun i _ => n - (intOf i).toNat)
  case atStart => exact ⟨0, 0, Nat.zero_le _, rfl, rfl⟩
  case round =>
    obtain ⟨k, q, hk, rfl, rfl⟩ := hrel
    by_cases hlt : k < n
    · obtain ⟨b, o, x, rfl, _, hx, c0, c1, c2, c3, c4, c5⟩ := ha.get hlt
      obtain ⟨b2, o2, y, rfl, _, hy, d0, d1, d2, d3, d4, d5⟩ := hc.get hlt
      rw [hx] at hy
      injection hy with hy
      subst hy
      obtain ⟨f, c, l, r, less, v⟩ := x
      dsimp only at c0 c1 c2 c3 c4 c5 d0 d1 d2 d3 d4 d5
      have hneq := same_node f c l r less v
      clear hx
      go_wp2_with fail
      go_quiet (fail)
      go_wp2_with fail
      go_roundw
      case rel => exact ⟨k + 1, q + nq, by omega, by go_num, by first | rfl | rw [World.drewN_drewN]⟩
      case measure => simp [intOf]; omega
    · go_wp2
      go_ret
      exact ⟨rfl, q, rfl⟩
end Go.Proofs.YtdpijhnbhopnbaaDoor
