/- Part 18 of what LawGrowLearns needs: GrowV, GrowM, GrowRight, GrowFour. Conditions: as each lemma names. -/
import Derived.Test.YtdpijhnbhopnbaaPkGrowLearns17
import Derived.Test.YtdpijhnbhopnbaaPkGrowLearns13
/- Package grow and the document: Wrong. Conditions: a tree and samples that read as data. -/
namespace Go.Proofs.Ytdpijhnbhopnbaa
set_option linter.unusedVariables false
set_option linter.unusedSimpArgs false
open Go.RowKit

theorem wp_nameV {P : Program} {c : Code} {Q : Exit → Act → World → Prop} {a : Act} {W : World} (h : ∀ X, X = W → Code.wp P c Q a X) : Code.wp P c Q a W := h W rfl
def wrongE (t : List Nd) (ss : List Sm) : Int := if readyS t ss = 0 then wrongM t ss else 0

set_option maxRecDepth 100000 in
set_option maxHeartbeats 4000000 in
theorem wrong_any (A C : Option Addr) (m d k c : Nat) (t : List Nd) (ss : List Sm) (w : World) (ht : NReads w w.heap.size A m t) (hs : MReads w w.heap.size C k ss) (hm : m ≤ maxLen) (hk : k ≤ maxLen) :
    Calls Try.prog 10 #[.slice A m d, .slice C k c] w fun e w' => e = .returned (.tuple #[.int .i64 (wrongE t ss), errV (readyS t ss)]) ∧ Below w.heap.size w w' := by
  have HC0 := hide (gReady_any A C m d k c t ss w ht hs hm hk)
  by_cases h0 : readyS t ss = 0
  case neg =>
    have HE : Hid (wrongE t ss = 0) := hide (by unfold wrongE; rw [if_neg h0])
    have hv := errV_1 h0
    have HV := hide hv
    clear h0
    go_enter Try.func10, Try.ntmps10
    go_wp2_with fail
    refine (unhide HC0).mono ?_
    rintro e w1 ⟨rfl, hb1⟩
    rw [hv]
    clear HC0 hv
    go_wp2_with fail
    go_ret2
    exact ⟨by rw [unhide HE, unhide HV]; rfl, hb1⟩
  have HE : Hid (wrongE t ss = wrongM t ss) := hide (by unfold wrongE; rw [if_pos h0])
  obtain ⟨n, hR, _, _⟩ := readyS_0 h0
  have hv := errV_0 h0
  have HV := hide hv
  have hl := hs.len
  have hk60 : k ≤ 60 := by have := hR.samp.most; omega
  have hml := ht.len
  have hm63 : m ≤ 63 := by have := hR.tree.most; omega
  have hm0 : 0 < m := by have := hR.tree.pos; omega
  have HT : Hid (ss.take k = ss) := hide (List.take_of_length_le (by omega))
  have HL := hide hl
  have HB : Hid (∀ j, j ≤ k → 0 ≤ wrongM t (ss.take j) ∧ wrongM t (ss.take j) ≤ 61000000000000) := hide fun j hj => by
    have := wrongM_le hR.tree (ss := ss.take j) (fun s hs => hR.samp.tlo s (List.mem_of_mem_take hs)) (fun s hs => hR.samp.thi s (List.mem_of_mem_take hs))
    rw [List.length_take] at this
    omega
  have HR := hide hR
  have HML := hide hml
  clear hl hR h0 hml
  go_enter Try.func10, Try.ntmps10
  go_wp2_with fail
  refine (unhide HC0).mono ?_
  rintro e w0 ⟨rfl, hb0⟩
  rw [hv]
  clear HC0 hv
  go_wp2_with fail
  go_loopw [7, 19] (fun s i wr => ∃ j : Nat, j ≤ k ∧ s = .int .i64 (wrongM t (ss.take j)) ∧ i = .int .i64 j ∧ Below w.heap.size w wr) (fun _ i _ => k - (intOf i).toNat)
  case atStart => exact ⟨0, Nat.zero_le _, rfl, rfl, hb0⟩
  case round =>
    clear hb0
    obtain ⟨j, hj, rfl, rfl, hbel⟩ := hrel
    have hsz := hbel.size
    by_cases hlt : j < k
    · obtain ⟨b, o, s, rfl, hbb, hx, c0, c1, hok⟩ := (hs.below hbel).get hlt
      have HN := hide (wrongM_next (t := t) hx)
      have t1 := (unhide HR).samp.tlo s (List.mem_of_getElem? hx)
      have t2 := (unhide HR).samp.thi s (List.mem_of_getElem? hx)
      have hrl := (unhide HR).samp.len s (List.mem_of_getElem? hx)
      obtain ⟨x, hxt, hxv, v1, v2⟩ := leaf_there (unhide HR).tree s.r
      rw [hxv] at HN
      obtain ⟨b1, b2⟩ := unhide HB j hj
      have hb' := (unhide HB (j + 1) (by omega)).2
      rw [unhide HN] at hb'
      obtain ⟨S, hS⟩ : ∃ S, S = wrongM t (ss.take j) := ⟨_, rfl⟩
      rw [← hS] at b1 b2 HN hb' ⊢
      have hrd := hok.reads
      have hlf : leafOf t s.r < m := by have := (List.getElem?_eq_some_iff.1 hxt).1; have := unhide HML; omega
      have HC := hide (fun (W : World) (hB : Below w.heap.size w W) (hr' : IReads W W.heap.size s.A s.n s.r) => walk_any A s.A m d s.n s.c t s.r W ((ht.below hB).more hB.size) hr' hm0 hm63 (by have h1 := (unhide HR).tree.fe8; have h2 := hrd.len; omega) (unhide HR).tree.behind (by rw [← hrd.len, hrl]; exact (unhide HR).tree.asks))
      obtain ⟨lf, hlfe⟩ : ∃ v, v = leafOf t s.r := ⟨_, rfl⟩
      rw [← hlfe] at HC hlf hxt
      obtain ⟨tb, to_, y, hA, htb, hy, y0, y1, y2, y3, y4, y5⟩ := ht.get hlf
      rw [hxt] at hy
      injection hy with hy
      subst hy
      subst hA
      obtain ⟨xv, hxve⟩ : ∃ v, v = x.v := ⟨_, rfl⟩
      rw [← hxve] at v1 v2 HN hb' y5
      have hsn : s.n ≤ maxLen := hok.len
      obtain ⟨sA, sn, sc, sr, st⟩ := s
      dsimp only at c0 c1 HN t1 t2 HC hb' hrd hsn
      unfold maxLen at hsn
      have q := sq_le (a := st - xv) (m := 1001000) (by omega) (by omega)
      have q1 := q.1
      have q2 := q.2
      have hsub : IntKind.i64.wrap (st - xv) = st - xv := IntWalk.i64_in _ (by omega)
      have q3 : -1001000 ≤ st - xv := by omega
      have q4 : st - xv ≤ 1001000 := by omega
      clear hx hok hS hxv hxve hrl q hlfe hxt y0 y1 y2 y3 y4
      go_upto_region 8 with (fail)
      refine wp_nameV fun X hX => ?_
      have bX : Blk X wr.heap.size 25 #[.slice sA sn sc, .int .i64 st] := by rw [hX]; exact Blk.new _ _ _
      have hBX : Below w.heap.size w X := by rw [hX]; exact hbel.alloc hsz _
      have hrX : IReads X X.heap.size sA sn sr := by rw [hX]; exact (Reads.alloc hrd hsz _).more (by rw [World.size_alloc]; omega)
      have hgX := bX.lt
      have hrXd : IReads X.drew X.drew.heap.size sA sn sr := show Reads X.drew X.heap.size 1 sA sn (sr.map (Value.int .i64)) from Reads.drew (show Reads X X.heap.size 1 sA sn (sr.map (Value.int .i64)) from hrX)
      have y5X : X.cell? ⟨tb, to_ + lf * 6 + 5, none⟩ = some (.int .i64 xv) := (hBX.cell (p := ⟨tb, to_ + lf * 6 + 5, none⟩) htb).trans y5
      have z0 := bX.cell 0
      have z1 := bX.cell 1
      simp at z0 z1
      clear hX hrd c0 c1
      obtain ⟨g, hg⟩ : ∃ g, g = wr.heap.size := ⟨_, rfl⟩
      rw [← hg] at bX z0 z1 hgX ⊢
      clear hg
      go_region_held3 (fun w' => w'.cell? ⟨g, 0, none⟩ = some (.slice sA sn sc) ∧ w'.cell? ⟨g, 1, none⟩ = some (.int .i64 st) ∧ w'.cell? ⟨tb, to_ + lf * 6 + 5, none⟩ = some (.int .i64 xv))
        (first | go_keep | (refine ⟨?_, ?_, ?_⟩ <;> with_reducible assumption))
        (first
          | (go_at_call 23
             (with_reducible refine (unhide HC _ hBX.drew hrXd).mono ?_)
             rintro e w1 ⟨rfl, hb1⟩
             have n0 : w1.cell? ⟨g, 0, none⟩ = some (.slice sA sn sc) := (hb1.cell (p := ⟨g, 0, none⟩) hgX).trans z0
             have n1 : w1.cell? ⟨g, 1, none⟩ = some (.int .i64 st) := (hb1.cell (p := ⟨g, 1, none⟩) hgX).trans z1
             have hBE := hBX.drew.trans (hb1.mono hBX.size)
             have n5 : w1.cell? ⟨tb, to_ + lf * 6 + 5, none⟩ = some (.int .i64 xv) := (hBE.cell (p := ⟨tb, to_ + lf * 6 + 5, none⟩) htb).trans y5))
      clear hb1 n0 n1 HC hsub z0 z1 bX hBX hrX hrXd n5 y5X
      go_wp2_with fail
      go_roundw
      case rel => exact ⟨j + 1, by omega, by rw [unhide HN], by go_num, hBE⟩
      case measure => simp [intOf]; omega
    · obtain rfl : j = k := by omega
      rw [unhide HT]
      go_wp2_with fail
      go_ret2
      exact ⟨by rw [unhide HE, unhide HV]; rfl, hbel⟩
end Go.Proofs.Ytdpijhnbhopnbaa
/- Package grow in plain words: what GrowLearns tells of a tree of samples, node by node as it lies. Conditions: none. -/
namespace Go.Proofs.Ytdpijhnbhopnbaa
set_option linter.unusedVariables false
set_option linter.unusedSimpArgs false
open Go.RowKit

theorem leaf_lay {k : Kt} (hk : k.Ok) (r : List Int) : ∀ (s : Kt) (i m : Nat), At 0 k i s → s.size ≤ m → leafFrom (layK 0 k) r m i = kleaf r i s := by
  intro s
  induction s with
  | leaf x =>
    intro i m h hm
    simp only [Kt.size] at hm
    have h1 := h.seg (seg_self k) 0 x rfl
    rw [Nat.add_zero] at h1
    rw [leafFrom_leaf h1 ((h.ok hk).2 x (by simp [Kt.leaves]))]
    rfl
  | node x l r' il ir =>
    intro i m h hm
    simp only [Kt.size] at hm
    obtain ⟨m, rfl⟩ : ∃ q, m = q + 1 := ⟨m - 1, by omega⟩
    have h1 := h.seg (seg_self k) 0 _ rfl
    rw [Nat.add_zero] at h1
    rw [leafFrom_step h1 ((h.ok hk).1 x (by simp [Kt.asks]))]
    unfold nextOf
    simp only [kleaf]
    have hg : goes (⟨x.f, x.c, ((i + 1 : Nat) : Int), ((i + 1 + l.size : Nat) : Int), x.less, x.v⟩ : Nd) (cellAt r x.f) = goes x (cellAt r x.f) := rfl
    rw [hg]
    by_cases hq : goes x (cellAt r x.f) = true
    · rw [if_pos hq, if_pos hq, Int.toNat_natCast]
      exact il _ m (h.goL rfl) (by omega)
    · rw [if_neg hq, if_neg hq, Int.toNat_natCast]
      exact ir _ m (h.goR rfl) (by omega)
theorem leafOf_lay {k : Kt} (hk : k.Ok) (r : List Int) : leafOf (layK 0 k) r = kleaf r 0 k := by
  unfold leafOf
  exact leaf_lay hk r k 0 _ (.here _ _) (by rw [layK_len]; exact Nat.le_refl _)
theorem valOf_lay {k : Kt} {fe : Int} (hk : k.Ok) (h : Right (layK 0 k) fe) (r : List Int) : valOf (layK 0 k) r = kval r k := by
  unfold valOf
  rw [h.value r, kTree_lay hk]
  exact (nrm_alike k 0).val r
theorem wrongM_lay {k : Kt} {fe : Int} (hk : k.Ok) (h : Right (layK 0 k) fe) (ss : List Sm) : wrongM (layK 0 k) ss = wrongK k ss := by
  induction ss with
  | nil => rfl
  | cons s r ih => simp only [wrongM, wrongK, ih, valOf_lay hk h]

def rightV (ss : List Sm) (f : Nat) (q : Int) (least : Int) : Int × Int :=
  if least = 0 then (sumM ss * sumM ss, (ss.length : Int))
  else if ((lowS f q ss).length : Int) < least then (0, 0) else if ((highS f q ss).length : Int) < least then (0, 0) else (upC ss f q, dnC ss f q)

/-! ### what was grown -/
structure Grown (ss : List Sm) (n d ls : Nat) (fe depth least : Int) : Prop where
  hfe : fe = n
  hdepth : depth = d
  hleast : least = ls
  samp : sampE ss fe = 0
  right : SRight ss n
  d5 : d ≤ 5
  l1 : 1 ≤ ls
  l60 : ls ≤ 60
  tree : fitT ss fe depth least = layK 0 (growK n ls d ss)
theorem grown_of {ss : List Sm} {fe depth least : Int} (h : fitE ss fe depth least = 0) : ∃ n d ls : Nat, Grown ss n d ls fe depth least := by
  obtain ⟨a1, a2, a3, a4, a5⟩ := fitE_0 h
  obtain ⟨n, hn, hs⟩ := samp_right a1
  refine ⟨n, depth.toNat, least.toNat, hn, by omega, by omega, a1, hs, by omega, by omega, by omega, ?_⟩
  unfold fitT
  rw [if_pos h, hn, Int.toNat_natCast]
theorem Grown.tree_right {ss : List Sm} {n d ls : Nat} {fe depth least : Int} (g : Grown ss n d ls fe depth least) : Right (fitT ss fe depth least) n := by
  rw [g.tree]; exact growK_right g.l1 g.right g.d5
theorem Grown.ok {ss : List Sm} {n d ls : Nat} {fe depth least : Int} (g : Grown ss n d ls fe depth least) : (growK n ls d ss).Ok := (growK_asks g.l1 d ss g.right).1.ok
theorem Grown.deep {ss : List Sm} {n d ls : Nat} {fe depth least : Int} (g : Grown ss n d ls fe depth least) : dep (fitT ss fe depth least) 0 ≤ d := by
  rw [g.tree, lay_dep g.ok _ 0 (.here _ _)]
  exact (growK_asks g.l1 d ss g.right).2
/-- the samples that come to a leaf, as the tree lies -/
def comeTo (t : List Nd) (k : Nat) (ss : List Sm) : List Sm := ss.filter fun s => leafOf t s.r == k
theorem Grown.leaf {ss : List Sm} {n d ls : Nat} {fe depth least : Int} (g : Grown ss n d ls fe depth least) {k : Nat} {y : Nd} (h : (fitT ss fe depth least)[k]? = some y) (hf : y.f = -1) :
    SRight (comeTo (fitT ss fe depth least) k ss) n ∧ y.v = sumM (comeTo (fitT ss fe depth least) k ss) / ((comeTo (fitT ss fe depth least) k ss).length : Int) ∧
      (1 < (fitT ss fe depth least).length → ls ≤ (comeTo (fitT ss fe depth least) k ss).length) := by
  have e : comeTo (fitT ss fe depth least) k ss = atLeaf 0 (0 + k) (growK n ls d ss) ss := by
    unfold comeTo atLeaf
    refine List.filter_congr fun s _ => ?_
    rw [g.tree, leafOf_lay g.ok, Nat.zero_add]
  rw [g.tree] at h
  obtain ⟨h1, h2, h3⟩ := growK_leaves g.l1 d ss 0 k y g.right h hf
  rw [e]
  refine ⟨h1, ?_, ?_⟩
  · rw [h2]; rfl
  · rw [g.tree, layK_len]; exact h3
/-- their mean, rounded down: what the law asks of a leaf -/
theorem mean_in {S : Int} {c : Nat} {v : Int} (hc : 0 < c) (h : v = S / (c : Int)) : v * (c : Int) ≤ S ∧ S < (v + 1) * (c : Int) := by
  have h0 : (0 : Int) < (c : Int) := by omega
  rw [h]
  constructor
  · exact Int.ediv_mul_le S (by omega)
  · exact Int.lt_ediv_add_one_mul_self S h0
theorem comeTo_next {t : List Nd} {ss : List Sm} {k j : Nat} {s : Sm} (h : ss[j]? = some s) : comeTo t k (ss.take (j + 1)) = comeTo t k (ss.take j) ++ if leafOf t s.r = k then [s] else [] := by
  unfold comeTo
  rw [take_next h, List.filter_append]
  by_cases e : leafOf t s.r = k
  · simp [e]
  · simp [e]
/-- deeper is not more wrong -/
theorem Grown.deeper {ss : List Sm} {n d ls : Nat} {fe depth least : Int} (g : Grown ss n d ls fe depth least) (hd : 0 < depth) :
    fitE ss fe (depth - 1) least = 0 ∧ wrongM (fitT ss fe depth least) ss ≤ wrongM (fitT ss fe (depth - 1) least) ss + (ss.length : Int) := by
  have hg := g
  obtain ⟨rfl, rfl, rfl, hz, hs, h5, h1, h60, ht⟩ := g
  obtain ⟨d', rfl⟩ : ∃ q, d = q + 1 := ⟨d - 1, by omega⟩
  have hE : fitE ss (n : Int) (((d' + 1 : Nat) : Int) - 1) (ls : Int) = 0 := by
    unfold fitE
    rw [if_pos hz, if_neg (by omega)]
  have hE' : fitE ss (n : Int) ((d' + 1 : Nat) : Int) (ls : Int) = 0 := by
    unfold fitE
    rw [if_pos hz, if_neg (by omega)]
  refine ⟨hE, ?_⟩
  have ht2 : fitT ss (n : Int) (((d' + 1 : Nat) : Int) - 1) (ls : Int) = layK 0 (growK n ls d' ss) := by
    unfold fitT
    rw [if_pos hE, Int.toNat_natCast, Int.toNat_natCast, show (((d' + 1 : Nat) : Int) - 1).toNat = d' by omega]
  rw [ht, ht2, wrongM_lay hg.ok (growK_right h1 hs h5), wrongM_lay (growK_asks h1 d' ss hs).1.ok (growK_right h1 hs (by omega))]
  exact growK_deeper h1 d' ss hs
/-! ### no question puts more right -/
theorem best_case {ss : List Sm} {n ls : Nat} (hz : sampE ss n = 0) (hs : SRight ss n) (h1 : 1 ≤ ls) (h60 : ls ≤ 60) {f : Nat} (hf : f < n) (c : Int) :
    (splitE ss n ls ≠ 0 → (rightV ss f c ls).2 = 0 ∨ (rightV ss f c ls).1 * (rightV ss 0 (-2000000) 0).2 ≤ (rightV ss 0 (-2000000) 0).1 * (rightV ss f c ls).2) ∧
    (splitE ss n ls = 0 → ∃ g : Nat, splitF ss n ls = g ∧ g < n ∧ 0 < (rightV ss g (splitC ss n ls) ls).2 ∧ (rightV ss f c ls).1 * (rightV ss g (splitC ss n ls) ls).2 ≤ (rightV ss g (splitC ss n ls) ls).1 * (rightV ss f c ls).2) := by
  have hl0 : ¬ (ls : Int) = 0 := by omega
  have hV : ∀ (g : Nat) (q : Int), (OkC ss ls g q → rightV ss g q ls = (upC ss g q, dnC ss g q)) ∧ (¬ OkC ss ls g q → rightV ss g q ls = (0, 0)) := by
    intro g q
    unfold rightV OkC
    rw [if_neg hl0]
    constructor
    · intro ⟨h2, h3⟩
      rw [if_neg (by omega), if_neg (by omega)]
    · intro h
      by_cases h2 : ((lowS g q ss).length : Int) < ls
      · rw [if_pos h2]
      · rw [if_neg h2, if_pos (by omega)]
  have hE : splitE ss n ls = if (bestB ss n ls).f < 0 then 5 else 0 := by
    unfold splitE
    rw [if_pos hz, if_neg (by omega), Int.toNat_natCast, Int.toNat_natCast]
  have hA : rightV ss 0 (-2000000) 0 = (sumM ss * sumM ss, (ss.length : Int)) := by unfold rightV; rw [if_pos rfl]
  by_cases hb : (bestB ss n ls).f < 0
  · rw [if_pos hb] at hE
    refine ⟨fun _ => ?_, fun h => by rw [hE] at h; omega⟩
    by_cases ho : OkC ss ls f c
    · right
      have hm := best_most hs h1 hf ho
      rcases best_is (least := ls) hs h1 with h | ⟨f', c', _, _, h⟩
      · rw [h] at hm
        rw [hA, (hV f c).1 ho]
        exact hm
      · rw [h] at hb
        exact absurd hb (by show ¬ ((f' : Int) < 0); omega)
    · left; rw [(hV f c).2 ho]
  · rw [if_neg hb] at hE
    refine ⟨fun h => absurd hE h, fun _ => ?_⟩
    rcases best_is (least := ls) hs h1 with h | ⟨f', c', hf', ho', h⟩
    · rw [h] at hb
      exact absurd (show (-1 : Int) < 0 by omega) hb
    · have hF : splitF ss n ls = f' := by
        unfold splitF
        rw [if_pos hE, Int.toNat_natCast, Int.toNat_natCast, h]
        rfl
      have hC : splitC ss n ls = c' := by
        unfold splitC
        rw [if_pos hE, Int.toNat_natCast, Int.toNat_natCast, h]
        rfl
      refine ⟨f', hF, hf', ?_⟩
      rw [hC, (hV f' c').1 ho']
      refine ⟨ho'.dn h1, ?_⟩
      by_cases ho : OkC ss ls f c
      · have hm := best_most hs h1 hf ho
        rw [h] at hm
        rw [(hV f c).1 ho]
        exact hm
      · rw [(hV f c).2 ho]
        show (0 : Int) * _ ≤ _ * 0
        omega
end Go.Proofs.Ytdpijhnbhopnbaa
/- GrowLearns: what a question puts right (the law's own helper). Conditions: samples that read as data and are right. -/
namespace Go.Proofs.Ytdpijhnbhopnbaa
set_option linter.unusedVariables false
set_option linter.unusedSimpArgs false
open Go.RowKit

theorem bodyPost_nameR {P : Program} {f : Func} {Q : Ending → World → Prop} {x : Exit} {a : Act} {W : World} (h : ∀ X, X = W → bodyPost P f Q x a X) : bodyPost P f Q x a W := h W rfl

set_option maxRecDepth 100000 in
set_option maxHeartbeats 8000000 in
theorem right_any (A : Option Addr) (m c f n : Nat) (q least : Int) (ss : List Sm) (w : World) (h : MReads w w.heap.size A m ss) (hs : SRight ss n) (hf : f < n) (h0 : 0 ≤ least) (h60 : least ≤ 60) :
    Calls Try.prog 12 #[.slice A m c, .int .i64 f, .int .i64 q, .int .i64 least] w fun e w' => e = .returned (.agg #[.int .i64 (rightV ss f q least).1, .int .i64 (rightV ss f q least).2]) ∧ Below w.heap.size w w' := by
  have hlen := h.len
  have hm60 : m ≤ 60 := by have := hs.most; omega
  have hn8 := hs.fe8
  have HB : Hid (∀ k, k ≤ m → (-60000 ≤ sumM (lowS f q (ss.take k)) ∧ sumM (lowS f q (ss.take k)) ≤ 60000) ∧ (-60000 ≤ sumM (highS f q (ss.take k)) ∧ sumM (highS f q (ss.take k)) ≤ 60000) ∧ (lowS f q (ss.take k)).length + (highS f q (ss.take k)).length = k) := hide fun k hk => by
    have hp := parts_len f q (ss.take k)
    have ht : (ss.take k).length = k := by rw [List.length_take]; omega
    refine ⟨sum_60 (by omega) (fun s hm => hs.tlo s (List.mem_of_mem_take (lowS_mem hm).1)) (fun s hm => hs.thi s (List.mem_of_mem_take (lowS_mem hm).1)), sum_60 (by omega) (fun s hm => hs.tlo s (List.mem_of_mem_take (highS_mem hm).1)) (fun s hm => hs.thi s (List.mem_of_mem_take (highS_mem hm).1)), by omega⟩
  have HSR := hide hs
  have HL := hide hlen
  have HPS := hide (parts_sum f q ss)
  have b0 := Blk.new w 41 #[.int .i64 0, .int .i64 0]
  have hb0 : Below w.heap.size w (w.alloc (.cells #[.int .i64 0, .int .i64 0] 41)) := (Below.refl _ _).alloc (Nat.le_refl _) _
  obtain ⟨W, hW⟩ : ∃ W, W = w.alloc (.cells #[.int .i64 0, .int .i64 0] 41) := ⟨_, rfl⟩
  rw [← hW] at b0 hb0
  have HW := hide hW
  have hM := h.below hb0
  clear hlen hs hW
  go_enter Try.func12, Try.ntmps12
  go_wp2_with fail
  rw [← unhide HW]
  go_loopw [9, 10, 11, 12, 13] (fun s9 s10 s11 s12 i wr => ∃ k p : Nat, k ≤ m ∧ i = .int .i64 k ∧ wr = W.drewN p ∧ s9 = .int .i64 (sumM (lowS f q (ss.take k))) ∧ s10 = .int .i64 (sumM (highS f q (ss.take k))) ∧ s11 = .int .i64 ((lowS f q (ss.take k)).length : Nat) ∧ s12 = .int .i64 ((highS f q (ss.take k)).length : Nat)) (fun _ _ _ _ i _ => m - (intOf i).toNat)
  case atStart => exact ⟨0, 0, Nat.zero_le _, rfl, rfl, rfl, rfl, rfl, rfl⟩
  case round =>
    obtain ⟨k, p, hk, rfl, rfl, rfl, rfl, rfl, rfl⟩ := hrel
    by_cases hlt : k < m
    · obtain ⟨bb, o, s, rfl, _, hx, c0, c1, hok⟩ := hM.get hlt
      have HN1 := hide (lowS_next (f := f) (c := q) hx)
      have HN2 := hide (highS_next (f := f) (c := q) hx)
      obtain ⟨⟨b1, b2⟩, ⟨b3, b4⟩, b5⟩ := unhide HB k hk
      have t1 := (unhide HSR).tlo s (List.mem_of_getElem? hx)
      have t2 := (unhide HSR).thi s (List.mem_of_getElem? hx)
      have hrl := (unhide HSR).len s (List.mem_of_getElem? hx)
      have hrd := hok.reads
      have hl1 : s.n ≤ maxLen := hok.len
      obtain ⟨La, hLa⟩ : ∃ L, L = lowS f q (ss.take k) := ⟨_, rfl⟩
      obtain ⟨Lb, hLb⟩ : ∃ L, L = highS f q (ss.take k) := ⟨_, rfl⟩
      rw [← hLa] at HN1 b1 b2 b5 ⊢
      rw [← hLb] at HN2 b3 b4 b5 ⊢
      obtain ⟨sA, sn, sc, sr, st⟩ := s
      dsimp only at c0 c1 HN1 HN2 t1 t2 hrl hrd hl1
      unfold maxLen at hl1
      obtain rfl : sn = n := by rw [← hrd.len, hrl]
      obtain ⟨rb, ro, x, rfl, hrb, hrx, crx⟩ := hrd.get hf
      have HX : Hid (cellS f ⟨some ⟨rb, ro, none⟩, sn, sc, sr, st⟩ = x) := hide (by unfold cellS; rw [List.getD_eq_getElem?_getD, hrx]; rfl)
      rw [unhide HX] at HN1 HN2
      obtain ⟨sa, hsa⟩ : ∃ x, x = sumM La := ⟨_, rfl⟩
      obtain ⟨sb, hsb⟩ : ∃ x, x = sumM Lb := ⟨_, rfl⟩
      obtain ⟨la, hla⟩ : ∃ x, x = La.length := ⟨_, rfl⟩
      obtain ⟨lb, hlb⟩ : ∃ x, x = Lb.length := ⟨_, rfl⟩
      rw [← hsa] at b1 b2 ⊢
      rw [← hsb] at b3 b4 ⊢
      rw [← hla, ← hlb] at b5 ⊢
      have hla60 : la ≤ 60 := by omega
      have hlb60 : lb ≤ 60 := by omega
      have dn : decide (f < sn) = true := decide_eq_true hf
      have dn' : decide ((f : Int) < (sn : Int)) = true := decide_eq_true (by omega)
      by_cases hlo : x < q
      · have d1 : decide (x < q) = true := decide_eq_true hlo
        have E1 : Hid (sumM (lowS f q (ss.take (k + 1))) = sa + st ∧ (lowS f q (ss.take (k + 1))).length = la + 1) := hide (by rw [unhide HN1, if_pos hlo, sumM_app, List.length_append, hsa, hla]; exact ⟨by simp [sumM], rfl⟩)
        have E2 : Hid (sumM (highS f q (ss.take (k + 1))) = sb ∧ (highS f q (ss.take (k + 1))).length = lb) := hide (by rw [unhide HN2, if_pos hlo, List.append_nil, hsb, hlb]; exact ⟨rfl, rfl⟩)
        clear hx hok hrd hrx hLa hLb HX hsa hsb hla hlb HN1 HN2 hlo b5 hrl
        go_wp2_with fail
        go_roundw
        case rel => exact ⟨k + 1, p, by omega, by go_num, rfl, by rw [(unhide E1).1], by rw [(unhide E2).1], by rw [(unhide E1).2]; go_num, by rw [(unhide E2).2]⟩
        case measure => simp [intOf]; omega
      · have d1 : decide (x < q) = false := decide_eq_false hlo
        have E1 : Hid (sumM (lowS f q (ss.take (k + 1))) = sa ∧ (lowS f q (ss.take (k + 1))).length = la) := hide (by rw [unhide HN1, if_neg hlo, List.append_nil, hsa, hla]; exact ⟨rfl, rfl⟩)
        have E2 : Hid (sumM (highS f q (ss.take (k + 1))) = sb + st ∧ (highS f q (ss.take (k + 1))).length = lb + 1) := hide (by rw [unhide HN2, if_neg hlo, sumM_app, List.length_append, hsb, hlb]; exact ⟨by simp [sumM], rfl⟩)
        clear hx hok hrd hrx hLa hLb HX hsa hsb hla hlb HN1 HN2 hlo b5 hrl
        go_wp2_with fail
        go_roundw
        case rel => exact ⟨k + 1, p, by omega, by go_num, rfl, by rw [(unhide E1).1], by rw [(unhide E2).1], by rw [(unhide E1).2], by rw [(unhide E2).2]; go_num⟩
        case measure => simp [intOf]; omega
    · obtain rfl : k = m := by omega
      have hT : ss.take k = ss := List.take_of_length_le (by rw [unhide HL]; exact Nat.le_refl _)
      have hBk := unhide HB k (Nat.le_refl _)
      rw [hT] at hBk ⊢
      obtain ⟨⟨b1, b2⟩, ⟨b3, b4⟩, b5⟩ := hBk
      have HV0 : Hid (least = 0 → rightV ss f q least = ((sumM (lowS f q ss) + sumM (highS f q ss)) * (sumM (lowS f q ss) + sumM (highS f q ss)), (((lowS f q ss).length : Nat) : Int) + (((highS f q ss).length : Nat) : Int))) := hide (fun e => by
        unfold rightV
        rw [if_pos e, unhide HPS]
        have := parts_len f q ss
        rw [show (ss.length : Int) = ((lowS f q ss).length : Int) + ((highS f q ss).length : Int) by omega])
      have HV1 : Hid (least ≠ 0 → (((lowS f q ss).length : Nat) : Int) < least ∨ (((highS f q ss).length : Nat) : Int) < least → rightV ss f q least = (0, 0)) := hide (fun e h => by
        unfold rightV
        rw [if_neg e]
        by_cases h1 : (((lowS f q ss).length : Nat) : Int) < least
        · rw [if_pos h1]
        · rw [if_neg h1, if_pos (by omega)])
      have HV2 : Hid (least ≠ 0 → ¬ (((lowS f q ss).length : Nat) : Int) < least → ¬ (((highS f q ss).length : Nat) : Int) < least → rightV ss f q least = (sumM (lowS f q ss) * sumM (lowS f q ss) * (((highS f q ss).length : Nat) : Int) + sumM (highS f q ss) * sumM (highS f q ss) * (((lowS f q ss).length : Nat) : Int), (((lowS f q ss).length : Nat) : Int) * (((highS f q ss).length : Nat) : Int))) := hide (fun e h1 h2 => by
        unfold rightV
        rw [if_neg e, if_neg h1, if_neg h2]
        rfl)
      obtain ⟨sa, hsa⟩ : ∃ x, x = sumM (lowS f q ss) := ⟨_, rfl⟩
      obtain ⟨sb, hsb⟩ : ∃ x, x = sumM (highS f q ss) := ⟨_, rfl⟩
      obtain ⟨la, hla⟩ : ∃ x, x = (lowS f q ss).length := ⟨_, rfl⟩
      obtain ⟨lb, hlb⟩ : ∃ x, x = (highS f q ss).length := ⟨_, rfl⟩
      rw [← hsa, ← hsb, ← hla, ← hlb] at HV0 HV2 ⊢
      rw [← hla, ← hlb] at HV1 b5
      rw [← hsa] at b1 b2
      rw [← hsb] at b3 b4
      have g1 := sq_le (a := sa) (m := 60000) (by omega) (by omega)
      have g2 := sq_le (a := sb) (m := 60000) (by omega) (by omega)
      have g0 := sq_le (a := sa + sb) (m := 120000) (by omega) (by omega)
      have g3 : 0 ≤ sa * sa * (lb : Int) := Int.mul_nonneg g1.1 (by omega)
      have g4 : 0 ≤ sb * sb * (la : Int) := Int.mul_nonneg g2.1 (by omega)
      have g5 : sa * sa * (lb : Int) ≤ 60000 * 60000 * 60 := Int.mul_le_mul g1.2 (by omega) (by omega) (by omega)
      have g6 : sb * sb * (la : Int) ≤ 60000 * 60000 * 60 := Int.mul_le_mul g2.2 (by omega) (by omega) (by omega)
      have g7 : (la : Int) * lb ≤ 900 := prod_900 (by omega)
      have g8 : 0 ≤ (la : Int) * lb := Int.mul_nonneg (by omega) (by omega)
      have hg0 := g0.1
      have hg0' := g0.2
      have hg1 := g1.1
      have hg1' := g1.2
      have hg2 := g2.1
      have hg2' := g2.2
      have hla60 : la ≤ 60 := by omega
      have hlb60 : lb ≤ 60 := by omega
      have c0 := b0.cell 0
      have c1 := b0.cell 1
      have f0 := b0.frozen 0
      have f1 := b0.frozen 1
      simp at c0 c1
      have HST : Hid (∀ u v : Value, Blk (((W.drewN p).setCell ⟨w.heap.size, 0, none⟩ u).setCell ⟨w.heap.size, 1, none⟩ v) w.heap.size 41 #[u, v] ∧ Below w.heap.size w (((W.drewN p).setCell ⟨w.heap.size, 0, none⟩ u).setCell ⟨w.heap.size, 1, none⟩ v)) := hide (fun u v => ⟨by
        have := ((b0.drewN p).set_ 0 u).set_ 1 v
        simpa using this, ((below_drewN hb0 p).setCell (p := ⟨w.heap.size, 0, none⟩) (Nat.le_refl _) u).setCell (p := ⟨w.heap.size, 1, none⟩) (Nat.le_refl _) v⟩)
      clear hsa hsb hla hlb g1 g2 g0 HPS HB hM b0 hT HW hb0
      by_cases e0 : least = 0
      · have d0 : (least == 0) = true := by simpa using e0
        have HR := hide (unhide HV0 e0)
        clear HV0 HV1 HV2 e0
        go_wp2_with fail
        refine bodyPost_nameR fun WF hWF => ?_
        obtain ⟨bF, hF⟩ := unhide HST (.int .i64 ((sa + sb) * (sa + sb))) (.int .i64 ((la : Int) + (lb : Int)))
        rw [← hWF] at bF hF
        clear hWF c0 c1 f0 f1
        have k0 := bF.cell 0
        have k1 := bF.cell 1
        simp at k0 k1
        exact bodyPost_ret (v := .agg #[.int .i64 ((sa + sb) * (sa + sb)), .int .i64 ((la : Int) + (lb : Int))]) (by simp [results, Try.results12, go_sem, k0, k1]) rfl ⟨by rw [unhide HR], hF⟩
      · have d0 : (least == 0) = false := by simpa using e0
        by_cases h1 : (la : Int) < least
        · have d1 : decide ((la : Int) < least) = true := decide_eq_true h1
          have HR := hide (unhide HV1 e0 (Or.inl h1))
          clear HV0 HV1 HV2 e0 h1
          go_wp2_with fail
          refine bodyPost_nameR fun WF hWF => ?_
          obtain ⟨bF, hF⟩ := unhide HST (.int .i64 (0)) (.int .i64 (0))
          rw [← hWF] at bF hF
          clear hWF c0 c1 f0 f1
          have k0 := bF.cell 0
          have k1 := bF.cell 1
          simp at k0 k1
          exact bodyPost_ret (v := .agg #[.int .i64 (0), .int .i64 (0)]) (by simp [results, Try.results12, go_sem, k0, k1]) rfl ⟨by rw [unhide HR], hF⟩
        · have d1 : decide ((la : Int) < least) = false := decide_eq_false h1
          by_cases h2 : (lb : Int) < least
          · have d2 : decide ((lb : Int) < least) = true := decide_eq_true h2
            have HR := hide (unhide HV1 e0 (Or.inr h2))
            clear HV0 HV1 HV2 e0 h1 h2
            go_wp2_with fail
            refine bodyPost_nameR fun WF hWF => ?_
            obtain ⟨bF, hF⟩ := unhide HST (.int .i64 (0)) (.int .i64 (0))
            rw [← hWF] at bF hF
            clear hWF c0 c1 f0 f1
            have k0 := bF.cell 0
            have k1 := bF.cell 1
            simp at k0 k1
            exact bodyPost_ret (v := .agg #[.int .i64 (0), .int .i64 (0)]) (by simp [results, Try.results12, go_sem, k0, k1]) rfl ⟨by rw [unhide HR], hF⟩
          · have d2 : decide ((lb : Int) < least) = false := decide_eq_false h2
            have HR := hide (unhide HV2 e0 h1 h2)
            clear HV0 HV1 HV2 e0 h1 h2
            go_wp2_with fail
            refine bodyPost_nameR fun WF hWF => ?_
            obtain ⟨bF, hF⟩ := unhide HST (.int .i64 (sa * sa * (lb : Int) + sb * sb * (la : Int))) (.int .i64 ((la : Int) * (lb : Int)))
            rw [← hWF] at bF hF
            clear hWF c0 c1 f0 f1
            have k0 := bF.cell 0
            have k1 := bF.cell 1
            simp at k0 k1
            exact bodyPost_ret (v := .agg #[.int .i64 (sa * sa * (lb : Int) + sb * sb * (la : Int)), .int .i64 ((la : Int) * (lb : Int))]) (by simp [results, Try.results12, go_sem, k0, k1]) rfl ⟨by rw [unhide HR], hF⟩
end Go.Proofs.Ytdpijhnbhopnbaa
/- GrowLearns: the four samples of the statement's own, and their tree. Conditions: none. -/
namespace Go.Proofs.Ytdpijhnbhopnbaa
set_option linter.unusedVariables false
set_option linter.unusedSimpArgs false
open Go.RowKit

def nineS (A B C D : Option Addr) : List Sm := [⟨A, 1, 1, [1], 0⟩, ⟨B, 1, 1, [2], 0⟩, ⟨C, 1, 1, [3], 9⟩, ⟨D, 1, 1, [4], 9⟩]
theorem nine_cuts (A B C D : Option Addr) : cutsF (nineS A B C D) 0 = [2, 3, 4] := by
  unfold cutsF
  rw [show (nineS A B C D).map (cellS 0) = [1, 2, 3, 4] from rfl, show sortL [1, 2, 3, 4] = [1, 2, 3, 4] from (sortL_of (List.Perm.refl _) (by simp)).symm, show compactL [1, 2, 3, 4] = [1, 2, 3, 4] by decide]
  rfl
theorem nine_best (A B C D : Option Addr) : bestB (nineS A B C D) 1 1 = ⟨0, 3, 648, 4⟩ := by
  show bestF _ 1 (startB _) 0 = _
  unfold bestF
  rw [nine_cuts]
  kernel_rfl
theorem nine_fit (A B C D : Option Addr) : fitE (nineS A B C D) 1 1 1 = 0 ∧ fitT (nineS A B C D) 1 1 1 = [⟨0, 3, 1, 2, false, 0⟩, ⟨-1, 0, 0, 0, false, 0⟩, ⟨-1, 0, 0, 0, false, 9⟩] := by
  have hE : fitE (nineS A B C D) 1 1 1 = 0 := by kernel_rfl
  refine ⟨hE, ?_⟩
  unfold fitT
  rw [if_pos hE]
  show layK 0 (growK 1 1 1 _) = _
  simp only [growK]
  rw [nine_best]
  kernel_rfl
theorem nine_reads (w : World) : ∃ W, W = ((((w.alloc (.cells #[.int .i64 1] 3)).alloc (.cells #[.int .i64 2] 3)).alloc (.cells #[.int .i64 3] 3)).alloc (.cells #[.int .i64 4] 3)).alloc (.cells #[.slice (some ⟨w.heap.size, 0, none⟩) 1 1, .int .i64 0, .slice (some ⟨w.heap.size + 1, 0, none⟩) 1 1, .int .i64 0, .slice (some ⟨w.heap.size + 2, 0, none⟩) 1 1, .int .i64 9, .slice (some ⟨w.heap.size + 3, 0, none⟩) 1 1, .int .i64 9] 25) ∧
    MReads W W.heap.size (some ⟨w.heap.size + 4, 0, none⟩) 4 (nineS (some ⟨w.heap.size, 0, none⟩) (some ⟨w.heap.size + 1, 0, none⟩) (some ⟨w.heap.size + 2, 0, none⟩) (some ⟨w.heap.size + 3, 0, none⟩)) ∧ Below w.heap.size w W := by
  refine ⟨_, rfl, ⟨?_, ?_⟩, (((((Below.refl _ _).alloc (Nat.le_refl _) _).alloc (by simp) _).alloc (by simp; omega) _).alloc (by simp; omega) _).alloc (by simp; omega) _⟩
  · have := Reads.new_ ((((w.alloc (.cells #[.int .i64 1] 3)).alloc (.cells #[.int .i64 2] 3)).alloc (.cells #[.int .i64 3] 3)).alloc (.cells #[.int .i64 4] 3)) 2 4 [.slice (some ⟨w.heap.size, 0, none⟩) 1 1, .int .i64 0, .slice (some ⟨w.heap.size + 1, 0, none⟩) 1 1, .int .i64 0, .slice (some ⟨w.heap.size + 2, 0, none⟩) 1 1, .int .i64 9, .slice (some ⟨w.heap.size + 3, 0, none⟩) 1 1, .int .i64 9] 25 rfl
    simp only [World.size_alloc] at this ⊢
    exact this
  · intro s hs
    have r1 := Reads.new_ w 1 1 [.int .i64 1] 3 rfl
    have r2 := Reads.new_ (w.alloc (.cells #[.int .i64 1] 3)) 1 1 [.int .i64 2] 3 rfl
    have r3 := Reads.new_ ((w.alloc (.cells #[.int .i64 1] 3)).alloc (.cells #[.int .i64 2] 3)) 1 1 [.int .i64 3] 3 rfl
    have r4 := Reads.new_ (((w.alloc (.cells #[.int .i64 1] 3)).alloc (.cells #[.int .i64 2] 3)).alloc (.cells #[.int .i64 3] 3)) 1 1 [.int .i64 4] 3 rfl
    simp only [World.size_alloc] at r2 r3 r4 ⊢
    simp only [nineS, List.mem_cons, List.not_mem_nil, or_false] at hs
    rcases hs with rfl | rfl | rfl | rfl
    · exact ⟨((((r1.alloc (by simp) _).alloc (by simp) _).alloc (by simp) _).alloc (by simp) _).more (by omega), by show (1 : Nat) ≤ maxLen; decide⟩
    · exact ⟨(((r2.alloc (by simp) _).alloc (by simp) _).alloc (by simp) _).more (by omega), by show (1 : Nat) ≤ maxLen; decide⟩
    · exact ⟨((r3.alloc (by simp) _).alloc (by simp) _).more (by omega), by show (1 : Nat) ≤ maxLen; decide⟩
    · exact ⟨(r4.alloc (by simp) _).more (by omega), by show (1 : Nat) ≤ maxLen; decide⟩

end Go.Proofs.Ytdpijhnbhopnbaa
