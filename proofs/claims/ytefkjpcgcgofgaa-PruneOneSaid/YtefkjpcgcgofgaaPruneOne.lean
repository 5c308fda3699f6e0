/- PruneOne: the walk of the law's function. Conditions: the tree's argument reads as a list of nodes. -/
import Derived.Test.YtefkjpcgcgofgaaKinUp
namespace Go.Proofs.Ytefkjpcgcgofgaa
set_option linter.unusedVariables false
set_option linter.unusedSimpArgs false
open Go.RowKit

theorem take_map_succ {t : List Nd} {k : Nat} {x : Nd} (h : t[k]? = some x) (f : Nd → Nd) : (t.take k).map f ++ [f x] = (t.take (k + 1)).map f := by
  rw [List.take_add_one, h]; simp

theorem belowNo_any (A : Option Addr) (m d B i j : Nat) (t : List Nd) (hb : Behind t) (w : World) (ht : NReads w B A m t) (hm : m ≤ maxLen) (hno : ¬ Chain t i j) :
    Calls Try.prog 9 #[.slice A m d, .int .i64 i, .int .i64 j] w fun e w' => e = .returned (.bool false) ∧ w = w' :=
  (below_any A m d B i j t hb w ht hm).mono fun e w' ⟨⟨b, he, hbb⟩, hw⟩ => ⟨by cases b with
    | false => exact he
    | true => exact absurd (hbb rfl) hno, hw⟩
theorem own_farP {w : World} {base : Nat} {e : TypeId} {size n : Nat} {v : Value} {xs : List Value} (h : w.ownsRow base e size v n xs) {p : Addr} (hp : ∀ k, v.ownBlock = some k → k ≠ p.block) (u : Value) : (w.setCell p u).ownsRow base e size v n xs := by
  refine h.kept (row := some p.block) (only_setCell (World.grownBy.refl w _) (.inl rfl) u) ?_
  rcases hb : v.ownBlock with _ | k
  · exact .inl rfl
  · exact .inr fun e => hp k hb (by injection e)
set_option maxRecDepth 100000 in
set_option maxHeartbeats 4000000 in
theorem pruneOne_walk (A : Option Addr) (m d : Nat) (fe v : Int) (t : List Nd) (w : World) (ht : NReads w w.heap.size A m t) (hm : m ≤ maxLen) :
    Calls Try.prog 3 #[.slice A m d, .int .i64 fe, .int .i64 v] w fun e w' => e = .returned (.bool true) ∧ Below w.heap.size w w' := by
  have hlen := ht.len
  by_cases h0 : treeE t fe = 0
  · have hR := right_of h0
    have hm63 : m ≤ 63 := by have := hR.most; omega
    obtain ⟨n, hn⟩ : ∃ n : Nat, fe = n := ⟨fe.toNat, by have := hR.fe0; omega⟩
    subst hn
    have HP : Hid (prunedR t n = prunedV t n) := hide (by unfold prunedR; rw [if_pos h0]; rfl)
    have hok : (kpr (kTree t) (wideL n)).Ok := kpr_ok (kof_ok _ _ _) _
    have HB : Hid (Behind (prunedV t n)) := hide (layK_behind hok)
    have HL := hide (hR.prunedLen n)
    have HR := hide hR
    have HLen := hide hlen
    clear hR hlen hok
    go_enter Try.func3, Try.ntmps3
    go_wp2_with fail
    refine (pruneTree_any A m d n t w ht hm).mono ?_
    rintro e w1 ⟨vp, rfl, hop, hb1⟩
    rw [h0, errV_0 rfl]
    rw [unhide HP] at hop
    obtain ⟨Ap, cp, rfl, hrp, _⟩ := hop.slice
    have hs1 := hb1.size
    have ht1 := (ht.below hb1).more hs1
    have HH0 := hide h0
    obtain ⟨P, hP⟩ : ∃ P, P = prunedV t n := ⟨_, rfl⟩
    rw [← hP] at hrp HL HB ⊢
    have HPV := hide hP
    have hPl : P.length < 2048 := unhide HL
    obtain ⟨np, hnp⟩ : ∃ np, np = P.length := ⟨_, rfl⟩
    rw [← hnp] at hrp hPl ⊢
    have HNP := hide hnp
    clear h0 hop hP HL hnp HP
    go_wp2_with fail
    go_loopw [11, 12] (fun s i wr => ∃ k : Nat, k ≤ m ∧ i = .int .i64 k ∧ Hid (NOwn wr w1.heap.size s ((t.take k).map (sayV v))) ∧ Below w1.heap.size w1 wr) (fun _ i _ => m - (intOf i).toNat)
    case atStart => exact ⟨0, Nat.zero_le _, rfl, hide (NOwn.nil_ _ _), Below.refl _ _⟩
    case round =>
      obtain ⟨k, hk, rfl, HO, hbel⟩ := hrel
      have hsr := hbel.size
      by_cases hlt : k < m
      · obtain ⟨b, o, x, hA, hbb, hx, g0, g1, g2, g3, g4, g5⟩ := (ht1.below hbel).get hlt
        subst hA
        have hown := unhide HO
        have hlk : ((t.take k).map (sayV v)).length = k := by simp; have := unhide HLen; omega
        unfold NOwn at hown
        rw [hlk] at hown
        have HLK := hide hlk
        have HT := hide (take_map_succ hx (sayV v))
        have HX := hide hx
        obtain ⟨xf, xc, xlf, xr, xs, xv⟩ := x
        simp only at g0 g1 g2 g3 g4 g5
        have bx := Blk.new wr 30 #[.int .i64 xf, .int .i64 xc, .int .i64 xlf, .int .i64 xr, .bool xs, .int .i64 xv]
        clear hx hlk
        have hsa : ∀ o, (wr.alloc o).heap.size = wr.heap.size + 1 := fun o => World.size_alloc _ _
        by_cases hf : xf = -1
        · have hf1 := hf
          subst hf1
          have HZ := hide (rfl : (sayV v ⟨-1, xc, xlf, xr, xs, xv⟩).cells = [.int .i64 (-1), .int .i64 xc, .int .i64 xlf, .int .i64 xr, .bool xs, .int .i64 v])
          have hownZ := hown.alloc (.cells #[.int .i64 (-1), .int .i64 xc, .int .i64 xlf, .int .i64 xr, .bool xs, .int .i64 v] 30)
          go_wp2_with (at_builtin; refine app_one elem_nodeP (.tmp 49) (.tmp 51) [.int .i64 (-1), .int .i64 xc, .int .i64 xlf, .int .i64 xr, .bool xs, .int .i64 v] rfl rfl rfl hownZ rfl (by simp) rfl (node_one ⟨-1, xc, xlf, xr, xs, v⟩) (by omega) (by simp; omega) ?_; intro v1 w2 hown2 hb2 _ _)
          go_roundw
          case rel => exact ⟨k + 1, by omega, by go_num, hide (by unfold NOwn; rw [← unhide HT, List.flatMap_append, List.length_append, unhide HLK, List.flatMap_singleton, unhide HZ]; exact hown2), hbel.trans ((((Below.refl _ _).alloc hsr _)).trans hb2)⟩
          case measure => simp [intOf]; omega
        · have hfb : (xf == -1) = false := by simpa using hf
          have HZ := hide (show (sayV v ⟨xf, xc, xlf, xr, xs, xv⟩).cells = [.int .i64 xf, .int .i64 xc, .int .i64 xlf, .int .i64 xr, .bool xs, .int .i64 xv] by unfold sayV; rw [if_neg hf]; rfl)
          have hownZ := hown.alloc (.cells #[.int .i64 xf, .int .i64 xc, .int .i64 xlf, .int .i64 xr, .bool xs, .int .i64 xv] 30)
          clear hf
          go_wp2_with (at_builtin; refine app_one elem_nodeP (.tmp 49) (.tmp 51) [.int .i64 xf, .int .i64 xc, .int .i64 xlf, .int .i64 xr, .bool xs, .int .i64 xv] rfl rfl rfl hownZ rfl (by simp) rfl (node_one ⟨xf, xc, xlf, xr, xs, xv⟩) (by omega) (by simp; omega) ?_; intro v1 w2 hown2 hb2 _ _)
          go_roundw
          case rel => exact ⟨k + 1, by omega, by go_num, hide (by unfold NOwn; rw [← unhide HT, List.flatMap_append, List.length_append, unhide HLK, List.flatMap_singleton, unhide HZ]; exact hown2), hbel.trans ((((Below.refl _ _).alloc hsr _)).trans hb2)⟩
          case measure => simp [intOf]; omega
      · obtain rfl : k = m := by omega
        have hS : (t.take k).map (sayV v) = t.map (sayV v) := by rw [List.take_of_length_le (by have := unhide HLen; omega)]
        have hown := unhide HO
        rw [hS] at hown
        have hSl : (t.map (sayV v)).length = k := by rw [List.length_map]; exact unhide HLen
        obtain ⟨As, cs, hu, hrs, _⟩ := hown.slice
        rw [hSl] at hu hrs
        obtain ⟨S, hSd⟩ : ∃ S, S = t.map (sayV v) := ⟨_, rfl⟩
        rw [← hSd] at hrs
        have HS := hide hSd
        have HPr : Hid (-1000000 ≤ v → v ≤ 1000000 → ∃ x, prunedR S n = [x] ∧ x.v = v ∧ treeE S n = 0) := hide (fun h1 h2 => by
          obtain ⟨x, e1, e2⟩ := (unhide HR).sayOne h1 h2
          rw [← unhide HS] at e1
          exact ⟨x, e1, e2, by rw [unhide HS]; exact treeE_right ((unhide HR).say h1 h2)⟩)
        have hrpW := (hrp.below hbel).more hsr
        have hbW := hb1.trans (hbel.mono hs1)
        subst hu
        clear hSd hS hown HO hSl ht1 hrp ht hb1 hbel
        have hsW := hbW.size
        go_wp2_with fail
        refine (pruneTree_any As k cs n S wr hrs hm).mono ?_
        rintro e w3 ⟨vq, rfl, hoq, hb3⟩
        obtain ⟨Aq, cq, rfl, hrq, _⟩ := hoq.slice
        have hs3 := hb3.size
        have hbW3 := hbW.trans (hb3.mono hsW)
        have hrp3 := (hrpW.below hb3).more hs3
        clear hoq hbW hb3 hrpW hrs
        obtain ⟨Q, hQ⟩ : ∃ Q, Q = prunedR S n := ⟨_, rfl⟩
        rw [← hQ] at hrq ⊢
        have HQ := hide hQ
        clear hQ
        have HNOT : Hid (∀ i j x y, P[i]? = some x → P[j]? = some y → x.f ≠ -1 → y.f = x.f → y.c = x.c → y.less = x.less → i < j → ¬ Chain P i j) := hide (fun i j x y hx hy hf h1 h2 h3 hij hch => by
          rw [unhide HPV] at hx hy hch
          exact (unhide HR).prunedOnce hx hy hf (by rw [h1]; exact hf) hij hch ⟨h1.symm, h2.symm, h3.symm⟩)
        have HBW := hide hbW3
        clear hbW3
        have h3w : v < -1000000 ∨ (-1000000 ≤ v ∧ 1000000 < v) ∨ (-1000000 ≤ v ∧ v ≤ 1000000) := by omega
        rcases h3w with hv1 | ⟨hv1, hv2⟩ | ⟨hv1, hv2⟩
        case' inr.inr =>
          obtain ⟨x, e1, e2, e3⟩ := unhide HPr hv1 hv2
          rw [← unhide HQ] at e1
          subst e1
          obtain ⟨b, o, x', hA, _, hx', _, _, _, _, _, q5⟩ := hrq.get (k := 0) (by simp)
          simp at hx'
          subst hx'
          subst hA
          rw [e2] at q5
          rw [e3, errV_0 rfl]
          have q5' : w3.cell? ⟨b, o + 5, none⟩ = some (.int .i64 v) := by simpa using q5
          have hle : ([x] : List Nd).length = 1 := rfl
          rw [hle] at hrq ⊢
          clear e2 e3 q5 hle
        all_goals
          clear hrq
          go_wp2_with fail
          go_loopw [16] (fun i wr => ∃ i' q : Nat, i' ≤ np ∧ i = .int .i64 i' ∧ wr = w3.drewN q) (fun i _ => np - (intOf i).toNat)
          case atStart => exact ⟨0, 0, Nat.zero_le _, rfl, rfl⟩
          case round =>
            obtain ⟨i, q, hi, rfl, rfl⟩ := hrel
            by_cases hil : i < np
            · obtain ⟨b1, o1, x, rfl, hbb1, hx, x0, x1, x2, x3, x4, x5⟩ := hrp3.get hil
              have HX := hide hx
              clear hx
              by_cases hf : x.f = -1
              · have hfb : (x.f == -1) = true := by simpa using hf
                clear hf
                go_wp2_with fail
                go_roundw
                case rel => exact ⟨i + 1, q, by omega, by go_num, rfl⟩
                case measure => simp [intOf]; omega
              · have hfb : (x.f == -1) = false := by simpa using hf
                have HF := hide hf
                clear hf
                go_wp2_with fail
                go_loopw [17] (fun j wr => ∃ j' q' : Nat, j' ≤ np ∧ i < j' ∧ j = .int .i64 j' ∧ wr = w3.drewN q') (fun j _ => np - (intOf j).toNat)
                case atStart => exact ⟨i + 1, q, by omega, by omega, by go_num, rfl⟩
                case round =>
                  obtain ⟨j, q', hj, hij, rfl, rfl⟩ := hrel
                  by_cases hjl : j < np
                  · obtain ⟨b2, o2, y, e2, hbb2, hy, y0, y1, y2, y3, y4, y5⟩ := hrp3.get hjl
                    cases e2
                    have HY := hide hy
                    clear hy
                    by_cases h1 : y.f = x.f
                    · have f1 : (y.f == x.f) = true := by simpa using h1
                      by_cases h2 : y.c = x.c
                      · have f2 : (y.c == x.c) = true := by simpa using h2
                        by_cases h3 : y.less = x.less
                        · have f3 : (y.less == x.less) = true := by simpa using h3
                          have HC := hide (fun (q : Nat) => belowNo_any (some ⟨b1, o1, none⟩) np cp w3.heap.size i j P (unhide HB) (w3.drewN q) (Reads.drewN hrp3 q) (by unfold maxLen; omega) (unhide HNOT i j x y (unhide HX) (unhide HY) (unhide HF) h1 h2 h3 hij))
                          clear h1 h2 h3
                          go_wp2_with fail
                          go_quiet ((go_at_call 9; exact quiet_add_left (unhide HC _)))
                          go_wp2_with fail
                          go_roundw
                          case rel => exact ⟨j + 1, q' + nq, by omega, by omega, by go_num, by first | rfl | rw [World.drewN_drewN]⟩
                          case measure => simp [intOf]; omega
                        · have f3 : (y.less == x.less) = false := by simpa using h3
                          clear h1 h2 h3
                          go_wp2_with fail
                          go_quiet (fail)
                          go_wp2_with fail
                          go_roundw
                          case rel => exact ⟨j + 1, q' + nq, by omega, by omega, by go_num, by first | rfl | rw [World.drewN_drewN]⟩
                          case measure => simp [intOf]; omega
                      · have f2 : (y.c == x.c) = false := by simpa using h2
                        clear h1 h2
                        go_wp2_with fail
                        go_quiet (fail)
                        go_wp2_with fail
                        go_roundw
                        case rel => exact ⟨j + 1, q' + nq, by omega, by omega, by go_num, by first | rfl | rw [World.drewN_drewN]⟩
                        case measure => simp [intOf]; omega
                    · have f1 : (y.f == x.f) = false := by simpa using h1
                      clear h1
                      go_wp2_with fail
                      go_quiet (fail)
                      go_wp2_with fail
                      go_roundw
                      case rel => exact ⟨j + 1, q' + nq, by omega, by omega, by go_num, by first | rfl | rw [World.drewN_drewN]⟩
                      case measure => simp [intOf]; omega
                  · go_wp2_with fail
                    go_roundw
                    case rel => exact ⟨i + 1, q', by omega, by go_num, rfl⟩
                    case measure => simp [intOf]; omega
            · go_wp2_with fail
              go_ret
              exact ⟨rfl, below_drewN (unhide HBW) _⟩
  · have HV : Hid (treeE t fe ≠ 0) := hide h0
    go_enter Try.func3, Try.ntmps3
    go_wp2_with fail
    refine (pruneTree_any A m d fe t w ht hm).mono ?_
    rintro e w1 ⟨vp, rfl, hop, hb1⟩
    obtain ⟨Ap, cp, rfl, hrp, _⟩ := hop.slice
    rw [errV_1 h0]
    have hs1 := hb1.size
    clear h0 hlen hop hrp
    go_wp2_with fail
    refine (check_any A m d fe t w1 ((ht.below hb1).more hs1) hm).mono ?_
    rintro e w2 ⟨rfl, hb2⟩
    rw [errV_1 (unhide HV)]
    go_wp2_with fail
    go_ret
    exact ⟨rfl, hb1.trans (hb2.mono hs1)⟩
end Go.Proofs.Ytefkjpcgcgofgaa
