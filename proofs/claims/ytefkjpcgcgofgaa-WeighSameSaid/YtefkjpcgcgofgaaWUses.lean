/- Package weigh: Uses. Conditions: a grove that reads as data. -/
import Derived.Test.YtefkjpcgcgofgaaWList
import Derived.Test.YtefkjpcgcgofgaaGrove
namespace Go.Proofs.Ytefkjpcgcgofgaa
set_option linter.unusedVariables false
set_option linter.unusedSimpArgs false
open Go.RowKit

def zeroT : List Us := List.replicate 8 ⟨0, 0, 0⟩
def tableOf (L : List (List Nd)) : List Us := L.foldl countT zeroT
def usesL (L : List (List Nd)) : List Us := listT (tableOf L)
theorem tableOf_next {L : List (List Nd)} {k : Nat} {t : List Nd} (h : L[k]? = some t) : tableOf (L.take (k + 1)) = countT (tableOf (L.take k)) t := by
  unfold tableOf
  rw [take_next h, List.foldl_append]
  rfl
theorem tableOf_len (L : List (List Nd)) : (tableOf L).length = 8 := by
  unfold tableOf
  have : ∀ (L : List (List Nd)) (T : List Us), (L.foldl countT T).length = T.length := by
    intro L
    induction L with
    | nil => intro T; rfl
    | cons t r ih => intro T; rw [List.foldl_cons, ih, countT_len]
  rw [this]
  rfl
theorem Small.many {T : List Us} {b : Int} (h : Small T b) (t : List Nd) : Small (countT T t) (b + t.length) := by
  unfold countT
  induction t generalizing T b with
  | nil => intro u hu; have := h u hu; simp; omega
  | cons x r ih =>
    rw [List.foldl_cons]
    have := ih (h.one x)
    intro u hu
    have := this u hu
    simp
    omega
theorem Small.more {T : List Us} {b c : Int} (h : Small T b) (hc : b ≤ c) : Small T c := fun u hu => by have := h u hu; omega
def UsesPost (g : Gv) (w : World) (e : Ending) (w' : World) : Prop := ∃ A c, e = .returned (.tuple #[.slice A (if g.e = 0 then usesL g.trees else []).length c, errV g.e]) ∧ UReads w' w'.heap.size A (if g.e = 0 then usesL g.trees else []).length (if g.e = 0 then usesL g.trees else []) ∧ Below w.heap.size w w'
theorem gboxU (w : World) (f way : Int) (Aw : Option Addr) (nw cw : Nat) (At : Option Addr) (nt ct : Nat) : ∃ W, W = w.alloc (.cells #[.int .i64 f, .int .i64 way, .slice Aw nw cw, .slice At nt ct] 43) ∧
    Blk W w.heap.size 43 #[.int .i64 f, .int .i64 way, .slice Aw nw cw, .slice At nt ct] ∧ W.heap.size = w.heap.size + 1 ∧ Below w.heap.size w W :=
  ⟨_, rfl, Blk.new _ _ _, by simp, (Below.refl _ _).alloc (Nat.le_refl _) _⟩

set_option maxRecDepth 100000 in
set_option maxHeartbeats 4000000 in
theorem uses_any (g : Gv) (w : World) (hg : GReads w w.heap.size g) :
    Calls Try.prog 20 #[g.val] w (UsesPost g w) := by
  have cCk := hide (fun (W : World) (hB : Below w.heap.size w W) => gcheck_any g W ((hg.below hB).more hB.size))
  by_cases h0 : g.e = 0
  · have hG := groveE_right h0
    have HU : Hid (UsesPost g w = fun e w' => ∃ A c, e = .returned (.tuple #[.slice A (usesL g.trees).length c, .nilIface]) ∧ UReads w' w'.heap.size A (usesL g.trees).length (usesL g.trees) ∧ Below w.heap.size w w') := hide (by
      funext e w'
      unfold UsesPost
      rw [if_pos h0, errV_0 h0])
    rw [unhide HU]
    have hnt : g.nt ≤ 12 := by have e1 := hg.ts.len; have e2 := hG.most; omega
    have HRT : Hid (∀ r ∈ g.ts, Right r.l g.f) := hide (fun r hr => right_of (hG.trees r hr))
    have HV := hide (errV_0 h0)
    obtain ⟨TS, hTS⟩ : ∃ T, T = g.trees := ⟨_, rfl⟩
    rw [← hTS]
    obtain ⟨EV, hEV⟩ : ∃ E, E = errV g.e := ⟨_, rfl⟩
    rw [← hEV] at cCk HV
    have htr := hg.ts
    obtain ⟨f, way, Aw, nw, cw, ws, At, nt, ct, ts⟩ := g
    simp only [Gv.val] at cCk ⊢
    dsimp only at hnt HRT htr
    have HTS : Hid (TS = ts.map Tr.l) := hide hTS
    have HLT := hide htr.len
    clear hg h0 hG HU hTS hEV
    obtain ⟨W, hW, bg, hWs, hb0⟩ := gboxU w f way Aw nw cw At nt ct
    go_enter Try.func20, Try.ntmps20
    go_wp2_with fail
    rw [← hW]
    clear hW
    refine (unhide cCk W hb0).mono ?_
    rintro e w1 ⟨rfl, hb1⟩
    rw [unhide HV]
    have b1 := bg.below hb1 (by omega)
    have hB1 := hb0.trans (hb1.mono (by omega))
    have hz1 : w.heap.size + 1 ≤ w1.heap.size := by have := hb1.size; omega
    have c3 := b1.cell 3
    simp at c3
    have d3 := cell_alloc c3 (by show w.heap.size < _; omega)
    clear cCk bg hWs hb0 hb1
    go_wp2_with fail
    refine wp_nameT fun W4 hW4 => ?_
    have bT : Blk W4 w1.heap.size 82 (tabC zeroT) := by rw [hW4]; exact Blk.new _ _ _
    have hB4 : Below w.heap.size w W4 := by rw [hW4]; exact hB1.alloc (by omega) _
    clear hW4 c3 d3 b1
    go_loopw [16] (fun i wr => ∃ k : Nat, k ≤ nt ∧ i = .int .i64 k ∧ Blk wr w1.heap.size 82 (tabC (tableOf (TS.take k))) ∧ Hid (Small (tableOf (TS.take k)) (63 * k)) ∧ Below w.heap.size w wr) (fun i _ => nt - (intOf i).toNat)
    case atStart => exact ⟨0, Nat.zero_le _, rfl, by simpa [tableOf] using bT, hide (by
      intro u hu
      simp [tableOf, zeroT] at hu
      subst hu
      decide), hB4⟩
    case round =>
      clear bT hB4
      obtain ⟨k, hk, rfl, bT, HS, hbel⟩ := hrel
      by_cases hlk : k < nt
      · obtain ⟨b, o, r, rfl, _, hx, hcx, hok⟩ := (htr.below hbel).get hlk
        have hRk := unhide HRT r (List.mem_of_getElem? hx)
        have hTk : TS[k]? = some r.l := by rw [unhide HTS, List.getElem?_map, hx]; rfl
        have HN := hide (tableOf_next hTk)
        have hrr := hok.reads
        obtain ⟨rA, rn, rc, rl⟩ := r
        dsimp only at hcx hRk HN hrr
        have hln := hrr.len
        have hmost := hRk.most
        have HS2 : Hid (Small (tableOf (TS.take (k + 1))) (63 * ((k + 1 : Nat) : Int))) := hide (by rw [unhide HN]; exact ((unhide HS).many rl).more (by omega))
        have hc := hide (count_any w1.heap.size rA rn rc w.heap.size rl (tableOf (TS.take k)) wr (tableOf_len _) ((unhide HS).more (by omega)) bT hrr (by omega) (by omega) (fun i x hi hf => by
          have h1 := hRk.fe8
          rcases node_of (hRk.node i x hi) with h | h
          · exact absurd h.1 hf
          · omega))
        rw [← unhide HN] at hc
        clear hx hTk hRk hrr hok bT hln hmost
        go_wp2_with fail
        refine (unhide hc).mono ?_
        rintro e w5 ⟨rfl, bT5, hg5⟩
        have hB5 := hbel.grown hg5 hbel.size (fun z hz => by injection hz with hz; omega)
        clear hc hg5 hbel
        go_wp2_with fail
        go_roundw
        case rel => exact ⟨k + 1, by omega, by go_num, bT5, HS2, hB5⟩
        case measure => simp [intOf]; omega
      · obtain rfl : k = nt := by omega
        have hl : TS.length = k := by rw [unhide HTS, List.length_map, unhide HLT]
        rw [List.take_of_length_le (by omega)] at bT
        have hc := hide (wlist_any w1.heap.size (tableOf TS) wr (tableOf_len _) bT)
        unfold UListPost at hc
        rw [show listT (tableOf TS) = usesL TS from rfl] at hc
        clear bT HS
        go_wp2_with fail
        refine (unhide hc).mono ?_
        rintro e w5 ⟨A5, c5, rfl, hr5, hb5⟩
        go_wp2_with fail
        go_ret2
        exact ⟨A5, c5, rfl, hr5, hbel.trans (hb5.mono hbel.size)⟩
  · have HU : Hid (UsesPost g w = fun e w' => ∃ A c, e = .returned (.tuple #[.slice A 0 c, errV g.e]) ∧ UReads w' w'.heap.size A 0 [] ∧ Below w.heap.size w w') := hide (by
      funext e w'
      unfold UsesPost
      rw [if_neg h0]
      rfl)
    rw [unhide HU]
    have hne := errV_1 h0
    obtain ⟨EV, hEV⟩ : ∃ E, E = errV g.e := ⟨_, rfl⟩
    rw [← hEV] at cCk hne ⊢
    obtain ⟨f, way, Aw, nw, cw, ws, At, nt, ct, ts⟩ := g
    simp only [Gv.val] at cCk ⊢
    have HNE := hide hne
    clear hg h0 HU hEV hne
    obtain ⟨W, hW, bg, hWs, hb0⟩ := gboxU w f way Aw nw cw At nt ct
    go_enter Try.func20, Try.ntmps20
    go_wp2_with fail
    rw [← hW]
    clear hW
    refine (unhide cCk W hb0).mono ?_
    rintro e w1 ⟨rfl, hb1⟩
    have hB1 := hb0.trans (hb1.mono (by omega))
    clear cCk bg hb0 hb1 hWs
    rw [unhide HNE]
    go_wp2_with fail
    go_ret2
    exact ⟨none, 0, by rw [unhide HNE]; rfl, ⟨rfl, fun h => absurd h (by omega)⟩, hB1⟩
end Go.Proofs.Ytefkjpcgcgofgaa
