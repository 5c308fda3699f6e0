/- Package weigh: the table of uses, count. Conditions: as each lemma names. -/
import Derived.Test.YtopncifebldklaaWSort
import Derived.Test.YtopncifebldklaaTreeOps
namespace Go.Proofs.Ytopncifebldklaa
set_option linter.unusedVariables false
set_option linter.unusedSimpArgs false
open Go.RowKit

def tabC (T : List Us) : Array Value := (T.flatMap Us.cells).toArray
def stepT (T : List Us) (f : Nat) : List Us := match T[f]? with
  | some u => T.set f ⟨f, u.n + 1, u.g⟩
  | none => T
def oneT (T : List Us) (x : Nd) : List Us := if x.f = -1 then T else stepT T x.f.toNat
def countT (T : List Us) (t : List Nd) : List Us := t.foldl oneT T
theorem stepT_len (T : List Us) (f : Nat) : (stepT T f).length = T.length := by unfold stepT; split <;> simp
theorem oneT_len (T : List Us) (x : Nd) : (oneT T x).length = T.length := by unfold oneT; split; rfl; exact stepT_len _ _
theorem countT_next (T : List Us) {t : List Nd} {k : Nat} {x : Nd} (h : t[k]? = some x) : countT T (t.take (k + 1)) = oneT (countT T (t.take k)) x := by
  unfold countT
  rw [take_next h, List.foldl_append]
  rfl
theorem countT_len (T : List Us) (t : List Nd) : (countT T t).length = T.length := by
  unfold countT
  induction t generalizing T with
  | nil => rfl
  | cons x r ih => rw [List.foldl_cons, ih, oneT_len]
def Small (T : List Us) (b : Int) : Prop := ∀ u ∈ T, 0 ≤ u.n ∧ u.n ≤ b
theorem Small.step {T : List Us} {b : Int} (h : Small T b) (f : Nat) : Small (stepT T f) (b + 1) := by
  intro u hu
  unfold stepT at hu
  split at hu
  · rename_i v hv
    rcases List.mem_or_eq_of_mem_set hu with hu | rfl
    · have := h u hu; omega
    · have := h v (List.mem_of_getElem? hv)
      dsimp only
      omega
  · have := h u hu; omega
theorem Small.one {T : List Us} {b : Int} (h : Small T b) (x : Nd) : Small (oneT T x) (b + 1) := by
  unfold oneT
  split
  · intro u hu; have := h u hu; omega
  · exact h.step _
theorem flat_set {T : List Us} {f r : Nat} {u v : Us} {z : Value} (hu : T[f]? = some u) (hr : r < 3) (he : u.cells.set r z = v.cells) : (tabC T).setIfInBounds (f * 3 + r) z = tabC (T.set f v) := by
  have hf : f < T.length := (List.getElem?_eq_some_iff.1 hu).1
  have e1 : T = T.take f ++ u :: T.drop (f + 1) := by
    have := List.getElem?_eq_some_iff.1 hu
    rw [← this.2, List.getElem_cons_drop, List.take_append_drop]
  have e2 : T.set f v = T.take f ++ v :: T.drop (f + 1) := by rw [List.set_eq_take_append_cons_drop, if_pos hf]
  have e3 : (T.take f).length = f := by rw [List.length_take]; omega
  have hl := flatMap_len Us.cells 3 (fun _ => rfl) (T.take f)
  unfold tabC
  rw [List.setIfInBounds_toArray]
  congr 1
  rw [e2]
  have key : ((T.take f ++ u :: T.drop (f + 1)).flatMap Us.cells).set (f * 3 + r) z = (T.take f ++ v :: T.drop (f + 1)).flatMap Us.cells := by
    rw [List.flatMap_append, List.flatMap_append, List.set_append_right _ _ (by omega)]
    congr 1
    rw [List.flatMap_cons, List.flatMap_cons, hl, e3, show f * 3 + r - f * 3 = r by omega, List.set_append_left _ _ (by show r < 3; exact hr), he]
  rw [← key, ← e1]
theorem tab_at {T : List Us} {f r : Nat} {u : Us} (hu : T[f]? = some u) (hr : r < 3) : (tabC T)[f * 3 + r]? = u.cells[r]? := by
  unfold tabC
  rw [List.getElem?_toArray]
  exact flatMap_at Us.cells 3 (fun _ => rfl) T f r u hu hr
theorem wp_nameT {P : Program} {c : Code} {Q : Exit → Act → World → Prop} {a : Act} {W : World} (h : ∀ X, X = W → Code.wp P c Q a X) : Code.wp P c Q a W := h W rfl
theorem post_nameT {Q : Exit → Act → World → Prop} {x : Exit} {a : Act} {W : World} (h : ∀ X, X = W → Q x a X) : Q x a W := h W rfl

set_option maxRecDepth 100000 in
set_option maxHeartbeats 4000000 in
theorem count_any (g : Nat) (A : Option Addr) (m d B : Nat) (t : List Nd) (T : List Us) (w : World) (hT : T.length = 8) (hS : Small T 100000) (hb : Blk w g 53 (tabC T)) (ht : NReads w B A m t) (hB : B ≤ g) (hm : m ≤ 100000)
    (hf : ∀ (i : Nat) x, t[i]? = some x → x.f ≠ -1 → 0 ≤ x.f ∧ x.f < 8) :
    Calls Try.prog 14 #[.pointer (some ⟨g, 0, none⟩), .slice A m d] w fun e w' => e = .returned (.tuple #[]) ∧ Blk w' g 53 (tabC (countT T t)) ∧ w.grownBy w' (some g) := by
  have hlen := ht.len
  have hgl := hb.lt
  go_enter Try.func14, Try.ntmps14
  go_wp2_with fail
  go_loopw [8] (fun i wr => ∃ k : Nat, k ≤ m ∧ i = .int .i64 k ∧ Blk wr g 53 (tabC (countT T (t.take k))) ∧ Hid (Small (countT T (t.take k)) (100000 + k)) ∧ w.grownBy wr (some g)) (fun i _ => m - (intOf i).toNat)
  case atStart => exact ⟨0, Nat.zero_le _, rfl, by simpa [countT] using hb, hide (by simpa [countT] using hS), World.grownBy.refl _ _⟩
  case round =>
    clear hb
    obtain ⟨k, hk, rfl, bT, HS, hgr⟩ := hrel
    have hsz := hgr.size
    by_cases hlt : k < m
    · have hne : ∀ a, A = some a → (some g : Option Nat) ≠ some a.block := fun a e h => by
        obtain ⟨ad, e', hbd, _⟩ := ht.2 (by omega)
        rw [e] at e'; injection e' with e'; subst e'
        injection h with h
        omega
      have htr : NReads wr B A m t := ⟨ht.1, fun hn => by
        obtain ⟨ad, e, hbd, hc⟩ := ht.2 hn
        refine ⟨ad, e, hbd, fun j u hu => ?_⟩
        rw [← hc j u hu]
        exact World.cell?_of_block (by rw [block_of_add]; exact hgr.block ad.block (by omega) (fun h' => hne ad e h'.symm))⟩
      obtain ⟨b, o, x, rfl, hbb, hx, c0, c1, c2, c3, c4, c5⟩ := htr.get hlt
      have HN := hide (countT_next T hx)
      by_cases hxf : x.f = -1
      · have HN2 : Hid (countT T (t.take (k + 1)) = countT T (t.take k)) := hide (by rw [unhide HN]; unfold oneT; rw [if_pos hxf])
        obtain ⟨xf, xc, xl, xr, xs, xv⟩ := x
        dsimp only at hxf c0 c1 c2 c3 c4 c5
        subst hxf
        have hgA := only_alloc hgr (.cells #[.int .i64 (-1), .int .i64 xc, .int .i64 xl, .int .i64 xr, .bool xs, .int .i64 xv] 29)
        have bA := bT.alloc (.cells #[.int .i64 (-1), .int .i64 xc, .int .i64 xl, .int .i64 xr, .bool xs, .int .i64 xv] 29)
        clear hx bT hgr htr hne
        go_wp2_with fail
        go_roundw
        case rel => exact ⟨k + 1, by omega, by go_num, by rw [unhide HN2]; exact bA, hide (by rw [unhide HN2]; intro u hu; have := unhide HS u hu; omega), hgA⟩
        case measure => simp [intOf]; omega
      · obtain ⟨f, hfe⟩ : ∃ f : Nat, x.f = f := ⟨x.f.toNat, by have := hf k x hx hxf; omega⟩
        have hf8 : f < 8 := by have := hf k x hx hxf; omega
        have hTl := countT_len T (t.take k)
        obtain ⟨u, hu⟩ : ∃ u, (countT T (t.take k))[f]? = some u := ⟨_, List.getElem?_eq_getElem (by omega)⟩
        have HN2 : Hid (countT T (t.take (k + 1)) = (countT T (t.take k)).set f ⟨f, u.n + 1, u.g⟩) := hide (by rw [unhide HN]; unfold oneT stepT; rw [if_neg hxf, hfe, Int.toNat_natCast, hu])
        have HS2 : Hid (Small (countT T (t.take (k + 1))) (100000 + ((k + 1 : Nat) : Int))) := hide (by rw [unhide HN]; have := (unhide HS).one x; rw [show (100000 : Int) + ((k + 1 : Nat) : Int) = 100000 + (k : Int) + 1 by omega]; exact this)
        have hub := unhide HS u (List.mem_of_getElem? hu)
        have hnf : (x.f != -1) = true := by simpa using hxf
        obtain ⟨xf, xc, xl, xr, xs, xv⟩ := x
        dsimp only at hxf hfe hnf c0 c1 c2 c3 c4 c5
        subst hfe
        obtain ⟨TT, hTT⟩ : ∃ TT, TT = countT T (t.take k) := ⟨_, rfl⟩
        rw [← hTT] at bT hu HN2
        obtain ⟨u0, u1, u2⟩ := u
        dsimp only at hub HN2
        clear hx htr hne hxf hTT HN hTl
        go_upto_region 4 with (fail)
        refine wp_nameT fun W1 hW1 => ?_
        have bN1 : Blk W1 wr.heap.size 29 #[.int .i64 f, .int .i64 xc, .int .i64 xl, .int .i64 xr, .bool xs, .int .i64 xv] := by rw [hW1]; exact Blk.new _ _ _
        have bT1 := bT.alloc (.cells #[.int .i64 f, .int .i64 xc, .int .i64 xl, .int .i64 xr, .bool xs, .int .i64 xv] 29)
        have hg1 := only_alloc hgr (.cells #[.int .i64 f, .int .i64 xc, .int .i64 xl, .int .i64 xr, .bool xs, .int .i64 xv] 29)
        rw [← hW1] at bT1 hg1
        have hgn : g ≠ wr.heap.size := by have := bT.lt; omega
        clear hW1 bT hgr c0 c1 c2 c3 c4 c5
        have a0 := bN1.cell 0
        simp at a0
        have t0 : W1.cell? ⟨g, f * 3, none⟩ = some (.int .i64 u0) := by rw [bT1.cell, show f * 3 = f * 3 + 0 by omega, tab_at hu (by omega)]; rfl
        have f0 := bT1.frozen (f * 3)
        have bT2 := (bT1.set_ (f * 3 + 0) (.int .i64 f)).drew
        rw [flat_set hu (v := ⟨f, u1, u2⟩) (by omega) rfl, Nat.add_zero] at bT2
        have bN2 := (bN1.far (p := ⟨g, f * 3, none⟩) (Ne.symm hgn) (.int .i64 f)).drew
        have hg2 := only_drew (only_setCell hg1 (p := ⟨g, f * 3, none⟩) (.inl rfl) (.int .i64 f))
        have hu2 : (TT.set f ⟨f, u1, u2⟩)[f]? = some ⟨f, u1, u2⟩ := List.getElem?_set_self (List.getElem?_eq_some_iff.1 hu).1
        have HT2 := hide bT2
        have HN3 := hide bN2
        have HG2 := hide hg2
        clear bT2 bN2 hg2 bT1 bN1 hg1
        go_region
        refine post_nameT fun W2 hW2 => ?_
        rw [← hW2] at HT2 HN3 HG2
        clear hW2 t0 f0 a0
        obtain ⟨T2, hT2⟩ : ∃ T2, T2 = TT.set f ⟨f, u1, u2⟩ := ⟨_, rfl⟩
        rw [← hT2] at HT2 hu2
        have HT2e := hide hT2
        clear hT2
        have a0 := (unhide HN3).cell 0
        simp at a0
        have t1 : W2.cell? ⟨g, f * 3 + 1, none⟩ = some (.int .i64 u1) := by rw [(unhide HT2).cell, tab_at hu2 (by omega)]; rfl
        have f1 := (unhide HT2).frozen (f * 3 + 1)
        have bT3 := ((unhide HT2).set_ (f * 3 + 1) (.int .i64 (u1 + 1))).drew
        rw [flat_set hu2 (v := ⟨f, u1 + 1, u2⟩) (by omega) rfl] at bT3
        have hg3 := only_drew (only_setCell (unhide HG2) (p := ⟨g, f * 3 + 1, none⟩) (.inl rfl) (.int .i64 (u1 + 1)))
        have HT3 := hide bT3
        have HG3 := hide hg3
        have HFIN : Hid (T2.set f ⟨f, u1 + 1, u2⟩ = countT T (t.take (k + 1))) := hide (by rw [unhide HN2, unhide HT2e, List.set_set])
        clear bT3 hg3 HT2 HG2 HN3 hu hu2
        go_wp2_with fail
        go_region
        refine post_nameT fun W3 hW3 => ?_
        rw [← hW3] at HT3 HG3
        clear hW3 t1 f1 a0
        go_wp2_with fail
        go_roundw
        case rel => exact ⟨k + 1, by omega, by go_num, by rw [← unhide HFIN]; exact unhide HT3, HS2, unhide HG3⟩
        case measure => simp [intOf]; omega
    · obtain rfl : k = m := by omega
      rw [List.take_of_length_le (by omega)] at bT
      go_wp2_with fail
      go_end0
      exact ⟨rfl, bT, hgr⟩
end Go.Proofs.Ytopncifebldklaa
