/- The reference's log: how it lies; step, Sync. Conditions: as each lemma names. -/
import Derived.Test.YtijgiieoinmjhaaDoorRRec
import Derived.Test.YtijgiieoinmjhaaDoorLog3
import Derived.Test.YtijgiieoinmjhaaDoorLogStops
namespace Go.Proofs.YtijgiieoinmjhaaDoor
set_option linter.unusedVariables false
set_option linter.unusedSimpArgs false
open Go.RowKit

/-- only block m, and rows of calls of the law's own, are others, and what is new -/
structure ChgR (m B0 : Nat) (w w' : World) : Prop where
  os : w'.os = w.os
  tape : w'.tape = w.tape
  output : w'.output = w.output
  size : w.heap.size ≤ w'.heap.size
  block : ∀ b, b < w.heap.size → b ≠ m → (b < B0 ∨ ∀ cs fr, w.heap[b]? ≠ some (.cells cs 53 fr)) → w'.heap[b]? = w.heap[b]?
theorem ChgR.refl (m B0 : Nat) (w : World) : ChgR m B0 w w := ⟨rfl, rfl, rfl, Nat.le_refl _, fun _ _ _ _ => rfl⟩
theorem ChgR.trans {m B0 : Nat} {a b c : World} (h : ChgR m B0 a b) (k : ChgR m B0 b c) : ChgR m B0 a c :=
  ⟨k.os.trans h.os, k.tape.trans h.tape, k.output.trans h.output, Nat.le_trans h.size k.size, fun i hi hn hc => by
    have h1 := h.block i hi hn hc
    refine (k.block i (Nat.lt_of_lt_of_le hi h.size) hn ?_).trans h1
    rcases hc with hc | hc
    · exact .inl hc
    · exact .inr fun cs fr => by rw [h1]; exact hc cs fr⟩
theorem ChgR.of_chg {m B0 : Nat} {w w' : World} (h : Chg m w w') : ChgR m B0 w w' := ⟨h.os, h.tape, h.output, h.size, fun b hb hn _ => h.block b hb hn⟩
theorem ChgR.of_below {m B0 : Nat} {w w' : World} (h : Below w.heap.size w w') : ChgR m B0 w w' := ChgR.of_chg (Chg.of_below h)
theorem ChgR.set_ {m B0 : Nat} {w w' : World} (h : ChgR m B0 w w') (i : Nat) (v : Value) : ChgR m B0 w (w'.setCell ⟨m, i, none⟩ v) := h.trans (ChgR.of_chg ((Chg.refl m w').set_ i v))
theorem ChgR.drew {m B0 : Nat} {w w' : World} (h : ChgR m B0 w w') : ChgR m B0 w w'.drew := h.trans (ChgR.of_chg (Chg.refl m w').drew)
theorem ChgR.below {m B0 B : Nat} {w w' : World} (h : ChgR m B0 w w') (hB : B ≤ B0) (hm : B ≤ m) (hw : B ≤ w.heap.size) : Below B w w' := ⟨h.os, h.tape, h.output, h.size, fun b hb => h.block b (by omega) (by omega) (.inl (by omega))⟩
theorem not_call {w : World} {g : Nat} {t : TypeId} {cs : Array Value} (h : Blk w g t cs) (ht : t ≠ 53) : ∀ cs' fr, w.heap[g]? ≠ some (.cells cs' 53 fr) := fun cs' fr e => by
  unfold Blk at h
  rw [h] at e
  injection e with e
  injection e with _ e
  exact ht e
theorem typ_not_call {w : World} {A : Option Addr} (h : BTyp w A) : ∀ a, A = some a → ∀ cs' fr, w.heap[a.block]? ≠ some (.cells cs' 53 fr) := fun a e cs' fr hh => by
  obtain ⟨cs, fr2, hc⟩ := h a e
  rw [hc] at hh
  injection hh with hh
  injection hh with _ hh
  exact absurd hh (by decide)
theorem Blk.chgR {m B0 g : Nat} {t : TypeId} {cs : Array Value} {w w' : World} (h : Blk w g t cs) (hc : ChgR m B0 w w') (hne : g ≠ m) (ht : t ≠ 53) : Blk w' g t cs := (hc.block g h.lt hne (.inr (not_call h ht))).trans h
/-- the log of the program is as it was -/
theorem LgS.chgR {w w' : World} {g m B0 q : Nat} {S : LS} {t : TypeId} {cs : Array Value} (h : LgS w g S q) (hm : Blk w m 66 cs) (hc : ChgR m B0 w w') : LgS w' g S q := by
  obtain ⟨h1, h2, A, n, c, hi⟩ := h
  have hgm : g ≠ m := Blk.ne_ hi.blk hm (by decide)
  have hAm := hi.typ.ne hm (by decide)
  have hk : ∀ a, A = some a → w'.heap[a.block]? = w.heap[a.block]? := fun a e => hc.block _ (hi.typ.lt a e) (hAm a e) (.inr (typ_not_call hi.typ a e))
  refine ⟨h1, h2, A, n, c, hi.blk.chgR hc hgm (by decide), ⟨hi.reads.1, fun hn => ?_⟩, hi.cap, hi.ne, hi.nil, hi.by_, hi.len, hi.typ.keep hk⟩
  obtain ⟨ad, e, hb, hcc⟩ := hi.reads.2 hn
  exact ⟨ad, e, Nat.lt_of_lt_of_le hb hc.size, fun j u hu => (World.cell?_of_block (by rw [block_of_add]; exact hk ad e)).trans (hcc j u hu)⟩

/-- the reference's log at block m -/
structure RlIs (w : World) (m B0 : Nat) (vC : Value) (rs : List Cv) (A : Option Addr) (n c : Nat) (bs : List Int) (wh sf : Nat) (lf : Int) (st : Bool) : Prop where
  blk : Blk w m 66 #[vC, .slice A n c, .int .i64 (wh : Int), .int .i64 (sf : Int), .int .i64 lf, .bool st]
  calls : w.ownsRow B0 53 7 vC rs.length (rs.flatMap Cv.cells)
  cv : ∀ r ∈ rs, CvArg w B0 r
  reads : BReads w w.heap.size A n bs
  cap : n ≤ c
  nil : A = none → c = 0
  typ : BTyp w A
  hB : B0 ≤ m
section
variable {w w' : World} {m B0 n c wh sf : Nat} {vC : Value} {rs : List Cv} {A : Option Addr} {bs : List Int} {lf : Int} {st : Bool}
theorem RlIs.cells (h : RlIs w m B0 vC rs A n c bs wh sf lf st) : w.cell? ⟨m, 0, none⟩ = some vC ∧ w.cell? ⟨m, 1, none⟩ = some (.slice A n c) ∧ w.cell? ⟨m, 2, none⟩ = some (.int .i64 (wh : Int)) ∧ w.cell? ⟨m, 3, none⟩ = some (.int .i64 (sf : Int)) ∧ w.cell? ⟨m, 4, none⟩ = some (.int .i64 lf) ∧ w.cell? ⟨m, 5, none⟩ = some (.bool st) :=
  ⟨h.blk.cell 0, h.blk.cell 1, h.blk.cell 2, h.blk.cell 3, h.blk.cell 4, h.blk.cell 5⟩
/-- a log while another block changes -/
theorem RlIs.chg {g : Nat} {t : TypeId} {cs : Array Value} (h : RlIs w m B0 vC rs A n c bs wh sf lf st) (hg : Blk w g t cs) (h1 : t ≠ 66) (h2 : t ≠ 53) (h3 : 5 ≠ t) (hc : Chg g w w') (hgB : B0 ≤ g) : RlIs w' m B0 vC rs A n c bs wh sf lf st := by
  have hA := h.typ.ne hg h3
  have hbl := hc.below hgB (by have := h.blk.lt; have := h.hB; omega)
  refine ⟨h.blk.chg hc (Ne.symm (Blk.ne_ hg h.blk h1)), ⟨h.calls.1, ?_⟩, fun r hr => (h.cv r hr).below hbl, Reads.more (hc.reads h.reads (Nat.le_refl _) hA) hc.size, h.cap, h.nil, h.typ.chg hc hA, h.hB⟩
  rcases h.calls.2 with hn | ⟨k, cap, cur, hv, hk, hh, rest⟩
  · exact .inl hn
  · refine .inr ⟨k, cap, cur, hv, hk, ?_, rest⟩
    refine (hc.block k (Array.getElem?_eq_some_iff.1 hh).1 (fun e => ?_)).trans hh
    subst e
    exact not_call hg h2 _ _ hh
theorem RlIs.below {B : Nat} (h : RlIs w m B0 vC rs A n c bs wh sf lf st) (hb : Below B w w') (hB : w.heap.size ≤ B) : RlIs w' m B0 vC rs A n c bs wh sf lf st :=
  ⟨h.blk.below hb (by have := h.blk.lt; omega), own_below h.calls (hb.mono hB), fun r hr => (h.cv r hr).below (hb.mono (by have := h.blk.lt; have := h.hB; omega)), Reads.more (Reads.below h.reads (hb.mono hB)) hb.size, h.cap, h.nil, h.typ.below hb hB, h.hB⟩
/-- a cell of its own is set -/
theorem RlIs.set_ (h : RlIs w m B0 vC rs A n c bs wh sf lf st) (i : Nat) (v : Value) : (w.setCell ⟨m, i, none⟩ v).ownsRow B0 53 7 vC rs.length (rs.flatMap Cv.cells) ∧ (∀ r ∈ rs, CvArg (w.setCell ⟨m, i, none⟩ v) B0 r) ∧ BReads (w.setCell ⟨m, i, none⟩ v) (w.setCell ⟨m, i, none⟩ v).heap.size A n bs ∧ BTyp (w.setCell ⟨m, i, none⟩ v) A := by
  have hc := (Chg.refl m w).set_ i v
  have hA := h.typ.ne h.blk (by decide)
  have hz : (w.setCell ⟨m, i, none⟩ v).heap.size = w.heap.size := by simp [World.setCell]
  refine ⟨⟨h.calls.1, ?_⟩, fun r hr => (h.cv r hr).below (hc.below h.hB (by have := h.blk.lt; have := h.hB; omega)), by rw [hz]; exact hc.reads h.reads (Nat.le_refl _) hA, h.typ.chg hc hA⟩
  rcases h.calls.2 with hn | ⟨k, cap, cur, hv, hk, hh, rest⟩
  · exact .inl hn
  · refine .inr ⟨k, cap, cur, hv, hk, ?_, rest⟩
    refine (hc.block k (Array.getElem?_eq_some_iff.1 hh).1 (fun e => ?_)).trans hh
    subst e
    exact not_call h.blk (by decide) _ _ hh
theorem RlIs.set2 (h : RlIs w m B0 vC rs A n c bs wh sf lf st) (z : Nat) : RlIs (w.setCell ⟨m, 2, none⟩ (.int .i64 (z : Int))) m B0 vC rs A n c bs z sf lf st := by
  obtain ⟨a1, a2, a3, a4⟩ := h.set_ 2 (.int .i64 (z : Int))
  have := h.blk.set_ 2 (.int .i64 (z : Int))
  exact ⟨by simpa [List.setIfInBounds_toArray] using this, a1, a2, a3, h.cap, h.nil, a4, h.hB⟩
theorem RlIs.set3 (h : RlIs w m B0 vC rs A n c bs wh sf lf st) (z : Nat) : RlIs (w.setCell ⟨m, 3, none⟩ (.int .i64 (z : Int))) m B0 vC rs A n c bs wh z lf st := by
  obtain ⟨a1, a2, a3, a4⟩ := h.set_ 3 (.int .i64 (z : Int))
  have := h.blk.set_ 3 (.int .i64 (z : Int))
  exact ⟨by simpa [List.setIfInBounds_toArray] using this, a1, a2, a3, h.cap, h.nil, a4, h.hB⟩
theorem RlIs.set4 (h : RlIs w m B0 vC rs A n c bs wh sf lf st) (z : Int) : RlIs (w.setCell ⟨m, 4, none⟩ (.int .i64 z)) m B0 vC rs A n c bs wh sf z st := by
  obtain ⟨a1, a2, a3, a4⟩ := h.set_ 4 (.int .i64 z)
  have := h.blk.set_ 4 (.int .i64 z)
  exact ⟨by simpa [List.setIfInBounds_toArray] using this, a1, a2, a3, h.cap, h.nil, a4, h.hB⟩
theorem RlIs.set5 (h : RlIs w m B0 vC rs A n c bs wh sf lf st) (z : Bool) : RlIs (w.setCell ⟨m, 5, none⟩ (.bool z)) m B0 vC rs A n c bs wh sf lf z := by
  obtain ⟨a1, a2, a3, a4⟩ := h.set_ 5 (.bool z)
  have := h.blk.set_ 5 (.bool z)
  exact ⟨by simpa [List.setIfInBounds_toArray] using this, a1, a2, a3, h.cap, h.nil, a4, h.hB⟩
/-- the bytes are cut -/
theorem RlIs.cutB (h : RlIs w m B0 vC rs A n c bs wh sf lf st) {K : Nat} (hK : K ≤ n) : RlIs (w.setCell ⟨m, 1, none⟩ (.slice A K c)) m B0 vC rs A K c (bs.take K) wh sf lf st := by
  obtain ⟨a1, a2, a3, a4⟩ := h.set_ 1 (.slice A K c)
  have := h.blk.set_ 1 (.slice A K c)
  have hr := Reads.short a3 hK
  rw [Nat.mul_one, ← List.map_take] at hr
  exact ⟨by simpa [List.setIfInBounds_toArray] using this, a1, a2, hr, Nat.le_trans hK h.cap, h.nil, a4, h.hB⟩
/-- other bytes are put -/
theorem RlIs.putB {A' : Option Addr} {n' c' : Nat} {bs' : List Int} (h : RlIs w m B0 vC rs A n c bs wh sf lf st) (hr : BReads w w.heap.size A' n' bs') (hcap : n' ≤ c') (hnil : A' = none → c' = 0) (ht : BTyp w A') : RlIs (w.setCell ⟨m, 1, none⟩ (.slice A' n' c')) m B0 vC rs A' n' c' bs' wh sf lf st := by
  obtain ⟨a1, a2, _, _⟩ := h.set_ 1 (.slice A' n' c')
  have := h.blk.set_ 1 (.slice A' n' c')
  have hc := (Chg.refl m w).set_ 1 (.slice A' n' c')
  have hA := ht.ne h.blk (by decide)
  have hz : (w.setCell ⟨m, 1, none⟩ (.slice A' n' c')).heap.size = w.heap.size := by simp [World.setCell]
  exact ⟨by simpa [List.setIfInBounds_toArray] using this, a1, a2, by rw [hz]; exact hc.reads hr (Nat.le_refl _) hA, hcap, hnil, ht.chg hc hA, h.hB⟩
end

theorem rtime_any (n : Int) (w : World) : Calls Tryd.prog 51 #[.int .i64 n] w fun e w' => e = .returned (.bool (timeB n)) ∧ w = w' := by
  by_cases h1 : 0 ≤ n
  · by_cases h2 : n ≤ 1000000
    · go_enter Tryd.func51, Tryd.ntmps51
      go_wp2
      go_ret
      exact ⟨by simp [timeB, h1, h2], rfl⟩
    · go_enter Tryd.func51, Tryd.ntmps51
      go_wp2
      go_ret
      exact ⟨by simp [timeB, h1, h2], rfl⟩
  · go_enter Tryd.func51, Tryd.ntmps51
    go_wp2
    go_ret
    exact ⟨by rw [show timeB n = false by simp only [timeB, Bool.and_eq_false_iff, decide_eq_false_iff_not]; omega]; rfl, rfl⟩

set_option maxHeartbeats 1000000 in
theorem rstep_any (m B0 vC rs A n c bs wh sf) (left : Int) (st : Bool) (w : World) (h : RlIs w m B0 vC rs A n c bs wh sf (max (-1) left) st) (h1 : left ≤ 9223372036854775807) :
    Calls Tryd.prog 53 #[.pointer (some ⟨m, 0, none⟩)] w fun e w' => e = .returned (.bool (st || decide (left = 0))) ∧ RlIs w' m B0 vC rs A n c bs wh sf (max (-1) (left - 1)) (st || decide (left = 0)) ∧ Chg m w w' := by
  obtain ⟨c0, c1, c2, c3, c4, c5⟩ := h.cells
  have f4 := h.blk.frozen 4
  have f5 := h.blk.frozen 5
  by_cases h0 : left = 0
  · subst h0
    have e0 : max (-1 : Int) 0 = 0 := by decide
    have e1 : max (-1 : Int) (0 - 1) = -1 := by decide
    rw [e0] at h c4
    rw [e1]
    have hs2 := (h.set5 true).set4 (-1)
    have hc := ((Chg.refl m w).set_ 5 (.bool true)).set_ 4 (.int .i64 (-1))
    clear e0 e1
    go_enter Tryd.func53, Tryd.ntmps53
    go_wp2_with fail
    go_ret
    exact ⟨by simp, by simpa using hs2, hc⟩
  · by_cases hn : 0 ≤ left
    · have e0 : max (-1 : Int) left = left := Int.max_eq_right (by omega)
      have e1 : max (-1 : Int) (left - 1) = left - 1 := Int.max_eq_right (by omega)
      rw [e0] at h c4
      rw [e1]
      have d0 : (left == 0) = false := by simpa using h0
      have hs2 := h.set4 (left - 1)
      have hc := (Chg.refl m w).set_ 4 (.int .i64 (left - 1))
      clear e0 e1
      go_enter Tryd.func53, Tryd.ntmps53
      go_wp2_with fail
      go_ret
      exact ⟨by simp [h0], by simpa [h0] using hs2, hc⟩
    · have e0 : max (-1 : Int) left = -1 := Int.max_eq_left (by omega)
      have e1 : max (-1 : Int) (left - 1) = -1 := Int.max_eq_left (by omega)
      rw [e0] at h c4
      rw [e1]
      clear e0 e1
      go_enter Tryd.func53, Tryd.ntmps53
      go_wp2_with fail
      go_ret
      exact ⟨by simp [h0], by simpa [h0] using h, Chg.refl _ _⟩
end Go.Proofs.YtijgiieoinmjhaaDoor
