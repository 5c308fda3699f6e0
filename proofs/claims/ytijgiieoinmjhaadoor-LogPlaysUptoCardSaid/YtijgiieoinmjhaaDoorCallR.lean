/- log.next: the call that bytes begin with. Conditions: bytes that are bytes, not too many. -/
import Derived.Test.YtijgiieoinmjhaaDoorCallW
import Derived.Test.YtijgiieoinmjhaaDoorChunkBackQ
namespace Go.Proofs.YtijgiieoinmjhaaDoor
set_option linter.unusedVariables false
set_option linter.unusedSimpArgs false
open Go.RowKit

def zeroCv : Cv := ⟨⟨0, 0, 0, ⟨#[]⟩, 0, 0, []⟩, none, 0, 0⟩
def NextPost (b : List Int) (w : World) (e : Ending) (w' : World) : Prop :=
  Below w.heap.size w w' ∧ ∃ r : Cv, CvOk w' w'.heap.size r ∧ (∀ a, r.A = some a → w.heap.size ≤ a.block) ∧ match nextV b with
    | none => r = zeroCv ∧ e = .returned (.tuple #[r.val, .int .i64 0])
    | some x => r.c = x.1 ∧ e = .returned (.tuple #[r.val, .int .i64 (x.2 : Int)])
theorem zero_ok (w : World) (B : Nat) : CvOk w B zeroCv := ⟨Reads.none_, Nat.zero_le _, Nat.le_refl _, fun _ => rfl⟩
theorem NextPost.no {b : List Int} {w w' : World} {e : Ending} (h : nextV b = none) (hb : Below w.heap.size w w') (he : e = .returned (.tuple #[zeroCv.val, .int .i64 0])) : NextPost b w e w' :=
  ⟨hb, zeroCv, zero_ok _ _, (fun a e => by cases e), by rw [h]; exact ⟨rfl, he⟩⟩
theorem next_bad {b : List Int} (h : ¬ ((getV b).2.2 = 0 ∧ 0 ≤ (getV b).1 ∧ (getV b).1 ≤ (b.length : Int) - ((getV b).2.1 : Int))) : nextV b = none := by unfold nextV; rw [if_neg h]

theorem getFrom_used : ∀ (l : List Int) (i x : Nat), (getFrom i x l).2.1 ≤ i + l.length ∧ ((getFrom i x l).2.2 = 0 → 1 ≤ (getFrom i x l).2.1) := by
  intro l
  induction l with
  | nil => intro i x; simp [getFrom]
  | cons c r ih =>
    intro i x
    rw [getFrom]
    split
    · simp
    · split
      · simp
      · have := ih (i + 1) (x + c.toNat % 128 * 2 ^ (7 * i))
        refine ⟨?_, this.2⟩
        rw [List.length_cons]
        omega
theorem getV_used {b : List Int} {z : Int} {u : Nat} {er : Int} (h : getV b = (z, u, er)) : u ≤ b.length ∧ (er = 0 → 1 ≤ u) := by
  have := getFrom_used b 0 0
  unfold getV at h
  rw [h] at this
  dsimp only at this
  exact ⟨by omega, this.2⟩
theorem Reads.short {w : World} {B size n : Nat} {A : Option Addr} {xs : List Value} (h : Reads w B size A n xs) {k : Nat} (hk : k ≤ n) : Reads w B size A k (xs.take (k * size)) := by
  refine ⟨by rw [List.length_take, h.1]; exact Nat.min_eq_left (Nat.mul_le_mul_right _ hk), fun h0 => ?_⟩
  obtain ⟨ad, e, hb, hc⟩ := h.2 (by omega)
  refine ⟨ad, e, hb, fun j u hu => hc j u ?_⟩
  have hj : j < (xs.take (k * size)).length := (List.getElem?_eq_some_iff.1 hu).1
  rw [List.length_take] at hj
  rwa [List.getElem?_take_of_lt (by omega)] at hu
theorem BReads.sub {w : World} {B n c lo m : Nat} {A : Option Addr} {l : List Int} (h : BReads w B A n l) (hlo : lo + m ≤ n) (hc : n ≤ c) : BReads w B (if c = lo then A else Option.map (fun x => x.add lo) A) m ((l.drop lo).take m) := by
  have h1 := Reads.cut (k := lo) (cap := c) h (by omega) hc
  have h2 := Reads.short h1 (k := m) (by omega)
  rw [Nat.mul_one, Nat.mul_one, ← List.map_drop, ← List.map_take] at h2
  simpa [BReads] using h2
theorem stepN_ok {k : Nat} {b pre r : List Int} (h : stepN k b = some (pre, r)) (he : (getV r).2.2 = 0) : stepN (k + 1) b = some (pre ++ [(getV r).1], r.drop (getV r).2.1) := by
  rw [stepN, h]
  dsimp only
  rw [if_pos he]
theorem stepN_none {k : Nat} {b : List Int} (h : stepN k b = none) : ∀ j, stepN (k + j) b = none := by
  intro j
  induction j with
  | zero => exact h
  | succ j ih => rw [Nat.add_succ, stepN, ih]
theorem stepN_bad {k : Nat} {b pre r : List Int} (h : stepN k b = some (pre, r)) (he : (getV r).2.2 ≠ 0) (hk : k < 6) : stepN 6 b = none := by
  have h1 : stepN (k + 1) b = none := by
    rw [stepN, h]
    dsimp only
    rw [if_neg he]
  have := stepN_none h1 (6 - (k + 1))
  rwa [show k + 1 + (6 - (k + 1)) = 6 by omega] at this
theorem stepN_len {b : List Int} : ∀ {k : Nat} {pre r : List Int}, stepN k b = some (pre, r) → pre.length = k := by
  intro k
  induction k with
  | zero => intro pre r h; simp [stepN] at h; obtain ⟨rfl, _⟩ := h; rfl
  | succ k ih =>
    intro pre r h
    rw [stepN] at h
    cases hs : stepN k b with
    | none => rw [hs] at h; cases h
    | some x =>
      obtain ⟨p, q⟩ := x
      rw [hs] at h
      dsimp only at h
      by_cases he : (getV q).2.2 = 0
      · rw [if_pos he] at h
        injection h with h
        injection h with h1 h2
        rw [← h1, List.length_append, ih hs]
        rfl
      · rw [if_neg he] at h; cases h
theorem stepN_mem {b : List Int} : ∀ {k : Nat} {pre r : List Int}, stepN k b = some (pre, r) → ∀ x ∈ r, x ∈ b := by
  intro k
  induction k with
  | zero => intro pre r h; simp [stepN] at h; obtain ⟨_, rfl⟩ := h; exact fun x hx => hx
  | succ k ih =>
    intro pre r h
    rw [stepN] at h
    cases hs : stepN k b with
    | none => rw [hs] at h; cases h
    | some x =>
      obtain ⟨p, q⟩ := x
      rw [hs] at h
      dsimp only at h
      by_cases he : (getV q).2.2 = 0
      · rw [if_pos he] at h
        injection h with h
        injection h with h1 h2
        intro x hx
        rw [← h2] at hx
        exact ih hs x (List.mem_of_mem_drop hx)
      · rw [if_neg he] at h; cases h
theorem next_no {b : List Int} {z : Int} {u : Nat} (hg : getV b = (z, u, 0)) (hs : stepN 6 ((b.drop u).take z.toNat) = none) : nextV b = none := by
  unfold nextV
  rw [hg]
  dsimp only
  rw [hs]
  split <;> rfl
theorem next_six {b : List Int} {z : Int} {u : Nat} {a0 a1 a2 a3 a4 a5 : Int} {r : List Int} (hg : getV b = (z, u, 0)) (h1 : 0 ≤ z) (h2 : z ≤ (b.length : Int) - (u : Int)) (hs : stepN 6 ((b.drop u).take z.toNat) = some ([a0, a1, a2, a3, a4, a5], r)) :
    nextV b = if 0 ≤ a5 ∧ a5 ≤ (r.length : Int) then some (⟨a0, a1, a2, strOfNums (r.take a5.toNat), a3, a4, r.drop a5.toNat⟩, u + z.toNat) else none := by
  unfold nextV
  rw [hg]
  dsimp only
  rw [if_pos ⟨rfl, h1, h2⟩, hs]
/-- the cells of the six numbers while they are read -/
def sixC (pre : List Int) : Array Value := ((pre ++ List.replicate (6 - pre.length) 0).map (Value.int .i64)).toArray
theorem sixC_next {pre : List Int} (h : pre.length < 6) (x : Int) : (sixC pre).setIfInBounds pre.length (.int .i64 x) = sixC (pre ++ [x]) := by
  unfold sixC
  rw [List.setIfInBounds_toArray, ← List.map_set]
  congr 2
  rw [List.set_append_right _ _ (Nat.le_refl _), Nat.sub_self, List.length_append, List.length_singleton, List.append_assoc]
  congr 1
  rw [show 6 - pre.length = (6 - (pre.length + 1)) + 1 by omega, List.replicate_succ]
  rfl
theorem six_form {pre : List Int} (h : pre.length = 6) : ∃ a0 a1 a2 a3 a4 a5, pre = [a0, a1, a2, a3, a4, a5] := by
  match pre, h with
  | [a0, a1, a2, a3, a4, a5], _ => exact ⟨a0, a1, a2, a3, a4, a5, rfl⟩
theorem Blk.setRow_ {w : World} {g : Nat} {t : TypeId} {cs : Array Value} (h : Blk w g t cs) (new : Array Value) : Blk (w.setRow g new) g t new := setRow_heap w g cs _ t _ h
/-- seven cells are written -/
def set7 (w : World) (g : Nat) (v0 v1 v2 v3 v4 v5 v6 : Value) : World := ((((((w.setCell ⟨g, 0, none⟩ v0).setCell ⟨g, 1, none⟩ v1).setCell ⟨g, 2, none⟩ v2).setCell ⟨g, 3, none⟩ v3).setCell ⟨g, 4, none⟩ v4).setCell ⟨g, 5, none⟩ v5).setCell ⟨g, 6, none⟩ v6
theorem Blk.set7_ {w : World} {g : Nat} {t : TypeId} {x0 x1 x2 x3 x4 x5 x6 : Value} (h : Blk w g t #[x0, x1, x2, x3, x4, x5, x6]) (v0 v1 v2 v3 v4 v5 v6 : Value) : Blk (set7 w g v0 v1 v2 v3 v4 v5 v6) g t #[v0, v1, v2, v3, v4, v5, v6] := by
  have := ((((((h.set_ 0 v0).set_ 1 v1).set_ 2 v2).set_ 3 v3).set_ 4 v4).set_ 5 v5).set_ 6 v6
  unfold set7
  simpa [List.setIfInBounds_toArray] using this
theorem own_ne_blk {w : World} {g base n c : Nat} {A : Option Addr} {e t : TypeId} {size : Nat} {xs : List Value} {cs : Array Value} (ho : w.ownsRow base e size (.slice A n c) n xs) (h : Blk w g t cs) (ht : e ≠ t) : ∀ a, A = some a → a.block ≠ g := by
  intro a ha
  have := own_blk_ne ho h ht
  rw [ha] at this
  intro e
  exact this (by simp [Value.ownBlock, e])
theorem reads_set7 {w : World} {g n : Nat} {A : Option Addr} {l : List Int} {v0 v1 v2 v3 v4 v5 v6 : Value} (hr : BReads w w.heap.size A n l) (hne : ∀ a, A = some a → a.block ≠ g) : BReads (set7 w g v0 v1 v2 v3 v4 v5 v6) (set7 w g v0 v1 v2 v3 v4 v5 v6).heap.size A n l := by
  have hsz : (set7 w g v0 v1 v2 v3 v4 v5 v6).heap.size = w.heap.size := by simp [set7, World.setCell]
  rw [hsz]
  refine ⟨hr.1, fun hn => ?_⟩
  obtain ⟨ad, e, hb, hc⟩ := hr.2 hn
  refine ⟨ad, e, hb, fun j u hu => ?_⟩
  have hn1 := hne ad e
  have hq : ∀ (w : World) (i : Nat) (v : Value), (w.setCell ⟨g, i, none⟩ v).cell? (ad.add j) = w.cell? (ad.add j) := fun w i v => World.cell?_setCell_other w _ _ _ (fun e => hn1 (by rw [← block_of_add ad j, ← e]))
  unfold set7
  rw [hq, hq, hq, hq, hq, hq, hq]
  exact hc j u hu
theorem below_set7 {B g : Nat} {w w' : World} (h : Below B w w') (hg : B ≤ g) (v0 v1 v2 v3 v4 v5 v6 : Value) : Below B w (set7 w' g v0 v1 v2 v3 v4 v5 v6) :=
  ((((((h.setCell (p := ⟨g, 0, none⟩) hg v0).setCell (p := ⟨g, 1, none⟩) hg v1).setCell (p := ⟨g, 2, none⟩) hg v2).setCell (p := ⟨g, 3, none⟩) hg v3).setCell (p := ⟨g, 4, none⟩) hg v4).setCell (p := ⟨g, 5, none⟩) hg v5).setCell (p := ⟨g, 6, none⟩) hg v6
theorem Blk.cells7 {w : World} {g : Nat} {t : TypeId} {x0 x1 x2 x3 x4 x5 x6 : Value} (h : Blk w g t #[x0, x1, x2, x3, x4, x5, x6]) : w.cell? ⟨g, 0, none⟩ = some x0 ∧ w.cell? ⟨g, 1, none⟩ = some x1 ∧ w.cell? ⟨g, 2, none⟩ = some x2 ∧ w.cell? ⟨g, 3, none⟩ = some x3 ∧ w.cell? ⟨g, 4, none⟩ = some x4 ∧ w.cell? ⟨g, 5, none⟩ = some x5 ∧ w.cell? ⟨g, 6, none⟩ = some x6 :=
  ⟨h.cell 0, h.cell 1, h.cell 2, h.cell 3, h.cell 4, h.cell 5, h.cell 6⟩

theorem next_ret_zero {b : List Int} {w X : World} {tmps : Array Value} (hbX : Blk X w.heap.size 53 #[.int .i64 0, .int .i64 0, .int .i64 0, .string ⟨#[]⟩, .int .i64 0, .int .i64 0, .slice none 0 0]) (hBX : Below w.heap.size w X) (hN : nextV b = none)
    (h2 : tmps[2]? = some (.pointer (some ⟨w.heap.size, 0, none⟩))) (h3 : tmps[3]? = some (.int .i64 0)) : bodyPost Tryd.prog Tryd.f67 (NextPost b w) Exit.ret ⟨tmps, []⟩ X := by
  obtain ⟨c0, c1, c2, c3, c4, c5, c6⟩ := hbX.cells7
  refine bodyPost_ret (v := .tuple #[zeroCv.val, .int .i64 0]) ?_ rfl (NextPost.no hN hBX rfl)
  simp [results, Tryd.results67, go_sem, h2, h3, c0, c1, c2, c3, c4, c5, c6]
  rfl
theorem next_ret_some {b : List Int} {w X : World} {tmps : Array Value} {c : Cl} {k m cc : Nat} {A : Option Addr} (hN : nextV b = some (c, k)) (hbX : Blk X w.heap.size 53 #[.int .i64 c.what, .int .i64 c.ses, .int .i64 c.seq, .string c.name, .int .i64 c.num, .int .i64 c.share, .slice A m cc]) (hBX : Below w.heap.size w X)
    (hr : BReads X X.heap.size A m c.bytes) (hm : m ≤ maxLen) (hc : m ≤ cc) (hn : A = none → cc = 0) (hA : ∀ a, A = some a → w.heap.size ≤ a.block)
    (h2 : tmps[2]? = some (.pointer (some ⟨w.heap.size, 0, none⟩))) (h3 : tmps[3]? = some (.int .i64 (k : Int))) : bodyPost Tryd.prog Tryd.f67 (NextPost b w) Exit.ret ⟨tmps, []⟩ X := by
  obtain ⟨c0, c1, c2, c3, c4, c5, c6⟩ := hbX.cells7
  refine bodyPost_ret (v := .tuple #[Cv.val ⟨c, A, m, cc⟩, .int .i64 (k : Int)]) ?_ rfl ⟨hBX, ⟨c, A, m, cc⟩, ⟨hr, hm, hc, hn⟩, hA, by rw [hN]; exact ⟨rfl, rfl⟩⟩
  simp [results, Tryd.results67, go_sem, h2, h3, c0, c1, c2, c3, c4, c5, c6]
  rfl
set_option maxRecDepth 100000 in
set_option maxHeartbeats 8000000 in
theorem lognext_any (A : Option Addr) (n c B : Nat) (b : List Int) (w : World) (hr : BReads w B A n b) (hB : B ≤ w.heap.size) (hn : n ≤ 10000000) (hnc : n ≤ c) (hby : ∀ x ∈ b, 0 ≤ x ∧ x < 256) :
    Calls Tryd.prog 67 #[.slice A n c] w (NextPost b w) := by
  have hl := hr.len
  have HBY := hide hby
  clear hby
  obtain ⟨W, hW⟩ : ∃ W, W = w.alloc (.cells #[.int .i64 0, .int .i64 0, .int .i64 0, .string ⟨#[]⟩, .int .i64 0, .int .i64 0, .slice none 0 0] 53) := ⟨_, rfl⟩
  have hb1 : Blk W w.heap.size 53 #[.int .i64 0, .int .i64 0, .int .i64 0, .string ⟨#[]⟩, .int .i64 0, .int .i64 0, .slice none 0 0] := by rw [hW]; exact Blk.new _ _ _
  have hbW : Below w.heap.size w W := by rw [hW]; exact (Below.refl _ _).alloc (Nat.le_refl _) _
  have hsW : W.heap.size = w.heap.size + 1 := by rw [hW]; simp
  have hrW : BReads W B A n b := Reads.below hr (hbW.mono hB)
  have sg := hide (get_any A n c B b W hrW (by unfold maxLen; omega) (unhide HBY))
  go_enter Tryd.func67, Tryd.ntmps67
  go_wp2_with fail
  rw [← hW]
  clear hW
  refine (unhide sg).mono ?_
  rintro e w1 ⟨rfl, rfl⟩
  clear sg
  obtain ⟨z, u, er, hg⟩ : ∃ (z : Int) (u : Nat) (er : Int), getV b = (z, u, er) := ⟨_, _, _, rfl⟩
  rw [hg]
  have hub := getV_used hg
  by_cases he : er = 0
  case neg =>
    --{
    have HN : Hid (nextV b = none) := hide (next_bad (by rw [hg]; exact fun h => he h.1))
    rw [errV_1 he]
    obtain ⟨c0, c1, c2, c3, c4, c5, c6⟩ := hb1.cells7
    have f0 := hb1.frozen 0; have f1 := hb1.frozen 1; have f2 := hb1.frozen 2; have f3 := hb1.frozen 3; have f4 := hb1.frozen 4; have f5 := hb1.frozen 5; have f6 := hb1.frozen 6
    go_wp2_with fail
    obtain ⟨X, hX⟩ : ∃ X, X = set7 W w.heap.size (.int .i64 0) (.int .i64 0) (.int .i64 0) (.string ⟨#[]⟩) (.int .i64 0) (.int .i64 0) (.slice none 0 0) := ⟨_, rfl⟩
    have hbX := hb1.set7_ (.int .i64 0) (.int .i64 0) (.int .i64 0) (.string ⟨#[]⟩) (.int .i64 0) (.int .i64 0) (.slice none 0 0)
    have hBX := below_set7 hbW (g := w.heap.size) (Nat.le_refl _) (.int .i64 0) (.int .i64 0) (.int .i64 0) (.string ⟨#[]⟩) (.int .i64 0) (.int .i64 0) (.slice none 0 0)
    rw [← hX] at hbX hBX
    unfold set7 at hX
    rw [← hX]
    clear hX
    exact next_ret_zero hbX hBX (unhide HN) rfl rfl
    --}
  subst he
  rw [errV_0 rfl]
  have hnb := hrW.len
  by_cases hz0 : 0 ≤ z
  case neg =>
    --{
    have HN : Hid (nextV b = none) := hide (next_bad (by rw [hg]; exact fun h => hz0 h.2.1))
    have d0 : decide (z < 0) = true := by simp; omega
    obtain ⟨c0, c1, c2, c3, c4, c5, c6⟩ := hb1.cells7
    have f0 := hb1.frozen 0; have f1 := hb1.frozen 1; have f2 := hb1.frozen 2; have f3 := hb1.frozen 3; have f4 := hb1.frozen 4; have f5 := hb1.frozen 5; have f6 := hb1.frozen 6
    go_wp2_with fail
    obtain ⟨X, hX⟩ : ∃ X, X = set7 W w.heap.size (.int .i64 0) (.int .i64 0) (.int .i64 0) (.string ⟨#[]⟩) (.int .i64 0) (.int .i64 0) (.slice none 0 0) := ⟨_, rfl⟩
    have hbX := hb1.set7_ (.int .i64 0) (.int .i64 0) (.int .i64 0) (.string ⟨#[]⟩) (.int .i64 0) (.int .i64 0) (.slice none 0 0)
    have hBX := below_set7 hbW (g := w.heap.size) (Nat.le_refl _) (.int .i64 0) (.int .i64 0) (.int .i64 0) (.string ⟨#[]⟩) (.int .i64 0) (.int .i64 0) (.slice none 0 0)
    rw [← hX] at hbX hBX
    unfold set7 at hX
    rw [← hX]
    clear hX
    exact next_ret_zero hbX hBX (unhide HN) rfl rfl
    --}
  have d0 : decide (z < 0) = false := by simp; omega
  by_cases hzn : z ≤ (n : Int) - (u : Int)
  case neg =>
    --{
    have HN : Hid (nextV b = none) := hide (next_bad (by rw [hg, hnb]; exact fun h => hzn h.2.2))
    have d1 : decide ((n : Int) - (u : Int) < z) = true := by simp; omega
    obtain ⟨c0, c1, c2, c3, c4, c5, c6⟩ := hb1.cells7
    have f0 := hb1.frozen 0; have f1 := hb1.frozen 1; have f2 := hb1.frozen 2; have f3 := hb1.frozen 3; have f4 := hb1.frozen 4; have f5 := hb1.frozen 5; have f6 := hb1.frozen 6
    go_wp2_with fail
    obtain ⟨X, hX⟩ : ∃ X, X = set7 W w.heap.size (.int .i64 0) (.int .i64 0) (.int .i64 0) (.string ⟨#[]⟩) (.int .i64 0) (.int .i64 0) (.slice none 0 0) := ⟨_, rfl⟩
    have hbX := hb1.set7_ (.int .i64 0) (.int .i64 0) (.int .i64 0) (.string ⟨#[]⟩) (.int .i64 0) (.int .i64 0) (.slice none 0 0)
    have hBX := below_set7 hbW (g := w.heap.size) (Nat.le_refl _) (.int .i64 0) (.int .i64 0) (.int .i64 0) (.string ⟨#[]⟩) (.int .i64 0) (.int .i64 0) (.slice none 0 0)
    rw [← hX] at hbX hBX
    unfold set7 at hX
    rw [← hX]
    clear hX
    exact next_ret_zero hbX hBX (unhide HN) rfl rfl
    --}
  have d1 : decide ((n : Int) - (u : Int) < z) = false := by simp; omega
  obtain ⟨Z, rfl⟩ : ∃ Z : Nat, z = Z := ⟨z.toNat, by omega⟩
  have hu1 := hub.2 rfl
  have hun : u + Z ≤ n := by omega
  have hbody : BReads W B (if c = u then A else Option.map (fun x => x.add u) A) Z ((b.drop u).take Z) := BReads.sub hrW hun hnc
  have HG := hide hg
  have HZ0 := hide hz0
  have HZN : Hid ((Z : Int) ≤ (b.length : Int) - (u : Int)) := hide (by rw [hnb]; exact hzn)
  clear hg hub hz0
  have hA1 : (if c = u then A else Option.map (fun x => x.add u) A) ≠ none := by
    obtain ⟨ad, e, _⟩ := hr.2 (by omega)
    rw [e]; split <;> simp
  go_upto_region 5 with (fail)
  generalize (if c = u then A else Option.map (fun x => x.add u) A) = A1 at *
  rw [show u + Z - u = Z by omega]
  obtain ⟨C1, hC1, hZC⟩ : ∃ C1, c - u = C1 ∧ Z ≤ C1 := ⟨_, rfl, by omega⟩
  rw [hC1]
  clear hC1
  obtain ⟨V, hV⟩ : ∃ V, V = W.alloc (.cells #[.int .i64 0, .int .i64 0, .int .i64 0, .int .i64 0, .int .i64 0, .int .i64 0] 146) := ⟨_, rfl⟩
  have hb2 : Blk V W.heap.size 146 (sixC []) := by rw [hV]; exact Blk.new _ _ _
  have hbV : Below W.heap.size W V := by rw [hV]; exact (Below.refl _ _).alloc (Nat.le_refl _) _
  have hsV : V.heap.size = w.heap.size + 1 + 1 := by rw [hV]; simp [hsW]
  have hb1V := hb1.below hbV hb1.lt
  have hBV := hbW.trans (hbV.mono hbW.size)
  have hrV : BReads V B A1 Z ((b.drop u).take Z) := Reads.below hbody (hbV.mono (by omega))
  have hbyB : Hid (∀ k pre r, stepN k ((b.drop u).take Z) = some (pre, r) → ∀ x ∈ r, 0 ≤ x ∧ x < 256) := hide (fun k pre r h x hx => unhide HBY x (List.mem_of_mem_drop (List.mem_of_mem_take (stepN_mem h x hx))))
  generalize hbd : (b.drop u).take Z = bd at *
  have HBD := hide hbd
  clear hbd
  go_wp2_with fail
  rw [← hV]
  clear hV
  rw [hsW] at hb2
  go_loopw [0, 3, 41] (fun bv uv iv wr => ∃ (k : Nat) (pre r : List Int) (A' : Option Addr) (m' c' : Nat), k ≤ 6 ∧ iv = .int .i64 k ∧ uv = .int .i64 ((u : Int) + (Z : Int)) ∧ bv = .slice A' m' c' ∧ m' ≤ c' ∧ m' ≤ 10000000 ∧ BReads wr B A' m' r ∧ A' ≠ none ∧ Hid (stepN k bd = some (pre, r)) ∧ Blk wr (w.heap.size + 1) 146 (sixC pre) ∧ Below (w.heap.size + 1) V wr) (fun _ _ iv _ => 6 - (intOf iv).toNat)
  case atStart => exact ⟨0, [], bd, A1, Z, C1, by omega, rfl, rfl, rfl, hZC, by omega, hrV, hA1, hide rfl, hb2, Below.refl _ _⟩
  case round =>
    obtain ⟨k, pre, r, A', m', c', hk, rfl, rfl, rfl, hmc, hm9, hrr, hAn, HS, hb2r, hbel⟩ := hrel
    have hb1r := hb1V.below hbel (by omega)
    have hBr := hBV.trans (hbel.mono (by omega))
    have hplen := stepN_len (unhide HS)
    by_cases hlt : k < 6
    · obtain ⟨x, u2, er2, hg2⟩ : ∃ (x : Int) (u2 : Nat) (er2 : Int), getV r = (x, u2, er2) := ⟨_, _, _, rfl⟩
      have hub2 := getV_used hg2
      have hrl := hrr.len
      have sg := hide (get_any A' m' c' B r wr hrr (by unfold maxLen; omega) (unhide hbyB k pre r (unhide HS)))
      rw [hg2] at sg
      by_cases he2 : er2 = 0
      case neg =>
        --{
        have HN : Hid (nextV b = none) := hide (next_no (unhide HG) (by rw [Int.toNat_natCast, unhide HBD]; exact stepN_bad (unhide HS) (by rw [hg2]; exact he2) hlt))
        rw [errV_1 he2] at sg
        clear hg2 hub2 hrl HS hplen
        go_wp2_with fail
        refine (unhide sg).mono ?_
        rintro e w1 ⟨rfl, rfl⟩
        obtain ⟨c0, c1, c2, c3, c4, c5, c6⟩ := hb1r.cells7
        have f0 := hb1r.frozen 0; have f1 := hb1r.frozen 1; have f2 := hb1r.frozen 2; have f3 := hb1r.frozen 3; have f4 := hb1r.frozen 4; have f5 := hb1r.frozen 5; have f6 := hb1r.frozen 6
        go_wp2_with fail
        obtain ⟨X, hX⟩ : ∃ X, X = set7 wr w.heap.size (.int .i64 0) (.int .i64 0) (.int .i64 0) (.string ⟨#[]⟩) (.int .i64 0) (.int .i64 0) (.slice none 0 0) := ⟨_, rfl⟩
        have hbX := hb1r.set7_ (.int .i64 0) (.int .i64 0) (.int .i64 0) (.string ⟨#[]⟩) (.int .i64 0) (.int .i64 0) (.slice none 0 0)
        have hBX := below_set7 hBr (g := w.heap.size) (Nat.le_refl _) (.int .i64 0) (.int .i64 0) (.int .i64 0) (.string ⟨#[]⟩) (.int .i64 0) (.int .i64 0) (.slice none 0 0)
        rw [← hX] at hbX hBX
        unfold set7 at hX
        rw [← hX]
        clear hX
        exact next_ret_zero hbX hBX (unhide HN) rfl rfl
        --}
      subst he2
      rw [errV_0 rfl] at sg
      have hst := stepN_ok (unhide HS) (by rw [hg2])
      rw [hg2] at hst
      dsimp only at hst
      have HST := hide hst
      have hu2 := hub2.1
      rw [hrl] at hu2
      have hcut : BReads wr B (if c' = u2 then A' else Option.map (fun x => x.add u2) A') (m' - u2) (r.drop u2) := by
        have := Reads.cut (k := u2) (cap := c') hrr hu2 hmc
        rw [Nat.mul_one, ← List.map_drop] at this
        exact this
      have hp6 : (sixC pre)[k]? = some (.int .i64 0) := by
        unfold sixC
        rw [List.getElem?_toArray, List.getElem?_map, List.getElem?_append_right (by omega), hplen, Nat.sub_self, show 6 - k = (5 - k) + 1 by omega, List.replicate_succ]
        rfl
      have ck := hb2r.cell k
      rw [hp6] at ck
      have fk := hb2r.frozen k
      have hset := hb2r.set_ k (.int .i64 x)
      rw [← hplen, sixC_next (by omega)] at hset
      rw [hplen] at hset
      have hcut2 : BReads (wr.setCell ⟨w.heap.size + 1, k, none⟩ (.int .i64 x)) B (if c' = u2 then A' else Option.map (fun x => x.add u2) A') (m' - u2) (r.drop u2) := Reads.setCell hcut (by dsimp only; omega) _
      have hbel2 := hbel.setCell (p := ⟨w.heap.size + 1, k, none⟩) (Nat.le_refl _) (.int .i64 x)
      have HSET := hide hset; have HCUT := hide hcut2; have HBEL := hide hbel2
      clear hg2 hub2 hrl HS hplen hst hp6 hset hcut hcut2 hbel2
      go_wp2_with fail
      refine (unhide sg).mono ?_
      rintro e w1 ⟨rfl, rfl⟩
      go_wp2_with fail
      go_region
      all_goals
        go_wp2_with fail
        go_roundw
        case rel => exact ⟨k + 1, _, _, _, _, _, by omega, by go_num, rfl, rfl, by omega, by omega, unhide HCUT, by split <;> simp [hAn], HST, unhide HSET, (unhide HBEL).drew⟩
        case measure => simp [intOf]; omega
    · obtain rfl : k = 6 := by omega
      obtain ⟨a0, a1, a2, a3, a4, a5, rfl⟩ := six_form hplen
      have hNX := next_six (unhide HG) (by omega) (unhide HZN) (by rw [Int.toNat_natCast, unhide HBD]; exact unhide HS)
      rw [hrr.len] at hNX
      have HNX := hide hNX
      have e0 := hb2r.cell 0; have e1 := hb2r.cell 1; have e2 := hb2r.cell 2; have e3 := hb2r.cell 3; have e4 := hb2r.cell 4; have e5 := hb2r.cell 5
      simp [sixC] at e0 e1 e2 e3 e4 e5
      clear hNX
      by_cases h5 : 0 ≤ a5
      case neg =>
        --{
        have HN : Hid (nextV b = none) := hide (by rw [unhide HNX, if_neg (fun h => h5 h.1)])
        have d5 : decide (a5 < 0) = true := by simp; omega
        obtain ⟨c0, c1, c2, c3, c4, c5, c6⟩ := hb1r.cells7
        have f0 := hb1r.frozen 0; have f1 := hb1r.frozen 1; have f2 := hb1r.frozen 2; have f3 := hb1r.frozen 3; have f4 := hb1r.frozen 4; have f5 := hb1r.frozen 5; have f6 := hb1r.frozen 6
        go_wp2_with fail
        obtain ⟨X, hX⟩ : ∃ X, X = set7 wr w.heap.size (.int .i64 0) (.int .i64 0) (.int .i64 0) (.string ⟨#[]⟩) (.int .i64 0) (.int .i64 0) (.slice none 0 0) := ⟨_, rfl⟩
        have hbX := hb1r.set7_ (.int .i64 0) (.int .i64 0) (.int .i64 0) (.string ⟨#[]⟩) (.int .i64 0) (.int .i64 0) (.slice none 0 0)
        have hBX := below_set7 hBr (g := w.heap.size) (Nat.le_refl _) (.int .i64 0) (.int .i64 0) (.int .i64 0) (.string ⟨#[]⟩) (.int .i64 0) (.int .i64 0) (.slice none 0 0)
        rw [← hX] at hbX hBX
        unfold set7 at hX
        rw [← hX]
        clear hX
        exact next_ret_zero hbX hBX (unhide HN) rfl rfl
        --}
      have d5 : decide (a5 < 0) = false := by simp; omega
      by_cases h6 : a5 ≤ (m' : Int)
      case neg =>
        --{
        have HN : Hid (nextV b = none) := hide (by rw [unhide HNX, if_neg (fun h => h6 h.2)])
        have d6 : decide ((m' : Int) < a5) = true := by simp; omega
        obtain ⟨c0, c1, c2, c3, c4, c5, c6⟩ := hb1r.cells7
        have f0 := hb1r.frozen 0; have f1 := hb1r.frozen 1; have f2 := hb1r.frozen 2; have f3 := hb1r.frozen 3; have f4 := hb1r.frozen 4; have f5 := hb1r.frozen 5; have f6 := hb1r.frozen 6
        go_wp2_with fail
        obtain ⟨X, hX⟩ : ∃ X, X = set7 wr w.heap.size (.int .i64 0) (.int .i64 0) (.int .i64 0) (.string ⟨#[]⟩) (.int .i64 0) (.int .i64 0) (.slice none 0 0) := ⟨_, rfl⟩
        have hbX := hb1r.set7_ (.int .i64 0) (.int .i64 0) (.int .i64 0) (.string ⟨#[]⟩) (.int .i64 0) (.int .i64 0) (.slice none 0 0)
        have hBX := below_set7 hBr (g := w.heap.size) (Nat.le_refl _) (.int .i64 0) (.int .i64 0) (.int .i64 0) (.string ⟨#[]⟩) (.int .i64 0) (.int .i64 0) (.slice none 0 0)
        rw [← hX] at hbX hBX
        unfold set7 at hX
        rw [← hX]
        clear hX
        exact next_ret_zero hbX hBX (unhide HN) rfl rfl
        --}
      have d6 : decide ((m' : Int) < a5) = false := by simp; omega
      have HNY := hide (show nextV b = some (⟨a0, a1, a2, strOfNums (r.take a5.toNat), a3, a4, r.drop a5.toNat⟩, u + (Z : Int).toNat) by rw [unhide HNX, if_pos ⟨h5, h6⟩])
      obtain ⟨P, rfl⟩ : ∃ P : Nat, a5 = P := ⟨a5.toNat, by omega⟩
      rw [Int.toNat_natCast, Int.toNat_natCast] at HNY
      have hPm : P ≤ m' := by omega
      have hrs : BReads wr B A' P (r.take P) := by
        have := Reads.short hrr hPm
        rw [Nat.mul_one, ← List.map_take] at this
        exact this
      have hrc : BReads wr B (if c' = P then A' else Option.map (fun x => x.add P) A') (m' - P) (r.drop P) := by
        have := Reads.cut (k := P) (cap := c') hrr hPm hmc
        rw [Nat.mul_one, ← List.map_drop] at this
        exact this
      have hrn : (if c' = P then A' else Option.map (fun x => x.add P) A') = none → c' - P = 0 := by
        intro h; exfalso; revert h; split <;> simp [hAn]
      generalize hA2 : (if c' = P then A' else Option.map (fun x => x.add P) A') = A2 at *
      obtain ⟨c0, c1, c2, c3, c4, c5, c6⟩ := hb1r.cells7
      have f0 := hb1r.frozen 0; have f1 := hb1r.frozen 1; have f2 := hb1r.frozen 2; have f3 := hb1r.frozen 3; have f4 := hb1r.frozen 4; have f5 := hb1r.frozen 5; have f6 := hb1r.frozen 6
      have q1 := conv_bytes (w := wr.drew) (c := c') (Reads.drew hrs)
      have hszr := hBr.size
      have hb2d : Blk wr.drew (w.heap.size + 1) 146 (sixC [a0, a1, a2, a3, a4, (P : Int)]) := hb2r
      have hb1d : Blk wr.drew w.heap.size 53 #[.int .i64 0, .int .i64 0, .int .i64 0, .string ⟨#[]⟩, .int .i64 0, .int .i64 0, .slice none 0 0] := hb1r
      have hltb := hb2r.lt
      have hPc : P ≤ c' := by omega
      have hlt1 : w.heap.size < wr.drew.heap.size := hb1r.lt
      have HRS : Hid (BReads wr.drew B A' P (r.take P)) := hide hrs
      have HB2 := hide hb2d; have HB1 := hide hb1d
      clear hb1r hb2r hb1V hb1 hb2 hb2d hb1d hrr hrs hbel HS hplen HNX
      go_upto_region 16 with (fail)
      clear c0 c1 c2 c3 c4 c5 c6 f0 f1 f2 f3 f4 f5 f6
      go_region_held3 (fun w' => w'.cell? ⟨w.heap.size + 1, 0, none⟩ = some (.int .i64 a0) ∧ w'.cell? ⟨w.heap.size + 1, 1, none⟩ = some (.int .i64 a1) ∧ w'.cell? ⟨w.heap.size + 1, 2, none⟩ = some (.int .i64 a2) ∧ w'.cell? ⟨w.heap.size + 1, 3, none⟩ = some (.int .i64 a3) ∧ w'.cell? ⟨w.heap.size + 1, 4, none⟩ = some (.int .i64 a4) ∧ w'.cell? ⟨w.heap.size + 1, 5, none⟩ = some (.int .i64 (P : Int)) ∧ (convert 22 9 (.slice A' P c')).run Tryd.prog w' = .ok (.string (strOfNums (r.take P))) w')
        (first | go_keep | (exact ⟨g0, g1, g2, g3, g4, g5, q2⟩) | (refine ⟨?_, ?_, ?_, ?_, ?_, ?_, q3⟩ <;> go_keep))
        ((go_at_call 45; refine (cloneB_any A2 (m' - P) (c' - P) B (r.drop P) _ (Reads.drew hrc) (by exact Nat.le_trans hB hszr) (by omega) hrn).mono ?_; rintro e wc ⟨vc, rfl, hownc, hbc⟩; have hb2c := (unhide HB2).below hbc hltb; have hb1c := (unhide HB1).below hbc hlt1; have g0 := hb2c.cell 0; have g1 := hb2c.cell 1; have g2 := hb2c.cell 2; have g3 := hb2c.cell 3; have g4 := hb2c.cell 4; have g5 := hb2c.cell 5; simp [sixC] at g0 g1 g2 g3 g4 g5; have q2 := conv_bytes (w := wc) (c := c') (Reads.below (unhide HRS) (hbc.mono (Nat.le_trans hB hszr))); obtain ⟨c0, c1, c2, c3, c4, c5, c6⟩ := hb1c.cells7; have f0 := hb1c.frozen 0; have f1 := hb1c.frozen 1; have f2 := hb1c.frozen 2; have f3 := hb1c.frozen 3; have f4 := hb1c.frozen 4; have f5 := hb1c.frozen 5; have f6 := hb1c.frozen 6; obtain ⟨cA, cc, hcv, hcr, hcm, hcc, hcn, hcA⟩ := own_slice2 hownc; subst hcv; have q3 := conv_bytes (w := set7 wc w.heap.size (.int .i64 a0) (.int .i64 a1) (.int .i64 a2) (.string (strOfNums (r.take P))) (.int .i64 a3) (.int .i64 a4) (.slice cA (m' - P) cc)) (c := c') (Reads.below (unhide HRS) (below_set7 (hbc.mono (Nat.le_trans hB hszr)) hB _ _ _ _ _ _ _)); unfold set7 at q3))
      all_goals
        have hBc : Below w.heap.size w wc := hBr.drew.trans (hbc.mono hszr)
        have hX0 := hb1c.set7_ (.int .i64 a0) (.int .i64 a1) (.int .i64 a2) (.string (strOfNums (r.take P))) (.int .i64 a3) (.int .i64 a4) (.slice cA (m' - P) cc)
        have hXB := below_set7 hBc (g := w.heap.size) (Nat.le_refl _) (.int .i64 a0) (.int .i64 a1) (.int .i64 a2) (.string (strOfNums (r.take P))) (.int .i64 a3) (.int .i64 a4) (.slice cA (m' - P) cc)
        have hne := own_ne_blk hownc hb1c (by decide)
        have hXR : BReads (set7 wc w.heap.size (.int .i64 a0) (.int .i64 a1) (.int .i64 a2) (.string (strOfNums (r.take P))) (.int .i64 a3) (.int .i64 a4) (.slice cA (m' - P) cc)) (set7 wc w.heap.size (.int .i64 a0) (.int .i64 a1) (.int .i64 a2) (.string (strOfNums (r.take P))) (.int .i64 a3) (.int .i64 a4) (.slice cA (m' - P) cc)).heap.size cA (m' - P) (r.drop P) := reads_set7 hcr hne
        obtain ⟨X, hX⟩ : ∃ X, X = set7 wc w.heap.size (.int .i64 a0) (.int .i64 a1) (.int .i64 a2) (.string (strOfNums (r.take P))) (.int .i64 a3) (.int .i64 a4) (.slice cA (m' - P) cc) := ⟨_, rfl⟩
        rw [← hX] at hX0 hXB hXR
        unfold set7 at hX
        rw [← hX]
        clear hX q1 q2 hb2c hb1c g0 g1 g2 g3 g4 g5 c0 c1 c2 c3 c4 c5 c6 f0 f1 f2 f3 f4 f5 f6 hcr hownc hbc hBc
        obtain ⟨c0, c1, c2, c3, c4, c5, c6⟩ := hX0.cells7
        have f0 := hX0.frozen 0; have f1 := hX0.frozen 1; have f2 := hX0.frozen 2; have f3 := hX0.frozen 3; have f4 := hX0.frozen 4; have f5 := hX0.frozen 5; have f6 := hX0.frozen 6
        go_wp2_with fail
        have hY0 := hX0.set7_ (.int .i64 a0) (.int .i64 a1) (.int .i64 a2) (.string (strOfNums (r.take P))) (.int .i64 a3) (.int .i64 a4) (.slice cA (m' - P) cc)
        have hYB := below_set7 hXB (g := w.heap.size) (Nat.le_refl _) (.int .i64 a0) (.int .i64 a1) (.int .i64 a2) (.string (strOfNums (r.take P))) (.int .i64 a3) (.int .i64 a4) (.slice cA (m' - P) cc)
        have hYR : BReads (set7 X w.heap.size (.int .i64 a0) (.int .i64 a1) (.int .i64 a2) (.string (strOfNums (r.take P))) (.int .i64 a3) (.int .i64 a4) (.slice cA (m' - P) cc)) (set7 X w.heap.size (.int .i64 a0) (.int .i64 a1) (.int .i64 a2) (.string (strOfNums (r.take P))) (.int .i64 a3) (.int .i64 a4) (.slice cA (m' - P) cc)).heap.size cA (m' - P) (r.drop P) := reads_set7 hXR hne
        obtain ⟨Y, hY⟩ : ∃ Y, Y = set7 X w.heap.size (.int .i64 a0) (.int .i64 a1) (.int .i64 a2) (.string (strOfNums (r.take P))) (.int .i64 a3) (.int .i64 a4) (.slice cA (m' - P) cc) := ⟨_, rfl⟩
        rw [← hY] at hY0 hYB hYR
        unfold set7 at hY
        rw [← hY]
        clear hY
        exact next_ret_some (unhide HNY) hY0 hYB hYR hcm hcc hcn (fun a e => Nat.le_trans hszr (hcA a e)) rfl (by go_num)
end Go.Proofs.YtijgiieoinmjhaaDoor
