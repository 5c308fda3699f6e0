/- log: New, step, Sync, Crash, Fail, Calls, Bytes, Safe: contracts. Conditions: a Log as it lies. -/
import Derived.Test.YtijgiieoinmjhaaDoorLog
import Derived.Test.YtijgiieoinmjhaaDoorLogP
namespace Go.Proofs.YtijgiieoinmjhaaDoor
set_option linter.unusedVariables false
set_option linter.unusedSimpArgs false
open Go.RowKit

/-- only block g is another one, and what is new -/
structure Chg (g : Nat) (w w' : World) : Prop where
  os : w'.os = w.os
  tape : w'.tape = w.tape
  output : w'.output = w.output
  size : w.heap.size ≤ w'.heap.size
  block : ∀ b, b < w.heap.size → b ≠ g → w'.heap[b]? = w.heap[b]?
theorem Chg.refl (g : Nat) (w : World) : Chg g w w := ⟨rfl, rfl, rfl, Nat.le_refl _, fun _ _ _ => rfl⟩
theorem Chg.trans {g : Nat} {a b c : World} (h : Chg g a b) (k : Chg g b c) : Chg g a c :=
  ⟨k.os.trans h.os, k.tape.trans h.tape, k.output.trans h.output, Nat.le_trans h.size k.size, fun i hi hn => (k.block i (Nat.lt_of_lt_of_le hi h.size) hn).trans (h.block i hi hn)⟩
theorem Chg.of_below {g : Nat} {w w' : World} (h : Below w.heap.size w w') : Chg g w w' := ⟨h.os, h.tape, h.output, h.size, fun b hb _ => h.block b hb⟩
theorem Chg.below {g B : Nat} {w w' : World} (h : Chg g w w') (hB : B ≤ g) (hB2 : B ≤ w.heap.size) : Below B w w' := ⟨h.os, h.tape, h.output, h.size, fun b hb => h.block b (by omega) (by omega)⟩
theorem Chg.set_ {g : Nat} {w w' : World} (h : Chg g w w') (i : Nat) (v : Value) : Chg g w (w'.setCell ⟨g, i, none⟩ v) :=
  h.trans ⟨rfl, rfl, rfl, by simp [World.setCell], fun b _ hn => Below.heap_setCell w' _ _ b hn⟩
theorem Chg.drew {g : Nat} {w w' : World} (h : Chg g w w') : Chg g w w'.drew := ⟨h.os, h.tape, h.output, h.size, h.block⟩
theorem Chg.drewN {g : Nat} {w w' : World} (h : Chg g w w') (q : Nat) : Chg g w (w'.drewN q) := ⟨h.os, h.tape, h.output, h.size, h.block⟩
theorem Chg.grown {g : Nat} {w w' w'' : World} (h : Chg g w w') (hg : w'.grownBy w'' none) : Chg g w w'' := h.trans ⟨hg.os, hg.tape, hg.output, hg.size, fun b hb _ => hg.block b hb (fun e => by cases e)⟩
theorem Chg.alloc {g : Nat} {w w' : World} (h : Chg g w w') (o : Obj) : Chg g w (w'.alloc o) := h.trans ⟨rfl, rfl, rfl, by simp, fun b hb _ => Below.heap_alloc w' o b hb⟩
theorem Chg.cell {g : Nat} {w w' : World} (h : Chg g w w') {p : Addr} (hp : p.block < w.heap.size) (hne : p.block ≠ g) : w'.cell? p = w.cell? p := World.cell?_of_block (h.block _ hp hne)
theorem Chg.reads {g n B size : Nat} {w w' : World} {A : Option Addr} {xs : List Value} (h : Chg g w w') (hr : Reads w B size A n xs) (hB : B ≤ w.heap.size) (hne : ∀ a, A = some a → a.block ≠ g) : Reads w' B size A n xs :=
  ⟨hr.1, fun hn => by
    obtain ⟨ad, e, hb, hc⟩ := hr.2 hn
    exact ⟨ad, e, hb, fun j u hu => (h.cell (by rw [block_of_add]; omega) (by rw [block_of_add]; exact hne ad e)).trans (hc j u hu)⟩⟩
theorem Blk.chg {g b : Nat} {t : TypeId} {cs : Array Value} {w w' : World} (h : Blk w b t cs) (hc : Chg g w w') (hne : b ≠ g) : Blk w' b t cs := (hc.block b h.lt hne).trans h

/-- a log as it lies, with what it holds; its count of steps is not below -q -/
def LgS (w : World) (g : Nat) (S : LS) (q : Nat) : Prop := LsOk S ∧ (-(q : Int) ≤ S.left ∧ S.left ≤ 9223372036854775807) ∧ ∃ A n c, LgIs w g A n c S.bs S.safe S.left S.st
theorem BTyp.chg {g : Nat} {w w' : World} {A : Option Addr} (h : BTyp w A) (hc : Chg g w w') (hne : ∀ a, A = some a → a.block ≠ g) : BTyp w' A := h.keep fun a e => hc.block _ (h.lt a e) (hne a e)
theorem LgIs.chg {g g' n c safe : Nat} {w w' : World} {A : Option Addr} {bs : List Int} {left : Int} {st : Bool} (h : LgIs w g A n c bs safe left st) (hc : Chg g' w w') (hne : g ≠ g') (hA : ∀ a, A = some a → a.block ≠ g') : LgIs w' g A n c bs safe left st :=
  ⟨h.blk.chg hc hne, Reads.more (hc.reads h.reads (Nat.le_refl _) hA) hc.size, h.cap, h.ne, h.nil, h.by_, h.len, h.typ.chg hc hA⟩
theorem LgIs.below {g n c safe B : Nat} {w w' : World} {A : Option Addr} {bs : List Int} {left : Int} {st : Bool} (h : LgIs w g A n c bs safe left st) (hb : Below B w w') (hB : w.heap.size ≤ B) : LgIs w' g A n c bs safe left st :=
  ⟨h.blk.below hb (by have := h.blk.lt; omega), Reads.more (Reads.below h.reads (hb.mono hB)) hb.size, h.cap, h.ne, h.nil, h.by_, h.len, h.typ.below hb hB⟩
theorem LgS.below {w w' : World} {g B q : Nat} {S : LS} (h : LgS w g S q) (hb : Below B w w') (hB : w.heap.size ≤ B) : LgS w' g S q := by
  obtain ⟨h1, h2, A, n, c, h3⟩ := h
  exact ⟨h1, h2, A, n, c, h3.below hb hB⟩
theorem LgS.more {w : World} {g q q' : Nat} {S : LS} (h : LgS w g S q) (hq : q ≤ q') : LgS w g S q' := ⟨h.1, ⟨by have := h.2.1.1; omega, h.2.1.2⟩, h.2.2⟩
theorem LgS.drewN {w : World} {g q : Nat} {S : LS} (h : LgS w g S q) (k : Nat) : LgS (w.drewN k) g S q := h.below (below_drewN (Below.refl w.heap.size w) k) (Nat.le_refl _)
/-- cells of a log are set -/
theorem LgIs.set_ {g n c safe : Nat} {w : World} {A : Option Addr} {bs : List Int} {left : Int} {st : Bool} (h : LgIs w g A n c bs safe left st) : (∀ z : Nat, LgIs (w.setCell ⟨g, 1, none⟩ (.int .i64 (z : Int))) g A n c bs z left st) ∧ (∀ z, LgIs (w.setCell ⟨g, 2, none⟩ (.int .i64 z)) g A n c bs safe z st) ∧ (∀ z, LgIs (w.setCell ⟨g, 3, none⟩ (.bool z)) g A n c bs safe left z) := by
  have hr : ∀ (i : Nat) (v : Value), BReads (w.setCell ⟨g, i, none⟩ v) (w.setCell ⟨g, i, none⟩ v).heap.size A n bs := fun i v => by
    have := (Chg.refl g w).set_ i v
    rw [show (w.setCell ⟨g, i, none⟩ v).heap.size = w.heap.size by simp [World.setCell]]
    exact this.reads h.reads (Nat.le_refl _) h.ne
  refine ⟨fun z => ⟨?_, hr _ _, h.cap, h.ne, h.nil, h.by_, h.len, h.typ.chg ((Chg.refl g w).set_ _ _) h.ne⟩, fun z => ⟨?_, hr _ _, h.cap, h.ne, h.nil, h.by_, h.len, h.typ.chg ((Chg.refl g w).set_ _ _) h.ne⟩, fun z => ⟨?_, hr _ _, h.cap, h.ne, h.nil, h.by_, h.len, h.typ.chg ((Chg.refl g w).set_ _ _) h.ne⟩⟩
  · have := h.blk.set_ 1 (.int .i64 (z : Int)); simpa [List.setIfInBounds_toArray] using this
  · have := h.blk.set_ 2 (.int .i64 z); simpa [List.setIfInBounds_toArray] using this
  · have := h.blk.set_ 3 (.bool z); simpa [List.setIfInBounds_toArray] using this
theorem LgIs.cells {g n c safe : Nat} {w : World} {A : Option Addr} {bs : List Int} {left : Int} {st : Bool} (h : LgIs w g A n c bs safe left st) : w.cell? ⟨g, 0, none⟩ = some (.slice A n c) ∧ w.cell? ⟨g, 1, none⟩ = some (.int .i64 (safe : Int)) ∧ w.cell? ⟨g, 2, none⟩ = some (.int .i64 left) ∧ w.cell? ⟨g, 3, none⟩ = some (.bool st) := ⟨h.blk.cell 0, h.blk.cell 1, h.blk.cell 2, h.blk.cell 3⟩

theorem end0 {P : Program} {fn : Func} {R : Ending → World → Prop} {a : Act} {w : World} (hr : fn.results = #[]) (hd : a.defers = []) (hR : R (.returned (.tuple #[])) w) : bodyPost P fn R .normal a w :=
  ⟨hd, .tuple #[], by simp [results, hr], hR⟩
def timeB (n : Int) : Bool := decide (0 ≤ n) && decide (n ≤ 1000000)
theorem timeB_t {n : Int} : timeB n = true ↔ InT n := by simp [timeB, InT]
theorem time_any (n : Int) (w : World) : Calls Tryd.prog 47 #[.int .i64 n] w fun e w' => e = .returned (.bool (timeB n)) ∧ w = w' := by
  by_cases h1 : 0 ≤ n
  · by_cases h2 : n ≤ 1000000
    · go_enter Tryd.func47, Tryd.ntmps47
      go_wp2
      go_ret
      exact ⟨by simp [timeB, h1, h2], rfl⟩
    · go_enter Tryd.func47, Tryd.ntmps47
      go_wp2
      go_ret
      exact ⟨by simp [timeB, h1, h2], rfl⟩
  · go_enter Tryd.func47, Tryd.ntmps47
    go_wp2
    go_ret
    exact ⟨by rw [show timeB n = false by simp only [timeB, Bool.and_eq_false_iff, decide_eq_false_iff_not]; omega]; rfl, rfl⟩

theorem lognew_any (w : World) : Calls Tryd.prog 22 #[] w fun e w' => e = .returned (.pointer (some ⟨w.heap.size, 0, none⟩)) ∧ LgS w' w.heap.size ⟨[], [], 0, -1, false⟩ 1 ∧ Below w.heap.size w w' ∧ w'.heap.size = w.heap.size + 1 := by
  have hb := Blk.new w 101 #[.slice none 0 0, .int .i64 0, .int .i64 (-1), .bool false]
  go_enter Tryd.func22, Tryd.ntmps22
  go_wp2_with fail
  go_ret
  exact ⟨rfl, ⟨LsOk.start, ⟨by decide, by decide⟩, none, 0, 0, ⟨hb, Reads.none_, Nat.le_refl _, (fun a e => nomatch e), (fun _ => rfl), (fun x hx => nomatch hx), by decide, BTyp.none_ _⟩⟩, (Below.refl _ _).alloc (Nat.le_refl _) _, by simp⟩

set_option maxHeartbeats 1000000 in
theorem logstep_any (g A n c bs safe) (left : Int) (st : Bool) (w : World) (h : LgIs w g A n c bs safe left st) (h1 : -1000000000 ≤ left) (h2 : left ≤ 9223372036854775807) :
    Calls Tryd.prog 50 #[.pointer (some ⟨g, 0, none⟩)] w fun e w' => e = .returned (.bool (st || decide (left = 0))) ∧ LgIs w' g A n c bs safe (left - 1) (st || decide (left = 0)) ∧ Chg g w w' := by
  obtain ⟨c0, c1, c2, c3⟩ := h.cells
  have f2 := h.blk.frozen 2
  have f3 := h.blk.frozen 3
  by_cases h0 : left = 0
  · subst h0
    have hs := (h.set_.2.2 true)
    have hs2 := hs.set_.2.1 (-1)
    have hc := ((Chg.refl g w).set_ 3 (.bool true)).set_ 2 (.int .i64 (-1))
    go_enter Tryd.func50, Tryd.ntmps50
    go_wp2_with fail
    go_ret
    exact ⟨by simp, by simpa using hs2, hc⟩
  · have d0 : (left == 0) = false := by simpa using h0
    have hs2 := h.set_.2.1 (left - 1)
    have hc := (Chg.refl g w).set_ 2 (.int .i64 (left - 1))
    go_enter Tryd.func50, Tryd.ntmps50
    go_wp2_with fail
    go_ret
    exact ⟨by simp [h0], by simpa [h0] using hs2, hc⟩

set_option maxHeartbeats 1000000 in
theorem sync_any (g q : Nat) (S : LS) (w : World) (h : LgS w g S q) (hq : q ≤ 1000000) :
    Calls Tryd.prog 27 #[.pointer (some ⟨g, 0, none⟩)] w fun e w' => e = .returned (errV S.syncE) ∧ LgS w' g S.sync (q + 1) ∧ Chg g w w' := by
  obtain ⟨cs, tail, safe, left, st⟩ := S
  obtain ⟨hok, hl, A, n, c, hi⟩ := h
  dsimp only at hl hi
  obtain ⟨c0, c1, c2, c3⟩ := hi.cells
  have hok2 := hok.sync_
  have hbl := hi.reads.len
  cases st with
  | true =>
    have he : LS.syncE ⟨cs, tail, safe, left, true⟩ = 9 := rfl
    have hs : LS.sync ⟨cs, tail, safe, left, true⟩ = ⟨cs, tail, safe, left, true⟩ := rfl
    rw [he, hs]
    go_enter Tryd.func27, Tryd.ntmps27
    go_wp2_with fail
    go_ret
    exact ⟨rfl, ⟨hok, ⟨by show -((q + 1 : Nat) : Int) ≤ left; omega, hl.2⟩, A, n, c, hi⟩, Chg.refl _ _⟩
  | false =>
    have hst := hide (logstep_any g A n c _ safe left false w hi (by omega) hl.2)
    by_cases h0 : left = 0
    · have he : LS.syncE ⟨cs, tail, safe, left, false⟩ = 9 := by simp [LS.syncE, h0]
      have hs : LS.sync ⟨cs, tail, safe, left, false⟩ = ⟨cs, tail, safe, left - 1, true⟩ := by simp [LS.sync, h0]
      rw [he, hs]
      rw [hs] at hok2
      clear he hs
      rw [show (false || decide (left = 0)) = true by simp [h0]] at hst
      go_enter Tryd.func27, Tryd.ntmps27
      go_wp2_with fail
      refine (unhide hst).mono ?_
      rintro e w1 ⟨rfl, hi1, hc1⟩
      go_wp2_with fail
      go_ret
      exact ⟨rfl, ⟨hok2, ⟨by show -((q + 1 : Nat) : Int) ≤ left - 1; omega, by show left - 1 ≤ 9223372036854775807; omega⟩, A, n, c, hi1⟩, hc1⟩
    · have he : LS.syncE ⟨cs, tail, safe, left, false⟩ = 0 := by simp [LS.syncE, h0]
      have hs : LS.sync ⟨cs, tail, safe, left, false⟩ = ⟨cs, tail, n, left - 1, false⟩ := by simp [LS.sync, h0, hbl]
      rw [he, hs]
      rw [hs] at hok2
      clear he hs
      rw [show (false || decide (left = 0)) = false by simp [h0]] at hst
      go_enter Tryd.func27, Tryd.ntmps27
      go_wp2_with fail
      refine (unhide hst).mono ?_
      rintro e w1 ⟨rfl, hi1, hc1⟩
      obtain ⟨e0, e1, e2, e3⟩ := hi1.cells
      have f1 := hi1.blk.frozen 1
      have hi2 := hi1.set_.1 n
      have hc2 := hc1.set_ 1 (.int .i64 (n : Int))
      go_wp2_with fail
      go_ret
      exact ⟨rfl, ⟨hok2, ⟨by show -((q + 1 : Nat) : Int) ≤ left - 1; omega, by show left - 1 ≤ 9223372036854775807; omega⟩, A, n, c, hi2⟩, hc2⟩

set_option maxHeartbeats 1000000 in
theorem fail_any (g q : Nat) (S : LS) (n : Int) (w : World) (h : LgS w g S q) (hq : 1 ≤ q) (hn : n ≤ 9223372036854775807) :
    Calls Tryd.prog 23 #[.pointer (some ⟨g, 0, none⟩), .int .i64 n] w fun e w' => e = .returned (.tuple #[]) ∧ LgS w' g (S.fail n) q ∧ Chg g w w' := by
  obtain ⟨cs, tail, safe, left, st⟩ := S
  obtain ⟨hok, hl, A, m, c, hi⟩ := h
  dsimp only at hl hi
  obtain ⟨c0, c1, c2, c3⟩ := hi.cells
  have f2 := hi.blk.frozen 2
  by_cases h1 : n ≤ -1
  · have hs : LS.fail ⟨cs, tail, safe, left, st⟩ n = ⟨cs, tail, safe, -1, st⟩ := by simp only [LS.fail]; rw [Int.max_eq_left h1]
    rw [hs]
    have hi2 := hi.set_.2.1 (-1)
    have hc := (Chg.refl g w).set_ 2 (.int .i64 (-1))
    clear hs
    go_enter Tryd.func23, Tryd.ntmps23
    go_wp2_with fail
    refine end0 (by kernel_rfl) rfl ?_
    exact ⟨rfl, ⟨⟨hok.good, hok.tail, hok.safe, hok.len⟩, ⟨by show -(q : Int) ≤ -1; omega, by show (-1 : Int) ≤ 9223372036854775807; decide⟩, A, m, c, hi2⟩, hc⟩
  · have hs : LS.fail ⟨cs, tail, safe, left, st⟩ n = ⟨cs, tail, safe, n, st⟩ := by simp only [LS.fail]; rw [Int.max_eq_right (by omega)]
    rw [hs]
    have hi2 := hi.set_.2.1 n
    have hc := (Chg.refl g w).set_ 2 (.int .i64 n)
    clear hs
    go_enter Tryd.func23, Tryd.ntmps23
    go_wp2_with fail
    refine end0 (by kernel_rfl) rfl ?_
    exact ⟨rfl, ⟨⟨hok.good, hok.tail, hok.safe, hok.len⟩, ⟨by show -(q : Int) ≤ n; omega, hn⟩, A, m, c, hi2⟩, hc⟩

theorem logsafe_any (g q : Nat) (S : LS) (w : World) (h : LgS w g S q) : Calls Tryd.prog 28 #[.pointer (some ⟨g, 0, none⟩)] w fun e w' => e = .returned (.int .i64 (S.safe : Int)) ∧ w = w' := by
  obtain ⟨hok, hl, A, m, c, hi⟩ := h
  obtain ⟨c0, c1, c2, c3⟩ := hi.cells
  go_enter Tryd.func28, Tryd.ntmps28
  go_wp2_with fail
  go_ret
  exact ⟨rfl, rfl⟩
theorem logbytes_any (g q : Nat) (S : LS) (w : World) (h : LgS w g S q) : Calls Tryd.prog 26 #[.pointer (some ⟨g, 0, none⟩)] w (AddPost w.heap.size S.bs.length S.bs w) := by
  obtain ⟨hok, hl, A, m, c, hi⟩ := h
  obtain ⟨c0, c1, c2, c3⟩ := hi.cells
  have hbl := hi.reads.len
  have hcl := hide (cloneB_any A m c w.heap.size S.bs w hi.reads (Nat.le_refl _) (by have := hi.len; omega) hi.nil)
  have HB := hide hbl
  clear hbl
  go_enter Tryd.func26, Tryd.ntmps26
  go_wp2_with fail
  refine (unhide hcl).mono ?_
  rintro e w1 ⟨v, rfl, hown, hb⟩
  go_wp2_with fail
  go_ret
  exact ⟨v, rfl, by rw [unhide HB]; exact hown, hb⟩
def CallsPost (cs : List Cl) (w : World) (e : Ending) (w' : World) : Prop := ∃ v rs, e = .returned v ∧ rs.map Cv.c = cs ∧ CvRow w' w.heap.size v rs ∧ Below w.heap.size w w'
theorem logcalls_any (g q : Nat) (S : LS) (w : World) (h : LgS w g S q) : Calls Tryd.prog 25 #[.pointer (some ⟨g, 0, none⟩)] w (CallsPost S.cs w) := by
  obtain ⟨hok, hl, A, m, c, hi⟩ := h
  have hw := hide (whole_any g A m c S.cs S.tail S.safe S.left S.st w hi hok.good (next_tail hok.tail))
  go_enter Tryd.func25, Tryd.ntmps25
  go_wp2_with fail
  refine (unhide hw).mono ?_
  rintro e w1 ⟨v, rs, rfl, hr, ho, hb⟩
  go_wp2_with fail
  go_ret
  exact ⟨v, rs, rfl, hr, ho, hb⟩
end Go.Proofs.YtijgiieoinmjhaaDoor
