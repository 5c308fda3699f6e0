/- A block that changes alone; the end of a function without results; a part of what reads; bytes as a string. Conditions: as each lemma names. -/
import Derived.Test.YtijgiieoinmjhaaDoorCallP
import Derived.Laws.BytesArg
import Derived.Laws.BytesString
import Derived.Deep.RegionHeld3
import Derived.Deep.RegionLaw
import Derived.Deep.DeepCutAuto
import Derived.Deep.CutRange
import Derived.Deep.CutBlock
namespace Go.Proofs.YtijgiieoinmjhaaDoor
set_option linter.unusedVariables false
set_option linter.unusedSimpArgs false
open Go.RowKit

/-- only block g is another one, and what is new -/
structure Chg (g : Nat) (w w' : World) : Prop where
  os : w'.os = w.os
  tape : w'.tape = w.tape
  output : w'.output = w.output
  size : w.heap.size ≤ w'.heap.size
  block : ∀ b, b < w.heap.size → b ≠ g → w'.heap[b]? = w.heap[b]?
theorem Chg.refl (g : Nat) (w : World) : Chg g w w := ⟨rfl, rfl, rfl, Nat.le_refl _, fun _ _ _ => rfl⟩
theorem Chg.trans {g : Nat} {a b c : World} (h : Chg g a b) (k : Chg g b c) : Chg g a c :=
  ⟨k.os.trans h.os, k.tape.trans h.tape, k.output.trans h.output, Nat.le_trans h.size k.size, fun i hi hn => (k.block i (Nat.lt_of_lt_of_le hi h.size) hn).trans (h.block i hi hn)⟩
theorem Chg.of_below {g : Nat} {w w' : World} (h : Below w.heap.size w w') : Chg g w w' := ⟨h.os, h.tape, h.output, h.size, fun b hb _ => h.block b hb⟩
theorem Chg.below {g B : Nat} {w w' : World} (h : Chg g w w') (hB : B ≤ g) (hB2 : B ≤ w.heap.size) : Below B w w' := ⟨h.os, h.tape, h.output, h.size, fun b hb => h.block b (by omega) (by omega)⟩
theorem Chg.set_ {g : Nat} {w w' : World} (h : Chg g w w') (i : Nat) (v : Value) : Chg g w (w'.setCell ⟨g, i, none⟩ v) :=
  h.trans ⟨rfl, rfl, rfl, by simp [World.setCell], fun b _ hn => Below.heap_setCell w' _ _ b hn⟩
theorem Chg.drew {g : Nat} {w w' : World} (h : Chg g w w') : Chg g w w'.drew := ⟨h.os, h.tape, h.output, h.size, h.block⟩
theorem Chg.drewN {g : Nat} {w w' : World} (h : Chg g w w') (q : Nat) : Chg g w (w'.drewN q) := ⟨h.os, h.tape, h.output, h.size, h.block⟩
theorem Chg.grown {g : Nat} {w w' w'' : World} (h : Chg g w w') (hg : w'.grownBy w'' none) : Chg g w w'' := h.trans ⟨hg.os, hg.tape, hg.output, hg.size, fun b hb _ => hg.block b hb (fun e => by cases e)⟩
theorem Chg.alloc {g : Nat} {w w' : World} (h : Chg g w w') (o : Obj) : Chg g w (w'.alloc o) := h.trans ⟨rfl, rfl, rfl, by simp, fun b hb _ => Below.heap_alloc w' o b hb⟩
theorem Chg.cell {g : Nat} {w w' : World} (h : Chg g w w') {p : Addr} (hp : p.block < w.heap.size) (hne : p.block ≠ g) : w'.cell? p = w.cell? p := World.cell?_of_block (h.block _ hp hne)
theorem Chg.reads {g n B size : Nat} {w w' : World} {A : Option Addr} {xs : List Value} (h : Chg g w w') (hr : Reads w B size A n xs) (hB : B ≤ w.heap.size) (hne : ∀ a, A = some a → a.block ≠ g) : Reads w' B size A n xs :=
  ⟨hr.1, fun hn => by
    obtain ⟨ad, e, hb, hc⟩ := hr.2 hn
    exact ⟨ad, e, hb, fun j u hu => (h.cell (by rw [block_of_add]; omega) (by rw [block_of_add]; exact hne ad e)).trans (hc j u hu)⟩⟩
theorem Blk.chg {g b : Nat} {t : TypeId} {cs : Array Value} {w w' : World} (h : Blk w b t cs) (hc : Chg g w w') (hne : b ≠ g) : Blk w' b t cs := (hc.block b h.lt hne).trans h

theorem end0 {P : Program} {fn : Func} {R : Ending → World → Prop} {a : Act} {w : World} (hr : fn.results = #[]) (hd : a.defers = []) (hR : R (.returned (.tuple #[])) w) : bodyPost P fn R .normal a w :=
  ⟨hd, .tuple #[], by simp [results, hr], hR⟩
def timeB (n : Int) : Bool := decide (0 ≤ n) && decide (n ≤ 1000000)
theorem timeB_t {n : Int} : timeB n = true ↔ InT n := by simp [timeB, InT]
theorem time_any (n : Int) (w : World) : Calls Tryd.prog 47 #[.int .i64 n] w fun e w' => e = .returned (.bool (timeB n)) ∧ w = w' := by
  by_cases h1 : 0 ≤ n
  · by_cases h2 : n ≤ 1000000
    · go_enter Tryd.func47, Tryd.ntmps47
      go_wp2
      go_ret
      exact ⟨by simp [timeB, h1, h2], rfl⟩
    · go_enter Tryd.func47, Tryd.ntmps47
      go_wp2
      go_ret
      exact ⟨by simp [timeB, h1, h2], rfl⟩
  · go_enter Tryd.func47, Tryd.ntmps47
    go_wp2
    go_ret
    exact ⟨by rw [show timeB n = false by simp only [timeB, Bool.and_eq_false_iff, decide_eq_false_iff_not]; omega]; rfl, rfl⟩
theorem Reads.short {w : World} {B size n : Nat} {A : Option Addr} {xs : List Value} (h : Reads w B size A n xs) {k : Nat} (hk : k ≤ n) : Reads w B size A k (xs.take (k * size)) := by
  refine ⟨by rw [List.length_take, h.1]; exact Nat.min_eq_left (Nat.mul_le_mul_right _ hk), fun h0 => ?_⟩
  obtain ⟨ad, e, hb, hc⟩ := h.2 (by omega)
  refine ⟨ad, e, hb, fun j u hu => hc j u ?_⟩
  have hj : j < (xs.take (k * size)).length := (List.getElem?_eq_some_iff.1 hu).1
  rw [List.length_take] at hj
  rwa [List.getElem?_take_of_lt (by omega)] at hu
theorem Reads.none0' {w : World} {B size n : Nat} {xs : List Value} (h : Reads w B size none n xs) : n = 0 := by
  rcases Nat.eq_zero_or_pos n with h0 | h0
  · exact h0
  · obtain ⟨_, e, _⟩ := h.2 h0; cases e
/-- bytes as a string -/
theorem conv_bytes {w : World} {B n c : Nat} {A : Option Addr} {l : List Int} (h : BReads w B A n l) : (convert 22 9 (.slice A n c)).run Tryd.prog w = .ok (.string (strOfNums l)) w := by
  have hl := h.len
  rcases A with _ | a
  · have hn : n = 0 := Reads.none0' h
    subst hn
    obtain rfl : l = [] := List.eq_nil_of_length_eq_zero hl
    exact run_convert_bytes_nil w 22 5 Tryd.underlying22 Tryd.underlying5 0 c 9 Tryd.underlying9
  · rw [run_convert_bytes_string w 22 9 5 _ n c Tryd.underlying22 Tryd.underlying5 Tryd.underlying9, run_bytesToString w a n c l ?_, foldl_push_bytes]
    · simp [strOfNums, ByteArray.empty, ByteArray.emptyWithCapacity]
      rfl
    · have := run_loadCells_list (P := Tryd.prog) w a (l.map (Value.int .u8)) (fun j v hj => by
        have hjl : j < l.length := by
          rcases Nat.lt_or_ge j l.length with h | h
          · exact h
          · rw [List.getElem?_eq_none (by simpa using h)] at hj; cases hj
        obtain ⟨ad, e, _, hc⟩ := h.2 (by omega)
        injection e with e
        subst e
        exact hc j v hj)
      simpa [hl] using this

end Go.Proofs.YtijgiieoinmjhaaDoor
