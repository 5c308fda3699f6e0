/- Part 7 of what LawPruneTells needs: Path, Code, CodeRow, Span. Conditions: as each lemma names. -/
import Derived.Test.YtefkjpcgcgofgaaDoorPkPruneTells06
import Derived.WalkSpells
import Derived.Deep.DeepMust
import Derived.Test.YtefkjpcgcgofgaaDoorPkPruneTells02
import Derived.Test.YtefkjpcgcgofgaaDoorPkPruneTells03
/- path.Path: the way of a row. Conditions: arguments read as lists. -/
namespace Go.Proofs.YtefkjpcgcgofgaaDoor
set_option linter.unusedVariables false
set_option linter.unusedSimpArgs false
open Go.RowKit

/-- the nodes behind a node on the way of a row -/
def wayFrom (t : List Nd) (row : List Int) : Nat → Nat → List Int
  | 0, _ => []
  | k + 1, i => match t[i]? with
    | some n => if n.f = -1 then [] else nextOf n (cellAt row n.f) :: wayFrom t row k (nextOf n (cellAt row n.f)).toNat
    | none => []
theorem wayFrom_leaf {t : List Nd} {row : List Int} {k i : Nat} {n : Nd} (h : t[i]? = some n) (hf : n.f = -1) : wayFrom t row k i = [] := by
  cases k with
  | zero => rfl
  | succ k => simp only [wayFrom, h, hf, if_true]
theorem wayFrom_step {t : List Nd} {row : List Int} {k i : Nat} {n : Nd} (h : t[i]? = some n) (hf : n.f ≠ -1) : wayFrom t row (k + 1) i = nextOf n (cellAt row n.f) :: wayFrom t row k (nextOf n (cellAt row n.f)).toNat := by
  simp only [wayFrom, h, hf, if_false]
theorem wayFrom_len {t : List Nd} {row : List Int} (hb : Behind t) : ∀ (k i : Nat), i < t.length → (wayFrom t row k i).length ≤ dep t i := by
  intro k
  induction k with
  | zero => intro i _; exact Nat.zero_le _
  | succ k ih =>
    intro i hi
    have hn : t[i]? = some t[i] := List.getElem?_eq_getElem hi
    by_cases hf : (t[i]).f = -1
    · rw [wayFrom_leaf hn hf]; exact Nat.zero_le _
    · obtain ⟨a, b, c, d⟩ := hb i _ hn hf
      rw [wayFrom_step hn hf, List.length_cons, dep_at hn (fun _ => a) (fun _ => c), if_neg hf]
      have e : nextOf t[i] (cellAt row (t[i]).f) = (t[i]).l ∨ nextOf t[i] (cellAt row (t[i]).f) = (t[i]).r := by
        unfold nextOf; split
        · exact .inl rfl
        · exact .inr rfl
      rcases e with e | e
      · rw [e]
        have := ih (t[i]).l.toNat (by omega)
        have := Nat.le_max_left (dep t (t[i]).l.toNat) (dep t (t[i]).r.toNat)
        omega
      · rw [e]
        have := ih (t[i]).r.toNat (by omega)
        have := Nat.le_max_right (dep t (t[i]).l.toNat) (dep t (t[i]).r.toNat)
        omega
def pathV (t : List Nd) (row : List Int) : List Int := if readyE t row = 0 then 0 :: wayFrom t row t.length 0 else []
def PathPost (t : List Nd) (row : List Int) (w : World) (e : Ending) (w' : World) : Prop :=
  ∃ v, e = .returned (.tuple #[v, errV (readyE t row)]) ∧ w'.ownsRow w.heap.size 3 1 v (pathV t row).length ((pathV t row).map (Value.int .i64)) ∧ Below w.heap.size w w'

set_option maxRecDepth 100000 in
set_option maxHeartbeats 2000000 in
theorem path_any (A C : Option Addr) (m d k q : Nat) (t : List Nd) (row : List Int) (w : World) (ht : NReads w w.heap.size A m t) (hr : IReads w w.heap.size C k row) (hm : m ≤ maxLen) (hk : k ≤ maxLen) :
    Calls Tryd.prog 23 #[.slice A m d, .slice C k q] w (PathPost t row w) := by
  have hlen := ht.len
  have hl := hr.len
  by_cases h0 : readyE t row = 0
  · have HO : Hid (pathV t row = 0 :: wayFrom t row m 0) := hide (by unfold pathV; rw [if_pos h0, hlen])
    have hv := errV_0 h0
    have HV := hide hv
    obtain ⟨_, hR, h8⟩ := readyE_right h0
    have b1 := hR.pos
    have b2 := hR.most
    have HB := hide hR.behind
    have HA := hide hR.asks
    rw [hl] at h8 HA
    rw [hlen] at b1 b2
    have HL := hide hlen
    clear h0 hl hlen hR
    go_enter Tryd.func23, Tryd.ntmps23
    go_wp2_with fail
    refine (ready_any A C m d k q t row _ ht hr hm hk).mono ?_
    rintro e w1 ⟨rfl, hb1⟩
    rw [hv]
    clear hv
    have hs1 := hb1.size
    have hown0 := own_new (w := w1) (B := w.heap.size) [.int .i64 0] 3 1 1 rfl (by decide) hs1
    go_wp2_with fail
    go_loopw [7, 8] (fun v i wr => ∃ (j F : Nat) (l : List Int), j < m ∧ i = .int .i64 j ∧ m ≤ j + F ∧ l.length ≤ j + 1 ∧ Hid (l ++ wayFrom t row F j = 0 :: wayFrom t row m 0) ∧ wr.ownsRow w.heap.size 3 1 v l.length (l.map (Value.int .i64)) ∧ Below w.heap.size w wr) (fun _ i _ => m - (intOf i).toNat)
    case atStart => exact ⟨0, m, [0], b1, rfl, by omega, Nat.le_refl _, hide rfl, hown0, hb1.alloc hs1 _⟩
    case round =>
      obtain ⟨j, F, l, hj, rfl, hF, hlj, HF, hown, hbel⟩ := hrel
      have hsz := hbel.size
      obtain ⟨b, o, n, rfl, hbb, hn, g0, g1, g2, g3, g4, g5⟩ := (ht.below hbel).get hj
      by_cases hf : n.f = -1
      · have HZ : Hid (pathV t row = l) := hide (by rw [unhide HO, ← unhide HF, wayFrom_leaf hn hf, List.append_nil])
        rw [hf] at g0
        clear hn
        go_wp2_with fail
        go_ret2
        exact ⟨_, by rw [unhide HV]; rfl, by rw [unhide HZ]; exact hown, hbel⟩
      · have hnf : (n.f != -1) = true := by simpa using hf
        obtain ⟨a1, a2⟩ := (unhide HA) j n hn hf
        obtain ⟨fn, hfn⟩ : ∃ fn : Nat, n.f = fn := ⟨n.f.toNat, by omega⟩
        have hfk : fn < k := by omega
        obtain ⟨b3, o3, x, rfl, hbb2, hx, cx⟩ := (hr.below hbel).get hfk
        have hcx : cellAt row n.f = x := by unfold cellAt; rw [hfn, Int.toNat_natCast, List.getD_eq_getElem?_getD, hx]; rfl
        obtain ⟨j2, hj2, hlt, hjm⟩ := nextOf_lt (c := x) (unhide HB) hn hf
        rw [unhide HL] at hjm
        obtain ⟨F2, rfl⟩ : ∃ F2, F = F2 + 1 := ⟨F - 1, by omega⟩
        have HF2 : Hid ((l ++ [(j2 : Int)]) ++ wayFrom t row F2 j2 = 0 :: wayFrom t row m 0) := hide (by
          have := unhide HF
          rw [wayFrom_step hn hf, hcx, hj2, Int.toNat_natCast] at this
          rw [← this]; simp)
        have HJ := hide hj2
        obtain ⟨nf, nc, nl, nr, nless, nv⟩ := n
        simp only at hfn g0 g1 g2 g3 g4 g5 hnf
        subst hfn
        have hk9 : l.length < 1000000000 := by omega
        clear hn hx hcx hj2 hf a1 a2
        go_wp2_with fail
        go_still_tail 12, (by kernel_rfl)
        go_wp2_with fail
        refine (next_any (fn : Int) nc nl nr nless nv x _).mono ?_
        rintro e w2 ⟨rfl, hb2⟩
        rw [unhide HJ]
        have hb3 : Below wr.heap.size wr w2 := ((Below.refl _ _).drew).trans hb2
        have hown2 : w2.ownsRow w.heap.size 3 1 u7 l.length (l.map (Value.int .i64)) := own_below hown hb3
        have hs2 := Nat.le_trans hsz hb3.size
        go_wp2_with (at_builtin; refine app_one elem_int (.tmp 35) (.tmp 37) [.int .i64 (j2 : Int)] rfl rfl rfl hown2 rfl rfl rfl (ints_oneCell .i64 [(j2 : Int)]) hk9 hs2 ?_; intro v' w3 hown3 hb4 _ _)
        have hown4 : w3.ownsRow w.heap.size 3 1 v' (l ++ [(j2 : Int)]).length ((l ++ [(j2 : Int)]).map (Value.int .i64)) := by simpa using hown3
        clear hown3
        go_wp2_with fail
        go_roundw
        case rel => exact ⟨j2, F2, l ++ [(j2 : Int)], by omega, rfl, by omega, by simp; omega, HF2, hown4, (hbel.trans (hb3.mono hsz)).trans hb4⟩
        case measure => simp [intOf] <;> omega
  · have HE : Hid (pathV t row = []) := hide (by unfold pathV; rw [if_neg h0])
    have hv := errV_1 h0
    have HV := hide hv
    clear h0 hl hlen
    go_enter Tryd.func23, Tryd.ntmps23
    go_wp2_with fail
    refine (ready_any A C m d k q t row _ ht hr hm hk).mono ?_
    rintro e w1 ⟨rfl, hb1⟩
    rw [hv]
    clear hv
    go_wp2_with fail
    go_ret2
    exact ⟨_, by rw [unhide HV]; rfl, by rw [unhide HE]; exact World.ownsRow_nil _ _ _ _, hb1⟩
end Go.Proofs.YtefkjpcgcgofgaaDoor
/- Chapter 14's numbers: code.add, slices.Clone of bytes, code.Num, code.Get. Conditions: as each lemma names. -/
namespace Go.Proofs.YtefkjpcgcgofgaaDoor
set_option linter.unusedVariables false
set_option linter.unusedSimpArgs false
open Go.RowKit

theorem elem_byte : Elem Tryd.prog 102 5 (.int .u8 0) 1 1 := ⟨Tryd.underlying102, by kernel_rfl, rfl, by omega, by omega⟩
def BReads (w : World) (B : Nat) (A : Option Addr) (n : Nat) (l : List Int) : Prop := Reads w B 1 A n (l.map (Value.int .u8))
theorem BReads.len {w : World} {B n : Nat} {A : Option Addr} {l : List Int} (h : BReads w B A n l) : l.length = n := by have := h.1; simpa using this
theorem BReads.get {w : World} {B n : Nat} {A : Option Addr} {l : List Int} (h : BReads w B A n l) {k : Nat} (hk : k < n) :
    ∃ b off x, A = some ⟨b, off, none⟩ ∧ b < B ∧ l[k]? = some x ∧ w.cell? ⟨b, off + k, none⟩ = some (.int .u8 x) := by
  obtain ⟨b, off, rfl, hb, hc⟩ := Reads.spot h (by omega) (by omega)
  have hl : k < l.length := by rw [h.len]; exact hk
  exact ⟨b, off, l[k], rfl, hb, List.getElem?_eq_getElem hl, hc k _ (by simp [hl])⟩

/-- a row of bytes of the call's own, and what was put behind it -/
def AddPost (base n : Nat) (bs : List Int) (w : World) (e : Ending) (w' : World) : Prop :=
  ∃ v, e = .returned v ∧ w'.ownsRow base 5 1 v n (bs.map (Value.int .u8)) ∧ Below base w w'

theorem get_err {l : List Int} {k x : Nat} {y : Int} (h : l[k]? = some y) (hf : getFrom k x (l.drop k) = getV l) (he : (k = 9 ∧ 1 < y) ∨ (0 < k ∧ y = 0)) : getV l = (0, 0, 2) := by
  rw [← hf, drop_at h, getFrom, if_pos he]
theorem get_done {l : List Int} {k x : Nat} {y : Nat} (h : l[k]? = some (y : Int)) (hf : getFrom k x (l.drop k) = getV l) (he : ¬ ((k = 9 ∧ 1 < (y : Int)) ∨ (0 < k ∧ (y : Int) = 0))) (hy : y < 128) : getV l = (unzig (x + y % 128 * 2 ^ (7 * k)), k + 1, 0) := by
  rw [← hf, drop_at h, getFrom, if_neg he, if_pos (by omega), Int.toNat_natCast]
theorem get_next {l : List Int} {k x : Nat} {y : Nat} (h : l[k]? = some (y : Int)) (hf : getFrom k x (l.drop k) = getV l) (he : ¬ ((k = 9 ∧ 1 < (y : Int)) ∨ (0 < k ∧ (y : Int) = 0))) (hy : ¬ y < 128) : getFrom (k + 1) (x + y % 128 * 2 ^ (7 * k)) (l.drop (k + 1)) = getV l := by
  rw [← hf, drop_at h, getFrom, if_neg he, if_neg (by omega), Int.toNat_natCast]
theorem get_bound {k x y : Nat} (hk : k ≤ 9) (hx : x < 2 ^ (7 * k)) (hy : k = 9 → y ≤ 1) : x + y % 128 * 2 ^ (7 * k) < 18446744073709551616 := by
  have h : y % 128 * 2 ^ (7 * k) + 2 ^ (7 * k) = (y % 128 + 1) * 2 ^ (7 * k) := by rw [Nat.add_mul, Nat.one_mul]
  by_cases h9 : k = 9
  · subst h9
    have : y % 128 + 1 ≤ 2 := by have := hy rfl; omega
    have := Nat.mul_le_mul_right (2 ^ (7 * 9)) this
    have e : (2 : Nat) * 2 ^ (7 * 9) = 18446744073709551616 := by decide
    omega
  · have h8 : 2 ^ (7 * k) ≤ 2 ^ 56 := Nat.pow_le_pow_right (by omega) (by omega)
    have := Nat.mul_le_mul (show y % 128 + 1 ≤ 128 by omega) h8
    have e : (128 : Nat) * 2 ^ 56 = 9223372036854775808 := by decide
    omega
theorem get_small {k x y : Nat} (hx : x < 2 ^ (7 * k)) : x + y % 128 * 2 ^ (7 * k) < 2 ^ (7 * (k + 1)) := by
  have h : y % 128 * 2 ^ (7 * k) + 2 ^ (7 * k) = (y % 128 + 1) * 2 ^ (7 * k) := by rw [Nat.add_mul, Nat.one_mul]
  have := Nat.mul_le_mul_right (2 ^ (7 * k)) (show y % 128 + 1 ≤ 128 by omega)
  have e : 2 ^ (7 * (k + 1)) = 128 * 2 ^ (7 * k) := by rw [show 7 * (k + 1) = 7 * k + 7 by omega, Nat.pow_add, Nat.mul_comm]
  omega

end Go.Proofs.YtefkjpcgcgofgaaDoor
/- CodeRow: the walk of the law's function. Conditions: the argument reads as a list of ints. -/
namespace Go.Proofs.YtefkjpcgcgofgaaDoor
set_option linter.unusedVariables false
set_option linter.unusedSimpArgs false
open Go.RowKit

theorem own_base {w : World} {base base' : Nat} {e : TypeId} {size n : Nat} {v : Value} {xs : List Value} (h : w.ownsRow base e size v n xs) (hb : base' ≤ base) : w.ownsRow base' e size v n xs := by
  refine ⟨h.1, ?_⟩
  rcases h.2 with hn | ⟨g, cap, cur, rfl, hg, rest⟩
  · exact .inl hn
  · exact .inr ⟨g, cap, cur, rfl, Nat.le_trans hb hg, rest⟩
theorem own_slice2 {w : World} {base : Nat} {e : TypeId} {size n : Nat} {v : Value} {xs : List Value} (h : w.ownsRow base e size v n xs) : ∃ A c, v = .slice A n c ∧ Reads w w.heap.size size A n xs ∧ n ≤ maxLen ∧ n ≤ c ∧ (A = none → c = 0) ∧ (∀ a, A = some a → base ≤ a.block) := by
  rcases h.2 with ⟨rfl, rfl⟩ | ⟨g, cap, cur, rfl, hg, _, h1, h2, _⟩
  · exact ⟨none, 0, rfl, ⟨h.1, fun h0 => absurd h0 (by omega)⟩, Nat.zero_le _, Nat.le_refl _, fun _ => rfl, fun a e => by cases e⟩
  · exact ⟨_, _, rfl, Reads.of_own h, Nat.le_trans h1 h2, h1, fun e => (by cases e), fun a e => by injection e with e; subst e; exact hg⟩

def encs (l : List Int) : List Int := l.flatMap enc
theorem encs_next {l : List Int} {k : Nat} {x : Int} (h : l[k]? = some x) : encs (l.take (k + 1)) = encs (l.take k) ++ enc x := by
  unfold encs; rw [take_next h, List.flatMap_append]; simp
theorem enc_len (z : Int) : 1 ≤ (enc z).length ∧ (enc z).length ≤ 10 := ⟨encN_pos 9 _, encN_len 10 _⟩
theorem encs_len (l : List Int) : (encs l).length ≤ 10 * l.length := by
  induction l with
  | nil => simp [encs]
  | cons x r ih => unfold encs at *; rw [List.flatMap_cons, List.length_append, List.length_cons]; have := (enc_len x).2; omega
theorem encN_bytes : ∀ (k x : Nat), ∀ y ∈ encN k x, 0 ≤ y ∧ y < 256 := by
  intro k
  induction k with
  | zero => intro x y h; simp [encN] at h
  | succ k ih =>
    intro x y h
    rw [encN] at h
    split at h
    · simp at h; subst h; omega
    · rcases List.mem_cons.1 h with rfl | h
      · omega
      · exact ih _ y h
theorem encs_bytes (l : List Int) : ∀ y ∈ encs l, 0 ≤ y ∧ y < 256 := by
  intro y h
  unfold encs at h
  obtain ⟨z, _, hz⟩ := List.mem_flatMap.1 h
  exact encN_bytes _ _ y hz
theorem encs_drop {l : List Int} {k : Nat} {x : Int} (h : l[k]? = some x) : encs (l.drop k) = enc x ++ encs (l.drop (k + 1)) := by
  unfold encs; rw [drop_at h, List.flatMap_cons]
theorem getV4 : getV [4] = (2, 1, 0) := by decide

end Go.Proofs.YtefkjpcgcgofgaaDoor
/- Chapter 5's spans: path.Some, path.Any, path.Wide, path.Side, slices.Clone of spans. Conditions: as each lemma names. -/
namespace Go.Proofs.YtefkjpcgcgofgaaDoor
set_option linter.unusedVariables false
set_option linter.unusedSimpArgs false
open Go.RowKit

def someB (s : Sp) : Bool := decide (s.low ≤ s.high) || s.ab
def anyB (l : List Sp) : Bool := l.all someB

theorem some_any (lo hi : Int) (ab : Bool) (w : World) :
    Calls Tryd.prog 74 #[.agg #[.int .i64 lo, .int .i64 hi, .bool ab]] w fun e w' => e = .returned (.bool (someB ⟨lo, hi, ab⟩)) ∧ Below w.heap.size w w' := by
  by_cases h1 : lo ≤ hi
  · have HE : Hid (someB ⟨lo, hi, ab⟩ = true) := hide (by simp [someB, h1])
    go_enter Tryd.func74, Tryd.ntmps74
    go_wp2
    go_ret
    exact ⟨by rw [unhide HE]; rfl, by go_grown⟩
  · have HE : Hid (someB ⟨lo, hi, ab⟩ = ab) := hide (by simp [someB, h1])
    go_enter Tryd.func74, Tryd.ntmps74
    go_wp2
    go_ret
    exact ⟨by rw [unhide HE]; rfl, by go_grown⟩

theorem any1_any (lo hi : Int) (ab : Bool) (w : World) :
    Calls Tryd.prog 73 #[.agg #[.int .i64 lo, .int .i64 hi, .bool ab]] w fun e w' => e = .returned (.bool (!someB ⟨lo, hi, ab⟩)) ∧ Below w.heap.size w w' := by
  go_enter Tryd.func73, Tryd.ntmps73
  go_wp2_with fail
  refine (some_any lo hi ab _).mono ?_
  rintro e w1 ⟨rfl, hb1⟩
  go_wp2_with fail
  go_ret
  exact ⟨rfl, ((Below.refl _ _).alloc (Nat.le_refl _) _).trans (hb1.mono (by simp))⟩

def badAtS : List Sp → Nat → Int
  | [], _ => -1
  | s :: r, k => if someB s then badAtS r (k + 1) else (k : Int)
theorem badAtS_any : ∀ (l : List Sp) (k : Nat), (badAtS l k < 0 ↔ anyB l = true) := by
  intro l
  induction l with
  | nil => intro k; simp [badAtS, anyB]
  | cons s r ih =>
    intro k
    rw [badAtS]
    by_cases h : someB s = true
    · rw [if_pos h, ih (k + 1)]; simp [anyB, h]
    · rw [if_neg h]; simp [anyB, h]
theorem badAtS_drop {l : List Sp} {k : Nat} {s : Sp} (h : l[k]? = some s) : badAtS (l.drop k) k = if someB s then badAtS (l.drop (k + 1)) (k + 1) else (k : Int) := by
  have : l.drop k = s :: l.drop (k + 1) := by
    obtain ⟨hk, e⟩ := List.getElem?_eq_some_iff.1 h
    rw [List.drop_eq_getElem_cons hk, e]
  rw [this, badAtS]

theorem index_any (A : Option Addr) (n c B : Nat) (l : List Sp) (w : World) (hr : SReads w B A n l) (hB : B ≤ w.heap.size) (hn : n ≤ 100000000) :
    Calls Tryd.prog 82 #[.slice A n c, .func (.func 73) #[] #[]] w fun e w' => e = .returned (.int .i64 (badAtS l 0)) ∧ Below w.heap.size w w' := by
  have HL := hide hr.len
  go_enter Tryd.func82, Tryd.ntmps82
  go_wp2_with fail
  go_loopw [8] (fun i wr => ∃ k : Nat, k ≤ n ∧ i = .int .i64 k ∧ Hid (badAtS (l.drop k) k = badAtS l 0) ∧ Below w.heap.size w wr) (fun i _ => n - (intOf i).toNat)
  case atStart => exact ⟨0, Nat.zero_le _, rfl, hide (by simp), Below.refl _ _⟩
  case round =>
    obtain ⟨k, hk, rfl, HG, hbel⟩ := hrel
    by_cases hlt : k < n
    · obtain ⟨b, o, x, rfl, hb, hx, c0, c1, c2⟩ := (hr.below (hbel.mono hB)).get hlt
      have HD := hide (badAtS_drop hx)
      obtain ⟨x0, x1, x2⟩ := x
      dsimp only at c0 c1 c2
      clear hx
      go_wp2_with fail
      refine (any1_any x0 x1 x2 _).mono ?_
      rintro e w1 ⟨rfl, hb1⟩
      by_cases hs : someB ⟨x0, x1, x2⟩ = true
      · rw [hs]
        have HD2 := hide (unhide HD)
        go_wp2_with fail
        go_roundw
        case rel => exact ⟨k + 1, by omega, by go_num, hide (by rw [← unhide HG, unhide HD, if_pos hs]), hbel.trans (hb1.mono hbel.size)⟩
        case measure => simp [intOf]; omega
      · have hs2 : someB ⟨x0, x1, x2⟩ = false := by simpa using hs
        rw [hs2]
        go_wp2_with fail
        go_ret
        exact ⟨ret_int (by rw [← unhide HG, unhide HD, if_neg hs]), hbel.trans (hb1.mono hbel.size)⟩
    · have h0 : badAtS l 0 = -1 := by
        rw [← unhide HG, List.drop_of_length_le (by have := unhide HL; omega)]; rfl
      have H0 := hide h0
      clear h0
      go_wp2_with fail
      go_ret
      exact ⟨ret_int (unhide H0).symm, hbel⟩

theorem any_any (A : Option Addr) (n c B : Nat) (l : List Sp) (w : World) (hr : SReads w B A n l) (hB : B ≤ w.heap.size) (hn : n ≤ 100000000) :
    Calls Tryd.prog 53 #[.slice A n c] w fun e w' => e = .returned (.bool (anyB l)) ∧ Below w.heap.size w w' := by
  have hcon : ∀ w, SReads w B A n l → B ≤ w.heap.size → Calls Tryd.prog 72 #[.slice A n c, .func (.func 73) #[] #[]] w fun e w' => e = .returned (.bool (!anyB l)) ∧ Below w.heap.size w w' := by
    intro w hr hB
    have HB := hide (badAtS_any l 0)
    go_enter Tryd.func72, Tryd.ntmps72
    go_wp2_with fail
    refine (index_any A n c B l _ hr hB hn).mono ?_
    rintro e w1 ⟨rfl, hb1⟩
    go_wp2_with fail
    go_ret
    refine ⟨ret_bool ?_, hb1⟩
    have := unhide HB
    by_cases h : badAtS l 0 < 0
    · rw [this.1 h]; simp; omega
    · have h2 : anyB l = false := by
        rcases Bool.eq_false_or_eq_true (anyB l) with h3 | h3
        · exact absurd (this.2 h3) h
        · exact h3
      rw [h2]; simp; omega
  go_enter Tryd.func53, Tryd.ntmps53
  go_wp2_with fail
  refine (hcon _ hr hB).mono ?_
  rintro e w1 ⟨rfl, hb1⟩
  go_wp2_with fail
  go_ret
  exact ⟨ret_bool (by simp), hb1⟩
end Go.Proofs.YtefkjpcgcgofgaaDoor
