/- Chapter 14's numbers: code.add, slices.Clone of bytes, code.Num, code.Get. Conditions: as each lemma names. -/
import Derived.Test.YtijgiieoinmjhaaDoorBits
import Derived.Test.YtijgiieoinmjhaaDoorTreeMath
import Derived.Test.YtijgiieoinmjhaaDoorPath
import Derived.WalkSpells
import Derived.Deep.DeepMust
namespace Go.Proofs.YtijgiieoinmjhaaDoor
set_option linter.unusedVariables false
set_option linter.unusedSimpArgs false
open Go.RowKit

theorem elem_byte : Elem Tryd.prog 22 5 (.int .u8 0) 1 1 := ⟨Tryd.underlying22, by kernel_rfl, rfl, by omega, by omega⟩
def BReads (w : World) (B : Nat) (A : Option Addr) (n : Nat) (l : List Int) : Prop := Reads w B 1 A n (l.map (Value.int .u8))
theorem BReads.len {w : World} {B n : Nat} {A : Option Addr} {l : List Int} (h : BReads w B A n l) : l.length = n := by have := h.1; simpa using this
theorem BReads.get {w : World} {B n : Nat} {A : Option Addr} {l : List Int} (h : BReads w B A n l) {k : Nat} (hk : k < n) :
    ∃ b off x, A = some ⟨b, off, none⟩ ∧ b < B ∧ l[k]? = some x ∧ w.cell? ⟨b, off + k, none⟩ = some (.int .u8 x) := by
  obtain ⟨b, off, rfl, hb, hc⟩ := Reads.spot h (by omega) (by omega)
  have hl : k < l.length := by rw [h.len]; exact hk
  exact ⟨b, off, l[k], rfl, hb, List.getElem?_eq_getElem hl, hc k _ (by simp [hl])⟩

/-- a row of bytes of the call's own, and what was put behind it -/
def AddPost (base n : Nat) (bs : List Int) (w : World) (e : Ending) (w' : World) : Prop :=
  ∃ v, e = .returned v ∧ w'.ownsRow base 5 1 v n (bs.map (Value.int .u8)) ∧ Below base w w'

set_option maxRecDepth 100000 in
set_option maxHeartbeats 2000000 in
theorem add_any (v : Value) (n base : Nat) (bs : List Int) (z : Int) (w : World) (hown : w.ownsRow base 5 1 v n (bs.map (Value.int .u8))) (hB : base ≤ w.heap.size) (hn : n ≤ 100000000) (hbl : bs.length = n) (h1 : -9223372036854775808 ≤ z) (h2 : z < 9223372036854775808) :
    Calls Tryd.prog 57 #[v, .int .i64 z] w (AddPost base (bs ++ enc z).length (bs ++ enc z) w) := by
  have hzl := zig_lt h1 h2
  have HBL := hide hbl
  clear hbl
  have HX := hide (And.intro (fun hz => zig_neg z h1 hz) (fun hz => zig_pos z hz h2))
  rcases Int.lt_or_le z 0 with hz | hz
  all_goals
    go_enter Tryd.func57, Tryd.ntmps57
    go_wp2_with fail
    first | rw [(unhide HX).1 hz] | rw [(unhide HX).2 hz]
    clear HX
    obtain ⟨x0, hx0⟩ : ∃ x0, x0 = zig z := ⟨_, rfl⟩
    have HEZ : Hid (enc z = encN 10 x0) := hide (by rw [hx0]; rfl)
    rw [← hx0] at hzl ⊢
    have hx10 : x0 < 128 ^ 10 := Nat.lt_of_lt_of_le hzl (by decide)
    clear hx0
    go_loopw [0, 5] (fun u x wr => ∃ (xx F : Nat) (l : List Int), x = .int .u64 xx ∧ 1 ≤ F ∧ F ≤ 10 ∧ xx < 128 ^ F ∧ xx < 18446744073709551616 ∧ l.length + F ≤ n + 10 ∧ Hid (l ++ encN F xx = bs ++ encN 10 x0) ∧ wr.ownsRow base 5 1 u l.length (l.map (Value.int .u8)) ∧ Below base w wr) (fun _ x _ => (intOf x).toNat)
    case atStart => exact ⟨x0, 10, bs, rfl, by omega, by omega, hx10, hzl, by have := unhide HBL; omega, hide rfl, by rw [unhide HBL]; exact hown, Below.refl _ _⟩
    case round =>
      obtain ⟨xx, F, l, rfl, hF1, hF2, hxF, hx64, hlF, HG, hownr, hbel⟩ := hrel
      have hsz := hbel.size
      have hk9 : l.length < 1000000000 := by omega
      by_cases hx : xx < 128
      · have HG2 := hide (unhide HG)
        rw [encN_low (by omega) hx] at HG2
        have e1 : (xx : Int) % 256 = xx := by omega
        have HE1 := hide e1
        clear e1 HG hxF
        go_wp2_with (at_builtin; refine app_one elem_byte (.tmp 23) (.tmp 26) [.int .u8 (xx : Int)] rfl rfl rfl hownr rfl rfl rfl (by intro u hu; simp at hu; subst hu; rfl) hk9 (by omega) ?_; intro v2 w2 hown2 hb2 _ _)
        go_ret
        refine ⟨v2, rfl, ?_, hbel.trans hb2⟩
        rw [unhide HEZ, ← unhide HG2]
        simpa using hown2
      · obtain ⟨F2, rfl⟩ : ∃ F2, F = F2 + 1 := ⟨F - 1, by omega⟩
        have hF0 : 1 ≤ F2 := by
          rcases Nat.eq_zero_or_pos F2 with rfl | h
          · simp at hxF; omega
          · exact h
        have hxF2 : xx / 128 < 128 ^ F2 := Nat.div_lt_of_lt_mul (by rw [Nat.pow_succ] at hxF; omega)
        have HG2 : Hid ((l ++ [((xx % 128 + 128 : Nat) : Int)]) ++ encN F2 (xx / 128) = bs ++ encN 10 x0) := hide (by rw [← unhide HG, encN_high (by omega)]; simp)
        have HB := hide (byte_more xx)
        have hd : xx / 128 < xx := by omega
        clear HG hxF
        go_wp2_with (at_builtin; refine app_one elem_byte (.tmp 17) (.tmp 21) [.int .u8 (bits BinOp.or IntKind.u8 ((xx : Int) % 256) 128)] rfl rfl rfl hownr rfl rfl rfl (by intro u hu; simp at hu; subst hu; rfl) hk9 (by omega) ?_; intro v2 w2 hown2 hb2 _ _; rw [unhide HB] at hown2)
        have hown3 : w2.ownsRow base 5 1 v2 (l ++ [((xx % 128 + 128 : Nat) : Int)]).length ((l ++ [((xx % 128 + 128 : Nat) : Int)]).map (Value.int .u8)) := by simpa using hown2
        clear hown2
        go_wp2_with fail
        go_roundw
        case rel => exact ⟨xx / 128, F2, _, by go_num, hF0, by omega, hxF2, by omega, by simp; omega, HG2, hown3, hbel.trans hb2⟩
        case measure => simp [intOf] <;> omega

set_option maxRecDepth 100000 in
theorem cloneB_any (A : Option Addr) (n c B : Nat) (l : List Int) (w : World) (hr : BReads w B A n l) (hB : B ≤ w.heap.size) (hn : n ≤ 100000000) (hA : A = none → c = 0) :
    Calls Tryd.prog 45 #[.slice A n c] w (AddPost w.heap.size n l w) := by
  have hl := hr.len
  rcases A with _ | a
  · have hn0 : n = 0 := by
      rcases Nat.eq_zero_or_pos n with h | h
      · exact h
      · obtain ⟨_, _, e, _⟩ := Reads.spot hr h (by omega); cases e
    obtain rfl := hA rfl
    subst hn0
    obtain rfl : l = [] := List.eq_nil_of_length_eq_zero hl
    go_enter Tryd.func45, Tryd.ntmps45
    have hq := fun (W : World) => Lib.run_eql_slice_nil (P := Tryd.prog) W 22 5 none 0 0 0 0 Tryd.underlying22
    go_wp2_with fail
    go_ret
    exact ⟨_, rfl, World.ownsRow_nil _ _ _ _, Below.refl _ _⟩
  · have hq := fun (W : World) => Lib.run_eql_slice_nil (P := Tryd.prog) W 22 5 (some a) n c 0 0 Tryd.underlying22
    have hown0 := own_new (w := w) (B := w.heap.size) [] 5 1 0 rfl (by decide) (Nat.le_refl _)
    have hra := Reads.alloc hr hB (.cells #[] 5)
    go_enter Tryd.func45, Tryd.ntmps45
    go_wp2_with (at_builtin; refine app_many elem_byte (.tmp 5) (.tmp 6) rfl rfl rfl hown0 rfl hra (ints_oneCell .u8 l) (by omega) (by rw [World.size_alloc]; omega) ?_; intro v2 w2 hown2 hb2 _)
    go_ret
    refine ⟨v2, rfl, ?_, ((Below.refl _ _).alloc (Nat.le_refl _) _).trans hb2⟩
    simpa using hown2

theorem num_any (A : Option Addr) (n c B : Nat) (l : List Int) (z : Int) (w : World) (hr : BReads w B A n l) (hB : B ≤ w.heap.size) (hn : n ≤ 100000000) (hA : A = none → c = 0) (h1 : -9223372036854775808 ≤ z) (h2 : z < 9223372036854775808) :
    Calls Tryd.prog 41 #[.slice A n c, .int .i64 z] w (AddPost w.heap.size (l ++ enc z).length (l ++ enc z) w) := by
  have hl := hr.len
  go_enter Tryd.func41, Tryd.ntmps41
  go_wp2_with fail
  refine (cloneB_any A n c B l w hr hB hn hA).mono ?_
  rintro e w1 ⟨v1, rfl, hown1, hb1⟩
  go_wp2_with fail
  refine (add_any v1 n w.heap.size l z _ hown1 hb1.size hn hl h1 h2).mono ?_
  rintro e w2 ⟨v2, rfl, hown2, hb2⟩
  go_wp2_with fail
  go_ret
  exact ⟨v2, rfl, hown2, hb1.trans hb2⟩

theorem get_err {l : List Int} {k x : Nat} {y : Int} (h : l[k]? = some y) (hf : getFrom k x (l.drop k) = getV l) (he : (k = 9 ∧ 1 < y) ∨ (0 < k ∧ y = 0)) : getV l = (0, 0, 2) := by
  rw [← hf, drop_at h, getFrom, if_pos he]
theorem get_done {l : List Int} {k x : Nat} {y : Nat} (h : l[k]? = some (y : Int)) (hf : getFrom k x (l.drop k) = getV l) (he : ¬ ((k = 9 ∧ 1 < (y : Int)) ∨ (0 < k ∧ (y : Int) = 0))) (hy : y < 128) : getV l = (unzig (x + y % 128 * 2 ^ (7 * k)), k + 1, 0) := by
  rw [← hf, drop_at h, getFrom, if_neg he, if_pos (by omega), Int.toNat_natCast]
theorem get_next {l : List Int} {k x : Nat} {y : Nat} (h : l[k]? = some (y : Int)) (hf : getFrom k x (l.drop k) = getV l) (he : ¬ ((k = 9 ∧ 1 < (y : Int)) ∨ (0 < k ∧ (y : Int) = 0))) (hy : ¬ y < 128) : getFrom (k + 1) (x + y % 128 * 2 ^ (7 * k)) (l.drop (k + 1)) = getV l := by
  rw [← hf, drop_at h, getFrom, if_neg he, if_neg (by omega), Int.toNat_natCast]
theorem get_bound {k x y : Nat} (hk : k ≤ 9) (hx : x < 2 ^ (7 * k)) (hy : k = 9 → y ≤ 1) : x + y % 128 * 2 ^ (7 * k) < 18446744073709551616 := by
  have h : y % 128 * 2 ^ (7 * k) + 2 ^ (7 * k) = (y % 128 + 1) * 2 ^ (7 * k) := by rw [Nat.add_mul, Nat.one_mul]
  by_cases h9 : k = 9
  · subst h9
    have : y % 128 + 1 ≤ 2 := by have := hy rfl; omega
    have := Nat.mul_le_mul_right (2 ^ (7 * 9)) this
    have e : (2 : Nat) * 2 ^ (7 * 9) = 18446744073709551616 := by decide
    omega
  · have h8 : 2 ^ (7 * k) ≤ 2 ^ 56 := Nat.pow_le_pow_right (by omega) (by omega)
    have := Nat.mul_le_mul (show y % 128 + 1 ≤ 128 by omega) h8
    have e : (128 : Nat) * 2 ^ 56 = 9223372036854775808 := by decide
    omega
theorem get_small {k x y : Nat} (hx : x < 2 ^ (7 * k)) : x + y % 128 * 2 ^ (7 * k) < 2 ^ (7 * (k + 1)) := by
  have h : y % 128 * 2 ^ (7 * k) + 2 ^ (7 * k) = (y % 128 + 1) * 2 ^ (7 * k) := by rw [Nat.add_mul, Nat.one_mul]
  have := Nat.mul_le_mul_right (2 ^ (7 * k)) (show y % 128 + 1 ≤ 128 by omega)
  have e : 2 ^ (7 * (k + 1)) = 128 * 2 ^ (7 * k) := by rw [show 7 * (k + 1) = 7 * k + 7 by omega, Nat.pow_add, Nat.mul_comm]
  omega

set_option maxRecDepth 100000 in
set_option maxHeartbeats 4000000 in
theorem get_any (A : Option Addr) (n c B : Nat) (l : List Int) (w : World) (hr : BReads w B A n l) (hn : n ≤ maxLen) (hby : ∀ x ∈ l, 0 ≤ x ∧ x < 256) :
    Calls Tryd.prog 40 #[.slice A n c] w fun e w' => e = .returned (.tuple #[.int .i64 (getV l).1, .int .i64 ((getV l).2.1 : Int), errV (getV l).2.2]) ∧ w = w' := by
  have HL := hide hr.len
  have HBY := hide hby
  clear hby
  unfold maxLen at hn
  go_enter Tryd.func40, Tryd.ntmps40
  go_wp2_with fail
  go_loop [5, 10] (fun x i => ∃ k x' : Nat, k ≤ n ∧ k ≤ 9 ∧ i = .int .i64 k ∧ x = .int .u64 x' ∧ Hid (x' < 2 ^ (7 * k)) ∧ x' < 18446744073709551616 ∧ Hid (getFrom k x' (l.drop k) = getV l)) (fun _ i => n - (intOf i).toNat)
  case atStart => exact ⟨0, 0, Nat.zero_le _, by omega, rfl, rfl, hide (by decide), by omega, hide rfl⟩
  case round =>
    obtain ⟨k, x, hk, hk9, rfl, rfl, HX, hx64, HF⟩ := hrel
    by_cases hlt : k < n
    · obtain ⟨b, o, y', rfl, hbb, hy, cy⟩ := hr.get hlt
      obtain ⟨hy0, hy256⟩ := (unhide HBY) y' (List.mem_of_getElem? hy)
      obtain ⟨y, rfl⟩ : ∃ y : Nat, y' = y := ⟨y'.toNat, by omega⟩
      have HY := hide hy
      clear hy
      by_cases hA : k = 9 ∧ 1 < y
      · have HE := hide (get_err (unhide HY) (unhide HF) (.inl ⟨hA.1, by omega⟩))
        have a1 : 9 ≤ k := by omega
        have a2 : 1 < y := hA.2
        clear hA HX HF
        go_wp2_with fail
        go_ret3
        exact ⟨by rw [unhide HE]; rfl, rfl⟩
      by_cases hC : 0 < k ∧ y = 0
      · have HE := hide (get_err (unhide HY) (unhide HF) (.inr ⟨hC.1, by omega⟩))
        have a1 : 0 < k := hC.1
        have q1 : ((y : Int) == 0) = true := by simp; omega
        have q2 : decide ((1 : Int) < y) = false := by simp; omega
        clear hA hC HX HF
        by_cases h9 : 9 ≤ k
        · go_wp2_with fail
          go_ret3
          exact ⟨by rw [unhide HE]; rfl, rfl⟩
        · go_wp2_with fail
          go_ret3
          exact ⟨by rw [unhide HE]; rfl, rfl⟩
      have hno : ¬ ((k = 9 ∧ 1 < (y : Int)) ∨ (0 < k ∧ (y : Int) = 0)) := by omega
      have hbd := get_bound hk9 (unhide HX) (y := y) (by omega)
      have HR := hide (read_more x y k (unhide HX) (by omega) hbd)
      obtain ⟨g, hg⟩ : ∃ g, g = x + y % 128 * 2 ^ (7 * k) := ⟨_, rfl⟩
      have HSM := hide (get_small (y := y) (unhide HX))
      by_cases h128 : y < 128
      · have HE := hide (get_done (unhide HY) (unhide HF) hno h128)
        have HZ := hide (read_end g (by omega))
        rw [← hg] at HR HE HSM hbd
        by_cases h9 : k = 9
        · subst h9
          have q1 : decide ((1 : Int) < y) = false := by simp; omega
          have q2 : ((y : Int) == 0) = false := by simp; omega
          have hr2 := unhide HR
          rw [show ((2 : Int) ^ (7 * 9)) = 9223372036854775808 by decide] at hr2
          have HR2 := hide hr2
          clear hno hA hC HF hg HX hr2
          go_wp2_with fail
          go_ret3
          refine ⟨?_, rfl⟩
          rw [unhide HE, ← unhide HZ, ← unhide HR2]
          rfl
        · by_cases h0 : 0 < k
          · have q2 : ((y : Int) == 0) = false := by simp; omega
            clear hno hA hC HF hg HX
            go_wp2_with fail
            go_ret3
            refine ⟨?_, rfl⟩
            rw [unhide HE, ← unhide HZ, ← unhide HR]
            rfl
          · clear hno hA hC HF hg HX h9
            go_wp2_with fail
            go_ret3
            refine ⟨?_, rfl⟩
            rw [unhide HE, ← unhide HZ, ← unhide HR]
            rfl
      · have HE := hide (get_next (unhide HY) (unhide HF) hno h128)
        rw [← hg] at HR HE HSM hbd
        have h9 : k ≤ 8 := by omega
        have q2 : ((y : Int) == 0) = false := by simp; omega
        clear hno hA hC HF hg HX
        by_cases h0 : 0 < k
        · go_wp2_with fail
          go_round
          case rel => exact ⟨k + 1, g, by omega, by omega, by go_num, by rw [unhide HR], HSM, hbd, HE⟩
          case measure => simp [intOf] <;> omega
        · go_wp2_with fail
          go_round
          case rel => exact ⟨k + 1, g, by omega, by omega, by go_num, by rw [unhide HR], HSM, hbd, HE⟩
          case measure => simp [intOf] <;> omega
    · have HE : Hid (getV l = (0, 0, 8)) := hide (by rw [← unhide HF, List.drop_of_length_le (by have := unhide HL; omega)]; rfl)
      clear HX HF
      go_wp2_with fail
      go_ret3
      exact ⟨by rw [unhide HE]; rfl, rfl⟩
end Go.Proofs.YtijgiieoinmjhaaDoor
