/- Chapter 14 in the references: Num. Conditions: as the lemma names. -/
import Derived.Test.YtijgiieoinmjhaaDoorCode
namespace Go.Proofs.YtijgiieoinmjhaaDoor
set_option linter.unusedVariables false
set_option linter.unusedSimpArgs false
open Go.RowKit

set_option maxRecDepth 100000 in
set_option maxHeartbeats 2000000 in
theorem rnum_any (A : Option Addr) (n c B : Nat) (bs : List Int) (z : Int) (w : World) (hr : BReads w B A n bs) (hn : n ≤ 100000000) (h1 : -9223372036854775808 ≤ z) (h2 : z < 9223372036854775808) :
    Calls Tryd.prog 42 #[.slice A n c, .int .i64 z] w (AddPost w.heap.size (bs ++ enc z).length (bs ++ enc z) w) := by
  have hzl := zig_lt h1 h2
  have HBL := hide hr.len
  have hown0 := World.ownsRow_nil w w.heap.size 5 1
  have hone := ints_oneCell .u8 bs
  have hlt9 : 0 + n < 1000000000 := by omega
  obtain ⟨x0, hx0⟩ : ∃ x0, x0 = zig z := ⟨_, rfl⟩
  have HEZ : Hid (enc z = encN 10 x0) := hide (by rw [hx0]; rfl)
  rw [← hx0] at hzl
  have hx10 : x0 < 128 ^ 10 := Nat.lt_of_lt_of_le hzl (by decide)
  have hxp : Hid (0 ≤ z → (x0 : Int) = z * 2) := hide (fun h => by rw [hx0]; unfold zig; rw [if_pos h]; omega)
  have hxn : Hid (z < 0 → (x0 : Int) = (-(z + 1)) * 2 + 1) := hide (fun h => by rw [hx0]; unfold zig; rw [if_neg (by omega)]; omega)
  clear hx0
  rcases Int.lt_or_le z 0 with hz | hz
  all_goals
    go_enter Tryd.func42, Tryd.ntmps42
    go_wp2_with (at_builtin; refine app_many elem_byte (.tmp 7) (.tmp 8) rfl rfl rfl hown0 rfl hr hone hlt9 (Nat.le_refl _) ?_; intro v0 w0 hown1 hb1 _; rw [Nat.zero_add, List.nil_append] at hown1)
    first | rw [← unhide hxp hz] | rw [← unhide hxn hz]
    have hown2 : w0.ownsRow w.heap.size 5 1 v0 bs.length (bs.map (Value.int .u8)) := by rw [unhide HBL]; exact hown1
    clear hxp hxn hown1
    go_loopw [5, 6] (fun u x wr => ∃ (xx F : Nat) (l : List Int), x = .int .u64 xx ∧ 1 ≤ F ∧ F ≤ 10 ∧ xx < 128 ^ F ∧ xx < 18446744073709551616 ∧ l.length + F ≤ n + 10 ∧ Hid (l ++ encN F xx = bs ++ encN 10 x0) ∧ wr.ownsRow w.heap.size 5 1 u l.length (l.map (Value.int .u8)) ∧ Below w.heap.size w wr) (fun _ x _ => (intOf x).toNat)
    case atStart => exact ⟨x0, 10, bs, rfl, by omega, by omega, hx10, hzl, by have := unhide HBL; omega, hide rfl, hown2, hb1⟩
    case round =>
      clear hown2 hb1 hown0 hr hone
      obtain ⟨xx, F, l, rfl, hF1, hF2, hxF, hx64, hlF, HG, hownr, hbel⟩ := hrel
      have hsz := hbel.size
      have hk9 : l.length < 1000000000 := by omega
      by_cases hx : xx < 128
      · have HG2 := hide (unhide HG)
        rw [encN_low (by omega) hx] at HG2
        have e1 : (xx : Int) % 256 = xx := by omega
        have d1 : decide (127 < (xx : Int)) = false := by simp; omega
        have HE1 := hide e1
        clear e1 HG hxF
        go_wp2_with (at_builtin; refine app_one elem_byte (.tmp 32) (.tmp 35) [.int .u8 (xx : Int)] rfl rfl rfl hownr rfl rfl rfl (by intro u hu; simp at hu; subst hu; rfl) hk9 (by omega) ?_; intro v2 w2 hown2 hb2 _ _)
        go_ret
        refine ⟨v2, rfl, ?_, hbel.trans hb2⟩
        rw [unhide HEZ, ← unhide HG2]
        simpa using hown2
      · obtain ⟨F2, rfl⟩ : ∃ F2, F = F2 + 1 := ⟨F - 1, by omega⟩
        have hF0 : 1 ≤ F2 := by
          rcases Nat.eq_zero_or_pos F2 with rfl | h
          · simp at hxF; omega
          · exact h
        have hxF2 : xx / 128 < 128 ^ F2 := Nat.div_lt_of_lt_mul (by rw [Nat.pow_succ] at hxF; omega)
        have HG2 : Hid ((l ++ [((xx % 128 + 128 : Nat) : Int)]) ++ encN F2 (xx / 128) = bs ++ encN 10 x0) := hide (by rw [← unhide HG, encN_high (by omega)]; simp)
        have hd : xx / 128 < xx := by omega
        have d1 : decide (127 < (xx : Int)) = true := by simp; omega
        have HV : Hid (((xx : Int) % 128 + 128) = ((xx % 128 + 128 : Nat) : Int)) := hide (by omega)
        clear HG hxF
        go_wp2_with (at_builtin; refine app_one elem_byte (.tmp 23) (.tmp 28) [.int .u8 ((xx : Int) % 128 + 128)] rfl rfl rfl hownr rfl rfl rfl (by intro u hu; simp at hu; subst hu; rfl) hk9 (by omega) ?_; intro v2 w2 hown2 hb2 _ _; rw [unhide HV] at hown2)
        have hown3 : w2.ownsRow w.heap.size 5 1 v2 (l ++ [((xx % 128 + 128 : Nat) : Int)]).length ((l ++ [((xx % 128 + 128 : Nat) : Int)]).map (Value.int .u8)) := by simpa using hown2
        clear hown2
        go_wp2_with fail
        go_roundw
        case rel => exact ⟨xx / 128, F2, _, by go_num, hF0, by omega, hxF2, by omega, by simp; omega, HG2, hown3, hbel.trans hb2⟩
        case measure => simp [intOf] <;> omega
end Go.Proofs.YtijgiieoinmjhaaDoor
