/- code.add once more: only the row's own block is another one. Conditions: as the lemma names. -/
import Derived.Test.YtijgiieoinmjhaaDoorCode
import Derived.Test.YtijgiieoinmjhaaDoorApp
namespace Go.Proofs.YtijgiieoinmjhaaDoor
set_option linter.unusedVariables false
set_option linter.unusedSimpArgs false
open Go.RowKit

/-- from w to wr only the row v0 grew; u is where it lies now -/
structure Grow (w wr : World) (v0 u : Value) : Prop where
  gb : w.grownBy wr v0.ownBlock
  at_ : u.ownBlock = v0.ownBlock ∨ ∀ k, u.ownBlock = some k → w.heap.size ≤ k
theorem grownBy_two {w wr w' : World} {v0 u : Value} (h : Grow w wr v0 u) (hg : wr.grownBy w' u.ownBlock) : w.grownBy w' v0.ownBlock :=
  ⟨hg.os.trans h.gb.os, hg.tape.trans h.gb.tape, hg.output.trans h.gb.output, Nat.le_trans h.gb.size hg.size, fun b hb hn => by
    refine (hg.block b (Nat.lt_of_lt_of_le hb h.gb.size) ?_).trans (h.gb.block b hb hn)
    rcases h.at_ with e | e
    · rw [e]; exact hn
    · intro e2
      have := e b e2.symm
      omega⟩
theorem Grow.step {w wr w' : World} {v0 u u' : Value} (h : Grow w wr v0 u) (hg : wr.grownBy w' u.ownBlock) (hn : u'.ownBlock = u.ownBlock ∨ u'.ownBlock = some (wr.heap.size + 1)) : Grow w w' v0 u' := by
  refine ⟨grownBy_two h hg, ?_⟩
  have hs := h.gb.size
  rcases hn with e | e
  · rw [e]; exact h.at_
  · refine .inr fun k hk => ?_
    rw [e] at hk
    injection hk with hk
    omega

set_option maxRecDepth 100000 in
set_option maxHeartbeats 2000000 in
theorem add2_any (v : Value) (n base : Nat) (bs : List Int) (z : Int) (w : World) (hown : w.ownsRow base 5 1 v n (bs.map (Value.int .u8))) (hB : base ≤ w.heap.size) (hn : n ≤ 100000000) (hbl : bs.length = n) (h1 : -9223372036854775808 ≤ z) (h2 : z < 9223372036854775808) :
    Calls Tryd.prog 57 #[v, .int .i64 z] w fun e w' => ∃ v', e = .returned v' ∧ w'.ownsRow base 5 1 v' (bs ++ enc z).length ((bs ++ enc z).map (Value.int .u8)) ∧ w.grownBy w' v.ownBlock := by
  have hzl := zig_lt h1 h2
  have HBL := hide hbl
  clear hbl
  have HX := hide (And.intro (fun hz => zig_neg z h1 hz) (fun hz => zig_pos z hz h2))
  rcases Int.lt_or_le z 0 with hz | hz
  all_goals
    go_enter Tryd.func57, Tryd.ntmps57
    go_wp2_with fail
    first | rw [(unhide HX).1 hz] | rw [(unhide HX).2 hz]
    clear HX
    obtain ⟨x0, hx0⟩ : ∃ x0, x0 = zig z := ⟨_, rfl⟩
    have HEZ : Hid (enc z = encN 10 x0) := hide (by rw [hx0]; rfl)
    rw [← hx0] at hzl ⊢
    have hx10 : x0 < 128 ^ 10 := Nat.lt_of_lt_of_le hzl (by decide)
    clear hx0
    go_loopw [0, 5] (fun u x wr => ∃ (xx F : Nat) (l : List Int), x = .int .u64 xx ∧ 1 ≤ F ∧ F ≤ 10 ∧ xx < 128 ^ F ∧ xx < 18446744073709551616 ∧ l.length + F ≤ n + 10 ∧ Hid (l ++ encN F xx = bs ++ encN 10 x0) ∧ wr.ownsRow base 5 1 u l.length (l.map (Value.int .u8)) ∧ Below base w wr ∧ Grow w wr v u) (fun _ x _ => (intOf x).toNat)
    case atStart => exact ⟨x0, 10, bs, rfl, by omega, by omega, hx10, hzl, by have := unhide HBL; omega, hide rfl, by rw [unhide HBL]; exact hown, Below.refl _ _, ⟨World.grownBy.refl _ _, .inl rfl⟩⟩
    case round =>
      obtain ⟨xx, F, l, rfl, hF1, hF2, hxF, hx64, hlF, HG, hownr, hbel, hgr⟩ := hrel
      have hsz := hbel.size
      have hk9 : l.length < 1000000000 := by omega
      by_cases hx : xx < 128
      · have HG2 := hide (unhide HG)
        rw [encN_low (by omega) hx] at HG2
        have e1 : (xx : Int) % 256 = xx := by omega
        have HE1 := hide e1
        clear e1 HG hxF
        go_wp2_with (at_builtin; refine app_one2 elem_byte (.tmp 23) (.tmp 26) [.int .u8 (xx : Int)] rfl rfl rfl hownr rfl rfl rfl (by intro u hu; simp at hu; subst hu; rfl) hk9 (by omega) ?_; intro v2 w2 hown2 hb2 hg2 hn2)
        go_ret
        refine ⟨v2, rfl, ?_, (hgr.step hg2 hn2).1⟩
        rw [unhide HEZ, ← unhide HG2]
        simpa using hown2
      · obtain ⟨F2, rfl⟩ : ∃ F2, F = F2 + 1 := ⟨F - 1, by omega⟩
        have hF0 : 1 ≤ F2 := by
          rcases Nat.eq_zero_or_pos F2 with rfl | h
          · simp at hxF; omega
          · exact h
        have hxF2 : xx / 128 < 128 ^ F2 := Nat.div_lt_of_lt_mul (by rw [Nat.pow_succ] at hxF; omega)
        have HG2 : Hid ((l ++ [((xx % 128 + 128 : Nat) : Int)]) ++ encN F2 (xx / 128) = bs ++ encN 10 x0) := hide (by rw [← unhide HG, encN_high (by omega)]; simp)
        have HB := hide (byte_more xx)
        have hd : xx / 128 < xx := by omega
        clear HG hxF
        go_wp2_with (at_builtin; refine app_one2 elem_byte (.tmp 17) (.tmp 21) [.int .u8 (bits BinOp.or IntKind.u8 ((xx : Int) % 256) 128)] rfl rfl rfl hownr rfl rfl rfl (by intro u hu; simp at hu; subst hu; rfl) hk9 (by omega) ?_; intro v2 w2 hown2 hb2 hg2 hn2; rw [unhide HB] at hown2)
        have hown3 : w2.ownsRow base 5 1 v2 (l ++ [((xx % 128 + 128 : Nat) : Int)]).length ((l ++ [((xx % 128 + 128 : Nat) : Int)]).map (Value.int .u8)) := by simpa using hown2
        clear hown2
        go_wp2_with fail
        go_roundw
        case rel => exact ⟨xx / 128, F2, _, by go_num, hF0, by omega, hxF2, by omega, by simp; omega, HG2, hown3, hbel.trans hb2, hgr.step hg2 hn2⟩
        case measure => simp [intOf] <;> omega

end Go.Proofs.YtijgiieoinmjhaaDoor
