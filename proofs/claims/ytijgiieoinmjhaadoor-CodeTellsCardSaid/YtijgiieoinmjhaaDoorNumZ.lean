/- code.add, slices.Clone of bytes, code.Num, orchref3.Num once more: for any bytes that an argument may have. Conditions: as each lemma names. -/
import Derived.Test.YtijgiieoinmjhaaDoorCode
import Derived.Test.YtijgiieoinmjhaaDoorRNum
namespace Go.Proofs.YtijgiieoinmjhaaDoor
set_option linter.unusedVariables false
set_option linter.unusedSimpArgs false
open Go.RowKit

theorem app_oneZ {P : Program} {T E : TypeId} {z : Value} {size bytes : Nat} (hE : Elem P T E z size bytes) {ops : Array Oper} {rest : List Oper} {o : Oper} {a : Act} {Q : Exit → Act → World → Prop} {wr : World}
    (s x : Operand) (cs : List Value) (hgd : o.guard = none) (ho : o.op = .call { callee := .builtin .append, args := #[s, x], argTypes := #[T, T] })
    {base : Nat} {v : Value} {n : Nat} {xs : List Value} (hs : a.eval s = v) (hown : wr.ownsRow base E size v n xs) {g : Nat} (hx : a.eval x = .slice (some ⟨g, 0, none⟩) 1 1) (hgs : wr.heap.size = g)
    (hcs : cs.length = size) (h1 : ∀ u ∈ cs, u.oneCell' = true) (hn : (n + 1) * bytes ≤ 140737488355328) (hbase : base ≤ wr.heap.size)
    (h : ∀ v' w', w'.ownsRow base E size v' (n + 1) (xs ++ cs) → Below base wr w' → v' ≠ .slice none 0 0 → (wr.alloc (.cells cs.toArray E)).grownBy w' v.ownBlock → wpList P ops Q rest (a.put o.dst v') w') (hbp : 0 < bytes := by decide) : wpList P ops Q (o :: rest) a (wr.alloc (.cells cs.toArray E)) := by
  subst hgs
  obtain ⟨i, hi, hz, hsz, hby⟩ := info_parts hE.info
  have hb1 : n + 1 ≤ maxLen := by
    rcases hown.2 with ⟨_, rfl⟩ | ⟨g, cap, cur, _, _, _, q1, q2, _⟩
    · unfold maxLen; omega
    · unfold maxLen
      have : n + 1 ≤ (n + 1) * bytes := Nat.le_mul_of_pos_right _ hbp
      omega
  refine wpList_append_own _ hgd s x T ho base E i z size bytes hE.und hi hz hsz hby hE.zs hE.pos v n xs hs (hown.alloc _) ⟨wr.heap.size, 0, none⟩ 1 1 cs hx (by omega) (cells_new_row wr cs E) h1 hb1 hn (by simp; omega) ?_
  · intro v' w' h2 h3 h4
    refine h v' w' h2 ?_ ?_ h3
    · exact ((Below.refl base wr).alloc hbase _).grown h3 (by simp; omega) (own_block_ge hown)
    · intro e
      have := (h4.1 e).2
      omega
theorem app_manyZ {P : Program} {T E : TypeId} {z : Value} {size bytes : Nat} (hE : Elem P T E z size bytes) {ops : Array Oper} {rest : List Oper} {o : Oper} {a : Act} {Q : Exit → Act → World → Prop} {wr : World}
    (s x : Operand) (hgd : o.guard = none) (ho : o.op = .call { callee := .builtin .append, args := #[s, x], argTypes := #[T, T] })
    {base : Nat} {v : Value} {n : Nat} {xs : List Value} (hs : a.eval s = v) (hown : wr.ownsRow base E size v n xs) {B m c : Nat} {A : Option Addr} {news : List Value} (hx : a.eval x = .slice A m c) (hr : Reads wr B size A m news)
    (h1 : ∀ u ∈ news, u.oneCell' = true) (hn : (n + m) * bytes ≤ 140737488355328) (hbase : base ≤ wr.heap.size)
    (h : ∀ v' w', w'.ownsRow base E size v' (n + m) (xs ++ news) → Below base wr w' → wr.grownBy w' v.ownBlock → wpList P ops Q rest (a.put o.dst v') w') (hbp : 0 < bytes := by decide) : wpList P ops Q (o :: rest) a wr := by
  obtain ⟨i, hi, hz, hsz, hby⟩ := info_parts hE.info
  have hb1 : n + m ≤ maxLen := by
    have : n + m ≤ (n + m) * bytes := Nat.le_mul_of_pos_right _ hbp
    unfold maxLen
    omega
  refine wpList_append_any wr hgd s x T ho base E i z size bytes hE.und hi hz hsz hby hE.zs hE.pos v n xs hs hown B A m c news hx hr h1 hb1 hn hbase ?_
  · intro v' w' h2 h3 _
    exact h v' w' h2 ((Below.refl base wr).grown h3 hbase (own_block_ge hown)) h3

set_option maxRecDepth 100000 in
set_option maxHeartbeats 2000000 in
theorem add_anyZ (v : Value) (n base : Nat) (bs : List Int) (z : Int) (w : World) (hown : w.ownsRow base 5 1 v n (bs.map (Value.int .u8))) (hB : base ≤ w.heap.size) (hn : n ≤ 140737488351232) (hbl : bs.length = n) (h1 : -9223372036854775808 ≤ z) (h2 : z < 9223372036854775808) :
    Calls Tryd.prog 57 #[v, .int .i64 z] w (AddPost base (bs ++ enc z).length (bs ++ enc z) w) := by
  have hzl := zig_lt h1 h2
  have HBL := hide hbl
  clear hbl
  have HX := hide (And.intro (fun hz => zig_neg z h1 hz) (fun hz => zig_pos z hz h2))
  rcases Int.lt_or_le z 0 with hz | hz
  all_goals
    go_enter Tryd.func57, Tryd.ntmps57
    go_wp2_with fail
    first | rw [(unhide HX).1 hz] | rw [(unhide HX).2 hz]
    clear HX
    obtain ⟨x0, hx0⟩ : ∃ x0, x0 = zig z := ⟨_, rfl⟩
    have HEZ : Hid (enc z = encN 10 x0) := hide (by rw [hx0]; rfl)
    rw [← hx0] at hzl ⊢
    have hx10 : x0 < 128 ^ 10 := Nat.lt_of_lt_of_le hzl (by decide)
    clear hx0
    go_loopw [0, 5] (fun u x wr => ∃ (xx F : Nat) (l : List Int), x = .int .u64 xx ∧ 1 ≤ F ∧ F ≤ 10 ∧ xx < 128 ^ F ∧ xx < 18446744073709551616 ∧ l.length + F ≤ n + 10 ∧ Hid (l ++ encN F xx = bs ++ encN 10 x0) ∧ wr.ownsRow base 5 1 u l.length (l.map (Value.int .u8)) ∧ Below base w wr) (fun _ x _ => (intOf x).toNat)
    case atStart => exact ⟨x0, 10, bs, rfl, by omega, by omega, hx10, hzl, by have := unhide HBL; omega, hide rfl, by rw [unhide HBL]; exact hown, Below.refl _ _⟩
    case round =>
      obtain ⟨xx, F, l, rfl, hF1, hF2, hxF, hx64, hlF, HG, hownr, hbel⟩ := hrel
      have hsz := hbel.size
      have hk9 : (l.length + 1) * 1 ≤ 140737488355328 := by omega
      by_cases hx : xx < 128
      · have HG2 := hide (unhide HG)
        rw [encN_low (by omega) hx] at HG2
        have e1 : (xx : Int) % 256 = xx := by omega
        have HE1 := hide e1
        clear e1 HG hxF
        go_wp2_with (at_builtin; refine app_oneZ elem_byte (.tmp 23) (.tmp 26) [.int .u8 (xx : Int)] rfl rfl rfl hownr rfl rfl rfl (by intro u hu; simp at hu; subst hu; rfl) hk9 (by omega) ?_; intro v2 w2 hown2 hb2 _ _)
        go_ret
        refine ⟨v2, rfl, ?_, hbel.trans hb2⟩
        rw [unhide HEZ, ← unhide HG2]
        simpa using hown2
      · obtain ⟨F2, rfl⟩ : ∃ F2, F = F2 + 1 := ⟨F - 1, by omega⟩
        have hF0 : 1 ≤ F2 := by
          rcases Nat.eq_zero_or_pos F2 with rfl | h
          · simp at hxF; omega
          · exact h
        have hxF2 : xx / 128 < 128 ^ F2 := Nat.div_lt_of_lt_mul (by rw [Nat.pow_succ] at hxF; omega)
        have HG2 : Hid ((l ++ [((xx % 128 + 128 : Nat) : Int)]) ++ encN F2 (xx / 128) = bs ++ encN 10 x0) := hide (by rw [← unhide HG, encN_high (by omega)]; simp)
        have HB := hide (byte_more xx)
        have hd : xx / 128 < xx := by omega
        clear HG hxF
        go_wp2_with (at_builtin; refine app_oneZ elem_byte (.tmp 17) (.tmp 21) [.int .u8 (bits BinOp.or IntKind.u8 ((xx : Int) % 256) 128)] rfl rfl rfl hownr rfl rfl rfl (by intro u hu; simp at hu; subst hu; rfl) hk9 (by omega) ?_; intro v2 w2 hown2 hb2 _ _; rw [unhide HB] at hown2)
        have hown3 : w2.ownsRow base 5 1 v2 (l ++ [((xx % 128 + 128 : Nat) : Int)]).length ((l ++ [((xx % 128 + 128 : Nat) : Int)]).map (Value.int .u8)) := by simpa using hown2
        clear hown2
        go_wp2_with fail
        go_roundw
        case rel => exact ⟨xx / 128, F2, _, by go_num, hF0, by omega, hxF2, by omega, by simp; omega, HG2, hown3, hbel.trans hb2⟩
        case measure => simp [intOf] <;> omega

set_option maxRecDepth 100000 in
theorem cloneB_anyZ (A : Option Addr) (n c B : Nat) (l : List Int) (w : World) (hr : BReads w B A n l) (hB : B ≤ w.heap.size) (hn : n ≤ 140737488351232) (hA : A = none → c = 0) :
    Calls Tryd.prog 45 #[.slice A n c] w (AddPost w.heap.size n l w) := by
  have hl := hr.len
  rcases A with _ | a
  · have hn0 : n = 0 := by
      rcases Nat.eq_zero_or_pos n with h | h
      · exact h
      · obtain ⟨_, _, e, _⟩ := Reads.spot hr h (by omega); cases e
    obtain rfl := hA rfl
    subst hn0
    obtain rfl : l = [] := List.eq_nil_of_length_eq_zero hl
    go_enter Tryd.func45, Tryd.ntmps45
    have hq := fun (W : World) => Lib.run_eql_slice_nil (P := Tryd.prog) W 22 5 none 0 0 0 0 Tryd.underlying22
    go_wp2_with fail
    go_ret
    exact ⟨_, rfl, World.ownsRow_nil _ _ _ _, Below.refl _ _⟩
  · have hq := fun (W : World) => Lib.run_eql_slice_nil (P := Tryd.prog) W 22 5 (some a) n c 0 0 Tryd.underlying22
    have hown0 := own_new (w := w) (B := w.heap.size) [] 5 1 0 rfl (by decide) (Nat.le_refl _)
    have hra := Reads.alloc hr hB (.cells #[] 5)
    go_enter Tryd.func45, Tryd.ntmps45
    go_wp2_with (at_builtin; refine app_manyZ elem_byte (.tmp 5) (.tmp 6) rfl rfl rfl hown0 rfl hra (ints_oneCell .u8 l) (by omega) (by rw [World.size_alloc]; omega) ?_; intro v2 w2 hown2 hb2 _)
    go_ret
    refine ⟨v2, rfl, ?_, ((Below.refl _ _).alloc (Nat.le_refl _) _).trans hb2⟩
    simpa using hown2

theorem num_anyZ (A : Option Addr) (n c B : Nat) (l : List Int) (z : Int) (w : World) (hr : BReads w B A n l) (hB : B ≤ w.heap.size) (hn : n ≤ 140737488351232) (hA : A = none → c = 0) (h1 : -9223372036854775808 ≤ z) (h2 : z < 9223372036854775808) :
    Calls Tryd.prog 41 #[.slice A n c, .int .i64 z] w (AddPost w.heap.size (l ++ enc z).length (l ++ enc z) w) := by
  have hl := hr.len
  go_enter Tryd.func41, Tryd.ntmps41
  go_wp2_with fail
  refine (cloneB_anyZ A n c B l w hr hB hn hA).mono ?_
  rintro e w1 ⟨v1, rfl, hown1, hb1⟩
  go_wp2_with fail
  refine (add_anyZ v1 n w.heap.size l z _ hown1 hb1.size hn hl h1 h2).mono ?_
  rintro e w2 ⟨v2, rfl, hown2, hb2⟩
  go_wp2_with fail
  go_ret
  exact ⟨v2, rfl, hown2, hb1.trans hb2⟩

set_option maxRecDepth 100000 in
set_option maxHeartbeats 2000000 in
theorem rnum_anyZ (A : Option Addr) (n c B : Nat) (bs : List Int) (z : Int) (w : World) (hr : BReads w B A n bs) (hn : n ≤ 140737488351232) (h1 : -9223372036854775808 ≤ z) (h2 : z < 9223372036854775808) :
    Calls Tryd.prog 42 #[.slice A n c, .int .i64 z] w (AddPost w.heap.size (bs ++ enc z).length (bs ++ enc z) w) := by
  have hzl := zig_lt h1 h2
  have HBL := hide hr.len
  have hown0 := World.ownsRow_nil w w.heap.size 5 1
  have hone := ints_oneCell .u8 bs
  have hlt9 : (0 + n) * 1 ≤ 140737488355328 := by omega
  obtain ⟨x0, hx0⟩ : ∃ x0, x0 = zig z := ⟨_, rfl⟩
  have HEZ : Hid (enc z = encN 10 x0) := hide (by rw [hx0]; rfl)
  rw [← hx0] at hzl
  have hx10 : x0 < 128 ^ 10 := Nat.lt_of_lt_of_le hzl (by decide)
  have hxp : Hid (0 ≤ z → (x0 : Int) = z * 2) := hide (fun h => by rw [hx0]; unfold zig; rw [if_pos h]; omega)
  have hxn : Hid (z < 0 → (x0 : Int) = (-(z + 1)) * 2 + 1) := hide (fun h => by rw [hx0]; unfold zig; rw [if_neg (by omega)]; omega)
  clear hx0
  rcases Int.lt_or_le z 0 with hz | hz
  all_goals
    go_enter Tryd.func42, Tryd.ntmps42
    go_wp2_with (at_builtin; refine app_manyZ elem_byte (.tmp 7) (.tmp 8) rfl rfl rfl hown0 rfl hr hone hlt9 (Nat.le_refl _) ?_; intro v0 w0 hown1 hb1 _; rw [Nat.zero_add, List.nil_append] at hown1)
    first | rw [← unhide hxp hz] | rw [← unhide hxn hz]
    have hown2 : w0.ownsRow w.heap.size 5 1 v0 bs.length (bs.map (Value.int .u8)) := by rw [unhide HBL]; exact hown1
    clear hxp hxn hown1
    go_loopw [5, 6] (fun u x wr => ∃ (xx F : Nat) (l : List Int), x = .int .u64 xx ∧ 1 ≤ F ∧ F ≤ 10 ∧ xx < 128 ^ F ∧ xx < 18446744073709551616 ∧ l.length + F ≤ n + 10 ∧ Hid (l ++ encN F xx = bs ++ encN 10 x0) ∧ wr.ownsRow w.heap.size 5 1 u l.length (l.map (Value.int .u8)) ∧ Below w.heap.size w wr) (fun _ x _ => (intOf x).toNat)
    case atStart => exact ⟨x0, 10, bs, rfl, by omega, by omega, hx10, hzl, by have := unhide HBL; omega, hide rfl, hown2, hb1⟩
    case round =>
      clear hown2 hb1 hown0 hr hone
      obtain ⟨xx, F, l, rfl, hF1, hF2, hxF, hx64, hlF, HG, hownr, hbel⟩ := hrel
      have hsz := hbel.size
      have hk9 : (l.length + 1) * 1 ≤ 140737488355328 := by omega
      by_cases hx : xx < 128
      · have HG2 := hide (unhide HG)
        rw [encN_low (by omega) hx] at HG2
        have e1 : (xx : Int) % 256 = xx := by omega
        have d1 : decide (127 < (xx : Int)) = false := by simp; omega
        have HE1 := hide e1
        clear e1 HG hxF
        go_wp2_with (at_builtin; refine app_oneZ elem_byte (.tmp 32) (.tmp 35) [.int .u8 (xx : Int)] rfl rfl rfl hownr rfl rfl rfl (by intro u hu; simp at hu; subst hu; rfl) hk9 (by omega) ?_; intro v2 w2 hown2 hb2 _ _)
        go_ret
        refine ⟨v2, rfl, ?_, hbel.trans hb2⟩
        rw [unhide HEZ, ← unhide HG2]
        simpa using hown2
      · obtain ⟨F2, rfl⟩ : ∃ F2, F = F2 + 1 := ⟨F - 1, by omega⟩
        have hF0 : 1 ≤ F2 := by
          rcases Nat.eq_zero_or_pos F2 with rfl | h
          · simp at hxF; omega
          · exact h
        have hxF2 : xx / 128 < 128 ^ F2 := Nat.div_lt_of_lt_mul (by rw [Nat.pow_succ] at hxF; omega)
        have HG2 : Hid ((l ++ [((xx % 128 + 128 : Nat) : Int)]) ++ encN F2 (xx / 128) = bs ++ encN 10 x0) := hide (by rw [← unhide HG, encN_high (by omega)]; simp)
        have hd : xx / 128 < xx := by omega
        have d1 : decide (127 < (xx : Int)) = true := by simp; omega
        have HV : Hid (((xx : Int) % 128 + 128) = ((xx % 128 + 128 : Nat) : Int)) := hide (by omega)
        clear HG hxF
        go_wp2_with (at_builtin; refine app_oneZ elem_byte (.tmp 23) (.tmp 28) [.int .u8 ((xx : Int) % 128 + 128)] rfl rfl rfl hownr rfl rfl rfl (by intro u hu; simp at hu; subst hu; rfl) hk9 (by omega) ?_; intro v2 w2 hown2 hb2 _ _; rw [unhide HV] at hown2)
        have hown3 : w2.ownsRow w.heap.size 5 1 v2 (l ++ [((xx % 128 + 128 : Nat) : Int)]).length ((l ++ [((xx % 128 + 128 : Nat) : Int)]).map (Value.int .u8)) := by simpa using hown2
        clear hown2
        go_wp2_with fail
        go_roundw
        case rel => exact ⟨xx / 128, F2, _, by go_num, hF0, by omega, hxF2, by omega, by simp; omega, HG2, hown3, hbel.trans hb2⟩
        case measure => simp [intOf] <;> omega
end Go.Proofs.YtijgiieoinmjhaaDoor
