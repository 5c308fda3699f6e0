/- A call of a shelf as bytes, in plain words: what is written, what is read. Conditions: as each lemma names. -/
import Derived.Test.YtijgiieoinmjhaaDoorCodeRow
import Derived.Laws.BytesArg
import Derived.Lib.AppendStr
namespace Go.Proofs.YtijgiieoinmjhaaDoor
set_option linter.unusedVariables false
set_option linter.unusedSimpArgs false
open Go.RowKit

/-- a call -/
structure Cl where
  (what ses seq : Int) (name : ByteArray) (num share : Int) (bytes : List Int)
instance : Inhabited Cl := ⟨⟨0, 0, 0, ByteArray.empty, 0, 0, []⟩⟩
/-- a name's letters -/
def nmL (s : ByteArray) : List Int := s.data.toList.map fun b => (b.toNat : Int)
theorem nmL_len (s : ByteArray) : (nmL s).length = s.size := by unfold nmL; rw [List.length_map, Array.length_toList]; rfl
theorem nmL_cells (s : ByteArray) : Lib.strCells s = (nmL s).map (Value.int .u8) := by unfold nmL Lib.strCells; rw [List.map_map]; rfl
theorem nmL_back (s : ByteArray) : strOfNums (nmL s) = s := by
  unfold strOfNums nmL
  rw [List.map_map]
  have : (s.data.toList.map ((fun n : Int => UInt8.ofNat n.toNat) ∘ fun b => (b.toNat : Int))) = s.data.toList := by
    conv => rhs; rw [← List.map_id s.data.toList]
    refine List.map_congr_left fun b _ => ?_
    simp
  rw [this]
theorem nmL_bytes (s : ByteArray) : ∀ x ∈ nmL s, 0 ≤ x ∧ x < 256 := by
  intro x hx
  unfold nmL at hx
  obtain ⟨b, _, rfl⟩ := List.mem_map.1 hx
  have := b.toNat_lt
  omega
/-- the numbers of a call, as they are written -/
def Cl.nums (c : Cl) : List Int := [c.what, c.ses, c.seq, c.num, c.share, (c.name.size : Int)]
def bodyB (c : Cl) : List Int := encs c.nums ++ nmL c.name ++ c.bytes
def recB (c : Cl) : List Int := enc ((bodyB c).length : Int) ++ bodyB c
def recs (cs : List Cl) : List Int := cs.flatMap recB
theorem recs_cons (c : Cl) (cs : List Cl) : recs (c :: cs) = recB c ++ recs cs := by simp [recs]
theorem recs_app (cs : List Cl) (c : Cl) : recs (cs ++ [c]) = recs cs ++ recB c := by simp [recs]
def InT (n : Int) : Prop := 0 ≤ n ∧ n ≤ 1000000
/-- a call that a log may keep -/
structure GoodC (c : Cl) : Prop where
  what : 1 ≤ c.what ∧ c.what ≤ 4
  ses : InT c.ses
  seq : InT c.seq
  num : InT c.num
  share : InT c.share
  name : c.name.size ≤ 100
  len : c.bytes.length ≤ 6000
  by_ : ∀ x ∈ c.bytes, 0 ≤ x ∧ x < 256

def In64 (x : Int) : Prop := -9223372036854775808 ≤ x ∧ x < 9223372036854775808
theorem getV_enc {z : Int} (h : In64 z) (r : List Int) : getV (enc z ++ r) = (z, (enc z).length, 0) := get_back z h.1 h.2 r
/-- a number that is cut off is not whole -/
theorem get_cut : ∀ (k i x y j : Nat), i + k = 10 → y < 128 ^ k → j < (encN k y).length → getFrom i x ((encN k y).take j) = (0, 0, 8) := by
  intro k
  induction k with
  | zero => intro i x y j _ _ hj; simp [encN] at hj
  | succ k ih =>
    intro i x y j hi hy hj
    by_cases hy1 : y < 128
    · rw [encN_low (by omega) hy1] at hj ⊢
      have : j = 0 := by simpa using hj
      subst this
      rfl
    · rw [encN_high (by omega)] at hj ⊢
      cases j with
      | zero => rfl
      | succ j =>
        have hk0 : 0 < k := by
          rcases Nat.eq_zero_or_pos k with h | h
          · subst h; simp at hy; omega
          · exact h
        rw [List.take_succ_cons, getFrom, if_neg (by
          intro h
          rcases h with ⟨h9, _⟩ | ⟨_, h0⟩
          · omega
          · omega), if_neg (by omega)]
        exact ih _ _ _ _ (by omega) (by rw [Nat.pow_succ] at hy; exact Nat.div_lt_of_lt_mul (by rw [Nat.mul_comm]; exact hy)) (by rw [List.length_cons] at hj; omega)
theorem getV_cut {z : Int} (h : In64 z) {j : Nat} (hj : j < (enc z).length) : getV ((enc z).take j) = (0, 0, 8) := by
  have := zig_lt h.1 h.2
  exact get_cut 10 0 0 (zig z) j rfl (by
    have e : (128 : Nat) ^ 10 = 1180591620717411303424 := by decide
    omega) hj
/-- numbers that are read one behind the other -/
def stepN : Nat → List Int → Option (List Int × List Int)
  | 0, b => some ([], b)
  | k + 1, b => match stepN k b with
    | none => none
    | some (pre, r) => if (getV r).2.2 = 0 then some (pre ++ [(getV r).1], r.drop (getV r).2.1) else none
/-- the call that bytes begin with, and how many they are -/
def nextV (b : List Int) : Option (Cl × Nat) :=
  if (getV b).2.2 = 0 ∧ 0 ≤ (getV b).1 ∧ (getV b).1 ≤ (b.length : Int) - ((getV b).2.1 : Int) then
    match stepN 6 ((b.drop (getV b).2.1).take (getV b).1.toNat) with
    | some ([a0, a1, a2, a3, a4, a5], r) => if 0 ≤ a5 ∧ a5 ≤ (r.length : Int) then some (⟨a0, a1, a2, strOfNums (r.take a5.toNat), a3, a4, r.drop a5.toNat⟩, (getV b).2.1 + (getV b).1.toNat) else none
    | _ => none
  else none

theorem stepN_encs (l : List Int) (r : List Int) (h : ∀ x ∈ l, In64 x) : ∀ k, k ≤ l.length → stepN k (encs l ++ r) = some (l.take k, encs (l.drop k) ++ r) := by
  intro k
  induction k with
  | zero => intro _; simp [stepN]
  | succ k ih =>
    intro hk
    have hx : l[k]? = some l[k] := List.getElem?_eq_getElem (by omega)
    have hg := getV_enc (h _ (List.getElem_mem (by omega : k < l.length))) (encs (l.drop (k + 1)) ++ r)
    rw [stepN, ih (by omega)]
    dsimp only
    rw [encs_drop hx, List.append_assoc, hg]
    simp only [if_pos, List.drop_left]
    rw [take_next hx]
theorem take_app_len {α : Type} (a b : List α) : (a ++ b).take a.length = a := by simp
theorem next_rec (c : Cl) (h : GoodC c) (rest : List Int) : nextV (recB c ++ rest) = some (c, (recB c).length) := by
  have hlen : (bodyB c).length ≤ 6160 := by
    unfold bodyB
    rw [List.length_append, List.length_append, nmL_len]
    have := encs_len c.nums
    have h2 : c.nums.length = 6 := rfl
    have := h.name
    have := h.len
    omega
  have hg := getV_enc (z := ((bodyB c).length : Int)) ⟨by omega, by omega⟩ (bodyB c ++ rest)
  have e1 : recB c ++ rest = enc ((bodyB c).length : Int) ++ (bodyB c ++ rest) := by unfold recB; rw [List.append_assoc]
  unfold nextV
  rw [e1, hg]
  dsimp only
  rw [if_pos ⟨rfl, by omega, by simp only [List.length_append]; omega⟩, List.drop_left, Int.toNat_natCast, take_app_len]
  have hn : ∀ x ∈ c.nums, In64 x := by
    intro x hx
    simp only [Cl.nums, List.mem_cons, List.not_mem_nil, or_false] at hx
    have h0 := h.what; have h1 := h.ses; have h2 := h.seq; have h3 := h.num; have h4 := h.share; have h5 := h.name
    unfold InT at h1 h2 h3 h4
    rcases hx with rfl | rfl | rfl | rfl | rfl | rfl <;> exact ⟨by omega, by omega⟩
  have hs := stepN_encs c.nums (nmL c.name ++ c.bytes) hn 6 (Nat.le_refl 6)
  have e2 : bodyB c = encs c.nums ++ (nmL c.name ++ c.bytes) := by unfold bodyB; rw [List.append_assoc]
  rw [e2, hs]
  have e3 : c.nums.take 6 = [c.what, c.ses, c.seq, c.num, c.share, (c.name.size : Int)] := rfl
  have e4 : encs (c.nums.drop 6) ++ (nmL c.name ++ c.bytes) = nmL c.name ++ c.bytes := rfl
  rw [e3, e4]
  dsimp only
  rw [if_pos ⟨by omega, by simp only [List.length_append, nmL_len]; omega⟩, Int.toNat_natCast, ← nmL_len, take_app_len, List.drop_left, nmL_back]
  congr 2
  unfold recB
  rw [e2]
  simp only [List.length_append]

/-- what stands behind the last whole call -/
def Tail (t : List Int) : Prop := ∃ c j, GoodC c ∧ t = (recB c).take j ∧ j < (recB c).length
theorem next_tail {t : List Int} (h : Tail t) : nextV t = none := by
  obtain ⟨c, j, hc, rfl, hj⟩ := h
  have hlen : (bodyB c).length < 9223372036854775808 := by
    unfold bodyB
    rw [List.length_append, List.length_append, nmL_len]
    have := encs_len c.nums
    have h2 : c.nums.length = 6 := rfl
    have := hc.name
    have := hc.len
    omega
  unfold recB at hj ⊢
  rw [List.length_append] at hj
  by_cases hjh : j < (enc ((bodyB c).length : Int)).length
  · have e : (enc ((bodyB c).length : Int) ++ bodyB c).take j = (enc ((bodyB c).length : Int)).take j := List.take_append_of_le_length (by omega)
    unfold nextV
    rw [e, getV_cut ⟨by omega, by omega⟩ hjh, if_neg (fun h => by cases h.1)]
  · have e : (enc ((bodyB c).length : Int) ++ bodyB c).take j = enc ((bodyB c).length : Int) ++ (bodyB c).take (j - (enc ((bodyB c).length : Int)).length) := by rw [List.take_append, List.take_of_length_le (by omega)]
    unfold nextV
    rw [e, getV_enc ⟨by omega, by omega⟩]
    dsimp only
    rw [if_neg (fun h => by
      have := h.2.2
      rw [List.length_append, List.length_take] at this
      omega)]
theorem recB_pos (c : Cl) : 7 ≤ (recB c).length := by
  have e : (recB c).length = (enc ((bodyB c).length : Int)).length + ((encs c.nums).length + (nmL c.name).length + c.bytes.length) := by
    unfold recB
    rw [List.length_append]
    conv => lhs; rhs; unfold bodyB
    rw [List.length_append, List.length_append]
  have h1 := (enc_len ((bodyB c).length : Int)).1
  have h2 : 6 ≤ (encs c.nums).length := by
    simp only [Cl.nums, encs, List.flatMap_cons, List.flatMap_nil, List.length_append, List.length_nil]
    have := (enc_len c.what).1; have := (enc_len c.ses).1; have := (enc_len c.seq).1; have := (enc_len c.num).1; have := (enc_len c.share).1; have := (enc_len (c.name.size : Int)).1
    omega
  omega
theorem recB_max {c : Cl} (h : GoodC c) : (recB c).length ≤ 6170 := by
  have e : (recB c).length = (enc ((bodyB c).length : Int)).length + ((encs c.nums).length + (nmL c.name).length + c.bytes.length) := by
    unfold recB
    rw [List.length_append]
    conv => lhs; rhs; unfold bodyB
    rw [List.length_append, List.length_append]
  rw [nmL_len] at e
  have h1 := (enc_len ((bodyB c).length : Int)).2
  have := encs_len c.nums
  have h2 : c.nums.length = 6 := rfl
  have := h.name
  have := h.len
  omega
theorem enc_bytes (z : Int) : ∀ y ∈ enc z, 0 ≤ y ∧ y < 256 := encN_bytes 10 (zig z)
theorem recB_bytes {c : Cl} (h : ∀ x ∈ c.bytes, 0 ≤ x ∧ x < 256) : ∀ y ∈ recB c, 0 ≤ y ∧ y < 256 := by
  intro y hy
  unfold recB bodyB at hy
  rcases List.mem_append.1 hy with h1 | h1
  · exact enc_bytes _ y h1
  · rcases List.mem_append.1 h1 with h2 | h2
    · rcases List.mem_append.1 h2 with h3 | h3
      · exact encs_bytes _ y h3
      · exact nmL_bytes _ y h3
    · exact h y h2
def goodC0 : Cl := ⟨1, 0, 0, ByteArray.empty, 0, 0, []⟩
theorem good0 : GoodC goodC0 := ⟨by decide, by unfold InT; decide, by unfold InT; decide, by unfold InT; decide, by unfold InT; decide, by decide, by decide, fun x hx => by cases hx⟩
theorem Tail.nil_ : Tail [] := ⟨goodC0, 0, good0, by simp, by have := recB_pos goodC0; omega⟩
theorem Tail.cut {t : List Int} (h : Tail t) (k : Nat) : Tail (t.take k) := by
  obtain ⟨c, j, hc, rfl, hj⟩ := h
  exact ⟨c, min k j, hc, by rw [List.take_take], by omega⟩
theorem Tail.of {c : Cl} (h : GoodC c) {j : Nat} (hj : j < (recB c).length) : Tail ((recB c).take j) := ⟨c, j, h, rfl, hj⟩
end Go.Proofs.YtijgiieoinmjhaaDoor
