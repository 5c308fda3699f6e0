/- The words of a row's way, in plain words. Conditions: none. -/
import Derived.Test.YtibbohebmmahmaaDoorPath
import Derived.Lib.ItoaLen
import Derived.Lib.Join
namespace Go.Proofs.YtibbohebmmahmaaDoor
set_option linter.unusedVariables false
set_option linter.unusedSimpArgs false
open Go.RowKit

def bt (s : List UInt8) : ByteArray := ⟨s.toArray⟩
theorem bt_list (s : List UInt8) : (bt s).data.toList = s := by simp [bt]
theorem bt_size (s : List UInt8) : (bt s).size = s.length := by simp [bt, ByteArray.size]
def wordN (row : List Int) (n : Nd) : List UInt8 :=
  if n.f = -1 then [61] ++ Lib.itoa n.v
  else if cellAt row n.f = -1125899906842624 then [102] ++ Lib.itoa n.f ++ [63]
  else if cellAt row n.f < n.c then [102] ++ Lib.itoa n.f ++ [60] ++ Lib.itoa n.c
  else [102] ++ Lib.itoa n.f ++ [62, 61] ++ Lib.itoa n.c
def wordAt (t : List Nd) (row : List Int) (i : Int) : List UInt8 := match t[i.toNat]? with
  | some n => wordN row n
  | none => []
def wordsV (t : List Nd) (row : List Int) : List (List UInt8) := (pathV t row).map (wordAt t row)
def whyV (t : List Nd) (row : List Int) : List UInt8 := Lib.join (wordsV t row) [32]
theorem wordN_len {row : List Int} {n : Nd} (h1 : -1000000 ≤ n.v ∧ n.v ≤ 1000000) (h2 : -1 ≤ n.f ∧ n.f ≤ 8) (h3 : -1000000 ≤ n.c ∧ n.c ≤ 1000000) : (wordN row n).length ≤ 46 := by
  have a1 := Lib.itoa_length_le n.v (by omega) (by omega)
  have a2 := Lib.itoa_length_le n.f (by omega) (by omega)
  have a3 := Lib.itoa_length_le n.c (by omega) (by omega)
  unfold wordN
  split
  · simp; omega
  split
  · simp; omega
  split
  · simp; omega
  · simp; omega
theorem join_len_le : ∀ (l : List (List UInt8)) (b : Nat), (∀ x ∈ l, x.length ≤ b) → (Lib.join l [32]).length ≤ l.length * (b + 1) := by
  intro l
  cases l with
  | nil => intro b _; simp [Lib.join_nil]
  | cons x r =>
    intro b h
    rw [Lib.join_cons, List.length_append]
    have h1 : ∀ (r : List (List UInt8)), (∀ y ∈ r, y.length ≤ b) → (Lib.joinTail [32] r).length ≤ r.length * (b + 1) := by
      intro r
      induction r with
      | nil => intro _; simp [Lib.joinTail]
      | cons y r ih =>
        intro hr
        have := ih fun z hz => hr z (List.mem_cons_of_mem _ hz)
        have hy := hr y (List.mem_cons_self ..)
        have e : Lib.joinTail [32] (y :: r) = [32] ++ y ++ Lib.joinTail [32] r := by simp [Lib.joinTail]
        have e2 : (y :: r).length * (b + 1) = r.length * (b + 1) + (b + 1) := by rw [List.length_cons, Nat.add_mul, Nat.one_mul]
        rw [e, List.length_append, List.length_append, e2]
        simp only [List.length_cons, List.length_nil]
        omega
    have := h1 r fun y hy => h y (List.mem_cons_of_mem _ hy)
    have hx := h x (List.mem_cons_self ..)
    rw [List.length_cons, Nat.add_mul, Nat.one_mul]
    omega
theorem way_in {t : List Nd} {row : List Int} (hb : Behind t) : ∀ (k i : Nat), i < t.length → ∀ x ∈ wayFrom t row k i, ∃ p : Nat, x = (p : Int) ∧ p < t.length := by
  intro k
  induction k with
  | zero => intro i _ x hx; cases hx
  | succ k ih =>
    intro i hi x hx
    have hn : t[i]? = some t[i] := List.getElem?_eq_getElem hi
    by_cases hf : (t[i]).f = -1
    · rw [wayFrom_leaf hn hf] at hx; cases hx
    · rw [wayFrom_step hn hf] at hx
      obtain ⟨j2, hj2, hlt, hjm⟩ := nextOf_lt (c := cellAt row (t[i]).f) hb hn hf
      rw [hj2] at hx
      rcases List.mem_cons.1 hx with rfl | hx
      · exact ⟨j2, rfl, hjm⟩
      · exact ih _ (by rw [Int.toNat_natCast]; exact hjm) x hx
theorem pathV_in {t : List Nd} {row : List Int} {fe : Int} (hR : Right t fe) (h0 : readyE t row = 0) {x : Int} (hx : x ∈ pathV t row) : ∃ p : Nat, x = (p : Int) ∧ p < t.length := by
  unfold pathV at hx
  rw [if_pos h0] at hx
  rcases List.mem_cons.1 hx with rfl | hx
  · exact ⟨0, rfl, hR.pos⟩
  · exact way_in hR.behind _ _ hR.pos x hx
theorem pathV_le {t : List Nd} {row : List Int} {fe : Int} (hR : Right t fe) (h0 : readyE t row = 0) : (pathV t row).length ≤ 11 := by
  unfold pathV
  rw [if_pos h0, List.length_cons]
  have := wayFrom_len hR.behind (row := row) t.length 0 hR.pos
  have := hR.deep
  omega
end Go.Proofs.YtibbohebmmahmaaDoor
