/- Chapter 14 in plain words: groves as numbers, numbers as bytes, and back. Conditions: none. -/
import Derived.Test.YtijgiieoinmjhaaDoorCodeRow
import Derived.Test.YtijgiieoinmjhaaDoorCallP
import Derived.Test.YtijgiieoinmjhaaDoorGrove
namespace Go.Proofs.YtijgiieoinmjhaaDoor
set_option linter.unusedVariables false
set_option linter.unusedSimpArgs false

def Bys (b : List Int) : Prop := ∀ x ∈ b, 0 ≤ x ∧ x < 256
theorem Bys.drop {b : List Int} (h : Bys b) (k : Nat) : Bys (b.drop k) := fun x hx => h x (List.mem_of_mem_drop hx)
theorem Bys.tail {c : Int} {b : List Int} (h : Bys (c :: b)) : Bys b := fun x hx => h x (List.mem_cons_of_mem _ hx)

/-! ## numbers: only what was written is read -/
theorem getFrom_bad : ∀ (l : List Int) (i x : Nat), (getFrom i x l).2.2 ≠ 0 → (getFrom i x l).1 = 0 ∧ (getFrom i x l).2.1 = 0 := by
  intro l
  induction l with
  | nil => intro i x _; exact ⟨rfl, rfl⟩
  | cons c r ih =>
    intro i x h
    rw [getFrom] at h ⊢
    by_cases h1 : (i = 9 ∧ 1 < c) ∨ (0 < i ∧ c = 0)
    · rw [if_pos h1]; exact ⟨rfl, rfl⟩
    · rw [if_neg h1] at h ⊢
      by_cases h2 : c < 128
      · rw [if_pos h2] at h; exact absurd rfl h
      · rw [if_neg h2] at h ⊢; exact ih _ _ h
theorem getV_bad {l : List Int} (h : (getV l).2.2 ≠ 0) : (getV l).1 = 0 ∧ (getV l).2.1 = 0 := getFrom_bad l 0 0 h
theorem zig_unzig (y : Nat) : zig (unzig y) = y := by
  unfold unzig zig
  by_cases h : y % 2 = 0
  · rw [if_pos h, if_pos (by omega)]; omega
  · rw [if_neg h, if_neg (by omega)]; omega
theorem unzig_64 {y : Nat} (h : y < 18446744073709551616) : In64 (unzig y) := by
  unfold In64 unzig
  by_cases h1 : y % 2 = 0
  · rw [if_pos h1]; omega
  · rw [if_neg h1]; omega
theorem getFrom_ok : ∀ (F i x : Nat) (l : List Int), i + F = 10 → 1 ≤ F → x < 2 ^ (7 * i) → Bys l → (getFrom i x l).2.2 = 0 → ∃ (y : Nat) (r : List Int), y < 128 ^ F ∧ (0 < i → 0 < y) ∧ x + y * 2 ^ (7 * i) < 18446744073709551616 ∧ l = encN F y ++ r := by
  intro F
  induction F with
  | zero => intro i x l _ h; omega
  | succ F ih =>
    intro i x l hi _ hx hb h
    cases l with
    | nil => exact absurd h (by rw [getFrom]; decide)
    | cons c r =>
      obtain ⟨c0, c1⟩ := hb c (List.mem_cons_self ..)
      rw [getFrom] at h
      by_cases h1 : (i = 9 ∧ 1 < c) ∨ (0 < i ∧ c = 0)
      · rw [if_pos h1] at h; exact absurd h (by decide)
      rw [if_neg h1] at h
      obtain ⟨y, rfl⟩ : ∃ y : Nat, c = y := ⟨c.toNat, by omega⟩
      by_cases h2 : (y : Int) < 128
      · have hg := get_bound (k := i) (x := x) (y := y) (by omega) hx (fun h9 => by omega)
        rw [Nat.mod_eq_of_lt (by omega)] at hg
        refine ⟨y, r, Nat.lt_of_lt_of_le (show y < 128 by omega) ?_, fun h0 => by omega, hg, by rw [encN_low (by omega) (by omega)]; rfl⟩
        rw [Nat.pow_succ]
        have := Nat.pow_pos (n := F) (show 0 < 128 by decide)
        omega
      · rw [if_neg h2, Int.toNat_natCast] at h
        have hF : 1 ≤ F := by
          rcases Nat.eq_zero_or_pos F with rfl | h'
          · omega
          · exact h'
        obtain ⟨y', r', q1, q2, q3, q4⟩ := ih (i + 1) _ r (by omega) hF (get_small hx) hb.tail h
        have q2 := q2 (by omega)
        refine ⟨y % 128 + 128 * y', r', by rw [Nat.pow_succ]; omega, fun _ => by omega, ?_, ?_⟩
        · have e : (y % 128 + 128 * y') * 2 ^ (7 * i) = y % 128 * 2 ^ (7 * i) + y' * 2 ^ (7 * (i + 1)) := by
            rw [show 7 * (i + 1) = 7 * i + 7 by omega, Nat.pow_add, Nat.add_mul, show (2 : Nat) ^ 7 = 128 from rfl, Nat.mul_comm (2 ^ (7 * i)) 128, ← Nat.mul_assoc, Nat.mul_comm y' 128]
          rw [e]; omega
        · rw [encN_high (by omega), show (y % 128 + 128 * y') / 128 = y' by omega, show (y % 128 + 128 * y') % 128 + 128 = y by omega, q4]
          rfl
theorem getV_ok {l : List Int} (hb : Bys l) (h : (getV l).2.2 = 0) : ∃ z r, In64 z ∧ l = enc z ++ r := by
  obtain ⟨y, r, q1, _, q3, q4⟩ := getFrom_ok 10 0 0 l rfl (by omega) (by decide) hb h
  rw [Nat.zero_add, Nat.mul_zero, Nat.pow_zero, Nat.mul_one] at q3
  exact ⟨unzig y, r, unzig_64 q3, by unfold enc; rw [zig_unzig]; exact q4⟩
theorem getV_64 {l : List Int} (hb : Bys l) : In64 (getV l).1 := by
  by_cases h : (getV l).2.2 = 0
  · obtain ⟨z, r, h1, rfl⟩ := getV_ok hb h
    rw [getV_enc h1]; exact h1
  · rw [(getV_bad h).1]; unfold In64; omega
theorem getV_len {l : List Int} (hb : Bys l) : (getV l).2.1 ≤ l.length := by
  by_cases h : (getV l).2.2 = 0
  · obtain ⟨z, r, h1, rfl⟩ := getV_ok hb h
    rw [getV_enc h1, List.length_append]; dsimp only; omega
  · rw [(getV_bad h).2]; omega

/-! ## groves as numbers -/
def ndNums (n : Nd) : List Int := if n.f = -1 then [n.f, n.v] else [n.f, n.c, n.l, n.r, if n.less then 1 else 0]
def treeNums (x : Int × List Nd) : List Int := [x.1, (x.2.length : Int)] ++ x.2.flatMap ndNums
def groveNums (f way : Int) (ts : List (Int × List Nd)) : List Int := [f, way, (ts.length : Int)] ++ ts.flatMap treeNums
def Gv.pairs (g : Gv) : List (Int × List Nd) := g.ws.zip g.trees
def Gv.nums (g : Gv) : List Int := groveNums g.f g.way g.pairs
def Gv.encE (g : Gv) : Int := if g.e = 0 then (if 6000 < (encs g.nums).length then 4 else 0) else g.e

/-! ## bytes as groves -/
structure Rd where
  at_ : Nat
  nx : Nat
  bad : Int
def rdNum (b : List Int) (s : Rd) : Int × Rd := if s.bad = 0 then ((getV (b.drop s.nx)).1, ⟨s.nx, s.nx + (getV (b.drop s.nx)).2.1, (getV (b.drop s.nx)).2.2⟩) else (0, s)
def rdMust (ok : Bool) (e : Int) (s : Rd) : Rd := if s.bad = 0 ∧ ok = false then ⟨s.at_, s.nx, e⟩ else s
def mayMany (most n : Int) : Bool := decide (1 ≤ n ∧ n ≤ most)
def rdMany (b : List Int) (most : Int) (s : Rd) : Int × Rd :=
  (if (rdMust (mayMany most (rdNum b s).1) 1 (rdNum b s).2).bad = 0 then (rdNum b s).1 else 0, rdMust (mayMany most (rdNum b s).1) 1 (rdNum b s).2)
def mayLess (n : Int) : Bool := decide (n = 0 ∨ n = 1)
def rdLess (b : List Int) (s : Rd) : Int × Rd := ((rdNum b s).1, rdMust (mayLess (rdNum b s).1) 2 (rdNum b s).2)
def rdAsk (b : List Int) (f : Int) (s : Rd) : Nd × Rd :=
  (⟨f, (rdNum b s).1, (rdNum b (rdNum b s).2).1, (rdNum b (rdNum b (rdNum b s).2).2).1, decide ((rdLess b (rdNum b (rdNum b (rdNum b s).2).2).2).1 = 1), 0⟩, (rdLess b (rdNum b (rdNum b (rdNum b s).2).2).2).2)
def rdNode (b : List Int) (s : Rd) : Nd × Rd :=
  if (rdNum b s).1 = -1 then (⟨-1, 0, 0, 0, false, (rdNum b (rdNum b s).2).1⟩, (rdNum b (rdNum b s).2).2) else rdAsk b (rdNum b s).1 (rdNum b s).2
def rdNodes (b : List Int) (s : Rd) : Nat → List Nd × Rd
  | 0 => ([], s)
  | k + 1 => ((rdNodes b s k).1 ++ [(rdNode b (rdNodes b s k).2).1], (rdNode b (rdNodes b s k).2).2)
def rdTree (b : List Int) (s : Rd) : (Int × List Nd) × Rd :=
  (((rdNum b s).1, (rdNodes b (rdMany b 63 (rdNum b s).2).2 (rdMany b 63 (rdNum b s).2).1.toNat).1), (rdNodes b (rdMany b 63 (rdNum b s).2).2 (rdMany b 63 (rdNum b s).2).1.toNat).2)
def rdTrees (b : List Int) (s : Rd) : Nat → List (Int × List Nd) × Rd
  | 0 => ([], s)
  | k + 1 => ((rdTrees b s k).1 ++ [(rdTree b (rdTrees b s k).2).1], (rdTree b (rdTrees b s k).2).2)
def rd0 : Rd := ⟨0, 0, 0⟩
def rdF (b : List Int) : Int × Rd := rdNum b rd0
def rdW (b : List Int) : Int × Rd := rdNum b (rdF b).2
def rdM (b : List Int) : Int × Rd := rdMany b 12 (rdW b).2
def rdT (b : List Int) : List (Int × List Nd) × Rd := rdTrees b (rdM b).2 (rdM b).1.toNat
def decGE (b : List Int) : Int := groveE (rdF b).1 (rdW b).1 ((rdT b).1.map (·.1)) ((rdT b).1.map (·.2))
/-- where what is wrong begins, and what -/
def decE (b : List Int) : Nat × Int :=
  if 6000 < b.length then (0, 4) else if ¬ (rdT b).2.bad = 0 then ((rdT b).2.at_, (rdT b).2.bad) else if ¬ (rdT b).2.nx = b.length then ((rdT b).2.nx, 2) else if ¬ decGE b = 0 then ((rdT b).2.nx, decGE b) else (0, 0)

/-! what is wrong stays so -/
theorem rdNum_bad {b : List Int} {s : Rd} (h : s.bad ≠ 0) : rdNum b s = (0, s) := by unfold rdNum; rw [if_neg h]
theorem rdMust_bad {ok : Bool} {e : Int} {s : Rd} (h : s.bad ≠ 0) : rdMust ok e s = s := by unfold rdMust; rw [if_neg (fun h' => h h'.1)]
theorem rdMust_ok {e : Int} {s : Rd} : rdMust true e s = s := by unfold rdMust; rw [if_neg (fun h' => by cases h'.2)]
theorem rdMust_no {e : Int} {s : Rd} (h : s.bad = 0) : rdMust false e s = ⟨s.at_, s.nx, e⟩ := by unfold rdMust; rw [if_pos ⟨h, rfl⟩]
theorem rdMany_bad {b : List Int} {m : Int} {s : Rd} (h : s.bad ≠ 0) : rdMany b m s = (0, s) := by unfold rdMany; rw [rdNum_bad h, rdMust_bad h, if_neg h]
theorem rdLess_bad {b : List Int} {s : Rd} (h : s.bad ≠ 0) : rdLess b s = (0, s) := by unfold rdLess; rw [rdNum_bad h, rdMust_bad h]
theorem rdAsk_bad {b : List Int} {f : Int} {s : Rd} (h : s.bad ≠ 0) : (rdAsk b f s).2 = s := by unfold rdAsk; rw [rdNum_bad h, rdNum_bad h, rdNum_bad h, rdLess_bad h]
theorem rdNode_bad {b : List Int} {s : Rd} (h : s.bad ≠ 0) : (rdNode b s).2 = s := by
  unfold rdNode
  rw [rdNum_bad h, if_neg (by show ¬ (0 : Int) = -1; decide)]
  exact rdAsk_bad h
theorem rdNodes_bad {b : List Int} {s : Rd} (h : s.bad ≠ 0) : ∀ k, (rdNodes b s k).2 = s := by
  intro k
  induction k with
  | zero => rfl
  | succ k ih => rw [rdNodes]; show (rdNode b (rdNodes b s k).2).2 = s; rw [ih]; exact rdNode_bad h
theorem rdNodes_stay {b : List Int} {s : Rd} {k : Nat} (h : (rdNodes b s k).2.bad ≠ 0) : ∀ j, (rdNodes b s (k + j)).2 = (rdNodes b s k).2 := by
  intro j
  induction j with
  | zero => rfl
  | succ j ih => show (rdNode b (rdNodes b s (k + j)).2).2 = _; rw [ih]; exact rdNode_bad h
theorem rdTree_bad {b : List Int} {s : Rd} (h : s.bad ≠ 0) : (rdTree b s).2 = s := by
  unfold rdTree
  rw [rdNum_bad h, rdMany_bad h]
  rfl
theorem rdTrees_bad {b : List Int} {s : Rd} (h : s.bad ≠ 0) : ∀ k, (rdTrees b s k).2 = s := by
  intro k
  induction k with
  | zero => rfl
  | succ k ih => show (rdTree b (rdTrees b s k).2).2 = s; rw [ih]; exact rdTree_bad h
theorem rdTrees_stay {b : List Int} {s : Rd} {k : Nat} (h : (rdTrees b s k).2.bad ≠ 0) : ∀ j, (rdTrees b s (k + j)).2 = (rdTrees b s k).2 := by
  intro j
  induction j with
  | zero => rfl
  | succ j ih => show (rdTree b (rdTrees b s (k + j)).2).2 = _; rw [ih]; exact rdTree_bad h
end Go.Proofs.YtijgiieoinmjhaaDoor
