/- What a log does, in plain words. Plain. Conditions: as each lemma names. -/
import Derived.Test.YtijgiieoinmjhaaDoorCallP
namespace Go.Proofs.YtijgiieoinmjhaaDoor
set_option linter.unusedVariables false
set_option linter.unusedSimpArgs false
open Go.RowKit

/-- a log: its calls, what stands behind them, how much is safe, how many steps are left, has it stopped -/
structure LS where
  (cs : List Cl) (tail : List Int) (safe : Nat) (left : Int) (st : Bool)
def LS.bs (S : LS) : List Int := recs S.cs ++ S.tail
def valC (c : Cl) : Prop := (1 ≤ c.what ∧ c.what ≤ 4) ∧ InT c.ses ∧ InT c.seq ∧ InT c.num ∧ InT c.share
instance (n : Int) : Decidable (InT n) := by unfold InT; infer_instance
instance (c : Cl) : Decidable (valC c) := by unfold valC; infer_instance
def fullC (cs : List Cl) (c : Cl) : Prop := 100 < c.name.size ∨ 6000 < c.bytes.length ∨ 100000 < (recs cs).length + (recB c).length
instance (cs : List Cl) (c : Cl) : Decidable (fullC cs c) := by unfold fullC; infer_instance
/-- Append: the fault -/
def LS.appE (S : LS) (c : Cl) : Int := if valC c then (if fullC S.cs c then 4 else if S.st = true then 9 else if S.left = 0 then 9 else 0) else 1
/-- Append: the log behind it -/
def LS.app (S : LS) (c : Cl) : LS :=
  if valC c ∧ ¬ fullC S.cs c ∧ S.st = false then
    (if S.left = 0 then ⟨S.cs, (recB c).take ((recB c).length / 2), min S.safe (recs S.cs).length, S.left - 1, true⟩ else ⟨S.cs ++ [c], [], min S.safe (recs S.cs).length, S.left - 1, false⟩)
  else S
def LS.syncE (S : LS) : Int := if S.st = true then 9 else if S.left = 0 then 9 else 0
def LS.sync (S : LS) : LS := if S.st = true then S else if S.left = 0 then ⟨S.cs, S.tail, S.safe, S.left - 1, true⟩ else ⟨S.cs, S.tail, S.bs.length, S.left - 1, false⟩
def LS.fail (S : LS) (n : Int) : LS := ⟨S.cs, S.tail, S.safe, max (-1) n, S.st⟩
/-- how many calls are whole within so many bytes -/
def fitK : List Cl → Nat → Nat
  | [], _ => 0
  | c :: r, n => if (recB c).length ≤ n then fitK r (n - (recB c).length) + 1 else 0
/-- how many bytes are kept -/
def LS.kept (S : LS) (keep : Int) : Nat := S.safe + (max 0 (min keep ((S.bs.length : Int) - (S.safe : Int)))).toNat
def LS.crash (S : LS) (keep : Int) : LS :=
  ⟨S.cs.take (fitK S.cs (S.kept keep)), (S.bs.take (S.kept keep)).drop (recs (S.cs.take (fitK S.cs (S.kept keep)))).length, S.kept keep, -1, false⟩
/-- what holds of any log -/
structure LsOk (S : LS) : Prop where
  good : ∀ c ∈ S.cs, GoodC c
  tail : Tail S.tail
  safe : S.safe ≤ S.bs.length
  len : (recs S.cs).length ≤ 100000
theorem LsOk.start : LsOk ⟨[], [], 0, -1, false⟩ := ⟨(fun c h => nomatch h), Tail.nil_, Nat.zero_le _, Nat.zero_le _⟩
theorem tail_len {t : List Int} (h : Tail t) : t.length ≤ 6170 := by
  obtain ⟨c, j, hc, rfl, hj⟩ := h
  have := recB_max hc
  rw [List.length_take]
  omega
theorem LsOk.bslen {S : LS} (h : LsOk S) : S.bs.length ≤ 106170 := by
  unfold LS.bs
  rw [List.length_append]
  have := tail_len h.tail
  have := h.len
  omega
theorem good_of {cs : List Cl} {c : Cl} (h1 : valC c) (h2 : ¬ fullC cs c) (h3 : ∀ x ∈ c.bytes, 0 ≤ x ∧ x < 256) : GoodC c := by
  obtain ⟨a1, a2, a3, a4, a5⟩ := h1
  unfold fullC at h2
  exact ⟨a1, a2, a3, a4, a5, by omega, by omega, h3⟩
theorem LsOk.app_ {S : LS} (h : LsOk S) (c : Cl) (hb : ∀ x ∈ c.bytes, 0 ≤ x ∧ x < 256) : LsOk (S.app c) := by
  unfold LS.app
  split
  · rename_i hc
    have hg := good_of hc.1 hc.2.1 hb
    have hp := recB_pos c
    split
    · refine ⟨h.good, Tail.of hg (by omega), ?_, h.len⟩
      show min _ _ ≤ (recs S.cs ++ _).length
      rw [List.length_append]
      omega
    · refine ⟨fun x hx => ?_, Tail.nil_, ?_, ?_⟩
      · rcases List.mem_append.1 hx with h1 | h1
        · exact h.good x h1
        · rw [List.mem_singleton.1 h1]; exact hg
      · show min _ _ ≤ (recs (S.cs ++ [c]) ++ []).length
        rw [List.append_nil, recs_app, List.length_append]
        omega
      · show (recs (S.cs ++ [c])).length ≤ 100000
        have := hc.2.1
        unfold fullC at this
        rw [recs_app, List.length_append]
        omega
  · exact h
theorem LsOk.sync_ {S : LS} (h : LsOk S) : LsOk S.sync := by
  unfold LS.sync
  split
  · exact h
  · split
    · exact ⟨h.good, h.tail, h.safe, h.len⟩
    · exact ⟨h.good, h.tail, Nat.le_refl _, h.len⟩
theorem LsOk.fail_ {S : LS} (h : LsOk S) (n : Int) : LsOk (S.fail n) := ⟨h.good, h.tail, h.safe, h.len⟩
/-- bytes that are cut off: the calls that are whole, and what stands behind them -/
theorem cut_split {tail : List Int} (ht : Tail tail) : ∀ (cs : List Cl), (∀ c ∈ cs, GoodC c) → ∀ n, Tail (((recs cs ++ tail).take n).drop (recs (cs.take (fitK cs n))).length) ∧ (recs cs ++ tail).take n = recs (cs.take (fitK cs n)) ++ ((recs cs ++ tail).take n).drop (recs (cs.take (fitK cs n))).length := by
  intro cs
  induction cs with
  | nil =>
    intro _ n
    simp only [fitK, List.take_nil, recs, List.flatMap_nil, List.length_nil, List.drop_zero, List.nil_append]
    exact ⟨ht.cut n, trivial⟩
  | cons c r ih =>
    intro hg n
    rw [fitK]
    by_cases h : (recB c).length ≤ n
    · rw [if_pos h, List.take_succ_cons, recs_cons, recs_cons, List.append_assoc, List.take_append, List.take_of_length_le h, List.length_append, ← List.drop_drop, List.drop_left]
      obtain ⟨i1, i2⟩ := ih (fun x hx => hg x (List.mem_cons_of_mem _ hx)) (n - (recB c).length)
      exact ⟨i1, by rw [List.append_assoc, ← i2]⟩
    · rw [if_neg h, recs_cons, List.append_assoc, List.take_append_of_le_length (by omega)]
      simp only [List.take_zero, recs, List.flatMap_nil, List.length_nil, List.drop_zero, List.nil_append]
      exact ⟨Tail.of (hg c (List.mem_cons_self)) (by omega), trivial⟩
theorem LS.kept_le {S : LS} (h : LsOk S) (keep : Int) : S.safe ≤ S.kept keep ∧ S.kept keep ≤ S.bs.length := by
  have := h.safe
  unfold LS.kept
  omega
theorem LS.crash_bs {S : LS} (h : LsOk S) (keep : Int) : (S.crash keep).bs = S.bs.take (S.kept keep) := by
  have := (cut_split h.tail S.cs h.good (S.kept keep)).2
  exact this.symm
theorem take_recs_le {cs : List Cl} (k : Nat) : (recs (cs.take k)).length ≤ (recs cs).length := by
  conv => rhs; rw [← List.take_append_drop k cs]
  unfold recs
  rw [List.flatMap_append, List.length_append]
  omega
theorem LsOk.crash_ {S : LS} (h : LsOk S) (keep : Int) : LsOk (S.crash keep) := by
  refine ⟨fun c hc => h.good c (List.mem_of_mem_take hc), (cut_split h.tail S.cs h.good (S.kept keep)).1, ?_, Nat.le_trans (take_recs_le _) h.len⟩
  rw [LS.crash_bs h, List.length_take]
  have := (LS.kept_le h keep).2
  show S.kept keep ≤ _
  omega
theorem bs_bytes {S : LS} (h : LsOk S) : ∀ x ∈ S.bs, 0 ≤ x ∧ x < 256 := by
  intro x hx
  rcases List.mem_append.1 hx with h1 | h1
  · obtain ⟨c, hc, hx⟩ := List.mem_flatMap.1 h1
    exact recB_bytes (h.good c hc).by_ x hx
  · obtain ⟨c, j, hc, e, _⟩ := h.tail
    rw [e] at h1
    exact recB_bytes hc.by_ x (List.mem_of_mem_take h1)
end Go.Proofs.YtijgiieoinmjhaaDoor
