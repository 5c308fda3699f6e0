/- path.Path: the way of a row. Conditions: arguments read as lists. -/
import Derived.Test.YtibbohebmmahmaaDoorTreeMath
namespace Go.Proofs.YtibbohebmmahmaaDoor
set_option linter.unusedVariables false
set_option linter.unusedSimpArgs false
open Go.RowKit

/-- the nodes behind a node on the way of a row -/
def wayFrom (t : List Nd) (row : List Int) : Nat → Nat → List Int
  | 0, _ => []
  | k + 1, i => match t[i]? with
    | some n => if n.f = -1 then [] else nextOf n (cellAt row n.f) :: wayFrom t row k (nextOf n (cellAt row n.f)).toNat
    | none => []
theorem wayFrom_leaf {t : List Nd} {row : List Int} {k i : Nat} {n : Nd} (h : t[i]? = some n) (hf : n.f = -1) : wayFrom t row k i = [] := by
  cases k with
  | zero => rfl
  | succ k => simp only [wayFrom, h, hf, if_true]
theorem wayFrom_step {t : List Nd} {row : List Int} {k i : Nat} {n : Nd} (h : t[i]? = some n) (hf : n.f ≠ -1) : wayFrom t row (k + 1) i = nextOf n (cellAt row n.f) :: wayFrom t row k (nextOf n (cellAt row n.f)).toNat := by
  simp only [wayFrom, h, hf, if_false]
theorem wayFrom_len {t : List Nd} {row : List Int} (hb : Behind t) : ∀ (k i : Nat), i < t.length → (wayFrom t row k i).length ≤ dep t i := by
  intro k
  induction k with
  | zero => intro i _; exact Nat.zero_le _
  | succ k ih =>
    intro i hi
    have hn : t[i]? = some t[i] := List.getElem?_eq_getElem hi
    by_cases hf : (t[i]).f = -1
    · rw [wayFrom_leaf hn hf]; exact Nat.zero_le _
    · obtain ⟨a, b, c, d⟩ := hb i _ hn hf
      rw [wayFrom_step hn hf, List.length_cons, dep_at hn (fun _ => a) (fun _ => c), if_neg hf]
      have e : nextOf t[i] (cellAt row (t[i]).f) = (t[i]).l ∨ nextOf t[i] (cellAt row (t[i]).f) = (t[i]).r := by
        unfold nextOf; split
        · exact .inl rfl
        · exact .inr rfl
      rcases e with e | e
      · rw [e]
        have := ih (t[i]).l.toNat (by omega)
        have := Nat.le_max_left (dep t (t[i]).l.toNat) (dep t (t[i]).r.toNat)
        omega
      · rw [e]
        have := ih (t[i]).r.toNat (by omega)
        have := Nat.le_max_right (dep t (t[i]).l.toNat) (dep t (t[i]).r.toNat)
        omega
def pathV (t : List Nd) (row : List Int) : List Int := if readyE t row = 0 then 0 :: wayFrom t row t.length 0 else []
def PathPost (t : List Nd) (row : List Int) (w : World) (e : Ending) (w' : World) : Prop :=
  ∃ v, e = .returned (.tuple #[v, errV (readyE t row)]) ∧ w'.ownsRow w.heap.size 3 1 v (pathV t row).length ((pathV t row).map (Value.int .i64)) ∧ Below w.heap.size w w'

set_option maxRecDepth 100000 in
set_option maxHeartbeats 2000000 in
theorem path_any (A C : Option Addr) (m d k q : Nat) (t : List Nd) (row : List Int) (w : World) (ht : NReads w w.heap.size A m t) (hr : IReads w w.heap.size C k row) (hm : m ≤ maxLen) (hk : k ≤ maxLen) :
    Calls Tryd.prog 5 #[.slice A m d, .slice C k q] w (PathPost t row w) := by
  have hlen := ht.len
  have hl := hr.len
  by_cases h0 : readyE t row = 0
  · have HO : Hid (pathV t row = 0 :: wayFrom t row m 0) := hide (by unfold pathV; rw [if_pos h0, hlen])
    have hv := errV_0 h0
    have HV := hide hv
    obtain ⟨_, hR, h8⟩ := readyE_right h0
    have b1 := hR.pos
    have b2 := hR.most
    have HB := hide hR.behind
    have HA := hide hR.asks
    rw [hl] at h8 HA
    rw [hlen] at b1 b2
    have HL := hide hlen
    clear h0 hl hlen hR
    go_enter Tryd.func5, Tryd.ntmps5
    go_wp2_with fail
    refine (ready_any A C m d k q t row _ ht hr hm hk).mono ?_
    rintro e w1 ⟨rfl, hb1⟩
    rw [hv]
    clear hv
    have hs1 := hb1.size
    have hown0 := own_new (w := w1) (B := w.heap.size) [.int .i64 0] 3 1 1 rfl (by decide) hs1
    go_wp2_with fail
    go_loopw [7, 8] (fun v i wr => ∃ (j F : Nat) (l : List Int), j < m ∧ i = .int .i64 j ∧ m ≤ j + F ∧ l.length ≤ j + 1 ∧ Hid (l ++ wayFrom t row F j = 0 :: wayFrom t row m 0) ∧ wr.ownsRow w.heap.size 3 1 v l.length (l.map (Value.int .i64)) ∧ Below w.heap.size w wr) (fun _ i _ => m - (intOf i).toNat)
    case atStart => exact ⟨0, m, [0], b1, rfl, by omega, Nat.le_refl _, hide rfl, hown0, hb1.alloc hs1 _⟩
    case round =>
      obtain ⟨j, F, l, hj, rfl, hF, hlj, HF, hown, hbel⟩ := hrel
      have hsz := hbel.size
      obtain ⟨b, o, n, rfl, hbb, hn, g0, g1, g2, g3, g4, g5⟩ := (ht.below hbel).get hj
      by_cases hf : n.f = -1
      · have HZ : Hid (pathV t row = l) := hide (by rw [unhide HO, ← unhide HF, wayFrom_leaf hn hf, List.append_nil])
        rw [hf] at g0
        clear hn
        go_wp2_with fail
        go_ret2
        exact ⟨_, by rw [unhide HV]; rfl, by rw [unhide HZ]; exact hown, hbel⟩
      · have hnf : (n.f != -1) = true := by simpa using hf
        obtain ⟨a1, a2⟩ := (unhide HA) j n hn hf
        obtain ⟨fn, hfn⟩ : ∃ fn : Nat, n.f = fn := ⟨n.f.toNat, by omega⟩
        have hfk : fn < k := by omega
        obtain ⟨b3, o3, x, rfl, hbb2, hx, cx⟩ := (hr.below hbel).get hfk
        have hcx : cellAt row n.f = x := by unfold cellAt; rw [hfn, Int.toNat_natCast, List.getD_eq_getElem?_getD, hx]; rfl
        obtain ⟨j2, hj2, hlt, hjm⟩ := nextOf_lt (c := x) (unhide HB) hn hf
        rw [unhide HL] at hjm
        obtain ⟨F2, rfl⟩ : ∃ F2, F = F2 + 1 := ⟨F - 1, by omega⟩
        have HF2 : Hid ((l ++ [(j2 : Int)]) ++ wayFrom t row F2 j2 = 0 :: wayFrom t row m 0) := hide (by
          have := unhide HF
          rw [wayFrom_step hn hf, hcx, hj2, Int.toNat_natCast] at this
          rw [← this]; simp)
        have HJ := hide hj2
        obtain ⟨nf, nc, nl, nr, nless, nv⟩ := n
        simp only at hfn g0 g1 g2 g3 g4 g5 hnf
        subst hfn
        have hk9 : l.length < 1000000000 := by omega
        clear hn hx hcx hj2 hf a1 a2
        go_wp2_with fail
        go_still_tail 12, (by kernel_rfl)
        go_wp2_with fail
        refine (next_any (fn : Int) nc nl nr nless nv x _).mono ?_
        rintro e w2 ⟨rfl, hb2⟩
        rw [unhide HJ]
        have hb3 : Below wr.heap.size wr w2 := ((Below.refl _ _).drew).trans hb2
        have hown2 : w2.ownsRow w.heap.size 3 1 u7 l.length (l.map (Value.int .i64)) := own_below hown hb3
        have hs2 := Nat.le_trans hsz hb3.size
        go_wp2_with (at_builtin; refine app_one elem_int (.tmp 35) (.tmp 37) [.int .i64 (j2 : Int)] rfl rfl rfl hown2 rfl rfl rfl (ints_oneCell .i64 [(j2 : Int)]) hk9 hs2 ?_; intro v' w3 hown3 hb4 _ _)
        have hown4 : w3.ownsRow w.heap.size 3 1 v' (l ++ [(j2 : Int)]).length ((l ++ [(j2 : Int)]).map (Value.int .i64)) := by simpa using hown3
        clear hown3
        go_wp2_with fail
        go_roundw
        case rel => exact ⟨j2, F2, l ++ [(j2 : Int)], by omega, rfl, by omega, by simp; omega, HF2, hown4, (hbel.trans (hb3.mono hsz)).trans hb4⟩
        case measure => simp [intOf] <;> omega
  · have HE : Hid (pathV t row = []) := hide (by unfold pathV; rw [if_neg h0])
    have hv := errV_1 h0
    have HV := hide hv
    clear h0 hl hlen
    go_enter Tryd.func5, Tryd.ntmps5
    go_wp2_with fail
    refine (ready_any A C m d k q t row _ ht hr hm hk).mono ?_
    rintro e w1 ⟨rfl, hb1⟩
    rw [hv]
    clear hv
    go_wp2_with fail
    go_ret2
    exact ⟨_, by rw [unhide HV]; rfl, by rw [unhide HE]; exact World.ownsRow_nil _ _ _ _, hb1⟩
end Go.Proofs.YtibbohebmmahmaaDoor
