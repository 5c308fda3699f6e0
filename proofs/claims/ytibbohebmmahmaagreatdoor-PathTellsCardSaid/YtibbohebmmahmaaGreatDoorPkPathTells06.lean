/- Part 6 of what LawPathTells needs: Path, WhyP, Digits, RefRow. Conditions: as each lemma names. -/
import Derived.Test.YtibbohebmmahmaaGreatDoorPkPathTells05
import Derived.Lib.ItoaLen
import Derived.Lib.Join
import Derived.Test.YtibbohebmmahmaaGreatDoorPkPathTells01
import Derived.Laws.Concat
import Derived.Laws.Strings2
import Derived.Test.YtibbohebmmahmaaGreatDoorPkPathTells02
/- path.Path: the way of a row. Conditions: arguments read as lists. -/
namespace Go.Proofs.YtibbohebmmahmaaGreatDoor
set_option linter.unusedVariables false
set_option linter.unusedSimpArgs false
open Go.RowKit

/-- the nodes behind a node on the way of a row -/
def wayFrom (t : List Nd) (row : List Int) : Nat → Nat → List Int
  | 0, _ => []
  | k + 1, i => match t[i]? with
    | some n => if n.f = -1 then [] else nextOf n (cellAt row n.f) :: wayFrom t row k (nextOf n (cellAt row n.f)).toNat
    | none => []
theorem wayFrom_leaf {t : List Nd} {row : List Int} {k i : Nat} {n : Nd} (h : t[i]? = some n) (hf : n.f = -1) : wayFrom t row k i = [] := by
  cases k with
  | zero => rfl
  | succ k => simp only [wayFrom, h, hf, if_true]
theorem wayFrom_step {t : List Nd} {row : List Int} {k i : Nat} {n : Nd} (h : t[i]? = some n) (hf : n.f ≠ -1) : wayFrom t row (k + 1) i = nextOf n (cellAt row n.f) :: wayFrom t row k (nextOf n (cellAt row n.f)).toNat := by
  simp only [wayFrom, h, hf, if_false]
theorem wayFrom_len {t : List Nd} {row : List Int} (hb : Behind t) : ∀ (k i : Nat), i < t.length → (wayFrom t row k i).length ≤ dep t i := by
  intro k
  induction k with
  | zero => intro i _; exact Nat.zero_le _
  | succ k ih =>
    intro i hi
    have hn : t[i]? = some t[i] := List.getElem?_eq_getElem hi
    by_cases hf : (t[i]).f = -1
    · rw [wayFrom_leaf hn hf]; exact Nat.zero_le _
    · obtain ⟨a, b, c, d⟩ := hb i _ hn hf
      rw [wayFrom_step hn hf, List.length_cons, dep_at hn (fun _ => a) (fun _ => c), if_neg hf]
      have e : nextOf t[i] (cellAt row (t[i]).f) = (t[i]).l ∨ nextOf t[i] (cellAt row (t[i]).f) = (t[i]).r := by
        unfold nextOf; split
        · exact .inl rfl
        · exact .inr rfl
      rcases e with e | e
      · rw [e]
        have := ih (t[i]).l.toNat (by omega)
        have := Nat.le_max_left (dep t (t[i]).l.toNat) (dep t (t[i]).r.toNat)
        omega
      · rw [e]
        have := ih (t[i]).r.toNat (by omega)
        have := Nat.le_max_right (dep t (t[i]).l.toNat) (dep t (t[i]).r.toNat)
        omega
def pathV (t : List Nd) (row : List Int) : List Int := if readyE t row = 0 then 0 :: wayFrom t row t.length 0 else []
def PathPost (t : List Nd) (row : List Int) (w : World) (e : Ending) (w' : World) : Prop :=
  ∃ v, e = .returned (.tuple #[v, errV (readyE t row)]) ∧ w'.ownsRow w.heap.size 3 1 v (pathV t row).length ((pathV t row).map (Value.int .i64)) ∧ Below w.heap.size w w'

set_option maxRecDepth 100000 in
set_option maxHeartbeats 2000000 in
theorem path_any (A C : Option Addr) (m d k q : Nat) (t : List Nd) (row : List Int) (w : World) (ht : NReads w w.heap.size A m t) (hr : IReads w w.heap.size C k row) (hm : m ≤ maxLen) (hk : k ≤ maxLen) :
    Calls Tryz.prog 7 #[.slice A m d, .slice C k q] w (PathPost t row w) := by
  have hlen := ht.len
  have hl := hr.len
  by_cases h0 : readyE t row = 0
  · have HO : Hid (pathV t row = 0 :: wayFrom t row m 0) := hide (by unfold pathV; rw [if_pos h0, hlen])
    have hv := errV_0 h0
    have HV := hide hv
    obtain ⟨_, hR, h8⟩ := readyE_right h0
    have b1 := hR.pos
    have b2 := hR.most
    have HB := hide hR.behind
    have HA := hide hR.asks
    rw [hl] at h8 HA
    rw [hlen] at b1 b2
    have HL := hide hlen
    clear h0 hl hlen hR
    go_enter Tryz.func7, Tryz.ntmps7
    go_wp2_with fail
    refine (ready_any A C m d k q t row _ ht hr hm hk).mono ?_
    rintro e w1 ⟨rfl, hb1⟩
    rw [hv]
    clear hv
    have hs1 := hb1.size
    have hown0 := own_new (w := w1) (B := w.heap.size) [.int .i64 0] 3 1 1 rfl (by decide) hs1
    go_wp2_with fail
    go_loopw [7, 8] (fun v i wr => ∃ (j F : Nat) (l : List Int), j < m ∧ i = .int .i64 j ∧ m ≤ j + F ∧ l.length ≤ j + 1 ∧ Hid (l ++ wayFrom t row F j = 0 :: wayFrom t row m 0) ∧ wr.ownsRow w.heap.size 3 1 v l.length (l.map (Value.int .i64)) ∧ Below w.heap.size w wr) (fun _ i _ => m - (intOf i).toNat)
    case atStart => exact ⟨0, m, [0], b1, rfl, by omega, Nat.le_refl _, hide rfl, hown0, hb1.alloc hs1 _⟩
    case round =>
      obtain ⟨j, F, l, hj, rfl, hF, hlj, HF, hown, hbel⟩ := hrel
      have hsz := hbel.size
      obtain ⟨b, o, n, rfl, hbb, hn, g0, g1, g2, g3, g4, g5⟩ := (ht.below hbel).get hj
      by_cases hf : n.f = -1
      · have HZ : Hid (pathV t row = l) := hide (by rw [unhide HO, ← unhide HF, wayFrom_leaf hn hf, List.append_nil])
        rw [hf] at g0
        clear hn
        go_wp2_with fail
        go_ret2
        exact ⟨_, by rw [unhide HV]; rfl, by rw [unhide HZ]; exact hown, hbel⟩
      · have hnf : (n.f != -1) = true := by simpa using hf
        obtain ⟨a1, a2⟩ := (unhide HA) j n hn hf
        obtain ⟨fn, hfn⟩ : ∃ fn : Nat, n.f = fn := ⟨n.f.toNat, by omega⟩
        have hfk : fn < k := by omega
        obtain ⟨b3, o3, x, rfl, hbb2, hx, cx⟩ := (hr.below hbel).get hfk
        have hcx : cellAt row n.f = x := by unfold cellAt; rw [hfn, Int.toNat_natCast, List.getD_eq_getElem?_getD, hx]; rfl
        obtain ⟨j2, hj2, hlt, hjm⟩ := nextOf_lt (c := x) (unhide HB) hn hf
        rw [unhide HL] at hjm
        obtain ⟨F2, rfl⟩ : ∃ F2, F = F2 + 1 := ⟨F - 1, by omega⟩
        have HF2 : Hid ((l ++ [(j2 : Int)]) ++ wayFrom t row F2 j2 = 0 :: wayFrom t row m 0) := hide (by
          have := unhide HF
          rw [wayFrom_step hn hf, hcx, hj2, Int.toNat_natCast] at this
          rw [← this]; simp)
        have HJ := hide hj2
        obtain ⟨nf, nc, nl, nr, nless, nv⟩ := n
        simp only at hfn g0 g1 g2 g3 g4 g5 hnf
        subst hfn
        have hk9 : l.length < 1000000000 := by omega
        clear hn hx hcx hj2 hf a1 a2
        go_wp2_with fail
        go_still_tail 12, (by kernel_rfl)
        go_wp2_with fail
        refine (next_any (fn : Int) nc nl nr nless nv x _).mono ?_
        rintro e w2 ⟨rfl, hb2⟩
        rw [unhide HJ]
        have hb3 : Below wr.heap.size wr w2 := ((Below.refl _ _).drew).trans hb2
        have hown2 : w2.ownsRow w.heap.size 3 1 u7 l.length (l.map (Value.int .i64)) := own_below hown hb3
        have hs2 := Nat.le_trans hsz hb3.size
        go_wp2_with (at_builtin; refine app_one elem_int (.tmp 35) (.tmp 37) [.int .i64 (j2 : Int)] rfl rfl rfl hown2 rfl rfl rfl (ints_oneCell .i64 [(j2 : Int)]) hk9 hs2 ?_; intro v' w3 hown3 hb4 _ _)
        have hown4 : w3.ownsRow w.heap.size 3 1 v' (l ++ [(j2 : Int)]).length ((l ++ [(j2 : Int)]).map (Value.int .i64)) := by simpa using hown3
        clear hown3
        go_wp2_with fail
        go_roundw
        case rel => exact ⟨j2, F2, l ++ [(j2 : Int)], by omega, rfl, by omega, by simp; omega, HF2, hown4, (hbel.trans (hb3.mono hsz)).trans hb4⟩
        case measure => simp [intOf] <;> omega
  · have HE : Hid (pathV t row = []) := hide (by unfold pathV; rw [if_neg h0])
    have hv := errV_1 h0
    have HV := hide hv
    clear h0 hl hlen
    go_enter Tryz.func7, Tryz.ntmps7
    go_wp2_with fail
    refine (ready_any A C m d k q t row _ ht hr hm hk).mono ?_
    rintro e w1 ⟨rfl, hb1⟩
    rw [hv]
    clear hv
    go_wp2_with fail
    go_ret2
    exact ⟨_, by rw [unhide HV]; rfl, by rw [unhide HE]; exact World.ownsRow_nil _ _ _ _, hb1⟩
end Go.Proofs.YtibbohebmmahmaaGreatDoor
/- The words of a row's way, in plain words. Conditions: none. -/
namespace Go.Proofs.YtibbohebmmahmaaGreatDoor
set_option linter.unusedVariables false
set_option linter.unusedSimpArgs false
open Go.RowKit

def bt (s : List UInt8) : ByteArray := ⟨s.toArray⟩
theorem bt_list (s : List UInt8) : (bt s).data.toList = s := by simp [bt]
theorem bt_size (s : List UInt8) : (bt s).size = s.length := by simp [bt, ByteArray.size]
def wordN (row : List Int) (n : Nd) : List UInt8 :=
  if n.f = -1 then [61] ++ Lib.itoa n.v
  else if cellAt row n.f = -1125899906842624 then [102] ++ Lib.itoa n.f ++ [63]
  else if cellAt row n.f < n.c then [102] ++ Lib.itoa n.f ++ [60] ++ Lib.itoa n.c
  else [102] ++ Lib.itoa n.f ++ [62, 61] ++ Lib.itoa n.c
def wordAt (t : List Nd) (row : List Int) (i : Int) : List UInt8 := match t[i.toNat]? with
  | some n => wordN row n
  | none => []
def wordsV (t : List Nd) (row : List Int) : List (List UInt8) := (pathV t row).map (wordAt t row)
def whyV (t : List Nd) (row : List Int) : List UInt8 := Lib.join (wordsV t row) [32]
theorem wordN_len {row : List Int} {n : Nd} (h1 : -1000000 ≤ n.v ∧ n.v ≤ 1000000) (h2 : -1 ≤ n.f ∧ n.f ≤ 8) (h3 : -1000000 ≤ n.c ∧ n.c ≤ 1000000) : (wordN row n).length ≤ 46 := by
  have a1 := Lib.itoa_length_le n.v (by omega) (by omega)
  have a2 := Lib.itoa_length_le n.f (by omega) (by omega)
  have a3 := Lib.itoa_length_le n.c (by omega) (by omega)
  unfold wordN
  split
  · simp; omega
  split
  · simp; omega
  split
  · simp; omega
  · simp; omega
theorem join_len_le : ∀ (l : List (List UInt8)) (b : Nat), (∀ x ∈ l, x.length ≤ b) → (Lib.join l [32]).length ≤ l.length * (b + 1) := by
  intro l
  cases l with
  | nil => intro b _; simp [Lib.join_nil]
  | cons x r =>
    intro b h
    rw [Lib.join_cons, List.length_append]
    have h1 : ∀ (r : List (List UInt8)), (∀ y ∈ r, y.length ≤ b) → (Lib.joinTail [32] r).length ≤ r.length * (b + 1) := by
      intro r
      induction r with
      | nil => intro _; simp [Lib.joinTail]
      | cons y r ih =>
        intro hr
        have := ih fun z hz => hr z (List.mem_cons_of_mem _ hz)
        have hy := hr y (List.mem_cons_self ..)
        have e : Lib.joinTail [32] (y :: r) = [32] ++ y ++ Lib.joinTail [32] r := by simp [Lib.joinTail]
        have e2 : (y :: r).length * (b + 1) = r.length * (b + 1) + (b + 1) := by rw [List.length_cons, Nat.add_mul, Nat.one_mul]
        rw [e, List.length_append, List.length_append, e2]
        simp only [List.length_cons, List.length_nil]
        omega
    have := h1 r fun y hy => h y (List.mem_cons_of_mem _ hy)
    have hx := h x (List.mem_cons_self ..)
    rw [List.length_cons, Nat.add_mul, Nat.one_mul]
    omega
theorem way_in {t : List Nd} {row : List Int} (hb : Behind t) : ∀ (k i : Nat), i < t.length → ∀ x ∈ wayFrom t row k i, ∃ p : Nat, x = (p : Int) ∧ p < t.length := by
  intro k
  induction k with
  | zero => intro i _ x hx; cases hx
  | succ k ih =>
    intro i hi x hx
    have hn : t[i]? = some t[i] := List.getElem?_eq_getElem hi
    by_cases hf : (t[i]).f = -1
    · rw [wayFrom_leaf hn hf] at hx; cases hx
    · rw [wayFrom_step hn hf] at hx
      obtain ⟨j2, hj2, hlt, hjm⟩ := nextOf_lt (c := cellAt row (t[i]).f) hb hn hf
      rw [hj2] at hx
      rcases List.mem_cons.1 hx with rfl | hx
      · exact ⟨j2, rfl, hjm⟩
      · exact ih _ (by rw [Int.toNat_natCast]; exact hjm) x hx
theorem pathV_in {t : List Nd} {row : List Int} {fe : Int} (hR : Right t fe) (h0 : readyE t row = 0) {x : Int} (hx : x ∈ pathV t row) : ∃ p : Nat, x = (p : Int) ∧ p < t.length := by
  unfold pathV at hx
  rw [if_pos h0] at hx
  rcases List.mem_cons.1 hx with rfl | hx
  · exact ⟨0, rfl, hR.pos⟩
  · exact way_in hR.behind _ _ hR.pos x hx
theorem pathV_le {t : List Nd} {row : List Int} {fe : Int} (hR : Right t fe) (h0 : readyE t row = 0) : (pathV t row).length ≤ 11 := by
  unfold pathV
  rw [if_pos h0, List.length_cons]
  have := wayFrom_len hR.behind (row := row) t.length 0 hR.pos
  have := hR.deep
  omega
end Go.Proofs.YtibbohebmmahmaaGreatDoor
/- orchref1.Digits: a number as text. Conditions: a number of no more than fifteen digits. -/
namespace Go.Proofs.YtibbohebmmahmaaGreatDoor
set_option linter.unusedVariables false
set_option linter.unusedSimpArgs false
open Go.RowKit

theorem bt_app (a b : List UInt8) : bt a ++ bt b = bt (a ++ b) := ByteArray.mk_append_mk a b
theorem digit_cut : ∀ u : Nat, u < 10 → (⟨#[48, 49, 50, 51, 52, 53, 54, 55, 56, 57]⟩ : ByteArray).extract u (u + 1) = bt [UInt8.ofNat (48 + u)] := by
  intro u hu
  match u, hu with
  | 0, _ => rfl
  | 1, _ => rfl
  | 2, _ => rfl
  | 3, _ => rfl
  | 4, _ => rfl
  | 5, _ => rfl
  | 6, _ => rfl
  | 7, _ => rfl
  | 8, _ => rfl
  | 9, _ => rfl
theorem run_digit (w : World) (k : Nat) (h : k < 10) : (Instr.slice 9 (.string ⟨#[48, 49, 50, 51, 52, 53, 54, 55, 56, 57]⟩) (some (.int .i64 (k : Int))) (some (.int .i64 ((k : Int) + 1))) none).run Tryz.prog w = .ok (.string (bt [UInt8.ofNat (48 + k)])) w := by
  have hz : (⟨#[48, 49, 50, 51, 52, 53, 54, 55, 56, 57]⟩ : ByteArray).size = 10 := rfl
  have := run_slice_string (P := Tryz.prog) w 9 ⟨#[48, 49, 50, 51, 52, 53, 54, 55, 56, 57]⟩ .i64 .i64 (k : Int) ((k : Int) + 1) Tryz.underlying9 (by omega) (by omega) (by rw [hz]; omega)
  rw [this, show ((k : Int) + 1).toNat = k + 1 by omega, Int.toNat_natCast, digit_cut k h]
theorem dec_len : ∀ (k u : Nat), u < 10 ^ (k + 1) → (Lib.decDigits u).length ≤ k + 1 := by
  intro k
  induction k with
  | zero => intro u h; rw [Lib.decDigits, dif_pos (by simpa using h)]; simp
  | succ k ih =>
    intro u h
    rw [Lib.decDigits]
    split
    · simp
    · rw [List.length_append]
      have := ih (u / 10) (by rw [Nat.pow_succ] at h; omega)
      simp only [List.length_cons, List.length_nil]
      omega

set_option maxHeartbeats 1000000 in
theorem rdigits_nat : ∀ (u : Nat) (w : World), u < 1000000000000000 → Calls Tryz.prog 22 #[.int .i64 (u : Int)] w fun e w' => e = .returned (.string (bt (Lib.decDigits u))) ∧ w = w' := by
  intro u
  induction u using Nat.strongRecOn with
  | _ u ih =>
    intro w hu
    by_cases h10 : u < 10
    · have hd : Hid (Lib.decDigits u = [UInt8.ofNat (48 + u)]) := hide (by rw [Lib.decDigits, dif_pos h10])
      have hrun := fun (W : World) => run_digit W u h10
      obtain ⟨dg, hdg⟩ : ∃ dg, dg = bt [UInt8.ofNat (48 + u)] := ⟨_, rfl⟩
      rw [← hdg] at hrun
      have HDG := hide hdg
      clear hdg
      have h10' : (u : Int) < 10 := by omega
      clear ih
      go_enter Tryz.func22, Tryz.ntmps22
      go_wp2_with fail
      go_ret
      exact ⟨by rw [unhide hd, ← unhide HDG]; rfl, rfl⟩
    · have hd : Hid (Lib.decDigits u = Lib.decDigits (u / 10) ++ [UInt8.ofNat (48 + u % 10)]) := hide (by rw [Lib.decDigits, dif_neg h10])
      have hI := hide (fun (X : World) => ih (u / 10) (by omega) X (by omega))
      obtain ⟨k, hk⟩ : ∃ k, k = u % 10 := ⟨_, rfl⟩
      have hk10 : k < 10 := by omega
      have hrun := fun (W : World) => run_digit W k hk10
      have h1s : (bt [UInt8.ofNat (48 + k)]).size ≤ 1 := Nat.le_refl 1
      obtain ⟨dg, hdg⟩ : ∃ dg, dg = bt [UInt8.ofNat (48 + k)] := ⟨_, rfl⟩
      rw [← hdg] at hrun h1s
      have HDG := hide hdg
      clear hdg
      have e1 : (u : Int) % 10 = (k : Int) := by omega
      obtain ⟨q, hq⟩ : ∃ q, q = u / 10 := ⟨_, rfl⟩
      have e2 : (u : Int) / 10 = (q : Int) := by omega
      have h10' : ¬ (u : Int) < 10 := by omega
      have hl : (bt (Lib.decDigits q)).size ≤ 16 := by rw [bt_size]; exact dec_len 15 _ (by omega)
      rw [← hk, ← hq] at hd
      obtain ⟨D, hD⟩ : ∃ D, D = bt (Lib.decDigits q) := ⟨_, rfl⟩
      rw [← hq, ← hD] at hI
      rw [← hD] at hl
      have HD := hide hD
      clear ih hk hD hq
      go_enter Tryz.func22, Tryz.ntmps22
      go_wp2_with fail
      refine (unhide hI _).mono ?_
      rintro e w1 ⟨rfl, rfl⟩
      go_wp2_with fail
      go_ret
      exact ⟨by rw [unhide hd, ← bt_app, ← unhide HD, ← unhide HDG]; rfl, rfl⟩
theorem rdigits_any (n : Int) (w : World) (h0 : -1000000000000 ≤ n) (h1 : n ≤ 1000000000000) : Calls Tryz.prog 22 #[.int .i64 n] w fun e w' => e = .returned (.string (bt (Lib.itoa n))) ∧ w = w' := by
  by_cases hn : n < 0
  · obtain ⟨u, rfl⟩ : ∃ u : Nat, n = -(u : Int) := ⟨n.natAbs, by omega⟩
    have hi := hide (Lib.itoa_neg u (by omega))
    have hI := hide (fun (X : World) => rdigits_nat u X (by omega))
    have hl : (bt (Lib.decDigits u)).size ≤ 16 := by rw [bt_size]; exact dec_len 15 _ (by omega)
    obtain ⟨D, hD⟩ : ∃ D, D = bt (Lib.decDigits u) := ⟨_, rfl⟩
    rw [← hD] at hI hl
    have HD := hide hD
    clear hD
    go_enter Tryz.func22, Tryz.ntmps22
    go_wp2_with fail
    refine (unhide hI _).mono ?_
    rintro e w1 ⟨rfl, rfl⟩
    go_wp2_with fail
    go_ret
    exact ⟨by rw [unhide hi, show (45 :: Lib.decDigits u) = [45] ++ Lib.decDigits u from rfl, ← bt_app, ← unhide HD]; rfl, rfl⟩
  · obtain ⟨u, rfl⟩ : ∃ u : Nat, n = u := ⟨n.toNat, by omega⟩
    rw [Lib.itoa_nonneg]
    exact rdigits_nat u w (by omega)
end Go.Proofs.YtibbohebmmahmaaGreatDoor
/- The references of chapter 3: Cell, none, Row. Conditions: a slice that reads as a list. -/
namespace Go.Proofs.YtibbohebmmahmaaGreatDoor
set_option linter.unusedVariables false
set_option linter.unusedSimpArgs false
open Go.RowKit

theorem rcell_any (n : Int) (w : World) : Calls Tryz.prog 29 #[.int .i64 n] w fun e w' => e = .returned (.bool (cellB n)) ∧ w = w' := by
  by_cases h1 : -1000000 ≤ n
  · by_cases h2 : n ≤ 1000000
    · go_enter Tryz.func29, Tryz.ntmps29
      go_wp2
      go_ret
      exact ⟨by rw [cellB_t.2 ⟨h1, h2⟩]; rfl, rfl⟩
    · go_enter Tryz.func29, Tryz.ntmps29
      go_wp2
      go_ret
      exact ⟨by rw [cellB_f.2 (by omega)]; rfl, rfl⟩
  · go_enter Tryz.func29, Tryz.ntmps29
    go_wp2
    go_ret
    exact ⟨by rw [cellB_f.2 (by omega)]; rfl, rfl⟩

theorem rnone_any (n : Int) (w : World) : Calls Tryz.prog 23 #[.int .i64 n] w fun e w' => e = .returned (.bool (n == -1125899906842624)) ∧ w = w' := by
  go_enter Tryz.func23, Tryz.ntmps23
  go_wp2
  go_ret
  exact ⟨rfl, rfl⟩

set_option maxRecDepth 100000 in
theorem rrow_any (A : Option Addr) (n c : Nat) (l : List Int) (w : World) (B : Nat) (ha : IReads w B A n l) (hn : n ≤ maxLen) :
    Calls Tryz.prog 20 #[.slice A n c] w fun e w' => e = .returned (.int .i64 (rowE l)) ∧ w = w' := by
  have hl := ha.len
  unfold maxLen at hn
  by_cases h8 : 8 < n
  · have HE : Hid (rowE l = 4) := hide (by unfold rowE; rw [if_pos (by omega)])
    clear hl
    go_enter Tryz.func20, Tryz.ntmps20
    go_wp2_with fail
    go_ret
    exact ⟨ret_int (unhide HE).symm, rfl⟩
  · have HL := hide hl
    clear hl
    go_enter Tryz.func20, Tryz.ntmps20
    go_wp2_with fail
    go_loop [3] (fun i => ∃ k : Nat, k ≤ n ∧ i = .int .i64 k ∧ Hid (∀ y ∈ l.take k, rowGood y = true)) (fun i => n - (intOf i).toNat)
    case atStart => exact ⟨0, Nat.zero_le _, rfl, hide (by simp)⟩
    case round =>
      obtain ⟨k, hk, rfl, HG⟩ := hrel
      by_cases hlt : k < n
      · obtain ⟨b, o, x, rfl, hb, hx, cx⟩ := ha.get hlt
        have HX := hide hx
        clear hx
        by_cases hc : cellB x = true
        · have HC := hide hc
          clear hc
          go_wp2_with fail
          refine (rcell_any _ _).mono ?_; rintro e w1 ⟨rfl, rfl⟩; rw [unhide HC]
          go_wp2_with fail
          refine (rnone_any _ _).mono ?_; rintro e w1 ⟨rfl, rfl⟩
          go_wp2_with fail
          go_round
          case rel => exact ⟨k + 1, by omega, by go_num, hide (all_next (unhide HX) (unhide HG) (by simp [rowGood, unhide HC]))⟩
          case measure => simp [intOf]; omega
        · have hc2 : cellB x = false := by simpa using hc
          have HC := hide hc2
          clear hc hc2
          by_cases hn2 : x = -1125899906842624
          · have q : (x == -1125899906842624) = true := by simpa using hn2
            have HN := hide q
            clear q hn2
            go_wp2_with fail
            refine (rcell_any _ _).mono ?_; rintro e w1 ⟨rfl, rfl⟩; rw [unhide HC]
            go_wp2_with fail
            refine (rnone_any _ _).mono ?_; rintro e w1 ⟨rfl, rfl⟩; rw [unhide HN]
            go_wp2_with fail
            go_round
            case rel => exact ⟨k + 1, by omega, by go_num, hide (all_next (unhide HX) (unhide HG) (by have := unhide HN; simp [rowGood, nilC] at this ⊢; exact .inl this))⟩
            case measure => simp [intOf]; omega
          · have q : (x == -1125899906842624) = false := by simpa using hn2
            have HN := hide q
            have HE : Hid (rowE l = 1) := hide (rowE_bad (unhide HX) (by simp [rowGood, nilC, unhide HC]; exact hn2) (by have := unhide HL; omega))
            clear q hn2
            go_wp2_with fail
            refine (rcell_any _ _).mono ?_; rintro e w1 ⟨rfl, rfl⟩; rw [unhide HC]
            go_wp2_with fail
            refine (rnone_any _ _).mono ?_; rintro e w1 ⟨rfl, rfl⟩; rw [unhide HN]
            go_wp2_with fail
            go_ret
            exact ⟨ret_int (unhide HE).symm, rfl⟩
      · have HE : Hid (rowE l = 0) := hide (by
          have h2 := unhide HG
          rw [List.take_of_length_le (by have := unhide HL; omega)] at h2
          exact rowE_good h2 (by have := unhide HL; omega))
        go_wp2_with fail
        go_ret
        exact ⟨ret_int (unhide HE).symm, rfl⟩
end Go.Proofs.YtibbohebmmahmaaGreatDoor
