/- Part 20 of what LawPathTells needs: RefMeet, DifferTurned, RegR. Conditions: as each lemma names. -/
import Derived.Test.YtibbohebmmahmaaGreatDoorPkPathTells19
import Derived.Test.YtibbohebmmahmaaGreatDoorPkPathTells16
/- The reference's Any and Meet of spans: contracts. Conditions: arguments read as spans. -/
namespace Go.Proofs.YtibbohebmmahmaaGreatDoor
set_option linter.unusedVariables false
set_option linter.unusedSimpArgs false
open Go.RowKit

def meetS (a b : Sp) : Sp := ⟨max a.low b.low, min a.high b.high, a.ab && b.ab⟩
def meetL (a b : List Sp) : List Sp := List.zipWith meetS a b
theorem meetL_len {a b : List Sp} (h : a.length = b.length) : (meetL a b).length = a.length := by unfold meetL; rw [List.length_zipWith]; omega
theorem all_next2 {l : List Sp} {k : Nat} {s : Sp} (h : l[k]? = some s) (ha : anyB (l.take k) = true) (hs : someB s = true) : anyB (l.take (k + 1)) = true := by
  unfold anyB at *
  rw [take_next h, List.all_append, ha]
  simp [hs]
theorem any_bad {l : List Sp} {k : Nat} {s : Sp} (h : l[k]? = some s) (hs : someB s = false) : anyB l = false := by
  cases hb : anyB l with
  | false => rfl
  | true => have := any_at hb h; rw [this] at hs; cases hs

set_option maxRecDepth 100000 in
set_option maxHeartbeats 1000000 in
theorem rany_any (A : Option Addr) (n c B : Nat) (l : List Sp) (w : World) (hr : SReads w B A n l) (hn : n ≤ maxLen) :
    Calls Tryz.prog 13 #[.slice A n c] w fun e w' => e = .returned (.bool (anyB l)) ∧ ∃ q, w' = w.drewN q := by
  have HL := hide hr.len
  unfold maxLen at hn
  go_enter Tryz.func13, Tryz.ntmps13
  go_wp2_with fail
  go_loopw [3] (fun i wr => ∃ k q : Nat, k ≤ n ∧ i = .int .i64 k ∧ Hid (anyB (l.take k) = true) ∧ wr = w.drewN q) (fun i _ => n - (intOf i).toNat)
  case atStart => exact ⟨0, 0, Nat.zero_le _, rfl, hide rfl, rfl⟩
  case round =>
    obtain ⟨k, q, hk, rfl, HA, rfl⟩ := hrel
    by_cases hlt : k < n
    · obtain ⟨b, o, s, rfl, hb, hs, c0, c1, c2⟩ := hr.get hlt
      by_cases h1 : s.high < s.low
      · by_cases h2 : s.ab = true
        · have HA2 := hide (all_next2 hs (unhide HA) (by simp [someB, h2]))
          rw [h2] at c2
          clear hs h2
          go_wp2_with fail
          go_quiet (fail)
          go_wp2_with fail
          go_roundw
          case rel => exact ⟨k + 1, q + nq, by omega, by go_num, HA2, by first | rfl | rw [World.drewN_drewN]⟩
          case measure => simp [intOf]; omega
        · have h2' : s.ab = false := by simpa using h2
          have HA2 := hide (any_bad hs (by simp [someB, h2']; omega))
          rw [h2'] at c2
          clear hs h2 h2'
          go_wp2_with fail
          go_quiet (fail)
          go_wp2_with fail
          go_ret
          exact ⟨by rw [unhide HA2]; rfl, _, by first | rfl | rw [World.drewN_drewN]⟩
      · have HA2 := hide (all_next2 hs (unhide HA) (by simp [someB]; left; omega))
        have h1' : decide (s.high < s.low) = false := by simpa using h1
        clear hs
        go_wp2_with fail
        go_quiet (fail)
        go_wp2_with fail
        go_roundw
        case rel => exact ⟨k + 1, q + nq, by omega, by go_num, HA2, by first | rfl | rw [World.drewN_drewN]⟩
        case measure => simp [intOf]; omega
    · have HA2 : Hid (anyB l = true) := hide (by have := unhide HA; rwa [List.take_of_length_le (by have := unhide HL; omega)] at this)
      go_wp2_with fail
      go_ret
      exact ⟨by rw [unhide HA2]; rfl, q, rfl⟩

theorem post_name {Q : Exit → Act → World → Prop} {x : Exit} {a : Act} {W : World} (h : ∀ X, X = W → Q x a X) : Q x a W := h W rfl
theorem own_lt2 {w : World} {base : Nat} {e : TypeId} {size n : Nat} {v : Value} {xs : List Value} (h : w.ownsRow base e size v n xs) : ∀ k, v.ownBlock = some k → k < w.heap.size := fun k hk => (h.lt k hk).2
theorem own_drewN {w : World} {base : Nat} {e : TypeId} {size n : Nat} {v : Value} {xs : List Value} (h : w.ownsRow base e size v n xs) (q : Nat) : (w.drewN q).ownsRow base e size v n xs := h
theorem meet_next {a b : List Sp} {k : Nat} {s u : Sp} (h : a[k]? = some s) (h' : b[k]? = some u) : meetL (a.take (k + 1)) (b.take (k + 1)) = meetL (a.take k) (b.take k) ++ [meetS s u] := by
  unfold meetL
  have h1 : k < a.length := (List.getElem?_eq_some_iff.1 h).1
  have h2 : k < b.length := (List.getElem?_eq_some_iff.1 h').1
  rw [take_next h, take_next h', List.zipWith_append (by simp; omega)]
  rfl

end Go.Proofs.YtibbohebmmahmaaGreatDoor
/- DifferTurned: the plain law and the walk. Conditions: arguments read as lists. -/
namespace Go.Proofs.YtibbohebmmahmaaGreatDoor
set_option linter.unusedVariables false
set_option linter.unusedSimpArgs false
open Go.RowKit
open Classical in
/-- in how many pairs: either way round -/
noncomputable def cnt2 {α β : Type} (c : α → β → Prop) (L : List α) (M : List β) : Nat := (L.map fun i => (M.filter fun k => decide (c i k)).length).sum
open Classical in
theorem cnt2_turn {α β : Type} (c : α → β → Prop) (M : List β) : ∀ L : List α, cnt2 c L M = cnt2 (fun k i => c i k) M L := by
  intro L
  induction L with
  | nil => unfold cnt2; induction M with
    | nil => rfl
    | cons k r ih => simpa using ih
  | cons i r ih =>
    have h1 : cnt2 c (i :: r) M = (M.filter fun k => decide (c i k)).length + cnt2 c r M := by unfold cnt2; simp
    have h2 : ∀ M : List β, cnt2 (fun k i => c i k) M (i :: r) = (M.filter fun k => decide (c i k)).length + cnt2 (fun k i => c i k) M r := by
      intro M
      induction M with
      | nil => rfl
      | cons k s ihs =>
        unfold cnt2 at ihs ⊢
        simp only [List.map_cons, List.sum_cons, List.filter_cons]
        by_cases h : c i k
        · simp only [h, decide_true, if_true, List.length_cons] at ihs ⊢
          simp only [List.filter_cons] at ihs
          omega
        · simp only [h, decide_false, Bool.false_eq_true, if_false] at ihs ⊢
          simp only [List.filter_cons] at ihs
          omega
    rw [h1, h2, ih]

/-- some row comes to both leaves, and their values differ -/
def Hit (a b : List Nd) (n i k : Nat) : Prop := valAt a i ≠ valAt b k ∧ ∃ r, inSp r (wideL n) ∧ leafOf a r = i ∧ leafOf b r = k
open Classical in
theorem pairsAt_count {a b : List Nd} {n : Nat} (ha : Right a n) (hb : Right b n) (p : Nat × List Sp) (hp : p ∈ lv a a.length 0 (wideL n)) :
    (pairsAt a b p).length = ((idx b b.length 0).filter (fun k => decide (Hit a b n p.1 k))).length := by
  have hpl : p.2.length = n := by rw [lv_length _ _ _ p hp, wide_len]
  have hlow := lv_low a.length 0 (wideL n) (wide_low n) p hp
  have key : ∀ q ∈ lv b b.length 0 p.2, (meets a b p.1 q = true ↔ Hit a b n p.1 q.1) := by
    intro q hq
    unfold meets Hit
    rw [Bool.and_eq_true, bne_iff_ne]
    constructor
    · rintro ⟨h1, h2⟩
      have hr := pick_in (wf_low (lv_low b.length 0 p.2 hlow q hq)) h1
      obtain ⟨h3, h4⟩ := lv_to hb.asks _ _ _ _ hpl q hq hr
      obtain ⟨h5, h6⟩ := lv_to ha.asks _ _ _ _ (wide_len n) p hp h3
      exact ⟨h2, _, h5, h6, h4⟩
    · rintro ⟨h2, r, h5, h6, h4⟩
      obtain ⟨p', hp', h7, h8⟩ := lv_of ha.asks ha.behind r a.length 0 (wideL n) (wide_len n) ha.pos (by omega) h5
      have := lv_one ha _ _ _ p' hp' p hp (by rw [← h8]; exact h6)
      subst this
      obtain ⟨q', hq', h9, h10⟩ := lv_of hb.asks hb.behind r b.length 0 p'.2 hpl hb.pos (by omega) h7
      have := lv_one hb _ _ _ q' hq' q hq (by rw [← h10]; exact h4)
      subst this
      exact ⟨inSp_any h9 (fun _ _ => trivial), h2⟩
  unfold pairsAt
  by_cases hany : anyB p.2 = true
  · rw [if_pos hany, List.length_map, ← lv_idx b b.length 0 p.2, List.filter_map, List.length_map]
    congr 1
    refine List.filter_congr fun q hq => ?_
    rw [Bool.eq_iff_iff, key q hq]
    simp
  · rw [if_neg hany]
    symm
    rw [List.length_nil, List.length_eq_zero_iff, List.filter_eq_nil_iff]
    intro k _
    rw [decide_eq_true_eq]
    rintro ⟨_, r, h5, h6, _⟩
    obtain ⟨p', hp', h7, h8⟩ := lv_of ha.asks ha.behind r a.length 0 (wideL n) (wide_len n) ha.pos (by omega) h5
    have := lv_one ha _ _ _ p' hp' p hp (by rw [← h8]; exact h6)
    subst this
    exact hany (inSp_any h7 (fun _ _ => trivial))
theorem flat_length {α β : Type} (f : α → List β) : ∀ l : List α, (l.flatMap f).length = (l.map fun x => (f x).length).sum := by
  intro l
  induction l with
  | nil => rfl
  | cons x r ih => rw [List.flatMap_cons, List.length_append, List.map_cons, List.sum_cons, ih]
theorem pairsL_count {a b : List Nd} {n : Nat} (ha : Right a n) (hb : Right b n) : (pairsL a b n).length = cnt2 (Hit a b n) (idx a a.length 0) (idx b b.length 0) := by
  unfold pairsL cnt2
  rw [flat_length, ← lv_idx a a.length 0 (wideL n), List.map_map]
  congr 1
  refine List.map_congr_left fun p hp => ?_
  rw [pairsAt_count ha hb p hp]
  rfl
theorem pairsL_turn {a b : List Nd} {n : Nat} (ha : Right a n) (hb : Right b n) : (pairsL a b n).length = (pairsL b a n).length := by
  rw [pairsL_count ha hb, pairsL_count hb ha, cnt2_turn]
  congr 1
  funext k i
  unfold Hit
  refine propext ⟨?_, ?_⟩
  · rintro ⟨h, r, h1, h2, h3⟩; exact ⟨Ne.symm h, r, h1, h3, h2⟩
  · rintro ⟨h, r, h1, h2, h3⟩; exact ⟨Ne.symm h, r, h1, h3, h2⟩
open Classical in
theorem pairsL_self {a : List Nd} {n : Nat} (ha : Right a n) : pairsL a a n = [] := by
  unfold pairsL
  rw [List.flatMap_eq_nil_iff]
  intro p hp
  have := pairsAt_count ha ha p hp
  apply List.eq_nil_of_length_eq_zero
  rw [this, List.length_eq_zero_iff, List.filter_eq_nil_iff]
  intro k _
  rw [decide_eq_true_eq]
  rintro ⟨h, r, h1, h2, h3⟩
  rw [h2] at h3
  exact h (by rw [h3])

theorem bothE_turn {a b : List Nd} {fe : Int} : bothE a b fe = 0 ↔ bothE b a fe = 0 := by
  unfold bothE
  by_cases h1 : treeE a fe = 0 <;> by_cases h2 : treeE b fe = 0 <;> simp [h1, h2]
theorem leaf_fact : movedV [⟨-1, 0, 0, 0, false, 7⟩] [⟨-1, 0, 0, 0, false, 9⟩] 0 = 1 ∧ bothE [⟨-1, 0, 0, 0, false, 7⟩] [⟨-1, 0, 0, 0, false, 9⟩] 0 = 0 := by decide
theorem errV_no {e : Int} (h : e ≠ 0) : ∃ t v, errV e = .iface t v := ⟨_, _, errV_1 h⟩

end Go.Proofs.YtibbohebmmahmaaGreatDoor
/- What cells may be at a node: from below it is what it is from above; with other spans it is what both have in common; in how many pairs of leaves two trees differ. Plain. Conditions: as each lemma names. -/
namespace Go.Proofs.YtibbohebmmahmaaGreatDoor
set_option linter.unusedVariables false
set_option linter.unusedSimpArgs false
open Go.RowKit

theorem sideS_comm (s : Sp) (c c' : Int) (e e' b b' : Bool) : sideS (sideS s c e b) c' e' b' = sideS (sideS s c' e' b') c e b := by
  cases b <;> cases b' <;> simp only [sideS, if_true, if_false, Bool.false_eq_true, reduceIte] <;> (congr 1) <;> first | omega | (cases s.ab <;> cases e <;> cases e' <;> rfl)
theorem sideL_comm (l : List Sp) (x y : Nd) (b b' : Bool) : sideL (sideL l x b) y b' = sideL (sideL l y b') x b := by
  apply List.ext_getElem?
  intro i
  cases h : l[i]? with
  | none =>
    have h1 : l.length ≤ i := by rw [List.getElem?_eq_none_iff] at h; exact h
    rw [List.getElem?_eq_none (by rw [sideL_len, sideL_len]; exact h1), List.getElem?_eq_none (by rw [sideL_len, sideL_len]; exact h1)]
  | some s =>
    rw [sideL_at (sideL_at h), sideL_at (sideL_at h)]
    by_cases h1 : i = x.f.toNat <;> by_cases h2 : i = y.f.toNat <;> simp only [h1, h2, if_true, if_false]
    all_goals first | rfl | (subst h1; simp only [h2, if_true, if_false]; first | rfl | (rw [sideS_comm])) | skip
    all_goals simp_all [sideS_comm]
def fold (l : List Sp) (ops : List (Nd × Bool)) : List Sp := ops.foldl (fun l o => sideL l o.1 o.2) l
theorem fold_cons (l : List Sp) (o : Nd × Bool) (ops : List (Nd × Bool)) : fold l (o :: ops) = fold (sideL l o.1 o.2) ops := rfl
theorem fold_side (ops : List (Nd × Bool)) : ∀ (l : List Sp) (x : Nd) (b : Bool), fold (sideL l x b) ops = sideL (fold l ops) x b := by
  induction ops with
  | nil => intro l x b; rfl
  | cons o r ih => intro l x b; rw [fold_cons, fold_cons, sideL_comm, ih]

theorem upAt_none {at_ : Int} : ∀ (l : List Nd) (k : Nat), upAt at_ k l = -1 → ∀ (j : Nat) x, l[j]? = some x → ¬ (x.f ≠ -1 ∧ (x.l = at_ ∨ x.r = at_)) := by
  intro l
  induction l with
  | nil => intro k _ j x h; simp at h
  | cons n r ih =>
    intro k h j x hx
    rw [upAt] at h
    by_cases hc : n.f ≠ -1 ∧ (n.l = at_ ∨ n.r = at_)
    · rw [if_pos hc] at h; omega
    · rw [if_neg hc] at h
      cases j with
      | zero => simp at hx; subst hx; exact hc
      | succ j => exact ih (k + 1) h j x (by simpa using hx)
theorem par_child {t : List Nd} {u c : Nat} (h : Par t u c) : Child t u c := by
  obtain ⟨n, hn, hf, h1 | h1⟩ := h
  · exact ⟨n, hn, hf, .inl (by omega)⟩
  · exact ⟨n, hn, hf, .inr (by omega)⟩
theorem up_is {t : List Nd} {fe : Int} (hR : Right t fe) {u c : Nat} (h : Par t u c) : upAt c 0 t = u := by
  rcases up_par (t := t) (at_ := c) with h1 | ⟨j, h1, h2⟩
  · obtain ⟨n, hn, hf, hl⟩ := h
    exact absurd ⟨hf, hl⟩ (upAt_none t 0 h1 u n hn)
  · rw [h2, one_up hR (par_child h1) (par_child h)]
theorem up_root {t : List Nd} (hb : Behind t) : upAt (0 : Nat) 0 t = -1 := by
  rcases up_par (t := t) (at_ := 0) with h1 | ⟨j, ⟨n, hn, hf, hl⟩, _⟩
  · exact h1
  · have := hb j n hn hf
    omega
/-- climb with as many steps as it may need -/
def climbT (t : List Nd) (k : Nat) (l : List Sp) : List Sp := climb t k k l
theorem climb_more {t : List Nd} (hb : Behind t) : ∀ (m m' k : Nat) (l : List Sp), k ≤ m → k ≤ m' → climb t m k l = climb t m' k l := by
  intro m
  induction m with
  | zero =>
    intro m' k l h1 h2
    obtain rfl : k = 0 := by omega
    rw [climb_end (up_root hb), climb_end (up_root hb)]
  | succ m ih =>
    intro m' k l h1 h2
    rcases up_par (t := t) (at_ := k) with h | ⟨u, ⟨x, hx, hf, hl⟩, hu⟩
    · rw [climb_end h, climb_end h]
    · have h3 := hb u x hx hf
      have huk : u < k := by omega
      obtain ⟨q, rfl⟩ : ∃ q, m' = q + 1 := ⟨m' - 1, by omega⟩
      rw [climb_step hu hx, climb_step hu hx]
      exact ih q u _ (by omega) (by omega)
theorem climbT_root {t : List Nd} (hb : Behind t) (l : List Sp) : climbT t 0 l = l := climb_end (up_root hb) _ _
theorem climbT_step {t : List Nd} {fe : Int} (hR : Right t fe) {u c : Nat} {x : Nd} (hx : t[u]? = some x) (hf : x.f ≠ -1) (hl : x.l = (c : Int) ∨ x.r = (c : Int)) (l : List Sp) : climbT t c l = climbT t u (sideL l x (x.l == c)) := by
  have h1 := up_is hR ⟨x, hx, hf, hl⟩
  have h3 := hR.behind u x hx hf
  obtain ⟨q, rfl⟩ : ∃ q, c = q + 1 := ⟨c - 1, by omega⟩
  unfold climbT
  rw [climb_step h1 hx]
  exact climb_more hR.behind _ _ _ _ (by omega) (by omega)
theorem lv_ops {t : List Nd} {fe : Int} (hR : Right t fe) : ∀ (k i : Nat) (l : List Sp), i < t.length → t.length ≤ i + k → ∀ p ∈ lv t k i l, ∃ ops, p.2 = fold l ops ∧ ∀ L, climbT t p.1 L = climbT t i (fold L ops) := by
  intro k
  induction k with
  | zero => intro i l h1 h2; omega
  | succ k ih =>
    intro i l h1 h2 p hp
    have hn : t[i]? = some t[i] := List.getElem?_eq_getElem h1
    by_cases hf : (t[i]).f = -1
    · rw [lv_leaf hn hf, List.mem_singleton] at hp
      subst hp
      exact ⟨[], rfl, fun L => rfl⟩
    · obtain ⟨a, b, c, d⟩ := hR.behind i _ hn hf
      have hne := kids_ne hR hn hf
      rw [lv_step hn hf] at hp
      rcases List.mem_append.1 hp with hp | hp
      · obtain ⟨ops, e1, e2⟩ := ih _ _ (by omega) (by omega) p hp
        refine ⟨(t[i], true) :: ops, e1, fun L => ?_⟩
        have hl : (t[i]).l = (((t[i]).l.toNat : Nat) : Int) := by omega
        rw [e2, climbT_step hR hn hf (.inl hl), fold_cons, fold_side, show ((t[i]).l == (((t[i]).l.toNat : Nat) : Int)) = true by rw [beq_iff_eq]; exact hl]
      · obtain ⟨ops, e1, e2⟩ := ih _ _ (by omega) (by omega) p hp
        refine ⟨(t[i], false) :: ops, e1, fun L => ?_⟩
        have hl : (t[i]).r = (((t[i]).r.toNat : Nat) : Int) := by omega
        rw [e2, climbT_step hR hn hf (.inr hl), fold_cons, fold_side, show ((t[i]).l == (((t[i]).r.toNat : Nat) : Int)) = false by rw [beq_eq_false_iff_ne]; omega]
theorem lv_climb {t : List Nd} {fe : Int} (hR : Right t fe) (l : List Sp) : ∀ p ∈ lv t t.length 0 l, p.2 = climbT t p.1 l := by
  intro p hp
  obtain ⟨ops, e1, e2⟩ := lv_ops hR t.length 0 l hR.pos (by omega) p hp
  rw [e2, climbT_root hR.behind, e1]
theorem regL_climb {t : List Nd} {n : Nat} (h : Right t n) {j : Nat} {x : Nd} (hn : t[j]? = some x) (hf : x.f = -1) : regL t n j = regR t n j :=
  lv_climb h _ _ (regL_is h hn hf).2

/-! ### what two lists of spans have in common -/
theorem meetL_at {a b : List Sp} {i : Nat} {s u : Sp} (h : a[i]? = some s) (h' : b[i]? = some u) : (meetL a b)[i]? = some (meetS s u) := by unfold meetL; rw [List.getElem?_zipWith, h, h']
theorem side_meetS (s u : Sp) (c : Int) (e b : Bool) : sideS (meetS s u) c e b = meetS (sideS s c e b) u := by
  cases b <;> simp only [sideS, meetS, if_true, if_false, Bool.false_eq_true, reduceIte] <;> congr 1 <;> first | omega | (cases s.ab <;> cases u.ab <;> cases e <;> rfl)
theorem side_meet {a l : List Sp} (hl : a.length = l.length) (x : Nd) (b : Bool) : sideL (meetL a l) x b = meetL (sideL a x b) l := by
  apply List.ext_getElem?
  intro i
  by_cases hi : i < a.length
  · have e1 : a[i]? = some a[i] := List.getElem?_eq_getElem hi
    have e2 : l[i]? = some l[i] := List.getElem?_eq_getElem (by omega)
    rw [sideL_at (meetL_at e1 e2), meetL_at (sideL_at e1) e2]
    split
    · rw [side_meetS]
    · rfl
  · rw [List.getElem?_eq_none (by rw [sideL_len, meetL_len hl]; omega), List.getElem?_eq_none (by rw [meetL_len (by rw [sideL_len]; exact hl), sideL_len]; omega)]
theorem climb_meet {t : List Nd} {l : List Sp} : ∀ (m k : Nat) (a : List Sp), a.length = l.length → climb t m k (meetL a l) = meetL (climb t m k a) l := by
  intro m
  induction m with
  | zero => intro k a _; rfl
  | succ m ih =>
    intro k a ha
    rw [climb, climb]
    by_cases h : upAt k 0 t < 0
    · rw [if_pos h, if_pos h]
    · rw [if_neg h, if_neg h]
      split
      · rw [side_meet ha, ih _ _ (by rw [sideL_len]; exact ha)]
      · rfl
/-- spans of cells -/
def InWide (l : List Sp) : Prop := ∀ s ∈ l, -1000000 ≤ s.low ∧ s.high ≤ 1000000
theorem meet_wide {l : List Sp} (h : InWide l) : meetL (wideL l.length) l = l := by
  apply List.ext_getElem?
  intro i
  by_cases hi : i < l.length
  · have e2 : l[i]? = some l[i] := List.getElem?_eq_getElem hi
    have e1 : (wideL l.length)[i]? = some wideS := by unfold wideL; rw [List.getElem?_replicate, if_pos hi]
    rw [meetL_at e1 e2, e2]
    obtain ⟨h1, h2⟩ := h _ (List.getElem_mem hi)
    congr 1
    unfold meetS wideS
    rw [show max (-1000000) (l[i]).low = (l[i]).low by omega, show min 1000000 (l[i]).high = (l[i]).high by omega]
    cases l[i]; rfl
  · rw [List.getElem?_eq_none (by rw [meetL_len (by rw [wide_len]), wide_len]; omega), List.getElem?_eq_none (by omega)]
theorem climb_len {t : List Nd} : ∀ (m k : Nat) (a : List Sp), (climb t m k a).length = a.length := by
  intro m
  induction m with
  | zero => intro k a; rfl
  | succ m ih =>
    intro k a
    rw [climb]
    split
    · rfl
    · split
      · rw [ih, sideL_len]
      · rfl
theorem regR_len (t : List Nd) (n k : Nat) : (regR t n k).length = n := by unfold regR; rw [climb_len, wide_len]
theorem wide_in (n : Nat) : InWide (wideL n) := fun s hs => by
  have := List.eq_of_mem_replicate hs
  subst this
  exact ⟨Int.le_refl _, Int.le_refl _⟩
theorem within_in {l' l : List Sp} (h : Within l' l) (hl : InWide l) : InWide l' := fun s hs => by
  obtain ⟨i, hi⟩ := List.getElem?_of_mem hs
  have hil : i < l.length := by rw [← h.1]; exact (List.getElem?_eq_some_iff.1 hi).1
  obtain ⟨a1, a2, _⟩ := h.2 i _ _ hi (List.getElem?_eq_getElem hil)
  have := hl _ (List.getElem_mem hil)
  omega
theorem climb_within {t : List Nd} : ∀ (m k : Nat) (a : List Sp), Within (climb t m k a) a := by
  intro m
  induction m with
  | zero => intro k a; exact within_refl a
  | succ m ih =>
    intro k a
    rw [climb]
    split
    · exact within_refl a
    · split
      · exact within_trans (ih _ _) (within_side _ _ _)
      · exact within_refl a
theorem regR_in (t : List Nd) (n k : Nat) : InWide (regR t n k) := within_in (climb_within _ _ _) (wide_in n)
/-- of the leaves within spans each has what is in common of its own and these -/
theorem lv_meet {t : List Nd} {n : Nat} (hR : Right t n) {l : List Sp} (hl : l.length = n) (hw : InWide l) : ∀ p ∈ lv t t.length 0 l, p.2 = meetL (regR t n p.1) l := by
  intro p hp
  rw [lv_climb hR l p hp]
  unfold climbT regR
  rw [← climb_meet _ _ _ (by rw [wide_len, hl]), ← hl, meet_wide hw]
end Go.Proofs.YtibbohebmmahmaaGreatDoor
