/- Chapter 3 and the small parts of chapter 2: row.Check, cut.Check, row.In, row.Fits, cut.At. Conditions: as each lemma names (a slice reads as a list; cut.At: cuts that rise). -/
import Derived.Test.YtliacpdbeghmlaaBase
namespace Go.Proofs.Ytliacpdbeghmlaa
set_option linter.unusedVariables false
set_option linter.unusedSimpArgs false
open Go.RowKit

def nilC : Int := -1125899906842624
def rowGood (c : Int) : Bool := (c == nilC) || cellB c
def rowE (l : List Int) : Int := if 8 < l.length then 4 else if l.all rowGood then 0 else 1

theorem rowE_bad {l : List Int} {k : Nat} {x : Int} (h : l[k]? = some x) (hx : rowGood x = false) (hl : l.length ≤ 8) : rowE l = 1 := by
  unfold rowE
  rw [if_neg (by omega), if_neg]
  intro ha
  rw [List.all_eq_true] at ha
  have := ha x (List.mem_of_getElem? h)
  rw [hx] at this
  cases this
theorem rowE_good {l : List Int} (h : ∀ x ∈ l, rowGood x = true) (hl : l.length ≤ 8) : rowE l = 0 := by
  unfold rowE
  rw [if_neg (by omega), if_pos (List.all_eq_true.2 h)]
theorem rowGood_nil : rowGood (-1125899906842624) = true := by decide
theorem rowGood_cell {x : Int} (h1 : -1000000 ≤ x) (h2 : x ≤ 1000000) : rowGood x = true := by
  unfold rowGood; rw [cellB_t.2 ⟨h1, h2⟩]; simp
theorem rowGood_not {x : Int} (h : x ≠ -1125899906842624) (h2 : x < -1000000 ∨ 1000000 < x) : rowGood x = false := by
  unfold rowGood nilC; rw [cellB_f.2 h2]; simpa using h
theorem all_next {p : Int → Prop} {l : List Int} {k : Nat} {x : Int} (h : l[k]? = some x) (ha : ∀ y ∈ l.take k, p y) (hx : p x) : ∀ y ∈ l.take (k + 1), p y := by
  rw [take_next h]
  intro y hy
  rcases List.mem_append.1 hy with hy | hy
  · exact ha y hy
  · simp at hy; subst hy; exact hx

set_option maxHeartbeats 400000 in
theorem rowCheck_any (A : Option Addr) (n c : Nat) (l : List Int) (w : World) (B : Nat) (ha : IReads w B A n l) (hn : n ≤ maxLen) :
    Calls Try.prog 20 #[.slice A n c] w fun e w' => e = .returned (errV (rowE l)) ∧ w = w' := by
  unfold maxLen at hn
  have hl := ha.len
  by_cases h8 : 8 < n
  · have HE : Hid (rowE l = 4) := hide (by unfold rowE; rw [if_pos (by omega)])
    clear hl
    go_enter Try.func20, Try.ntmps20
    go_wp2
    go_ret
    exact ⟨by rw [unhide HE]; rfl, rfl⟩
  · have HL := hide hl
    clear hl
    go_enter Try.func20, Try.ntmps20
    go_wp2
    go_loop [11] (fun i => ∃ k : Nat, k ≤ n ∧ i = .int .i64 k ∧ Hid (∀ x ∈ l.take k, rowGood x = true)) (fun i => n - (intOf i).toNat)
    case atStart => exact ⟨0, Nat.zero_le _, rfl, hide (by simp)⟩
    case round =>
      obtain ⟨k, hk, rfl, HG⟩ := hrel
      by_cases hlt : k < n
      · obtain ⟨b, o, x, rfl, _, hx, hcx⟩ := ha.get hlt
        have HX := hide hx
        clear hx
        by_cases h0 : x = -1125899906842624
        · subst h0
          go_wp2
          go_round
          case rel => exact ⟨k + 1, by omega, by go_num, hide (all_next (unhide HX) (unhide HG) rowGood_nil)⟩
          case measure => simp [intOf]; omega
        · by_cases h1 : -1000000 ≤ x
          · by_cases h2 : x ≤ 1000000
            · go_wp2
              go_round
              case rel => exact ⟨k + 1, by omega, by go_num, hide (all_next (unhide HX) (unhide HG) (rowGood_cell h1 h2))⟩
              case measure => simp [intOf]; omega
            · go_wp2
              go_ret
              exact ⟨by rw [rowE_bad (unhide HX) (rowGood_not h0 (by omega)) (by have := unhide HL; omega)]; rfl, rfl⟩
          · go_wp2
            go_ret
            exact ⟨by rw [rowE_bad (unhide HX) (rowGood_not h0 (by omega)) (by have := unhide HL; omega)]; rfl, rfl⟩
      · go_wp2
        go_ret
        have h1 := unhide HL
        have h2 := unhide HG
        rw [List.take_of_length_le (by omega)] at h2
        exact ⟨by rw [rowE_good h2 (by omega)]; rfl, rfl⟩

/-! ### cut.Check -/
def flat (p : Option Int) (c : Int) : Bool := match p with | some q => decide (c ≤ q) | none => false
def cutFrom (p : Option Int) : List Int → Int
  | [] => 0
  | c :: r => if cellB c = false then 1 else if flat p c = true then 3 else cutFrom (some c) r
def cutE (l : List Int) : Int := if 60 < l.length then 4 else cutFrom none l
def prev (l : List Int) (k : Nat) : Option Int := if k = 0 then none else l[k - 1]?

theorem drop_at {α : Type} {l : List α} {k : Nat} {x : α} (h : l[k]? = some x) : l.drop k = x :: l.drop (k + 1) := by
  obtain ⟨hl, rfl⟩ := List.getElem?_eq_some_iff.1 h
  exact List.drop_eq_getElem_cons hl
theorem prev_next {l : List Int} {k : Nat} {x : Int} (h : l[k]? = some x) : prev l (k + 1) = some x := by simp [prev, h]
theorem cut_bad {l : List Int} {k : Nat} {x : Int} (h : l[k]? = some x) (hr : cutFrom (prev l k) (l.drop k) = cutFrom none l) (hx : x < -1000000 ∨ 1000000 < x) : cutFrom none l = 1 := by
  rw [← hr, drop_at h, cutFrom, if_pos (cellB_f.2 hx)]
theorem cut_flat {l : List Int} {k : Nat} {x y : Int} (h : l[k + 1]? = some x) (h' : l[k]? = some y) (hr : cutFrom (prev l (k + 1)) (l.drop (k + 1)) = cutFrom none l) (hx : -1000000 ≤ x ∧ x ≤ 1000000) (hxy : x ≤ y) : cutFrom none l = 3 := by
  rw [← hr, drop_at h, cutFrom, if_neg (by rw [cellB_t.2 hx]; simp), prev_next h', if_pos (by simpa [flat] using hxy)]
theorem cut_ok {l : List Int} {k : Nat} {x : Int} (h : l[k]? = some x) (hr : cutFrom (prev l k) (l.drop k) = cutFrom none l) (hx : -1000000 ≤ x ∧ x ≤ 1000000) (hp : ∀ y, prev l k = some y → y < x) : cutFrom (prev l (k + 1)) (l.drop (k + 1)) = cutFrom none l := by
  rw [← hr, drop_at h, cutFrom, if_neg (by rw [cellB_t.2 hx]; simp), prev_next h]
  rw [if_neg]
  cases hq : prev l k with
  | none => simp [flat]
  | some y => have := hp y hq; simp [flat]; omega

set_option maxHeartbeats 400000 in
theorem cutCheck_any (A : Option Addr) (n c : Nat) (l : List Int) (w : World) (B : Nat) (ha : IReads w B A n l) (hn : n ≤ maxLen) :
    Calls Try.prog 23 #[.slice A n c] w fun e w' => e = .returned (errV (cutE l)) ∧ w = w' := by
  unfold maxLen at hn
  have hl := ha.len
  by_cases h8 : 60 < n
  · have HE : Hid (cutE l = 4) := hide (by unfold cutE; rw [if_pos (by omega)])
    clear hl
    go_enter Try.func23, Try.ntmps23
    go_wp2
    go_ret
    exact ⟨by rw [unhide HE]; rfl, rfl⟩
  · have HE : Hid (cutE l = cutFrom none l) := hide (by unfold cutE; rw [if_neg (by omega)])
    have HL := hide hl
    clear hl
    go_enter Try.func23, Try.ntmps23
    go_wp2
    go_loop [11] (fun i => ∃ k : Nat, k ≤ n ∧ i = .int .i64 k ∧ Hid (cutFrom (prev l k) (l.drop k) = cutFrom none l)) (fun i => n - (intOf i).toNat)
    case atStart => exact ⟨0, Nat.zero_le _, rfl, hide (by simp [prev])⟩
    case round =>
      obtain ⟨k, hk, rfl, HG⟩ := hrel
      by_cases hlt : k < n
      · obtain ⟨b, o, x, rfl, _, hx, hcx⟩ := ha.get hlt
        have HX := hide hx
        clear hx
        by_cases h1 : -1000000 ≤ x
        · by_cases h2 : x ≤ 1000000
          · rcases Nat.eq_zero_or_pos k with rfl | hk0
            · have hc0 : w.cell? ⟨b, o, none⟩ = some (.int .i64 x) := hcx
              go_wp2
              go_round
              case rel => exact ⟨1, by omega, by go_num, hide (cut_ok (unhide HX) (unhide HG) ⟨h1, h2⟩ (by simp [prev]))⟩
              case measure => simp [intOf]; omega
            · obtain ⟨j, rfl⟩ : ∃ j, k = j + 1 := ⟨k - 1, by omega⟩
              obtain ⟨b', o', y, e', _, hy, hcy⟩ := ha.get (k := j) (by omega)
              obtain ⟨rfl, rfl⟩ : b = b' ∧ o = o' := by injection e' with e'; injection e' with e1 e2; exact ⟨e1, e2⟩
              have HY := hide hy
              clear hy e'
              by_cases hxy : x ≤ y
              · go_wp2
                go_ret
                exact ⟨by rw [unhide HE, cut_flat (unhide HX) (unhide HY) (unhide HG) ⟨h1, h2⟩ hxy]; rfl, rfl⟩
              · go_wp2
                go_round
                case rel => exact ⟨j + 1 + 1, by omega, by go_num, hide (cut_ok (unhide HX) (unhide HG) ⟨h1, h2⟩ (by intro z hz; rw [prev_next (unhide HY)] at hz; injection hz with hz; omega))⟩
                case measure => simp [intOf]; omega
          · go_wp2
            go_ret
            exact ⟨by rw [unhide HE, cut_bad (unhide HX) (unhide HG) (by omega)]; rfl, rfl⟩
        · go_wp2
          go_ret
          exact ⟨by rw [unhide HE, cut_bad (unhide HX) (unhide HG) (by omega)]; rfl, rfl⟩
      · go_wp2
        go_ret
        have h1 := unhide HL
        have h2 := unhide HG
        rw [List.drop_of_length_le (by omega)] at h2
        exact ⟨by rw [unhide HE, ← h2]; rfl, rfl⟩
end Go.Proofs.Ytliacpdbeghmlaa
