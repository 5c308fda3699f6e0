/- Chapter 2, the small parts: cut.Check, cut.At (a binary search). Conditions: as each lemma names (a slice reads as a list; cut.At: cuts that rise). -/
import Derived.Test.YtliacpdbeghmlaaBase
namespace Go.Proofs.Ytliacpdbeghmlaa
set_option linter.unusedVariables false
set_option linter.unusedSimpArgs false
open Go.RowKit

theorem all_next {p : Int → Prop} {l : List Int} {k : Nat} {x : Int} (h : l[k]? = some x) (ha : ∀ y ∈ l.take k, p y) (hx : p x) : ∀ y ∈ l.take (k + 1), p y := by
  rw [take_next h]
  intro y hy
  rcases List.mem_append.1 hy with hy | hy
  · exact ha y hy
  · simp at hy; subst hy; exact hx

theorem elem_int : Elem Try.prog 26 3 (.int .i64 0) 1 8 := ⟨Try.underlying26, by kernel_rfl, rfl, by omega, by omega⟩

theorem own_new {w : World} {B : Nat} (cs : List Value) (t : TypeId) (size n : Nat) (h : cs.length = n * size) (hn : n ≤ maxLen) (hB : B ≤ w.heap.size) : (w.alloc (.cells cs.toArray t)).ownsRow B t size (.slice (some ⟨w.heap.size, 0, none⟩) n n) n cs := by
  refine ⟨h, .inr ⟨w.heap.size, n, cs.toArray, rfl, hB, heap_alloc_new w _, Nat.le_refl _, hn, by simpa using h, ?_⟩⟩
  rw [List.take_of_length_le (by simp [h])]

/-! ### cut.Check -/
def flat (p : Option Int) (c : Int) : Bool := match p with | some q => decide (c ≤ q) | none => false
def cutFrom (p : Option Int) : List Int → Int
  | [] => 0
  | c :: r => if cellB c = false then 1 else if flat p c = true then 3 else cutFrom (some c) r
def cutE (l : List Int) : Int := if 60 < l.length then 4 else cutFrom none l
def prev (l : List Int) (k : Nat) : Option Int := if k = 0 then none else l[k - 1]?

theorem drop_at {α : Type} {l : List α} {k : Nat} {x : α} (h : l[k]? = some x) : l.drop k = x :: l.drop (k + 1) := by
  obtain ⟨hl, rfl⟩ := List.getElem?_eq_some_iff.1 h
  exact List.drop_eq_getElem_cons hl
theorem prev_next {l : List Int} {k : Nat} {x : Int} (h : l[k]? = some x) : prev l (k + 1) = some x := by simp [prev, h]
theorem cut_bad {l : List Int} {k : Nat} {x : Int} (h : l[k]? = some x) (hr : cutFrom (prev l k) (l.drop k) = cutFrom none l) (hx : x < -1000000 ∨ 1000000 < x) : cutFrom none l = 1 := by
  rw [← hr, drop_at h, cutFrom, if_pos (cellB_f.2 hx)]
theorem cut_flat {l : List Int} {k : Nat} {x y : Int} (h : l[k + 1]? = some x) (h' : l[k]? = some y) (hr : cutFrom (prev l (k + 1)) (l.drop (k + 1)) = cutFrom none l) (hx : -1000000 ≤ x ∧ x ≤ 1000000) (hxy : x ≤ y) : cutFrom none l = 3 := by
  rw [← hr, drop_at h, cutFrom, if_neg (by rw [cellB_t.2 hx]; simp), prev_next h', if_pos (by simpa [flat] using hxy)]
theorem cut_ok {l : List Int} {k : Nat} {x : Int} (h : l[k]? = some x) (hr : cutFrom (prev l k) (l.drop k) = cutFrom none l) (hx : -1000000 ≤ x ∧ x ≤ 1000000) (hp : ∀ y, prev l k = some y → y < x) : cutFrom (prev l (k + 1)) (l.drop (k + 1)) = cutFrom none l := by
  rw [← hr, drop_at h, cutFrom, if_neg (by rw [cellB_t.2 hx]; simp), prev_next h]
  rw [if_neg]
  cases hq : prev l k with
  | none => simp [flat]
  | some y => have := hp y hq; simp [flat]; omega

set_option maxHeartbeats 400000 in
theorem cutCheck_any (A : Option Addr) (n c : Nat) (l : List Int) (w : World) (B : Nat) (ha : IReads w B A n l) (hn : n ≤ maxLen) :
    Calls Try.prog 23 #[.slice A n c] w fun e w' => e = .returned (errV (cutE l)) ∧ w = w' := by
  unfold maxLen at hn
  have hl := ha.len
  by_cases h8 : 60 < n
  · have HE : Hid (cutE l = 4) := hide (by unfold cutE; rw [if_pos (by omega)])
    clear hl
    go_enter Try.func23, Try.ntmps23
    go_wp2
    go_ret
    exact ⟨by rw [unhide HE]; rfl, rfl⟩
  · have HE : Hid (cutE l = cutFrom none l) := hide (by unfold cutE; rw [if_neg (by omega)])
    have HL := hide hl
    clear hl
    go_enter Try.func23, Try.ntmps23
    go_wp2
    go_loop [11] (fun i => ∃ k : Nat, k ≤ n ∧ i = .int .i64 k ∧ Hid (cutFrom (prev l k) (l.drop k) = cutFrom none l)) (fun i => n - (intOf i).toNat)
    case atStart => exact ⟨0, Nat.zero_le _, rfl, hide (by simp [prev])⟩
    case round =>
      obtain ⟨k, hk, rfl, HG⟩ := hrel
      by_cases hlt : k < n
      · obtain ⟨b, o, x, rfl, _, hx, hcx⟩ := ha.get hlt
        have HX := hide hx
        clear hx
        by_cases h1 : -1000000 ≤ x
        · by_cases h2 : x ≤ 1000000
          · rcases Nat.eq_zero_or_pos k with rfl | hk0
            · have hc0 : w.cell? ⟨b, o, none⟩ = some (.int .i64 x) := hcx
              go_wp2
              go_round
              case rel => exact ⟨1, by omega, by go_num, hide (cut_ok (unhide HX) (unhide HG) ⟨h1, h2⟩ (by simp [prev]))⟩
              case measure => simp [intOf]; omega
            · obtain ⟨j, rfl⟩ : ∃ j, k = j + 1 := ⟨k - 1, by omega⟩
              obtain ⟨b', o', y, e', _, hy, hcy⟩ := ha.get (k := j) (by omega)
              obtain ⟨rfl, rfl⟩ : b = b' ∧ o = o' := by injection e' with e'; injection e' with e1 e2; exact ⟨e1, e2⟩
              have HY := hide hy
              clear hy e'
              by_cases hxy : x ≤ y
              · go_wp2
                go_ret
                exact ⟨by rw [unhide HE, cut_flat (unhide HX) (unhide HY) (unhide HG) ⟨h1, h2⟩ hxy]; rfl, rfl⟩
              · go_wp2
                go_round
                case rel => exact ⟨j + 1 + 1, by omega, by go_num, hide (cut_ok (unhide HX) (unhide HG) ⟨h1, h2⟩ (by intro z hz; rw [prev_next (unhide HY)] at hz; injection hz with hz; omega))⟩
                case measure => simp [intOf]; omega
          · go_wp2
            go_ret
            exact ⟨by rw [unhide HE, cut_bad (unhide HX) (unhide HG) (by omega)]; rfl, rfl⟩
        · go_wp2
          go_ret
          exact ⟨by rw [unhide HE, cut_bad (unhide HX) (unhide HG) (by omega)]; rfl, rfl⟩
      · go_wp2
        go_ret
        have h1 := unhide HL
        have h2 := unhide HG
        rw [List.drop_of_length_le (by omega)] at h2
        exact ⟨by rw [unhide HE, ← h2]; rfl, rfl⟩

/-! ### cut.At -/
def binN (l : List Int) (x : Int) : Nat := (l.filter fun c => decide (c ≤ x)).length
theorem binN_at {l : List Int} {x : Int} (i : Nat) (h1 : ∀ (p : Nat) a, l[p]? = some a → p < i → a ≤ x) (h2 : ∀ (p : Nat) a, l[p]? = some a → i ≤ p → x < a) (hi : i ≤ l.length) : binN l x = i := by
  unfold binN
  conv => lhs; rw [← List.take_append_drop i l]
  rw [List.filter_append, List.filter_eq_self.2, List.filter_eq_nil_iff.2]
  · simp; omega
  · intro a ha
    obtain ⟨p, hp⟩ := List.mem_iff_getElem?.1 ha
    rw [List.getElem?_drop] at hp
    have := h2 _ a hp (by omega)
    simp; omega
  · intro a ha
    obtain ⟨p, hp⟩ := List.mem_iff_getElem?.1 ha
    have hpi : p < i := by
      have := (List.getElem?_eq_some_iff.1 hp).1
      simp at this; omega
    rw [List.getElem?_take_of_lt hpi] at hp
    have := h1 _ a hp hpi
    simp; omega

def rises (l : List Int) : Prop := ∀ (p q : Nat) a b, p < q → l[p]? = some a → l[q]? = some b → a < b
theorem cutFrom_rises : ∀ (l : List Int) (p : Option Int), cutFrom p l = 0 → (∀ c ∈ l, cellB c = true) ∧ (∀ q, p = some q → ∀ c ∈ l, q < c) ∧ l.Pairwise (· < ·) := by
  intro l
  induction l with
  | nil => intro p _; simp
  | cons c r ih =>
    intro p h
    rw [cutFrom] at h
    by_cases h1 : cellB c = false
    · rw [if_pos h1] at h; cases h
    · rw [if_neg h1] at h
      by_cases h2 : flat p c = true
      · rw [if_pos h2] at h; cases h
      · rw [if_neg h2] at h
        obtain ⟨a1, a2, a3⟩ := ih (some c) h
        have hc : cellB c = true := by cases hb : cellB c <;> simp_all
        refine ⟨?_, ?_, ?_⟩
        · intro x hx
          rcases List.mem_cons.1 hx with rfl | hx
          · exact hc
          · exact a1 x hx
        · rintro q rfl x hx
          have hq : q < c := by simp [flat] at h2; omega
          rcases List.mem_cons.1 hx with rfl | hx
          · exact hq
          · have := a2 c rfl x hx; omega
        · exact List.pairwise_cons.2 ⟨fun x hx => a2 c rfl x hx, a3⟩
theorem cutE_rises {l : List Int} (h : cutE l = 0) : rises l ∧ (∀ c ∈ l, cellB c = true) ∧ l.length ≤ 60 := by
  unfold cutE at h
  split at h
  · cases h
  · obtain ⟨a1, _, a3⟩ := cutFrom_rises l none h
    refine ⟨?_, a1, by omega⟩
    intro p q a b hpq hp hq
    obtain ⟨hp', rfl⟩ := List.getElem?_eq_some_iff.1 hp
    obtain ⟨hq', rfl⟩ := List.getElem?_eq_some_iff.1 hq
    exact List.pairwise_iff_getElem.1 a3 p q hp' hq' hpq

def Lo (l : List Int) (x : Int) (i : Nat) : Prop := ∀ (p : Nat) a, l[p]? = some a → p < i → a < x
def Hi (l : List Int) (x : Int) (j : Nat) : Prop := ∀ (p : Nat) a, l[p]? = some a → j ≤ p → x ≤ a
theorem Lo_step {l : List Int} {x y : Int} {m : Nat} (hr : rises l) (hm : l[m]? = some y) (h : y < x) : Lo l x (m + 1) := by
  intro p a hp hpm
  rcases Nat.lt_or_ge p m with hlt | hge
  · have := hr p m a y hlt hp hm; omega
  · have : p = m := by omega
    subst this
    rw [hm] at hp; injection hp with hp; omega
theorem Hi_step {l : List Int} {x y : Int} {m : Nat} (hr : rises l) (hm : l[m]? = some y) (h : x ≤ y) : Hi l x m := by
  intro p a hp hpm
  rcases Nat.lt_or_ge m p with hlt | hge
  · have := hr m p y a hlt hm hp; omega
  · have : p = m := by omega
    subst this
    rw [hm] at hp; injection hp with hp; omega

set_option maxHeartbeats 800000 in
theorem search_any (A : Option Addr) (n c : Nat) (l : List Int) (x : Int) (w : World) (B : Nat) (ha : IReads w B A n l) (hn : n ≤ 60) (hr : rises l) :
    Calls Try.prog 66 #[.slice A n c, .int .i64 x] w fun e w' => ∃ i : Nat, i ≤ n ∧ Lo l x i ∧ Hi l x i ∧ e = .returned (.tuple #[.int .i64 i, .bool (l[i]? == some x)]) ∧ w = w' := by
  have HR := hide hr
  clear hr
  go_enter Try.func66, Try.ntmps66
  go_wp2
  go_loop [7, 8] (fun lo hi => ∃ i j : Nat, i ≤ j ∧ j ≤ n ∧ lo = .int .i64 i ∧ hi = .int .i64 j ∧ Hid (Lo l x i ∧ Hi l x j)) (fun lo hi => (intOf hi).toNat - (intOf lo).toNat)
  case atStart => exact ⟨0, n, by omega, by omega, rfl, rfl, hide ⟨fun p a _ h => by omega, fun p a hp h => by have := (List.getElem?_eq_some_iff.1 hp).1; have := ha.len; omega⟩⟩
  case round =>
    obtain ⟨i, j, hij, hj, rfl, rfl, HG⟩ := hrel
    by_cases hlt : i < j
    · obtain ⟨b, o, y, rfl, _, hy, hcy⟩ := ha.get (k := (i + j) / 2) (by omega)
      have HY := hide hy
      clear hy
      by_cases hxy : y < x
      · go_wp2
        go_round
        case rel => exact ⟨(i + j) / 2 + 1, j, by omega, by omega, by go_num, rfl, hide ⟨Lo_step (unhide HR) (unhide HY) hxy, (unhide HG).2⟩⟩
        case measure => simp [intOf]; omega
      · go_wp2
        go_round
        case rel => exact ⟨i, (i + j) / 2, by omega, by omega, rfl, by go_num, hide ⟨(unhide HG).1, Hi_step (unhide HR) (unhide HY) (by omega)⟩⟩
        case measure => simp [intOf]; omega
    · obtain rfl : i = j := by omega
      by_cases hin : i < n
      · obtain ⟨b, o, y, rfl, _, hy, hcy⟩ := ha.get (k := i) hin
        by_cases hxy : y = x
        · subst hxy
          have HB : Hid ((l[i]? == some y) = true) := hide (by rw [hy]; simp)
          clear hy
          go_wp2
          go_ret2
          exact ⟨i, by omega, (unhide HG).1, (unhide HG).2, by rw [unhide HB]; rfl, rfl⟩
        · have HB : Hid ((l[i]? == some x) = false) := hide (by rw [hy]; simpa using hxy)
          have hyx : (y == x) = false := by simpa using hxy
          clear hy
          go_wp2
          go_ret2
          exact ⟨i, by omega, (unhide HG).1, (unhide HG).2, by rw [unhide HB]; rfl, rfl⟩
      · have HB : Hid ((l[i]? == some x) = false) := hide (by rw [List.getElem?_eq_none (by have := ha.len; omega)]; rfl)
        go_wp2
        go_ret2
        exact ⟨i, by omega, (unhide HG).1, (unhide HG).2, by rw [unhide HB]; rfl, rfl⟩

theorem at_any (A : Option Addr) (n c : Nat) (l : List Int) (x : Int) (w : World) (B : Nat) (ha : IReads w B A n l) (hn : n ≤ 60) (hr : rises l) :
    Calls Try.prog 43 #[.slice A n c, .int .i64 x] w fun e w' => e = .returned (.int .i64 (binN l x)) ∧ w = w' := by
  have HR := hide hr
  clear hr
  go_enter Try.func43, Try.ntmps43
  go_wp2_with fail
  refine (search_any A n c l x _ _ ha hn (unhide HR)).mono ?_
  rintro e w' ⟨i, hi, h1, h2, rfl, rfl⟩
  have hl := ha.len
  cases hb : l[i]? == some x
  · have HN : Hid (binN l x = i) := hide (binN_at i (fun p a hp hpi => by have := h1 p a hp hpi; omega) (fun p a hp hpi => by
      have := h2 p a hp hpi
      rcases Nat.lt_or_ge i p with hlt | hge
      · have hil : i < l.length := by have := (List.getElem?_eq_some_iff.1 hp).1; omega
        have h3 := (unhide HR) i p _ a hlt (List.getElem?_eq_getElem hil) hp
        have h4 := h2 i _ (List.getElem?_eq_getElem hil) (Nat.le_refl _)
        omega
      · obtain rfl : p = i := by omega
        rw [hp] at hb
        have : a ≠ x := by simpa using hb
        omega) (by omega))
    clear hb h1 h2 hl
    go_wp2_with fail
    go_ret
    exact ⟨by rw [unhide HN]; rfl, rfl⟩
  · have he : l[i]? = some x := by simpa using hb
    have HN : Hid (binN l x = i + 1) := hide (binN_at (i + 1) (fun p a hp hpi => by
      rcases Nat.lt_or_ge p i with hlt | hge
      · have := h1 p a hp hlt; omega
      · obtain rfl : p = i := by omega
        rw [hp] at he; injection he with he; omega) (fun p a hp hpi => (unhide HR) i p x a (by omega) he hp) (by have := (List.getElem?_eq_some_iff.1 he).1; omega))
    clear hb h1 h2 hl he
    go_wp2_with fail
    go_ret
    exact ⟨by rw [unhide HN]; exact ret_int (by simp), rfl⟩

end Go.Proofs.Ytliacpdbeghmlaa
