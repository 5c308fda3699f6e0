/- Part 2 of what LawWeighNeeds needs: Cut, Row, Row2, Tree, TreeNode, Bins. Conditions: as each lemma names. -/
import Derived.Test.YtopncifebldklaaPkWeighNeeds01
/- Chapter 2, the small parts: cut.Check, cut.At (a binary search). Conditions: as each lemma names (a slice reads as a list; cut.At: cuts that rise). -/
namespace Go.Proofs.Ytopncifebldklaa
set_option linter.unusedVariables false
set_option linter.unusedSimpArgs false
open Go.RowKit

theorem all_next {p : Int → Prop} {l : List Int} {k : Nat} {x : Int} (h : l[k]? = some x) (ha : ∀ y ∈ l.take k, p y) (hx : p x) : ∀ y ∈ l.take (k + 1), p y := by
  rw [take_next h]
  intro y hy
  rcases List.mem_append.1 hy with hy | hy
  · exact ha y hy
  · simp at hy; subst hy; exact hx

theorem elem_int : Elem Try.prog 22 3 (.int .i64 0) 1 8 := ⟨Try.underlying22, by kernel_rfl, rfl, by omega, by omega⟩

theorem own_new {w : World} {B : Nat} (cs : List Value) (t : TypeId) (size n : Nat) (h : cs.length = n * size) (hn : n ≤ maxLen) (hB : B ≤ w.heap.size) : (w.alloc (.cells cs.toArray t)).ownsRow B t size (.slice (some ⟨w.heap.size, 0, none⟩) n n) n cs := by
  refine ⟨h, .inr ⟨w.heap.size, n, cs.toArray, rfl, hB, heap_alloc_new w _, Nat.le_refl _, hn, by simpa using h, ?_⟩⟩
  rw [List.take_of_length_le (by simp [h])]

/-! ### cut.Check -/
def flat (p : Option Int) (c : Int) : Bool := match p with | some q => decide (c ≤ q) | none => false
def cutFrom (p : Option Int) : List Int → Int
  | [] => 0
  | c :: r => if cellB c = false then 1 else if flat p c = true then 3 else cutFrom (some c) r
def cutE (l : List Int) : Int := if 60 < l.length then 4 else cutFrom none l
def prev (l : List Int) (k : Nat) : Option Int := if k = 0 then none else l[k - 1]?

theorem drop_at {α : Type} {l : List α} {k : Nat} {x : α} (h : l[k]? = some x) : l.drop k = x :: l.drop (k + 1) := by
  obtain ⟨hl, rfl⟩ := List.getElem?_eq_some_iff.1 h
  exact List.drop_eq_getElem_cons hl
theorem prev_next {l : List Int} {k : Nat} {x : Int} (h : l[k]? = some x) : prev l (k + 1) = some x := by simp [prev, h]
theorem cut_bad {l : List Int} {k : Nat} {x : Int} (h : l[k]? = some x) (hr : cutFrom (prev l k) (l.drop k) = cutFrom none l) (hx : x < -1000000 ∨ 1000000 < x) : cutFrom none l = 1 := by
  rw [← hr, drop_at h, cutFrom, if_pos (cellB_f.2 hx)]
theorem cut_flat {l : List Int} {k : Nat} {x y : Int} (h : l[k + 1]? = some x) (h' : l[k]? = some y) (hr : cutFrom (prev l (k + 1)) (l.drop (k + 1)) = cutFrom none l) (hx : -1000000 ≤ x ∧ x ≤ 1000000) (hxy : x ≤ y) : cutFrom none l = 3 := by
  rw [← hr, drop_at h, cutFrom, if_neg (by rw [cellB_t.2 hx]; simp), prev_next h', if_pos (by simpa [flat] using hxy)]
theorem cut_ok {l : List Int} {k : Nat} {x : Int} (h : l[k]? = some x) (hr : cutFrom (prev l k) (l.drop k) = cutFrom none l) (hx : -1000000 ≤ x ∧ x ≤ 1000000) (hp : ∀ y, prev l k = some y → y < x) : cutFrom (prev l (k + 1)) (l.drop (k + 1)) = cutFrom none l := by
  rw [← hr, drop_at h, cutFrom, if_neg (by rw [cellB_t.2 hx]; simp), prev_next h]
  rw [if_neg]
  cases hq : prev l k with
  | none => simp [flat]
  | some y => have := hp y hq; simp [flat]; omega

/-! ### cut.At -/
def binN (l : List Int) (x : Int) : Nat := (l.filter fun c => decide (c ≤ x)).length
theorem binN_at {l : List Int} {x : Int} (i : Nat) (h1 : ∀ (p : Nat) a, l[p]? = some a → p < i → a ≤ x) (h2 : ∀ (p : Nat) a, l[p]? = some a → i ≤ p → x < a) (hi : i ≤ l.length) : binN l x = i := by
  unfold binN
  conv => lhs; rw [← List.take_append_drop i l]
  rw [List.filter_append, List.filter_eq_self.2, List.filter_eq_nil_iff.2]
  · simp; omega
  · intro a ha
    obtain ⟨p, hp⟩ := List.mem_iff_getElem?.1 ha
    rw [List.getElem?_drop] at hp
    have := h2 _ a hp (by omega)
    simp; omega
  · intro a ha
    obtain ⟨p, hp⟩ := List.mem_iff_getElem?.1 ha
    have hpi : p < i := by
      have := (List.getElem?_eq_some_iff.1 hp).1
      simp at this; omega
    rw [List.getElem?_take_of_lt hpi] at hp
    have := h1 _ a hp hpi
    simp; omega

def rises (l : List Int) : Prop := ∀ (p q : Nat) a b, p < q → l[p]? = some a → l[q]? = some b → a < b
theorem cutFrom_rises : ∀ (l : List Int) (p : Option Int), cutFrom p l = 0 → (∀ c ∈ l, cellB c = true) ∧ (∀ q, p = some q → ∀ c ∈ l, q < c) ∧ l.Pairwise (· < ·) := by
  intro l
  induction l with
  | nil => intro p _; simp
  | cons c r ih =>
    intro p h
    rw [cutFrom] at h
    by_cases h1 : cellB c = false
    · rw [if_pos h1] at h; cases h
    · rw [if_neg h1] at h
      by_cases h2 : flat p c = true
      · rw [if_pos h2] at h; cases h
      · rw [if_neg h2] at h
        obtain ⟨a1, a2, a3⟩ := ih (some c) h
        have hc : cellB c = true := by cases hb : cellB c <;> simp_all
        refine ⟨?_, ?_, ?_⟩
        · intro x hx
          rcases List.mem_cons.1 hx with rfl | hx
          · exact hc
          · exact a1 x hx
        · rintro q rfl x hx
          have hq : q < c := by simp [flat] at h2; omega
          rcases List.mem_cons.1 hx with rfl | hx
          · exact hq
          · have := a2 c rfl x hx; omega
        · exact List.pairwise_cons.2 ⟨fun x hx => a2 c rfl x hx, a3⟩
theorem cutE_rises {l : List Int} (h : cutE l = 0) : rises l ∧ (∀ c ∈ l, cellB c = true) ∧ l.length ≤ 60 := by
  unfold cutE at h
  split at h
  · cases h
  · obtain ⟨a1, _, a3⟩ := cutFrom_rises l none h
    refine ⟨?_, a1, by omega⟩
    intro p q a b hpq hp hq
    obtain ⟨hp', rfl⟩ := List.getElem?_eq_some_iff.1 hp
    obtain ⟨hq', rfl⟩ := List.getElem?_eq_some_iff.1 hq
    exact List.pairwise_iff_getElem.1 a3 p q hp' hq' hpq

def Lo (l : List Int) (x : Int) (i : Nat) : Prop := ∀ (p : Nat) a, l[p]? = some a → p < i → a < x
def Hi (l : List Int) (x : Int) (j : Nat) : Prop := ∀ (p : Nat) a, l[p]? = some a → j ≤ p → x ≤ a
theorem Lo_step {l : List Int} {x y : Int} {m : Nat} (hr : rises l) (hm : l[m]? = some y) (h : y < x) : Lo l x (m + 1) := by
  intro p a hp hpm
  rcases Nat.lt_or_ge p m with hlt | hge
  · have := hr p m a y hlt hp hm; omega
  · have : p = m := by omega
    subst this
    rw [hm] at hp; injection hp with hp; omega
theorem Hi_step {l : List Int} {x y : Int} {m : Nat} (hr : rises l) (hm : l[m]? = some y) (h : x ≤ y) : Hi l x m := by
  intro p a hp hpm
  rcases Nat.lt_or_ge m p with hlt | hge
  · have := hr m p y a hlt hm hp; omega
  · have : p = m := by omega
    subst this
    rw [hm] at hp; injection hp with hp; omega

end Go.Proofs.Ytopncifebldklaa
/- Chapter 3 and the small parts of chapter 2: row.Check, cut.Check, row.In, row.Fits, cut.At. Conditions: as each lemma names (a slice reads as a list; cut.At: cuts that rise). -/
namespace Go.Proofs.Ytopncifebldklaa
set_option linter.unusedVariables false
set_option linter.unusedSimpArgs false
open Go.RowKit

def nilC : Int := -1125899906842624
def rowGood (c : Int) : Bool := (c == nilC) || cellB c
def rowE (l : List Int) : Int := if 8 < l.length then 4 else if l.all rowGood then 0 else 1

theorem rowE_bad {l : List Int} {k : Nat} {x : Int} (h : l[k]? = some x) (hx : rowGood x = false) (hl : l.length ≤ 8) : rowE l = 1 := by
  unfold rowE
  rw [if_neg (by omega), if_neg]
  intro ha
  rw [List.all_eq_true] at ha
  have := ha x (List.mem_of_getElem? h)
  rw [hx] at this
  cases this
theorem rowE_good {l : List Int} (h : ∀ x ∈ l, rowGood x = true) (hl : l.length ≤ 8) : rowE l = 0 := by
  unfold rowE
  rw [if_neg (by omega), if_pos (List.all_eq_true.2 h)]
theorem rowGood_nil : rowGood (-1125899906842624) = true := by decide
theorem rowGood_cell {x : Int} (h1 : -1000000 ≤ x) (h2 : x ≤ 1000000) : rowGood x = true := by
  unfold rowGood; rw [cellB_t.2 ⟨h1, h2⟩]; simp
theorem rowGood_not {x : Int} (h : x ≠ -1125899906842624) (h2 : x < -1000000 ∨ 1000000 < x) : rowGood x = false := by
  unfold rowGood nilC; rw [cellB_f.2 h2]; simpa using h

set_option maxHeartbeats 400000 in
theorem rowCheck_any (A : Option Addr) (n c : Nat) (l : List Int) (w : World) (B : Nat) (ha : IReads w B A n l) (hn : n ≤ maxLen) :
    Calls Try.prog 31 #[.slice A n c] w fun e w' => e = .returned (errV (rowE l)) ∧ w = w' := by
  unfold maxLen at hn
  have hl := ha.len
  by_cases h8 : 8 < n
  · have HE : Hid (rowE l = 4) := hide (by unfold rowE; rw [if_pos (by omega)])
    clear hl
    go_enter Try.func31, Try.ntmps31
    go_wp2
    go_ret
    exact ⟨by rw [unhide HE]; rfl, rfl⟩
  · have HL := hide hl
    clear hl
    go_enter Try.func31, Try.ntmps31
    go_wp2
    go_loop [11] (fun i => ∃ k : Nat, k ≤ n ∧ i = .int .i64 k ∧ Hid (∀ x ∈ l.take k, rowGood x = true)) (fun i => n - (intOf i).toNat)
    case atStart => exact ⟨0, Nat.zero_le _, rfl, hide (by simp)⟩
    case round =>
      obtain ⟨k, hk, rfl, HG⟩ := hrel
      by_cases hlt : k < n
      · obtain ⟨b, o, x, rfl, _, hx, hcx⟩ := ha.get hlt
        have HX := hide hx
        clear hx
        by_cases h0 : x = -1125899906842624
        · subst h0
          go_wp2
          go_round
          case rel => exact ⟨k + 1, by omega, by go_num, hide (all_next (unhide HX) (unhide HG) rowGood_nil)⟩
          case measure => simp [intOf]; omega
        · by_cases h1 : -1000000 ≤ x
          · by_cases h2 : x ≤ 1000000
            · go_wp2
              go_round
              case rel => exact ⟨k + 1, by omega, by go_num, hide (all_next (unhide HX) (unhide HG) (rowGood_cell h1 h2))⟩
              case measure => simp [intOf]; omega
            · go_wp2
              go_ret
              exact ⟨by rw [rowE_bad (unhide HX) (rowGood_not h0 (by omega)) (by have := unhide HL; omega)]; rfl, rfl⟩
          · go_wp2
            go_ret
            exact ⟨by rw [rowE_bad (unhide HX) (rowGood_not h0 (by omega)) (by have := unhide HL; omega)]; rfl, rfl⟩
      · go_wp2
        go_ret
        have h1 := unhide HL
        have h2 := unhide HG
        rw [List.take_of_length_le (by omega)] at h2
        exact ⟨by rw [rowE_good h2 (by omega)]; rfl, rfl⟩

end Go.Proofs.Ytopncifebldklaa
/- row.In, row.Fits, cut.At: spans and bins. Conditions: as each lemma names. -/
namespace Go.Proofs.Ytopncifebldklaa
set_option linter.unusedVariables false
set_option linter.unusedSimpArgs false
open Go.RowKit

/-! ### rows of structs -/
theorem flatMap_at {α : Type} (f : α → List Value) (size : Nat) (hf : ∀ a, (f a).length = size) : ∀ (l : List α) (k j : Nat) (a : α), l[k]? = some a → j < size → (l.flatMap f)[k * size + j]? = (f a)[j]? := by
  intro l
  induction l with
  | nil => intro k j a h; simp at h
  | cons x r ih =>
    intro k j a h hj
    cases k with
    | zero =>
      simp at h; subst h
      rw [List.flatMap_cons, Nat.zero_mul, Nat.zero_add, List.getElem?_append_left (by rw [hf]; exact hj)]
    | succ k =>
      rw [List.flatMap_cons, List.getElem?_append_right (by rw [hf, Nat.succ_mul]; omega), hf]
      have : (k + 1) * size + j - size = k * size + j := by rw [Nat.succ_mul]; omega
      rw [this]
      exact ih k j a (by simpa using h) hj
theorem flatMap_len {α : Type} (f : α → List Value) (size : Nat) (hf : ∀ a, (f a).length = size) (l : List α) : (l.flatMap f).length = l.length * size := by
  induction l with
  | nil => simp
  | cons x r ih => rw [List.flatMap_cons, List.length_append, ih, hf, List.length_cons, Nat.succ_mul]; omega

structure Sp where
  low : Int
  high : Int
  ab : Bool
def Sp.cells (s : Sp) : List Value := [.int .i64 s.low, .int .i64 s.high, .bool s.ab]
def SReads (w : World) (B : Nat) (A : Option Addr) (n : Nat) (l : List Sp) : Prop := Reads w B 3 A n (l.flatMap Sp.cells)
section
variable {w w' : World} {B B' n : Nat} {A : Option Addr} {l : List Sp}
theorem SReads.len (h : SReads w B A n l) : l.length = n := by
  have := h.1
  rw [flatMap_len Sp.cells 3 (fun _ => rfl)] at this
  omega
theorem SReads.get (h : SReads w B A n l) {k : Nat} (hk : k < n) :
    ∃ b off s, A = some ⟨b, off, none⟩ ∧ b < B ∧ l[k]? = some s ∧ w.cell? ⟨b, off + k * 3, none⟩ = some (.int .i64 s.low) ∧ w.cell? ⟨b, off + k * 3 + 1, none⟩ = some (.int .i64 s.high) ∧ w.cell? ⟨b, off + k * 3 + 2, none⟩ = some (.bool s.ab) := by
  obtain ⟨b, off, rfl, hb, hc⟩ := Reads.spot h (by omega) (by omega)
  have hl : k < l.length := by rw [h.len]; exact hk
  have hs : l[k]? = some l[k] := List.getElem?_eq_getElem hl
  have F := fun j hj => flatMap_at Sp.cells 3 (fun _ => rfl) l k j l[k] hs hj
  refine ⟨b, off, l[k], rfl, hb, hs, ?_, ?_, ?_⟩
  · exact hc (k * 3 + 0) _ (F 0 (by omega))
  · exact hc (k * 3 + 1) _ (F 1 (by omega))
  · exact hc (k * 3 + 2) _ (F 2 (by omega))
theorem SReads.below (h : SReads w B A n l) (hb : Below B w w') : SReads w' B A n l := Reads.below h hb
theorem SReads.more (h : SReads w B A n l) (hB : B ≤ B') : SReads w B' A n l := Reads.more h hB
end

def inB (c : Int) (s : Sp) : Bool := if c = -1125899906842624 then s.ab else decide (s.low ≤ c) && decide (c ≤ s.high)
/-- what row.Fits answers -/
def fitsE (l : List Int) (s : List Sp) : Int := if rowE l = 0 then (if l.length = s.length then 0 else 3) else rowE l
def fitsB (l : List Int) (s : List Sp) : Bool := fitsE l s == 0 && (l.zip s).all fun p => inB p.1 p.2

theorem fits_err {l : List Int} {s : List Sp} (h : fitsE l s ≠ 0) : fitsB l s = false := by
  unfold fitsB; rw [beq_eq_false_iff_ne.2 h]; rfl
theorem zip_at {α β : Type} {l : List α} {s : List β} {k : Nat} {x : α} {y : β} (hx : l[k]? = some x) (hy : s[k]? = some y) : (l.zip s)[k]? = some (x, y) := by
  rw [List.getElem?_zip_eq_some]; exact ⟨hx, hy⟩
theorem fits_no {l : List Int} {s : List Sp} {k : Nat} {x : Int} {y : Sp} (hx : l[k]? = some x) (hy : s[k]? = some y) (h : inB x y = false) : fitsB l s = false := by
  unfold fitsB
  rw [Bool.and_eq_false_iff]
  right
  rw [Bool.eq_false_iff]
  intro ha
  rw [List.all_eq_true] at ha
  have := ha _ (List.mem_of_getElem? (zip_at hx hy))
  rw [h] at this
  cases this
theorem fits_next {l : List Int} {s : List Sp} {k : Nat} {x : Int} {y : Sp} (hx : l[k]? = some x) (hy : s[k]? = some y) (h : ∀ p ∈ (l.zip s).take k, inB p.1 p.2 = true) (hi : inB x y = true) : ∀ p ∈ (l.zip s).take (k + 1), inB p.1 p.2 = true := by
  rw [take_next (zip_at hx hy)]
  intro p hp
  rcases List.mem_append.1 hp with hp | hp
  · exact h p hp
  · simp at hp; subst hp; exact hi
theorem fits_yes {l : List Int} {s : List Sp} {k : Nat} (he : fitsE l s = 0) (hk : l.length ≤ k) (h : ∀ p ∈ (l.zip s).take k, inB p.1 p.2 = true) : fitsB l s = true := by
  unfold fitsB
  rw [he]
  rw [List.take_of_length_le (by rw [List.length_zip]; omega)] at h
  simpa [List.all_eq_true] using h

end Go.Proofs.Ytopncifebldklaa
/- Chapter 4 in plain words: nodes, what is wrong with one, with a tree; how deep it is. Conditions: none. -/
namespace Go.Proofs.Ytopncifebldklaa
set_option linter.unusedVariables false
set_option linter.unusedSimpArgs false
open Go.RowKit

structure Nd where
  f : Int
  c : Int
  l : Int
  r : Int
  less : Bool
  v : Int
def Nd.cells (n : Nd) : List Value := [.int .i64 n.f, .int .i64 n.c, .int .i64 n.l, .int .i64 n.r, .bool n.less, .int .i64 n.v]
def NReads (w : World) (B : Nat) (A : Option Addr) (n : Nat) (t : List Nd) : Prop := Reads w B 6 A n (t.flatMap Nd.cells)
section
variable {w w' : World} {B B' n : Nat} {A : Option Addr} {t : List Nd}
theorem NReads.len (h : NReads w B A n t) : t.length = n := by
  have := h.1
  rw [flatMap_len Nd.cells 6 (fun _ => rfl)] at this
  omega
theorem NReads.get (h : NReads w B A n t) {k : Nat} (hk : k < n) :
    ∃ b off x, A = some ⟨b, off, none⟩ ∧ b < B ∧ t[k]? = some x ∧ w.cell? ⟨b, off + k * 6, none⟩ = some (.int .i64 x.f) ∧ w.cell? ⟨b, off + k * 6 + 1, none⟩ = some (.int .i64 x.c) ∧ w.cell? ⟨b, off + k * 6 + 2, none⟩ = some (.int .i64 x.l) ∧
      w.cell? ⟨b, off + k * 6 + 3, none⟩ = some (.int .i64 x.r) ∧ w.cell? ⟨b, off + k * 6 + 4, none⟩ = some (.bool x.less) ∧ w.cell? ⟨b, off + k * 6 + 5, none⟩ = some (.int .i64 x.v) := by
  obtain ⟨b, off, rfl, hb, hc⟩ := Reads.spot h (by omega) (by omega)
  have hl : k < t.length := by rw [h.len]; exact hk
  have hs : t[k]? = some t[k] := List.getElem?_eq_getElem hl
  have F := fun j hj => flatMap_at Nd.cells 6 (fun _ => rfl) t k j t[k] hs hj
  exact ⟨b, off, t[k], rfl, hb, hs, hc (k * 6 + 0) _ (F 0 (by omega)), hc (k * 6 + 1) _ (F 1 (by omega)), hc (k * 6 + 2) _ (F 2 (by omega)), hc (k * 6 + 3) _ (F 3 (by omega)), hc (k * 6 + 4) _ (F 4 (by omega)), hc (k * 6 + 5) _ (F 5 (by omega))⟩
theorem NReads.below (h : NReads w B A n t) (hb : Below B w w') : NReads w' B A n t := Reads.below h hb
theorem NReads.more (h : NReads w B A n t) (hB : B ≤ B') : NReads w B' A n t := Reads.more h hB
end

/-- what is wrong with one node -/
def nodeE (len i : Nat) (fe : Int) (n : Nd) : Int :=
  if n.f = -1 then
    if n.v < -1000000 then 1 else if 1000000 < n.v then 1 else if ¬ n.c = 0 then 3 else if ¬ n.l = 0 then 3 else if ¬ n.r = 0 then 3 else if n.less = true then 3 else 0
  else if n.f < 0 then 1 else if fe ≤ n.f then 1 else if n.c < -1000000 then 1 else if 1000000 < n.c then 1 else if n.l ≤ i then 1 else if len ≤ n.l then 1 else if n.r ≤ i then 1 else if len ≤ n.r then 1
  else if ¬ n.v = 0 then 3 else if n.l = n.r then 3 else 0

def badAt (len : Nat) (fe : Int) (i : Nat) : List Nd → Nat × Int
  | [] => (0, 0)
  | n :: r => if nodeE len i fe n = 0 then badAt len fe (i + 1) r else (i, nodeE len i fe n)
def kid (n : Nd) (j : Nat) : Nat := if n.f = -1 then 0 else (if n.l = j then 1 else 0) + (if n.r = j then 1 else 0)
def ups : List Nd → Nat → Nat
  | [], _ => 0
  | n :: r, j => kid n j + ups r j
def clashAt (t : List Nd) (i : Nat) : Nat → Nat × Int
  | 0 => (0, 0)
  | m + 1 => if 0 < i ∧ ups t i ≠ 1 then (i, 7) else clashAt t (i + 1) m
/-- how deep each node is, from the last one on -/
def deps (i : Nat) : List Nd → List Nat
  | [] => []
  | n :: r => (if n.f = -1 then 0 else 1 + max ((deps (i + 1) r).getD (n.l.toNat - (i + 1)) 0) ((deps (i + 1) r).getD (n.r.toNat - (i + 1)) 0)) :: deps (i + 1) r
def dep (t : List Nd) (j : Nat) : Nat := (deps 0 t).getD j 0
def treeC (t : List Nd) (fe : Int) : Nat × Int :=
  if 63 < t.length then (0, 4) else if t.length = 0 then (0, 5) else if fe < 0 then (0, 1) else if 8 < fe then (0, 1)
  else if (badAt t.length fe 0 t).2 = 0 then (if (clashAt t 0 t.length).2 = 0 then (if 10 < dep t 0 then (0, 4) else (0, 0)) else clashAt t 0 t.length) else badAt t.length fe 0 t
def treeE (t : List Nd) (fe : Int) : Int := (treeC t fe).2

/-- a tree that is right -/
structure Right (t : List Nd) (fe : Int) : Prop where
  pos : 0 < t.length
  most : t.length ≤ 63
  fe0 : 0 ≤ fe
  fe8 : fe ≤ 8
  node : ∀ (i : Nat) n, t[i]? = some n → nodeE t.length i fe n = 0
  one : ∀ i : Nat, 0 < i → i < t.length → ups t i = 1
  deep : dep t 0 ≤ 10

theorem badAt_none {len : Nat} {fe : Int} : ∀ (t : List Nd) (i : Nat), (badAt len fe i t).2 = 0 → ∀ (j : Nat) n, t[j]? = some n → nodeE len (i + j) fe n = 0 := by
  intro t
  induction t with
  | nil => intro i _ j n h; simp at h
  | cons x r ih =>
    intro i h j n hj
    rw [badAt] at h
    by_cases h0 : nodeE len i fe x = 0
    · rw [if_pos h0] at h
      cases j with
      | zero => simp at hj; subst hj; exact h0
      | succ j =>
        have := ih (i + 1) h j n (by simpa using hj)
        rwa [show i + 1 + j = i + (j + 1) by omega] at this
    · rw [if_neg h0] at h; exact absurd h h0
theorem badAt_mk {len : Nat} {fe : Int} : ∀ (t : List Nd) (i : Nat), (∀ (j : Nat) n, t[j]? = some n → nodeE len (i + j) fe n = 0) → badAt len fe i t = (0, 0) := by
  intro t
  induction t with
  | nil => intro i _; rfl
  | cons x r ih =>
    intro i h
    rw [badAt, if_pos (by have := h 0 x rfl; simpa using this)]
    exact ih (i + 1) fun j n hj => by have := h (j + 1) n (by simpa using hj); rwa [show i + (j + 1) = i + 1 + j by omega] at this
theorem clashAt_none {t : List Nd} : ∀ (m i : Nat), (clashAt t i m).2 = 0 → ∀ j, i ≤ j → j < i + m → 0 < j → ups t j = 1 := by
  intro m
  induction m with
  | zero => intro i _ j h1 h2; omega
  | succ m ih =>
    intro i h j h1 h2 h3
    rw [clashAt] at h
    by_cases h0 : 0 < i ∧ ups t i ≠ 1
    · rw [if_pos h0] at h; cases h
    · rw [if_neg h0] at h
      rcases Nat.eq_or_lt_of_le h1 with rfl | hlt
      · exact Decidable.byContradiction fun hne => h0 ⟨h3, hne⟩
      · exact ih (i + 1) h j hlt (by omega) h3
theorem right_of {t : List Nd} {fe : Int} (h : treeE t fe = 0) : Right t fe := by
  unfold treeE treeC at h
  by_cases h1 : 63 < t.length
  · rw [if_pos h1] at h; cases h
  rw [if_neg h1] at h
  by_cases h2 : t.length = 0
  · rw [if_pos h2] at h; cases h
  rw [if_neg h2] at h
  by_cases h3 : fe < 0
  · rw [if_pos h3] at h; cases h
  rw [if_neg h3] at h
  by_cases h4 : 8 < fe
  · rw [if_pos h4] at h; cases h
  rw [if_neg h4] at h
  by_cases h5 : (badAt t.length fe 0 t).2 = 0
  · rw [if_pos h5] at h
    by_cases h6 : (clashAt t 0 t.length).2 = 0
    · rw [if_pos h6] at h
      by_cases h7 : 10 < dep t 0
      · rw [if_pos h7] at h; cases h
      · refine ⟨by omega, by omega, by omega, by omega, ?_, ?_, by omega⟩
        · intro i n hi
          have := badAt_none t 0 h5 i n hi
          rwa [Nat.zero_add] at this
        · intro i hi hl
          exact clashAt_none t.length 0 h6 i (Nat.zero_le _) (by omega) hi
    · rw [if_neg h6] at h; exact absurd h h6
  · rw [if_neg h5] at h; exact absurd h h5

/-- what a right node is -/
theorem node_of {len i : Nat} {fe : Int} {n : Nd} (h : nodeE len i fe n = 0) :
    (n.f = -1 ∧ -1000000 ≤ n.v ∧ n.v ≤ 1000000 ∧ n.c = 0 ∧ n.l = 0 ∧ n.r = 0 ∧ n.less = false) ∨
    (0 ≤ n.f ∧ n.f < fe ∧ -1000000 ≤ n.c ∧ n.c ≤ 1000000 ∧ i < n.l ∧ n.l < len ∧ i < n.r ∧ n.r < len ∧ n.v = 0 ∧ n.l ≠ n.r) := by
  unfold nodeE at h
  by_cases h0 : n.f = -1
  · rw [if_pos h0] at h
    left
    repeat (split at h; · cases h)
    refine ⟨h0, by omega, by omega, by omega, by omega, by omega, ?_⟩
    cases hb : n.less <;> simp_all
  · rw [if_neg h0] at h
    right
    repeat (split at h; · cases h)
    exact ⟨by omega, by omega, by omega, by omega, by omega, by omega, by omega, by omega, by omega, by assumption⟩
end Go.Proofs.Ytopncifebldklaa
/- tree.node: what is wrong with one node, way by way. Conditions: the tree reads as a list of nodes, the index is one of it. -/
namespace Go.Proofs.Ytopncifebldklaa
set_option linter.unusedVariables false
set_option linter.unusedSimpArgs false
open Go.RowKit

theorem cell_alloc2 {w : World} {p : Addr} {v : Value} (hc : w.cell? p = some v) (hb : p.block < w.heap.size) : ∀ o o', ((w.alloc o).alloc o').cell? p = some v :=
  fun o o' => (World.cell?_alloc_lt _ o' p (by rw [World.size_alloc]; omega)).trans (cell_alloc hc hb o)

set_option maxRecDepth 100000 in
set_option maxHeartbeats 8000000 in
theorem node_any (A : Option Addr) (m d i : Nat) (fe : Int) (t : List Nd) (n : Nd) (w : World) (ht : NReads w w.heap.size A m t) (hm : m ≤ maxLen) (him : i < m) (hi : t[i]? = some n) :
    Calls Try.prog 58 #[.slice A m d, .int .i64 i, .int .i64 fe] w fun e w' => e = .returned (errV (nodeE m i fe n)) ∧ Below w.heap.size w w' := by
  obtain ⟨b, o, x, rfl, hb, hx, h0, h1, h2, h3, h4, h5⟩ := ht.get him
  rw [hi] at hx
  injection hx with hx
  subst hx
  obtain ⟨f, c, l, r, less, v⟩ := n
  have g0 := cell_alloc2 h0 hb
  have g1 := cell_alloc2 h1 hb
  have g2 := cell_alloc2 h2 hb
  have g3 := cell_alloc2 h3 hb
  have g4 := cell_alloc2 h4 hb
  have g5 := cell_alloc2 h5 hb
  simp only at g0 g1 g2 g3 g4 g5
  clear h0 h1 h2 h3 h4 h5 hi ht
  unfold maxLen at hm
  by_cases hf : f = -1
  · subst hf
    by_cases hc : cellB v = true
    · have kv := cellB_t.1 hc
      have HC := hide hc
      have z0 : ¬ v < -1000000 := by omega
      have z1 : ¬ 1000000 < v := by omega
      clear hc
      by_cases q1 : c = 0
      case neg =>
        have HE : Hid (nodeE m i fe ⟨-1, c, l, r, less, v⟩ = 3) := hide (by simp [nodeE, z0, z1, q1])
        go_enter Try.func58, Try.ntmps58
        go_wp2_with (first | (go_at_call 56; refine (cell_any _ _).mono ?_; rintro e w' ⟨rfl, rfl⟩; rw [HC.out]) | go_in)
        go_ret
        exact ⟨by rw [unhide HE]; rfl, by go_grown⟩
      subst q1
      by_cases q2 : l = 0
      case neg =>
        have HE : Hid (nodeE m i fe ⟨-1, 0, l, r, less, v⟩ = 3) := hide (by simp [nodeE, z0, z1, q2])
        go_enter Try.func58, Try.ntmps58
        go_wp2_with (first | (go_at_call 56; refine (cell_any _ _).mono ?_; rintro e w' ⟨rfl, rfl⟩; rw [HC.out]) | go_in)
        go_ret
        exact ⟨by rw [unhide HE]; rfl, by go_grown⟩
      subst q2
      by_cases q3 : r = 0
      case neg =>
        have HE : Hid (nodeE m i fe ⟨-1, 0, 0, r, less, v⟩ = 3) := hide (by simp [nodeE, z0, z1, q3])
        go_enter Try.func58, Try.ntmps58
        go_wp2_with (first | (go_at_call 56; refine (cell_any _ _).mono ?_; rintro e w' ⟨rfl, rfl⟩; rw [HC.out]) | go_in)
        go_ret
        exact ⟨by rw [unhide HE]; rfl, by go_grown⟩
      subst q3
      cases less
      · have HE : Hid (nodeE m i fe ⟨-1, 0, 0, 0, false, v⟩ = 0) := hide (by simp [nodeE, z0, z1])
        go_enter Try.func58, Try.ntmps58
        go_wp2_with (first | (go_at_call 56; refine (cell_any _ _).mono ?_; rintro e w' ⟨rfl, rfl⟩; rw [HC.out]) | go_in)
        go_ret
        exact ⟨by rw [unhide HE]; rfl, by go_grown⟩
      · have HE : Hid (nodeE m i fe ⟨-1, 0, 0, 0, true, v⟩ = 3) := hide (by simp [nodeE, z0, z1])
        go_enter Try.func58, Try.ntmps58
        go_wp2_with (first | (go_at_call 56; refine (cell_any _ _).mono ?_; rintro e w' ⟨rfl, rfl⟩; rw [HC.out]) | go_in)
        go_ret
        exact ⟨by rw [unhide HE]; rfl, by go_grown⟩
    · have hf : cellB v = false := by simpa using hc
      have kv := cellB_f.1 hf
      have HC := hide hf
      clear hc hf
      have HE : Hid (nodeE m i fe ⟨-1, c, l, r, less, v⟩ = 1) := hide (by rcases kv with kv | kv <;> simp [nodeE, kv])
      go_enter Try.func58, Try.ntmps58
      go_wp2_with (first | (go_at_call 56; refine (cell_any _ _).mono ?_; rintro e w' ⟨rfl, rfl⟩; rw [HC.out]) | go_in)
      go_ret
      exact ⟨by rw [unhide HE]; rfl, by go_grown⟩
  · by_cases k0 : f < 0
    · have HE : Hid (nodeE m i fe ⟨f, c, l, r, less, v⟩ = 1) := hide (by simp [nodeE, hf, k0])
      go_enter Try.func58, Try.ntmps58
      go_wp2_with (first | (go_at_call 56; refine (cell_any _ _).mono ?_; rintro e w' ⟨rfl, rfl⟩; rw [HC.out]) | go_in)
      go_ret
      exact ⟨by rw [unhide HE]; rfl, by go_grown⟩
    by_cases k1 : fe ≤ f
    · have HE : Hid (nodeE m i fe ⟨f, c, l, r, less, v⟩ = 1) := hide (by simp [nodeE, hf, k0, k1])
      go_enter Try.func58, Try.ntmps58
      go_wp2_with (first | (go_at_call 56; refine (cell_any _ _).mono ?_; rintro e w' ⟨rfl, rfl⟩; rw [HC.out]) | go_in)
      go_ret
      exact ⟨by rw [unhide HE]; rfl, by go_grown⟩
    by_cases hc : cellB c = true
    case neg =>
      have hb2 : cellB c = false := by simpa using hc
      have kv := cellB_f.1 hb2
      have HC := hide hb2
      clear hc hb2
      have HE : Hid (nodeE m i fe ⟨f, c, l, r, less, v⟩ = 1) := hide (by rcases kv with kv | kv <;> simp [nodeE, hf, k0, k1, kv])
      go_enter Try.func58, Try.ntmps58
      go_wp2_with (first | (go_at_call 56; refine (cell_any _ _).mono ?_; rintro e w' ⟨rfl, rfl⟩; rw [HC.out]) | go_in)
      go_ret
      exact ⟨by rw [unhide HE]; rfl, by go_grown⟩
    have kv := cellB_t.1 hc
    have HC := hide hc
    have z0 : ¬ c < -1000000 := by omega
    have z1 : ¬ 1000000 < c := by omega
    clear hc
    by_cases k2 : l ≤ (i : Int)
    · have HE : Hid (nodeE m i fe ⟨f, c, l, r, less, v⟩ = 1) := hide (by simp [nodeE, hf, k0, k1, z0, z1, k2])
      go_enter Try.func58, Try.ntmps58
      go_wp2_with (first | (go_at_call 56; refine (cell_any _ _).mono ?_; rintro e w' ⟨rfl, rfl⟩; rw [HC.out]) | go_in)
      go_ret
      exact ⟨by rw [unhide HE]; rfl, by go_grown⟩
    by_cases k3 : (m : Int) ≤ l
    · have HE : Hid (nodeE m i fe ⟨f, c, l, r, less, v⟩ = 1) := hide (by simp [nodeE, hf, k0, k1, z0, z1, k2, k3])
      go_enter Try.func58, Try.ntmps58
      go_wp2_with (first | (go_at_call 56; refine (cell_any _ _).mono ?_; rintro e w' ⟨rfl, rfl⟩; rw [HC.out]) | go_in)
      go_ret
      exact ⟨by rw [unhide HE]; rfl, by go_grown⟩
    by_cases k4 : r ≤ (i : Int)
    · have HE : Hid (nodeE m i fe ⟨f, c, l, r, less, v⟩ = 1) := hide (by simp [nodeE, hf, k0, k1, z0, z1, k2, k3, k4])
      go_enter Try.func58, Try.ntmps58
      go_wp2_with (first | (go_at_call 56; refine (cell_any _ _).mono ?_; rintro e w' ⟨rfl, rfl⟩; rw [HC.out]) | go_in)
      go_ret
      exact ⟨by rw [unhide HE]; rfl, by go_grown⟩
    by_cases k5 : (m : Int) ≤ r
    · have q5 : decide (r < (m : Int)) = false := by simp; omega
      have HE : Hid (nodeE m i fe ⟨f, c, l, r, less, v⟩ = 1) := hide (by simp [nodeE, hf, k0, k1, z0, z1, k2, k3, k4, k5])
      go_enter Try.func58, Try.ntmps58
      go_wp2_with (first | (go_at_call 56; refine (cell_any _ _).mono ?_; rintro e w' ⟨rfl, rfl⟩; rw [HC.out]) | go_in)
      go_ret
      exact ⟨by rw [unhide HE]; rfl, by go_grown⟩
    by_cases k6 : v = 0
    case neg =>
      have q6 : (v != 0) = true := by simpa using k6
      have HE : Hid (nodeE m i fe ⟨f, c, l, r, less, v⟩ = 3) := hide (by simp [nodeE, hf, k0, k1, z0, z1, k2, k3, k4, k5, k6])
      go_enter Try.func58, Try.ntmps58
      go_wp2_with (first | (go_at_call 56; refine (cell_any _ _).mono ?_; rintro e w' ⟨rfl, rfl⟩; rw [HC.out]) | go_in)
      go_ret
      exact ⟨by rw [unhide HE]; rfl, by go_grown⟩
    subst k6
    by_cases k7 : l = r
    · subst k7
      have HE : Hid (nodeE m i fe ⟨f, c, l, l, less, 0⟩ = 3) := hide (by simp [nodeE, hf, k0, k1, z0, z1, k2, k3, k4, k5])
      go_enter Try.func58, Try.ntmps58
      go_wp2_with (first | (go_at_call 56; refine (cell_any _ _).mono ?_; rintro e w' ⟨rfl, rfl⟩; rw [HC.out]) | go_in)
      go_ret
      exact ⟨by rw [unhide HE]; rfl, by go_grown⟩
    have q7 : (l == r) = false := by simpa using k7
    have HE : Hid (nodeE m i fe ⟨f, c, l, r, less, 0⟩ = 0) := hide (by simp [nodeE, hf, k0, k1, z0, z1, k2, k3, k4, k5, k7])
    go_enter Try.func58, Try.ntmps58
    go_wp2_with (first | (go_at_call 56; refine (cell_any _ _).mono ?_; rintro e w' ⟨rfl, rfl⟩; rw [HC.out]) | go_in)
    go_ret
    exact ⟨by rw [unhide HE]; rfl, by go_grown⟩
end Go.Proofs.Ytopncifebldklaa
/- cut.At (a binary search) and row.Bins. Conditions: cuts that rise; as each lemma names. -/
namespace Go.Proofs.Ytopncifebldklaa
set_option linter.unusedVariables false
set_option linter.unusedSimpArgs false
open Go.RowKit

/-! ### row.Bins -/
structure Rw where
  A : Option Addr
  n : Nat
  c : Nat
  l : List Int
def Rw.val (r : Rw) : Value := .slice r.A r.n r.c
def RReads (w : World) (B : Nat) (A : Option Addr) (n : Nat) (rs : List Rw) : Prop := Reads w B 1 A n (rs.map Rw.val) ∧ ∀ r ∈ rs, IReads w B r.A r.n r.l ∧ r.n ≤ maxLen
theorem RReads.below {w w' : World} {B n : Nat} {A : Option Addr} {rs : List Rw} (h : RReads w B A n rs) (hb : Below B w w') : RReads w' B A n rs :=
  ⟨h.1.below hb, fun r hr => ⟨(h.2 r hr).1.below hb, (h.2 r hr).2⟩⟩
theorem RReads.len {w : World} {B n : Nat} {A : Option Addr} {rs : List Rw} (h : RReads w B A n rs) : rs.length = n := by have := h.1.1; simpa using this
theorem RReads.get {w : World} {B n : Nat} {A : Option Addr} {rs : List Rw} (h : RReads w B A n rs) {k : Nat} (hk : k < n) :
    ∃ b off r, A = some ⟨b, off, none⟩ ∧ b < B ∧ rs[k]? = some r ∧ w.cell? ⟨b, off + k, none⟩ = some (.slice r.A r.n r.c) ∧ IReads w B r.A r.n r.l ∧ r.n ≤ maxLen := by
  obtain ⟨b, off, rfl, hb, hc⟩ := Reads.spot h.1 (by omega) (by omega)
  have hl : k < rs.length := by rw [h.len]; exact hk
  have hr : rs[k]? = some rs[k] := List.getElem?_eq_getElem hl
  have := h.2 _ (List.mem_of_getElem? hr)
  exact ⟨b, off, rs[k], rfl, hb, hr, hc k _ (by simp [hl, Rw.val]), this.1, this.2⟩

def firstE : List Rw → Int
  | [] => 0
  | x :: r => if cutE x.l = 0 then firstE r else cutE x.l
def binsE (l : List Int) (rs : List Rw) : Int := if rowE l = 0 then (if l.length = rs.length then firstE rs else 3) else rowE l
def binOf (c : Int) (r : Rw) : Int := if c = -1125899906842624 then c else (binN r.l c : Int)
def binsL (l : List Int) (rs : List Rw) : List Int := if binsE l rs = 0 then List.zipWith binOf l rs else []
/-- what row.Bins answers: a list, or nil and what is wrong -/
def BinsPost (l : List Int) (rs : List Rw) (w : World) (e : Ending) (w' : World) : Prop :=
  ∃ v, e = .returned (.tuple #[v, errV (binsE l rs)]) ∧ w'.ownsRow w.heap.size 3 1 v (binsL l rs).length ((binsL l rs).map (Value.int .i64)) ∧ Below w.heap.size w w'


theorem zipWith_at {α β γ : Type} (f : α → β → γ) {l : List α} {s : List β} {k : Nat} {x : α} {y : β} (hx : l[k]? = some x) (hy : s[k]? = some y) : (List.zipWith f l s)[k]? = some (f x y) := by
  rw [List.getElem?_zipWith, hx, hy]
theorem first_bad {rs : List Rw} {k : Nat} {r : Rw} (h : rs[k]? = some r) (hf : firstE (rs.drop k) = firstE rs) (hr : cutE r.l ≠ 0) : firstE rs = cutE r.l := by
  rw [← hf, drop_at h, firstE, if_neg hr]
theorem first_ok {rs : List Rw} {k : Nat} {r : Rw} (h : rs[k]? = some r) (hf : firstE (rs.drop k) = firstE rs) (hr : cutE r.l = 0) : firstE (rs.drop (k + 1)) = firstE rs := by
  rw [← hf, drop_at h, firstE, if_pos hr]
theorem bins_err {l : List Int} {rs : List Rw} (h : binsE l rs ≠ 0) : binsL l rs = [] := by unfold binsL; rw [if_neg h]
theorem BinsPost.fault {l : List Int} {rs : List Rw} {w w' : World} (h : binsE l rs ≠ 0) (hb : Below w.heap.size w w') : BinsPost l rs w (.returned (.tuple #[.slice none 0 0, errV (binsE l rs)])) w' :=
  ⟨_, rfl, by rw [bins_err h]; exact World.ownsRow_nil _ _ _ _, hb⟩

theorem take_map_next {l : List Int} {k : Nat} {x : Int} (h : l[k]? = some x) : (l.take k).map (Value.int .i64) ++ [.int .i64 x] = (l.take (k + 1)).map (Value.int .i64) := by
  rw [take_next h]; simp
end Go.Proofs.Ytopncifebldklaa
