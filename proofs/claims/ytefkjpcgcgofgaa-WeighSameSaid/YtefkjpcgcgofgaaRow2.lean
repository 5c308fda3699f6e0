/- row.In, row.Fits, cut.At: spans and bins. Conditions: as each lemma names. -/
import Derived.Test.YtefkjpcgcgofgaaRow
namespace Go.Proofs.Ytefkjpcgcgofgaa
set_option linter.unusedVariables false
set_option linter.unusedSimpArgs false
open Go.RowKit

/-! ### rows of structs -/
theorem flatMap_at {α : Type} (f : α → List Value) (size : Nat) (hf : ∀ a, (f a).length = size) : ∀ (l : List α) (k j : Nat) (a : α), l[k]? = some a → j < size → (l.flatMap f)[k * size + j]? = (f a)[j]? := by
  intro l
  induction l with
  | nil => intro k j a h; simp at h
  | cons x r ih =>
    intro k j a h hj
    cases k with
    | zero =>
      simp at h; subst h
      rw [List.flatMap_cons, Nat.zero_mul, Nat.zero_add, List.getElem?_append_left (by rw [hf]; exact hj)]
    | succ k =>
      rw [List.flatMap_cons, List.getElem?_append_right (by rw [hf, Nat.succ_mul]; omega), hf]
      have : (k + 1) * size + j - size = k * size + j := by rw [Nat.succ_mul]; omega
      rw [this]
      exact ih k j a (by simpa using h) hj
theorem flatMap_len {α : Type} (f : α → List Value) (size : Nat) (hf : ∀ a, (f a).length = size) (l : List α) : (l.flatMap f).length = l.length * size := by
  induction l with
  | nil => simp
  | cons x r ih => rw [List.flatMap_cons, List.length_append, ih, hf, List.length_cons, Nat.succ_mul]; omega

structure Sp where
  low : Int
  high : Int
  ab : Bool
def Sp.cells (s : Sp) : List Value := [.int .i64 s.low, .int .i64 s.high, .bool s.ab]
def SReads (w : World) (B : Nat) (A : Option Addr) (n : Nat) (l : List Sp) : Prop := Reads w B 3 A n (l.flatMap Sp.cells)
section
variable {w w' : World} {B B' n : Nat} {A : Option Addr} {l : List Sp}
theorem SReads.len (h : SReads w B A n l) : l.length = n := by
  have := h.1
  rw [flatMap_len Sp.cells 3 (fun _ => rfl)] at this
  omega
theorem SReads.get (h : SReads w B A n l) {k : Nat} (hk : k < n) :
    ∃ b off s, A = some ⟨b, off, none⟩ ∧ b < B ∧ l[k]? = some s ∧ w.cell? ⟨b, off + k * 3, none⟩ = some (.int .i64 s.low) ∧ w.cell? ⟨b, off + k * 3 + 1, none⟩ = some (.int .i64 s.high) ∧ w.cell? ⟨b, off + k * 3 + 2, none⟩ = some (.bool s.ab) := by
  obtain ⟨b, off, rfl, hb, hc⟩ := Reads.spot h (by omega) (by omega)
  have hl : k < l.length := by rw [h.len]; exact hk
  have hs : l[k]? = some l[k] := List.getElem?_eq_getElem hl
  have F := fun j hj => flatMap_at Sp.cells 3 (fun _ => rfl) l k j l[k] hs hj
  refine ⟨b, off, l[k], rfl, hb, hs, ?_, ?_, ?_⟩
  · exact hc (k * 3 + 0) _ (F 0 (by omega))
  · exact hc (k * 3 + 1) _ (F 1 (by omega))
  · exact hc (k * 3 + 2) _ (F 2 (by omega))
theorem SReads.below (h : SReads w B A n l) (hb : Below B w w') : SReads w' B A n l := Reads.below h hb
theorem SReads.more (h : SReads w B A n l) (hB : B ≤ B') : SReads w B' A n l := Reads.more h hB
end

def inB (c : Int) (s : Sp) : Bool := if c = -1125899906842624 then s.ab else decide (s.low ≤ c) && decide (c ≤ s.high)
theorem in_any (c lo hi : Int) (ab : Bool) (w : World) :
    Calls Try.prog 46 #[.int .i64 c, .agg #[.int .i64 lo, .int .i64 hi, .bool ab]] w fun e w' => e = .returned (.bool (inB c ⟨lo, hi, ab⟩)) ∧ Below w.heap.size w w' := by
  by_cases h0 : c = -1125899906842624
  · subst h0
    go_enter Try.func46, Try.ntmps46
    go_wp2
    go_ret
    exact ⟨rfl, by go_grown⟩
  · by_cases h1 : lo ≤ c
    · by_cases h2 : c ≤ hi
      · have HE : Hid (inB c ⟨lo, hi, ab⟩ = true) := hide (by simp [inB, h0, h1, h2])
        go_enter Try.func46, Try.ntmps46
        go_wp2
        go_ret
        exact ⟨by rw [unhide HE]; rfl, by go_grown⟩
      · have HE : Hid (inB c ⟨lo, hi, ab⟩ = false) := hide (by simp [inB, h0, h2])
        go_enter Try.func46, Try.ntmps46
        go_wp2
        go_ret
        exact ⟨by rw [unhide HE]; rfl, by go_grown⟩
    · have HE : Hid (inB c ⟨lo, hi, ab⟩ = false) := hide (by simp [inB, h0, h1])
      go_enter Try.func46, Try.ntmps46
      go_wp2
      go_ret
      exact ⟨by rw [unhide HE]; rfl, by go_grown⟩

/-- what row.Fits answers -/
def fitsE (l : List Int) (s : List Sp) : Int := if rowE l = 0 then (if l.length = s.length then 0 else 3) else rowE l
def fitsB (l : List Int) (s : List Sp) : Bool := fitsE l s == 0 && (l.zip s).all fun p => inB p.1 p.2

theorem fits_err {l : List Int} {s : List Sp} (h : fitsE l s ≠ 0) : fitsB l s = false := by
  unfold fitsB; rw [beq_eq_false_iff_ne.2 h]; rfl
theorem zip_at {α β : Type} {l : List α} {s : List β} {k : Nat} {x : α} {y : β} (hx : l[k]? = some x) (hy : s[k]? = some y) : (l.zip s)[k]? = some (x, y) := by
  rw [List.getElem?_zip_eq_some]; exact ⟨hx, hy⟩
theorem fits_no {l : List Int} {s : List Sp} {k : Nat} {x : Int} {y : Sp} (hx : l[k]? = some x) (hy : s[k]? = some y) (h : inB x y = false) : fitsB l s = false := by
  unfold fitsB
  rw [Bool.and_eq_false_iff]
  right
  rw [Bool.eq_false_iff]
  intro ha
  rw [List.all_eq_true] at ha
  have := ha _ (List.mem_of_getElem? (zip_at hx hy))
  rw [h] at this
  cases this
theorem fits_next {l : List Int} {s : List Sp} {k : Nat} {x : Int} {y : Sp} (hx : l[k]? = some x) (hy : s[k]? = some y) (h : ∀ p ∈ (l.zip s).take k, inB p.1 p.2 = true) (hi : inB x y = true) : ∀ p ∈ (l.zip s).take (k + 1), inB p.1 p.2 = true := by
  rw [take_next (zip_at hx hy)]
  intro p hp
  rcases List.mem_append.1 hp with hp | hp
  · exact h p hp
  · simp at hp; subst hp; exact hi
theorem fits_yes {l : List Int} {s : List Sp} {k : Nat} (he : fitsE l s = 0) (hk : l.length ≤ k) (h : ∀ p ∈ (l.zip s).take k, inB p.1 p.2 = true) : fitsB l s = true := by
  unfold fitsB
  rw [he]
  rw [List.take_of_length_le (by rw [List.length_zip]; omega)] at h
  simpa [List.all_eq_true] using h

set_option maxHeartbeats 400000 in
theorem fits_any (A C : Option Addr) (n c m d : Nat) (l : List Int) (s : List Sp) (w : World) (ha : IReads w w.heap.size A n l) (hs : SReads w w.heap.size C m s) (hn : n ≤ maxLen) (hm : m ≤ maxLen) :
    Calls Try.prog 23 #[.slice A n c, .slice C m d] w fun e w' => e = .returned (.tuple #[.bool (fitsB l s), errV (fitsE l s)]) ∧ Below w.heap.size w w' := by
  have hl := ha.len
  have hl2 := hs.len
  by_cases he : rowE l = 0
  · have hv := errV_0 he
    by_cases hnm : n = m
    · subst hnm
      have HE : Hid (fitsE l s = 0) := hide (by unfold fitsE; rw [if_pos he, if_pos (by omega)])
      have HL := hide hl
      have HL2 := hide hl2
      clear hl hl2 he
      go_enter Try.func23, Try.ntmps23
      go_wp2_with fail
      refine (rowCheck_any A n c l _ _ ha hn).mono ?_
      rintro e w' ⟨rfl, rfl⟩
      rw [hv]
      clear hv
      unfold maxLen at hn hm
      go_wp2_with fail
      go_loopw [22] (fun i wr => ∃ k : Nat, k ≤ n ∧ i = .int .i64 k ∧ Hid (∀ p ∈ (l.zip s).take k, inB p.1 p.2 = true) ∧ Below w.heap.size w wr) (fun i _ => n - (intOf i).toNat)
      case atStart => exact ⟨0, Nat.zero_le _, rfl, hide (by simp), Below.refl _ _⟩
      case round =>
        obtain ⟨k, hk, rfl, HG, hbel⟩ := hrel
        by_cases hlt : k < n
        · obtain ⟨b, o, x, rfl, _, hx, hcx⟩ := (ha.below hbel).get hlt
          obtain ⟨b2, o2, y, rfl, _, hy, hc0, hc1, hc2⟩ := (hs.below hbel).get hlt
          have HX := hide hx
          have HY := hide hy
          clear hx hy
          obtain ⟨lo, hi, ab⟩ := y
          cases hin : inB x ⟨lo, hi, ab⟩
          · have HI := hide hin
            clear hin
            go_wp2_with fail
            refine (in_any x lo hi ab _).mono ?_
            rintro e w' ⟨rfl, hb⟩
            rw [unhide HI]
            go_wp2_with fail
            go_ret2
            exact ⟨by rw [unhide HE, fits_no (unhide HX) (unhide HY) (unhide HI)]; rfl, hbel.trans (hb.mono hbel.size)⟩
          · have HI := hide hin
            clear hin
            go_wp2_with fail
            refine (in_any x lo hi ab _).mono ?_
            rintro e w' ⟨rfl, hb⟩
            rw [unhide HI]
            go_wp2_with fail
            go_roundw
            case rel => exact ⟨k + 1, by omega, by go_num, hide (fits_next (unhide HX) (unhide HY) (unhide HG) (unhide HI)), hbel.trans (hb.mono hbel.size)⟩
            case measure => simp [intOf]; omega
        · go_wp2
          go_ret2
          have h1 := unhide HL
          have h2 := unhide HL2
          have h3 := unhide HG
          exact ⟨by rw [unhide HE, fits_yes (unhide HE) (k := k) (by omega) h3]; rfl, hbel⟩
    · have HE : Hid (fitsE l s = 3) := hide (by unfold fitsE; rw [if_pos he, if_neg (by omega)])
      clear hl hl2 he
      go_enter Try.func23, Try.ntmps23
      go_wp2_with fail
      refine (rowCheck_any A n c l _ _ ha hn).mono ?_
      rintro e w' ⟨rfl, rfl⟩
      rw [hv]
      clear hv
      unfold maxLen at hn hm
      go_wp2_with fail
      go_ret2
      exact ⟨by rw [unhide HE, fits_err (by rw [unhide HE]; decide)]; rfl, Below.refl _ _⟩
  · have HE : Hid (fitsE l s = rowE l) := hide (by unfold fitsE; rw [if_neg he])
    have HN := hide he
    have hv := errV_1 he
    clear hl hl2 he
    go_enter Try.func23, Try.ntmps23
    go_wp2_with fail
    refine (rowCheck_any A n c l _ _ ha hn).mono ?_
    rintro e w' ⟨rfl, rfl⟩
    rw [hv]
    clear hv
    go_wp2_with fail
    go_ret2
    exact ⟨by rw [unhide HE, fits_err (by rw [unhide HE]; exact unhide HN), errV_1 (unhide HN)]; rfl, Below.refl _ _⟩
end Go.Proofs.Ytefkjpcgcgofgaa
