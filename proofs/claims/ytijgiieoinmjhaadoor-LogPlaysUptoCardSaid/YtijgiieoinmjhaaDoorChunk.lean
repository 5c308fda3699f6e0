/- Chapter 15's sums and parts: chunk.Sum, chunk.Check. Conditions: as each lemma names. -/
import Derived.Test.YtijgiieoinmjhaaDoorCode
namespace Go.Proofs.YtijgiieoinmjhaaDoor
set_option linter.unusedVariables false
set_option linter.unusedSimpArgs false
open Go.RowKit

def sumS (n c : Int) : Int := (31 * n + c + 1) % 1000003
def sumV (l : List Int) : Int := l.foldl sumS 7
theorem sumS_in (n c : Int) : 0 ≤ sumS n c ∧ sumS n c < 1000003 := ⟨Int.emod_nonneg _ (by decide), Int.emod_lt_of_pos _ (by decide)⟩
theorem sumV_in (l : List Int) : 0 ≤ sumV l ∧ sumV l < 1000003 := by
  rcases List.eq_nil_or_concat l with rfl | ⟨l', x, rfl⟩
  · exact ⟨by decide, by decide⟩
  · simp only [List.concat_eq_append, sumV, List.foldl_append, List.foldl_cons, List.foldl_nil]; exact sumS_in _ _
theorem sumV_next {l : List Int} {k : Nat} {x : Int} (h : l[k]? = some x) : sumV (l.take (k + 1)) = sumS (sumV (l.take k)) x := by
  unfold sumV; rw [take_next h, List.foldl_append]; rfl
set_option maxHeartbeats 400000 in
theorem sum_any (A : Option Addr) (n c B : Nat) (l : List Int) (w : World) (hr : BReads w B A n l) (hn : n ≤ maxLen) (hby : ∀ x ∈ l, 0 ≤ x ∧ x < 256) :
    Calls Tryd.prog 15 #[.slice A n c] w fun e w' => e = .returned (.int .i64 (sumV l)) ∧ w = w' := by
  unfold maxLen at hn
  have HL := hide hr.len
  have HBY := hide hby
  clear hby
  go_enter Tryd.func15, Tryd.ntmps15
  go_wp2
  go_loop [3, 8] (fun s i => ∃ (k : Nat) (m : Int), k ≤ n ∧ i = .int .i64 k ∧ s = .int .i64 m ∧ 0 ≤ m ∧ m < 1000003 ∧ Hid (m = sumV (l.take k))) (fun _ i => n - (intOf i).toNat)
  case atStart => exact ⟨0, 7, Nat.zero_le _, rfl, rfl, by omega, by omega, hide rfl⟩
  case round =>
    obtain ⟨k, m, hk, rfl, rfl, hm0, hm1, HM⟩ := hrel
    by_cases hlt : k < n
    · obtain ⟨b, o, x, rfl, _, hx, hcx⟩ := hr.get hlt
      have HX := hide hx
      obtain ⟨hx0, hx1⟩ := (unhide HBY) x (List.mem_of_getElem? hx)
      clear hx
      go_wp2
      go_round
      case rel => exact ⟨k + 1, sumS m x, by omega, by go_num, rfl, (sumS_in m x).1, (sumS_in m x).2, hide (by rw [sumV_next (unhide HX), unhide HM])⟩
      case measure => simp [intOf]; omega
    · go_wp2
      go_ret
      exact ⟨ret_int (by rw [unhide HM, List.take_of_length_le (by have := unhide HL; omega)]), rfl⟩

structure Pt where
  size : Int
  sum : Int
def Pt.cells (p : Pt) : List Value := [.int .i64 p.size, .int .i64 p.sum]
def PReads (w : World) (B : Nat) (A : Option Addr) (n : Nat) (t : List Pt) : Prop := Reads w B 2 A n (t.flatMap Pt.cells)
section
variable {w w' : World} {B B' n : Nat} {A : Option Addr} {t : List Pt}
theorem PReads.len (h : PReads w B A n t) : t.length = n := by
  have := h.1
  rw [flatMap_len Pt.cells 2 (fun _ => rfl)] at this
  omega
theorem PReads.get (h : PReads w B A n t) {k : Nat} (hk : k < n) :
    ∃ b off x, A = some ⟨b, off, none⟩ ∧ b < B ∧ t[k]? = some x ∧ w.cell? ⟨b, off + k * 2, none⟩ = some (.int .i64 x.size) ∧ w.cell? ⟨b, off + k * 2 + 1, none⟩ = some (.int .i64 x.sum) := by
  obtain ⟨b, off, rfl, hb, hc⟩ := Reads.spot h (by omega) (by omega)
  have hl : k < t.length := by rw [h.len]; exact hk
  have hs : t[k]? = some t[k] := List.getElem?_eq_getElem hl
  have F := fun j hj => flatMap_at Pt.cells 2 (fun _ => rfl) t k j t[k] hs hj
  exact ⟨b, off, t[k], rfl, hb, hs, hc (k * 2 + 0) _ (F 0 (by omega)), hc (k * 2 + 1) _ (F 1 (by omega))⟩
theorem PReads.below (h : PReads w B A n t) (hb : Below B w w') : PReads w' B A n t := Reads.below h hb
theorem PReads.more (h : PReads w B A n t) (hB : B ≤ B') : PReads w B' A n t := Reads.more h hB
end

def ptGood (p : Pt) : Bool := decide (1 ≤ p.size) && decide (p.size ≤ 6000) && decide (0 ≤ p.sum) && decide (p.sum < 1000003)
def sizes (l : List Pt) : Int := (l.map Pt.size).sum
def partsE (l : List Pt) : Int := if 100 < l.length then 4 else if l.all ptGood then (if 6000 < sizes l then 4 else 0) else 1
theorem ptGood_t {p : Pt} : ptGood p = true ↔ 1 ≤ p.size ∧ p.size ≤ 6000 ∧ 0 ≤ p.sum ∧ p.sum < 1000003 := by simp [ptGood, and_assoc]
theorem partsE_bad {l : List Pt} {k : Nat} {x : Pt} (h : l[k]? = some x) (hx : ¬ (1 ≤ x.size ∧ x.size ≤ 6000 ∧ 0 ≤ x.sum ∧ x.sum < 1000003)) (hl : l.length ≤ 100) : partsE l = 1 := by
  unfold partsE
  rw [if_neg (by omega), if_neg]
  intro ha
  rw [List.all_eq_true] at ha
  exact hx (ptGood_t.1 (ha x (List.mem_of_getElem? h)))
theorem partsE_good {l : List Pt} (h : ∀ x ∈ l, ptGood x = true) (hl : l.length ≤ 100) : partsE l = if 6000 < sizes l then 4 else 0 := by
  unfold partsE
  rw [if_neg (by omega), if_pos (List.all_eq_true.2 h)]
theorem all_nextP {p : Pt → Prop} {l : List Pt} {k : Nat} {x : Pt} (h : l[k]? = some x) (ha : ∀ y ∈ l.take k, p y) (hx : p x) : ∀ y ∈ l.take (k + 1), p y := by
  rw [take_next h]
  intro y hy
  rcases List.mem_append.1 hy with hy | hy
  · exact ha y hy
  · simp at hy; subst hy; exact hx
theorem sizes_next {l : List Pt} {k : Nat} {x : Pt} (h : l[k]? = some x) : sizes (l.take (k + 1)) = sizes (l.take k) + x.size := by
  unfold sizes; rw [take_next h, List.map_append, List.sum_append]; simp

set_option maxHeartbeats 800000 in
theorem parts_any (A : Option Addr) (n c B : Nat) (l : List Pt) (w : World) (ha : PReads w B A n l) (hB : B ≤ w.heap.size) (hn : n ≤ maxLen) :
    Calls Tryd.prog 20 #[.slice A n c] w fun e w' => e = .returned (errV (partsE l)) ∧ Below w.heap.size w w' := by
  unfold maxLen at hn
  have hl := ha.len
  by_cases h8 : 100 < n
  · have HE : Hid (partsE l = 4) := hide (by unfold partsE; rw [if_pos (by omega)])
    clear hl
    go_enter Tryd.func20, Tryd.ntmps20
    go_wp2
    go_ret
    exact ⟨by rw [unhide HE]; rfl, Below.refl _ _⟩
  · have HL := hide hl
    clear hl
    go_enter Tryd.func20, Tryd.ntmps20
    go_wp2
    go_loopw [3, 12] (fun s i wr => ∃ (k : Nat) (m : Int), k ≤ n ∧ i = .int .i64 k ∧ s = .int .i64 m ∧ 0 ≤ m ∧ m ≤ 6000 * (k : Int) ∧ Hid (m = sizes (l.take k)) ∧ Hid (∀ x ∈ l.take k, ptGood x = true) ∧ Below w.heap.size w wr) (fun _ i _ => n - (intOf i).toNat)
    case atStart => exact ⟨0, 0, Nat.zero_le _, rfl, rfl, by omega, by omega, hide rfl, hide (by simp), Below.refl _ _⟩
    case round =>
      obtain ⟨k, m, hk, rfl, rfl, hm0, hm1, HM, HG, hbel⟩ := hrel
      by_cases hlt : k < n
      · have hsz := hbel.size
        obtain ⟨b, o, x, rfl, hb, hx, c0, c1⟩ := (ha.below (hbel.mono hB)).get hlt
        have hbr : b < wr.heap.size := by omega
        obtain ⟨x0, x1⟩ := x
        dsimp only at c0 c1
        have HX := hide hx
        clear hx
        by_cases h0 : 1 ≤ x0
        · by_cases h1 : x0 ≤ 6000
          · by_cases h2 : 0 ≤ x1
            · by_cases h3 : x1 < 1000003
              · have HS := hide (sizes_next (unhide HX))
                go_wp2
                go_roundw
                case rel => exact ⟨k + 1, m + x0, by omega, by go_num, by go_num, by omega, by omega, hide (by rw [unhide HS, unhide HM]), hide (all_nextP (unhide HX) (unhide HG) (ptGood_t.2 ⟨h0, h1, h2, h3⟩)), hbel.trans ((Below.refl _ _).alloc (by omega) _)⟩
                case measure => simp [intOf]; omega
              · have HE := hide (partsE_bad (unhide HX) (by dsimp only; omega) (by have := unhide HL; omega))
                go_wp2
                go_ret
                exact ⟨by rw [unhide HE]; rfl, hbel.trans ((Below.refl _ _).alloc (by omega) _)⟩
            · have HE := hide (partsE_bad (unhide HX) (by dsimp only; omega) (by have := unhide HL; omega))
              go_wp2
              go_ret
              exact ⟨by rw [unhide HE]; rfl, hbel.trans ((Below.refl _ _).alloc (by omega) _)⟩
          · have HE := hide (partsE_bad (unhide HX) (by dsimp only; omega) (by have := unhide HL; omega))
            go_wp2
            go_ret
            exact ⟨by rw [unhide HE]; rfl, hbel.trans ((Below.refl _ _).alloc (by omega) _)⟩
        · have HE := hide (partsE_bad (unhide HX) (by dsimp only; omega) (by have := unhide HL; omega))
          go_wp2
          go_ret
          exact ⟨by rw [unhide HE]; rfl, hbel.trans ((Below.refl _ _).alloc (by omega) _)⟩
      · obtain rfl : k = n := by omega
        have HE := hide (partsE_good (l := l) (by have := unhide HG; rwa [List.take_of_length_le (by have := unhide HL; omega)] at this) (by have := unhide HL; omega))
        have HM2 : Hid (m = sizes l) := hide (by rw [unhide HM, List.take_of_length_le (by have := unhide HL; omega)])
        by_cases h6 : 6000 < m
        · go_wp2
          go_ret
          exact ⟨by rw [unhide HE, if_pos (by have := unhide HM2; omega)]; rfl, hbel⟩
        · go_wp2
          go_ret
          exact ⟨by rw [unhide HE, if_neg (by have := unhide HM2; omega)]; rfl, hbel⟩
end Go.Proofs.YtijgiieoinmjhaaDoor
