/- cut.At (a binary search) and row.Bins. Conditions: cuts that rise; as each lemma names. -/
import Derived.Test.YtliacpdbeghmlaaRow2
namespace Go.Proofs.Ytliacpdbeghmlaa
set_option linter.unusedVariables false
set_option linter.unusedSimpArgs false
open Go.RowKit

/-! ### row.Bins -/
structure Rw where
  A : Option Addr
  n : Nat
  c : Nat
  l : List Int
def Rw.val (r : Rw) : Value := .slice r.A r.n r.c
def RReads (w : World) (B : Nat) (A : Option Addr) (n : Nat) (rs : List Rw) : Prop := Reads w B 1 A n (rs.map Rw.val) ∧ ∀ r ∈ rs, IReads w B r.A r.n r.l ∧ r.n ≤ maxLen
theorem RReads.below {w w' : World} {B n : Nat} {A : Option Addr} {rs : List Rw} (h : RReads w B A n rs) (hb : Below B w w') : RReads w' B A n rs :=
  ⟨h.1.below hb, fun r hr => ⟨(h.2 r hr).1.below hb, (h.2 r hr).2⟩⟩
theorem RReads.len {w : World} {B n : Nat} {A : Option Addr} {rs : List Rw} (h : RReads w B A n rs) : rs.length = n := by have := h.1.1; simpa using this
theorem RReads.get {w : World} {B n : Nat} {A : Option Addr} {rs : List Rw} (h : RReads w B A n rs) {k : Nat} (hk : k < n) :
    ∃ b off r, A = some ⟨b, off, none⟩ ∧ b < B ∧ rs[k]? = some r ∧ w.cell? ⟨b, off + k, none⟩ = some (.slice r.A r.n r.c) ∧ IReads w B r.A r.n r.l ∧ r.n ≤ maxLen := by
  obtain ⟨b, off, rfl, hb, hc⟩ := Reads.spot h.1 (by omega) (by omega)
  have hl : k < rs.length := by rw [h.len]; exact hk
  have hr : rs[k]? = some rs[k] := List.getElem?_eq_getElem hl
  have := h.2 _ (List.mem_of_getElem? hr)
  exact ⟨b, off, rs[k], rfl, hb, hr, hc k _ (by simp [hl, Rw.val]), this.1, this.2⟩

def firstE : List Rw → Int
  | [] => 0
  | x :: r => if cutE x.l = 0 then firstE r else cutE x.l
def binsE (l : List Int) (rs : List Rw) : Int := if rowE l = 0 then (if l.length = rs.length then firstE rs else 3) else rowE l
def binOf (c : Int) (r : Rw) : Int := if c = -1125899906842624 then c else (binN r.l c : Int)
def binsL (l : List Int) (rs : List Rw) : List Int := if binsE l rs = 0 then List.zipWith binOf l rs else []
/-- what row.Bins answers: a list, or nil and what is wrong -/
def BinsPost (l : List Int) (rs : List Rw) (w : World) (e : Ending) (w' : World) : Prop :=
  ∃ v, e = .returned (.tuple #[v, errV (binsE l rs)]) ∧ w'.ownsRow w.heap.size 3 1 v (binsL l rs).length ((binsL l rs).map (Value.int .i64)) ∧ Below w.heap.size w w'


theorem zipWith_at {α β γ : Type} (f : α → β → γ) {l : List α} {s : List β} {k : Nat} {x : α} {y : β} (hx : l[k]? = some x) (hy : s[k]? = some y) : (List.zipWith f l s)[k]? = some (f x y) := by
  rw [List.getElem?_zipWith, hx, hy]
theorem first_bad {rs : List Rw} {k : Nat} {r : Rw} (h : rs[k]? = some r) (hf : firstE (rs.drop k) = firstE rs) (hr : cutE r.l ≠ 0) : firstE rs = cutE r.l := by
  rw [← hf, drop_at h, firstE, if_neg hr]
theorem first_ok {rs : List Rw} {k : Nat} {r : Rw} (h : rs[k]? = some r) (hf : firstE (rs.drop k) = firstE rs) (hr : cutE r.l = 0) : firstE (rs.drop (k + 1)) = firstE rs := by
  rw [← hf, drop_at h, firstE, if_pos hr]
theorem bins_err {l : List Int} {rs : List Rw} (h : binsE l rs ≠ 0) : binsL l rs = [] := by unfold binsL; rw [if_neg h]
theorem BinsPost.fault {l : List Int} {rs : List Rw} {w w' : World} (h : binsE l rs ≠ 0) (hb : Below w.heap.size w w') : BinsPost l rs w (.returned (.tuple #[.slice none 0 0, errV (binsE l rs)])) w' :=
  ⟨_, rfl, by rw [bins_err h]; exact World.ownsRow_nil _ _ _ _, hb⟩

theorem take_map_next {l : List Int} {k : Nat} {x : Int} (h : l[k]? = some x) : (l.take k).map (Value.int .i64) ++ [.int .i64 x] = (l.take (k + 1)).map (Value.int .i64) := by
  rw [take_next h]; simp
set_option maxHeartbeats 1000000 in
theorem bins_any (A C : Option Addr) (n c m d : Nat) (l : List Int) (rs : List Rw) (w : World) (ha : IReads w w.heap.size A n l) (hs : RReads w w.heap.size C m rs) (hn : n ≤ maxLen) (hm : m ≤ maxLen) :
    Calls Try.prog 22 #[.slice A n c, .slice C m d] w (BinsPost l rs w) := by
  have hl := ha.len
  have hl2 := hs.len
  by_cases he : rowE l = 0
  · have hv := errV_0 he
    have h8 : n ≤ 8 := by unfold rowE at he; split at he; cases he; omega
    by_cases hnm : n = m
    · subst hnm
      have HE : Hid (binsE l rs = firstE rs) := hide (by unfold binsE; rw [if_pos he, if_pos (by omega)])
      have HL := hide hl
      have HL2 := hide hl2
      clear hl hl2 he
      go_enter Try.func22, Try.ntmps22
      go_wp2_with fail
      refine (rowCheck_any A n c l _ _ ha hn).mono ?_
      rintro e w' ⟨rfl, rfl⟩
      rw [hv]
      clear hv
      go_wp2_with fail
      go_loopw [7, 24] (fun v i wr => ∃ k : Nat, k ≤ n ∧ i = .int .i64 k ∧ Hid (firstE (rs.drop k) = firstE rs) ∧ wr.ownsRow w.heap.size 3 1 v k (((List.zipWith binOf l rs).take k).map (Value.int .i64)) ∧ Below w.heap.size w wr) (fun _ i _ => n - (intOf i).toNat)
      case atStart => exact ⟨0, Nat.zero_le _, rfl, hide (by simp), World.ownsRow_nil _ _ _ _, Below.refl _ _⟩
      case round =>
        obtain ⟨k, hk, rfl, HG, hown, hbel⟩ := hrel
        have hsz := hbel.size
        by_cases hlt : k < n
        · obtain ⟨b, o, x, rfl, _, hx, hcx⟩ := (ha.below hbel).get hlt
          obtain ⟨b2, o2, r, rfl, _, hy, hcy, hr, hrn⟩ := (hs.below hbel).get hlt
          have HX := hide hx
          have HY := hide hy
          clear hx hy
          by_cases hc0 : cutE r.l = 0
          · have hv := errV_0 hc0
            obtain ⟨hrise, _, h60⟩ := cutE_rises hc0
            have hrl := hr.len
            have HZ := hide hc0
            have HRI := hide hrise
            have h60' : r.n ≤ 60 := by omega
            have HQ := hide (zipWith_at binOf (unhide HX) (unhide HY))
            clear hc0 hrise hrl
            go_wp2_with fail
            refine (cutCheck_any r.A r.n r.c r.l _ _ hr hrn).mono ?_
            rintro e w' ⟨rfl, rfl⟩
            rw [hv]
            clear hv
            by_cases hnil : x = -1125899906842624
            · have HB : Hid (binOf x r = x) := hide (by unfold binOf; rw [if_pos hnil])
              rw [unhide HB] at HQ
              subst hnil
              go_wp2_with (at_builtin; refine app_one elem_int (.tmp 45) (.tmp 47) [.int .i64 (-1125899906842624)] rfl rfl rfl hown rfl rfl rfl (ints_oneCell .i64 [-1125899906842624]) (by omega) hsz ?_; intro v' w1 hown1 hb1 _ _)
              have hown2 := take_map_next (unhide HQ) ▸ hown1
              clear hown1
              go_wp2
              go_roundw
              case rel => exact ⟨k + 1, by omega, by go_num, hide (first_ok (unhide HY) (unhide HG) (unhide HZ)), hown2, hbel.trans hb1⟩
              case measure => simp [intOf]; omega
            · have HB : Hid (binOf x r = binN r.l x) := hide (by unfold binOf; rw [if_neg hnil])
              rw [unhide HB] at HQ
              go_wp2_with fail
              refine (at_any r.A r.n r.c r.l x _ _ hr h60' (unhide HRI)).mono ?_
              rintro e w' ⟨rfl, rfl⟩
              go_wp2_with (at_builtin; refine app_one elem_int (.tmp 45) (.tmp 47) [.int .i64 (binN r.l x)] rfl rfl rfl hown rfl rfl rfl (ints_oneCell .i64 [(binN r.l x : Int)]) (by omega) hsz ?_; intro v' w1 hown1 hb1 _ _)
              have hown2 := take_map_next (unhide HQ) ▸ hown1
              clear hown1
              go_wp2
              go_roundw
              case rel => exact ⟨k + 1, by omega, by go_num, hide (first_ok (unhide HY) (unhide HG) (unhide HZ)), hown2, hbel.trans hb1⟩
              case measure => simp [intOf]; omega
          · have HN : Hid (binsE l rs = cutE r.l) := hide (by rw [unhide HE]; exact first_bad (unhide HY) (unhide HG) hc0)
            have HZ := hide hc0
            have hv := errV_1 hc0
            clear hc0
            go_wp2_with fail
            refine (cutCheck_any r.A r.n r.c r.l _ _ hr hrn).mono ?_
            rintro e w' ⟨rfl, rfl⟩
            rw [hv]
            clear hv
            go_wp2_with fail
            go_ret2
            have := BinsPost.fault (l := l) (rs := rs) (w := w) (by rw [unhide HN]; exact unhide HZ) hbel
            rw [unhide HN, errV_1 (unhide HZ)] at this
            exact this
        · go_wp2_with fail
          go_ret2
          obtain rfl : k = n := by omega
          have h1 := unhide HL
          have h2 := unhide HL2
          have h3 := unhide HG
          rw [List.drop_of_length_le (by omega)] at h3
          have h4 : binsE l rs = 0 := by rw [unhide HE, ← h3]; rfl
          have h5 : binsL l rs = List.zipWith binOf l rs := by unfold binsL; rw [if_pos h4]
          rw [List.take_of_length_le (by rw [List.length_zipWith]; omega)] at hown
          refine ⟨_, by rw [h4]; rfl, ?_, hbel⟩
          rw [h5, List.length_zipWith, h1, h2, Nat.min_self]
          exact hown
    · have HE : Hid (binsE l rs = 3) := hide (by unfold binsE; rw [if_pos he, if_neg (by omega)])
      clear hl hl2 he
      go_enter Try.func22, Try.ntmps22
      go_wp2_with fail
      refine (rowCheck_any A n c l _ _ ha hn).mono ?_
      rintro e w' ⟨rfl, rfl⟩
      rw [hv]
      clear hv
      unfold maxLen at hn hm
      go_wp2_with fail
      go_ret2
      have := BinsPost.fault (l := l) (rs := rs) (w := w) (by rw [unhide HE]; decide) (Below.refl _ _)
      rw [unhide HE] at this
      exact this
  · have HE : Hid (binsE l rs = rowE l) := hide (by unfold binsE; rw [if_neg he])
    have HN := hide he
    have hv := errV_1 he
    clear hl hl2 he
    go_enter Try.func22, Try.ntmps22
    go_wp2_with fail
    refine (rowCheck_any A n c l _ _ ha hn).mono ?_
    rintro e w' ⟨rfl, rfl⟩
    rw [hv]
    clear hv
    go_wp2_with fail
    go_ret2
    have := BinsPost.fault (l := l) (rs := rs) (w := w) (by rw [unhide HE]; exact unhide HN) (Below.refl _ _)
    rw [unhide HE, errV_1 (unhide HN)] at this
    exact this
end Go.Proofs.Ytliacpdbeghmlaa
