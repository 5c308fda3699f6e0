/- cut.At (a binary search) and row.Bins. Conditions: cuts that rise; as each lemma names. -/
import Derived.Test.YtliacpdbeghmlaaRow2
namespace Go.Proofs.Ytliacpdbeghmlaa
set_option linter.unusedVariables false
set_option linter.unusedSimpArgs false
open Go.RowKit

def binN (l : List Int) (x : Int) : Nat := (l.filter fun c => decide (c ≤ x)).length
theorem binN_at {l : List Int} {x : Int} (i : Nat) (h1 : ∀ (p : Nat) a, l[p]? = some a → p < i → a ≤ x) (h2 : ∀ (p : Nat) a, l[p]? = some a → i ≤ p → x < a) (hi : i ≤ l.length) : binN l x = i := by
  unfold binN
  conv => lhs; rw [← List.take_append_drop i l]
  rw [List.filter_append, List.filter_eq_self.2, List.filter_eq_nil_iff.2]
  · simp; omega
  · intro a ha
    obtain ⟨p, hp⟩ := List.mem_iff_getElem?.1 ha
    rw [List.getElem?_drop] at hp
    have := h2 _ a hp (by omega)
    simp; omega
  · intro a ha
    obtain ⟨p, hp⟩ := List.mem_iff_getElem?.1 ha
    have hpi : p < i := by
      have := (List.getElem?_eq_some_iff.1 hp).1
      simp at this; omega
    rw [List.getElem?_take_of_lt hpi] at hp
    have := h1 _ a hp hpi
    simp; omega

def rises (l : List Int) : Prop := ∀ (p q : Nat) a b, p < q → l[p]? = some a → l[q]? = some b → a < b
theorem cutFrom_rises : ∀ (l : List Int) (p : Option Int), cutFrom p l = 0 → (∀ c ∈ l, cellB c = true) ∧ (∀ q, p = some q → ∀ c ∈ l, q < c) ∧ l.Pairwise (· < ·) := by
  intro l
  induction l with
  | nil => intro p _; simp
  | cons c r ih =>
    intro p h
    rw [cutFrom] at h
    by_cases h1 : cellB c = false
    · rw [if_pos h1] at h; cases h
    · rw [if_neg h1] at h
      by_cases h2 : flat p c = true
      · rw [if_pos h2] at h; cases h
      · rw [if_neg h2] at h
        obtain ⟨a1, a2, a3⟩ := ih (some c) h
        have hc : cellB c = true := by cases hb : cellB c <;> simp_all
        refine ⟨?_, ?_, ?_⟩
        · intro x hx
          rcases List.mem_cons.1 hx with rfl | hx
          · exact hc
          · exact a1 x hx
        · rintro q rfl x hx
          have hq : q < c := by simp [flat] at h2; omega
          rcases List.mem_cons.1 hx with rfl | hx
          · exact hq
          · have := a2 c rfl x hx; omega
        · exact List.pairwise_cons.2 ⟨fun x hx => a2 c rfl x hx, a3⟩
theorem cutE_rises {l : List Int} (h : cutE l = 0) : rises l ∧ (∀ c ∈ l, cellB c = true) ∧ l.length ≤ 60 := by
  unfold cutE at h
  split at h
  · cases h
  · obtain ⟨a1, _, a3⟩ := cutFrom_rises l none h
    refine ⟨?_, a1, by omega⟩
    intro p q a b hpq hp hq
    obtain ⟨hp', rfl⟩ := List.getElem?_eq_some_iff.1 hp
    obtain ⟨hq', rfl⟩ := List.getElem?_eq_some_iff.1 hq
    exact List.pairwise_iff_getElem.1 a3 p q hp' hq' hpq

def Lo (l : List Int) (x : Int) (i : Nat) : Prop := ∀ (p : Nat) a, l[p]? = some a → p < i → a < x
def Hi (l : List Int) (x : Int) (j : Nat) : Prop := ∀ (p : Nat) a, l[p]? = some a → j ≤ p → x ≤ a
theorem Lo_step {l : List Int} {x y : Int} {m : Nat} (hr : rises l) (hm : l[m]? = some y) (h : y < x) : Lo l x (m + 1) := by
  intro p a hp hpm
  rcases Nat.lt_or_ge p m with hlt | hge
  · have := hr p m a y hlt hp hm; omega
  · have : p = m := by omega
    subst this
    rw [hm] at hp; injection hp with hp; omega
theorem Hi_step {l : List Int} {x y : Int} {m : Nat} (hr : rises l) (hm : l[m]? = some y) (h : x ≤ y) : Hi l x m := by
  intro p a hp hpm
  rcases Nat.lt_or_ge m p with hlt | hge
  · have := hr m p y a hlt hm hp; omega
  · have : p = m := by omega
    subst this
    rw [hm] at hp; injection hp with hp; omega

set_option maxHeartbeats 800000 in
theorem search_any (A : Option Addr) (n c : Nat) (l : List Int) (x : Int) (w : World) (B : Nat) (ha : IReads w B A n l) (hn : n ≤ 60) (hr : rises l) :
    Calls Try.prog 66 #[.slice A n c, .int .i64 x] w fun e w' => ∃ i : Nat, i ≤ n ∧ Lo l x i ∧ Hi l x i ∧ e = .returned (.tuple #[.int .i64 i, .bool (l[i]? == some x)]) ∧ w = w' := by
  have HR := hide hr
  clear hr
  go_enter Try.func66, Try.ntmps66
  go_wp2
  go_loop [7, 8] (fun lo hi => ∃ i j : Nat, i ≤ j ∧ j ≤ n ∧ lo = .int .i64 i ∧ hi = .int .i64 j ∧ Hid (Lo l x i ∧ Hi l x j)) (fun lo hi => (intOf hi).toNat - (intOf lo).toNat)
  case atStart => exact ⟨0, n, by omega, by omega, rfl, rfl, hide ⟨fun p a _ h => by omega, fun p a hp h => by have := (List.getElem?_eq_some_iff.1 hp).1; have := ha.len; omega⟩⟩
  case round =>
    obtain ⟨i, j, hij, hj, rfl, rfl, HG⟩ := hrel
    by_cases hlt : i < j
    · obtain ⟨b, o, y, rfl, _, hy, hcy⟩ := ha.get (k := (i + j) / 2) (by omega)
      have HY := hide hy
      clear hy
      by_cases hxy : y < x
      · go_wp2
        go_round
        case rel => exact ⟨(i + j) / 2 + 1, j, by omega, by omega, by go_num, rfl, hide ⟨Lo_step (unhide HR) (unhide HY) hxy, (unhide HG).2⟩⟩
        case measure => simp [intOf]; omega
      · go_wp2
        go_round
        case rel => exact ⟨i, (i + j) / 2, by omega, by omega, rfl, by go_num, hide ⟨(unhide HG).1, Hi_step (unhide HR) (unhide HY) (by omega)⟩⟩
        case measure => simp [intOf]; omega
    · obtain rfl : i = j := by omega
      by_cases hin : i < n
      · obtain ⟨b, o, y, rfl, _, hy, hcy⟩ := ha.get (k := i) hin
        by_cases hxy : y = x
        · subst hxy
          have HB : Hid ((l[i]? == some y) = true) := hide (by rw [hy]; simp)
          clear hy
          go_wp2
          go_ret2
          exact ⟨i, by omega, (unhide HG).1, (unhide HG).2, by rw [unhide HB]; rfl, rfl⟩
        · have HB : Hid ((l[i]? == some x) = false) := hide (by rw [hy]; simpa using hxy)
          have hyx : (y == x) = false := by simpa using hxy
          clear hy
          go_wp2
          go_ret2
          exact ⟨i, by omega, (unhide HG).1, (unhide HG).2, by rw [unhide HB]; rfl, rfl⟩
      · have HB : Hid ((l[i]? == some x) = false) := hide (by rw [List.getElem?_eq_none (by have := ha.len; omega)]; rfl)
        go_wp2
        go_ret2
        exact ⟨i, by omega, (unhide HG).1, (unhide HG).2, by rw [unhide HB]; rfl, rfl⟩

theorem at_any (A : Option Addr) (n c : Nat) (l : List Int) (x : Int) (w : World) (B : Nat) (ha : IReads w B A n l) (hn : n ≤ 60) (hr : rises l) :
    Calls Try.prog 43 #[.slice A n c, .int .i64 x] w fun e w' => e = .returned (.int .i64 (binN l x)) ∧ w = w' := by
  have HR := hide hr
  clear hr
  go_enter Try.func43, Try.ntmps43
  go_wp2_with fail
  refine (search_any A n c l x _ _ ha hn (unhide HR)).mono ?_
  rintro e w' ⟨i, hi, h1, h2, rfl, rfl⟩
  have hl := ha.len
  cases hb : l[i]? == some x
  · have HN : Hid (binN l x = i) := hide (binN_at i (fun p a hp hpi => by have := h1 p a hp hpi; omega) (fun p a hp hpi => by
      have := h2 p a hp hpi
      rcases Nat.lt_or_ge i p with hlt | hge
      · have hil : i < l.length := by have := (List.getElem?_eq_some_iff.1 hp).1; omega
        have h3 := (unhide HR) i p _ a hlt (List.getElem?_eq_getElem hil) hp
        have h4 := h2 i _ (List.getElem?_eq_getElem hil) (Nat.le_refl _)
        omega
      · obtain rfl : p = i := by omega
        rw [hp] at hb
        have : a ≠ x := by simpa using hb
        omega) (by omega))
    clear hb h1 h2 hl
    go_wp2_with fail
    go_ret
    exact ⟨by rw [unhide HN]; rfl, rfl⟩
  · have he : l[i]? = some x := by simpa using hb
    have HN : Hid (binN l x = i + 1) := hide (binN_at (i + 1) (fun p a hp hpi => by
      rcases Nat.lt_or_ge p i with hlt | hge
      · have := h1 p a hp hlt; omega
      · obtain rfl : p = i := by omega
        rw [hp] at he; injection he with he; omega) (fun p a hp hpi => (unhide HR) i p x a (by omega) he hp) (by have := (List.getElem?_eq_some_iff.1 he).1; omega))
    clear hb h1 h2 hl he
    go_wp2_with fail
    go_ret
    exact ⟨by rw [unhide HN]; exact ret_int (by simp), rfl⟩

/-! ### row.Bins -/
structure Rw where
  A : Option Addr
  n : Nat
  c : Nat
  l : List Int
def Rw.val (r : Rw) : Value := .slice r.A r.n r.c
def RReads (w : World) (B : Nat) (A : Option Addr) (n : Nat) (rs : List Rw) : Prop := Reads w B 1 A n (rs.map Rw.val) ∧ ∀ r ∈ rs, IReads w B r.A r.n r.l ∧ r.n ≤ maxLen
theorem RReads.below {w w' : World} {B n : Nat} {A : Option Addr} {rs : List Rw} (h : RReads w B A n rs) (hb : Below B w w') : RReads w' B A n rs :=
  ⟨h.1.below hb, fun r hr => ⟨(h.2 r hr).1.below hb, (h.2 r hr).2⟩⟩
theorem RReads.len {w : World} {B n : Nat} {A : Option Addr} {rs : List Rw} (h : RReads w B A n rs) : rs.length = n := by have := h.1.1; simpa using this
theorem RReads.get {w : World} {B n : Nat} {A : Option Addr} {rs : List Rw} (h : RReads w B A n rs) {k : Nat} (hk : k < n) :
    ∃ b off r, A = some ⟨b, off, none⟩ ∧ b < B ∧ rs[k]? = some r ∧ w.cell? ⟨b, off + k, none⟩ = some (.slice r.A r.n r.c) ∧ IReads w B r.A r.n r.l ∧ r.n ≤ maxLen := by
  obtain ⟨b, off, rfl, hb, hc⟩ := Reads.spot h.1 (by omega) (by omega)
  have hl : k < rs.length := by rw [h.len]; exact hk
  have hr : rs[k]? = some rs[k] := List.getElem?_eq_getElem hl
  have := h.2 _ (List.mem_of_getElem? hr)
  exact ⟨b, off, rs[k], rfl, hb, hr, hc k _ (by simp [hl, Rw.val]), this.1, this.2⟩

def firstE : List Rw → Int
  | [] => 0
  | x :: r => if cutE x.l = 0 then firstE r else cutE x.l
def binsE (l : List Int) (rs : List Rw) : Int := if rowE l = 0 then (if l.length = rs.length then firstE rs else 3) else rowE l
def binOf (c : Int) (r : Rw) : Int := if c = -1125899906842624 then c else (binN r.l c : Int)
def binsL (l : List Int) (rs : List Rw) : List Int := if binsE l rs = 0 then List.zipWith binOf l rs else []
/-- what row.Bins answers: a list, or nil and what is wrong -/
def BinsPost (l : List Int) (rs : List Rw) (w : World) (e : Ending) (w' : World) : Prop :=
  ∃ v, e = .returned (.tuple #[v, errV (binsE l rs)]) ∧ w'.ownsRow w.heap.size 3 1 v (binsL l rs).length ((binsL l rs).map (Value.int .i64)) ∧ Below w.heap.size w w'

theorem elem_int : Elem Try.prog 26 3 (.int .i64 0) 1 8 := ⟨Try.underlying26, by kernel_rfl, rfl, by omega, by omega⟩

theorem zipWith_at {α β γ : Type} (f : α → β → γ) {l : List α} {s : List β} {k : Nat} {x : α} {y : β} (hx : l[k]? = some x) (hy : s[k]? = some y) : (List.zipWith f l s)[k]? = some (f x y) := by
  rw [List.getElem?_zipWith, hx, hy]
theorem first_bad {rs : List Rw} {k : Nat} {r : Rw} (h : rs[k]? = some r) (hf : firstE (rs.drop k) = firstE rs) (hr : cutE r.l ≠ 0) : firstE rs = cutE r.l := by
  rw [← hf, drop_at h, firstE, if_neg hr]
theorem first_ok {rs : List Rw} {k : Nat} {r : Rw} (h : rs[k]? = some r) (hf : firstE (rs.drop k) = firstE rs) (hr : cutE r.l = 0) : firstE (rs.drop (k + 1)) = firstE rs := by
  rw [← hf, drop_at h, firstE, if_pos hr]
theorem bins_err {l : List Int} {rs : List Rw} (h : binsE l rs ≠ 0) : binsL l rs = [] := by unfold binsL; rw [if_neg h]
theorem BinsPost.fault {l : List Int} {rs : List Rw} {w w' : World} (h : binsE l rs ≠ 0) (hb : Below w.heap.size w w') : BinsPost l rs w (.returned (.tuple #[.slice none 0 0, errV (binsE l rs)])) w' :=
  ⟨_, rfl, by rw [bins_err h]; exact World.ownsRow_nil _ _ _ _, hb⟩

theorem take_map_next {l : List Int} {k : Nat} {x : Int} (h : l[k]? = some x) : (l.take k).map (Value.int .i64) ++ [.int .i64 x] = (l.take (k + 1)).map (Value.int .i64) := by
  rw [take_next h]; simp
set_option maxHeartbeats 1000000 in
theorem bins_any (A C : Option Addr) (n c m d : Nat) (l : List Int) (rs : List Rw) (w : World) (ha : IReads w w.heap.size A n l) (hs : RReads w w.heap.size C m rs) (hn : n ≤ maxLen) (hm : m ≤ maxLen) :
    Calls Try.prog 22 #[.slice A n c, .slice C m d] w (BinsPost l rs w) := by
  have hl := ha.len
  have hl2 := hs.len
  by_cases he : rowE l = 0
  · have hv := errV_0 he
    have h8 : n ≤ 8 := by unfold rowE at he; split at he; cases he; omega
    by_cases hnm : n = m
    · subst hnm
      have HE : Hid (binsE l rs = firstE rs) := hide (by unfold binsE; rw [if_pos he, if_pos (by omega)])
      have HL := hide hl
      have HL2 := hide hl2
      clear hl hl2 he
      go_enter Try.func22, Try.ntmps22
      go_wp2_with fail
      refine (rowCheck_any A n c l _ _ ha hn).mono ?_
      rintro e w' ⟨rfl, rfl⟩
      rw [hv]
      clear hv
      go_wp2_with fail
      go_loopw [7, 24] (fun v i wr => ∃ k : Nat, k ≤ n ∧ i = .int .i64 k ∧ Hid (firstE (rs.drop k) = firstE rs) ∧ wr.ownsRow w.heap.size 3 1 v k (((List.zipWith binOf l rs).take k).map (Value.int .i64)) ∧ Below w.heap.size w wr) (fun _ i _ => n - (intOf i).toNat)
      case atStart => exact ⟨0, Nat.zero_le _, rfl, hide (by simp), World.ownsRow_nil _ _ _ _, Below.refl _ _⟩
      case round =>
        obtain ⟨k, hk, rfl, HG, hown, hbel⟩ := hrel
        have hsz := hbel.size
        by_cases hlt : k < n
        · obtain ⟨b, o, x, rfl, _, hx, hcx⟩ := (ha.below hbel).get hlt
          obtain ⟨b2, o2, r, rfl, _, hy, hcy, hr, hrn⟩ := (hs.below hbel).get hlt
          have HX := hide hx
          have HY := hide hy
          clear hx hy
          by_cases hc0 : cutE r.l = 0
          · have hv := errV_0 hc0
            obtain ⟨hrise, _, h60⟩ := cutE_rises hc0
            have hrl := hr.len
            have HZ := hide hc0
            have HRI := hide hrise
            have h60' : r.n ≤ 60 := by omega
            have HQ := hide (zipWith_at binOf (unhide HX) (unhide HY))
            clear hc0 hrise hrl
            go_wp2_with fail
            refine (cutCheck_any r.A r.n r.c r.l _ _ hr hrn).mono ?_
            rintro e w' ⟨rfl, rfl⟩
            rw [hv]
            clear hv
            by_cases hnil : x = -1125899906842624
            · have HB : Hid (binOf x r = x) := hide (by unfold binOf; rw [if_pos hnil])
              rw [unhide HB] at HQ
              subst hnil
              go_wp2_with (at_builtin; refine app_one elem_int (.tmp 45) (.tmp 47) [.int .i64 (-1125899906842624)] rfl rfl rfl hown rfl rfl rfl (ints_oneCell .i64 [-1125899906842624]) (by omega) hsz ?_; intro v' w1 hown1 hb1 _ _)
              have hown2 := take_map_next (unhide HQ) ▸ hown1
              clear hown1
              go_wp2
              go_roundw
              case rel => exact ⟨k + 1, by omega, by go_num, hide (first_ok (unhide HY) (unhide HG) (unhide HZ)), hown2, hbel.trans hb1⟩
              case measure => simp [intOf]; omega
            · have HB : Hid (binOf x r = binN r.l x) := hide (by unfold binOf; rw [if_neg hnil])
              rw [unhide HB] at HQ
              go_wp2_with fail
              refine (at_any r.A r.n r.c r.l x _ _ hr h60' (unhide HRI)).mono ?_
              rintro e w' ⟨rfl, rfl⟩
              go_wp2_with (at_builtin; refine app_one elem_int (.tmp 45) (.tmp 47) [.int .i64 (binN r.l x)] rfl rfl rfl hown rfl rfl rfl (ints_oneCell .i64 [(binN r.l x : Int)]) (by omega) hsz ?_; intro v' w1 hown1 hb1 _ _)
              have hown2 := take_map_next (unhide HQ) ▸ hown1
              clear hown1
              go_wp2
              go_roundw
              case rel => exact ⟨k + 1, by omega, by go_num, hide (first_ok (unhide HY) (unhide HG) (unhide HZ)), hown2, hbel.trans hb1⟩
              case measure => simp [intOf]; omega
          · have HN : Hid (binsE l rs = cutE r.l) := hide (by rw [unhide HE]; exact first_bad (unhide HY) (unhide HG) hc0)
            have HZ := hide hc0
            have hv := errV_1 hc0
            clear hc0
            go_wp2_with fail
            refine (cutCheck_any r.A r.n r.c r.l _ _ hr hrn).mono ?_
            rintro e w' ⟨rfl, rfl⟩
            rw [hv]
            clear hv
            go_wp2_with fail
            go_ret2
            have := BinsPost.fault (l := l) (rs := rs) (w := w) (by rw [unhide HN]; exact unhide HZ) hbel
            rw [unhide HN, errV_1 (unhide HZ)] at this
            exact this
        · go_wp2_with fail
          go_ret2
          obtain rfl : k = n := by omega
          have h1 := unhide HL
          have h2 := unhide HL2
          have h3 := unhide HG
          rw [List.drop_of_length_le (by omega)] at h3
          have h4 : binsE l rs = 0 := by rw [unhide HE, ← h3]; rfl
          have h5 : binsL l rs = List.zipWith binOf l rs := by unfold binsL; rw [if_pos h4]
          rw [List.take_of_length_le (by rw [List.length_zipWith]; omega)] at hown
          refine ⟨_, by rw [h4]; rfl, ?_, hbel⟩
          rw [h5, List.length_zipWith, h1, h2, Nat.min_self]
          exact hown
    · have HE : Hid (binsE l rs = 3) := hide (by unfold binsE; rw [if_pos he, if_neg (by omega)])
      clear hl hl2 he
      go_enter Try.func22, Try.ntmps22
      go_wp2_with fail
      refine (rowCheck_any A n c l _ _ ha hn).mono ?_
      rintro e w' ⟨rfl, rfl⟩
      rw [hv]
      clear hv
      unfold maxLen at hn hm
      go_wp2_with fail
      go_ret2
      have := BinsPost.fault (l := l) (rs := rs) (w := w) (by rw [unhide HE]; decide) (Below.refl _ _)
      rw [unhide HE] at this
      exact this
  · have HE : Hid (binsE l rs = rowE l) := hide (by unfold binsE; rw [if_neg he])
    have HN := hide he
    have hv := errV_1 he
    clear hl hl2 he
    go_enter Try.func22, Try.ntmps22
    go_wp2_with fail
    refine (rowCheck_any A n c l _ _ ha hn).mono ?_
    rintro e w' ⟨rfl, rfl⟩
    rw [hv]
    clear hv
    go_wp2_with fail
    go_ret2
    have := BinsPost.fault (l := l) (rs := rs) (w := w) (by rw [unhide HE]; exact unhide HN) (Below.refl _ _)
    rw [unhide HE, errV_1 (unhide HN)] at this
    exact this
end Go.Proofs.Ytliacpdbeghmlaa
