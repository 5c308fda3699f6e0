/- A Log: how it lies; whole, Calls. Conditions: as each lemma names. -/
import Derived.Test.YtijgiieoinmjhaaDoorCallR
import Derived.Test.YtijgiieoinmjhaaDoorTreeMath
import Derived.Test.YtijgiieoinmjhaaDoorApp
namespace Go.Proofs.YtijgiieoinmjhaaDoor
set_option linter.unusedVariables false
set_option linter.unusedSimpArgs false
open Go.RowKit

/-- a slice's block is one of bytes -/
def BTyp (w : World) (A : Option Addr) : Prop := ∀ a, A = some a → ∃ cs fr, w.heap[a.block]? = some (.cells cs 5 fr)
theorem BTyp.lt {w : World} {A : Option Addr} (h : BTyp w A) : ∀ a, A = some a → a.block < w.heap.size := fun a e => by
  obtain ⟨cs, fr, hc⟩ := h a e
  rcases Nat.lt_or_ge a.block w.heap.size with h1 | h1
  · exact h1
  · rw [Array.getElem?_eq_none h1] at hc; cases hc
theorem BTyp.keep {w w' : World} {A : Option Addr} (h : BTyp w A) (hk : ∀ a, A = some a → w'.heap[a.block]? = w.heap[a.block]?) : BTyp w' A := fun a e => by
  obtain ⟨cs, fr, hc⟩ := h a e
  exact ⟨cs, fr, (hk a e).trans hc⟩
theorem BTyp.ne {w : World} {A : Option Addr} {g : Nat} {t : TypeId} {cs : Array Value} (h : BTyp w A) (hg : Blk w g t cs) (ht : 5 ≠ t) : ∀ a, A = some a → a.block ≠ g := fun a e hh => by
  obtain ⟨cs', fr, hc⟩ := h a e
  rw [hh] at hc
  unfold Blk at hg
  rw [hg] at hc
  injection hc with hc
  injection hc with _ h2
  exact ht h2.symm
theorem BTyp.ne_own {w : World} {A : Option Addr} {base n size : Nat} {e : TypeId} {v : Value} {xs : List Value} (h : BTyp w A) (ho : w.ownsRow base e size v n xs) (ht : 5 ≠ e) : ∀ a, A = some a → v.ownBlock ≠ some a.block := fun a ea hh => by
  obtain ⟨cs', fr, hc⟩ := h a ea
  rcases ho.2 with ⟨rfl, _⟩ | ⟨g, cap, cur, rfl, _, hg, _⟩
  · simp [Value.ownBlock] at hh
  · simp [Value.ownBlock] at hh
    rw [← hh, hg] at hc
    injection hc with hc
    injection hc with _ h2
    exact ht h2.symm
theorem BTyp.of_own {w : World} {A : Option Addr} {base n c : Nat} {xs : List Value} (ho : w.ownsRow base 5 1 (.slice A n c) n xs) : BTyp w A := fun a e => by
  subst e
  rcases ho.2 with ⟨h, _⟩ | ⟨g, cap, cur, h, _, hg, _⟩
  · cases h
  · injection h with h
    injection h with h
    subst h
    exact ⟨_, _, hg⟩
theorem BTyp.none_ (w : World) : BTyp w none := fun a e => by cases e
theorem BTyp.below {w w' : World} {A : Option Addr} {B : Nat} (h : BTyp w A) (hb : Below B w w') (hB : w.heap.size ≤ B) : BTyp w' A := h.keep fun a e => hb.block _ (by have := h.lt a e; omega)
/-- a Log at block g -/
structure LgIs (w : World) (g : Nat) (A : Option Addr) (n c : Nat) (bs : List Int) (safe : Nat) (left : Int) (st : Bool) : Prop where
  blk : Blk w g 101 #[.slice A n c, .int .i64 (safe : Int), .int .i64 left, .bool st]
  reads : BReads w w.heap.size A n bs
  cap : n ≤ c
  ne : ∀ a, A = some a → a.block ≠ g
  nil : A = none → c = 0
  by_ : ∀ x ∈ bs, 0 ≤ x ∧ x < 256
  len : n ≤ 200000
  typ : BTyp w A
/-- a row of calls -/
def CvRow (w : World) (base : Nat) (v : Value) (rs : List Cv) : Prop := w.ownsRow base 53 7 v rs.length (rs.flatMap Cv.cells) ∧ ∀ r ∈ rs, CvOk w w.heap.size r ∧ ∀ a, r.A = some a → 0 < r.n → v.ownBlock ≠ some a.block
theorem elem_call : Elem Tryd.prog 51 53 (.agg #[.int .i64 0, .int .i64 0, .int .i64 0, .string ⟨#[]⟩, .int .i64 0, .int .i64 0, .slice none 0 0]) 7 80 := ⟨Tryd.underlying51, by kernel_rfl, rfl, by omega, by omega⟩
theorem cells_one (r : Cv) : ∀ u ∈ r.cells, u.oneCell' = true := by
  intro u hu
  simp [Cv.cells] at hu
  rcases hu with rfl | rfl | rfl | rfl | rfl | rfl | rfl <;> rfl
theorem recs_drop {cs : List Cl} {j : Nat} {c : Cl} (h : cs[j]? = some c) (t : List Int) : (recs cs ++ t).drop (recs (cs.take j)).length = recB c ++ (recs (cs.drop (j + 1)) ++ t) := by
  have e : recs cs = recs (cs.take j) ++ (recB c ++ recs (cs.drop (j + 1))) := by
    conv => lhs; rw [← List.take_append_drop j cs]
    unfold recs
    rw [List.flatMap_append, drop_at h, List.flatMap_cons]
  rw [e, List.append_assoc, List.drop_left, List.append_assoc]
theorem recs_next {cs : List Cl} {j : Nat} {c : Cl} (h : cs[j]? = some c) : recs (cs.take (j + 1)) = recs (cs.take j) ++ recB c := by
  unfold recs; rw [take_next h, List.flatMap_append]; simp
theorem recs_le (cs : List Cl) (j : Nat) : (recs (cs.take j)).length ≤ (recs cs).length := by
  conv => rhs; rw [← List.take_append_drop j cs]
  unfold recs
  rw [List.flatMap_append, List.length_append]
  omega
theorem recs_many (cs : List Cl) : 7 * cs.length ≤ (recs cs).length := by
  induction cs with
  | nil => simp
  | cons c r ih => rw [recs_cons, List.length_append, List.length_cons]; have := recB_pos c; omega

theorem reads_grown3 {w w1 w' : World} {B n : Nat} {A : Option Addr} {l : List Int} (h : BReads w B A n l) (hB : B ≤ w1.heap.size) (h01 : ∀ p : Addr, p.block < B → w1.cell? p = w.cell? p) {row : Option Nat} (hg : w1.grownBy w' row) (hne : ∀ a, A = some a → 0 < n → row ≠ some a.block) : BReads w' w'.heap.size A n l :=
  ⟨h.1, fun hn => by
    obtain ⟨ad, e, hb, hc⟩ := h.2 hn
    have hsz := hg.size
    refine ⟨ad, e, by omega, fun j u hu => ?_⟩
    rw [← hc j u hu, ← h01 _ (by rw [block_of_add]; exact hb)]
    exact World.cell?_of_block (by rw [block_of_add]; exact hg.block ad.block (by omega) (fun h' => hne ad e hn h'.symm))⟩
theorem meas_log {n a L : Nat} {x : Int} (h : a + L ≤ n) (hL : 7 ≤ L) (hx : x = ((a + L : Nat) : Int)) : n + 1 - x.toNat < n + 1 - (intOf (.int .i64 (a : Int))).toNat := by
  subst hx
  simp only [intOf]
  omega
def WholePost (cs : List Cl) (w : World) (e : Ending) (w' : World) : Prop :=
  ∃ v rs, e = .returned (.tuple #[v, .int .i64 ((recs cs).length : Int)]) ∧ rs.map Cv.c = cs ∧ CvRow w' w.heap.size v rs ∧ Below w.heap.size w w'
set_option maxRecDepth 100000 in
set_option maxHeartbeats 8000000 in
theorem whole_any (g : Nat) (A : Option Addr) (n c : Nat) (cs : List Cl) (tail : List Int) (safe : Nat) (left : Int) (st : Bool) (w : World) (h : LgIs w g A n c (recs cs ++ tail) safe left st) (hg : ∀ x ∈ cs, GoodC x) (ht : nextV tail = none) :
    Calls Tryd.prog 49 #[.pointer (some ⟨g, 0, none⟩)] w (WholePost cs w) := by
  have c0 := h.blk.cell 0
  simp at c0
  have hgl := h.blk.lt
  have hcap := h.cap
  have hn2 := h.len
  have hln := h.reads.len
  have HBY := hide h.by_
  rw [List.length_append] at hln
  go_enter Tryd.func49, Tryd.ntmps49
  go_wp2_with fail
  go_loopw [2, 3] (fun v av wr => ∃ (j a : Nat) (rs : List Cv), j ≤ cs.length ∧ a ≤ n ∧ av = .int .i64 a ∧ Hid (a = (recs (cs.take j)).length) ∧ Hid (rs.map Cv.c = cs.take j) ∧ Hid (CvRow wr w.heap.size v rs) ∧ Below w.heap.size w wr) (fun _ av _ => n + 1 - (intOf av).toNat)
  case atStart => exact ⟨0, 0, [], Nat.zero_le _, Nat.zero_le _, rfl, hide rfl, hide rfl, hide ⟨World.ownsRow_nil _ _ _ _, fun r hr => by cases hr⟩, Below.refl _ _⟩
  case round =>
    obtain ⟨j, a, rs, hj, ha, rfl, HA, HR, HO, hbel⟩ := hrel
    have hsz := hbel.size
    have hcut : BReads wr w.heap.size (if c = a then A else Option.map (fun x => x.add a) A) (n - a) ((recs cs ++ tail).drop a) := by
      have := Reads.cut (k := a) (cap := c) (Reads.below h.reads hbel) ha hcap
      rw [Nat.mul_one, ← List.map_drop] at this
      exact this
    generalize hA2 : (if c = a then A else Option.map (fun x => x.add a) A) = A2 at *
    have c0r := (hbel.cell (p := ⟨g, 0, none⟩) hgl).trans c0
    have hac : a ≤ c := by omega
    have hx := hide (lognext_any A2 (n - a) (c - a) w.heap.size ((recs cs ++ tail).drop a) wr hcut hsz (by omega) (by omega) (fun x hx => unhide HBY x (List.mem_of_mem_drop hx)))
    clear hcut
    by_cases hjn : j < cs.length
    · obtain ⟨x, hxj⟩ : ∃ x, cs[j]? = some x := ⟨_, List.getElem?_eq_getElem hjn⟩
      have hgx := hg x (List.mem_of_getElem? hxj)
      have HNV : Hid (nextV ((recs cs ++ tail).drop a) = some (x, (recB x).length)) := hide (by rw [unhide HA, recs_drop hxj]; exact next_rec x hgx _)
      have HNX := hide (recs_next hxj)
      have HTX := hide (take_next hxj)
      have hle := recs_le cs (j + 1)
      rw [unhide HNX, List.length_append, ← unhide HA] at hle
      have hlp := recB_pos x
      have hlen9 : rs.length < 1000000000 := by
        have e1 := congrArg List.length (unhide HR)
        rw [List.length_map, List.length_take] at e1
        have := recs_many cs
        omega
      obtain ⟨L, hL⟩ : ∃ L, L = (recB x).length := ⟨_, rfl⟩
      rw [← hL] at HNV hle hlp
      have HL := hide hL
      have HAL : Hid (a + L ≤ n) := hide (by omega)
      have HLN := hide hln; have HLE := hide hle; have HL9 := hide hlen9
      clear hxj hL hgx hln hle hlen9
      go_wp2_with fail
      refine (unhide hx).mono ?_
      clear hx
      rintro e w2 ⟨hb2, r, hok, hfr, hpost⟩
      rw [unhide HNV] at hpost
      obtain ⟨hrc, rfl⟩ := hpost
      obtain ⟨rc, rA, rn, rcap⟩ := r
      dsimp only at hrc hfr
      subst hrc
      simp only [Cv.val]
      have hL0 : ((L : Int) == 0) = false := by simp; omega
      have hown2 := own_below (unhide HO).1 hb2
      have hz2 := hb2.size
      have hown3 := hown2.alloc (.cells #[.int .i64 rc.what, .int .i64 rc.ses, .int .i64 rc.seq, .string rc.name, .int .i64 rc.num, .int .i64 rc.share, .slice rA rn rcap] 53)
      have HOK : Hid (∀ r ∈ rs ++ [(⟨rc, rA, rn, rcap⟩ : Cv)], CvOk w2 w2.heap.size r ∧ ∀ a, r.A = some a → 0 < r.n → u2.ownBlock ≠ some a.block) := hide (fun r hr => by
        rcases List.mem_append.1 hr with h1 | h1
        · have := (unhide HO).2 r h1
          exact ⟨(this.1.below hb2).more hz2, this.2⟩
        · rw [List.mem_singleton.1 h1]
          exact ⟨hok, fun a e _ hh => by have := hfr a e; have := ((unhide HO).1.lt _ hh).2; omega⟩)
      have HR2 : Hid ((rs ++ [(⟨rc, rA, rn, rcap⟩ : Cv)]).map Cv.c = cs.take (j + 1)) := hide (by rw [List.map_append, unhide HR, unhide HTX]; rfl)
      clear HO HR HTX hok hown2
      have hl9 := unhide HL9
      have haL := unhide HAL
      clear hA2 hac hcap
      go_wp2_with (at_builtin; refine app_one2 elem_call (.tmp 20) (.tmp 22) (Cv.cells ⟨rc, rA, rn, rcap⟩) rfl rfl rfl hown3 rfl (by rw [World.size_alloc]) rfl (cells_one ⟨rc, rA, rn, rcap⟩) hl9 (by rw [World.size_alloc]; omega) ?_; intro v4 w4 hown4 hb4 hg4 hn4)
      have HC4 : Hid (CvRow w4 w.heap.size v4 (rs ++ [(⟨rc, rA, rn, rcap⟩ : Cv)])) := hide ⟨by rw [List.length_append, List.flatMap_append]; simpa using hown4, fun r hr => by
        obtain ⟨q1, q2⟩ := unhide HOK r hr
        have hsz4 := hg4.size
        rw [World.size_alloc] at hsz4
        refine ⟨⟨?_, q1.len, q1.cap, q1.nil⟩, fun a e h0 hh => ?_⟩
        · exact reads_grown3 q1.reads (by rw [World.size_alloc]; omega) (fun p hp => World.cell?_alloc_lt w2 _ p hp) hg4 (fun a e h0 => q2 a e h0)
        · rcases hn4 with h1 | h1
          · rw [h1] at hh; exact q2 a e h0 hh
          · rw [h1] at hh
            injection hh with hh
            obtain ⟨ad, e', hb, _⟩ := q1.reads.2 h0
            rw [e] at e'; injection e' with e'; subst e'
            rw [World.size_alloc] at hh
            omega⟩
      have hbel4 := hbel.trans (hb2.mono hsz)
      have hbel5 : Below w.heap.size w w4 := hbel4.trans (((Below.refl _ w2).alloc (by omega) _).trans hb4)
      clear hown4 hown3 HOK hg4 hn4
      go_roundw
      case rel => exact ⟨j + 1, a + L, rs ++ [(⟨rc, rA, rn, rcap⟩ : Cv)], by omega, by have := unhide HAL; omega, by go_num, hide (by rw [unhide HNX, List.length_append, ← unhide HA, ← unhide HL]), HR2, HC4, hbel5⟩
      case measure => exact meas_log (unhide HAL) hlp (by go_num)
    · obtain rfl : j = cs.length := by omega
      have hat : a = (recs cs).length := by rw [unhide HA, List.take_length]
      have HNV : Hid (nextV ((recs cs ++ tail).drop a) = none) := hide (by rw [hat, List.drop_left]; exact ht)
      have HAT := hide hat
      clear hat hln
      go_wp2_with fail
      refine (unhide hx).mono ?_
      clear hx
      rintro e w2 ⟨hb2, r, hok, hfr, hpost⟩
      rw [unhide HNV] at hpost
      obtain ⟨rfl, rfl⟩ := hpost
      simp only [Cv.val, zeroCv]
      have hz2 := hb2.size
      have HO2 : Hid (CvRow (w2.alloc (.cells #[.int .i64 0, .int .i64 0, .int .i64 0, .string ⟨#[]⟩, .int .i64 0, .int .i64 0, .slice none 0 0] 53)) w.heap.size u2 rs) := hide ⟨(own_below (unhide HO).1 hb2).alloc _, fun r hr => by
        have := (unhide HO).2 r hr
        refine ⟨?_, this.2⟩
        have h1 := (this.1.below hb2).more hz2
        exact (h1.below ((Below.refl _ w2).alloc (Nat.le_refl _) _)).more (by rw [World.size_alloc]; omega)⟩
      have hbel2 := (hbel.trans (hb2.mono hsz)).alloc (by omega) (.cells #[.int .i64 0, .int .i64 0, .int .i64 0, .string ⟨#[]⟩, .int .i64 0, .int .i64 0, .slice none 0 0] 53)
      go_wp2_with fail
      go_ret2
      exact ⟨_, rs, by rw [← unhide HAT]; rfl, by rw [unhide HR, List.take_length], unhide HO2, hbel2⟩
end Go.Proofs.YtijgiieoinmjhaaDoor
