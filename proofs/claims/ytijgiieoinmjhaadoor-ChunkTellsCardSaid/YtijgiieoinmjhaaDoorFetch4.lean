/- chunk: Put of any piece, Bytes of any Fetch. Conditions: a Fetch as it was made and put. -/
import Derived.Test.YtijgiieoinmjhaaDoorFetch3
import Derived.Test.YtijgiieoinmjhaaDoorChunkBackQ
namespace Go.Proofs.YtijgiieoinmjhaaDoor
set_option linter.unusedVariables false
set_option linter.unusedSimpArgs false
open Go.RowKit Go.Maps

/-- is a piece that is put a new one? -/
def putN (l : List Pt) (S : List (Option (List Int))) (i : Int) (bs : List Int) : Bool := decide (putE l i bs = 0) && decide (S[i.toNat]? = some none)
/-- what is there behind a Put -/
def putS (l : List Pt) (S : List (Option (List Int))) (i : Int) (bs : List Int) : List (Option (List Int)) := if putN l S i bs = true then S.set i.toNat (some bs) else S
theorem putE_out {l : List Pt} {i : Int} {bs : List Int} (h : i < 0 ∨ (l.length : Int) ≤ i) : putE l i bs = 1 := by
  unfold putE
  by_cases h0 : i < 0
  · rw [if_pos h0]
  · rw [if_neg h0, if_pos (by omega)]
theorem putE_in {l : List Pt} {i : Nat} {bs : List Int} {p : Pt} (h : l[i]? = some p) : putE l i bs = if (bs.length : Int) = p.size then (if sumV bs = p.sum then 0 else 3) else 3 := by
  have := (List.getElem?_eq_some_iff.1 h).1
  unfold putE
  rw [if_neg (by omega), if_neg (by omega), Int.toNat_natCast, h]

/-- all but one block is as it was; no cell has changed -/
def KeepBut (b : Nat) (w w' : World) : Prop := (∀ g, g < w.heap.size → g ≠ b → w'.heap[g]? = w.heap[g]?) ∧ (∀ p : Addr, p.block < w.heap.size → w'.cell? p = w.cell? p) ∧ w.heap.size ≤ w'.heap.size
theorem KeepBut.refl (b : Nat) (w : World) : KeepBut b w w := ⟨fun _ _ _ => rfl, fun _ _ => rfl, Nat.le_refl _⟩
theorem KeepBut.of_below {b : Nat} {w w' : World} (h : Below w.heap.size w w') : KeepBut b w w' := ⟨fun g hg _ => h.block g hg, fun p hp => h.cell hp, h.size⟩
def PutPost (g b : Nat) (l : List Pt) (S : List (Option (List Int))) (A : Option Addr) (c B2 : Nat) (i : Int) (bs : List Int) (w : World) (e : Ending) (w' : World) : Prop :=
  e = .returned (.tuple #[.bool (putN l S i bs), errV (putE l i bs)]) ∧ (∃ nn D, FetchIs w' g b l (putS l S i bs) A c nn D ∧ nn = there (putS l S i bs)) ∧ Below B2 w w' ∧ KeepBut b w w'

theorem put_any (g b : Nat) (l : List Pt) (S : List (Option (List Int))) (A : Option Addr) (c nn B2 : Nat) (D : DataW Value) (i : Int) (Ab : Option Addr) (nb cb : Nat) (bs : List Int) (w : World) (hF : FetchIs w g b l S A c nn D) (hnn : nn = there S)
    (hr : BReads w w.heap.size Ab nb bs) (hn : nb ≤ maxLen) (hby : ∀ x ∈ bs, 0 ≤ x ∧ x < 256) (hA : Ab = none → cb = 0) (hl6 : ∀ p ∈ l, p.size ≤ 6000) (hB2 : B2 ≤ w.heap.size) (hbge : B2 ≤ b) :
    Calls Tryd.prog 11 #[.pointer (some ⟨g, 0, none⟩), .int .i64 i, .slice Ab nb cb] w (PutPost g b l S A c B2 i bs w) := by
  have hbl : bs.length = nb := by have := hr.len; exact this
  by_cases h0 : i < 0 ∨ (l.length : Int) ≤ i
  · refine (put_range g b l S A c nn D i Ab nb cb bs w hF h0).mono ?_
    rintro e w' ⟨rfl, rfl⟩
    have e1 := putE_out (bs := bs) h0
    have e2 : putN l S i bs = false := by simp [putN, e1]
    unfold PutPost putS
    rw [e2, e1]
    exact ⟨rfl, ⟨nn, D, by simpa using hF, by simpa using hnn⟩, Below.refl _ _, KeepBut.refl _ _⟩
  · obtain ⟨k, rfl⟩ : ∃ k : Nat, i = k := ⟨i.toNat, by omega⟩
    obtain ⟨p, hp⟩ : ∃ p, l[k]? = some p := ⟨_, List.getElem?_eq_getElem (by omega)⟩
    have e1 := putE_in (bs := bs) hp
    by_cases h1 : (nb : Int) = p.size ∧ sumV bs = p.sum
    · have e2 : putE l k bs = 0 := by rw [e1, if_pos (by rw [hbl]; exact h1.1), if_pos h1.2]
      obtain ⟨o, ho⟩ : ∃ o, S[k]? = some o := ⟨_, List.getElem?_eq_getElem (by rw [hF.len]; omega)⟩
      cases o with
      | some old =>
        refine (put_again g b l S A c nn D k Ab nb cb bs old p w hF hp hr hn hby h1.1 h1.2 ho).mono ?_
        rintro e w' ⟨rfl, hb⟩
        have e3 : putN l S k bs = false := by simp [putN, ho]
        unfold PutPost putS
        rw [e3, e2]
        exact ⟨rfl, ⟨nn, D, by simpa using hF.below hb (Nat.le_refl _), by simpa using hnn⟩, hb.mono hB2, KeepBut.of_below hb⟩
      | none =>
        have hp6 := hl6 p (List.mem_of_getElem? hp)
        refine (put_new g b l S A c nn D k Ab nb cb bs p w hF hp hr (by omega) hby h1.1 h1.2 ho hA (by rw [hnn]; have := there_le S; have := hF.len; have := hF.cap; omega)).mono ?_
        rintro e w' ⟨rfl, ⟨D', h1'⟩, hgr, hcl⟩
        have e3 : putN l S k bs = true := by simp [putN, ho, e2]
        unfold PutPost putS
        rw [e3, e2]
        refine ⟨rfl, ⟨nn + 1, D', by simpa using h1', ?_⟩, below_of_grown hgr hB2 hbge, fun g hg hne => hgr.block g hg (fun e => hne (by injection e)), hcl, hgr.size⟩
        simp [there_set ho, hnn]
    · have e2 : putE l k bs = 3 := by
        rw [e1]
        by_cases h2 : (bs.length : Int) = p.size
        · rw [if_pos h2, if_neg (fun h3 => h1 ⟨by rw [← hbl]; exact h2, h3⟩)]
        · rw [if_neg h2]
      refine (put_shape g b l S A c nn D k Ab nb cb bs p w hF hp hr hn hby (by
        by_cases h2 : (nb : Int) = p.size
        · exact .inr fun h3 => h1 ⟨h2, h3⟩
        · exact .inl h2)).mono ?_
      rintro e w' ⟨rfl, hb⟩
      have e3 : putN l S k bs = false := by simp [putN, e2]
      unfold PutPost putS
      rw [e3, e2]
      exact ⟨rfl, ⟨nn, D, by simpa using hF.below hb (Nat.le_refl _), by simpa using hnn⟩, hb.mono hB2, KeepBut.of_below hb⟩

/-- what Bytes answers: the fault, the bytes -/
def byE (S : List (Option (List Int))) : Int := if there S < S.length then 5 else 0
def byL (S : List (Option (List Int))) : List Int := if there S < S.length then [] else bytesOf S
def ByAny (S : List (Option (List Int))) (w : World) (e : Ending) (w' : World) : Prop := ∃ v, e = .returned (.tuple #[v, errV (byE S)]) ∧ w'.ownsRow w.heap.size 5 1 v (byL S).length ((byL S).map (Value.int .u8)) ∧ Below w.heap.size w w'
set_option maxRecDepth 100000 in
theorem bytes_any (g b : Nat) (l : List Pt) (S : List (Option (List Int))) (A : Option Addr) (c nn : Nat) (D : DataW Value) (w : World) (hF : FetchIs w g b l S A c nn D) :
    Calls Tryd.prog 13 #[.pointer (some ⟨g, 0, none⟩)] w (ByAny S w) := by
  have hlen := hF.len
  by_cases hall : there S < S.length
  · have E1 : Hid (byE S = 5) := hide (by unfold byE; rw [if_pos hall])
    have E2 : Hid (byL S = []) := hide (by unfold byL; rw [if_pos hall])
    have c0 := hF.blk.cell 0
    have c1 := hF.blk.cell 1
    simp at c0 c1
    have hcap := hF.cap
    have hmap := hF.map.own
    have hsz := hF.size
    have hlt : decide (((there S : Nat) : Int) < (l.length : Int)) = true := by simp; omega
    go_enter Tryd.func13, Tryd.ntmps13
    go_wp2_with fail
    refine wp_region_quiet_lit (by kernel_rfl) (by kernel_rfl) ?_
    repeat (go_big_quiet_step (fail))
    refine BigFrame.wpQuiet_want (by kernel_rfl) fun K hK => quiet_len_own rfl Tryd.underlying94 rfl (fun W hW => by obtain ⟨q, rfl⟩ := hW; exact hmap) (hK _ ?_)
    clear hK
    rw [hsz]
    simp [Act.put]
    repeat (go_big_quiet_step (fail))
    refine wpQuiet_nil ?_
    intro nq
    clear K
    have hbq : Below w.heap.size w (w.drewN nq) := below_drewN (Below.refl _ _) _
    generalize w.drewN nq = W at *
    clear c0 c1 hmap hsz
    go_wp2_with fail
    go_ret2
    exact ⟨_, by rw [unhide E1]; rfl, by rw [unhide E2]; exact World.ownsRow_nil _ _ _ _, hbq⟩
  · have := there_le S
    refine (bytes_all g b l S A c nn D w hF (by omega)).mono ?_
    rintro e w' ⟨v, rfl, hown, hb⟩
    have E1 : byE S = 0 := by unfold byE; rw [if_neg hall]
    have E2 : byL S = bytesOf S := by unfold byL; rw [if_neg hall]
    exact ⟨v, by rw [E1]; rfl, by rw [E2]; exact hown, hb⟩
theorem bytesTo_none {S : List (Option (List Int))} {k : Nat} (h : S[k]? = some none) : bytesTo S (k + 1) = bytesTo S k := by
  unfold bytesTo
  rw [take_next h, List.flatMap_append]
  simp
theorem lacks_some {S : List (Option (List Int))} {k j : Nat} (h : S[j]? = some none) (hj : j < k) : lacksTo S k ≠ [] := by
  intro e
  have : (j : Int) ∈ lacksTo S k := by
    unfold lacksTo
    exact List.mem_map.2 ⟨j, List.mem_filter.2 ⟨List.mem_range.2 hj, by simpa using h⟩, rfl⟩
  rw [e] at this
  cases this
theorem not_there {S : List (Option (List Int))} (h : there S < S.length) : ∃ j, j < S.length ∧ S[j]? = some none := by
  refine Classical.byContradiction fun hno => ?_
  have := there_full (S := S) (fun j hj => by
    obtain ⟨o, ho⟩ : ∃ o, S[j]? = some o := ⟨_, List.getElem?_eq_getElem hj⟩
    cases o with
    | none => exact absurd ⟨j, hj, ho⟩ hno
    | some bs => exact ⟨bs, ho⟩)
  omega
end Go.Proofs.YtijgiieoinmjhaaDoor
