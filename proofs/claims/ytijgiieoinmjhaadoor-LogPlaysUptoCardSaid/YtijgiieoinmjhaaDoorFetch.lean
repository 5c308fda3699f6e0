/- chunk.New, Put, Lacks, Bytes: a Fetch. Conditions: as each lemma names. -/
import Derived.Test.YtijgiieoinmjhaaDoorChunk
import Derived.Test.YtijgiieoinmjhaaDoorChunkPlan
import Derived.Test.YtijgiieoinmjhaaDoorMaps
import Derived.Deep.RegionHeld3
namespace Go.Proofs.YtijgiieoinmjhaaDoor
set_option linter.unusedVariables false
set_option linter.unusedSimpArgs false
open Go.RowKit Go.Maps

theorem parts_one (l : List Pt) : ∀ u ∈ l.flatMap Pt.cells, u.oneCell' = true := by
  intro u hu
  obtain ⟨s, _, h⟩ := List.mem_flatMap.1 hu
  simp [Pt.cells] at h
  rcases h with rfl | rfl <;> rfl

set_option maxRecDepth 100000 in
theorem cloneP_any (A : Option Addr) (n c B : Nat) (l : List Pt) (w : World) (hr : PReads w B A n l) (hB : B ≤ w.heap.size) (hn : n ≤ 100000000) (hA : A = none → c = 0) :
    Calls Tryd.prog 44 #[.slice A n c] w fun e w' => ∃ v, e = .returned v ∧ w'.ownsRow w.heap.size 30 2 v n (l.flatMap Pt.cells) ∧ Below w.heap.size w w' := by
  have hl := hr.len
  rcases A with _ | a
  · have hn0 : n = 0 := by
      rcases Nat.eq_zero_or_pos n with h | h
      · exact h
      · obtain ⟨_, _, e, _⟩ := Reads.spot hr h (by omega); cases e
    obtain rfl := hA rfl
    subst hn0
    obtain rfl : l = [] := List.eq_nil_of_length_eq_zero hl
    have hq := fun (W : World) => Lib.run_eql_slice_nil (P := Tryd.prog) W 24 30 none 0 0 0 0 Tryd.underlying24
    go_enter Tryd.func44, Tryd.ntmps44
    go_wp2_with fail
    go_ret
    exact ⟨_, rfl, World.ownsRow_nil _ _ _ _, Below.refl _ _⟩
  · have hq := fun (W : World) => Lib.run_eql_slice_nil (P := Tryd.prog) W 24 30 (some a) n c 0 0 Tryd.underlying24
    have hown0 := own_new (w := w) (B := w.heap.size) [] 30 2 0 rfl (by decide) (Nat.le_refl _)
    have hra := Reads.alloc hr hB (.cells #[] 30)
    go_enter Tryd.func44, Tryd.ntmps44
    go_wp2_with (at_builtin; refine app_many elem_part (.tmp 5) (.tmp 6) rfl rfl rfl hown0 rfl hra (parts_one l) (by omega) (by rw [World.size_alloc]; omega) ?_; intro v2 w2 hown2 hb2 _)
    go_ret
    refine ⟨v2, rfl, ?_, ((Below.refl _ _).alloc (Nat.le_refl _) _).trans hb2⟩
    simpa using hown2

/-- how many pieces are there -/
def there (S : List (Option (List Int))) : Nat := (S.filter Option.isSome).length

/-- a Fetch at block g, its map at block b: S the pieces that are there -/
structure FetchIs (w : World) (g b : Nat) (l : List Pt) (S : List (Option (List Int))) (A : Option Addr) (c nn : Nat) (D : DataW Value) : Prop where
  blk : Blk w g 96 #[.slice A l.length c, .map (some b)]
  parts : PReads w b A l.length l
  map : MapIs Tryd.prog w 3 b nn D
  size : Maps.size D = there S
  len : S.length = l.length
  cap : l.length ≤ 100
  no : ∀ k : Nat, S[k]? = some none → Maps.has D (keyI k) = false
  yes : ∀ (k : Nat) bs, S[k]? = some (some bs) → Maps.has D (keyI k) = true ∧ ∃ A' c', (∀ z, D.atKey (keyI k) z = .held (.slice A' bs.length c')) ∧ BReads w w.heap.size A' bs.length bs ∧ bs.length ≤ 6000
section
variable {w w' : World} {g b c nn : Nat} {l : List Pt} {S : List (Option (List Int))} {A : Option Addr} {D : DataW Value}
/-- a Fetch while other things are laid and written -/
theorem FetchIs.keep (h : FetchIs w g b l S A c nn D) (hz : w.heap.size ≤ w'.heap.size) (hg : w'.heap[g]? = w.heap[g]?) (hb : w'.heap[b]? = w.heap[b]?) (hc : ∀ p : Addr, p.block < w.heap.size → w'.cell? p = w.cell? p) : FetchIs w' g b l S A c nn D := by
  refine ⟨?_, Reads.keep h.parts (fun p hp => hc p (Nat.lt_trans hp h.map.lt)), ?_, h.size, h.len, h.cap, h.no, fun k bs hk => ?_⟩
  · have := h.blk; unfold Blk at this ⊢; rw [hg]; exact this
  · obtain ⟨es, cl, h1, h2⟩ := h.map.own
    exact ⟨⟨es, cl, hb.trans h1, h2⟩, h.map.tidy⟩
  · obtain ⟨h1, A', c', h2, h3, h4⟩ := h.yes k bs hk
    exact ⟨h1, A', c', h2, Reads.more (Reads.keep h3 hc) hz, h4⟩
theorem FetchIs.below {B : Nat} (h : FetchIs w g b l S A c nn D) (hb : Below B w w') (hB : w.heap.size ≤ B) : FetchIs w' g b l S A c nn D :=
  h.keep hb.size (hb.block g (by have := h.blk.lt; omega)) (hb.block b (by have := h.map.lt; omega)) (fun p hp => hb.cell (by omega))
end

set_option maxHeartbeats 1000000 in
theorem new_any (A : Option Addr) (n c B : Nat) (l : List Pt) (w : World) (ha : PReads w B A n l) (hB : B ≤ w.heap.size) (hn : n ≤ maxLen) (hA : A = none → c = 0) (h0 : partsE l = 0) :
    Calls Tryd.prog 10 #[.slice A n c] w fun e w' => ∃ g b A' c' D, e = .returned (.tuple #[.pointer (some ⟨g, 0, none⟩), .nilIface]) ∧ FetchIs w' g b l (List.replicate l.length none) A' c' 0 D ∧ w.heap.size ≤ b ∧ w.heap.size ≤ g ∧ Below w.heap.size w w' := by
  have hl := ha.len
  have hn100 : n ≤ 100 := by
    unfold partsE at h0
    by_cases h : 100 < l.length
    · rw [if_pos h] at h0; cases h0
    · omega
  have HV := hide (errV_0 h0)
  have hck := parts_any A n c B l w ha hB hn
  have hmm := @run_makeMap Tryd.prog
  have HL := hide hl
  clear h0 hl
  go_enter Tryd.func10, Tryd.ntmps10
  go_wp2_with fail
  refine hck.mono ?_
  clear hck
  rintro e w1 ⟨rfl, hb1⟩
  rw [unhide HV]
  have z1 := hb1.size
  have hcl := cloneP_any A n c B l w1 (ha.below (hb1.mono hB)) (by omega) (by omega) hA
  go_wp2_with fail
  refine hcl.mono ?_
  clear hcl
  rintro e w2 ⟨v, rfl, hown, hb2⟩
  obtain ⟨A2, c2, hu, hr2, _, _⟩ := own_slice hown
  subst hu
  have z2 := hb2.size
  go_wp2_with fail
  go_ret2
  have hrp : PReads w2 w2.heap.size A2 n l := hr2
  refine ⟨w2.heap.size + 1, w2.heap.size, A2, c2, .map [], rfl, ⟨?_, ?_, ?_, ?_, by simp, by have := unhide HL; omega, ?_, ?_⟩, by omega, by omega, ?_⟩
  · rw [unhide HL]
    have := Blk.new (w2.alloc (.map #[] 0)) 96 #[.slice A2 n c2, .map (some w2.heap.size)]
    rwa [World.size_alloc] at this
  · rw [unhide HL]; exact Reads.alloc (Reads.alloc hrp (Nat.le_refl _) _) (by simp) _
  · exact (MapIs.made w2 Tryd.prog 3).alloc _
  · unfold there
    rw [show (List.replicate l.length (none : Option (List Int))).filter Option.isSome = [] by rw [List.filter_eq_nil_iff]; intro x hx; rw [List.eq_of_mem_replicate hx]; simp]
    rfl
  · intro k _; rfl
  · intro k bs hk
    have := List.mem_of_getElem? hk
    rw [List.mem_replicate] at this
    cases this.2
  · exact (((hb1.trans (hb2.mono z1)).alloc (by omega) _).alloc (by simp; omega) _)

/-- what is wrong with a piece that is put -/
def putE (l : List Pt) (i : Int) (bs : List Int) : Int :=
  if i < 0 then 1 else if (l.length : Int) ≤ i then 1 else match l[i.toNat]? with
    | none => 1
    | some p => if (bs.length : Int) = p.size then (if sumV bs = p.sum then 0 else 3) else 3

theorem put_range (g b : Nat) (l : List Pt) (S : List (Option (List Int))) (A : Option Addr) (c nn : Nat) (D : DataW Value) (i : Int) (Ab : Option Addr) (nb cb : Nat) (bs : List Int) (w : World) (hF : FetchIs w g b l S A c nn D) (hi : i < 0 ∨ (l.length : Int) ≤ i) :
    Calls Tryd.prog 11 #[.pointer (some ⟨g, 0, none⟩), .int .i64 i, .slice Ab nb cb] w fun e w' => e = .returned (.tuple #[.bool false, errV 1]) ∧ w = w' := by
  have c0 := hF.blk.cell 0
  simp at c0
  have hcap := hF.cap
  by_cases h0 : i < 0
  · have d0 : decide (i < 0) = true := by simpa using h0
    go_enter Tryd.func11, Tryd.ntmps11
    go_wp2_with fail
    go_ret2
    exact ⟨rfl, rfl⟩
  · have d0 : decide (i < 0) = false := by simp; omega
    have d1 : decide ((l.length : Int) ≤ i) = true := by simp; omega
    go_enter Tryd.func11, Tryd.ntmps11
    go_wp2_with fail
    go_ret2
    exact ⟨rfl, rfl⟩

theorem put_shape (g b : Nat) (l : List Pt) (S : List (Option (List Int))) (A : Option Addr) (c nn : Nat) (D : DataW Value) (i : Nat) (Ab : Option Addr) (nb cb : Nat) (bs : List Int) (p : Pt) (w : World) (hF : FetchIs w g b l S A c nn D) (hp : l[i]? = some p)
    (hr : BReads w w.heap.size Ab nb bs) (hn : nb ≤ maxLen) (hby : ∀ x ∈ bs, 0 ≤ x ∧ x < 256) (hs : (nb : Int) ≠ p.size ∨ sumV bs ≠ p.sum) :
    Calls Tryd.prog 11 #[.pointer (some ⟨g, 0, none⟩), .int .i64 i, .slice Ab nb cb] w fun e w' => e = .returned (.tuple #[.bool false, errV 3]) ∧ Below w.heap.size w w' := by
  have c0 := hF.blk.cell 0
  simp at c0
  have hcap := hF.cap
  have hil : i < l.length := (List.getElem?_eq_some_iff.1 hp).1
  obtain ⟨b2, o2, x, rfl, hb2, hx, e0, e1⟩ := hF.parts.get hil
  rw [hp] at hx
  injection hx with hx
  subst hx
  have hbl := hF.map.lt
  have k0 := cell_alloc e0 (by dsimp only; omega)
  have k1 := cell_alloc e1 (by dsimp only; omega)
  have d0 : decide ((i : Int) < 0) = false := by simp
  have d1 : decide ((l.length : Int) ≤ (i : Int)) = false := by simp; omega
  obtain ⟨p0, p1⟩ := p
  dsimp only at e0 e1 k0 k1 hs
  have hsum := sum_any Ab nb cb w.heap.size bs
  clear hp
  by_cases hz : (nb : Int) = p0
  · have hz2 : sumV bs ≠ p1 := by rcases hs with h | h; exact absurd hz h; exact h
    have q0 : ((nb : Int) != p0) = false := by simpa using hz
    have q1 : (sumV bs != p1) = true := by simpa using hz2
    clear hz hz2 hs
    go_enter Tryd.func11, Tryd.ntmps11
    go_wp2_with fail
    go_quiet ((go_at_call 15; exact quiet_left (hsum _ (Reads.drewN (Reads.alloc hr (Nat.le_refl _) _) _) hn hby)))
    go_wp2_with fail
    go_ret2
    exact ⟨rfl, below_drewN ((Below.refl _ _).alloc (Nat.le_refl _) _) _⟩
  · have q0 : ((nb : Int) != p0) = true := by simpa using hz
    clear hz hs
    go_enter Tryd.func11, Tryd.ntmps11
    go_wp2_with fail
    go_quiet (fail)
    go_wp2_with fail
    go_ret2
    exact ⟨rfl, below_drewN ((Below.refl _ _).alloc (Nat.le_refl _) _) _⟩

/-- the world of a Put that has looked, but for draws -/
theorem FetchIs.drewN {w : World} {g b c nn : Nat} {l : List Pt} {S : List (Option (List Int))} {A : Option Addr} {D : DataW Value} (h : FetchIs w g b l S A c nn D) (q : Nat) : FetchIs (w.drewN q) g b l S A c nn D :=
  h.keep (Nat.le_refl _) rfl rfl (fun _ _ => rfl)

theorem keyed_int : Keyed Tryd.prog 3 := int_keyed Tryd.underlying3
theorem zero_bytes (w : World) : (zeroValue 22).run Tryd.prog w = .ok (.slice none 0 0) w := by kernel_rfl

set_option maxRecDepth 100000 in
theorem put_again (g b : Nat) (l : List Pt) (S : List (Option (List Int))) (A : Option Addr) (c nn : Nat) (D : DataW Value) (i : Nat) (Ab : Option Addr) (nb cb : Nat) (bs old : List Int) (p : Pt) (w : World) (hF : FetchIs w g b l S A c nn D) (hp : l[i]? = some p)
    (hr : BReads w w.heap.size Ab nb bs) (hn : nb ≤ maxLen) (hby : ∀ x ∈ bs, 0 ≤ x ∧ x < 256) (hz : (nb : Int) = p.size) (hz2 : sumV bs = p.sum) (hS : S[i]? = some (some old)) :
    Calls Tryd.prog 11 #[.pointer (some ⟨g, 0, none⟩), .int .i64 i, .slice Ab nb cb] w fun e w' => e = .returned (.tuple #[.bool false, .nilIface]) ∧ Below w.heap.size w w' := by
  have c0 := hF.blk.cell 0
  have c1 := hF.blk.cell 1
  simp at c0 c1
  have hcap := hF.cap
  have hil : i < l.length := (List.getElem?_eq_some_iff.1 hp).1
  obtain ⟨b2, o2, x, rfl, hb2, hx, e0, e1⟩ := hF.parts.get hil
  rw [hp] at hx
  injection hx with hx
  subst hx
  have hbl := hF.map.lt
  have hgl := hF.blk.lt
  have k0 := cell_alloc e0 (by dsimp only; omega)
  have k1 := cell_alloc e1 (by dsimp only; omega)
  have d0 : decide ((i : Int) < 0) = false := by simp
  have d1 : decide ((l.length : Int) ≤ (i : Int)) = false := by simp; omega
  obtain ⟨p0, p1⟩ := p
  dsimp only at e0 e1 k0 k1 hz hz2
  have hsum := sum_any Ab nb cb w.heap.size bs
  obtain ⟨hhas, _⟩ := hF.yes i old hS
  have hmap := hF.map.own
  have hkey := keyI_key (P := Tryd.prog) Tryd.underlying3 (x := (i : Int)) (by omega)
  have q0 : ((nb : Int) != p0) = false := by simpa using hz
  have q1 : (sumV bs != p1) = false := by simpa using hz2
  clear hp hz hz2 hS hF
  have f0 := cell_alloc c0 hgl
  have f1 := cell_alloc c1 hgl
  go_enter Tryd.func11, Tryd.ntmps11
  go_wp2_with fail
  go_quiet ((go_at_call 15; exact quiet_left (hsum _ (Reads.drewN (Reads.alloc hr (Nat.le_refl _) _) _) hn hby)))
  have hmap2 : ((w.alloc (.cells #[.int .i64 p0, .int .i64 p1] 30)).drewN nq).ownsMap Tryd.prog 3 heldR b nn D := (hmap.alloc _)
  go_wp2_with (at_lookup; refine wpList_lookup_own_ok _ rfl _ _ 94 rfl 3 22 keyed_int Tryd.underlying94 heldR (zero_bytes _) (.held (.slice none 0 0)) [] rfl b nn D rfl hmap2 _ _ rfl hkey ?_; intro v ps hv)
  go_wp2_with fail
  go_ret2
  exact ⟨rfl, below_drewN ((Below.refl _ _).alloc (Nat.le_refl _) _) _⟩

theorem there_set {S : List (Option (List Int))} {i : Nat} {bs : List Int} (h : S[i]? = some none) : there (S.set i (some bs)) = there S + 1 := by
  induction S generalizing i with
  | nil => simp at h
  | cons x r ih =>
    cases i with
    | zero =>
      simp at h
      subst h
      show ((some bs :: r).filter Option.isSome).length = ((none :: r).filter Option.isSome).length + 1
      rfl
    | succ i =>
      have := ih (i := i) (by simpa using h)
      unfold there at this ⊢
      rw [List.set_cons_succ, List.filter_cons, List.filter_cons]
      split
      · rw [List.length_cons, List.length_cons, this]
      · exact this

/-- a piece that was not there is laid in -/
theorem FetchIs.put_ {w wc wm : World} {g b c nn i : Nat} {l : List Pt} {S : List (Option (List Int))} {A : Option Addr} {D : DataW Value} {bs : List Int} {Ac : Option Addr} {dc : Nat} (h : FetchIs w g b l S A c nn D) (hS : S[i]? = some none) (hb : Below w.heap.size w wc)
    (hm : wm.ownsMap Tryd.prog 3 heldR b (nn + 1) (D.put (keyI i) (.held (.slice Ac bs.length dc)))) (hg : wc.grownBy wm (some b)) (hr : BReads wc wc.heap.size Ac bs.length bs) (hn : bs.length ≤ 6000) :
    FetchIs wm g b l (S.set i (some bs)) A c (nn + 1) (D.put (keyI i) (.held (.slice Ac bs.length dc))) ∧ (∀ p : Addr, p.block < w.heap.size → wm.cell? p = w.cell? p) ∧ w.grownBy wm (some b) := by
  have hbl := h.map.lt
  have hgl := h.blk.lt
  have hne : b ≠ g := h.map.ne_blk h.blk
  have hmc := h.map.below hb hbl
  have hmm : MapIs Tryd.prog wm 3 b (nn + 1) (D.put (keyI i) (.held (.slice Ac bs.length dc))) := ⟨hm, h.map.tidy.put (keyI_is _) _⟩
  have cC : ∀ p : Addr, p.block < wc.heap.size → wm.cell? p = wc.cell? p := fun p hp => hmc.cells hmm hg p hp
  have cW : ∀ p : Addr, p.block < w.heap.size → wm.cell? p = w.cell? p := fun p hp => (cC p (Nat.lt_of_lt_of_le hp hb.size)).trans (hb.cell hp)
  have hz : w.heap.size ≤ wm.heap.size := Nat.le_trans hb.size hg.size
  have hil : i < S.length := (List.getElem?_eq_some_iff.1 hS).1
  refine ⟨⟨?_, Reads.keep h.parts (fun p hp => cW p (Nat.lt_trans hp hbl)), hmm, ?_, by rw [List.length_set]; exact h.len, h.cap, fun k hk => ?_, fun k bs' hk => ?_⟩, cW, ?_⟩
  · have h1 := h.blk.below hb hgl
    exact h1.grown hg (fun e => hne (by injection e with e; exact e.symm))
  · rw [Maps.size_put h.map.tidy, if_neg (by rw [h.no i hS]; decide), h.size, there_set hS]
  · by_cases hki : k = i
    · subst hki; rw [List.getElem?_set_self hil] at hk; cases hk
    · rw [List.getElem?_set_ne (Ne.symm hki)] at hk
      rw [Maps.has_put_other (keyI_ne (by omega))]
      exact h.no k hk
  · by_cases hki : k = i
    · subst hki
      rw [List.getElem?_set_self hil] at hk
      injection hk with hk
      injection hk with hk
      subst hk
      exact ⟨Maps.has_put_same h.map.tidy.isMap (keyI_is _) _, Ac, dc, fun z => Maps.atKey_put_same h.map.tidy.isMap (keyI_is _) _ z, Reads.more (Reads.keep hr (fun p hp => cC p hp)) hg.size, hn⟩
    · rw [List.getElem?_set_ne (Ne.symm hki)] at hk
      obtain ⟨h1, A', c', h2, h3, h4⟩ := h.yes k bs' hk
      refine ⟨by rw [Maps.has_put_other (keyI_ne (by omega))]; exact h1, A', c', fun z => by rw [Maps.atKey_put_other (keyI_ne (by omega))]; exact h2 z, Reads.more (Reads.keep h3 cW) hz, h4⟩
  · exact ⟨hg.os.trans hb.os, hg.tape.trans hb.tape, hg.output.trans hb.output, hz, fun k hk hne' => (hg.block k (Nat.lt_of_lt_of_le hk hb.size) hne').trans (hb.block k hk)⟩

set_option maxRecDepth 100000 in
set_option maxHeartbeats 2000000 in
theorem put_new (g b : Nat) (l : List Pt) (S : List (Option (List Int))) (A : Option Addr) (c nn : Nat) (D : DataW Value) (i : Nat) (Ab : Option Addr) (nb cb : Nat) (bs : List Int) (p : Pt) (w : World) (hF : FetchIs w g b l S A c nn D) (hp : l[i]? = some p)
    (hr : BReads w w.heap.size Ab nb bs) (hn : nb ≤ 6000) (hby : ∀ x ∈ bs, 0 ≤ x ∧ x < 256) (hz : (nb : Int) = p.size) (hz2 : sumV bs = p.sum) (hS : S[i]? = some none) (hA : Ab = none → cb = 0) (hnn : nn < 100000) :
    Calls Tryd.prog 11 #[.pointer (some ⟨g, 0, none⟩), .int .i64 i, .slice Ab nb cb] w fun e w' => e = .returned (.tuple #[.bool true, .nilIface]) ∧ (∃ D', FetchIs w' g b l (S.set i (some bs)) A c (nn + 1) D') ∧ w.grownBy w' (some b) ∧ ∀ p : Addr, p.block < w.heap.size → w'.cell? p = w.cell? p := by
  have hF0 := hF
  have c0 := hF.blk.cell 0
  have c1 := hF.blk.cell 1
  simp at c0 c1
  have hcap := hF.cap
  have hil : i < l.length := (List.getElem?_eq_some_iff.1 hp).1
  obtain ⟨b2, o2, x, hA2, hb2, hx, e0, e1⟩ := hF.parts.get hil
  subst hA2
  rw [hp] at hx
  injection hx with hx
  subst hx
  have hbl := hF.map.lt
  have hgl := hF.blk.lt
  have k0 := cell_alloc e0 (by dsimp only; omega)
  have k1 := cell_alloc e1 (by dsimp only; omega)
  have d0 : decide ((i : Int) < 0) = false := by simp
  have d1 : decide ((l.length : Int) ≤ (i : Int)) = false := by simp; omega
  obtain ⟨p0, p1⟩ := p
  dsimp only at e0 e1 k0 k1 hz hz2
  have hsum := sum_any Ab nb cb w.heap.size bs
  have hhas := hF.no i hS
  have hmap := hF.map.own
  have hkey := keyI_key (P := Tryd.prog) Tryd.underlying3 (x := (i : Int)) (by omega)
  have HS := hide hS
  have q0 : ((nb : Int) != p0) = false := by simpa using hz
  have q1 : (sumV bs != p1) = false := by simpa using hz2
  have f0 := cell_alloc c0 hgl
  have f1 := cell_alloc c1 hgl
  have hgb : b ≠ g := hF.map.ne_blk hF.blk
  have HF := hide hF0
  clear hp hz hz2 hS hF hF0
  go_enter Tryd.func11, Tryd.ntmps11
  go_wp2_with fail
  go_quiet ((go_at_call 15; exact quiet_left (hsum _ (Reads.drewN (Reads.alloc hr (Nat.le_refl _) _) _) (by unfold maxLen; omega) hby)))
  have hmap2 : ((w.alloc (.cells #[.int .i64 p0, .int .i64 p1] 30)).drewN nq).ownsMap Tryd.prog 3 heldR b nn D := (hmap.alloc _)
  go_wp2_with (at_lookup; refine wpList_lookup_own_ok _ rfl _ _ 94 rfl 3 22 keyed_int Tryd.underlying94 heldR (zero_bytes _) (.held (.slice none 0 0)) [] rfl b nn D rfl hmap2 _ _ rfl hkey ?_; intro v ps hv)
  have hW : Below w.heap.size w ((w.alloc (.cells #[.int .i64 p0, .int .i64 p1] 30)).drewN nq) := below_drewN ((Below.refl _ _).alloc (Nat.le_refl _) _) _
  have hrW : BReads ((w.alloc (.cells #[.int .i64 p0, .int .i64 p1] 30)).drewN nq) w.heap.size Ab nb bs := Reads.below hr hW
  have g1 : ((w.alloc (.cells #[.int .i64 p0, .int .i64 p1] 30)).drewN nq).cell? ⟨g, 1, none⟩ = some (.map (some b)) := (hW.cell (p := ⟨g, 1, none⟩) hgl).trans c1
  clear f0 f1 k0 k1 hsum hmap hv
  generalize (w.alloc (.cells #[.int .i64 p0, .int .i64 p1] 30)).drewN nq = W at *
  have zW := hW.size
  go_wp2_with fail
  go_region_held3 (fun w' => w'.cell? ⟨g, 1, none⟩ = some (.map (some b)))
    (first | go_keep | (go_split_ands; rw [hbc.cell (p := ⟨g, 1, none⟩) (by have := hW.size; simp; omega)]; assumption))
    ((go_at_call 45; refine (cloneB_any Ab nb cb w.heap.size bs _ (Reads.drew hrW) (by exact zW) (by omega) hA).mono ?_; rintro e wc ⟨vc, rfl, hownc, hbc⟩; obtain ⟨wm, hrun, hownm, hgrm⟩ := (own_map_below (k := 3) hmap2.drew hbc (by simp; omega)).update keyed_int Tryd.underlying94 (by unfold maxLen; omega) hkey (val := vc) (d := .held vc) (ps := []) rfl; have hkeep : wm.cell? ⟨g, 1, none⟩ = some (.map (some b)) := (World.cell?_of_block (hgrm.block g (by have := hbc.size; simp at this; omega) (fun e => hgb (by injection e with e; exact e.symm)))).trans ((hbc.cell (p := ⟨g, 1, none⟩) (by simp; omega)).trans g1)))
  obtain ⟨Ac, dc, hvc, hrc, _, _⟩ := own_slice hownc
  subst hvc
  have hlb : bs.length = nb := by have := hr.len; exact this
  have hBc : Below w.heap.size w wc := hW.trans (((Below.refl _ _).drew.trans hbc).mono zW)
  rw [← hlb] at hownm hrc
  have HP := hide ((unhide HF).put_ (unhide HS) hBc hownm hgrm hrc (by omega))
  clear hBc hownm hgrm hrc hownc hbc hmap2 hW hrW g1 hr hrun hkeep e0 e1 c0 c1
  go_wp2_with fail
  go_ret2
  exact ⟨rfl, ⟨_, (unhide HP).1⟩, (unhide HP).2.2, (unhide HP).2.1⟩
end Go.Proofs.YtijgiieoinmjhaaDoor
