/- ChunkTells: New of parts that are wrong; the reference's row of pieces. Conditions: as each lemma names. -/
import Derived.Test.YtijgiieoinmjhaaDoorFetch4
import Derived.Test.YtijgiieoinmjhaaDoorRPlan
import Derived.Test.YtijgiieoinmjhaaDoorNsRows
namespace Go.Proofs.YtijgiieoinmjhaaDoor
set_option linter.unusedVariables false
set_option linter.unusedSimpArgs false
open Go.RowKit Go.Maps

theorem new_bad (A : Option Addr) (n c B : Nat) (l : List Pt) (w : World) (ha : PReads w B A n l) (hB : B ≤ w.heap.size) (hn : n ≤ maxLen) (h0 : partsE l ≠ 0) :
    Calls Tryd.prog 10 #[.slice A n c] w fun e w' => e = .returned (.tuple #[.pointer none, errV (partsE l)]) ∧ Below w.heap.size w w' := by
  have HV := hide (errV_1 h0)
  have hck := parts_any A n c B l w ha hB hn
  clear h0
  go_enter Tryd.func10, Tryd.ntmps10
  go_wp2_with fail
  refine hck.mono ?_
  clear hck
  rintro e w1 ⟨rfl, hb1⟩
  rw [unhide HV]
  go_wp2_with fail
  go_ret2
  exact ⟨by rw [unhide HV]; rfl, hb1⟩

/-- the reference's row of pieces -/
structure HasIs (w : World) (hb : Nat) (S : List (Option (List Int))) (hs : List Ns) : Prop where
  blk : Blk w hb 22 (hs.map Ns.val).toArray
  len : hs.length = S.length
  no : ∀ (k : Nat) r, S[k]? = some none → hs[k]? = some r → r = ⟨none, 0, 0, []⟩
  yes : ∀ (k : Nat) bs r, S[k]? = some (some bs) → hs[k]? = some r → r.A ≠ none ∧ r.l = bs ∧ BReads w w.heap.size r.A r.n bs
section
variable {w w' : World} {hb g b c nn : Nat} {S : List (Option (List Int))} {hs : List Ns} {l : List Pt} {A : Option Addr} {D : DataW Value}
theorem HasIs.below {B : Nat} (h : HasIs w hb S hs) (hb' : Below B w w') (hB : w.heap.size ≤ B) : HasIs w' hb S hs :=
  ⟨h.blk.below hb' (by have := h.blk.lt; omega), h.len, h.no, fun k bs r h1 h2 => by
    obtain ⟨q1, q2, q3⟩ := h.yes k bs r h1 h2
    exact ⟨q1, q2, Reads.more (Reads.below q3 (hb'.mono hB)) hb'.size⟩⟩
theorem HasIs.kept {b : Nat} (h : HasIs w hb S hs) (hk : KeepBut b w w') (hne : hb ≠ b) : HasIs w' hb S hs :=
  ⟨(hk.1 hb h.blk.lt hne).trans h.blk, h.len, h.no, fun k bs r h1 h2 => by
    obtain ⟨q1, q2, q3⟩ := h.yes k bs r h1 h2
    exact ⟨q1, q2, Reads.more (Reads.keep q3 (fun p hp => hk.2.1 p hp)) hk.2.2⟩⟩
theorem HasIs.get (h : HasIs w hb S hs) {k : Nat} (hk : k < S.length) : ∃ r, hs[k]? = some r ∧ w.cell? ⟨hb, k, none⟩ = some (.slice r.A r.n r.c) ∧ ((S[k]? = some none ∧ r = ⟨none, 0, 0, []⟩) ∨ ∃ bs ad, S[k]? = some (some bs) ∧ r.A = some ad ∧ r.l = bs ∧ BReads w w.heap.size r.A r.n bs) := by
  have hl := h.len
  have hk' : hs[k]? = some hs[k] := List.getElem?_eq_getElem (by omega)
  refine ⟨hs[k], hk', ?_, ?_⟩
  · rw [h.blk.cell k, List.getElem?_toArray, List.getElem?_map, hk']; rfl
  · have hS : S[k]? = some S[k] := List.getElem?_eq_getElem hk
    cases e : S[k] with
    | none => rw [e] at hS; exact .inl ⟨hS, h.no k _ hS hk'⟩
    | some bs =>
      rw [e] at hS
      obtain ⟨q1, q2, q3⟩ := h.yes k bs _ hS hk'
      obtain ⟨ad, had⟩ := Option.ne_none_iff_exists'.1 q1
      exact .inr ⟨bs, ad, hS, had, q2, q3⟩
/-- a mark in a row that holds no numbers leaves a Fetch -/
theorem FetchIs.mark2 {sb : Nat} {t : TypeId} {cs : Array Value} (h : FetchIs w g b l S A c nn D) (hs : Blk w sb t cs) (hne : 96 ≠ t) (hno : ∀ (i : Nat) u, cs[i]? = some u → ∀ k x, u ≠ .int k x) (i : Nat) (u : Value) : FetchIs (w.setCell ⟨sb, i, none⟩ u) g b l S A c nn D := by
  have hk : ∀ (p : Addr) k x, w.cell? p = some (.int k x) → (w.setCell ⟨sb, i, none⟩ u).cell? p = some (.int k x) := by
    intro p k x hp
    rw [World.cell?_setCell_other _ _ _ _ ?_]
    · exact hp
    · intro e
      rw [← e] at hp
      rw [hs.cell i] at hp
      exact hno i _ hp k x rfl
  have hne2 : b ≠ sb := h.map.ne_blk hs
  have hg : g ≠ sb := Blk.ne_ h.blk hs hne
  have hsz : (w.setCell ⟨sb, i, none⟩ u).heap.size = w.heap.size := by simp [World.setCell]
  refine ⟨h.blk.far hg u, Reads.keepI h.parts ?_ hk, ?_, h.size, h.len, h.cap, h.no, fun k bs hkS => ?_⟩
  · intro v hv
    obtain ⟨s, _, h⟩ := List.mem_flatMap.1 hv
    simp [Pt.cells] at h
    rcases h with rfl | rfl <;> exact ⟨_, _, rfl⟩
  · obtain ⟨es, cl, h1, h2⟩ := h.map.own
    exact ⟨⟨es, cl, (Below.heap_setCell w _ u b hne2).trans h1, h2⟩, h.map.tidy⟩
  · obtain ⟨h1, A', c', h2, h3, h4⟩ := h.yes k bs hkS
    refine ⟨h1, A', c', h2, ?_, h4⟩
    rw [hsz]
    refine Reads.keepI h3 (fun v hv => ?_) hk
    obtain ⟨x, _, rfl⟩ := List.mem_map.1 hv
    exact ⟨_, _, rfl⟩
theorem HasIs.noInt (h : HasIs w hb S hs) : ∀ (i : Nat) u, ((hs.map Ns.val).toArray : Array Value)[i]? = some u → ∀ k x, u ≠ .int k x := by
  intro i u hu k x e
  rw [List.getElem?_toArray, List.getElem?_map, Option.map_eq_some_iff] at hu
  obtain ⟨r, _, rfl⟩ := hu
  cases e
theorem HasIs.put_ (h : HasIs w hb S hs) {i : Nat} {r : Ns} (hi : S[i]? = some none) (hA : r.A ≠ none) (hr : BReads w w.heap.size r.A r.n r.l) : HasIs (w.setCell ⟨hb, i, none⟩ r.val) hb (S.set i (some r.l)) (hs.set i r) := by
  have hil := (List.getElem?_eq_some_iff.1 hi).1
  have hk : ∀ (p : Addr) k x, w.cell? p = some (.int k x) → (w.setCell ⟨hb, i, none⟩ r.val).cell? p = some (.int k x) := by
    intro p k x hp
    rw [World.cell?_setCell_other _ _ _ _ ?_]
    · exact hp
    · intro e
      rw [← e] at hp
      rw [h.blk.cell i] at hp
      exact h.noInt i _ hp k x rfl
  have hsz : (w.setCell ⟨hb, i, none⟩ r.val).heap.size = w.heap.size := by simp [World.setCell]
  have hkeep : ∀ {A : Option Addr} {n : Nat} {bs : List Int}, BReads w w.heap.size A n bs → BReads (w.setCell ⟨hb, i, none⟩ r.val) w.heap.size A n bs := fun hr => Reads.keepI hr (fun v hv => by
    obtain ⟨x, _, rfl⟩ := List.mem_map.1 hv
    exact ⟨_, _, rfl⟩) hk
  refine ⟨?_, by simp [h.len], fun k q h1 h2 => ?_, fun k bs q h1 h2 => ?_⟩
  · have := h.blk.set_ i r.val
    rwa [List.setIfInBounds_toArray, ← List.map_set] at this
  · by_cases e : i = k
    · subst e; rw [List.getElem?_set_self hil] at h1; injection h1 with h1; cases h1
    · rw [List.getElem?_set_ne e] at h1 h2; exact h.no k q h1 h2
  · by_cases e : i = k
    · subst e
      rw [List.getElem?_set_self hil] at h1
      rw [List.getElem?_set_self (by rw [h.len]; exact hil)] at h2
      injection h1 with h1; injection h1 with h1; injection h2 with h2
      subst h1 h2
      rw [hsz]
      exact ⟨hA, rfl, hkeep hr⟩
    · rw [List.getElem?_set_ne e] at h1 h2
      obtain ⟨q1, q2, q3⟩ := h.yes k bs q h1 h2
      rw [hsz]
      exact ⟨q1, q2, hkeep q3⟩
theorem HasIs.start (w : World) (k : Nat) (cs : Array Value) (h : Blk w hb 22 cs) (hc : cs = ((List.replicate k (⟨none, 0, 0, []⟩ : Ns)).map Ns.val).toArray) : HasIs w hb (List.replicate k none) (List.replicate k ⟨none, 0, 0, []⟩) := by
  refine ⟨hc ▸ h, by simp, fun j r h1 h2 => ?_, fun j bs r h1 h2 => ?_⟩
  · exact (List.eq_of_mem_replicate (List.mem_of_getElem? h2))
  · have := List.eq_of_mem_replicate (List.mem_of_getElem? h1)
    cases this
end

/-- a row of another element type stays owned behind an append of many -/
theorem own_keptM {wr w' : World} {base base' : Nat} {e e' : TypeId} {size size' n n' : Nat} {v v' : Value} {xs xs' : List Value} (h : wr.ownsRow base e size v n xs) (h' : wr.ownsRow base' e' size' v' n' xs') (hne : e ≠ e')
    (hg : wr.grownBy w' v'.ownBlock) : w'.ownsRow base e size v n xs := by
  refine h.kept hg ?_
  rcases h.2 with ⟨rfl, _⟩ | ⟨g, cap, cur, rfl, _, hh, _⟩
  · exact .inl rfl
  · refine .inr ?_
    have := own_blk_ne (g := g) (t := e) (cs := cur) h' hh (Ne.symm hne)
    exact fun e => this e.symm
/-- two plans are the same -/
theorem plans_same {n : Nat} {l : List Int} {sz : Int} {w w1 w2 : World} {v1 v2 : Value} {e1 : Ending} (hl : l.length = n) (h1a : planE n sz ≠ 0 → v1 = .slice none 0 0) (h1b : planE n sz = 0 → ∃ k, n ≤ k * sz.toNat ∧ (k = 0 ∨ (k - 1) * sz.toNat < n) ∧ w1.ownsRow w.heap.size 30 2 v1 k ((ptsL l sz.toNat k).flatMap Pt.cells))
    (h2a : planE n sz ≠ 0 → v2 = .slice none 0 0) (h2b : planE n sz = 0 → ∃ k, n ≤ k * sz.toNat ∧ (k = 0 ∨ (k - 1) * sz.toNat < n) ∧ w2.ownsRow w1.heap.size 30 2 v2 (pcs n sz.toNat k).length (ptsOf l sz.toNat (pcs n sz.toNat k))) (hb : Below w1.heap.size w1 w2) :
    ∃ A1 c1 A2 c2 k xs, v1 = .slice A1 k c1 ∧ v2 = .slice A2 k c2 ∧ PReads w2 w1.heap.size A1 k xs ∧ PReads w2 w2.heap.size A2 k xs ∧ k ≤ maxLen := by
  by_cases h0 : planE n sz = 0
  · obtain ⟨k, a1, a2, a3⟩ := h1b h0
    obtain ⟨k', b1, b2, b3⟩ := h2b h0
    have hs : 1 ≤ sz.toNat := by
      unfold planE at h0
      by_cases q1 : 6000 < n
      · rw [if_pos q1] at h0; cases h0
      · rw [if_neg q1] at h0
        by_cases q2 : sz < 1
        · rw [if_pos q2] at h0; cases h0
        · omega
    obtain rfl := enough_one (k := k) (k' := k') ⟨a1, a2⟩ ⟨b1, b2⟩
    obtain ⟨p1, p2⟩ := ptsOf_pcs l hs k b2
    rw [p1, p2] at b3
    obtain ⟨A1, c1, rfl, r1, m1, _⟩ := own_slice a3
    obtain ⟨A2, c2, rfl, r2, _, _⟩ := own_slice b3
    exact ⟨A1, c1, A2, c2, k, _, rfl, rfl, Reads.below r1 hb, r2, m1⟩
  · exact ⟨none, 0, none, 0, 0, [], h1a h0, h2a h0, Reads.none_, Reads.none_, Nat.zero_le _⟩
theorem bytesTo_len {S : List (Option (List Int))} (h : ∀ (k : Nat) bs, S[k]? = some (some bs) → bs.length ≤ 6000) : ∀ k, k ≤ S.length → (bytesTo S k).length ≤ 6000 * k := by
  intro k
  induction k with
  | zero => intro _; simp [bytesTo]
  | succ k ih =>
    intro hk
    have := ih (by omega)
    obtain ⟨o, ho⟩ : ∃ o, S[k]? = some o := ⟨_, List.getElem?_eq_getElem (by omega)⟩
    cases o with
    | none => rw [bytesTo_none ho]; omega
    | some bs => rw [bytesTo_next ho, List.length_append]; have := h k bs ho; omega
end Go.Proofs.YtijgiieoinmjhaaDoor
