/- grove.Together: the contract. Conditions: as each lemma names. -/
import Derived.Test.YtefkjpcgcgofgaaTogether
namespace Go.Proofs.Ytefkjpcgcgofgaa
set_option linter.unusedVariables false
set_option linter.unusedSimpArgs false
open Go.RowKit Go.Maps Go.Sort Go.Shelf

/-- the map of votes -/
structure VoteMap (D : DataW Value) (ps : Ps) : Prop where
  has_ : ∀ x : Int, Maps.has D (.int .i64 x) = decide (x ∈ ps.map (·.1))
  at_ : ∀ x ∈ ps.map (·.1), ∀ z, D.atKey (.int .i64 x) z = .lit (.int .i64 (pVotes ps x))
theorem VoteMap.zero : VoteMap (.map []) [] := ⟨fun x => by simp [Maps.has], fun x hx => by simp at hx⟩
theorem VoteMap.next {D : DataW Value} {ps : Ps} (h : VoteMap D ps) (hD : IsMap D) (p : Int × Int) {c : Int} (hc : D.atKey (.int .i64 p.1) (.lit (.int .i64 0)) = .lit (.int .i64 c)) :
    VoteMap (D.put (.int .i64 p.1) (.lit (.int .i64 (c + p.2)))) (ps ++ [p]) ∧ c = pVotes ps p.1 := by
  have hcv : c = pVotes ps p.1 := by
    by_cases hm : p.1 ∈ ps.map (·.1)
    · rw [h.at_ _ hm] at hc; simpa using hc.symm
    · rw [atKey_of_not_has (by rw [h.has_]; simpa using hm)] at hc
      rw [pVotes_none hm]; simpa using hc.symm
  refine ⟨⟨fun x => ?_, fun x hx z => ?_⟩, hcv⟩
  · by_cases e : x = p.1
    · subst e; rw [has_put_same hD (show WideAt.IsKeyLit (Lit.int .i64 p.1) from trivial)]; simp
    · rw [has_put_other (by intro h; injection h with _ h; exact e h), h.has_]; simp [e]
  · by_cases e : x = p.1
    · subst e; rw [atKey_put_same hD (show WideAt.IsKeyLit (Lit.int .i64 p.1) from trivial), pVotes_snoc_same, hcv]
    · rw [atKey_put_other (by intro h; injection h with _ h; exact e h), pVotes_snoc_other _ _ (Ne.symm e)]
      refine h.at_ x ?_ z
      simp [e] at hx ⊢
      exact hx
/-- has an entry fewer votes? -/
def fewD (best : Int) (_ : Lit) : DataW Value → Bool
  | .lit (.int _ v) => decide (v < best)
  | _ => false
theorem keys_left {P : Program} {w : World} {k : TypeId} {b n : Nat} {D : DataW Value} {ps : Ps} {best : Int} (K : Keyed P k) (hk : P.underlying k = some (.int .i64)) {R : Value → Option (DataW Value × List MemPlace)} (hown : w.ownsMap P k R b n D) (hv : VoteMap D ps) {ss : List Int}
    (hs : ss.Perm (intKeys (Lib.deleteFuncD (fewD best) D))) : ∀ x, x ∈ ss ↔ x ∈ ps.map (·.1) ∧ best ≤ pVotes ps x := by
  intro x
  obtain ⟨es, hD, hpw, _⟩ := hown.entries K
  obtain ⟨es', hD', hko⟩ := hown.keysOf
  obtain rfl : es = es' := by rw [hD] at hD'; simpa using hD'
  subst hD
  rw [hs.mem_iff]
  show x ∈ (es.filter fun p => !fewD best p.1 p.2).map (fun p => Go.intOf p.1) ↔ _
  have key : ∀ p ∈ es, ∃ y, p.1 = .int .i64 y ∧ p.2 = .lit (.int .i64 (pVotes ps y)) ∧ y ∈ ps.map (·.1) := by
    intro p hp
    obtain ⟨v, hv'⟩ := hko p hp
    obtain ⟨y, _, hy, _⟩ := Maps.keyOf_i64 hk hv'
    have hh : Maps.has (.map es) (.int .i64 y) = true := by
      rw [has_eq, List.any_eq_true]
      exact ⟨p, hp, by rw [hy]; simp [Lit.sameKey]⟩
    rw [hv.has_] at hh
    have hy2 : y ∈ ps.map (·.1) := by simpa using hh
    have h1 := hv.at_ y hy2 .nil
    have h2 := WideAt.atKey_mem (.nil : DataW Value) (k := .int .i64 y) trivial hpw (d := p.2) (by rw [← hy]; exact hp)
    exact ⟨y, hy, h2.symm.trans h1, hy2⟩
  rw [List.mem_map]
  constructor
  · rintro ⟨p, hp, rfl⟩
    obtain ⟨hp1, hp2⟩ := List.mem_filter.1 hp
    obtain ⟨y, hy, hd, hm⟩ := key p hp1
    rw [hy]
    rw [hd] at hp2
    simp [fewD] at hp2
    exact ⟨hm, hp2⟩
  · rintro ⟨hm, hb⟩
    have hh : Maps.has (.map es) (.int .i64 x) = true := by rw [hv.has_]; simpa using hm
    rw [has_eq, List.any_eq_true] at hh
    obtain ⟨p, hp, hsk⟩ := hh
    obtain ⟨y, hy, hd, _⟩ := key p hp
    rw [hy] at hsk
    have hxy : y = x := by simpa [Lit.sameKey] using hsk
    subst hxy
    refine ⟨p, List.mem_filter.2 ⟨hp, ?_⟩, by rw [hy]; rfl⟩
    rw [hd]
    simp [fewD]
    exact hb
theorem vote_of {ps : Ps} {vs ss : List Int} {D : DataW Value} (hv : VoteMap D ps) (hvs : ValsOf D vs) (hne : ps ≠ []) (hss : ∀ x, x ∈ ss ↔ x ∈ ps.map (·.1) ∧ Lib.maxOf vs ≤ pVotes ps x) : vs ≠ [] ∧ ss ≠ [] ∧ IsVote ps (Lib.minOf ss) := by
  obtain ⟨qs, h1, h2, rfl⟩ := hvs
  have hq : ∀ p ∈ qs, p.1 ∈ ps.map (·.1) ∧ p.2 = pVotes ps p.1 := by
    intro p hp
    have hh := (h1 p.1).1 (List.mem_map.2 ⟨p, hp, rfl⟩)
    rw [hv.has_] at hh
    have hm : p.1 ∈ ps.map (·.1) := by simpa using hh
    have := h2 p hp .nil
    rw [hv.at_ _ hm] at this
    exact ⟨hm, by simpa using this.symm⟩
  have hq2 : ∀ x ∈ ps.map (·.1), pVotes ps x ∈ qs.map (·.2) := by
    intro x hx
    have := (h1 x).2 (by rw [hv.has_]; simpa using hx)
    obtain ⟨p, hp, rfl⟩ := List.mem_map.1 this
    exact List.mem_map.2 ⟨p, hp, (hq p hp).2⟩
  have hvn : qs.map (·.2) ≠ [] := by
    cases ps with
    | nil => exact absurd rfl hne
    | cons a r =>
      intro e
      have := hq2 a.1 (by simp)
      rw [e] at this; cases this
  obtain ⟨hmx, hall⟩ := maxOf_spec hvn
  obtain ⟨p, hp, hpe⟩ := List.mem_map.1 hmx
  have hpm := hq p hp
  have hsn : ss ≠ [] := by
    intro e
    have := (hss p.1).2 ⟨hpm.1, by rw [← hpe, hpm.2]; exact Int.le_refl _⟩
    rw [e] at this; cases this
  obtain ⟨hmin, hmall⟩ := minOf_spec hsn
  obtain ⟨hm1, hm2⟩ := (hss _).1 hmin
  refine ⟨hvn, hsn, hm1, fun v hv' => ?_, fun v hv' e => hmall v ((hss v).2 ⟨hv', by rw [e]; exact hm2⟩)⟩
  exact Int.le_trans (hall _ (hq2 v hv')) hm2

theorem few_any (key : Value) (v best : Int) (bx : Nat) (W : World) (hx : W.cell? ⟨bx, 0, none⟩ = some (.int .i64 best)) :
    Calls Try.prog 74 (#[key, .int .i64 v] ++ #[.pointer (some ⟨bx, 0, none⟩)]) W fun e w' => e = .returned (.bool (decide (v < best))) ∧ w' = W := by
  go_enter Try.func74, Try.ntmps74
  go_wp2
  go_ret
  exact ⟨rfl, rfl⟩
theorem mdel_any (b n bx : Nat) (D : DataW Value) (best : Int) (w : World) (hown : w.ownsMap Try.prog 3 (plainElem Try.prog 3) b n D) (hx : w.cell? ⟨bx, 0, none⟩ = some (.int .i64 best)) (hne : bx ≠ b) :
    Calls Try.prog 73 #[.map (some b), .func (.func 74) #[] #[.pointer (some ⟨bx, 0, none⟩)]] w fun e w' => e = .returned (.tuple #[]) ∧ w'.ownsMap Try.prog 3 (plainElem Try.prog 3) b n (Lib.deleteFuncD (fewD best) D) ∧ w.grownBy w' (some b) :=
  AnyDf.maps_DeleteFunc Try.delZ (int_keyed Try.underlying3) (plainElem Try.prog 3) (fewD best) 74 #[.pointer (some ⟨bx, 0, none⟩)] b n D w (enters_of Try.func74 (by kernel_rfl) rfl) hown (fun W key val kl yd yp hg _ hv => by
    obtain ⟨c, rfl, hy, _⟩ := plainElem_int_inv Try.underlying3 hv
    obtain rfl : yd = .lit (.int .i64 c) := by simpa using (congrArg Prod.fst hy)
    exact (few_any key c best bx W (hg.cell hx (fun e => hne (by injection e)))).mono fun _ _ ⟨he, hw⟩ => ⟨he, hw ▸ World.grownBy.refl _ _⟩)

theorem max_any (v : Value) (l : List Int) (base : Nat) (w : World) (ho : IOwn w base v l) (hne : l ≠ []) : Calls Try.prog 68 #[v] w fun e w' => e = .returned (.int .i64 (Lib.maxOf l)) ∧ w = w' := by
  obtain ⟨A, c, rfl, hr, hm, _, _⟩ := ho.slice_
  have hpos : 0 < l.length := List.length_pos_iff.2 hne
  obtain ⟨b, off, rfl, _, hc⟩ := Reads.spot hr hpos (by omega)
  have := Try.slices_Max_int b off l.length c l w hpos (Nat.le_refl _) (by unfold maxLen at hm; omega) (fun j hj => hc j _ (by rw [List.getElem?_map, List.getElem?_eq_getElem hj, List.getD_eq_getElem?_getD, List.getElem?_eq_getElem hj]; rfl))
  refine this.mono ?_
  rintro e w' ⟨rfl, rfl⟩
  exact ⟨by rw [List.take_of_length_le (Nat.le_refl _)], rfl⟩
theorem min_any (v : Value) (l : List Int) (base : Nat) (w : World) (ho : IOwn w base v l) (hne : l ≠ []) : Calls Try.prog 67 #[v] w fun e w' => e = .returned (.int .i64 (Lib.minOf l)) ∧ w = w' := by
  obtain ⟨A, c, rfl, hr, hm, _, _⟩ := ho.slice_
  have hpos : 0 < l.length := List.length_pos_iff.2 hne
  obtain ⟨b, off, rfl, _, hc⟩ := Reads.spot hr hpos (by omega)
  have := Try.slices_Min_int b off l.length c l w hpos (Nat.le_refl _) (by unfold maxLen at hm; omega) (fun j hj => hc j _ (by rw [List.getElem?_map, List.getElem?_eq_getElem hj, List.getD_eq_getElem?_getD, List.getElem?_eq_getElem hj]; rfl))
  refine this.mono ?_
  rintro e w' ⟨rfl, rfl⟩
  exact ⟨by rw [List.take_of_length_le (Nat.le_refl _)], rfl⟩
end Go.Proofs.Ytefkjpcgcgofgaa
