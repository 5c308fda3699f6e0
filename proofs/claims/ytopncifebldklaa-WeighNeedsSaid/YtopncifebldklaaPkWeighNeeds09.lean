/- Part 9 of what LawWeighNeeds needs: Together, Together2, Together3, Path, TreeDeep, TreeHalves. Conditions: as each lemma names. -/
import Derived.Test.YtopncifebldklaaPkWeighNeeds07
import Derived.Test.YtopncifebldklaaPkWeighNeeds08
import Derived.Test.YtopncifebldklaaShelf
import Derived.Test.YtopncifebldklaaShelfZ
import Derived.StillTailTactics
import Derived.Test.YtopncifebldklaaPkWeighNeeds06
/- grove.Together: what values of trees come to together, with maps.Values, Keys, DeleteFunc and slices.Collect at map[int]int. Conditions: as each lemma names. -/
namespace Go.Proofs.Ytopncifebldklaa
set_option linter.unusedVariables false
set_option linter.unusedSimpArgs false
open Go.RowKit Go.Maps Go.Sort Go.Shelf

/-- the values of a map, in some order -/
def ValsOf (D : DataW Value) (ss : List Int) : Prop :=
  ∃ ps : List (Int × Int), (∀ x, x ∈ ps.map (·.1) ↔ has D (.int .i64 x) = true) ∧ (∀ p ∈ ps, ∀ zd, D.atKey (.int .i64 p.1) zd = .lit (.int .i64 p.2)) ∧ ss = ps.map (·.2)

set_option maxRecDepth 100000 in
set_option maxHeartbeats 1000000 in
theorem mvals1_in (n : Nat) (hn : 1 ≤ n) (l Bm b nn : Nat) (D0 : DataW Value) (J : List Int → World → Prop)
    (hY : ∀ pre x W, J pre W → pre.length < Maps.size D0 → YieldAt Fence.wide (n - 1) Try.prog l #[encZ x] W fun e W' => e = .returned (.bool true) ∧ J (pre ++ [x]) W' ∧ KeepsWalks W W')
    (W : World) (hJ : AbidesFrom W.heap.size J) (hm : W.cell? ⟨Bm, 0, none⟩ = some (.map (some b))) (hown : W.ownsMap Try.prog 3 (plainElem Try.prog 3) b nn D0) (h0 : J [] W) :
    CallsIn Fence.wide n Try.prog 63 #[.func (.yield l) #[] #[], .pointer (some ⟨Bm, 0, none⟩)] W fun e W' => (∃ v, e = .returned v) ∧ ∃ ss : List Int, ValsOf D0 ss ∧ J ss W' := by
  refine callsIn_of_wp Try.func63 rfl trivial ?_ rfl
  simp only [Try.ntmps63, List.size_toArray, List.length_cons, List.length_nil, Nat.reduceAdd, Nat.reduceSub, Array.replicate_succ, Array.replicate_zero, List.push_toArray, List.append_toArray, List.nil_append, List.cons_append]
  gi_wp2_with (first
    | (gi_at_range; refine wpListIn_range_own _ rfl _ 87 rfl 3 3 (int_keyed Try.underlying3) Try.underlying87 _ b nn _ rfl hown ?_; intro w0 hrg0 hg0 hs0)
    | gi_in)
  go_frame
  gi_loopw [4] (fun _ wr => ∃ (left : Lit → Bool) (cnt : Nat) (ps : List (Int × Int)), wr.ranges Try.prog 3 (plainElem Try.prog 3) b W.heap.size nn D0 left cnt ∧ ps.length + cnt ≤ Maps.size D0 ∧ CollectedI D0 left (ps.map (·.1)) ∧ (∀ p ∈ ps, ∀ zd, D0.atKey (.int .i64 p.1) zd = .lit (.int .i64 p.2)) ∧ J (ps.map (·.2)) wr)
    (fun _ wr => wr.rangeLeft b W.heap.size)
  case atStart =>
    exact ⟨_, _, [], hrg0, by simp, CollectedI.start D0, by simp, hJ [] W w0 none h0 hg0 (fun r e => by cases e)⟩
  case round =>
    obtain ⟨left, cnt, ps, hrg, hcs, hC, hV, hJs⟩ := hrel
    gi_wp2_with (first
      | (gi_at_next; refine wpListIn_next_ranges _ rfl _ rfl 3 (int_keyed Try.underlying3) (plainElem Try.prog 3) encZ (Value.int .i64) (fun key kl hk => by obtain ⟨x, hx, _⟩ := Maps.keyOf_i64 Try.underlying3 hk; exact ⟨x, hx⟩) (fun v y hv => by obtain ⟨c, rfl, _⟩ := plainElem_int_inv Try.underlying3 hv; exact ⟨c, rfl⟩) b W.heap.size nn _ _ _ rfl hrg ?_ ?_)
      | gi_in)
    · intro hc0 hl0
      gi_wp2
      go_end0
      exact ⟨⟨_, rfl⟩, _, ⟨ps, fun x => by rw [hC.2 x, hl0]; simp, hV, rfl⟩, hJs⟩
    · intro x c kl yd yp w2 cnt2 hkey hlk hv hat hrg2 hlt hg2 hs2 hen
      obtain ⟨x', ex, rfl, _⟩ := Maps.keyOf_i64 Try.underlying3 hkey
      obtain rfl : x = x' := encZ_inj ex
      obtain ⟨c', ec, ez, _⟩ := plainElem_int_inv Try.underlying3 hv
      obtain rfl : c = c' := by simpa using ec
      obtain rfl : yd = .lit (.int .i64 c) := (Prod.mk.inj ez).1
      have hJ2 : J (ps.map (·.2)) w2 := hJ _ wr w2 (some W.heap.size) hJs hg2 (fun r e => by cases e; exact ⟨Nat.le_refl _, hrg.iter_walk⟩)
      obtain ⟨fn, tmps, assign, body, hy, hR⟩ := hY (ps.map (·.2)) c w2 hJ2 (by simp; omega)
      dsimp only [encZ] at hy
      clear hs2
      gi_wp2
      refine hR.mono ?_
      have hC2 : CollectedI D0 (fun z => left z && !z.sameKey (.int .i64 x)) ((ps ++ [(x, c)]).map (·.1)) := by simpa using hC.step hlk hat
      have hV2 : ∀ p ∈ ps ++ [(x, c)], ∀ zd, D0.atKey (.int .i64 p.1) zd = .lit (.int .i64 p.2) := fun p hp => (List.mem_append.1 hp).elim (hV p) (fun e => by simp at e; subst e; exact hat)
      rintro e W3 ⟨rfl, hJ3, hk3⟩
      gi_wp2
      have hrg3 := hrg2.of_walks hk3
      go_roundw
      case rel => exact ⟨_, cnt2, ps ++ [(x, c)], hrg3, by simp; omega, hC2, hV2, by simpa using hJ3⟩
      case measure => rw [hrg3.left_eq, hrg.left_eq]; exact hlt
theorem own_map_of_below {P : Program} {w w' : World} {k : TypeId} {R : Value → Option (DataW Value × List MemPlace)} {B b n : Nat} {D : DataW Value} (h : w.ownsMap P k R b n D) (hb : Below B w w') (hB : b < B) : w'.ownsMap P k R b n D := by
  obtain ⟨es, cl, h1, h2⟩ := h
  exact ⟨es, cl, (hb.block b hB).trans h1, h2⟩
theorem mvals_gives (n : Nat) (hn : 1 ≤ n) (Bm b nn : Nat) (D0 : DataW Value) (w : World) (hBm : Bm < w.heap.size) (hm : w.cell? ⟨Bm, 0, none⟩ = some (.map (some b))) (hown : w.ownsMap Try.prog 3 (plainElem Try.prog 3) b nn D0) :
    SeqGives Fence.wide n Try.prog 63 #[.pointer (some ⟨Bm, 0, none⟩)] encZ (ValsOf D0) (Maps.size D0) w := fun l J W hW hJ hY h0 =>
  mvals1_in n hn l Bm b nn D0 J hY W hJ ((hW.cell (p := ⟨Bm, 0, none⟩) hBm).trans hm) (own_map_of_below hown hW hown.lt) h0
theorem mvals_any (mb : Option Nat) (w : World) :
    Calls Try.prog 47 #[.map mb] w fun e w' => e = .returned (.func (.func 63) #[] #[.pointer (some ⟨w.heap.size, 0, none⟩)]) ∧ w' = w.alloc (.cells #[.map mb] 87) := by
  go_enter Try.func47, Try.ntmps47
  go_wp2_with fail
  go_ret
  exact ⟨rfl, rfl⟩
theorem mkeys_any (mb : Option Nat) (w : World) :
    Calls Try.prog 51 #[.map mb] w fun e w' => e = .returned (.func (.func 64) #[] #[.pointer (some ⟨w.heap.size, 0, none⟩)]) ∧ w' = w.alloc (.cells #[.map mb] 87) := by
  go_enter Try.func51, Try.ntmps51
  go_wp2_with fail
  go_ret
  exact ⟨rfl, rfl⟩
theorem mcollect_any (g : Nat) (lb : Array Value) (eg : ∀ args w, (callFunc g args).run Try.prog w = .ok (.enter g args) w) (S : List Int → Prop) (N : Nat) (hN : N ≤ 1000000) (w : World) (hseq : SeqGives Fence.wide 3 Try.prog g lb encZ S N w) :
    Calls Try.prog 46 #[.func (.func g) #[] lb] w fun e w' => ∃ (v : Value) (ss : List Int), e = .returned v ∧ S ss ∧ IOwn w' w.heap.size v ss ∧ Below w.heap.size w w' := by
  refine (callsIn_wide (n := 5)).1 ?_
  have h := AnyZI.collect_in Try.collectZ Fence.wide 5 trivial trivial rfl (by omega) g lb trivial eg S N (by unfold maxLen; omega) (by omega) w hseq
  refine CallsIn.mono h ?_
  rintro e w' ⟨v, ss, rfl, hS, hrow, _, hb⟩
  exact ⟨v, ss, rfl, hS, hrow, hb⟩
theorem mkeys_gives (n : Nat) (hn : 1 ≤ n) (Bm b nn : Nat) (D0 : DataW Value) (w : World) (hBm : Bm < w.heap.size) (hm : w.cell? ⟨Bm, 0, none⟩ = some (.map (some b))) (hown : w.ownsMap Try.prog 3 (plainElem Try.prog 3) b nn D0) :
    SeqGives Fence.wide n Try.prog 64 #[.pointer (some ⟨Bm, 0, none⟩)] encZ (fun ss => ss.Perm (intKeys D0)) (Maps.size D0) w :=
  AnyZI.keys_gives (ρ := Try.keysZ_ren) { Try.keysZ with } Fence.wide n trivial rfl hn Bm b nn D0 w hBm hm hown
end Go.Proofs.Ytopncifebldklaa
/- grove.Together: the contract. Conditions: as each lemma names. -/
namespace Go.Proofs.Ytopncifebldklaa
set_option linter.unusedVariables false
set_option linter.unusedSimpArgs false
open Go.RowKit Go.Maps Go.Sort Go.Shelf

/-- the map of votes -/
structure VoteMap (D : DataW Value) (ps : Ps) : Prop where
  has_ : ∀ x : Int, Maps.has D (.int .i64 x) = decide (x ∈ ps.map (·.1))
  at_ : ∀ x ∈ ps.map (·.1), ∀ z, D.atKey (.int .i64 x) z = .lit (.int .i64 (pVotes ps x))
theorem VoteMap.zero : VoteMap (.map []) [] := ⟨fun x => by simp [Maps.has], fun x hx => by simp at hx⟩
theorem VoteMap.next {D : DataW Value} {ps : Ps} (h : VoteMap D ps) (hD : IsMap D) (p : Int × Int) {c : Int} (hc : D.atKey (.int .i64 p.1) (.lit (.int .i64 0)) = .lit (.int .i64 c)) :
    VoteMap (D.put (.int .i64 p.1) (.lit (.int .i64 (c + p.2)))) (ps ++ [p]) ∧ c = pVotes ps p.1 := by
  have hcv : c = pVotes ps p.1 := by
    by_cases hm : p.1 ∈ ps.map (·.1)
    · rw [h.at_ _ hm] at hc; simpa using hc.symm
    · rw [atKey_of_not_has (by rw [h.has_]; simpa using hm)] at hc
      rw [pVotes_none hm]; simpa using hc.symm
  refine ⟨⟨fun x => ?_, fun x hx z => ?_⟩, hcv⟩
  · by_cases e : x = p.1
    · subst e; rw [has_put_same hD (show WideAt.IsKeyLit (Lit.int .i64 p.1) from trivial)]; simp
    · rw [has_put_other (by intro h; injection h with _ h; exact e h), h.has_]; simp [e]
  · by_cases e : x = p.1
    · subst e; rw [atKey_put_same hD (show WideAt.IsKeyLit (Lit.int .i64 p.1) from trivial), pVotes_snoc_same, hcv]
    · rw [atKey_put_other (by intro h; injection h with _ h; exact e h), pVotes_snoc_other _ _ (Ne.symm e)]
      refine h.at_ x ?_ z
      simp [e] at hx ⊢
      exact hx
/-- has an entry fewer votes? -/
def fewD (best : Int) (_ : Lit) : DataW Value → Bool
  | .lit (.int _ v) => decide (v < best)
  | _ => false
theorem keys_left {P : Program} {w : World} {k : TypeId} {b n : Nat} {D : DataW Value} {ps : Ps} {best : Int} (K : Keyed P k) (hk : P.underlying k = some (.int .i64)) {R : Value → Option (DataW Value × List MemPlace)} (hown : w.ownsMap P k R b n D) (hv : VoteMap D ps) {ss : List Int}
    (hs : ss.Perm (intKeys (Lib.deleteFuncD (fewD best) D))) : ∀ x, x ∈ ss ↔ x ∈ ps.map (·.1) ∧ best ≤ pVotes ps x := by
  intro x
  obtain ⟨es, hD, hpw, _⟩ := hown.entries K
  obtain ⟨es', hD', hko⟩ := hown.keysOf
  obtain rfl : es = es' := by rw [hD] at hD'; simpa using hD'
  subst hD
  rw [hs.mem_iff]
  show x ∈ (es.filter fun p => !fewD best p.1 p.2).map (fun p => Go.intOf p.1) ↔ _
  have key : ∀ p ∈ es, ∃ y, p.1 = .int .i64 y ∧ p.2 = .lit (.int .i64 (pVotes ps y)) ∧ y ∈ ps.map (·.1) := by
    intro p hp
    obtain ⟨v, hv'⟩ := hko p hp
    obtain ⟨y, _, hy, _⟩ := Maps.keyOf_i64 hk hv'
    have hh : Maps.has (.map es) (.int .i64 y) = true := by
      rw [has_eq, List.any_eq_true]
      exact ⟨p, hp, by rw [hy]; simp [Lit.sameKey]⟩
    rw [hv.has_] at hh
    have hy2 : y ∈ ps.map (·.1) := by simpa using hh
    have h1 := hv.at_ y hy2 .nil
    have h2 := WideAt.atKey_mem (.nil : DataW Value) (k := .int .i64 y) trivial hpw (d := p.2) (by rw [← hy]; exact hp)
    exact ⟨y, hy, h2.symm.trans h1, hy2⟩
  rw [List.mem_map]
  constructor
  · rintro ⟨p, hp, rfl⟩
    obtain ⟨hp1, hp2⟩ := List.mem_filter.1 hp
    obtain ⟨y, hy, hd, hm⟩ := key p hp1
    rw [hy]
    rw [hd] at hp2
    simp [fewD] at hp2
    exact ⟨hm, hp2⟩
  · rintro ⟨hm, hb⟩
    have hh : Maps.has (.map es) (.int .i64 x) = true := by rw [hv.has_]; simpa using hm
    rw [has_eq, List.any_eq_true] at hh
    obtain ⟨p, hp, hsk⟩ := hh
    obtain ⟨y, hy, hd, _⟩ := key p hp
    rw [hy] at hsk
    have hxy : y = x := by simpa [Lit.sameKey] using hsk
    subst hxy
    refine ⟨p, List.mem_filter.2 ⟨hp, ?_⟩, by rw [hy]; rfl⟩
    rw [hd]
    simp [fewD]
    exact hb
theorem vote_of {ps : Ps} {vs ss : List Int} {D : DataW Value} (hv : VoteMap D ps) (hvs : ValsOf D vs) (hne : ps ≠ []) (hss : ∀ x, x ∈ ss ↔ x ∈ ps.map (·.1) ∧ Lib.maxOf vs ≤ pVotes ps x) : vs ≠ [] ∧ ss ≠ [] ∧ IsVote ps (Lib.minOf ss) := by
  obtain ⟨qs, h1, h2, rfl⟩ := hvs
  have hq : ∀ p ∈ qs, p.1 ∈ ps.map (·.1) ∧ p.2 = pVotes ps p.1 := by
    intro p hp
    have hh := (h1 p.1).1 (List.mem_map.2 ⟨p, hp, rfl⟩)
    rw [hv.has_] at hh
    have hm : p.1 ∈ ps.map (·.1) := by simpa using hh
    have := h2 p hp .nil
    rw [hv.at_ _ hm] at this
    exact ⟨hm, by simpa using this.symm⟩
  have hq2 : ∀ x ∈ ps.map (·.1), pVotes ps x ∈ qs.map (·.2) := by
    intro x hx
    have := (h1 x).2 (by rw [hv.has_]; simpa using hx)
    obtain ⟨p, hp, rfl⟩ := List.mem_map.1 this
    exact List.mem_map.2 ⟨p, hp, (hq p hp).2⟩
  have hvn : qs.map (·.2) ≠ [] := by
    cases ps with
    | nil => exact absurd rfl hne
    | cons a r =>
      intro e
      have := hq2 a.1 (by simp)
      rw [e] at this; cases this
  obtain ⟨hmx, hall⟩ := maxOf_spec hvn
  obtain ⟨p, hp, hpe⟩ := List.mem_map.1 hmx
  have hpm := hq p hp
  have hsn : ss ≠ [] := by
    intro e
    have := (hss p.1).2 ⟨hpm.1, by rw [← hpe, hpm.2]; exact Int.le_refl _⟩
    rw [e] at this; cases this
  obtain ⟨hmin, hmall⟩ := minOf_spec hsn
  obtain ⟨hm1, hm2⟩ := (hss _).1 hmin
  refine ⟨hvn, hsn, hm1, fun v hv' => ?_, fun v hv' e => hmall v ((hss v).2 ⟨hv', by rw [e]; exact hm2⟩)⟩
  exact Int.le_trans (hall _ (hq2 v hv')) hm2

theorem few_any (key : Value) (v best : Int) (bx : Nat) (W : World) (hx : W.cell? ⟨bx, 0, none⟩ = some (.int .i64 best)) :
    Calls Try.prog 49 (#[key, .int .i64 v] ++ #[.pointer (some ⟨bx, 0, none⟩)]) W fun e w' => e = .returned (.bool (decide (v < best))) ∧ w' = W := by
  go_enter Try.func49, Try.ntmps49
  go_wp2
  go_ret
  exact ⟨rfl, rfl⟩
theorem mdel_any (b n bx : Nat) (D : DataW Value) (best : Int) (w : World) (hown : w.ownsMap Try.prog 3 (plainElem Try.prog 3) b n D) (hx : w.cell? ⟨bx, 0, none⟩ = some (.int .i64 best)) (hne : bx ≠ b) :
    Calls Try.prog 48 #[.map (some b), .func (.func 49) #[] #[.pointer (some ⟨bx, 0, none⟩)]] w fun e w' => e = .returned (.tuple #[]) ∧ w'.ownsMap Try.prog 3 (plainElem Try.prog 3) b n (Lib.deleteFuncD (fewD best) D) ∧ w.grownBy w' (some b) :=
  AnyDf.maps_DeleteFunc Try.delZ (int_keyed Try.underlying3) (plainElem Try.prog 3) (fewD best) 49 #[.pointer (some ⟨bx, 0, none⟩)] b n D w (enters_of Try.func49 (by kernel_rfl) rfl) hown (fun W key val kl yd yp hg _ hv => by
    obtain ⟨c, rfl, hy, _⟩ := plainElem_int_inv Try.underlying3 hv
    obtain rfl : yd = .lit (.int .i64 c) := by simpa using (congrArg Prod.fst hy)
    exact (few_any key c best bx W (hg.cell hx (fun e => hne (by injection e)))).mono fun _ _ ⟨he, hw⟩ => ⟨he, hw ▸ World.grownBy.refl _ _⟩)

theorem max_any (v : Value) (l : List Int) (base : Nat) (w : World) (ho : IOwn w base v l) (hne : l ≠ []) : Calls Try.prog 45 #[v] w fun e w' => e = .returned (.int .i64 (Lib.maxOf l)) ∧ w = w' := by
  obtain ⟨A, c, rfl, hr, hm, _, _⟩ := ho.slice_
  have hpos : 0 < l.length := List.length_pos_iff.2 hne
  obtain ⟨b, off, rfl, _, hc⟩ := Reads.spot hr hpos (by omega)
  have := Try.slices_Max_int b off l.length c l w hpos (Nat.le_refl _) (by unfold maxLen at hm; omega) (fun j hj => hc j _ (by rw [List.getElem?_map, List.getElem?_eq_getElem hj, List.getD_eq_getElem?_getD, List.getElem?_eq_getElem hj]; rfl))
  refine this.mono ?_
  rintro e w' ⟨rfl, rfl⟩
  exact ⟨by rw [List.take_of_length_le (Nat.le_refl _)], rfl⟩
theorem min_any (v : Value) (l : List Int) (base : Nat) (w : World) (ho : IOwn w base v l) (hne : l ≠ []) : Calls Try.prog 50 #[v] w fun e w' => e = .returned (.int .i64 (Lib.minOf l)) ∧ w = w' := by
  obtain ⟨A, c, rfl, hr, hm, _, _⟩ := ho.slice_
  have hpos : 0 < l.length := List.length_pos_iff.2 hne
  obtain ⟨b, off, rfl, _, hc⟩ := Reads.spot hr hpos (by omega)
  have := Try.slices_Min_int b off l.length c l w hpos (Nat.le_refl _) (by unfold maxLen at hm; omega) (fun j hj => hc j _ (by rw [List.getElem?_map, List.getElem?_eq_getElem hj, List.getD_eq_getElem?_getD, List.getElem?_eq_getElem hj]; rfl))
  refine this.mono ?_
  rintro e w' ⟨rfl, rfl⟩
  exact ⟨by rw [List.take_of_length_le (Nat.le_refl _)], rfl⟩
end Go.Proofs.Ytopncifebldklaa
/- grove.Together: the walk. Conditions: as many values as weights, at most 12, cells and weights in their bounds. -/
namespace Go.Proofs.Ytopncifebldklaa
set_option linter.unusedVariables false
set_option linter.unusedSimpArgs false
open Go.RowKit Go.Maps Go.Sort Go.Shelf

theorem zip_take {α β : Type} {l : List α} {s : List β} {k : Nat} {x : α} {y : β} (hx : l[k]? = some x) (hy : s[k]? = some y) : (l.zip s).take (k + 1) = (l.zip s).take k ++ [(x, y)] := by
  rw [List.take_add_one]
  congr 1
  have : (l.zip s)[k]? = some (x, y) := List.getElem?_zip_eq_some.2 ⟨hx, hy⟩
  rw [this]; rfl
theorem keyed_int : Keyed Try.prog 3 := int_keyed Try.underlying3
theorem zero_int (w : World) : (zeroValue 3).run Try.prog w = .ok (.int .i64 0) w := by kernel_rfl
theorem take_in {ps : Ps} {k : Nat} (hw : ∀ p ∈ ps, (-1000000 ≤ p.1 ∧ p.1 ≤ 1000000) ∧ 1 ≤ p.2 ∧ p.2 ≤ 1000) (hk : ps.length ≤ 12) :
    (-12000000000 ≤ pSum (ps.take k) ∧ pSum (ps.take k) ≤ 12000000000) ∧ (0 ≤ pAll (ps.take k) ∧ pAll (ps.take k) ≤ 12000) ∧ ∀ v, 0 ≤ pVotes (ps.take k) v ∧ pVotes (ps.take k) v ≤ 12000 := by
  have hl : (ps.take k).length ≤ 12 := by rw [List.length_take]; omega
  have hm : ∀ p ∈ ps.take k, (-1000000 ≤ p.1 ∧ p.1 ≤ 1000000) ∧ 1 ≤ p.2 ∧ p.2 ≤ 1000 := fun p hp => hw p (List.mem_of_mem_take hp)
  have h1 := pSum_in (ps := ps.take k) (fun p hp => mul_in (hm p hp).1 ⟨by have := (hm p hp).2; omega, (hm p hp).2.2⟩)
  have h2 := pAll_in (ps := ps.take k) (fun p hp => (hm p hp).2)
  refine ⟨by omega, by omega, fun v => ?_⟩
  have h3 := pVotes_in (ps := ps.take k) (v := v) (fun p hp => ⟨by have := (hm p hp).2; omega, (hm p hp).2.2⟩)
  omega

set_option maxRecDepth 100000 in
set_option maxHeartbeats 4000000 in
theorem tog_any (way : Int) (Aw Al : Option Addr) (nw cw nl cl : Nat) (ws l : List Int) (w : World) (hw : IReads w w.heap.size Aw nw ws) (hl : IReads w w.heap.size Al nl l) (hn : nl = nw) (h12 : nl ≤ 12) (hpos : 0 < nl)
    (hwb : ∀ x ∈ ws, 1 ≤ x ∧ x ≤ 1000) (hlb : ∀ x ∈ l, -1000000 ≤ x ∧ x ≤ 1000000) :
    Calls Try.prog 27 #[.int .i64 way, .slice Aw nw cw, .slice Al nl cl] w fun e w' => e = .returned (.int .i64 (togV way ws l)) ∧ Below w.heap.size w w' := by
  subst hn
  have hmm := @run_makeMap Try.prog
  have hlenl := hl.len
  have hlenw := hw.len
  obtain ⟨ps, hps⟩ : ∃ ps, ps = l.zip ws := ⟨_, rfl⟩
  have hpl : ps.length = nl := by rw [hps, List.length_zip, hlenl, hlenw]; exact Nat.min_self _
  have hpb : ∀ p ∈ ps, (-1000000 ≤ p.1 ∧ p.1 ≤ 1000000) ∧ 1 ≤ p.2 ∧ p.2 ≤ 1000 := fun p hp => by
    rw [hps] at hp
    have := List.of_mem_zip (a := p.1) (b := p.2) hp
    exact ⟨hlb _ this.1, hwb _ this.2⟩
  have HB : Hid (∀ k, (-12000000000 ≤ pSum (ps.take k) ∧ pSum (ps.take k) ≤ 12000000000) ∧ (0 ≤ pAll (ps.take k) ∧ pAll (ps.take k) ≤ 12000) ∧ ∀ v, 0 ≤ pVotes (ps.take k) v ∧ pVotes (ps.take k) v ≤ 12000) := hide (fun k => take_in hpb (by omega))
  have HT : Hid (togV way ws l = if way = 1 then pSum ps else if way = 2 then pSum ps / pAll ps else voteV ps) := hide (by rw [hps]; rfl)
  have HA : Hid ((nl : Int) ≤ pAll ps) := hide (by have := (pAll_in (ps := ps) (fun p hp => (hpb p hp).2)).1; rw [hpl] at this; exact this)
  have HPL := hide hpl
  have HPS := hide hps
  have HPB := hide hpb
  clear hpl hps hpb hlenl hlenw hwb hlb
  go_enter Try.func27, Try.ntmps27
  go_wp2_with fail
  have hb0 : Below w.heap.size w (w.alloc (.map #[] 0)) := (Below.refl _ _).alloc (Nat.le_refl _) _
  have ho0 : (w.alloc (.map #[] 0)).ownsMap Try.prog 3 (plainElem (H := Value) Try.prog 3) w.heap.size 0 (.map []) := World.ownsMap_made w Try.prog 3 _
  go_loopw [7, 8, 16] (fun s a i wr => ∃ (k nn : Nat) (S T : Int) (D : DataW Value), k ≤ nl ∧ i = .int .i64 k ∧ s = .int .i64 S ∧ a = .int .i64 T ∧ Hid (S = pSum (ps.take k)) ∧ Hid (T = pAll (ps.take k)) ∧
      nn ≤ k ∧ wr.ownsMap Try.prog 3 (plainElem Try.prog 3) w.heap.size nn D ∧ Hid (VoteMap D (ps.take k)) ∧ Below w.heap.size w wr) (fun _ _ i _ => nl - (Lib.intOf i).toNat)
  case atStart => exact ⟨0, 0, 0, 0, .map [], Nat.zero_le _, rfl, rfl, rfl, hide rfl, hide rfl, Nat.le_refl _, ho0, hide (VoteMap.zero), hb0⟩
  case round =>
    clear ho0 hb0 hmm
    obtain ⟨k, nn, S, T, D, hk, rfl, rfl, rfl, HS, HTT, hnn, hown, HV, hbel⟩ := hrel
    obtain ⟨⟨hS1, hS2⟩, ⟨hT1, hT2⟩, _⟩ := unhide HB k
    rw [← unhide HS] at hS1 hS2
    rw [← unhide HTT] at hT1 hT2
    by_cases hlt : k < nl
    · obtain ⟨b, o, x, rfl, hbb, hx, cx⟩ := (hl.below hbel).get hlt
      obtain ⟨b2, o2, y, rfl, hbb2, hy, cy⟩ := (hw.below hbel).get hlt
      have HZ : Hid (ps.take (k + 1) = ps.take k ++ [(x, y)]) := hide (by rw [unhide HPS]; exact zip_take hx hy)
      obtain ⟨⟨hx1, hx2⟩, hy1, hy2⟩ := unhide HPB (x, y) (by rw [unhide HPS]; exact List.mem_of_getElem? (List.getElem?_zip_eq_some.2 ⟨hx, hy⟩))
      dsimp only at hx1 hx2 hy1 hy2
      obtain ⟨hm1, hm2⟩ := mul_in ⟨hx1, hx2⟩ ⟨by omega, hy2⟩
      have hkey := keyI_key (P := Try.prog) Try.underlying3 (x := x) (by omega)
      have hDm := hown.isMap
      clear hx hy
      go_wp2_with fail
      have hpl := (World.ownsMap.drew hown).lookup_int keyed_int Try.underlying87 Try.underlying3 (zero_int _) hkey
      obtain ⟨c, hlk, hat, hwc⟩ := hpl
      obtain ⟨hV2, hcv⟩ := (unhide HV).next hDm (x, y) hat
      obtain ⟨hc1, hc2⟩ := (unhide HB k).2.2 x
      dsimp only at hcv
      rw [← hcv] at hc1 hc2
      have HV2 := hide hV2
      clear hV2 hcv hat hwc
      have hsum : IntKind.i64.wrap (c + y) = c + y := IntWalk.i64_in _ (by omega)
      go_still_tail 8, (by kernel_rfl)
      have hnn2 : nn < maxLen := by unfold maxLen; omega
      have howd := World.ownsMap.drew hown
      have hel : plainElem (H := Value) Try.prog 3 (.int .i64 (c + y)) = some (.lit (.int .i64 (c + y)), []) := plainElem_int Try.underlying3 (WalkArith.wf_i64 (by omega))
      refine wpList_mapUpdate_own _ rfl _ _ _ 87 rfl 3 3 keyed_int Try.underlying87 _ w.heap.size nn _ rfl howd hnn2 _ _ _ rfl rfl hkey _ _ hel ?_
      intro w2 hown2 hgr
      have hbel2 : Below w.heap.size w w2 := by
        refine hbel.trans ?_
        have hg' : wr.drew.grownBy w2 (some w.heap.size) := hgr
        exact ((Below.refl w.heap.size wr).drew).grown hg' hbel.size (fun j hj => by injection hj with hj; omega)
      have HS2 : Hid (S + x * y = pSum (ps.take (k + 1))) := hide (by rw [unhide HZ, pSum_snoc, unhide HS])
      have HT2 : Hid (T + y = pAll (ps.take (k + 1))) := hide (by rw [unhide HZ, pAll_snoc, unhide HTT])
      have HV3 : Hid (VoteMap (D.put (keyI x) (.lit (.int .i64 (c + y)))) (ps.take (k + 1))) := hide (by rw [unhide HZ]; exact unhide HV2)
      clear hsum howd hgr hlk hel hown HV2 HV hbel hDm
      go_wp2_with fail
      go_roundw
      case rel => exact ⟨k + 1, nn + 1, _, _, _, by omega, by go_num, rfl, rfl, HS2, HT2, by omega, hown2, HV3, hbel2⟩
      case measure => simp [Lib.intOf]; omega
    · obtain rfl : k = nl := by omega
      have htk : ps.take k = ps := List.take_of_length_le (by rw [unhide HPL]; exact Nat.le_refl _)
      have hVM := unhide HV
      have hS0 := unhide HS
      have hT0 := unhide HTT
      rw [htk] at hVM hS0 hT0
      have HVM := hide hVM
      have HS0 := hide hS0
      have HT0 := hide hT0
      have hTp : 0 < T := by rw [hT0]; have := unhide HA; omega
      clear hVM hS0 hT0 htk HV HS HTT
      by_cases h1 : way = 1
      · have e1 : (way == 1) = true := by simp [h1]
        have HR : Hid (togV way ws l = S) := hide (by rw [unhide HT, if_pos h1, unhide HS0])
        clear h1
        go_wp2_with fail
        go_ret
        exact ⟨by rw [unhide HR]; rfl, hbel⟩
      have e1 : (way == 1) = false := by simp [h1]
      by_cases h2 : way = 2
      · have e2 : (way == 2) = true := by simp [h2]
        have HR : Hid (togV way ws l = S / T) := hide (by rw [unhide HT, if_neg h1, if_pos h2, unhide HS0, unhide HT0])
        clear h1 h2
        go_wp2_with fail
        refine (floor_any S T _ hTp (by omega) (by omega) (by omega)).mono ?_
        rintro e w3 ⟨rfl, rfl⟩
        go_wp2_with fail
        go_ret
        exact ⟨by rw [unhide HR]; rfl, hbel⟩
      have e2 : (way == 2) = false := by simp [h2]
      have HR : Hid (togV way ws l = voteV ps) := hide (by rw [unhide HT, if_neg h1, if_neg h2])
      have hsz := hown.size_le
      have hmlt := hown.lt
      have hps0 : ps ≠ [] := by intro e; have := unhide HPL; rw [e] at this; simp at this; omega
      have HP0 := hide hps0
      clear h1 h2 hps0
      go_wp2_with fail
      refine (mvals_any _ _).mono ?_
      rintro e w3 ⟨rfl, rfl⟩
      have hB1 : Below wr.heap.size wr (wr.alloc (.cells #[.map (some w.heap.size)] 87)) := (Below.refl _ _).alloc (Nat.le_refl _) _
      have hbx : (wr.alloc (.cells #[.map (some w.heap.size)] 87)).cell? ⟨wr.heap.size, 0, none⟩ = some (.map (some w.heap.size)) := (Blk.new wr 87 #[.map (some w.heap.size)]).cell 0
      have hs1 : (wr.alloc (.cells #[.map (some w.heap.size)] 87)).heap.size = wr.heap.size + 1 := by simp
      have ho1 := own_map_of_below hown hB1 hmlt
      have hbel1 := hbel.trans (hB1.mono hbel.size)
      generalize wr.alloc (.cells #[.map (some w.heap.size)] 87) = w1 at *
      have hcol := mcollect_any 63 #[.pointer (some ⟨wr.heap.size, 0, none⟩)] (enters_of Try.func63 (by kernel_rfl) rfl) (ValsOf D) (Maps.size D) (by omega) w1
        (mvals_gives 3 (by omega) wr.heap.size w.heap.size nn D w1 (by omega) hbx ho1)
      have HC := hide hcol
      clear hcol hbx
      go_wp2_with fail
      refine (unhide HC).mono ?_
      rintro e w3 ⟨v3, vs, rfl, hvs, hown3, hb3⟩
      clear HC
      have ho3 := own_map_of_below ho1 hb3 ho1.lt
      have hbel3 := hbel1.trans (hb3.mono hbel1.size)
      have hvn : vs ≠ [] := (vote_of (unhide HVM) hvs (unhide HP0) (ss := (ps.map (·.1)).filter fun x => Lib.maxOf vs ≤ pVotes ps x) (fun x => by simp [List.mem_filter])).1
      have hmax := max_any v3 vs _ w3 hown3 hvn
      have HVS := hide hvs
      have HVN := hide hvn
      clear hvs hvn hown hB1
      go_wp2_with fail
      refine hmax.mono ?_
      rintro e w4 ⟨rfl, rfl⟩
      clear hmax
      obtain ⟨best, hbest⟩ : ∃ b, b = Lib.maxOf vs := ⟨_, rfl⟩
      rw [← hbest]
      have HBE := hide hbest
      clear hbest
      go_wp2_with fail
      have hz3 := hb3.size
      have hB4 : Below w3.heap.size w3 (w3.alloc (.cells #[.int .i64 best] 3)) := (Below.refl _ _).alloc (Nat.le_refl _) _
      have hbx4 : (w3.alloc (.cells #[.int .i64 best] 3)).cell? ⟨w3.heap.size, 0, none⟩ = some (.int .i64 best) := (Blk.new w3 3 #[.int .i64 best]).cell 0
      have hs4 : (w3.alloc (.cells #[.int .i64 best] 3)).heap.size = w3.heap.size + 1 := by simp
      have ho4 := own_map_of_below ho3 hB4 ho3.lt
      have hbel4 := hbel3.trans (hB4.mono hbel3.size)
      have hlt3 := ho3.lt
      clear hown3 hb3 hB4
      generalize w3.alloc (.cells #[.int .i64 best] 3) = w4 at *
      have hdel := mdel_any w.heap.size nn w3.heap.size D best w4 ho4 hbx4 (by omega)
      clear hbx4
      refine hdel.mono ?_
      clear hdel
      rintro e w5 ⟨rfl, ho5, hg5⟩
      have hbel5 : Below w.heap.size w w5 := hbel4.grown hg5 hbel4.size (fun j hj => by injection hj with hj; omega)
      go_wp2_with fail
      refine (mkeys_any _ _).mono ?_
      rintro e w6 ⟨rfl, rfl⟩
      have hB6 : Below w5.heap.size w5 (w5.alloc (.cells #[.map (some w.heap.size)] 87)) := (Below.refl _ _).alloc (Nat.le_refl _) _
      have hbx6 : (w5.alloc (.cells #[.map (some w.heap.size)] 87)).cell? ⟨w5.heap.size, 0, none⟩ = some (.map (some w.heap.size)) := (Blk.new w5 87 #[.map (some w.heap.size)]).cell 0
      have hs6 : (w5.alloc (.cells #[.map (some w.heap.size)] 87)).heap.size = w5.heap.size + 1 := by simp
      have ho6 := own_map_of_below ho5 hB6 ho5.lt
      have hbel6 := hbel5.trans (hB6.mono hbel5.size)
      generalize w5.alloc (.cells #[.map (some w.heap.size)] 87) = w6 at *
      have hsz6 := ho6.size_le
      have hcol6 := mcollect_any 64 #[.pointer (some ⟨w5.heap.size, 0, none⟩)] (enters_of Try.func64 (by kernel_rfl) rfl) _ (Maps.size (Lib.deleteFuncD (fewD best) D)) (by omega) w6
        (mkeys_gives 3 (by omega) w5.heap.size w.heap.size nn (Lib.deleteFuncD (fewD best) D) w6 (by omega) hbx6 ho6)
      have HC6 := hide hcol6
      clear hcol6 hbx6
      go_wp2_with fail
      refine (unhide HC6).mono ?_
      rintro e w7 ⟨v7, ss, rfl, hss, hown7, hb7⟩
      clear HC6
      have hbel7 := hbel6.trans (hb7.mono hbel6.size)
      have hkl := keys_left (P := Try.prog) keyed_int Try.underlying3 ho4 (unhide HVM) hss
      rw [unhide HBE] at hkl
      obtain ⟨_, hsn, hvote⟩ := vote_of (unhide HVM) (unhide HVS) (unhide HP0) hkl
      have HR2 : Hid (togV way ws l = Lib.minOf ss) := hide (by rw [unhide HR, voteV_eq hvote])
      have hmin := hide (min_any v7 ss _ w7 hown7 hsn)
      clear hkl hsn hvote hss hown7
      go_wp2_with fail
      refine (unhide hmin).mono ?_
      rintro e w8 ⟨rfl, rfl⟩
      go_wp2_with fail
      go_ret
      exact ⟨by rw [unhide HR2]; rfl, hbel7⟩
end Go.Proofs.Ytopncifebldklaa
/- path.Path: the way of a row. Conditions: arguments read as lists. -/
namespace Go.Proofs.Ytopncifebldklaa
set_option linter.unusedVariables false
set_option linter.unusedSimpArgs false
open Go.RowKit

/-- the nodes behind a node on the way of a row -/
def wayFrom (t : List Nd) (row : List Int) : Nat → Nat → List Int
  | 0, _ => []
  | k + 1, i => match t[i]? with
    | some n => if n.f = -1 then [] else nextOf n (cellAt row n.f) :: wayFrom t row k (nextOf n (cellAt row n.f)).toNat
    | none => []
theorem wayFrom_leaf {t : List Nd} {row : List Int} {k i : Nat} {n : Nd} (h : t[i]? = some n) (hf : n.f = -1) : wayFrom t row k i = [] := by
  cases k with
  | zero => rfl
  | succ k => simp only [wayFrom, h, hf, if_true]
theorem wayFrom_step {t : List Nd} {row : List Int} {k i : Nat} {n : Nd} (h : t[i]? = some n) (hf : n.f ≠ -1) : wayFrom t row (k + 1) i = nextOf n (cellAt row n.f) :: wayFrom t row k (nextOf n (cellAt row n.f)).toNat := by
  simp only [wayFrom, h, hf, if_false]
theorem wayFrom_len {t : List Nd} {row : List Int} (hb : Behind t) : ∀ (k i : Nat), i < t.length → (wayFrom t row k i).length ≤ dep t i := by
  intro k
  induction k with
  | zero => intro i _; exact Nat.zero_le _
  | succ k ih =>
    intro i hi
    have hn : t[i]? = some t[i] := List.getElem?_eq_getElem hi
    by_cases hf : (t[i]).f = -1
    · rw [wayFrom_leaf hn hf]; exact Nat.zero_le _
    · obtain ⟨a, b, c, d⟩ := hb i _ hn hf
      rw [wayFrom_step hn hf, List.length_cons, dep_at hn (fun _ => a) (fun _ => c), if_neg hf]
      have e : nextOf t[i] (cellAt row (t[i]).f) = (t[i]).l ∨ nextOf t[i] (cellAt row (t[i]).f) = (t[i]).r := by
        unfold nextOf; split
        · exact .inl rfl
        · exact .inr rfl
      rcases e with e | e
      · rw [e]
        have := ih (t[i]).l.toNat (by omega)
        have := Nat.le_max_left (dep t (t[i]).l.toNat) (dep t (t[i]).r.toNat)
        omega
      · rw [e]
        have := ih (t[i]).r.toNat (by omega)
        have := Nat.le_max_right (dep t (t[i]).l.toNat) (dep t (t[i]).r.toNat)
        omega
def pathV (t : List Nd) (row : List Int) : List Int := if readyE t row = 0 then 0 :: wayFrom t row t.length 0 else []
def PathPost (t : List Nd) (row : List Int) (w : World) (e : Ending) (w' : World) : Prop :=
  ∃ v, e = .returned (.tuple #[v, errV (readyE t row)]) ∧ w'.ownsRow w.heap.size 3 1 v (pathV t row).length ((pathV t row).map (Value.int .i64)) ∧ Below w.heap.size w w'

end Go.Proofs.Ytopncifebldklaa
/- TreeDeep: the walk of the law's function. Conditions: arguments read as lists. -/
namespace Go.Proofs.Ytopncifebldklaa
set_option linter.unusedVariables false
set_option linter.unusedSimpArgs false
open Go.RowKit

def tree3 (a b : Int) : List Nd := [⟨0, 0, 1, 2, false, 0⟩, ⟨-1, 0, 0, 0, false, a⟩, ⟨-1, 0, 0, 0, false, b⟩]
theorem tree3_right : treeE (tree3 0 0) 8 = 0 := by decide
theorem tree3_depth : depthV (tree3 0 0) = 1 := by decide

theorem pow_step {k x : Nat} (h : x = 2 ^ k) : x * 2 = 2 ^ (k + 1) := by rw [h, Nat.pow_succ]
theorem pow_le10 {k : Nat} (h : k ≤ 10) : 2 ^ k ≤ 1024 := Nat.le_trans (Nat.pow_le_pow_right (by omega) h) (by decide)

end Go.Proofs.Ytopncifebldklaa
/- TreeHalves: the walk of the law's function. Conditions: arguments read as lists. -/
namespace Go.Proofs.Ytopncifebldklaa
set_option linter.unusedVariables false
set_option linter.unusedSimpArgs false
open Go.RowKit

/-! ### plain -/
theorem leaves_mem {t : List Nd} : ∀ (i k : Nat) (n : Nd), t[k]? = some n → n.f = -1 → ((i + k : Nat) : Int) ∈ leavesFrom i t := by
  induction t with
  | nil => intro i k n h; simp at h
  | cons x r ih =>
    intro i k n h hf
    rw [leavesFrom]
    cases k with
    | zero =>
      simp at h; subst h
      rw [if_pos hf]; simp
    | succ k =>
      have := ih (i + 1) k n (by simpa using h) hf
      rw [show i + 1 + k = i + (k + 1) by omega] at this
      split
      · exact List.mem_cons_of_mem _ this
      · exact this
theorem leafFrom_is {t : List Nd} {row : List Int} (hb : Behind t) : ∀ (F i : Nat), i < t.length → t.length ≤ i + F → ∃ n, t[leafFrom t row F i]? = some n ∧ n.f = -1 := by
  intro F
  induction F with
  | zero => intro i h1 h2; omega
  | succ F ih =>
    intro i h1 h2
    have hn : t[i]? = some t[i] := List.getElem?_eq_getElem h1
    by_cases hf : (t[i]).f = -1
    · rw [leafFrom_leaf hn hf]; exact ⟨_, hn, hf⟩
    · rw [leafFrom_step hn hf]
      obtain ⟨j, hj, hlt, hjl⟩ := nextOf_lt (c := cellAt row (t[i]).f) hb hn hf
      rw [hj, Int.toNat_natCast]
      exact ih j hjl (by omega)
theorem leafOf_is {t : List Nd} {row : List Int} (hb : Behind t) (h0 : 0 < t.length) : ∃ n, t[leafOf t row]? = some n ∧ n.f = -1 := leafFrom_is hb t.length 0 h0 (by omega)
theorem leafFrom_same {t : List Nd} {r s : List Int} (h : ∀ (i : Nat) n, t[i]? = some n → n.f ≠ -1 → cellAt r n.f = cellAt s n.f) : ∀ (F i : Nat), leafFrom t r F i = leafFrom t s F i := by
  intro F
  induction F with
  | zero => intro i; rfl
  | succ F ih =>
    intro i
    cases hn : t[i]? with
    | none => simp only [leafFrom, hn]
    | some n =>
      by_cases hf : n.f = -1
      · rw [leafFrom_leaf hn hf, leafFrom_leaf hn hf]
      · rw [leafFrom_step hn hf, leafFrom_step hn hf, h i n hn hf, ih]
theorem cellAt_set {r : List Int} {f : Nat} {g c : Int} (hg : 0 ≤ g) (h : g ≠ f) : cellAt (r.set f c) g = cellAt r g := by
  unfold cellAt
  rw [List.getD_eq_getElem?_getD, List.getD_eq_getElem?_getD, List.getElem?_set_ne (by omega)]
theorem rowE_set {r : List Int} {f : Nat} {c : Int} (h : rowE r = 0) (hc : -1000000 ≤ c ∧ c ≤ 1000000) : rowE (r.set f c) = 0 := by
  unfold rowE at h ⊢
  split at h
  · cases h
  · rename_i h8
    split at h
    · rename_i ha
      rw [if_neg (by simpa using h8), if_pos]
      rw [List.all_eq_true] at ha ⊢
      intro x hx
      rcases List.mem_or_eq_of_mem_set hx with hx | rfl
      · exact ha x hx
      · exact rowGood_cell hc.1 hc.2
    · cases h
theorem readyE_set {t : List Nd} {r : List Int} {f : Nat} {c : Int} (h : readyE t r = 0) (hc : -1000000 ≤ c ∧ c ≤ 1000000) : readyE t (r.set f c) = 0 := by
  unfold readyE at h ⊢
  split at h
  · rename_i h1
    rw [if_pos (rowE_set h1 hc), List.length_set]; exact h
  · rename_i h1; exact absurd h h1
theorem leafV_set {t : List Nd} {r : List Int} {f : Nat} {c : Int} (h : readyE t r = 0) (hc : -1000000 ≤ c ∧ c ≤ 1000000) (hf : ∀ (i : Nat) n, t[i]? = some n → n.f ≠ f) : leafV t (r.set f c) = leafV t r := by
  have h2 := readyE_set (f := f) h hc
  obtain ⟨_, hR, _⟩ := readyE_right h
  unfold leafV leafOf
  rw [if_pos h, if_pos h2, leafFrom_same (r := r.set f c) (s := r)]
  intro i n hn hf2
  exact cellAt_set (hR.asks i n hn hf2).1 (hf i n hn)

theorem tree3_eval4 : evalV [⟨0, 5, 1, 2, false, 0⟩, ⟨-1, 0, 0, 0, false, 7⟩, ⟨-1, 0, 0, 0, false, 9⟩] [4] = 7 ∧ readyE [⟨0, 5, 1, 2, false, 0⟩, ⟨-1, 0, 0, 0, false, 7⟩, ⟨-1, 0, 0, 0, false, 9⟩] [4] = 0 := by decide
theorem tree3_eval5 : evalV [⟨0, 5, 1, 2, false, 0⟩, ⟨-1, 0, 0, 0, false, 7⟩, ⟨-1, 0, 0, 0, false, 9⟩] [5] = 9 ∧ readyE [⟨0, 5, 1, 2, false, 0⟩, ⟨-1, 0, 0, 0, false, 7⟩, ⟨-1, 0, 0, 0, false, 9⟩] [5] = 0 := by decide

end Go.Proofs.Ytopncifebldklaa
