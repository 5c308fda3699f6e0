/- ChunkBack: what holds of the Fetch between two rounds, and what a Put does to it. Conditions: as each lemma names. -/
import Derived.Test.YtijgiieoinmjhaaDoorChunkBackP
import Derived.Laws.BytesArg
import Derived.Laws.BytesString
namespace Go.Proofs.YtijgiieoinmjhaaDoor
set_option linter.unusedVariables false
set_option linter.unusedSimpArgs false
open Go.RowKit Go.Maps

theorem Reads.none0' {w : World} {B size n : Nat} {xs : List Value} (h : Reads w B size none n xs) : n = 0 := by
  rcases Nat.eq_zero_or_pos n with h0 | h0
  · exact h0
  · obtain ⟨_, e, _⟩ := h.2 h0; cases e
def seenC (S : List (Option (List Int))) : Array Value := (S.map fun o : Option (List Int) => Value.bool o.isSome).toArray
theorem seenC_at {S : List (Option (List Int))} {i : Nat} {o : Option (List Int)} (h : S[i]? = some o) : (seenC S)[i]? = some (.bool o.isSome) := by
  unfold seenC
  rw [List.getElem?_toArray, List.getElem?_map, h]
  rfl
theorem seenC_bool {S : List (Option (List Int))} {i : Nat} {u : Value} (h : (seenC S)[i]? = some u) : ∃ b, u = .bool b := by
  unfold seenC at h
  rw [List.getElem?_toArray, List.getElem?_map] at h
  cases hS : S[i]? with
  | none => rw [hS] at h; cases h
  | some o => rw [hS] at h; injection h with h; exact ⟨_, h.symm⟩
theorem seenC_set {S : List (Option (List Int))} {i : Nat} {bs : List Int} : seenC (S.set i (some bs)) = (seenC S).setIfInBounds i (.bool true) := by
  unfold seenC
  rw [List.map_set, List.setIfInBounds_toArray]
  rfl
theorem seenC_same {S : List (Option (List Int))} {i : Nat} {bs : List Int} (h : S[i]? = some (some bs)) : (seenC S).setIfInBounds i (.bool true) = seenC S := by
  rw [← seenC_set (bs := bs)]
  congr 1
  refine List.ext_getElem? fun j => ?_
  by_cases hj : i = j
  · subst hj
    rw [List.getElem?_set_self (List.getElem?_eq_some_iff.1 h).1, h]
  · rw [List.getElem?_set_ne hj]
theorem Reads.keepI {w w' : World} {B size n : Nat} {A : Option Addr} {xs : List Value} (h : Reads w B size A n xs) (hx : ∀ u ∈ xs, ∃ k x, u = .int k x) (hk : ∀ (p : Addr) k x, w.cell? p = some (.int k x) → w'.cell? p = some (.int k x)) : Reads w' B size A n xs :=
  ⟨h.1, fun hn => by
    obtain ⟨ad, e, hb, hc⟩ := h.2 hn
    refine ⟨ad, e, hb, fun j u hu => ?_⟩
    obtain ⟨k, x, rfl⟩ := hx u (List.mem_of_getElem? hu)
    exact hk _ _ _ (hc j _ hu)⟩
/-- a mark in a row of bools leaves a Fetch -/
theorem FetchIs.mark {w : World} {g b c nn sb : Nat} {l : List Pt} {S S' : List (Option (List Int))} {A : Option Addr} {D : DataW Value} (h : FetchIs w g b l S A c nn D) (hs : Blk w sb 4 (seenC S')) (i : Nat) (u : Value) : FetchIs (w.setCell ⟨sb, i, none⟩ u) g b l S A c nn D := by
  have hk : ∀ (p : Addr) k x, w.cell? p = some (.int k x) → (w.setCell ⟨sb, i, none⟩ u).cell? p = some (.int k x) := by
    intro p k x hp
    rw [World.cell?_setCell_other _ _ _ _ ?_]
    · exact hp
    · intro e
      rw [← e] at hp
      rw [hs.cell i] at hp
      obtain ⟨b', hb'⟩ := seenC_bool hp
      cases hb'
  have hne : b ≠ sb := h.map.ne_blk hs
  have hg : g ≠ sb := Blk.ne_ h.blk hs (by decide)
  have hsz : (w.setCell ⟨sb, i, none⟩ u).heap.size = w.heap.size := by simp [World.setCell]
  refine ⟨h.blk.far hg u, Reads.keepI h.parts ?_ hk, ?_, h.size, h.len, h.cap, h.no, fun k bs hkS => ?_⟩
  · intro v hv
    obtain ⟨s, _, h⟩ := List.mem_flatMap.1 hv
    simp [Pt.cells] at h
    rcases h with rfl | rfl <;> exact ⟨_, _, rfl⟩
  · obtain ⟨es, cl, h1, h2⟩ := h.map.own
    exact ⟨⟨es, cl, (Below.heap_setCell w _ u b hne).trans h1, h2⟩, h.map.tidy⟩
  · obtain ⟨h1, A', c', h2, h3, h4⟩ := h.yes k bs hkS
    refine ⟨h1, A', c', h2, ?_, h4⟩
    rw [hsz]
    refine Reads.keepI h3 (fun v hv => ?_) hk
    obtain ⟨x, _, rfl⟩ := List.mem_map.1 hv
    exact ⟨_, _, rfl⟩

/-- bytes as a string -/
theorem conv_bytes {w : World} {B n c : Nat} {A : Option Addr} {l : List Int} (h : BReads w B A n l) : (convert 22 9 (.slice A n c)).run Tryd.prog w = .ok (.string (strOfNums l)) w := by
  have hl := h.len
  rcases A with _ | a
  · have hn : n = 0 := Reads.none0' h
    subst hn
    obtain rfl : l = [] := List.eq_nil_of_length_eq_zero hl
    exact run_convert_bytes_nil w 22 5 Tryd.underlying22 Tryd.underlying5 0 c 9 Tryd.underlying9
  · rw [run_convert_bytes_string w 22 9 5 _ n c Tryd.underlying22 Tryd.underlying5 Tryd.underlying9, run_bytesToString w a n c l ?_, foldl_push_bytes]
    · simp [strOfNums, ByteArray.empty, ByteArray.emptyWithCapacity]
      rfl
    · have := run_loadCells_list (P := Tryd.prog) w a (l.map (Value.int .u8)) (fun j v hj => by
        have hjl : j < l.length := by
          rcases Nat.lt_or_ge j l.length with h | h
          · exact h
          · rw [List.getElem?_eq_none (by simpa using h)] at hj; cases hj
        obtain ⟨ad, e, _, hc⟩ := h.2 (by omega)
        injection e with e
        subst e
        exact hc j v hj)
      simpa [hl] using this

/-- what holds between two rounds: T rounds are behind -/
def CbInv (l : List Int) (s k g b sb : Nat) (A' : Option Addr) (c' no T : Nat) (wr : World) : Prop :=
  ∃ S D, FetchIs wr g b (ptsL l s k) S A' c' (there S) D ∧ OfPieces l s S ∧ (∀ j, j < k → j + no < T → ∃ bs, S[j]? = some (some bs)) ∧ Blk wr sb 4 (seenC S)
section
variable {l : List Int} {s k g b sb : Nat} {A' : Option Addr} {c' no T : Nat} {wr W : World}
theorem CbInv.below {B : Nat} (h : CbInv l s k g b sb A' c' no T wr) (hb : Below B wr W) (hB : wr.heap.size ≤ B) : CbInv l s k g b sb A' c' no T W := by
  obtain ⟨S, D, h1, h2, h3, h4⟩ := h
  exact ⟨S, D, h1.below hb hB, h2, h3, h4.below hb (by have := h4.lt; omega)⟩
theorem CbInv.skip (h : CbInv l s k g b sb A' c' no T wr) (hT : ∀ j, j < k → j + no ≠ T) : CbInv l s k g b sb A' c' no (T + 1) wr := by
  obtain ⟨S, D, h1, h2, h3, h4⟩ := h
  exact ⟨S, D, h1, h2, fun j hj hjT => h3 j hj (by have := hT j hj; omega), h4⟩

/-- a piece is put -/
theorem put_step {i : Nat} (Ab : Option Addr) (nb cb B2 : Nat) (h : CbInv l s k g b sb A' c' no T wr) (hik : i < k) (hr : BReads wr wr.heap.size Ab nb (piece l s i)) (hn : nb ≤ 6000) (hby : ∀ x ∈ l, 0 ≤ x ∧ x < 256)
    (hA : Ab = none → cb = 0) (hT : ∀ j, j < k → j + no = T → j = i) (hbge : B2 ≤ b) (hB2 : B2 ≤ wr.heap.size) :
    Calls Tryd.prog 11 #[.pointer (some ⟨g, 0, none⟩), .int .i64 i, .slice Ab nb cb] wr fun e w' => ∃ is, e = .returned (.tuple #[.bool is, .nilIface]) ∧ w'.cell? ⟨sb, i, none⟩ = some (.bool (!is)) ∧ w'.frozen? ⟨sb, i, none⟩ = false ∧
      CbInv l s k g b sb A' c' no (T + 1) (w'.setCell ⟨sb, i, none⟩ (.bool true)) ∧ Below B2 wr w' := by
  obtain ⟨S, D, h1, h2, h3, h4⟩ := h
  have hlen := h1.len
  rw [ptsL_len] at hlen
  have hnb : (piece l s i).length = nb := by have := hr.len; exact this
  have hp : (ptsL l s k)[i]? = some (ptOf l s i) := ptsL_at hik
  have hpb := piece_bytes (s := s) (j := i) hby
  obtain ⟨o, ho⟩ : ∃ o, S[i]? = some o := ⟨_, List.getElem?_eq_getElem (by omega)⟩
  have hsbl := h4.lt
  cases o with
  | some bs =>
    have hc : (nb : Int) = (ptOf l s i).size := by unfold ptOf; rw [hnb]
    refine (put_again g b _ S A' c' _ D i Ab nb cb (piece l s i) bs _ wr h1 hp hr (by unfold maxLen; omega) hpb hc rfl ho).mono ?_
    rintro e w' ⟨rfl, hb⟩
    have h4' := h4.below hb hsbl
    have hset := Blk.set_ h4' i (.bool true)
    rw [seenC_same ho] at hset
    refine ⟨false, rfl, ?_, h4'.frozen i, ⟨S, D, (h1.below hb (Nat.le_refl _)).mark h4' i _, h2, fun j hj hjT => ?_, hset⟩, hb.mono hB2⟩
    · rw [h4'.cell i]; exact seenC_at ho
    · by_cases e : j + no = T
      · rw [hT j hj e]; exact ⟨bs, ho⟩
      · exact h3 j hj (by omega)
  | none =>
    have hc : (nb : Int) = (ptOf l s i).size := by unfold ptOf; rw [hnb]
    have hth : there S < 100000 := by have := there_le S; have := h1.cap; rw [ptsL_len] at this; omega
    refine (put_new g b _ S A' c' _ D i Ab nb cb (piece l s i) _ wr h1 hp hr hn hpb hc rfl ho hA hth).mono ?_
    rintro e w' ⟨rfl, ⟨D', h1'⟩, hgr, _⟩
    have hne : b ≠ sb := h1.map.ne_blk h4
    have h4' := h4.grown hgr (fun e => hne (by injection e with e; exact e.symm))
    have hset := Blk.set_ h4' i (.bool true)
    rw [← seenC_set (bs := piece l s i)] at hset
    rw [← there_set ho (bs := piece l s i)] at h1'
    refine ⟨true, rfl, ?_, h4'.frozen i, ⟨_, D', h1'.mark h4' i _, h2.set_, fun j hj hjT => ?_, hset⟩, below_of_grown hgr hB2 hbge⟩
    · rw [h4'.cell i]; exact seenC_at ho
    · by_cases e : j = i
      · subst e; exact ⟨_, List.getElem?_set_self (by omega)⟩
      · rw [List.getElem?_set_ne (Ne.symm e)]
        exact h3 j hj (by have := hT j hj; omega)

/-- a piece of which one byte is another one -/
theorem wrong_step {i a : Nat} {x d : Int} (Ab : Option Addr) (nb cb : Nat) (q : List Int) (h : CbInv l s k g b sb A' c' no T wr) (hik : i < k) (hq : q = (piece l s i).set a d) (hr : BReads wr wr.heap.size Ab nb q) (hn : nb ≤ 6000) (hby : ∀ x ∈ l, 0 ≤ x ∧ x < 256)
    (hx : (piece l s i)[a]? = some x) (hd : 0 ≤ d ∧ d < 256) (hne : x ≠ d) :
    Calls Tryd.prog 11 #[.pointer (some ⟨g, 0, none⟩), .int .i64 i, .slice Ab nb cb] wr fun e w' => e = .returned (.tuple #[.bool false, errV 3]) ∧ Below wr.heap.size wr w' := by
  obtain ⟨S, D, h1, h2, h3, h4⟩ := h
  refine put_shape g b _ S A' c' _ D i Ab nb cb q _ wr h1 (ptsL_at hik) hr (by unfold maxLen; omega) ?_ (.inr ?_)
  · intro y hy
    rw [hq] at hy
    rcases List.mem_or_eq_of_mem_set hy with h | h
    · exact piece_bytes hby y h
    · subst h; exact hd
  · rw [hq]; exact piece_wrong hby hx hd hne

/-- all is there: the bytes, and none is lacking -/
theorem CbInv.all (h : CbInv l s k g b sb A' c' no T wr) (hT : k + no ≤ T) : ∃ S D, FetchIs wr g b (ptsL l s k) S A' c' (there S) D ∧ there S = (ptsL l s k).length ∧ lacksTo S (ptsL l s k).length = [] ∧ (l.length ≤ k * s → bytesOf S = l) := by
  obtain ⟨S, D, h1, h2, h3, h4⟩ := h
  have hlen := h1.len
  have hl2 : S.length = k := by rw [hlen, ptsL_len]
  have hall : ∀ j, j < k → ∃ bs, S[j]? = some (some bs) := fun j hj => h3 j hj (by omega)
  refine ⟨S, D, h1, ?_, ?_, fun hk => h2.bytes hl2 hall hk⟩
  · rw [there_full (fun j hj => hall j (by omega)), hlen]
  · rw [ptsL_len]; exact lacks_full hall
theorem CbInv.first {w2 w3 : World} {D : DataW Value} {vb : Array Value} (h : FetchIs w3 g b (ptsL l s k) (List.replicate k none) A' c' 0 D) (hb : Blk w3 sb 4 vb) (hv : vb = seenC (List.replicate k none)) : CbInv l s k g b sb A' c' no 0 w3 := by
  subst hv
  refine ⟨_, D, ?_, OfPieces.start l s k, fun j hj h => by omega, hb⟩
  have : there (List.replicate k (none : Option (List Int))) = 0 := by
    unfold there
    rw [show (List.replicate k (none : Option (List Int))).filter Option.isSome = [] by rw [List.filter_eq_nil_iff]; intro x hx; rw [List.eq_of_mem_replicate hx]; simp]
    rfl
  rw [this]
  exact h
end
end Go.Proofs.YtijgiieoinmjhaaDoor
