/- Package grow: sum, part. Conditions: samples that read as data. -/
import Derived.Test.YtopncifebldklaaGrowP
import Derived.Test.YtopncifebldklaaApp
import Derived.Test.YtopncifebldklaaWTable
import Derived.Deep.CutRange
namespace Go.Proofs.Ytopncifebldklaa
set_option linter.unusedVariables false
set_option linter.unusedSimpArgs false
open Go.RowKit

theorem elem_smp : Elem Try.prog 27 46 (.agg #[.slice none 0 0, .int .i64 0]) 2 32 := ⟨Try.underlying27, by kernel_rfl, rfl, by omega, by omega⟩
theorem smp_one (A : Option Addr) (n c : Nat) (t : Int) : ∀ u ∈ [Value.slice A n c, .int .i64 t], u.oneCell' = true := by
  intro u hu
  simp at hu
  rcases hu with rfl | rfl <;> rfl
/-- samples of a call's own -/
def MOwn (w : World) (base : Nat) (v : Value) (ss : List Sm) : Prop := w.ownsRow base 46 2 v ss.length (ss.flatMap Sm.cells)
theorem MOwn.nil_ (w : World) (base : Nat) : MOwn w base (.slice none 0 0) [] := World.ownsRow_nil _ _ _ _
theorem MOwn.slice {w : World} {base : Nat} {v : Value} {ss : List Sm} (h : MOwn w base v ss) : ∃ A c, v = .slice A ss.length c ∧ Reads w w.heap.size 2 A ss.length (ss.flatMap Sm.cells) ∧ ss.length ≤ c := by
  obtain ⟨A, c, e, hr, _, hc⟩ := own_slice h
  exact ⟨A, c, e, hr, hc⟩
theorem MOwn.app {w : World} {base : Nat} {v : Value} {ss : List Sm} {s : Sm} (h : w.ownsRow base 46 2 v (ss.length + 1) (ss.flatMap Sm.cells ++ [.slice s.A s.n s.c, .int .i64 s.t])) : MOwn w base v (ss ++ [s]) := by
  unfold MOwn
  rw [List.length_append, List.flatMap_append]
  exact h

set_option maxRecDepth 100000 in
set_option maxHeartbeats 2000000 in
theorem msum_any (A : Option Addr) (n c : Nat) (ss : List Sm) (w : World) (h : MReads w w.heap.size A n ss) (hn : n ≤ 60) (h1 : ∀ s ∈ ss, -1000 ≤ s.t) (h2 : ∀ s ∈ ss, s.t ≤ 1000) :
    Calls Try.prog 54 #[.slice A n c] w fun e w' => e = .returned (.int .i64 (sumM ss)) ∧ Below w.heap.size w w' := by
  have hlen := h.len
  have HB : Hid (∀ k, -60000 ≤ sumM (ss.take k) ∧ sumM (ss.take k) ≤ 60000) := hide fun k => sum_60 (by rw [List.length_take]; omega) (fun s hs => h1 s (List.mem_of_mem_take hs)) (fun s hs => h2 s (List.mem_of_mem_take hs))
  have HT : Hid (ss.take n = ss) := hide (List.take_of_length_le (by omega))
  have HL := hide hlen
  have H1 := hide h1
  have H2 := hide h2
  clear hlen h1 h2
  go_enter Try.func54, Try.ntmps54
  go_wp2_with fail
  go_loopw [3, 8] (fun s i wr => ∃ k : Nat, k ≤ n ∧ s = .int .i64 (sumM (ss.take k)) ∧ i = .int .i64 k ∧ Below w.heap.size w wr) (fun _ i _ => n - (intOf i).toNat)
  case atStart => exact ⟨0, Nat.zero_le _, rfl, rfl, Below.refl _ _⟩
  case round =>
    obtain ⟨k, hk, rfl, rfl, hbel⟩ := hrel
    by_cases hlt : k < n
    · obtain ⟨b, o, s, rfl, _, hx, c0, c1, hok⟩ := (h.below hbel).get hlt
      have HN := hide (sumM_next hx)
      obtain ⟨b1, b2⟩ := unhide HB k
      obtain ⟨S, hS⟩ : ∃ S, S = sumM (ss.take k) := ⟨_, rfl⟩
      rw [← hS] at b1 b2 HN ⊢
      have t1 := unhide H1 s (List.mem_of_getElem? hx)
      have t2 := unhide H2 s (List.mem_of_getElem? hx)
      obtain ⟨sA, sn, sc, sr, st⟩ := s
      dsimp only at c0 c1 HN t1 t2
      have hbA := hbel.alloc hbel.size (.cells #[.slice sA sn sc, .int .i64 st] 46)
      clear hx hok hS
      go_wp2_with fail
      go_roundw
      case rel => exact ⟨k + 1, by omega, by rw [unhide HN], by go_num, hbA⟩
      case measure => simp [intOf]; omega
    · obtain rfl : k = n := by omega
      rw [unhide HT]
      go_wp2_with fail
      go_ret
      exact ⟨rfl, hbel⟩

/-- two rows of samples come back -/
def PartPost (a b : List Sm) (w : World) (e : Ending) (w' : World) : Prop :=
  ∃ A c A' c', e = .returned (.tuple #[.slice A a.length c, .slice A' b.length c']) ∧ (MOwn w' w.heap.size (.slice A a.length c) a ∧ MReads w' w'.heap.size A a.length a) ∧ (MOwn w' w.heap.size (.slice A' b.length c') b ∧ MReads w' w'.heap.size A' b.length b) ∧ Below w.heap.size w w'

set_option maxRecDepth 100000 in
set_option maxHeartbeats 4000000 in
theorem mpart_any (A : Option Addr) (n c f : Nat) (q : Int) (ss : List Sm) (w : World) (h : MReads w w.heap.size A n ss) (hn : n ≤ 60) (hf : ∀ s ∈ ss, f < s.r.length) :
    Calls Try.prog 55 #[.slice A n c, .int .i64 f, .int .i64 q] w (PartPost (lowS f q ss) (highS f q ss) w) := by
  have hlen := h.len
  have HT : Hid (ss.take n = ss) := hide (List.take_of_length_le (by omega))
  have HF := hide hf
  have HL := hide hlen
  clear hlen hf
  go_enter Try.func55, Try.ntmps55
  go_wp2_with fail
  go_loopw [6, 7, 12] (fun u v i wr => ∃ k : Nat, k ≤ n ∧ i = .int .i64 k ∧ Hid (MOwn wr w.heap.size u (lowS f q (ss.take k))) ∧ Hid (MOwn wr w.heap.size v (highS f q (ss.take k))) ∧ Hid (Apart u v) ∧ Below w.heap.size w wr) (fun _ _ i _ => n - (intOf i).toNat)
  case atStart => exact ⟨0, Nat.zero_le _, rfl, hide (MOwn.nil_ _ _), hide (MOwn.nil_ _ _), hide (Apart.nil_ _ _ _), Below.refl _ _⟩
  case round =>
    obtain ⟨k, hk, rfl, HO, HP, HA, hbel⟩ := hrel
    have hsz := hbel.size
    by_cases hlt : k < n
    · obtain ⟨b, o, s, rfl, _, hx, c0, c1, hok⟩ := (h.below hbel).get hlt
      have HN := hide (lowS_next (f := f) (c := q) hx)
      have HM := hide (highS_next (f := f) (c := q) hx)
      have hfl := unhide HF s (List.mem_of_getElem? hx)
      have hrd := hok.reads
      obtain ⟨sA, sn, sc, sr, st⟩ := s
      dsimp only at c0 c1 HN HM hfl hrd
      rw [hrd.len] at hfl
      obtain ⟨rb, ro, x, rfl, hrb, hrx, crx⟩ := hrd.get hfl
      have HX : Hid (cellS f ⟨some ⟨rb, ro, none⟩, sn, sc, sr, st⟩ = x) := hide (by unfold cellS; rw [List.getD_eq_getElem?_getD, hrx]; rfl)
      obtain ⟨La, hLa⟩ : ∃ La, La = lowS f q (ss.take k) := ⟨_, rfl⟩
      obtain ⟨Lb, hLb⟩ : ∃ Lb, Lb = highS f q (ss.take k) := ⟨_, rfl⟩
      have hal : La.length ≤ k := by rw [hLa]; exact Nat.le_trans (List.length_filter_le _ _) (List.length_take_le _ _)
      have hbl : Lb.length ≤ k := by rw [hLb]; exact Nat.le_trans (List.length_filter_le _ _) (List.length_take_le _ _)
      rw [← hLa] at HN HO
      rw [← hLb] at HM HP
      have hl1 : sn ≤ maxLen := hok.len
      unfold maxLen at hl1
      have hbA := hbel.alloc hsz (.cells #[.slice (some ⟨rb, ro, none⟩) sn sc, .int .i64 st] 46)
      have hcx : (wr.alloc (.cells #[.slice (some ⟨rb, ro, none⟩) sn sc, .int .i64 st] 46)).cell? ⟨rb, ro + f, none⟩ = some (.int .i64 x) := (World.cell?_alloc_lt wr _ _ (by show rb < _; omega)).trans crx
      have bS := Blk.new wr 46 #[.slice (some ⟨rb, ro, none⟩) sn sc, .int .i64 st]
      have e0 := bS.cell 0
      have e1 := bS.cell 1
      simp at e0 e1
      have hOA : (wr.alloc (.cells #[.slice (some ⟨rb, ro, none⟩) sn sc, .int .i64 st] 46)).ownsRow w.heap.size 46 2 _ La.length (La.flatMap Sm.cells) := World.ownsRow.alloc (unhide HO) _
      have hPA : (wr.alloc (.cells #[.slice (some ⟨rb, ro, none⟩) sn sc, .int .i64 st] 46)).ownsRow w.heap.size 46 2 _ Lb.length (Lb.flatMap Sm.cells) := World.ownsRow.alloc (unhide HP) _
      have hap := unhide HA
      have hwz : w.heap.size ≤ (wr.alloc (.cells #[.slice (some ⟨rb, ro, none⟩) sn sc, .int .i64 st] 46)).heap.size := by rw [World.size_alloc]; omega
      clear hx hok hrd hrx hLa hLb crx HO HP HA
      by_cases hlo : x < q
      · have HN2 : Hid (lowS f q (ss.take (k + 1)) = La ++ [⟨some ⟨rb, ro, none⟩, sn, sc, sr, st⟩]) := hide (by rw [unhide HN, unhide HX, if_pos hlo])
        have HM2 : Hid (highS f q (ss.take (k + 1)) = Lb) := hide (by rw [unhide HM, unhide HX, if_pos hlo, List.append_nil])
        have d1 : decide (x < q) = true := decide_eq_true hlo
        clear HN HM HX hlo
        go_wp2_with (at_builtin; refine app_one2 elem_smp (.tmp 23) (.tmp 25) [.slice (some ⟨rb, ro, none⟩) sn sc, .int .i64 st] rfl rfl rfl hOA rfl (World.size_alloc _ _) rfl (smp_one _ _ _ _) (by omega) hwz ?_; intro v2 w2 hown2 hb2 hn2 hg2)
        go_wp2_with fail
        go_roundw
        case rel => exact ⟨k + 1, by omega, by go_num, hide (by rw [unhide HN2]; exact MOwn.app (s := ⟨some ⟨rb, ro, none⟩, sn, sc, sr, st⟩) hown2), hide (by rw [unhide HM2]; exact (own_aside hPA hOA hap.symm hn2 hg2).1), hide (own_aside hPA hOA hap.symm hn2 hg2).2.symm, hbA.trans hb2⟩
        case measure => simp [intOf] <;> omega
      · have HN2 : Hid (lowS f q (ss.take (k + 1)) = La) := hide (by rw [unhide HN, unhide HX, if_neg hlo, List.append_nil])
        have HM2 : Hid (highS f q (ss.take (k + 1)) = Lb ++ [⟨some ⟨rb, ro, none⟩, sn, sc, sr, st⟩]) := hide (by rw [unhide HM, unhide HX, if_neg hlo])
        have d1 : decide (x < q) = false := decide_eq_false hlo
        clear HN HM HX hlo
        go_wp2_with (at_builtin; refine app_one2 elem_smp (.tmp 27) (.tmp 29) [.slice (some ⟨rb, ro, none⟩) sn sc, .int .i64 st] rfl rfl rfl hPA rfl (World.size_alloc _ _) rfl (smp_one _ _ _ _) (by omega) hwz ?_; intro v2 w2 hown2 hb2 hn2 hg2)
        go_wp2_with fail
        go_roundw
        case rel => exact ⟨k + 1, by omega, by go_num, hide (by rw [unhide HN2]; exact (own_aside hOA hPA hap hn2 hg2).1), hide (by rw [unhide HM2]; exact MOwn.app (s := ⟨some ⟨rb, ro, none⟩, sn, sc, sr, st⟩) hown2), hide (own_aside hOA hPA hap hn2 hg2).2, hbA.trans hb2⟩
        case measure => simp [intOf] <;> omega
    · obtain rfl : k = n := by omega
      rw [unhide HT] at HO HP
      obtain ⟨A1, d1, rfl, hr1, _⟩ := (unhide HO).slice
      obtain ⟨A2, d2, rfl, hr2, _⟩ := (unhide HP).slice
      go_wp2_with fail
      go_ret2
      refine ⟨A1, d1, A2, d2, rfl, ⟨unhide HO, hr1, fun s hs => ?_⟩, ⟨unhide HP, hr2, fun s hs => ?_⟩, hbel⟩
      · exact ((h.2 s (lowS_mem hs).1).below hbel).more hbel.size
      · exact ((h.2 s (highS_mem hs).1).below hbel).more hbel.size

/-- samples that stay as they are, whatever becomes of a row -/
def MKept (w : World) (v : Value) (A : Option Addr) (n : Nat) (ss : List Sm) : Prop := ∀ w', w.grownBy w' v.ownBlock → MReads w' w'.heap.size A n ss
def OwnNext (w : World) (v v' : Value) : Prop := v'.ownBlock = v.ownBlock ∨ ∃ q, v'.ownBlock = some q ∧ w.heap.size ≤ q
theorem grown_next {w w1 w2 : World} {v v1 : Value} (h1 : w.grownBy w1 v.ownBlock) (hn : OwnNext w v v1) (h2 : w1.grownBy w2 v1.ownBlock) : w.grownBy w2 v.ownBlock :=
  ⟨h2.os.trans h1.os, h2.tape.trans h1.tape, h2.output.trans h1.output, Nat.le_trans h1.size h2.size, fun i hi hne => by
    have hs := h1.size
    rw [h2.block i (by omega) ?_, h1.block i hi hne]
    rcases hn with e | ⟨q, e, hq⟩
    · rw [e]; exact hne
    · rw [e]; intro e'; injection e' with e'; omega⟩
theorem OwnNext.refl (w : World) (v : Value) : OwnNext w v v := .inl rfl
theorem OwnNext.trans {w w1 : World} {v v1 v2 : Value} (h : OwnNext w v v1) (hs : w.heap.size ≤ w1.heap.size) (k : OwnNext w1 v1 v2) : OwnNext w v v2 := by
  rcases k with e | ⟨q, e, hq⟩
  · rcases h with e1 | ⟨p, e1, hp⟩
    · exact .inl (e.trans e1)
    · exact .inr ⟨p, e.trans e1, hp⟩
  · exact .inr ⟨q, e, Nat.le_trans hs hq⟩
theorem MKept.next {w w1 : World} {v v1 : Value} {A : Option Addr} {n : Nat} {ss : List Sm} (h : MKept w v A n ss) (h1 : w.grownBy w1 v.ownBlock) (hn : OwnNext w v v1) : MKept w1 v1 A n ss := fun w2 h2 => h w2 (grown_next h1 hn h2)
theorem MKept.now {w : World} {v : Value} {A : Option Addr} {n : Nat} {ss : List Sm} (h : MKept w v A n ss) : MReads w w.heap.size A n ss := h w (World.grownBy.refl _ _)
/-- samples that were made behind a row stay so -/
theorem MKept.made {w w1 : World} {v : Value} {A : Option Addr} {c : Nat} {ss a : List Sm} {base : Nat} {xs : List Value} {e : TypeId} {size q : Nat} {A0 : Option Addr} {n0 : Nat} (hv : w.ownsRow base e size v q xs) (h : MKept w v A0 n0 ss) (hb : Below w.heap.size w w1) (ho : MOwn w1 w.heap.size (.slice A a.length c) a) (hm : ∀ s ∈ a, s ∈ ss) : MKept w1 v A a.length a := by
  intro w2 h2
  have hk : w2.ownsRow w.heap.size 46 2 (.slice A a.length c) a.length (a.flatMap Sm.cells) := by
    refine World.ownsRow.kept ho h2 ?_
    rcases hk : (Value.slice A a.length c).ownBlock with _ | k
    · exact .inl rfl
    · refine .inr fun e => ?_
      have h3 := own_block_ge ho k hk
      have h4 := (hv.lt k e.symm).2
      omega
  refine ⟨?_, fun s hs => ?_⟩
  · have := MOwn.slice hk
    obtain ⟨A', c', e', hr, _⟩ := this
    injection e' with e1 _ _
    rw [e1]; exact hr
  · exact (h w2 (grown_next (only_of_below hb _) (OwnNext.refl _ _) h2)).2 s (hm s hs)
end Go.Proofs.Ytopncifebldklaa
