/- Part 10 of what LawFlatTells needs: Differ. Conditions: as each lemma names. -/
import Derived.Test.YtcneacooedefjaaDoorPkFlatTells09
/- differ.pairs: of each pair of leaves to which a row comes that differ, their spans. Conditions: as each lemma names. -/
namespace Go.Proofs.YtcneacooedefjaaDoor
set_option linter.unusedVariables false
set_option linter.unusedSimpArgs false
open Go.RowKit

def meets (a b : List Nd) (i : Nat) (q : Nat × List Sp) : Bool := anyB q.2 && (valAt a i != valAt b q.1)
def pairsAt (a b : List Nd) (p : Nat × List Sp) : List (List Sp) := if anyB p.2 then ((lv b b.length 0 p.2).filter (meets a b p.1)).map (·.2) else []
def pairsL (a b : List Nd) (n : Nat) : List (List Sp) := (lv a a.length 0 (wideL n)).flatMap (pairsAt a b)

theorem valAt_of {t : List Nd} {i : Nat} {x : Nd} (h : t[i]? = some x) : valAt t i = x.v := by unfold valAt; rw [h]

/-- a listener for spans -/
def SpanStep (T : World → Nat → Prop) (J : List (List Sp) → World → Prop) (F : FuncId) (caps : Array Value) (n : Nat) : Prop :=
  ∀ pre (l' : List Sp) (A' : Option Addr) (c' : Nat) (w : World), J pre w → SReads w w.heap.size A' n l' → (A' = none → c' = 0) → (∀ a, A' = some a → ¬ T w a.block) →
    Calls Tryd.prog F (#[.slice A' n c'] ++ caps) w (Hear T J (pre ++ [l']) w)

theorem any_no (A : Option Addr) (n c B : Nat) (l : List Sp) (h : anyB l = false) (w : World) (hr : SReads w B A n l) (hB : B ≤ w.heap.size) (hn : n ≤ 100000000) :
    Calls Tryd.prog 58 #[.slice A n c] w fun e w' => e = .returned (.bool false) ∧ Below w.heap.size w w' := by
  have := any_any A n c B l w hr hB hn
  rwa [h] at this
set_option maxRecDepth 100000 in
set_option maxHeartbeats 2000000 in
theorem pairs11_any (T : World → Nat → Prop) (J : List (List Sp) → World → Prop) (B0 : Nat) (hE : Ear T J B0) (F : FuncId) (caps : Array Value) (hF : Enters Tryd.prog F) (n : Nat) (hn : n ≤ 100000000) (hstep : SpanStep T J F caps n)
    (A C : Option Addr) (m d m' d' : Nat) (a b : List Nd) (hm : m ≤ 63) (hm' : m' ≤ 63) (i k : Nat) (pa pi pb pe : Addr) (x y : Nd) (hx : a[i]? = some x) (hy : b[k]? = some y)
    (pre : List (List Sp)) (l : List Sp) (Al : Option Addr) (cl : Nat) (w : World) (hJ : J pre w) (hB0 : B0 ≤ w.heap.size) (ha : NReads w B0 A m a) (hb : NReads w B0 C m' b)
    (hpa : w.cell? pa = some (.slice A m d)) (hpi : w.cell? pi = some (.int .i64 i)) (hpb : w.cell? pb = some (.slice C m' d')) (hpe : w.cell? pe = some (.func (.func F) #[] caps))
    (hl : SReads w w.heap.size Al n l) (hcl : Al = none → cl = 0) (hTl : ∀ a, Al = some a → ¬ T w a.block) :
    Calls Tryd.prog 59 #[.int .i64 k, .slice Al n cl, .pointer (some pa), .pointer (some pi), .pointer (some pb), .pointer (some pe)] w
      (Hear T J (pre ++ if meets a b i (k, l) then [l] else []) w) := by
  have hla := ha.len
  have hlb := hb.len
  have him : i < m := by have := (List.getElem?_eq_some_iff.1 hx).1; omega
  have hkm : k < m' := by have := (List.getElem?_eq_some_iff.1 hy).1; omega
  have hva := valAt_of hx
  have hvb := valAt_of hy
  obtain ⟨b1, o1, x', rfl, hb1, hx', g0, g1, g2, g3, g4, g5⟩ := ha.get him
  obtain ⟨b2, o2, y', rfl, hb2, hy', e0, e1, e2, e3, e4, e5⟩ := hb.get hkm
  rw [hx] at hx'; injection hx' with hx'; subst hx'
  rw [hy] at hy'; injection hy' with hy'; subst hy'
  have lpa := cell_lt hpa
  have lpi := cell_lt hpi
  have lpb := cell_lt hpb
  have lpe := cell_lt hpe
  by_cases hany : anyB l = true
  · by_cases hv : x.v = y.v
    · have HM : Hid (meets a b i (k, l) = false) := hide (by simp [meets, hva, hvb, hv])
      have HL : Hid (pre ++ (if meets a b i (k, l) then [l] else []) = pre) := hide (by rw [unhide HM]; simp)
      obtain ⟨xv, hxv⟩ : ∃ z, z = x.v := ⟨_, rfl⟩
      obtain ⟨yv, hyv⟩ : ∃ z, z = y.v := ⟨_, rfl⟩
      rw [← hxv] at g5
      rw [← hyv] at e5
      have hne : (xv != yv) = false := by rw [hxv, hyv]; simpa using hv
      have hent := fun (ars : Array Value) (W : World) => hF ars W
      rw [unhide HL]
      clear hla hlb hva hvb hv g0 g1 g2 g3 g4 e0 e1 e2 e3 e4 hx hy hxv hyv
      go_enter Tryd.func59, Tryd.ntmps59
      go_wp2_with fail
      go_region_held3 (fun w' => w'.cell? pa = some (.slice (some ⟨b1, o1, none⟩) m d) ∧ w'.cell? pi = some (.int .i64 i) ∧ w'.cell? pb = some (.slice (some ⟨b2, o2, none⟩) m' d') ∧ w'.cell? pe = some (.func (.func F) #[] caps) ∧
          w'.cell? ⟨b1, o1 + i * 6 + 5, none⟩ = some (.int .i64 xv) ∧ w'.cell? ⟨b2, o2 + k * 6 + 5, none⟩ = some (.int .i64 yv))
        (go_keep)
        ((go_at_call 58; refine (any_any Al n cl w.heap.size l _ (Reads.drew hl) (Nat.le_refl _) hn).mono ?_; rintro e w2 ⟨rfl, hb2'⟩; rw [hany];
          have q0 := hb2'.cell (p := pa) lpa; have q1 := hb2'.cell (p := pi) lpi; have q2 := hb2'.cell (p := pb) lpb; have q3 := hb2'.cell (p := pe) lpe;
          have q4 := hb2'.cell (p := ⟨b1, o1 + i * 6 + 5, none⟩) (by show b1 < w.heap.size; omega); have q5 := hb2'.cell (p := ⟨b2, o2 + k * 6 + 5, none⟩) (by show b2 < w.heap.size; omega)))
      have hb3 : Below w.heap.size w w2 := ⟨hb2'.os, hb2'.tape, hb2'.output, hb2'.size, hb2'.block⟩
      obtain ⟨hJ2, hT2⟩ := hE.keep pre w w2 hJ hb3
      have hc3 := (hb3.cell (p := pe) lpe).trans hpe
      clear q0 q1 q2 q3 q4 q5 hb2' hpa hpi hpb hpe
      go_wp2_with fail
      go_end0
      exact ⟨⟨_, rfl⟩, hJ2, Touch.of_below hb3 hT2⟩
    · have HM : Hid (meets a b i (k, l) = true) := hide (by simp [meets, hva, hvb, hv, hany])
      have HL : Hid (pre ++ (if meets a b i (k, l) then [l] else []) = pre ++ [l]) := hide (by rw [unhide HM]; simp)
      obtain ⟨xv, hxv⟩ : ∃ z, z = x.v := ⟨_, rfl⟩
      obtain ⟨yv, hyv⟩ : ∃ z, z = y.v := ⟨_, rfl⟩
      rw [← hxv] at g5
      rw [← hyv] at e5
      have hne : (xv != yv) = true := by rw [hxv, hyv]; simpa using hv
      have hent := fun (ars : Array Value) (W : World) => hF ars W
      rw [unhide HL]
      clear hla hlb hva hvb hv g0 g1 g2 g3 g4 e0 e1 e2 e3 e4 hx hy hxv hyv
      go_enter Tryd.func59, Tryd.ntmps59
      go_wp2_with fail
      go_region_held3 (fun w' => w'.cell? pa = some (.slice (some ⟨b1, o1, none⟩) m d) ∧ w'.cell? pi = some (.int .i64 i) ∧ w'.cell? pb = some (.slice (some ⟨b2, o2, none⟩) m' d') ∧ w'.cell? pe = some (.func (.func F) #[] caps) ∧
          w'.cell? ⟨b1, o1 + i * 6 + 5, none⟩ = some (.int .i64 xv) ∧ w'.cell? ⟨b2, o2 + k * 6 + 5, none⟩ = some (.int .i64 yv))
        (go_keep)
        ((go_at_call 58; refine (any_any Al n cl w.heap.size l _ (Reads.drew hl) (Nat.le_refl _) hn).mono ?_; rintro e w2 ⟨rfl, hb2'⟩; rw [hany];
          have q0 := hb2'.cell (p := pa) lpa; have q1 := hb2'.cell (p := pi) lpi; have q2 := hb2'.cell (p := pb) lpb; have q3 := hb2'.cell (p := pe) lpe;
          have q4 := hb2'.cell (p := ⟨b1, o1 + i * 6 + 5, none⟩) (by show b1 < w.heap.size; omega); have q5 := hb2'.cell (p := ⟨b2, o2 + k * 6 + 5, none⟩) (by show b2 < w.heap.size; omega)))
      have hb3 : Below w.heap.size w w2 := ⟨hb2'.os, hb2'.tape, hb2'.output, hb2'.size, hb2'.block⟩
      obtain ⟨hJ2, hT2⟩ := hE.keep pre w w2 hJ hb3
      have hc3 := (hb3.cell (p := pe) lpe).trans hpe
      clear q0 q1 q2 q3 q4 q5 hb2' hpa hpi hpb hpe
      go_wp2_with fail
      refine (hstep pre l Al cl w2 hJ2 ((hl.below hb3).more hb3.size) hcl (fun a e h => hTl a e (hT2 _ h))).mono ?_
      rintro e w3 ⟨⟨v3, rfl⟩, hJ3, hT3⟩
      go_wp2_with fail
      go_end0
      exact ⟨⟨_, rfl⟩, hJ3, (Touch.of_below hb3 hT2).trans hT3⟩
  · have hany2 : anyB l = false := by simpa using hany
    have HM : Hid (meets a b i (k, l) = false) := hide (by simp [meets, hany2])
    have HL : Hid (pre ++ (if meets a b i (k, l) then [l] else []) = pre) := hide (by rw [unhide HM]; simp)
    rw [unhide HL]
    obtain ⟨xv, hxv⟩ : ∃ z, z = x.v := ⟨_, rfl⟩
    obtain ⟨yv, hyv⟩ : ∃ z, z = y.v := ⟨_, rfl⟩
    rw [← hxv] at g5
    rw [← hyv] at e5
    clear hla hlb hva hvb g0 g1 g2 g3 g4 e0 e1 e2 e3 e4 hx hy hany hxv hyv
    go_enter Tryd.func59, Tryd.ntmps59
    go_wp2_with fail
    refine wp_region_held_drew (S := fun _ => True) (by kernel_rfl) trivial (fun hHeld => ?_)
    refine wpAnyH_take (i := 0) (oi := ⟨some 8, _, _, _, _, _⟩) (v := .slice Al n cl) rfl (by kernel_rfl) (by kernel_rfl) (by kernel_rfl) (fun _ _ _ h => h) (Or.inl ⟨by rfl, fun w _ => ?_⟩) trivial ?_
    · go_simp
    simp only [Act.put, List.setIfInBounds_toArray, List.set_cons_zero, List.set_cons_succ]
    refine wpAnyH_ready (rs := [1]) (by kernel_rfl) (by simp) ?_
    refine AllReadyH.cons rfl (fun K hK => ?_) AllReadyH.nil
    rw [if_pos (by rfl)]
    go_simp
    go_at_call 58; refine (any_no Al n cl w.heap.size l hany2 _ (Reads.drew hl) (Nat.le_refl _) hn).mono ?_; rintro e w2 ⟨rfl, hb2'⟩
    refine hK.out _ _ trivial (fun _ => ?_)
    (try simp only [Act.put, List.setIfInBounds_toArray, List.set_cons_zero, List.set_cons_succ])
    refine wpAnyH_take (i := 2) (oi := ⟨some 10, _, _, _, _, _⟩) (v := .bool false) rfl (by kernel_rfl) (by kernel_rfl) (by kernel_rfl) (fun _ _ _ h => h) (Or.inl ⟨by rfl, fun w _ => ?_⟩) trivial ?_
    · go_simp
    simp only [Act.put, List.setIfInBounds_toArray, List.set_cons_zero, List.set_cons_succ]
    refine wpAnyH_take (i := 3) (oi := ⟨some 11, _, _, _, _, _⟩) (v := undef) rfl (by kernel_rfl) (by kernel_rfl) (by kernel_rfl) (fun _ _ _ h => h) (Or.inr ⟨by rfl, rfl⟩) trivial ?_
    simp only [Act.put, List.setIfInBounds_toArray, List.set_cons_zero, List.set_cons_succ]
    refine wpAnyH_take (i := 4) (oi := ⟨some 12, _, _, _, _, _⟩) (v := undef) rfl (by kernel_rfl) (by kernel_rfl) (by kernel_rfl) (fun _ _ _ h => h) (Or.inr ⟨by rfl, rfl⟩) trivial ?_
    simp only [Act.put, List.setIfInBounds_toArray, List.set_cons_zero, List.set_cons_succ]
    refine wpAnyH_take (i := 5) (oi := ⟨some 13, _, _, _, _, _⟩) (v := undef) rfl (by kernel_rfl) (by kernel_rfl) (by kernel_rfl) (fun _ _ _ h => h) (Or.inr ⟨by rfl, rfl⟩) trivial ?_
    simp only [Act.put, List.setIfInBounds_toArray, List.set_cons_zero, List.set_cons_succ]
    refine wpAnyH_take (i := 6) (oi := ⟨some 14, _, _, _, _, _⟩) (v := undef) rfl (by kernel_rfl) (by kernel_rfl) (by kernel_rfl) (fun _ _ _ h => h) (Or.inr ⟨by rfl, rfl⟩) trivial ?_
    simp only [Act.put, List.setIfInBounds_toArray, List.set_cons_zero, List.set_cons_succ]
    refine wpAnyH_take (i := 7) (oi := ⟨some 15, _, _, _, _, _⟩) (v := undef) rfl (by kernel_rfl) (by kernel_rfl) (by kernel_rfl) (fun _ _ _ h => h) (Or.inr ⟨by rfl, rfl⟩) trivial ?_
    simp only [Act.put, List.setIfInBounds_toArray, List.set_cons_zero, List.set_cons_succ]
    refine wpAnyH_take (i := 8) (oi := ⟨some 16, _, _, _, _, _⟩) (v := undef) rfl (by kernel_rfl) (by kernel_rfl) (by kernel_rfl) (fun _ _ _ h => h) (Or.inr ⟨by rfl, rfl⟩) trivial ?_
    simp only [Act.put, List.setIfInBounds_toArray, List.set_cons_zero, List.set_cons_succ]
    refine wpAnyH_take (i := 9) (oi := ⟨some 17, _, _, _, _, _⟩) (v := undef) rfl (by kernel_rfl) (by kernel_rfl) (by kernel_rfl) (fun _ _ _ h => h) (Or.inr ⟨by rfl, rfl⟩) trivial ?_
    simp only [Act.put, List.setIfInBounds_toArray, List.set_cons_zero, List.set_cons_succ]
    refine wpAnyH_take (i := 10) (oi := ⟨some 18, _, _, _, _, _⟩) (v := undef) rfl (by kernel_rfl) (by kernel_rfl) (by kernel_rfl) (fun _ _ _ h => h) (Or.inr ⟨by rfl, rfl⟩) trivial ?_
    simp only [Act.put, List.setIfInBounds_toArray, List.set_cons_zero, List.set_cons_succ]
    refine wpAnyH_take (i := 11) (oi := ⟨some 19, _, _, _, _, _⟩) (v := undef) rfl (by kernel_rfl) (by kernel_rfl) (by kernel_rfl) (fun _ _ _ h => h) (Or.inr ⟨by rfl, rfl⟩) trivial ?_
    simp only [Act.put, List.setIfInBounds_toArray, List.set_cons_zero, List.set_cons_succ]
    refine wpAnyH_take (i := 12) (oi := ⟨some 20, _, _, _, _, _⟩) (v := undef) rfl (by kernel_rfl) (by kernel_rfl) (by kernel_rfl) (fun _ _ _ h => h) (Or.inr ⟨by rfl, rfl⟩) trivial ?_
    simp only [Act.put, List.setIfInBounds_toArray, List.set_cons_zero, List.set_cons_succ]
    refine wpAnyH_take (i := 13) (oi := ⟨some 21, _, _, _, _, _⟩) (v := undef) rfl (by kernel_rfl) (by kernel_rfl) (by kernel_rfl) (fun _ _ _ h => h) (Or.inr ⟨by rfl, rfl⟩) trivial ?_
    simp only [Act.put, List.setIfInBounds_toArray, List.set_cons_zero, List.set_cons_succ]
    refine wpAnyH_take (i := 14) (oi := ⟨some 22, _, _, _, _, _⟩) (v := .bool false) rfl (by kernel_rfl) (by kernel_rfl) (by kernel_rfl) (fun _ _ _ h => h) (Or.inl ⟨by rfl, fun w _ => ?_⟩) trivial ?_
    · go_simp
    simp only [Act.put, List.setIfInBounds_toArray, List.set_cons_zero, List.set_cons_succ]
    refine wpAnyH_done (by kernel_rfl) ?_ _
    have hb3 : Below w.heap.size w w2 := ⟨hb2'.os, hb2'.tape, hb2'.output, hb2'.size, hb2'.block⟩
    obtain ⟨hJ2, hT2⟩ := hE.keep pre w w2 hJ hb3
    have hc3 := (hb3.cell (p := pe) lpe).trans hpe
    go_wp2_with fail
    go_end0
    exact ⟨⟨_, rfl⟩, hJ2, Touch.of_below hb3 hT2⟩

theorem pairsAt_fold (a b : List Nd) (i : Nat) (ys : List (Nat × List Sp)) (q : Nat × List Sp) :
    ((ys ++ [q]).filter (meets a b i)).map (·.2) = (ys.filter (meets a b i)).map (·.2) ++ if meets a b i q then [q.2] else [] := by
  rw [List.filter_append, List.map_append, List.filter_cons]
  split <;> simp

/-- a tree as Leaves wants it -/
structure Fit_ (t : List Nd) (n : Nat) : Prop where
  len0 : 0 < t.length
  len : t.length ≤ 63
  behind : Behind t
  asks : Asks t n
  cut : ∀ (i : Nat) x, t[i]? = some x → x.f ≠ -1 → -1000000 ≤ x.c ∧ x.c ≤ 1000000

set_option maxRecDepth 100000 in
set_option maxHeartbeats 2000000 in
theorem pairs1_any (T : World → Nat → Prop) (J : List (List Sp) → World → Prop) (B0 : Nat) (hE : Ear T J B0) (F : FuncId) (caps : Array Value) (hF : Enters Tryd.prog F) (n : Nat) (hn : n ≤ 100000000) (hstep : SpanStep T J F caps n)
    (A C : Option Addr) (m d m' d' : Nat) (a b : List Nd) (fa : Fit_ a n) (fb : Fit_ b n) (i : Nat) (pa pb pe : Addr) (x : Nd) (hx : a[i]? = some x)
    (pre : List (List Sp)) (l : List Sp) (Al : Option Addr) (cl : Nat) (w : World) (hJ : J pre w) (hB0 : B0 ≤ w.heap.size) (ha : NReads w B0 A m a) (hb : NReads w B0 C m' b)
    (hpa : w.cell? pa = some (.slice A m d)) (hpb : w.cell? pb = some (.slice C m' d')) (hpe : w.cell? pe = some (.func (.func F) #[] caps))
    (ta : ¬ T w pa.block) (tb : ¬ T w pb.block) (te : ¬ T w pe.block)
    (hl : SReads w w.heap.size Al n l) (hcl : Al = none → cl = 0) (hTl : ∀ a, Al = some a → ¬ T w a.block) :
    Calls Tryd.prog 57 #[.int .i64 i, .slice Al n cl, .pointer (some pb), .pointer (some pa), .pointer (some pe)] w
      (Hear T J (pre ++ pairsAt a b (i, l)) w) := by
  have hla := ha.len
  have hlb := hb.len
  have lpa := cell_lt hpa
  have lpb := cell_lt hpb
  have lpe := cell_lt hpe
  have hb1 : Below w.heap.size w (w.alloc (.cells #[.int .i64 i] 3)) := (Below.refl _ _).alloc (Nat.le_refl _) _
  have hin : (w.alloc (.cells #[.int .i64 i] 3)).cell? ⟨w.heap.size, 0, none⟩ = some (.int .i64 i) := by simp [(Blk.new w 3 #[.int .i64 i]).cell 0]
  have hbs : (w.alloc (.cells #[.int .i64 i] 3)).heap.size = w.heap.size + 1 := by simp
  by_cases hany : anyB l = true
  · have HP : Hid (pairsAt a b (i, l) = ((lv b b.length 0 l).filter (meets a b i)).map (·.2)) := hide (by unfold pairsAt; rw [if_pos hany])
    have hpb2 := cell_alloc hpb lpb (.cells #[.int .i64 i] 3)
    go_enter Tryd.func57, Tryd.ntmps57
    go_wp2_with fail
    clear hpb2
    generalize w.alloc (.cells #[.int .i64 i] 3) = W at *
    refine (any_any Al n cl w.heap.size l _ (hl.below hb1) (by omega) hn).mono ?_
    rintro e w2 ⟨rfl, hb2⟩
    rw [hany]
    have hb3 : Below w.heap.size w w2 := hb1.trans (hb2.mono hb1.size)
    have hin2 := (hb2.cell (p := ⟨w.heap.size, 0, none⟩) (by show w.heap.size < _; omega)).trans hin
    obtain ⟨hJ2, hT2⟩ := hE.keep pre w w2 hJ hb3
    have c1 := (hb3.cell (p := pa) lpa).trans hpa
    have c2 := (hb3.cell (p := pb) lpb).trans hpb
    have c3 := (hb3.cell (p := pe) lpe).trans hpe
    have hz2 := hb3.size
    have hbt := hb2.size
    have hTn : ¬ T w2 w.heap.size := fun h => by have := (hE.lt pre w _ hJ (hT2 _ h)).1; omega
    have hS2 : Still T [(pa, .slice A m d), (pb, .slice C m' d'), (pe, .func (.func F) #[] caps), (⟨w.heap.size, 0, none⟩, .int .i64 i)] w2 := by
      intro c hc
      simp only [List.mem_cons, List.not_mem_nil, or_false] at hc
      rcases hc with rfl | rfl | rfl | rfl
      · exact ⟨c1, fun h => ta (hT2 _ h), cell_lt c1⟩
      · exact ⟨c2, fun h => tb (hT2 _ h), cell_lt c2⟩
      · exact ⟨c3, fun h => te (hT2 _ h), cell_lt c3⟩
      · exact ⟨hin2, hTn, cell_lt hin2⟩
    have ha2 := ha.below (hb3.mono hB0)
    have hb2' := hb.below (hb3.mono hB0)
    have hE2 := hE.with_ (fun (ys : List (Nat × List Sp)) => pre ++ (ys.filter (meets a b i)).map (·.2)) [(pa, .slice A m d), (pb, .slice C m' d'), (pe, .func (.func F) #[] caps), (⟨w.heap.size, 0, none⟩, .int .i64 i)] (fun w => NReads w B0 A m a ∧ NReads w B0 C m' b) (fun w w' h hb => ⟨h.1.below hb, h.2.below hb⟩)
    have hlv := leavesW_any T _ B0 hE2 59 #[.pointer (some pa), .pointer (some ⟨w.heap.size, 0, none⟩), .pointer (some pb), .pointer (some pe)] (enters_of Tryd.func59 (by kernel_rfl) rfl) n hn C m' d' b (by have := fb.len; unfold maxLen; omega) fb.behind fb.asks fb.cut False (lv b m' 0 l).length
      (fun ys k l' A' c' w' hy hJ' hl' hc' hT' _ _ => by
        obtain ⟨y, hy, _⟩ := hy
        obtain ⟨j1, j2, j3, j4⟩ := hJ'
        have s1 := (j2 _ (List.mem_cons_self)).1
        have s2 := (j2 _ (List.mem_cons_of_mem _ List.mem_cons_self)).1
        have s3 := (j2 _ (List.mem_cons_of_mem _ (List.mem_cons_of_mem _ List.mem_cons_self))).1
        have s4 := (j2 _ (List.mem_cons_of_mem _ (List.mem_cons_of_mem _ (List.mem_cons_of_mem _ List.mem_cons_self)))).1
        refine (pairs11_any T J B0 hE F caps hF n hn hstep A C m d m' d' a b (by have := fa.len; omega) (by have := fb.len; omega) i k pa ⟨w.heap.size, 0, none⟩ pb pe x y hx hy _ l' A' c' w' j1 j4 j3.1 j3.2 s1 s4 s2 s3 hl' hc' hT').mono ?_
        rintro e w'' ⟨hv, h1, h2⟩
        refine ⟨hv, ⟨?_, j2.touch h2, ⟨?_, ?_⟩, Nat.le_trans j4 h2.size⟩, h2⟩
        · rw [pairsAt_fold, ← List.append_assoc]
          exact h1
        · exact j3.1.below (h2.below j4 (fun g hg => (hE.lt _ _ _ j1 hg).2))
        · exact j3.2.below (h2.below j4 (fun g hg => (hE.lt _ _ _ j1 hg).2)))
      m' 0 l [] Al cl w2 (by omega) (by have := fb.len0; omega) hb2' (by omega) ⟨by simpa using hJ2, hS2, ⟨ha2, hb2'⟩, by omega⟩ ((hl.below hb3).more hz2) hcl (fun a e h => hTl a e (hT2 _ h)) (fun h => h.elim) (by simp)
    go_wp2_with fail
    refine hlv.mono ?_
    rintro e w3 ⟨⟨v3, rfl⟩, hJ3, hT3⟩
    go_wp2_with fail
    go_end0
    refine ⟨⟨_, rfl⟩, ?_, (Touch.of_below hb3 hT2).trans hT3⟩
    rw [unhide HP]
    have := hJ3.1
    rw [hlb]
    simpa using this
  · have hany2 : anyB l = false := by simpa using hany
    have HP : Hid (pre ++ pairsAt a b (i, l) = pre) := hide (by unfold pairsAt; rw [if_neg hany]; simp)
    rw [unhide HP]
    clear hany
    go_enter Tryd.func57, Tryd.ntmps57
    go_wp2_with fail
    generalize w.alloc (.cells #[.int .i64 i] 3) = W at *
    refine (any_any Al n cl w.heap.size l _ (hl.below hb1) (by omega) hn).mono ?_
    rintro e w2 ⟨rfl, hb2⟩
    rw [hany2]
    have hb3 : Below w.heap.size w w2 := hb1.trans (hb2.mono hb1.size)
    obtain ⟨hJ2, hT2⟩ := hE.keep pre w w2 hJ hb3
    go_wp2_with fail
    go_end0
    exact ⟨⟨_, rfl⟩, hJ2, Touch.of_below hb3 hT2⟩

set_option maxRecDepth 100000 in
set_option maxHeartbeats 2000000 in
theorem pairs_any (T : World → Nat → Prop) (J : List (List Sp) → World → Prop) (B0 : Nat) (hE : Ear T J B0) (F : FuncId) (caps : Array Value) (hF : Enters Tryd.prog F) (n : Nat) (hn : n ≤ 8) (hstep : SpanStep T J F caps n)
    (A C : Option Addr) (m d m' d' : Nat) (a b : List Nd) (fa : Fit_ a n) (fb : Fit_ b n) (w : World) (hJ : J [] w) (hB0 : B0 ≤ w.heap.size) (ha : NReads w B0 A m a) (hb : NReads w B0 C m' b) :
    Calls Tryd.prog 36 #[.slice A m d, .slice C m' d', .int .i64 n, .func (.func F) #[] caps] w (Hear T J (pairsL a b n) w) := by
  have hla := ha.len
  have hlb := hb.len
  obtain ⟨Za, hZa⟩ : ∃ Z, Z = Obj.cells #[.slice A m d] 42 := ⟨_, rfl⟩
  obtain ⟨Zb, hZb⟩ : ∃ Z, Z = Obj.cells #[.slice C m' d'] 42 := ⟨_, rfl⟩
  obtain ⟨Ze, hZe⟩ : ∃ Z, Z = Obj.cells #[.func (.func F) #[] caps] 77 := ⟨_, rfl⟩
  have hb1 : Below w.heap.size w (((w.alloc Za).alloc Zb).alloc Ze) := (((Below.refl _ _).alloc (Nat.le_refl _) _).alloc (by simp) _).alloc (by simp; omega) _
  have hbs : (((w.alloc Za).alloc Zb).alloc Ze).heap.size = w.heap.size + 3 := by simp
  have ca : (((w.alloc Za).alloc Zb).alloc Ze).cell? ⟨w.heap.size, 0, none⟩ = some (.slice A m d) := by
    rw [hZa]
    have := (((Blk.new w 42 #[.slice A m d]).alloc Zb).alloc Ze).cell 0
    simpa using this
  have cb : (((w.alloc Za).alloc Zb).alloc Ze).cell? ⟨w.heap.size + 1, 0, none⟩ = some (.slice C m' d') := by
    rw [hZb]
    have := ((Blk.new (w.alloc Za) 42 #[.slice C m' d']).alloc Ze).cell 0
    rw [World.size_alloc] at this
    simpa using this
  have ce : (((w.alloc Za).alloc Zb).alloc Ze).cell? ⟨w.heap.size + 1 + 1, 0, none⟩ = some (.func (.func F) #[] caps) := by
    rw [hZe]
    have := (Blk.new ((w.alloc Za).alloc Zb) 77 #[.func (.func F) #[] caps]).cell 0
    rw [World.size_alloc, World.size_alloc] at this
    simpa using this
  go_enter Tryd.func36, Tryd.ntmps36
  go_wp2_with fail
  rw [← hZa, ← hZb, ← hZe]
  clear hZa hZb hZe
  generalize ((w.alloc Za).alloc Zb).alloc Ze = W at *
  obtain ⟨hJ1, hT1⟩ := hE.keep [] w W hJ hb1
  have hTw : ∀ g, T W g → g < w.heap.size := fun g h => (hE.lt _ w g hJ (hT1 g h)).1
  have hflat : ∀ (ys : List (Nat × List Sp)) q, (ys ++ [q]).flatMap (pairsAt a b) = ys.flatMap (pairsAt a b) ++ pairsAt a b q := fun ys q => by rw [List.flatMap_append]; simp
  have HP : Hid (pairsL a b n = (lv a m 0 (wideL n)).flatMap (pairsAt a b)) := hide (by unfold pairsL; rw [hla])
  have hR : ∀ v v', (NReads v B0 A m a ∧ NReads v B0 C m' b) → Below B0 v v' → (NReads v' B0 A m a ∧ NReads v' B0 C m' b) := fun v v' h hb => ⟨h.1.below hb, h.2.below hb⟩
  have hE2 := hE.with_ (fun (ys : List (Nat × List Sp)) => ys.flatMap (pairsAt a b)) [(⟨w.heap.size, 0, none⟩, .slice A m d), (⟨w.heap.size + 1, 0, none⟩, .slice C m' d'), (⟨w.heap.size + 1 + 1, 0, none⟩, .func (.func F) #[] caps)] (fun w => NReads w B0 A m a ∧ NReads w B0 C m' b) hR
  have hlv := leavesW_any T _ B0 hE2 57 #[.pointer (some ⟨w.heap.size + 1, 0, none⟩), .pointer (some ⟨w.heap.size, 0, none⟩), .pointer (some ⟨w.heap.size + 1 + 1, 0, none⟩)] (enters_of Tryd.func57 (by kernel_rfl) rfl) n (by omega) A m d a (by have := fa.len; unfold maxLen; omega) fa.behind fa.asks fa.cut False (lv a m 0 (wideL n)).length
      (fun ys k l' A' c' w' hy hJ' hl' hc' hT' _ _ => by
        obtain ⟨x, hx, _⟩ := hy
        obtain ⟨j1, j2, j3, j4⟩ := hJ'
        obtain ⟨s1, t1, _⟩ := j2 _ (List.mem_cons_self)
        obtain ⟨s2, t2, _⟩ := j2 _ (List.mem_cons_of_mem _ List.mem_cons_self)
        obtain ⟨s3, t3, _⟩ := j2 _ (List.mem_cons_of_mem _ (List.mem_cons_of_mem _ List.mem_cons_self))
        refine (pairs1_any T J B0 hE F caps hF n (by omega) hstep A C m d m' d' a b fa fb k ⟨w.heap.size, 0, none⟩ ⟨w.heap.size + 1, 0, none⟩ ⟨w.heap.size + 1 + 1, 0, none⟩ x hx _ l' A' c' w' j1 j4 j3.1 j3.2 s1 s2 s3 t1 t2 t3 hl' hc' hT').mono ?_
        rintro e w'' ⟨hv, h1, h2⟩
        refine ⟨hv, ⟨?_, j2.touch h2, hR _ _ j3 (h2.below j4 (fun g hg => (hE.lt _ _ _ j1 hg).2)), Nat.le_trans j4 h2.size⟩, h2⟩
        rw [hflat]
        exact h1)
      m 0 (wideL n) []
  have hS1 : Still T [(⟨w.heap.size, 0, none⟩, .slice A m d), (⟨w.heap.size + 1, 0, none⟩, .slice C m' d'), (⟨w.heap.size + 1 + 1, 0, none⟩, .func (.func F) #[] caps)] W := by
    intro c hc
    simp only [List.mem_cons, List.not_mem_nil, or_false] at hc
    rcases hc with rfl | rfl | rfl
    · exact ⟨ca, fun h => by have := hTw _ h; simp at this, cell_lt ca⟩
    · exact ⟨cb, fun h => by have := hTw _ h; dsimp only at this; omega, cell_lt cb⟩
    · exact ⟨ce, fun h => by have := hTw _ h; dsimp only at this; omega, cell_lt ce⟩
  have HF := hide hflat
  have HLV := hide hlv
  clear hflat hlv
  go_region_held3 (fun w' => w'.cell? ⟨w.heap.size, 0, none⟩ = some (.slice A m d))
    (go_keep)
    (first
      | (go_at_call 56
         refine (wide_any n hn _).mono ?_
         rintro e w2 ⟨A2, d2, rfl, hr2, hA2, hnew2, _, hb2⟩
         have hb2' : Below W.heap.size W w2 := ⟨hb2.os, hb2.tape, hb2.output, hb2.size, hb2.block⟩
         have hn2 : ∀ a, A2 = some a → W.heap.size ≤ a.block := hnew2
         have hk2 : ∀ o, w2.cell? ⟨w.heap.size, o, none⟩ = W.cell? ⟨w.heap.size, o, none⟩ := fun o => hb2'.cell (p := ⟨w.heap.size, o, none⟩) (by show w.heap.size < W.heap.size; omega)
         obtain ⟨hJ2, hT2⟩ := hE.keep [] W w2 hJ1 hb2')
      | (go_at_call 55
         refine (unhide HLV A2 d2 w2 (by omega) (by have := fa.len0; omega) (ha.below ((hb1.trans (hb2'.mono hb1.size)).mono hB0)) (by have := hb1.size; have := hb2'.size; omega) ⟨hJ2, hS1.below hb2' hT2, hR _ _ ⟨ha, hb⟩ ((hb1.trans (hb2'.mono hb1.size)).mono hB0), (by have := hb1.size; have := hb2'.size; omega)⟩ hr2 hA2 (fun a e h => by have h3 := hTw _ (hT2 _ h); have h4 := hn2 a e; have := hb1.size; omega) (fun h => h.elim) (by simp)).mono ?_
         rintro e w3 ⟨⟨v3, rfl⟩, hJ3, hT3⟩
         have hk3 : ∀ o, w3.cell? ⟨w.heap.size, o, none⟩ = W.cell? ⟨w.heap.size, o, none⟩ := fun o => (World.cell?_of_block (a := ⟨w.heap.size, o, none⟩) (hT3.block _ (by have := hb2'.size; show w.heap.size < _; omega) (fun h => by have := hTw _ (hT2 _ h); simp at this))).trans (hk2 o)))
  all_goals
    go_end0
    refine ⟨⟨_, rfl⟩, ?_, (Touch.of_below hb1 hT1).trans ((Touch.of_below hb2' hT2).trans hT3)⟩
    rw [unhide HP]
    exact hJ3.1
end Go.Proofs.YtcneacooedefjaaDoor
