/- log: Crash, Append: contracts. Conditions: a Log as it lies. -/
import Derived.Test.YtijgiieoinmjhaaDoorLog2
import Derived.ArgAppend
import Derived.Deep.RegionLawGrows
import Derived.Deep.DeepCutAuto
namespace Go.Proofs.YtijgiieoinmjhaaDoor
set_option linter.unusedVariables false
set_option linter.unusedSimpArgs false
open Go.RowKit

/-- a log whose cells are all set -/
theorem LgIs.all {g n c safe m : Nat} {w : World} {A : Option Addr} {bs bs' : List Int} {left : Int} {st : Bool} (h : LgIs w g A n c bs safe left st) (K s : Nat) (l : Int) (t : Bool) (hK : K ≤ n) (he : bs' = bs.take K) :
    LgIs ((((w.setCell ⟨g, 0, none⟩ (.slice A K K)).setCell ⟨g, 1, none⟩ (.int .i64 (s : Int))).setCell ⟨g, 2, none⟩ (.int .i64 l)).setCell ⟨g, 3, none⟩ (.bool t)) g A K K bs' s l t := by
  have hb := (((h.blk.set_ 0 (.slice A K K)).set_ 1 (.int .i64 (s : Int))).set_ 2 (.int .i64 l)).set_ 3 (.bool t)
  have hc := ((((Chg.refl g w).set_ 0 (.slice A K K)).set_ 1 (.int .i64 (s : Int))).set_ 2 (.int .i64 l)).set_ 3 (.bool t)
  have hr := Reads.short h.reads hK
  rw [Nat.mul_one, ← List.map_take, ← he] at hr
  have hz : ((((w.setCell ⟨g, 0, none⟩ (.slice A K K)).setCell ⟨g, 1, none⟩ (.int .i64 (s : Int))).setCell ⟨g, 2, none⟩ (.int .i64 l)).setCell ⟨g, 3, none⟩ (.bool t)).heap.size = w.heap.size := by simp [World.setCell]
  refine ⟨by simpa [List.setIfInBounds_toArray] using hb, ?_, Nat.le_refl _, h.ne, fun e => by have := h.nil e; have := h.cap; omega, fun x hx => h.by_ x (by rw [he] at hx; exact List.mem_of_mem_take hx), by have := h.len; omega, h.typ.chg hc h.ne⟩
  rw [hz]
  exact hc.reads hr (Nat.le_refl _) h.ne

set_option maxRecDepth 100000 in
set_option maxHeartbeats 2000000 in
theorem crash_any (g q : Nat) (S : LS) (keep : Int) (w : World) (h : LgS w g S q) (hq : 1 ≤ q) :
    Calls Tryd.prog 29 #[.pointer (some ⟨g, 0, none⟩), .int .i64 keep] w fun e w' => e = .returned (.tuple #[]) ∧ LgS w' g (S.crash keep) q ∧ Chg g w w' := by
  have hok := h.1
  obtain ⟨_, hl, A, n, c, hi⟩ := h
  obtain ⟨c0, c1, c2, c3⟩ := hi.cells
  have hbl : S.bs.length = n := hi.reads.len
  obtain ⟨K, hK⟩ : ∃ K, K = S.kept keep := ⟨_, rfl⟩
  have hKn : K ≤ n := by rw [hK, ← hbl]; exact (LS.kept_le hok keep).2
  have hsn : S.safe ≤ n := by rw [← hbl]; exact hok.safe
  have hn2 := hi.len
  have hKe : (K : Int) = (S.safe : Int) + max 0 (min keep ((n : Int) - (S.safe : Int))) := by
    rw [hK]; unfold LS.kept; rw [hbl]; omega
  have hbs : (S.crash keep).bs = S.bs.take K := by rw [hK]; exact LS.crash_bs hok keep
  have hsk : (S.crash keep).safe = K := hK.symm
  have hok2 := hok.crash_ keep
  obtain ⟨s0, hs0⟩ : ∃ s0, s0 = S.safe := ⟨_, rfl⟩
  rw [← hs0] at hKe hsn c1 hi
  have HKE := hide hKe
  have hcap := hi.cap
  have f0 := hi.blk.frozen 0
  have f1 := hi.blk.frozen 1
  have f2 := hi.blk.frozen 2
  have f3 := hi.blk.frozen 3
  clear hK hs0 hbl hKe
  have HB := hide hbs; have HSK := hide hsk; have HOK2 := hide hok2
  clear hbs hsk hok2
  go_enter Tryd.func29, Tryd.ntmps29
  go_upto_region 0 with (fail)
  go_cut [4] (fun v wx => v = .int .i64 (K : Int) ∧ ∃ k, wx = w.drewN k)
  case first =>
    by_cases h1 : (n : Int) - (s0 : Int) < keep
    · by_cases h2 : 0 < (n : Int) - (s0 : Int)
      all_goals
        go_wp2_with fail
        go_quiet (fail)
        go_wp2_with fail
        go_meet
        exact ⟨congrArg (Value.int .i64) (by have := unhide HKE; omega), _, rfl⟩
    · by_cases h2 : 0 < keep
      all_goals
        go_wp2_with fail
        go_quiet (fail)
        go_wp2_with fail
        go_meet
        exact ⟨congrArg (Value.int .i64) (by have := unhide HKE; omega), _, rfl⟩
  case rest =>
    obtain ⟨rfl, k, rfl⟩ := hcut
    have hall := LgIs.all (m := 0) (hi.below (below_drewN (Below.refl w.heap.size w) k) (Nat.le_refl _)) K K (-1) false hKn (unhide HB)
    have hc := ((((((Chg.refl g w).drewN k).set_ 0 (.slice A K K)).set_ 1 (.int .i64 (K : Int))).set_ 2 (.int .i64 (-1))).set_ 3 (.bool false))
    go_wp2_with fail
    refine end0 (by kernel_rfl) rfl ?_
    exact ⟨rfl, ⟨unhide HOK2, ⟨by show -(q : Int) ≤ -1; omega, by show (-1 : Int) ≤ 9223372036854775807; decide⟩, A, K, K, by rw [unhide HSK]; exact hall⟩, hc⟩

/-- the bytes are cut to the whole calls, what is safe with them -/
theorem LgIs.cutTo {g n c safe : Nat} {w : World} {A : Option Addr} {bs : List Int} {left : Int} {st : Bool} (h : LgIs w g A n c bs safe left st) (K s : Nat) (hK : K ≤ n) :
    LgIs ((w.setCell ⟨g, 0, none⟩ (.slice A K K)).setCell ⟨g, 1, none⟩ (.int .i64 (s : Int))) g A K K (bs.take K) s left st := by
  have hb := (h.blk.set_ 0 (.slice A K K)).set_ 1 (.int .i64 (s : Int))
  have hc := ((Chg.refl g w).set_ 0 (.slice A K K)).set_ 1 (.int .i64 (s : Int))
  have hr := Reads.short h.reads hK
  rw [Nat.mul_one, ← List.map_take] at hr
  have hz : ((w.setCell ⟨g, 0, none⟩ (.slice A K K)).setCell ⟨g, 1, none⟩ (.int .i64 (s : Int))).heap.size = w.heap.size := by simp [World.setCell]
  refine ⟨by simpa [List.setIfInBounds_toArray] using hb, ?_, Nat.le_refl _, h.ne, fun e => by have := h.nil e; have := h.cap; omega, fun x hx => h.by_ x (List.mem_of_mem_take hx), by have := h.len; omega, h.typ.chg hc h.ne⟩
  rw [hz]
  exact hc.reads hr (Nat.le_refl _) h.ne
/-- new bytes -/
theorem LgIs.put_ {g n c safe m base : Nat} {w w' : World} {A : Option Addr} {bs bs' : List Int} {left : Int} {st : Bool} {v : Value} (h : LgIs w g A n c bs safe left st) (ho : w'.ownsRow base 5 1 v m (bs'.map (Value.int .u8))) (hc : Chg g w w') (hb : Blk w' g 101 #[.slice A n c, .int .i64 (safe : Int), .int .i64 left, .bool st])
    (hby : ∀ x ∈ bs', 0 ≤ x ∧ x < 256) (hm : m ≤ 200000) : ∃ A' c', v = .slice A' m c' ∧ LgIs (w'.setCell ⟨g, 0, none⟩ v) g A' m c' bs' safe left st := by
  obtain ⟨A', c', rfl, hr, _, hcc, hn, _⟩ := own_slice2 ho
  have hne := own_ne_blk ho hb (by decide)
  have hb2 := hb.set_ 0 (.slice A' m c')
  have hz : (w'.setCell ⟨g, 0, none⟩ (.slice A' m c')).heap.size = w'.heap.size := by simp [World.setCell]
  refine ⟨A', c', rfl, ⟨by simpa [List.setIfInBounds_toArray] using hb2, ?_, hcc, hne, hn, hby, hm, (BTyp.of_own ho).chg ((Chg.refl g w').set_ _ _) hne⟩⟩
  rw [hz]
  exact ((Chg.refl g w').set_ 0 _).reads hr (Nat.le_refl _) hne

theorem holds_of {w : World} {B n : Nat} {A : Option Addr} {l : List Int} (h : BReads w B A n l) : ∀ b, A = some b → ∀ j u, (l.map (Value.int .u8))[j]? = some u → w.cell? (b.add j) = some u := by
  intro b hb j u hu
  have hj : j < l.length := by have := (List.getElem?_eq_some_iff.1 hu).1; simpa using this
  have := h.len
  obtain ⟨ad, e, _, hc⟩ := h.2 (by omega)
  rw [hb] at e
  injection e with e
  subst e
  exact hc j u hu
set_option maxRecDepth 100000 in
set_option maxHeartbeats 8000000 in
theorem append_any (g q : Nat) (S : LS) (r : Cv) (w : World) (h : LgS w g S q) (hq : q ≤ 1000000) (hr : CvOk w w.heap.size r) (h64 : Nums64 r.c) (hn1 : r.c.name.size ≤ 2000000) (hn2 : r.n ≤ 2000000) (hby : ∀ x ∈ r.c.bytes, 0 ≤ x ∧ x < 256) :
    Calls Tryd.prog 24 #[.pointer (some ⟨g, 0, none⟩), r.val] w fun e w' => e = .returned (errV (S.appE r.c)) ∧ LgS w' g (S.app r.c) (q + 1) ∧ Chg g w w' := by
  obtain ⟨W, hW⟩ : ∃ W, W = w.alloc (.cells #[.int .i64 r.c.what, .int .i64 r.c.ses, .int .i64 r.c.seq, .string r.c.name, .int .i64 r.c.num, .int .i64 r.c.share, .slice r.A r.n r.cap] 53) := ⟨_, rfl⟩
  have hb1 : Blk W w.heap.size 53 #[.int .i64 r.c.what, .int .i64 r.c.ses, .int .i64 r.c.seq, .string r.c.name, .int .i64 r.c.num, .int .i64 r.c.share, .slice r.A r.n r.cap] := by rw [hW]; exact Blk.new _ _ _
  have hbW : Below w.heap.size w W := by rw [hW]; exact (Below.refl _ _).alloc (Nat.le_refl _) _
  have hrW : CvOk W W.heap.size r := (hr.below hbW).more hbW.size
  have hok := h.1
  have hS := h.below hbW (Nat.le_refl _)
  have hok2 := hok.app_ r.c hby
  have he := hide (encode_any r W hrW h64 hn1 hn2)
  have hgw : g < w.heap.size := by obtain ⟨_, _, _, _, _, hi⟩ := h; exact hi.blk.lt
  have hbl := hr.blen
  obtain ⟨c, A0, n0, cap0⟩ := r
  dsimp only at hb1 hn1 hn2 hok2 hbl hW
  obtain ⟨_, hl, A, n, cp, hi⟩ := hS
  have HOK := hide hok; have HOK2 := hide hok2; have HBL := hide hbl; have HBY := hide hby
  clear h hr hrW h64 hok hok2 hbl hby
  simp only [Cv.val]
  go_enter Tryd.func24, Tryd.ntmps24
  go_upto_region 1 with (fail)
  rw [← hW]
  clear hW
  obtain ⟨c0, c1, c2, c3, c4, c5, c6⟩ := hb1.cells7
  go_cut [39] (fun v wx => v = .bool (!decide (valC c)) ∧ wx = W)
  case first =>
    --{
    by_cases a1 : c.what < 1
    · have hv : ¬ valC c := fun h => by have := h.1.1; omega
      have d1 : decide (c.what < 1) = true := by simpa using a1
      go_wp2_with fail
      go_meet
      exact ⟨by simp [hv], rfl⟩
    have d1 : decide (c.what < 1) = false := by simpa using a1
    by_cases a2 : 4 < c.what
    · have hv : ¬ valC c := fun h => by have := h.1.2; omega
      have d2 : decide (4 < c.what) = true := by simpa using a2
      go_wp2_with fail
      go_meet
      exact ⟨by simp [hv], rfl⟩
    have d2 : decide (4 < c.what) = false := by simpa using a2
    go_wp2_with fail
    refine (time_any c.ses _).mono ?_
    rintro e wt ⟨rfl, rfl⟩
    cases b0 : timeB c.ses with
    | false =>
      have hv : Hid (¬ valC c) := hide (fun h => by have := timeB_t.2 h.2.1; rw [b0] at this; cases this)
      clear b0
      go_wp2_with fail
      go_meet
      exact ⟨by simp [unhide hv], rfl⟩
    | true =>
      have HB0 := hide b0
      clear b0
      go_wp2_with fail
      refine (time_any c.seq _).mono ?_
      rintro e wt ⟨rfl, rfl⟩
      cases b1 : timeB c.seq with
      | false =>
        have hv : Hid (¬ valC c) := hide (fun h => by have := timeB_t.2 h.2.2.1; rw [b1] at this; cases this)
        clear b1
        go_wp2_with fail
        go_meet
        exact ⟨by simp [unhide hv], rfl⟩
      | true =>
        have HB1 := hide b1
        clear b1
        go_wp2_with fail
        refine (time_any c.num _).mono ?_
        rintro e wt ⟨rfl, rfl⟩
        cases b2 : timeB c.num with
        | false =>
          have hv : Hid (¬ valC c) := hide (fun h => by have := timeB_t.2 h.2.2.2.1; rw [b2] at this; cases this)
          clear b2
          go_wp2_with fail
          go_meet
          exact ⟨by simp [unhide hv], rfl⟩
        | true =>
          have HB2 := hide b2
          clear b2
          go_wp2_with fail
          refine (time_any c.share _).mono ?_
          rintro e wt ⟨rfl, rfl⟩
          cases b3 : timeB c.share with
          | false =>
            have hv : Hid (¬ valC c) := hide (fun h => by have := timeB_t.2 h.2.2.2.2; rw [b3] at this; cases this)
            clear b3
            go_wp2_with fail
            go_meet
            exact ⟨by simp [unhide hv], rfl⟩
          | true =>
            have HB3 := hide b3
            clear b3
            have hv : Hid (valC c) := hide ⟨⟨by omega, by omega⟩, timeB_t.1 (unhide HB0), timeB_t.1 (unhide HB1), timeB_t.1 (unhide HB2), timeB_t.1 (unhide HB3)⟩
            go_wp2_with fail
            go_meet
            exact ⟨by simp [unhide hv], rfl⟩
    --}
  case rest =>
    obtain ⟨rfl, rfl⟩ := hcut
    by_cases hv : valC c
    case neg =>
      --{
      have HE : Hid (S.appE c = 1) := hide (by unfold LS.appE; rw [if_neg hv])
      have HS : Hid (S.app c = S) := hide (by unfold LS.app; rw [if_neg (fun h => hv h.1)])
      have hvB : (!decide (valC c)) = true := by simp [hv]
      rw [hvB]
      go_wp2_with fail
      go_ret
      exact ⟨by rw [unhide HE]; rfl, by rw [unhide HS]; exact LgS.more ⟨unhide HOK, hl, A, n, cp, hi⟩ (by omega), Chg.of_below hbW⟩
      --}
    have hvB : (!decide (valC c)) = false := by simp [hv]
    rw [hvB]
    clear hvB
    have HV := hide hv
    clear hv
    go_wp2_with fail
    refine (unhide he).mono ?_
    clear he
    rintro e w1 ⟨v1, rfl, hown1, hb1'⟩
    obtain ⟨vA, vc, hv1, hrv, _, hvcc, hvn, hvb⟩ := own_slice2 hown1
    subst hv1
    have hvne : ∀ a, vA = some a → a.block ≠ g := fun a e h => by have := hvb a e; have := hbW.size; omega
    have hi1 := hi.below hb1' (Nat.le_refl _)
    have hb1w := hb1.below hb1' hb1.lt
    have hBw1 := hbW.trans (hb1'.mono hbW.size)
    have hw := hide (whole_any g A n cp S.cs S.tail S.safe S.left S.st w1 hi1 (unhide HOK).good (next_tail (unhide HOK).tail))
    clear c0 c1 c2 c3 c4 c5 c6 hown1 hb1 hi hb1' hbW
    go_wp2_with fail
    refine (unhide hw).mono ?_
    clear hw
    rintro e w2 ⟨v2, rs, rfl, _, _, hb2⟩
    have hi2 := hi1.below hb2 (Nat.le_refl _)
    have hb2w := hb1w.below hb2 hb1w.lt
    have hBw2 := hBw1.trans (hb2.mono hBw1.size)
    have hrv2 := Reads.below hrv hb2
    have hz1 := hBw1.size
    have hz2 := hb2.size
    obtain ⟨a, ha⟩ : ∃ a, a = (recs S.cs).length := ⟨_, rfl⟩
    have han : a ≤ n := by
      have := hi2.reads.len
      rw [← this, ha]
      unfold LS.bs
      rw [List.length_append]
      omega
    have ha1 : a ≤ 100000 := by rw [ha]; exact (unhide HOK).len
    obtain ⟨L, hL⟩ : ∃ L, L = (recB c).length := ⟨_, rfl⟩
    rw [← ha, ← hL]
    rw [← hL] at hrv2 hvcc
    have HA := hide ha; have HL := hide hL
    clear hi1 hb1w hrv hBw1 hb2 ha hL
    obtain ⟨c0, c1, c2, c3, c4, c5, c6⟩ := hb2w.cells7
    obtain ⟨e0, e1, e2, e3⟩ := hi2.cells
    have hL9 : L ≤ 10000000 := by
      rw [unhide HL]; unfold recB bodyB
      simp only [List.length_append, nmL_len]
      have h1 := (enc_len (((encs c.nums).length + c.name.size + c.bytes.length : Nat) : Int)).2
      have h2 := encs_len c.nums
      have h3 : c.nums.length = 6 := rfl
      have := unhide HBL
      omega
    go_upto_region 5 with (fail)
    go_cut [64] (fun v wx => v = .bool (decide (fullC S.cs c)) ∧ wx = w2)
    case first =>
      --{
      by_cases b1 : 100 < c.name.size
      · have hf : Hid (fullC S.cs c) := hide (.inl b1)
        go_wp2_with fail
        go_meet
        exact ⟨by simp [unhide hf], rfl⟩
      by_cases b2 : 6000 < n0
      · have hf : Hid (fullC S.cs c) := hide (.inr (.inl (by rw [unhide HBL]; exact b2)))
        go_wp2_with fail
        go_meet
        exact ⟨by simp [unhide hf], rfl⟩
      by_cases b3 : 100000 < a + L
      · have hf : Hid (fullC S.cs c) := hide (.inr (.inr (by rw [← unhide HA, ← unhide HL]; exact b3)))
        have d3 : decide (100000 < (a : Int) + (L : Int)) = true := by simp; omega
        go_wp2_with fail
        go_meet
        exact ⟨by simp [unhide hf], rfl⟩
      · have hf : Hid (¬ fullC S.cs c) := hide (fun h => by
          unfold fullC at h
          rw [← unhide HA, ← unhide HL, unhide HBL] at h
          omega)
        have d3 : decide (100000 < (a : Int) + (L : Int)) = false := by simp; omega
        go_wp2_with fail
        go_meet
        exact ⟨by simp [unhide hf] <;> omega, rfl⟩
      --}
    case rest =>
      obtain ⟨rfl, rfl⟩ := hcut
      by_cases hf : fullC S.cs c
      case pos =>
        --{
        have HE : Hid (S.appE c = 4) := hide (by unfold LS.appE; rw [if_pos (unhide HV), if_pos hf])
        have HS : Hid (S.app c = S) := hide (by unfold LS.app; rw [if_neg (fun h => h.2.1 hf)])
        have hfB : decide (fullC S.cs c) = true := by simp [hf]
        rw [hfB]
        go_wp2_with fail
        go_ret
        exact ⟨by rw [unhide HE]; rfl, by rw [unhide HS]; exact LgS.more ⟨unhide HOK, hl, A, n, cp, hi2⟩ (by omega), Chg.of_below hBw2⟩
        --}
      have hfB : decide (fullC S.cs c) = false := by simp [hf]
      rw [hfB]
      clear hfB
      have HF := hide hf
      clear hf
      cases hst : S.st with
      | true =>
        --{
        have HE : Hid (S.appE c = 9) := hide (by unfold LS.appE; rw [if_pos (unhide HV), if_neg (unhide HF), if_pos hst])
        have HS : Hid (S.app c = S) := hide (by unfold LS.app; rw [if_neg (fun h => by rw [hst] at h; exact absurd h.2.2 (by decide))])
        rw [hst] at e3
        go_wp2_with fail
        go_ret
        exact ⟨by rw [unhide HE]; rfl, by rw [unhide HS]; exact LgS.more ⟨unhide HOK, hl, A, n, cp, hi2⟩ (by omega), Chg.of_below hBw2⟩
        --}
      | false =>
        rw [hst] at e3 hi2
        have HST := hide hst
        clear hst
        obtain ⟨m, hm⟩ : ∃ m, m = min S.safe a := ⟨_, rfl⟩
        obtain ⟨w3, hw3⟩ : ∃ w3, w3 = wc := ⟨_, rfl⟩
        subst hw3
        have hi3 := hi2.cutTo a m han
        rw [show S.bs.take a = recs S.cs by rw [unhide HA]; unfold LS.bs; simp] at hi3
        have hck := ((Chg.of_below (g := g) hBw2).set_ 0 (.slice A a a)).set_ 1 (.int .i64 (m : Int))
        have hrv3 : BReads ((w3.setCell ⟨g, 0, none⟩ (.slice A a a)).setCell ⟨g, 1, none⟩ (.int .i64 (m : Int))) w1.heap.size vA L (recB c) := (((Chg.refl g w3).set_ 0 (.slice A a a)).set_ 1 (.int .i64 (m : Int))).reads hrv2 hz2 hvne
        have hzz : ((w3.setCell ⟨g, 0, none⟩ (.slice A a a)).setCell ⟨g, 1, none⟩ (.int .i64 (m : Int))).heap.size = w3.heap.size := by simp [World.setCell]
        have f0 := hi2.blk.frozen 0
        have f1 := hi2.blk.frozen 1
        have HM := hide hm
        have hacp : a ≤ cp := Nat.le_trans han hi2.cap
        clear hm
        go_upto_region 10 with (fail)
        go_cut [87] (fun v wx => v = .int .i64 (m : Int) ∧ wx = (w3.setCell ⟨g, 0, none⟩ (.slice A a a)).setCell ⟨g, 1, none⟩ (.int .i64 (m : Int)))
        case first =>
          by_cases hms : S.safe ≤ a
          · have hme : Hid (m = S.safe) := hide (by rw [unhide HM]; exact Nat.min_eq_left hms)
            go_wp2_with fail
            go_meet
            exact ⟨by rw [unhide hme], by rw [unhide hme]⟩
          · have hme : Hid (m = a) := hide (by rw [unhide HM]; exact Nat.min_eq_right (by omega))
            go_wp2_with fail
            go_meet
            exact ⟨by rw [unhide hme], by rw [unhide hme]⟩
        case rest =>
          obtain ⟨rfl, hwx⟩ := hcut
          rw [← hwx] at hi3 hck hrv3 hzz
          clear hwx e0 e1 e2 e3 c0 c1 c2 c3 c4 c5 c6 f0 f1 hi2 hrv2 hb2w
          have hst := hide (logstep_any g A a a (recs S.cs) m S.left false wc hi3 (by omega) hl.2)
          have hpos := recB_pos c
          have hLm : a + L ≤ 100000 := by
            have := unhide HF
            unfold fullC at this
            rw [← unhide HA, ← unhide HL] at this
            omega
          rw [← unhide HL] at hpos
          by_cases h0 : S.left = 0
          · rw [show (false || decide (S.left = 0)) = true by simp [h0]] at hst
            have HE : Hid (S.appE c = 9) := hide (by unfold LS.appE; rw [if_pos (unhide HV), if_neg (unhide HF), if_neg (by rw [unhide HST]; decide), if_pos h0])
            have HS : Hid (S.app c = ⟨S.cs, (recB c).take (L / 2), m, S.left - 1, true⟩) := hide (by unfold LS.app; rw [if_pos ⟨unhide HV, unhide HF, unhide HST⟩, if_pos h0, unhide HM, unhide HL, unhide HA])
            have HL0 := hide h0
            clear h0
            go_wp2_with fail
            refine (unhide hst).mono ?_
            rintro e w5 ⟨rfl, hi4, hc4⟩
            clear hst
            obtain ⟨e0, e1, e2, e3⟩ := hi4.cells
            have f0 := hi4.blk.frozen 0
            have hrv5 := hc4.reads hrv3 (by omega) hvne
            have hsh : BReads w5 w1.heap.size vA (L / 2) ((recB c).take (L / 2)) := by
              have := Reads.short hrv5 (k := L / 2) (by omega)
              rw [Nat.mul_one, ← List.map_take] at this
              exact this
            have hck5 := hck.trans hc4
            clear hi3 hck hrv3 hc4
            obtain ⟨bv, ov, hvA, _⟩ := Reads.spot hrv5 (by omega) (by omega)
            subst hvA
            obtain ⟨i0, hi0, hz0, hs0, hby0⟩ := info_parts elem_byte.info
            have hrl := hi4.reads.len
            have hnil4 := hi4.nil
            have hol := holds_of hi4.reads
            have hnw := holds_of hsh
            have hsl := hsh.len
            have HBYB : Hid (∀ x ∈ recs S.cs ++ (recB c).take (L / 2), 0 ≤ x ∧ x < 256) := hide (fun x hx => by
              rcases List.mem_append.1 hx with h1 | h1
              · exact hi4.by_ x h1
              · exact recB_bytes (unhide HBY) x (List.mem_of_mem_take h1))
            have hl2 : ((recB c).take (L / 2)).length = L / 2 := hsl
            have HQ : 0 < L / 2 := by omega
            obtain ⟨H, hH⟩ : ∃ H, H = L / 2 := ⟨_, rfl⟩
            rw [← hH] at hsh hnw hsl HBYB hl2 HQ HS
            have hHi : (L : Int) / 2 = (H : Int) := by omega
            have hHL : H ≤ L := by omega
            have hHc : H ≤ vc := by omega
            have hHw : IntKind.i64.wrap (H : Int) = (H : Int) := by rw [IntKind.wrap_i64]; omega
            clear hH
            go_upto_region 12 with (fail)
            go_region_law (refine step_append_grows rfl (.tmp 96) (.tmp 101) 22 rfl 5 i0 (.int .u8 0) 1 1 Tryd.underlying22 hi0 hz0 hs0 hby0 rfl (by decide) A a a ((recs S.cs).map (Value.int .u8)) rfl (fun h => ⟨hnil4 h, hnil4 h⟩) (by rw [List.length_map, hrl, Nat.mul_one]) hol ⟨bv, ov, none⟩ H vc (((recB c).take H).map (Value.int .u8)) rfl (by rw [List.length_map, hl2, Nat.mul_one]) (hnw _ rfl) (ints_oneCell .u8 _) (by omega) (by unfold maxLen; omega) (by omega) ?_
                           intro v6 w6 o6 g6
                           have hb6 : Blk w6 g 101 #[.slice A a a, .int .i64 (m : Int), .int .i64 (S.left - 1), .bool true] := (Blk.drew hi4.blk).grown g6 (by simp)
                           have e06 := hb6.cell 0
                           have f06 := hb6.frozen 0
                           simp at e06
                           rw [← List.map_append] at o6
                           obtain ⟨A6, c6', hv6, hL6⟩ := LgIs.put_ hi4 o6 (((Chg.refl g w5).drew).grown g6) hb6 (unhide HBYB) (by omega)
                           subst hv6)
            all_goals
              have hcF := hck5.trans ((((Chg.refl g w5).drew).grown g6).set_ 0 (.slice A6 (a + H) c6'))
              clear hHw hHi hck5 o6 g6 hb6 hol hnw hsh hrv5
              go_wp2_with fail
              go_ret
              exact ⟨by rw [unhide HE]; rfl, by have h2 := unhide HOK2; rw [unhide HS] at h2 ⊢; exact ⟨h2, ⟨by show -((q + 1 : Nat) : Int) ≤ S.left - 1; omega, by show S.left - 1 ≤ 9223372036854775807; omega⟩, A6, a + H, c6', hL6⟩, hcF⟩
          · rw [show (false || decide (S.left = 0)) = false by simp [h0]] at hst
            have HE : Hid (S.appE c = 0) := hide (by unfold LS.appE; rw [if_pos (unhide HV), if_neg (unhide HF), if_neg (by rw [unhide HST]; decide), if_neg h0])
            have HS : Hid (S.app c = ⟨S.cs ++ [c], [], m, S.left - 1, false⟩) := hide (by unfold LS.app; rw [if_pos ⟨unhide HV, unhide HF, unhide HST⟩, if_neg h0, unhide HM, unhide HA])
            clear h0
            go_wp2_with fail
            refine (unhide hst).mono ?_
            rintro e w5 ⟨rfl, hi4, hc4⟩
            clear hst
            obtain ⟨e0, e1, e2, e3⟩ := hi4.cells
            have f0 := hi4.blk.frozen 0
            have hrv5 : BReads w5 w1.heap.size vA L (recB c) := hc4.reads hrv3 (by omega) hvne
            have hck5 := hck.trans hc4
            clear hi3 hck hrv3 hc4
            obtain ⟨bv, ov, hvA, _⟩ := Reads.spot hrv5 (by omega) (by omega)
            subst hvA
            obtain ⟨i0, hi0, hz0, hs0, hby0⟩ := info_parts elem_byte.info
            have hrl := hi4.reads.len
            have hnil4 := hi4.nil
            have hol := holds_of hi4.reads
            have hnw := holds_of hrv5
            have hsl := hrv5.len
            have HBYB : Hid (∀ x ∈ recs S.cs ++ recB c, 0 ≤ x ∧ x < 256) := hide (fun x hx => by
              rcases List.mem_append.1 hx with h1 | h1
              · exact hi4.by_ x h1
              · exact recB_bytes (unhide HBY) x h1)
            go_wp2_with (at_builtin; refine wpList_append_grows _ rfl (.tmp 110) (.tmp 111) 22 rfl 5 i0 (.int .u8 0) 1 1 Tryd.underlying22 hi0 hz0 hs0 hby0 rfl (by decide) A a a ((recs S.cs).map (Value.int .u8)) rfl (fun h => ⟨hnil4 h, hnil4 h⟩) (by rw [List.length_map, hrl, Nat.mul_one]) hol ⟨bv, ov, none⟩ L vc ((recB c).map (Value.int .u8)) rfl (by rw [List.length_map, hsl, Nat.mul_one]) (hnw _ rfl) (ints_oneCell .u8 _) (by omega) (by unfold maxLen; omega) (by omega) ?_; intro v6 w6 o6 g6; have hb6 : Blk w6 g 101 #[.slice A a a, .int .i64 (m : Int), .int .i64 (S.left - 1), .bool false] := hi4.blk.grown g6 (by simp); have e06 := hb6.cell 0; have f06 := hb6.frozen 0; simp at e06; rw [← List.map_append] at o6; obtain ⟨A6, c6', hv6, hL6⟩ := LgIs.put_ hi4 o6 ((Chg.refl g w5).grown g6) hb6 (unhide HBYB) (by omega); subst hv6)
            have hcF := hck5.trans (((Chg.refl g w5).grown g6).set_ 0 (.slice A6 (a + L) c6'))
            go_ret
            exact ⟨by rw [unhide HE]; rfl, by have h2 := unhide HOK2; rw [unhide HS] at h2 ⊢; exact ⟨h2, ⟨by show -((q + 1 : Nat) : Int) ≤ S.left - 1; omega, by show S.left - 1 ≤ 9223372036854775807; omega⟩, A6, a + L, c6', by show LgIs _ g A6 (a + L) c6' (recs (S.cs ++ [c]) ++ []) _ _ _; rw [List.append_nil, recs_app]; exact hL6⟩, hcF⟩
end Go.Proofs.YtijgiieoinmjhaaDoor
