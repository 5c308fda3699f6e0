/- Part 17 of what LawGrowLearns needs: Steps, RefValue, RefTree2, GrowW, GrowF. Conditions: as each lemma names. -/
import Derived.Test.YtdpijhnbhopnbaaPkGrowLearns16
import Derived.Test.YtdpijhnbhopnbaaPkGrowLearns09
import Derived.Deep.RegionHeld3
/- limit.Steps. Conditions: as each lemma names. -/
namespace Go.Proofs.Ytdpijhnbhopnbaa
set_option linter.unusedVariables false
set_option linter.unusedSimpArgs false
open Go.RowKit

def cutsOf (t : List Nd) (fe : Int) : List Int := (t.filter fun n => n.f == fe).map Nd.c
def stepC (t : List Nd) (fe : Int) : List Int := compactL (sortL (cutsOf t fe))
def valOf (t : List Nd) (r : List Int) : Int := valAt t (leafOf t r)
def stepV (t : List Nd) (row : List Int) (f : Nat) (cs : List Int) : List Int := valOf t (row.set f (-1000001)) :: cs.map fun c => valOf t (row.set f c)
def stepsE (t : List Nd) (row : List Int) (fe : Int) : Int := if readyE t row = 0 then (if fe < 0 then 1 else if (row.length : Int) ≤ fe then 1 else 0) else readyE t row
theorem cutsOf_len (t : List Nd) (fe : Int) : (cutsOf t fe).length ≤ t.length := by unfold cutsOf; rw [List.length_map]; exact List.length_filter_le _ _
theorem cuts_hit {t : List Nd} {fe : Int} {k : Nat} {n : Nd} (h : t[k]? = some n) (hf : n.f = fe) : cutsOf (t.take (k + 1)) fe = cutsOf (t.take k) fe ++ [n.c] := by
  unfold cutsOf; rw [take_next h, List.filter_append, List.map_append]; simp [hf]
theorem cuts_miss {t : List Nd} {fe : Int} {k : Nat} {n : Nd} (h : t[k]? = some n) (hf : n.f ≠ fe) : cutsOf (t.take (k + 1)) fe = cutsOf (t.take k) fe := by
  unfold cutsOf; rw [take_next h, List.filter_append, List.map_append]; simp [hf]
/-- a row of ints of which one cell is written -/
theorem IReads.stored {w : World} {B n g o k : Nat} {l : List Int} (h : IReads w B (some ⟨g, o, none⟩) n l) (hk : k < n) (x : Int) : IReads (w.setCell ⟨g, o + k, none⟩ (.int .i64 x)) B (some ⟨g, o, none⟩) n (l.set k x) := by
  have hl := h.len
  obtain ⟨_, _, e, hb, hc⟩ := Reads.spot h (by omega) (by omega)
  cases e
  refine ⟨by simp [hl], fun _ => ⟨_, rfl, hb, fun j u hu => ?_⟩⟩
  have hj : j < n := by
    have := (List.getElem?_eq_some_iff.1 hu).1
    simpa [hl] using this
  have hadd : (⟨g, o, none⟩ : Addr).add j = ⟨g, o + j, none⟩ := by
    unfold Addr.add
    split
    · rename_i e; rw [e]; rfl
    · rfl
  rw [hadd]
  rw [List.getElem?_map, List.getElem?_set] at hu
  by_cases he : k = j
  · subst he
    rw [if_pos rfl, if_pos (by omega)] at hu
    have : Value.int .i64 x = u := by simpa using hu
    subst this
    obtain ⟨b, o', y, e2, _, _, hcy⟩ := h.get hk
    cases e2
    exact World.cell?_setCell_same' _ _ _ (by rw [hcy]; rfl)
  · rw [if_neg he] at hu
    rw [World.cell?_setCell_other _ _ _ _ (by intro e; injection e; omega)]
    exact hc j u (by rw [List.getElem?_map]; exact hu)

def StepsPost (t : List Nd) (row : List Int) (fe : Int) (w : World) (e : Ending) (w' : World) : Prop :=
  ∃ A1 n1 c1 A2 n2 c2 C V, e = .returned (.tuple #[.slice A1 n1 c1, .slice A2 n2 c2, errV (stepsE t row fe)]) ∧ IReads w' w'.heap.size A1 n1 C ∧ IReads w' w'.heap.size A2 n2 V ∧
    (stepsE t row fe = 0 → C = stepC t fe ∧ V = stepV t row fe.toNat (stepC t fe)) ∧ (stepsE t row fe ≠ 0 → n1 = 0 ∧ n2 = 0) ∧ Below w.heap.size w w'
theorem StepsPost.fault {t : List Nd} {row : List Int} {fe : Int} {w w' : World} (h : stepsE t row fe ≠ 0) (hb : Below w.heap.size w w') : StepsPost t row fe w (.returned (.tuple #[.slice none 0 0, .slice none 0 0, errV (stepsE t row fe)])) w' :=
  ⟨none, 0, 0, none, 0, 0, [], [], rfl, IReads.nil_, IReads.nil_, fun h' => absurd h' h, fun _ => ⟨rfl, rfl⟩, hb⟩

end Go.Proofs.Ytdpijhnbhopnbaa
/- The reference's Value of a row: what the leaf says to which it comes. Conditions: the tree is right, the row has as many cells as it has features. -/
namespace Go.Proofs.Ytdpijhnbhopnbaa
set_option linter.unusedVariables false
set_option linter.unusedSimpArgs false
open Go.RowKit

end Go.Proofs.Ytdpijhnbhopnbaa
/- The reference of tree.Check: orchref1.Tree; Ready. Conditions: a tree that reads as a list of nodes. -/
namespace Go.Proofs.Ytdpijhnbhopnbaa
set_option linter.unusedVariables false
set_option linter.unusedSimpArgs false
open Go.RowKit

def RTPost (t : List Nd) (fe : Int) (w : World) (e : Ending) (w' : World) : Prop :=
  e = .returned (.tuple #[.int .i64 ((treeC t fe).1 : Int), .int .i64 (treeC t fe).2]) ∧ Below w.heap.size w w'
theorem RTPost.mk {t : List Nd} {fe : Int} {w w' : World} {at_ : Nat} {er : Int} (h : treeC t fe = (at_, er)) (hb : Below w.heap.size w w') : RTPost t fe w (.returned (.tuple #[.int .i64 (at_ : Int), .int .i64 er])) w' := by
  refine ⟨?_, hb⟩; rw [h]

end Go.Proofs.Ytdpijhnbhopnbaa
/- Package grow and the document: Ready, Wrong, Split. Conditions: a tree and samples that read as data. -/
namespace Go.Proofs.Ytdpijhnbhopnbaa
set_option linter.unusedVariables false
set_option linter.unusedSimpArgs false
open Go.RowKit

/-- what is wrong with a tree and samples -/
def readyS (t : List Nd) (ss : List Sm) : Int := match ss with
  | [] => 5
  | s :: _ => if treeE t s.r.length = 0 then sampE ss s.r.length else treeE t s.r.length
theorem readyS_at {t : List Nd} {ss : List Sm} {s : Sm} (h : ss[0]? = some s) : readyS t ss = if treeE t s.r.length = 0 then sampE ss s.r.length else treeE t s.r.length := by
  cases ss with
  | nil => simp at h
  | cons x r => simp at h; subst h; rfl
def wrongM (t : List Nd) : List Sm → Int
  | [] => 0
  | s :: r => (s.t - valOf t s.r) * (s.t - valOf t s.r) + wrongM t r
theorem wrongM_app (t : List Nd) (a b : List Sm) : wrongM t (a ++ b) = wrongM t a + wrongM t b := by
  induction a with
  | nil => simp [wrongM]
  | cons s r ih => simp only [List.cons_append, wrongM, ih]; omega
theorem wrongM_next {t : List Nd} {ss : List Sm} {k : Nat} {s : Sm} (h : ss[k]? = some s) : wrongM t (ss.take (k + 1)) = wrongM t (ss.take k) + (s.t - valOf t s.r) * (s.t - valOf t s.r) := by
  rw [take_next h, wrongM_app]; simp [wrongM]
/-- a tree and samples that go together -/
structure RS (t : List Nd) (ss : List Sm) (n : Nat) : Prop where
  tree : Right t n
  samp : SRight ss n
theorem readyS_0 {t : List Nd} {ss : List Sm} (h : readyS t ss = 0) : ∃ n : Nat, RS t ss n ∧ treeE t n = 0 ∧ sampE ss n = 0 := by
  cases ss with
  | nil => cases h
  | cons s r =>
    unfold readyS at h
    simp only at h
    by_cases h0 : treeE t s.r.length = 0
    · rw [if_pos h0] at h
      obtain ⟨n, hn, hs⟩ := samp_right h
      refine ⟨s.r.length, ⟨right_of h0, ?_⟩, h0, h⟩
      rw [show s.r.length = n by omega]; exact hs
    · rw [if_neg h0] at h; exact absurd h h0
theorem leaf_there {t : List Nd} {n : Nat} (h : Right t n) (r : List Int) : ∃ x, t[leafOf t r]? = some x ∧ valOf t r = x.v ∧ -1000000 ≤ x.v ∧ x.v ≤ 1000000 := by
  have hlt : leafOf t r < t.length := leafFrom_lt h.behind _ _ h.pos
  refine ⟨_, List.getElem?_eq_getElem hlt, ?_, ?_⟩
  · unfold valOf valAt
    rw [List.getElem?_eq_getElem hlt]
  · have := node_of (h.node _ _ (List.getElem?_eq_getElem hlt))
    omega
theorem wrongM_le {t : List Nd} {n : Nat} (h : Right t n) {ss : List Sm} (h1 : ∀ s ∈ ss, -1000 ≤ s.t) (h2 : ∀ s ∈ ss, s.t ≤ 1000) : 0 ≤ wrongM t ss ∧ wrongM t ss ≤ 1002001000000 * (ss.length : Int) := by
  induction ss with
  | nil => simp [wrongM]
  | cons s r ih =>
    obtain ⟨c, d⟩ := ih (fun x hx => h1 x (List.mem_cons_of_mem _ hx)) (fun x hx => h2 x (List.mem_cons_of_mem _ hx))
    obtain ⟨x, _, e, e1, e2⟩ := leaf_there h s.r
    have a := h1 s (List.mem_cons_self ..)
    have b := h2 s (List.mem_cons_self ..)
    have q := sq_le (a := s.t - valOf t s.r) (m := 1001000) (by omega) (by omega)
    simp only [wrongM, List.length_cons]
    omega

set_option maxRecDepth 100000 in
set_option maxHeartbeats 2000000 in
theorem gReady_any (A C : Option Addr) (m d k c : Nat) (t : List Nd) (ss : List Sm) (w : World) (ht : NReads w w.heap.size A m t) (hs : MReads w w.heap.size C k ss) (hm : m ≤ maxLen) (hk : k ≤ maxLen) :
    Calls Try.prog 24 #[.slice A m d, .slice C k c] w fun e w' => e = .returned (errV (readyS t ss)) ∧ Below w.heap.size w w' := by
  have hl := hs.len
  rcases Nat.eq_zero_or_pos k with h0 | h0
  · subst h0
    obtain rfl : ss = [] := List.length_eq_zero_iff.1 hl
    go_enter Try.func24, Try.ntmps24
    go_wp2_with fail
    go_ret
    exact ⟨rfl, Below.refl _ _⟩
  · have d0 : ((k : Int) == 0) = false := by simp; omega
    obtain ⟨b, o, s, rfl, _, hx, c0, c1, hok⟩ := hs.get h0
    have HR := hide (readyS_at (t := t) hx)
    have hrl := hok.reads.len
    have hsn := hok.len
    have HC := hide (fun (W : World) (hB : Below w.heap.size w W) => gCheck_any (some ⟨b, o, none⟩) k c s.n ss W ((hs.below hB).more hB.size) hk)
    unfold MCheckPost at HC
    rw [hrl] at HR
    obtain ⟨sA, sn, sc, sr, st⟩ := s
    dsimp only at c0 c1 HR hrl hsn HC
    have c0' : w.cell? ⟨b, o, none⟩ = some (.slice sA sn sc) := by simpa using c0
    unfold maxLen at hsn
    clear hx hok hrl hl c0
    by_cases e0 : treeE t sn = 0
    · have HZ : Hid (readyS t ss = sampE ss sn) := hide (by rw [unhide HR, if_pos e0])
      have hv := errV_0 e0
      obtain ⟨k0, hk0⟩ : ∃ k0, k0 = (((sampC ss sn).1 : Nat) : Int) := ⟨_, rfl⟩
      rw [← hk0] at HC
      clear HR e0 hk0
      go_enter Try.func24, Try.ntmps24
      go_wp2_with fail
      refine (check_any A m d sn t w ht hm).mono ?_
      rintro e w1 ⟨rfl, hb1⟩
      rw [hv]
      clear hv
      go_wp2_with fail
      refine (unhide HC w1 hb1).mono ?_
      rintro e w2 ⟨rfl, hb2⟩
      go_wp2_with fail
      go_ret
      exact ⟨by rw [unhide HZ]; rfl, hb1.trans (hb2.mono hb1.size)⟩
    · have HZ : Hid (readyS t ss = treeE t sn) := hide (by rw [unhide HR, if_neg e0])
      have hv := errV_1 e0
      have HV := hide hv
      clear HR e0 HC
      go_enter Try.func24, Try.ntmps24
      go_wp2_with fail
      refine (check_any A m d sn t w ht hm).mono ?_
      rintro e w1 ⟨rfl, hb1⟩
      rw [hv]
      clear hv
      go_wp2_with fail
      go_ret
      exact ⟨by rw [unhide HZ, unhide HV]; rfl, hb1⟩

def splitE (ss : List Sm) (fe least : Int) : Int := if sampE ss fe = 0 then (if least < 1 ∨ 60 < least then 1 else if (bestB ss fe.toNat least.toNat).f < 0 then 5 else 0) else sampE ss fe
def splitF (ss : List Sm) (fe least : Int) : Int := if splitE ss fe least = 0 then (bestB ss fe.toNat least.toNat).f else 0
def splitC (ss : List Sm) (fe least : Int) : Int := if splitE ss fe least = 0 then (bestB ss fe.toNat least.toNat).c else 0
set_option maxRecDepth 100000 in
set_option maxHeartbeats 2000000 in
theorem split_any (A : Option Addr) (m c : Nat) (fe least : Int) (ss : List Sm) (w : World) (h : MReads w w.heap.size A m ss) (hm : m ≤ maxLen) :
    Calls Try.prog 11 #[.slice A m c, .int .i64 fe, .int .i64 least] w fun e w' => e = .returned (.tuple #[.int .i64 (splitF ss fe least), .int .i64 (splitC ss fe least), errV (splitE ss fe least)]) ∧ Below w.heap.size w w' := by
  have HCk := hide (gCheck_any A m c fe ss w h hm)
  unfold MCheckPost at HCk
  obtain ⟨k0, hk0⟩ : ∃ k0, k0 = (((sampC ss fe).1 : Nat) : Int) := ⟨_, rfl⟩
  rw [← hk0] at HCk
  clear hk0
  by_cases a1 : sampE ss fe = 0
  case neg =>
    have HE : Hid (splitE ss fe least = sampE ss fe) := hide (by unfold splitE; rw [if_neg a1])
    have HF : Hid (splitF ss fe least = 0 ∧ splitC ss fe least = 0) := hide (by unfold splitF splitC; rw [unhide HE, if_neg a1]; exact ⟨rfl, by rw [if_neg a1]⟩)
    have hv := errV_1 a1
    have HV := hide hv
    clear a1
    go_enter Try.func11, Try.ntmps11
    go_wp2_with fail
    refine (unhide HCk).mono ?_
    rintro e w1 ⟨rfl, hb1⟩
    rw [hv]
    clear HCk hv
    go_wp2_with fail
    go_ret3
    exact ⟨by rw [unhide HE, unhide HV, (unhide HF).1, (unhide HF).2]; rfl, hb1⟩
  obtain ⟨n, hn, hs⟩ := samp_right a1
  subst hn
  rw [a1, errV_0 rfl] at HCk
  by_cases b1 : least < 1 ∨ 60 < least
  · have HE : Hid (splitE ss n least = 1) := hide (by unfold splitE; rw [if_pos a1, if_pos b1])
    have HF : Hid (splitF ss n least = 0 ∧ splitC ss n least = 0) := hide (by unfold splitF splitC; rw [unhide HE]; exact ⟨rfl, rfl⟩)
    have d3 : (decide (1 ≤ least) && decide (least ≤ 60)) = false := by simp; omega
    clear a1 b1 hs
    go_enter Try.func11, Try.ntmps11
    go_wp2_with fail
    refine (unhide HCk).mono ?_
    rintro e w1 ⟨rfl, hb1⟩
    clear HCk
    go_wp2_with fail
    refine (least_any least w1).mono ?_
    rintro e w2 ⟨rfl, rfl⟩
    rw [d3]
    clear d3
    go_wp2_with fail
    go_ret3
    exact ⟨by rw [unhide HE, (unhide HF).1, (unhide HF).2]; rfl, hb1⟩
  obtain ⟨ls, hls⟩ : ∃ l : Nat, least = l := ⟨least.toNat, by omega⟩
  subst hls
  have d3 : (decide (1 ≤ (ls : Int)) && decide ((ls : Int) ≤ 60)) = true := by simp; omega
  have HB := hide (fun (W : World) (hB : Below w.heap.size w W) => best_any A m c n ls ss W ((h.below hB).more hB.size) hs (by omega) (by omega))
  unfold BestPost at HB
  obtain ⟨bf, hbf⟩ : ∃ x, x = (bestB ss n ls).f := ⟨_, rfl⟩
  obtain ⟨bc, hbc⟩ : ∃ x, x = (bestB ss n ls).c := ⟨_, rfl⟩
  rw [← hbf, ← hbc] at HB
  by_cases e0 : bf < 0
  · have HE : Hid (splitE ss n ls = 5) := hide (by unfold splitE; rw [if_pos a1, if_neg b1, Int.toNat_natCast, Int.toNat_natCast, ← hbf, if_pos e0])
    have HF : Hid (splitF ss n ls = 0 ∧ splitC ss n ls = 0) := hide (by unfold splitF splitC; rw [unhide HE]; exact ⟨rfl, rfl⟩)
    have d4 : decide (bf < 0) = true := decide_eq_true e0
    clear a1 b1 hs hbf hbc e0
    go_enter Try.func11, Try.ntmps11
    go_wp2_with fail
    refine (unhide HCk).mono ?_
    rintro e w1 ⟨rfl, hb1⟩
    clear HCk
    go_wp2_with fail
    refine (least_any ls w1).mono ?_
    rintro e w2 ⟨rfl, rfl⟩
    rw [d3]
    clear d3
    go_wp2_with fail
    refine (unhide HB w1 hb1).mono ?_
    rintro e w2 ⟨rfl, hb2⟩
    go_wp2_with fail
    go_ret3
    exact ⟨by rw [unhide HE, (unhide HF).1, (unhide HF).2]; rfl, hb1.trans (hb2.mono hb1.size)⟩
  · have HE : Hid (splitE ss n ls = 0) := hide (by unfold splitE; rw [if_pos a1, if_neg b1, Int.toNat_natCast, Int.toNat_natCast, ← hbf, if_neg e0])
    have HF : Hid (splitF ss n ls = bf ∧ splitC ss n ls = bc) := hide (by unfold splitF splitC; rw [unhide HE, if_pos rfl, if_pos rfl, Int.toNat_natCast, Int.toNat_natCast]; exact ⟨hbf.symm, hbc.symm⟩)
    have d4 : decide (bf < 0) = false := decide_eq_false e0
    clear a1 b1 hs hbf hbc e0
    go_enter Try.func11, Try.ntmps11
    go_wp2_with fail
    refine (unhide HCk).mono ?_
    rintro e w1 ⟨rfl, hb1⟩
    clear HCk
    go_wp2_with fail
    refine (least_any ls w1).mono ?_
    rintro e w2 ⟨rfl, rfl⟩
    rw [d3]
    clear d3
    go_wp2_with fail
    refine (unhide HB w1 hb1).mono ?_
    rintro e w2 ⟨rfl, hb2⟩
    go_wp2_with fail
    go_ret3
    exact ⟨by rw [unhide HE, (unhide HF).1, (unhide HF).2]; rfl, hb1.trans (hb2.mono hb1.size)⟩
end Go.Proofs.Ytdpijhnbhopnbaa
/- Package grow: Grow, Fit. Conditions: samples that read as data. -/
namespace Go.Proofs.Ytdpijhnbhopnbaa
set_option linter.unusedVariables false
set_option linter.unusedSimpArgs false
open Go.RowKit

theorem own_over {w w1 : World} {base n size : Nat} {e : TypeId} {v : Value} {xs : List Value} (h : w.ownsRow base e size v n xs) (hb : Below w.heap.size w w1) : w1.ownsRow base e size v n xs :=
  h.kept (only_of_below hb none) (by rcases v.ownBlock with _ | k; exact .inl rfl; exact .inr (by simp))
def GrowPost (L : List Nd) (v : Value) (base : Nat) (w : World) (e : Ending) (w' : World) : Prop := ∃ v', e = .returned v' ∧ NOwn w' base v' L ∧ w.grownBy w' v.ownBlock ∧ OwnNext w v v'
theorem ownNext_app {w1 : World} {v v2 : Value} (h : v2.ownBlock = v.ownBlock ∨ v2.ownBlock = some (w1.heap.size + 1)) : OwnNext w1 v v2 := by
  rcases h with h | h
  · exact .inl h
  · exact .inr ⟨_, h, by omega⟩
theorem only_of_below_none {w w' : World} {n c : Nat} (h : w.grownBy w' (Value.slice none n c).ownBlock) : Below w.heap.size w w' := ⟨h.os, h.tape, h.output, h.size, fun i hi => h.block i hi (by simp [Value.ownBlock])⟩
theorem sum_floor {ss : List Sm} {n : Nat} (hs : SRight ss n) : -60000 ≤ sumM ss ∧ sumM ss ≤ 60000 := sum_60 hs.most hs.tlo hs.thi

set_option maxRecDepth 100000 in
set_option maxHeartbeats 8000000 in
theorem grow_any (n least : Nat) (hl : 1 ≤ least) (hl2 : least ≤ 60) : ∀ (d : Nat) (D : Int), D = d → d ≤ 1000 → ∀ (ss : List Sm) (A : Option Addr) (m c : Nat) (xs : List Nd) (v : Value) (base : Nat) (w : World), SRight ss n → MKept w v A m ss → NOwn w base v xs → base ≤ w.heap.size → xs.length + (growK n least d ss).size ≤ 1000000 →
    Calls Try.prog 19 #[v, .slice A m c, .int .i64 n, .int .i64 D, .int .i64 least] w (GrowPost (xs ++ layK xs.length (growK n least d ss)) v base w) := by
  intro d
  induction d with
  | zero =>
    intro D hD hd ss A m c xs v base w hs hk ho hB hn
    have hr := hk.now
    have hlen := hr.len
    have hm60 : m ≤ 60 := by have := hs.most; omega
    have hm1 : 1 ≤ m := by have := hs.pos; omega
    have d1 : decide (0 < D) = false := decide_eq_false (by omega)
    have HG : Hid (layK xs.length (growK n least 0 ss) = [⟨-1, 0, 0, 0, false, sumM ss / (m : Int)⟩]) := hide (by simp only [growK, layK, leafG, hlen])
    have hxl : xs.length ≤ 1000000 := by omega
    have HS := hide (msum_any A m c ss w hr hm60 hs.tlo hs.thi)
    have hb1 := sum_floor hs
    obtain ⟨S, hS⟩ : ∃ S, S = sumM ss := ⟨_, rfl⟩
    rw [← hS] at HS HG hb1
    obtain ⟨Av, cv, rfl, _, _⟩ := ho.slice
    have hown : w.ownsRow base 32 6 (.slice Av xs.length cv) xs.length (xs.flatMap Nd.cells) := ho
    have HV : Hid ((Value.slice Av xs.length cv).ownBlock = (Value.slice Av xs.length cv).ownBlock) := hide rfl
    clear hs hk hr hlen hS hn hD ho
    go_enter Try.func19, Try.ntmps19
    go_wp2_with fail
    refine (unhide HS).mono ?_
    rintro e w1 ⟨rfl, hbw⟩
    have hown1 := own_over hown hbw
    have hz1 : base ≤ w1.heap.size := Nat.le_trans hB hbw.size
    clear HS
    go_wp2_with fail
    refine (floor_any S m w1 (by omega) (by omega) (by omega) (by omega)).mono ?_
    rintro e w2 ⟨rfl, rfl⟩
    go_wp2_with (at_builtin; refine app_one2 elem_nodeP (.tmp 29) (.tmp 36) [.int .i64 (-1), .int .i64 0, .int .i64 0, .int .i64 0, .bool false, .int .i64 (S / (m : Int))] rfl rfl rfl hown1 rfl rfl rfl (node_one ⟨-1, 0, 0, 0, false, S / (m : Int)⟩) (by omega) hz1 ?_; intro v2 w2 hown2 hb2 hg2 hn2)
    go_ret
    refine ⟨v2, rfl, ?_, grown_next (only_of_below hbw _) (OwnNext.refl _ _) hg2, (OwnNext.refl _ _).trans hbw.size (ownNext_app hn2)⟩
    rw [unhide HG]
    unfold NOwn
    rw [List.length_append, List.flatMap_append]
    exact hown2
  | succ d ih =>
    intro D hD hd ss A m c xs v base w hs hk ho hB hn
    have hr := hk.now
    have hlen := hr.len
    have hm60 : m ≤ 60 := by have := hs.most; omega
    have hm1 : 1 ≤ m := by have := hs.pos; omega
    have hn8 := hs.fe8
    have d1 : decide (0 < D) = true := decide_eq_true (by omega)
    have hD1 : D - 1 = d := by omega
    have hD2 : D ≤ 1001 := by omega
    have hD3 : 0 < D := by omega
    have hok := bestB_ok (least := least) hs hl
    have HBst := hide (best_any A m c n least ss w hr hs hl hl2)
    unfold BestPost at HBst
    obtain ⟨_, _, _, _, hf1, hf2, _, _, hz⟩ := hok
    by_cases h0 : (bestB ss n least).f < 0
    · have HG : Hid (layK xs.length (growK n least (d + 1) ss) = [⟨-1, 0, 0, 0, false, sumM ss / (m : Int)⟩]) := hide (by simp only [growK]; rw [if_pos h0]; simp only [layK, leafG, hlen])
      have hxl : xs.length ≤ 1000000 := by omega
      have HS := hide (fun (W : World) (hb : Below w.heap.size w W) => msum_any A m c ss W ((hr.below hb).more hb.size) hm60 hs.tlo hs.thi)
      have hb1 := sum_floor hs
      obtain ⟨S, hS⟩ : ∃ S, S = sumM ss := ⟨_, rfl⟩
      rw [← hS] at HS HG hb1
      obtain ⟨bf, hbf⟩ : ∃ x, x = (bestB ss n least).f := ⟨_, rfl⟩
      obtain ⟨bc, hbc⟩ : ∃ x, x = (bestB ss n least).c := ⟨_, rfl⟩
      rw [← hbf] at HBst h0
      rw [← hbc] at HBst
      have d2 : decide (bf < 0) = true := decide_eq_true h0
      obtain ⟨Av, cv, rfl, _, _⟩ := ho.slice
      have hown : w.ownsRow base 32 6 (.slice Av xs.length cv) xs.length (xs.flatMap Nd.cells) := ho
      clear hs hk hr hlen hS hn hD ho hbf hbc hz hf1 hf2 ih hD1
      go_enter Try.func19, Try.ntmps19
      go_wp2_with fail
      refine (unhide HBst).mono ?_
      rintro e w0 ⟨rfl, hbw0⟩
      go_wp2_with fail
      refine (unhide HS w0 hbw0).mono ?_
      rintro e w1 ⟨rfl, hbw1⟩
      have hbw := hbw0.trans (hbw1.mono hbw0.size)
      have hown1 := own_over hown hbw
      have hz1 : base ≤ w1.heap.size := Nat.le_trans hB hbw.size
      clear HS hbw0 hbw1
      go_wp2_with fail
      refine (floor_any S m w1 (by omega) (by omega) (by omega) (by omega)).mono ?_
      rintro e w2 ⟨rfl, rfl⟩
      go_wp2_with (at_builtin; refine app_one2 elem_nodeP (.tmp 29) (.tmp 36) [.int .i64 (-1), .int .i64 0, .int .i64 0, .int .i64 0, .bool false, .int .i64 (S / (m : Int))] rfl rfl rfl hown1 rfl rfl rfl (node_one ⟨-1, 0, 0, 0, false, S / (m : Int)⟩) (by omega) hz1 ?_; intro v2 w2 hown2 hb2 hg2 hn2)
      go_ret
      refine ⟨v2, rfl, ?_, grown_next (only_of_below hbw _) (OwnNext.refl _ _) hg2, (OwnNext.refl _ _).trans hbw.size (ownNext_app hn2)⟩
      rw [unhide HG]
      unfold NOwn
      rw [List.length_append, List.flatMap_append]
      exact hown2
    · obtain ⟨f, hf⟩ : ∃ f : Nat, (bestB ss n least).f = f := ⟨(bestB ss n least).f.toNat, by omega⟩
      obtain ⟨C, hC⟩ : ∃ C, C = (bestB ss n least).c := ⟨_, rfl⟩
      rw [hf, ← hC, Int.toNat_natCast] at hz
      rw [hf] at hf2 h0
      have hlow : 1 ≤ (lowS f C ss).length := by rcases hz with hz | hz <;> omega
      have hhigh : 1 ≤ (highS f C ss).length := by rcases hz with hz | hz <;> omega
      have hpl := parts_len f C ss
      have hG : growK n least (d + 1) ss = .node ⟨f, C, 0, 0, decide ((highS f C ss).length < (lowS f C ss).length), 0⟩ (growK n least d (lowS f C ss)) (growK n least d (highS f C ss)) := by
        simp only [growK]
        rw [if_neg (by rw [hf]; omega)]
        simp only [hf, ← hC, Int.toNat_natCast]
      rw [hf, ← hC] at HBst
      have HP := hide (fun (W : World) (hb : Below w.heap.size w W) => mpart_any A m c f C ss W ((hr.below hb).more hb.size) hm60 (fun s hsm => by rw [hs.len s hsm]; omega))
      have hsl := hs.low (f := f) (c := C) hlow
      have hsh := hs.high (f := f) (c := C) hhigh
      rw [hG] at hn ⊢
      simp only [Kt.size] at hn
      obtain ⟨La, hLa⟩ : ∃ La, La = lowS f C ss := ⟨_, rfl⟩
      obtain ⟨Lb, hLb⟩ : ∃ Lb, Lb = highS f C ss := ⟨_, rfl⟩
      have HMa : Hid (∀ s ∈ La, s ∈ ss) := hide (by rw [hLa]; exact fun s hs => (lowS_mem hs).1)
      have HMb : Hid (∀ s ∈ Lb, s ∈ ss) := hide (by rw [hLb]; exact fun s hs => (highS_mem hs).1)
      rw [← hLa] at hn HP hsl hlow hpl ⊢
      rw [← hLb] at hn HP hsh hhigh hpl ⊢
      obtain ⟨la, hla⟩ : ∃ la, la = La.length := ⟨_, rfl⟩
      obtain ⟨lb, hlb⟩ : ∃ lb, lb = Lb.length := ⟨_, rfl⟩
      unfold PartPost at HP
      rw [← hla, ← hlb] at HP
      obtain ⟨lo, hlo⟩ : ∃ lo : Bool, lo = decide (lb < la) := ⟨_, rfl⟩
      have d3 : decide (lb < la) = lo := hlo.symm
      have d3' : decide ((lb : Int) < (la : Int)) = lo := by rw [hlo, decide_eq_decide]; omega
      have hla60 : la ≤ 60 := by omega
      have hlb60 : lb ≤ 60 := by omega
      have hf8 : f ≤ 8 := by omega
      have d2 : decide ((f : Int) < 0) = false := decide_eq_false (by omega)
      obtain ⟨Ka, hKa⟩ : ∃ Ka, Ka = growK n least d La := ⟨_, rfl⟩
      obtain ⟨Kb, hKb⟩ : ∃ Kb, Kb = growK n least d Lb := ⟨_, rfl⟩
      rw [← hKa, ← hKb] at hn ⊢
      rw [← hla, ← hlb, d3]
      have HKL : Hid (layK xs.length (.node ⟨f, C, 0, 0, lo, 0⟩ Ka Kb) = ⟨f, C, ((xs.length + 1 : Nat) : Int), ((xs.length + 1 + Ka.size : Nat) : Int), lo, 0⟩ :: (layK (xs.length + 1) Ka ++ layK (xs.length + 1 + Ka.size) Kb)) := hide rfl
      obtain ⟨M, hM⟩ : ∃ M, M = xs.length + 1 + Ka.size := ⟨_, rfl⟩
      rw [← hM] at HKL
      have hxl : xs.length ≤ 1000000 := by omega
      have hMle : M ≤ 1000000 := by omega
      obtain ⟨Av, cv, rfl, _, _⟩ := ho.slice
      have hown : w.ownsRow base 32 6 (.slice Av xs.length cv) xs.length (xs.flatMap Nd.cells) := ho
      have hk2 := hk
      have hN2 : (xs ++ [(⟨f, C, (xs.length : Int) + 1, 0, lo, 0⟩ : Nd)]).length = xs.length + 1 := by simp
      have HI1 := hide (fun (W : World) (v1 : Value) (c1 : Nat) (A1 : Option Addr) (hkk : MKept W v1 A1 la La) (hoo : NOwn W base v1 (xs ++ [⟨f, C, (xs.length : Int) + 1, 0, lo, 0⟩])) (hbb : base ≤ W.heap.size) =>
        ih (D - 1) hD1 (by omega) La A1 la c1 _ v1 base W hsl hkk hoo hbb (by rw [hN2, ← hKa]; omega))
      have HI2 := hide (fun (W : World) (v1 : Value) (c1 : Nat) (A1 : Option Addr) (hkk : MKept W v1 A1 lb Lb) (hoo : NOwn W base v1 (xs ++ ⟨f, C, (xs.length : Int) + 1, M, lo, 0⟩ :: layK (xs.length + 1) Ka)) (hbb : base ≤ W.heap.size) =>
        ih (D - 1) hD1 (by omega) Lb A1 lb c1 _ v1 base W hsh hkk hoo hbb (by simp [layK_len, ← hKb]; omega))
      rw [← hKa, hN2] at HI1
      rw [← hKb] at HI2
      have hN3 : (xs ++ (⟨f, C, (xs.length : Int) + 1, M, lo, 0⟩ : Nd) :: layK (xs.length + 1) Ka).length = M := by simp [layK_len]; omega
      have hN4 : (xs ++ (⟨f, C, (xs.length : Int) + 1, 0, lo, 0⟩ : Nd) :: layK (xs.length + 1) Ka).length = M := by simp [layK_len]; omega
      rw [hN3] at HI2
      have HM := hide hM
      have HLA := hide hla
      have HLB := hide hlb
      have HK0 := hide hk
      clear hs hk hr hlen hn hD ho hG hsl hsh hLa hLb hla hlb hKa hKb hz hf1 hf2 ih hD1 hpl hM hlow hhigh h0 hf hC hN2 hlo hk2
      go_enter Try.func19, Try.ntmps19
      go_wp2_with fail
      refine (unhide HBst).mono ?_
      rintro e w0 ⟨rfl, hbw0⟩
      clear HBst
      go_wp2_with fail
      refine (unhide HP w0 hbw0).mono ?_
      rintro e w1 ⟨A1, c1, A2, c2, rfl, ⟨hoa, _⟩, ⟨hob, _⟩, hbw1⟩
      have hown0 := own_over hown hbw0
      have hka : MKept w1 (.slice Av xs.length cv) A1 la La := by rw [unhide HLA] at hoa ⊢; exact MKept.made hown0 ((unhide HK0).next (only_of_below hbw0 _) (OwnNext.refl _ _)) hbw1 hoa (unhide HMa)
      have hkb : MKept w1 (.slice Av xs.length cv) A2 lb Lb := by rw [unhide HLB] at hob ⊢; exact MKept.made hown0 ((unhide HK0).next (only_of_below hbw0 _) (OwnNext.refl _ _)) hbw1 hob (unhide HMb)
      have hbw := hbw0.trans (hbw1.mono hbw0.size)
      have hown1 := own_over hown0 hbw1
      have hz1 : base ≤ w1.heap.size := Nat.le_trans hB hbw.size
      have HKA := hide hka
      have HKB := hide hkb
      have HBW := hide hbw
      clear HP hbw0 hbw1 hoa hob hown0 hown hka hkb hbw HLA HLB HK0 HMa HMb
      go_wp2_with (at_builtin; refine app_one2 elem_nodeP (.tmp 45) (.tmp 56) [.int .i64 f, .int .i64 C, .int .i64 ((xs.length : Int) + 1), .int .i64 0, .bool lo, .int .i64 0] rfl rfl rfl hown1 rfl rfl rfl (node_one ⟨f, C, (xs.length : Int) + 1, 0, lo, 0⟩) (by omega) hz1 ?_; intro v3 w3 hown3 hb3 hg3 hn3)
      have ho3 : NOwn w3 base v3 (xs ++ [⟨f, C, (xs.length : Int) + 1, 0, lo, 0⟩]) := by
        unfold NOwn
        rw [List.length_append, List.flatMap_append]
        exact hown3
      have hnx3 := ownNext_app hn3
      have hka3 := (unhide HKA).next hg3 hnx3
      have hkb3 := (unhide HKB).next hg3 hnx3
      have hz3 : base ≤ w3.heap.size := Nat.le_trans hz1 hb3.size
      have hbw := unhide HBW
      have G3 := grown_next (only_of_below hbw _) (OwnNext.refl _ _) hg3
      have N3 := (OwnNext.refl w _).trans hbw.size hnx3
      have HC1 := hide (unhide HI1 w3 v3 c1 A1 hka3 ho3 hz3)
      have HG3 := hide G3
      have HN3 := hide N3
      have HKB3 := hide hkb3
      clear hown3 hb3 hg3 hn3 ho3 hnx3 hka3 hkb3 hbw G3 N3 HI1 HKA HKB HBW hown1 hz1
      refine (unhide HC1).mono ?_
      rintro e w4 ⟨v4, rfl, ho4, hg4, hn4⟩
      rw [List.append_assoc, List.singleton_append] at ho4
      obtain ⟨A4, c4, rfl, _, _⟩ := ho4.slice
      rw [hN4] at ho4 hn4 ⊢
      obtain ⟨g4, rfl, hg4b, hg4s, e3, f3⟩ := ho4.at_ hN4 (k := xs.length) (x := ⟨f, C, (xs.length : Int) + 1, 0, lo, 0⟩) (by simp) 3 (by omega)
      have e3' : w4.cell? ⟨g4, xs.length * 6 + 3, none⟩ = some (.int .i64 0) := e3
      have hST := NOwn.stored (n := M) (y := ⟨f, C, (xs.length : Int) + 1, M, lo, 0⟩) ho4 hN4 3 (.int .i64 (M : Int)) (by omega) rfl
      have hG5 : w4.grownBy (w4.setCell ⟨g4, xs.length * 6 + 3, none⟩ (.int .i64 (M : Int))) (Value.slice (some ⟨g4, 0, none⟩) M c4).ownBlock := only_setCell (World.grownBy.refl _ _) (.inl rfl) _
      have hkb5 := ((unhide HKB3).next hg4 hn4).next hG5 (OwnNext.refl _ _)
      have G4 := grown_next (unhide HG3) (unhide HN3) hg4
      have N4 := (unhide HN3).trans (unhide HG3).size hn4
      have G5 := grown_next G4 N4 hG5
      have HC2 := hide (unhide HI2 _ _ c2 A2 hkb5 hST (by have h1 := hG5.size; have h2 := hg4.size; omega))
      have HG5 := hide G5
      have HN4 := hide N4
      have hMx : xs.length < M := by have := unhide HM; omega
      clear hST hG5 hkb5 G4 N4 G5 HC1 HI2 HG3 HN3 HKB3 hg4 hn4 ho4 e3 hN4 hN3
      go_wp2_with fail
      refine (unhide HC2).mono ?_
      rintro e w6 ⟨v6, rfl, ho6, hg6, hn6⟩
      go_wp2_with fail
      go_ret
      refine ⟨v6, rfl, ?_, grown_next (unhide HG5) (unhide HN4) hg6, (unhide HN4).trans (unhide HG5).size hn6⟩
      rw [unhide HKL]
      have h2 : ((xs.length + 1 : Nat) : Int) = (xs.length : Int) + 1 := by omega
      rw [h2]
      simpa using ho6

/-- what comes of grow.Fit -/
theorem fitE_0 {ss : List Sm} {fe depth least : Int} (h : fitE ss fe depth least = 0) : sampE ss fe = 0 ∧ 0 ≤ depth ∧ depth ≤ 5 ∧ 1 ≤ least ∧ least ≤ 60 := by
  unfold fitE at h
  by_cases h0 : sampE ss fe = 0
  · rw [if_pos h0] at h
    by_cases h1 : depth < 0 ∨ 5 < depth ∨ least < 1 ∨ 60 < least
    · rw [if_pos h1] at h; cases h
    · exact ⟨h0, by omega, by omega, by omega, by omega⟩
  · rw [if_neg h0] at h; exact absurd h h0

set_option maxRecDepth 100000 in
set_option maxHeartbeats 4000000 in
theorem fit_grow (A : Option Addr) (m c : Nat) (fe depth least : Int) (ss : List Sm) (w : World) (h : MReads w w.heap.size A m ss) (hm : m ≤ maxLen) :
    Calls Try.prog 6 #[.slice A m c, .int .i64 fe, .int .i64 depth, .int .i64 least] w (NodesPost (fitT ss fe depth least) (fitE ss fe depth least) w) := by
  have HCk := hide (gCheck_any A m c fe ss w h hm)
  unfold MCheckPost at HCk
  by_cases h0 : fitE ss fe depth least = 0
  · obtain ⟨a1, a2, a3, a4, a5⟩ := fitE_0 h0
    obtain ⟨n, hn, hs⟩ := samp_right a1
    obtain ⟨d, hd⟩ : ∃ d : Nat, depth = d := ⟨depth.toNat, by omega⟩
    obtain ⟨ls, hls⟩ : ∃ l : Nat, least = l := ⟨least.toNat, by omega⟩
    have HT : Hid (fitT ss fe depth least = layK 0 (growK n ls d ss)) := hide (by unfold fitT; rw [if_pos h0, hn, hd, hls]; rfl)
    have hsz := growK_size n ls d ss
    have hpow : 2 ^ (d + 1) ≤ 2 ^ 6 := Nat.pow_le_pow_right (by omega) (by omega)
    have HG := hide (fun (W : World) (hB : Below w.heap.size w W) => grow_any n ls (by omega) (by omega) d d rfl (by omega) ss A m c [] (.slice none 0 0) W.heap.size W hs (fun w' hg => (h.below ((hB.trans ((only_of_below_none hg).mono hB.size)))).more (Nat.le_trans hB.size hg.size)) (NOwn.nil_ _ _) (Nat.le_refl _) (by simp; omega))
    rw [a1, errV_0 rfl] at HCk
    unfold NodesPost
    rw [h0, errV_0 rfl]
    rw [hn] at HCk
    subst hn hls hd
    have d1 : decide ((d : Int) < 0) = false := decide_eq_false (by omega)
    have d2 : decide (5 < (d : Int)) = false := decide_eq_false (by omega)
    have d2' : decide (5 < d) = false := decide_eq_false (by omega)
    have d3 : (decide (1 ≤ (ls : Int)) && decide ((ls : Int) ≤ 60)) = true := by simp; omega
    obtain ⟨k0, hk0⟩ : ∃ k0, k0 = (((sampC ss n).1 : Nat) : Int) := ⟨_, rfl⟩
    rw [← hk0] at HCk
    clear h0 a1 hs hk0 hsz hpow
    go_enter Try.func6, Try.ntmps6
    go_wp2_with fail
    refine (unhide HCk).mono ?_
    rintro e w1 ⟨rfl, hb1⟩
    clear HCk
    go_wp2_with fail
    refine (least_any ls w1).mono ?_
    rintro e w2 ⟨rfl, rfl⟩
    rw [d3]
    clear d3
    go_wp2_with fail
    refine (unhide HG w1 hb1).mono ?_
    rintro e w3 ⟨v3, rfl, ho3, hg3, hn3⟩
    go_wp2_with fail
    go_ret2
    refine ⟨v3, rfl, ?_, hb1.trans ((only_of_below_none hg3).mono hb1.size)⟩
    rw [unhide HT]
    exact NOwn.low ho3 hb1.size
  · have HT : Hid (fitT ss fe depth least = []) := hide (by unfold fitT; rw [if_neg h0])
    by_cases a1 : sampE ss fe = 0
    case neg =>
      have HE : Hid (fitE ss fe depth least = sampE ss fe) := hide (by unfold fitE; rw [if_neg a1])
      have hv := errV_1 a1
      have HV := hide hv
      obtain ⟨k0, hk0⟩ : ∃ k0, k0 = (((sampC ss fe).1 : Nat) : Int) := ⟨_, rfl⟩
      rw [← hk0] at HCk
      clear h0 a1 hk0
      go_enter Try.func6, Try.ntmps6
      go_wp2_with fail
      refine (unhide HCk).mono ?_
      rintro e w1 ⟨rfl, hb1⟩
      rw [hv]
      clear HCk hv
      go_wp2_with fail
      go_ret2
      exact ⟨_, by rw [unhide HE, unhide HV]; rfl, by rw [unhide HT]; exact NOwn.nil_ _ _, hb1⟩
    have HE : Hid (fitE ss fe depth least = 1) := hide (by
      unfold fitE at h0 ⊢
      rw [if_pos a1] at h0 ⊢
      split
      · rfl
      · rename_i h; exact absurd (by rw [if_neg h]) h0)
    have hbad : depth < 0 ∨ 5 < depth ∨ least < 1 ∨ 60 < least := by
      unfold fitE at h0
      rw [if_pos a1] at h0
      exact Decidable.byContradiction fun h => h0 (by rw [if_neg h])
    rw [a1, errV_0 rfl] at HCk
    obtain ⟨k0, hk0⟩ : ∃ k0, k0 = (((sampC ss fe).1 : Nat) : Int) := ⟨_, rfl⟩
    rw [← hk0] at HCk
    clear h0 a1 hk0
    by_cases b1 : depth < 0
    · have d1 : decide (depth < 0) = true := decide_eq_true b1
      clear hbad
      go_enter Try.func6, Try.ntmps6
      go_wp2_with fail
      refine (unhide HCk).mono ?_
      rintro e w1 ⟨rfl, hb1⟩
      clear HCk
      go_wp2_with fail
      go_ret2
      exact ⟨_, by rw [unhide HE]; rfl, by rw [unhide HT]; exact NOwn.nil_ _ _, hb1⟩
    have d1 : decide (depth < 0) = false := decide_eq_false b1
    by_cases b2 : 5 < depth
    · have d2 : decide (5 < depth) = true := decide_eq_true b2
      clear hbad
      go_enter Try.func6, Try.ntmps6
      go_wp2_with fail
      refine (unhide HCk).mono ?_
      rintro e w1 ⟨rfl, hb1⟩
      clear HCk
      go_wp2_with fail
      go_ret2
      exact ⟨_, by rw [unhide HE]; rfl, by rw [unhide HT]; exact NOwn.nil_ _ _, hb1⟩
    have d2 : decide (5 < depth) = false := decide_eq_false b2
    have d3 : (decide (1 ≤ least) && decide (least ≤ 60)) = false := by simp; omega
    clear hbad
    go_enter Try.func6, Try.ntmps6
    go_wp2_with fail
    refine (unhide HCk).mono ?_
    rintro e w1 ⟨rfl, hb1⟩
    clear HCk
    go_wp2_with fail
    refine (least_any least w1).mono ?_
    rintro e w2 ⟨rfl, rfl⟩
    rw [d3]
    clear d3
    go_wp2_with fail
    go_ret2
    exact ⟨_, by rw [unhide HE]; rfl, by rw [unhide HT]; exact NOwn.nil_ _ _, hb1⟩
end Go.Proofs.Ytdpijhnbhopnbaa
