/- orchsame.Call, Calls of calls that are the same. Conditions: both read as data. -/
import Derived.Test.YtijgiieoinmjhaaDoorRLog4
import Derived.Test.YtijgiieoinmjhaaDoorChunkBackQ
import Derived.Laws.BytesArg
import Derived.Laws.BytesString
import Derived.Deep.DeepCutAuto
import Derived.Deep.CutRange
namespace Go.Proofs.YtijgiieoinmjhaaDoor
set_option linter.unusedVariables false
set_option linter.unusedSimpArgs false
open Go.RowKit Go.Maps

/-- a row of calls, where it lies as data -/
def CsOk (w : World) (B : Nat) (A : Option Addr) (n : Nat) (rs : List Cv) : Prop := Reads w B 7 A n (rs.flatMap Cv.cells) ∧ ∀ r ∈ rs, CvOk w B r
theorem CsOk.below {w w' : World} {B n : Nat} {A : Option Addr} {rs : List Cv} (h : CsOk w B A n rs) (hb : Below B w w') : CsOk w' B A n rs := ⟨h.1.below hb, fun r hr => (h.2 r hr).below hb⟩
theorem CsOk.len {w : World} {B n : Nat} {A : Option Addr} {rs : List Cv} (h : CsOk w B A n rs) : rs.length = n := by
  have := h.1.1
  rw [cvs_len] at this
  omega
theorem CsOk.get {w : World} {B n : Nat} {A : Option Addr} {rs : List Cv} (h : CsOk w B A n rs) {k : Nat} (hk : k < n) : ∃ b o r, A = some ⟨b, o, none⟩ ∧ b < B ∧ rs[k]? = some r ∧ CvOk w B r ∧
    w.cell? ⟨b, o + k * 7, none⟩ = some (.int .i64 r.c.what) ∧ w.cell? ⟨b, o + k * 7 + 1, none⟩ = some (.int .i64 r.c.ses) ∧ w.cell? ⟨b, o + k * 7 + 2, none⟩ = some (.int .i64 r.c.seq) ∧ w.cell? ⟨b, o + k * 7 + 3, none⟩ = some (.string r.c.name) ∧
    w.cell? ⟨b, o + k * 7 + 4, none⟩ = some (.int .i64 r.c.num) ∧ w.cell? ⟨b, o + k * 7 + 5, none⟩ = some (.int .i64 r.c.share) ∧ w.cell? ⟨b, o + k * 7 + 6, none⟩ = some (.slice r.A r.n r.cap) := by
  obtain ⟨b, o, e, hb, hc⟩ := h.1.spot (by omega) (by omega)
  have hl := h.len
  have hr : rs[k]? = some rs[k] := List.getElem?_eq_getElem (by omega)
  have key : ∀ j u, j < 7 → (Cv.cells rs[k])[j]? = some u → w.cell? ⟨b, o + k * 7 + j, none⟩ = some u := by
    intro j u hj hu
    have h2 := flatMap_at Cv.cells 7 (fun _ => rfl) rs k j _ hr hj
    rw [hu] at h2
    have := hc _ _ h2
    rw [Nat.add_assoc]
    exact this
  exact ⟨b, o, rs[k], e, hb, hr, h.2 _ (List.getElem_mem _), key 0 _ (by omega) rfl, key 1 _ (by omega) rfl, key 2 _ (by omega) rfl, key 3 _ (by omega) rfl, key 4 _ (by omega) rfl, key 5 _ (by omega) rfl, key 6 _ (by omega) rfl⟩

set_option maxRecDepth 100000 in
set_option maxHeartbeats 4000000 in
theorem sameCall_any (r s : Cv) (w : World) (hr : CvOk w w.heap.size r) (hs : CvOk w w.heap.size s) (e : s.c = r.c) :
    Calls Tryd.prog 54 #[r.val, s.val] w fun e w' => e = .returned (.bool true) ∧ Below w.heap.size w w' := by
  obtain ⟨c, A, n, ca⟩ := r
  obtain ⟨c', A', n', ca'⟩ := s
  dsimp only at e
  subst e
  have hr1 := hr.reads
  have hs1 := hs.reads
  dsimp only at hr1 hs1
  simp only [Cv.val]
  obtain ⟨W, hW, b1, b2, hWs, hb0⟩ : ∃ W, W = (w.alloc (.cells #[.int .i64 c'.what, .int .i64 c'.ses, .int .i64 c'.seq, .string c'.name, .int .i64 c'.num, .int .i64 c'.share, .slice A n ca] 53)).alloc (.cells #[.int .i64 c'.what, .int .i64 c'.ses, .int .i64 c'.seq, .string c'.name, .int .i64 c'.num, .int .i64 c'.share, .slice A' n' ca'] 53) ∧
      Blk W w.heap.size 53 #[.int .i64 c'.what, .int .i64 c'.ses, .int .i64 c'.seq, .string c'.name, .int .i64 c'.num, .int .i64 c'.share, .slice A n ca] ∧ Blk W (w.heap.size + 1) 53 #[.int .i64 c'.what, .int .i64 c'.ses, .int .i64 c'.seq, .string c'.name, .int .i64 c'.num, .int .i64 c'.share, .slice A' n' ca'] ∧ W.heap.size = w.heap.size + 1 + 1 ∧ Below w.heap.size w W := by
    refine ⟨_, rfl, (Blk.new _ _ _).alloc _, ?_, by simp, ((Below.refl _ _).alloc (Nat.le_refl _) _).alloc (by simp) _⟩
    have := Blk.new (w.alloc (.cells #[.int .i64 c'.what, .int .i64 c'.ses, .int .i64 c'.seq, .string c'.name, .int .i64 c'.num, .int .i64 c'.share, .slice A n ca] 53)) 53 #[.int .i64 c'.what, .int .i64 c'.ses, .int .i64 c'.seq, .string c'.name, .int .i64 c'.num, .int .i64 c'.share, .slice A' n' ca']
    rwa [World.size_alloc] at this
  obtain ⟨c0, c1, c2, c3, c4, c5, c6⟩ := b1.cells7
  obtain ⟨d0, d1, d2, d3, d4, d5, d6⟩ := b2.cells7
  have q1 := conv_bytes (c := ca) (Reads.below hr1 hb0)
  have q2 := conv_bytes (c := ca') (Reads.below hs1 hb0)
  clear hr hs hr1 hs1 b1 b2
  go_enter Tryd.func54, Tryd.ntmps54
  go_wp2_with fail
  rw [← hW]
  clear hW
  go_wp2_with fail
  rw [q1]
  go_wp2_with fail
  go_ret
  exact ⟨by simp, hb0⟩

set_option maxRecDepth 100000 in
set_option maxHeartbeats 4000000 in
theorem sameCalls_any (A C : Option Addr) (n ca cc : Nat) (rs ss : List Cv) (w : World) (ha : CsOk w w.heap.size A n rs) (hc : CsOk w w.heap.size C n ss) (he : rs.map Cv.c = ss.map Cv.c) (hn : n ≤ maxLen) :
    Calls Tryd.prog 33 #[.slice A n ca, .slice C n cc] w fun e w' => e = .returned (.bool true) ∧ Below w.heap.size w w' := by
  unfold maxLen at hn
  have e0 : ((n : Int) != (n : Int)) = false := by simp
  have HE := hide he
  clear he
  go_enter Tryd.func33, Tryd.ntmps33
  go_wp2
  go_loopw [5] (fun i wr => ∃ k : Nat, k ≤ n ∧ i = .int .i64 k ∧ Below w.heap.size w wr) (fun i _ => n - (intOf i).toNat)
  case atStart => exact ⟨0, Nat.zero_le _, rfl, Below.refl _ _⟩
  case round =>
    obtain ⟨k, hk, rfl, hbel⟩ := hrel
    by_cases hlt : k < n
    · have hsz := hbel.size
      obtain ⟨b, o, x, hA, hb, hx, cx, c0, c1, c2, c3, c4, c5, c6⟩ := (ha.below hbel).get hlt
      obtain ⟨b2, o2, y, hC, hb2, hy, cy, d0, d1, d2, d3, d4, d5, d6⟩ := (hc.below hbel).get hlt
      have hxy : y.c = x.c := by
        have h3 := congrArg (fun l => l[k]?) (unhide HE)
        have h4 : (rs.map Cv.c)[k]? = (ss.map Cv.c)[k]? := h3
        rw [List.getElem?_map, List.getElem?_map, hx, hy] at h4
        simpa using h4.symm
      have hbd : Below wr.heap.size wr wr.drew := (Below.refl _ _).drew
      have HC := hide (sameCall_any x y wr.drew ((cx.below (hbd.mono hsz)).more hsz) ((cy.below (hbd.mono hsz)).more hsz) hxy)
      rw [hA, hC]
      clear hx hy cx cy hxy hbd
      go_wp2_with fail
      go_still_tail 8, (by kernel_rfl)
      go_wp2_with fail
      refine (unhide HC).mono ?_
      rintro e w3 ⟨rfl, hb3⟩
      have hbel3 := hbel.trans ((((Below.refl wr.heap.size wr).drew).trans hb3).mono hsz)
      clear HC c0 c1 c2 c3 c4 c5 c6 d0 d1 d2 d3 d4 d5 d6
      go_wp2_with fail
      go_roundw
      case rel => exact ⟨k + 1, by omega, by go_num, hbel3⟩
      case measure => simp [intOf]; omega
    · go_wp2_with fail
      go_ret
      exact ⟨rfl, hbel⟩
end Go.Proofs.YtijgiieoinmjhaaDoor
