/- Package weigh: the list of a table. Conditions: as each lemma names. -/
import Derived.Test.YtefkjpcgcgofgaaWTable
namespace Go.Proofs.Ytefkjpcgcgofgaa
set_option linter.unusedVariables false
set_option linter.unusedSimpArgs false
open Go.RowKit

def usedT (T : List Us) : List Us := T.filter fun u => decide (0 < u.n)
def listT (T : List Us) : List Us := sortU (usedT T)
theorem usedT_next {T : List Us} {k : Nat} {u : Us} (h : T[k]? = some u) : usedT (T.take (k + 1)) = usedT (T.take k) ++ if 0 < u.n then [u] else [] := by
  unfold usedT
  rw [take_next h, List.filter_append]
  congr 1
  by_cases hu : 0 < u.n <;> simp [hu]
theorem usedT_len (T : List Us) : (usedT T).length ≤ T.length := List.length_filter_le _ _
theorem elem_use : Elem Try.prog 48 52 (.agg #[.int .i64 0, .int .i64 0, .int .i64 0]) 3 24 := ⟨Try.underlying48, by kernel_rfl, rfl, by omega, by omega⟩
theorem use_one (u : Us) : ∀ v ∈ u.cells, v.oneCell' = true := by
  intro v hv
  unfold Us.cells at hv
  simp at hv
  rcases hv with rfl | rfl | rfl <;> rfl
theorem UOwn.nil_ (w : World) (base : Nat) : UOwn w base (.slice none 0 0) [] := World.ownsRow_nil _ _ _ _
def UListPost (L : List Us) (w : World) (e : Ending) (w' : World) : Prop := ∃ A c, e = .returned (.slice A L.length c) ∧ UReads w' w'.heap.size A L.length L ∧ Below w.heap.size w w'

set_option maxRecDepth 100000 in
set_option maxHeartbeats 4000000 in
theorem wlist_any (g : Nat) (T : List Us) (w : World) (hT : T.length = 8) (hb : Blk w g 82 (tabC T)) :
    Calls Try.prog 41 #[.pointer (some ⟨g, 0, none⟩), .func (.func 42) #[] #[]] w (UListPost (listT T) w) := by
  have hgl := hb.lt
  go_enter Try.func41, Try.ntmps41
  go_wp2_with fail
  go_loopw [5, 10] (fun v i wr => ∃ k : Nat, k ≤ 8 ∧ i = .int .i64 k ∧ Hid (UOwn wr w.heap.size v (usedT (T.take k))) ∧ Below w.heap.size w wr) (fun _ i _ => 8 - (intOf i).toNat)
  case atStart => exact ⟨0, Nat.zero_le _, rfl, hide (by simpa [usedT] using UOwn.nil_ _ _), Below.refl _ _⟩
  case round =>
    obtain ⟨k, hk, rfl, HO, hbel⟩ := hrel
    have hsz := hbel.size
    by_cases hlt : k < 8
    · obtain ⟨u, hu⟩ : ∃ u, T[k]? = some u := ⟨_, List.getElem?_eq_getElem (by omega)⟩
      have bT := hb.below hbel hgl
      have HN := hide (usedT_next hu)
      have hul := usedT_len (T.take k)
      have hkl : (T.take k).length ≤ k := List.length_take_le _ _
      have c0 : wr.cell? ⟨g, k * 3, none⟩ = some (.int .i64 u.f) := by rw [bT.cell, show k * 3 = k * 3 + 0 by omega, tab_at hu (by omega)]; rfl
      have c1 : wr.cell? ⟨g, k * 3 + 1, none⟩ = some (.int .i64 u.n) := by rw [bT.cell, tab_at hu (by omega)]; rfl
      have c2 : wr.cell? ⟨g, k * 3 + 2, none⟩ = some (.int .i64 u.g) := by rw [bT.cell, tab_at hu (by omega)]; rfl
      obtain ⟨L, hL⟩ : ∃ L, L = usedT (T.take k) := ⟨_, rfl⟩
      rw [← hL] at HN hul HO
      have hown : wr.ownsRow w.heap.size 52 3 _ L.length (L.flatMap Us.cells) := unhide HO
      obtain ⟨u0, u1, u2⟩ := u
      dsimp only at c0 c1 c2 HN
      have hownA := hown.alloc (.cells #[.int .i64 u0, .int .i64 u1, .int .i64 u2] 52)
      have hbA := hbel.alloc hsz (.cells #[.int .i64 u0, .int .i64 u1, .int .i64 u2] 52)
      have hzA : w.heap.size ≤ (wr.alloc (.cells #[.int .i64 u0, .int .i64 u1, .int .i64 u2] 52)).heap.size := by rw [World.size_alloc]; omega
      have hL9 : L.length < 1000000000 := by omega
      clear hu hL hown HO bT hbel
      by_cases hp : 0 < u1
      · have HN2 : Hid (usedT (T.take (k + 1)) = L ++ [⟨u0, u1, u2⟩]) := hide (by rw [unhide HN, if_pos hp])
        have d1 : decide (0 < u1) = true := decide_eq_true hp
        clear HN hp
        go_wp2_with (at_builtin; refine app_one elem_use (.tmp 18) (.tmp 20) [.int .i64 u0, .int .i64 u1, .int .i64 u2] rfl rfl rfl hownA rfl (World.size_alloc _ _) rfl (use_one ⟨u0, u1, u2⟩) hL9 hzA ?_; intro v2 w2 hown2 hb2 _ _)
        have hown3 : UOwn w2 w.heap.size v2 (usedT (T.take (k + 1))) := by
          rw [unhide HN2]
          unfold UOwn
          rw [List.length_append, List.flatMap_append]
          exact hown2
        clear hown2 hownA
        go_wp2_with fail
        go_roundw
        case rel => exact ⟨k + 1, by omega, by go_num, hide hown3, hbA.trans hb2⟩
        case measure => simp [intOf] <;> omega
      · have HN2 : Hid (usedT (T.take (k + 1)) = L) := hide (by rw [unhide HN, if_neg hp, List.append_nil])
        have d1 : decide (0 < u1) = false := decide_eq_false hp
        clear HN hp
        go_wp2_with fail
        go_roundw
        case rel => exact ⟨k + 1, by omega, by go_num, hide (by rw [unhide HN2]; exact hownA), hbA⟩
        case measure => simp [intOf] <;> omega
    · obtain rfl : k = 8 := by omega
      have e8 : T.take 8 = T := List.take_of_length_le (by omega)
      rw [e8] at HO
      have hul := usedT_len T
      have hsl := sortU_len (usedT T)
      rcases (unhide HO).2 with ⟨rfl, h0⟩ | ⟨q, cap, cur, rfl, hq, hblk, hcap, _⟩
      · have hnil : usedT T = [] := List.length_eq_zero_iff.1 h0
        have hL : Hid (listT T = []) := hide (by unfold listT; rw [hnil]; rw [hnil] at hsl; exact List.length_eq_zero_iff.1 hsl)
        clear HO hul hsl h0 hnil
        go_wp2_with fail
        refine (stableU_nil wr).mono ?_
        rintro e w2 ⟨rfl, rfl⟩
        go_wp2_with fail
        go_ret
        unfold UListPost
        rw [unhide hL]
        exact ⟨none, 0, rfl, ⟨rfl, fun h => absurd h (by simp)⟩, hbel⟩
      · have hql : q < wr.heap.size := (Array.getElem?_eq_some_iff.1 hblk).1
        have hc := hide (stableU_any (usedT T) w.heap.size q cap wr (unhide HO) hql (by omega))
        unfold SortedPost at hc
        obtain ⟨n, hn⟩ : ∃ n, n = (usedT T).length := ⟨_, rfl⟩
        have HLl : Hid ((listT T).length = n) := hide (by unfold listT; rw [hsl, hn])
        rw [← hn] at hc ⊢
        clear HO hul hsl hblk hcap hn
        go_wp2_with fail
        refine (unhide hc).mono ?_
        rintro e w2 ⟨rfl, hr, hg2⟩
        go_wp2_with fail
        go_ret
        exact ⟨some ⟨q, 0, none⟩, cap, by rw [unhide HLl]; rfl, by rw [unhide HLl]; exact hr, hbel.grown hg2 hsz (fun z hz => by injection hz with hz; omega)⟩
end Go.Proofs.Ytefkjpcgcgofgaa
