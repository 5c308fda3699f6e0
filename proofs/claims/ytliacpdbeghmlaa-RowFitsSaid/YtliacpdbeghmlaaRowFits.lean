/- RowFits: the walk of the law's function. Conditions: the arguments are slices of ints that read as lists. -/
import Derived.Test.YtliacpdbeghmlaaBins
import Derived.Deep.DeepMust
namespace Go.Proofs.Ytliacpdbeghmlaa
open Go.RowKit

theorem elem_span : Elem Try.prog 46 45 (.agg #[.int .i64 0, .int .i64 0, .bool false]) 3 24 := ⟨Try.underlying46, by kernel_rfl, rfl, by omega, by omega⟩
theorem elem_rows : Elem Try.prog 48 26 (.slice none 0 0) 1 24 := ⟨Try.underlying48, by kernel_rfl, rfl, by omega, by omega⟩

def spanOf (x : Int) : Sp := if x = -1125899906842624 then ⟨1, 0, true⟩ else ⟨x, x, false⟩
theorem in_span (c x : Int) : inB c (spanOf x) = (c == x) := by
  unfold inB spanOf
  by_cases h1 : x = -1125899906842624
  · subst h1
    rw [if_pos rfl]
    by_cases h2 : c = -1125899906842624
    · subst h2; simp
    · simp only [h2, if_false]
      have : (c == -1125899906842624) = false := by simpa using h2
      rw [this]
      by_cases h3 : 1 ≤ c
      · have : ¬ c ≤ 0 := by omega
        simp [this]
      · simp [h3]
  · rw [if_neg h1]
    by_cases h2 : c = -1125899906842624
    · subst h2
      have : (-1125899906842624 == x) = false := by simpa using (fun e => h1 e.symm)
      simp [this]
    · simp only [h2, if_false]
      by_cases h3 : c = x
      · subst h3; simp
      · have : (c == x) = false := by simpa using h3
        rw [this]
        by_cases h4 : x ≤ c
        · have : ¬ c ≤ x := by omega
          simp [this]
        · simp [h4]
theorem all_in : ∀ (s r : List Int), s.length = r.length → ((s.zip (r.map spanOf)).all fun p => inB p.1 p.2) = (s == r) := by
  intro s
  induction s with
  | nil => intro r h; cases r with
    | nil => rfl
    | cons a b => simp at h
  | cons a b ih =>
    intro r h
    cases r with
    | nil => simp at h
    | cons c d =>
      have := ih d (by simpa using h)
      simp only [List.map_cons, List.zip_cons_cons, List.all_cons, this, in_span]
      rfl
theorem fits_self {r : List Int} (h : rowE r = 0) : fitsE r (r.map spanOf) = 0 ∧ fitsB r (r.map spanOf) = true := by
  have h1 : fitsE r (r.map spanOf) = 0 := by unfold fitsE; rw [if_pos h, if_pos (by simp)]
  refine ⟨h1, ?_⟩
  unfold fitsB
  rw [h1, all_in r r rfl]
  simp
theorem fits_other {s r : List Int} (h : rowE s = 0) (hl : s.length = r.length) : fitsE s (r.map spanOf) = 0 ∧ fitsB s (r.map spanOf) = (s == r) := by
  have h1 : fitsE s (r.map spanOf) = 0 := by unfold fitsE; rw [if_pos h, if_pos (by simpa using hl)]
  refine ⟨h1, ?_⟩
  unfold fitsB
  rw [h1, all_in s r hl]
  simp

theorem fact_calls (w : World) : Calls Try.prog 19 #[.slice (some ⟨w.heap.size, 0, none⟩) 1 1, .slice (some ⟨w.heap.size + 1, 0, none⟩) 1 1]
    ((w.alloc (.cells #[.int .i64 3] 3)).alloc (.cells #[.int .i64 3, .int .i64 3, .bool false] 45)) fun e w' => e = .returned (.tuple #[.bool true, .nilIface]) ∧ Below w.heap.size w w' := by
  have h1 : IReads ((w.alloc (.cells #[.int .i64 3] 3)).alloc (.cells #[.int .i64 3, .int .i64 3, .bool false] 45)) (w.heap.size + 1 + 1) (some ⟨w.heap.size, 0, none⟩) 1 [3] :=
    ((Reads.new_ w 1 1 [.int .i64 3] 3 rfl).alloc (by simp) _).more (by omega)
  have h2 : SReads ((w.alloc (.cells #[.int .i64 3] 3)).alloc (.cells #[.int .i64 3, .int .i64 3, .bool false] 45)) (w.heap.size + 1 + 1) (some ⟨w.heap.size + 1, 0, none⟩) 1 [⟨3, 3, false⟩] := by
    have := Reads.new_ (w.alloc (.cells #[.int .i64 3] 3)) 3 1 [.int .i64 3, .int .i64 3, .bool false] 45 rfl
    have h3 : ((w.alloc (.cells #[.int .i64 3] 3)).heap.size) = w.heap.size + 1 := by simp
    rw [h3] at this
    exact this
  have hs : ((w.alloc (.cells #[.int .i64 3] 3)).alloc (.cells #[.int .i64 3, .int .i64 3, .bool false] 45)).heap.size = w.heap.size + 1 + 1 := by simp
  have := fits_any (some ⟨w.heap.size, 0, none⟩) (some ⟨w.heap.size + 1, 0, none⟩) 1 1 1 1 [3] [⟨3, 3, false⟩] _ (by rw [hs]; exact h1) (by rw [hs]; exact h2) (by decide) (by decide)
  refine this.mono fun e w' ⟨he, hb⟩ => ⟨he, ?_⟩
  rw [hs] at hb
  exact (((Below.refl w.heap.size w).alloc (Nat.le_refl _) _).alloc (by simp) _).trans (hb.mono (by omega))

theorem span_next {w : World} {base : Nat} {v : Value} {r : List Int} {k : Nat} {x : Int} {cs : List Value} (hx : r[k]? = some x) (hc : (spanOf x).cells = cs)
    (h : w.ownsRow base 45 3 v (k + 1) (((r.take k).map spanOf).flatMap Sp.cells ++ cs)) : w.ownsRow base 45 3 v (k + 1) (((r.take (k + 1)).map spanOf).flatMap Sp.cells) := by
  rw [take_next hx]
  simpa [hc] using h
theorem rr_repl {w : World} {B k p q : Nat} {A D : Option Addr} {t : List Int} (h : Reads w B 1 A k (List.replicate k (.slice D p q))) (ht : IReads w B D p t) (hp : p ≤ maxLen) : RReads w B A k (List.replicate k ⟨D, p, q, t⟩) := by
  refine ⟨by simpa [Rw.val] using h, fun r hr => ?_⟩
  obtain ⟨_, rfl⟩ := List.mem_replicate.1 hr
  exact ⟨ht, hp⟩
theorem binN_le (l : List Int) (x : Int) : binN l x ≤ l.length := List.length_filter_le _ _
theorem first_repl (R : Rw) (k : Nat) : firstE (List.replicate k R) = if k = 0 then 0 else cutE R.l := by
  induction k with
  | zero => rfl
  | succ k ih =>
    rw [List.replicate_succ, firstE, ih]
    by_cases h : cutE R.l = 0
    · rw [if_pos h, h]; simp
    · rw [if_neg h]; simp
theorem bins_bad {r : List Int} {k : Nat} {R : Rw} (he : rowE r = 0) (hl : r.length = k) (h : binsE r (List.replicate k R) ≠ 0) : 0 < k ∧ cutE R.l ≠ 0 := by
  unfold binsE at h
  rw [if_pos he, if_pos (by rw [List.length_replicate, hl]), first_repl] at h
  by_cases h0 : k = 0
  · rw [if_pos h0] at h; exact absurd rfl h
  · rw [if_neg h0] at h; exact ⟨by omega, h⟩
theorem zip_repl (R : Rw) : ∀ (r : List Int) (k : Nat), r.length = k → List.zipWith binOf r (List.replicate k R) = r.map (fun c => binOf c R) := by
  intro r
  induction r with
  | nil => intro k h; simp at h; subst h; rfl
  | cons a b ih => intro k h; cases k with
    | zero => simp at h
    | succ k => rw [List.replicate_succ, List.zipWith_cons_cons, ih k (by simpa using h)]; rfl
theorem bins_repl {r : List Int} {k : Nat} {R : Rw} (_he : rowE r = 0) (hl : r.length = k) (h : binsE r (List.replicate k R) = 0) : binsL r (List.replicate k R) = r.map (fun c => binOf c R) := by
  unfold binsL
  rw [if_pos h, zip_repl R r k hl]
theorem bins_len {r : List Int} {k : Nat} {R : Rw} (hl : r.length = k) : (r.map (fun c => binOf c R)).length = k := by simpa using hl
theorem bin_at {r : List Int} {R : Rw} {j : Nat} {x y : Int} (hx : r[j]? = some x) (hy : (r.map (fun c => binOf c R))[j]? = some y) : y = binOf x R := by
  rw [List.getElem?_map, hx] at hy; simp at hy; exact hy.symm
theorem repl_next {w : World} {base : Nat} {e : TypeId} {v u : Value} {k : Nat} (h : w.ownsRow base e 1 v (k + 1) (List.replicate k u ++ [u])) : w.ownsRow base e 1 v (k + 1) (List.replicate (k + 1) u) := by
  rw [List.replicate_succ']
  exact h

set_option maxRecDepth 100000 in
set_option maxHeartbeats 4000000 in
theorem rowFits_walk (A : Option Addr) (n c : Nat) (r : List Int) (C : Option Addr) (m d : Nat) (s : List Int) (D : Option Addr) (p q : Nat) (t : List Int) (w : World)
    (ha : IReads w w.heap.size A n r) (hc : IReads w w.heap.size C m s) (hd : IReads w w.heap.size D p t) (hn : n ≤ maxLen) (hm : m ≤ maxLen) (hp : p ≤ maxLen) :
    Calls Try.prog 6 #[.slice A n c, .slice C m d, .slice D p q] w fun e w' => e = .returned (.bool true) ∧ Below w.heap.size w w' := by
  have hl := ha.len
  have hl2 := hc.len
  by_cases he : rowE r = 0
  · have hv := errV_0 he
    have HE := hide he
    have HL := hide hl
    have HL2 := hide hl2
    clear hl hl2 he
    go_enter Try.func6, Try.ntmps6
    go_wp2_with fail
    refine (fact_calls w).mono ?_
    rintro e w1 ⟨rfl, hb1⟩
    go_wp2_with fail
    refine (rowCheck_any A n c r _ _ (ha.below hb1) hn).mono ?_
    rintro e w' ⟨rfl, rfl⟩
    rw [hv]
    clear hv
    go_wp2_with fail
    go_loopw [9, 10, 11] (fun v u i wr => ∃ k : Nat, k ≤ n ∧ i = .int .i64 k ∧ wr.ownsRow w.heap.size 45 3 v k (((r.take k).map spanOf).flatMap Sp.cells) ∧ wr.ownsRow w.heap.size 26 1 u k (List.replicate k (.slice D p q)) ∧ Below w.heap.size w wr) (fun _ _ i _ => n - (intOf i).toNat)
    case atStart => exact ⟨0, Nat.zero_le _, rfl, World.ownsRow_nil _ _ _ _, World.ownsRow_nil _ _ _ _, hb1⟩
    case round =>
      obtain ⟨k, hk, rfl, hown, hown2, hbel⟩ := hrel
      have hsz := hbel.size
      by_cases hlt : k < n
      · obtain ⟨b, o, x, rfl, hbb, hx, hcx⟩ := (ha.below hbel).get hlt
        have h8 : n ≤ 8 := by have := unhide HE; unfold rowE at this; split at this; cases this; have := unhide HL; omega
        have HX := hide hx
        clear hx
        have hk9 : k < 1000000000 := by omega
        have hb9 : ∀ o, w.heap.size ≤ (wr.alloc o).heap.size := fun o => by rw [World.size_alloc]; omega
        have hcx2 := cell_alloc hcx (by show b < _; omega)
        by_cases hnil : x = -1125899906842624
        · subst hnil
          go_wp2_with (first
            | (at_builtin; refine app_one elem_span (.tmp 62) (.tmp 64) [.int .i64 1, .int .i64 0, .bool true] rfl rfl rfl (hown.alloc _) rfl (World.size_alloc _ _) rfl (by intro u hu; simp at hu; rcases hu with rfl | rfl | rfl <;> rfl) hk9 (hb9 _) ?_; intro v1 w1 hown3 hb3 _ hg3; have hsz3 := hb3.size; simp at hsz3; have hown4 := own_kept (hown2.alloc _) (hown.alloc _) (by decide) hg3)
            | (at_builtin; refine app_one elem_rows (.tmp 66) (.tmp 68) [.slice D p q] rfl rfl rfl hown4 rfl rfl rfl (by intro u hu; simp at hu; subst hu; rfl) hk9 (by omega) ?_; intro v2 w2 hown5 hb5 _ hg5; have hown6 := own_kept hown3 hown4 (by decide) hg5))
          go_roundw
          case rel => exact ⟨k + 1, by omega, by go_num, span_next (unhide HX) (by simp [spanOf, Sp.cells]) hown6, repl_next hown5, ((hbel.alloc hsz _).trans hb3).trans hb5⟩
          case measure => simp [intOf]; omega
        · have hne : (x != -1125899906842624) = true := by simpa using hnil
          go_wp2_with fail
          go_region
          go_wp2_with (first
            | (at_builtin; refine app_one (wr := (wr.alloc (.cells #[.int .i64 x, .int .i64 x, .bool false] 45)).drew) elem_span (.tmp 62) (.tmp 64) [.int .i64 x, .int .i64 x, .bool false] rfl rfl rfl (hown.alloc _).drew rfl (World.size_alloc _ _) rfl (by intro u hu; simp at hu; rcases hu with rfl | rfl | rfl <;> rfl) hk9 (hb9 _) ?_; intro v1 w1 hown3 hb3 _ hg3; have hsz3 := hb3.size; simp at hsz3; have hown4 := own_kept (hown2.alloc _).drew (hown.alloc _).drew (by decide) hg3)
            | (at_builtin; refine app_one elem_rows (.tmp 66) (.tmp 68) [.slice D p q] rfl rfl rfl hown4 rfl rfl rfl (by intro u hu; simp at hu; subst hu; rfl) hk9 (by omega) ?_; intro v2 w2 hown5 hb5 _ hg5; have hown6 := own_kept hown3 hown4 (by decide) hg5))
          go_roundw
          case rel => exact ⟨k + 1, by omega, by go_num, span_next (unhide HX) (by simp [spanOf, Sp.cells, hnil]) hown6, repl_next hown5, ((hbel.alloc hsz _).drew.trans hb3).trans hb5⟩
          case measure => simp [intOf]; omega
      · obtain rfl : k = n := by omega
        rw [List.take_of_length_le (by have := unhide HL; omega)] at hown
        obtain ⟨vA, vc, rfl, hr1, hr2, _⟩ := own_slice hown
        obtain ⟨uA, uc, rfl, hr3, hr4, _⟩ := own_slice hown2
        clear hown hown2
        have h8 : k ≤ 8 := by have := unhide HE; unfold rowE at this; split at this; cases this; have := unhide HL; omega
        go_wp2_with fail
        refine (fits_any A vA k c k vc r (r.map spanOf) wr ((ha.below hbel).more hsz) hr1 hn hr2).mono ?_
        rintro e w2 ⟨rfl, hb2⟩
        rw [(fits_self (unhide HE)).1, (fits_self (unhide HE)).2, errV_0 rfl]
        have hbx : Below w.heap.size w w2 := hbel.trans (hb2.mono hsz)
        have hr3x : Reads w2 wr.heap.size 1 uA k (List.replicate k (.slice D p q)) := hr3.below hb2
        have hszx := hbx.size
        have hszz := hb2.size
        have hr1x : Reads w2 wr.heap.size 3 vA k ((r.map spanOf).flatMap Sp.cells) := hr1.below hb2
        clear hr3 hr1 hb2 hbel
        by_cases hmk : m = k
        · subst hmk
          by_cases hs0 : rowE s = 0
          · have hv := errV_0 hs0
            have HS := hide hs0
            clear hs0
            go_wp2_with fail
            refine (rowCheck_any C m d s _ _ (hc.below hbx) hm).mono ?_
            rintro e w' ⟨rfl, rfl⟩
            rw [hv]
            clear hv
            go_wp2_with fail
            refine (fits_any C vA m d m vc s (r.map spanOf) _ ((hc.below hbx).more hszx) (hr1x.more hszz) hm hr2).mono ?_
            rintro e w3 ⟨rfl, hb3⟩
            have hfo := fits_other (unhide HS) (by rw [unhide HL, unhide HL2])
            rw [hfo.1, hfo.2, errV_0 rfl]
            clear hfo
            obtain ⟨bb, hbb⟩ : ∃ bb, bb = (s == r) := ⟨_, rfl⟩
            rw [← hbb]
            have HB := hide hbb
            clear hbb
            have hbx3 := hbx.trans (hb3.mono hszx)
            go_wp2_with fail
            refine (ints_any C A m m d c s r _ _ _ (hc.below hbx3) (ha.below hbx3) hm hn).mono ?_
            rintro e w4 ⟨rfl, z, rfl⟩
            rw [← unhide HB]
            clear HB
            have hr3y : Reads (w3.drewN z) wr.heap.size 1 uA m (List.replicate m (.slice D p q)) := hr3x.below (below_drewN (hb3.mono hszz) z)
            have hszz3 := hb3.size
            have hbx4 := below_drewN hbx3 z
            have hszx4 := hbx4.size
            clear hr3x hbx hszx
            have hr3x := hr3y
            have hbx := hbx4
            have hszx := hszx4
            clear hr3y hbx4 hszx4
            have hszz := Nat.le_trans hszz hszz3
            cases bb
            · go_wp2_with fail
              refine (bins_any A uA m c m uc r (List.replicate m ⟨D, p, q, t⟩) _ ((ha.below hbx).more hszx) (rr_repl (hr3x.more hszz) ((hd.below hbx).more hszx) hp) hn hn).mono ?_
              rintro e w5 ⟨v5, rfl, hown5, hb5⟩
              have hb9 := hbx.trans (hb5.mono hszx)
              have hsz9 := hb9.size
              by_cases hbe : binsE r (List.replicate m ⟨D, p, q, t⟩) = 0
              · have hv := errV_0 hbe
                rw [bins_repl (unhide HE) (unhide HL) hbe, bins_len (unhide HL)] at hown5
                obtain ⟨vB, cB, rfl, hr5, hr6, _⟩ := own_slice hown5
                have hi5 : IReads w5 w5.heap.size vB m (r.map (fun c => binOf c ⟨D, p, q, t⟩)) := hr5
                clear hown5 hr5 hbe
                rw [hv]
                clear hv
                go_wp2_with fail
                go_loopw [17] (fun i wz => ∃ j z : Nat, j ≤ m ∧ i = .int .i64 j ∧ wz = w5.drewN z) (fun i _ => m - (intOf i).toNat)
                case atStart => exact ⟨0, 0, Nat.zero_le _, rfl, rfl⟩
                case round =>
                  obtain ⟨j, z, hj, rfl, rfl⟩ := hrel
                  by_cases hjl : j < m
                  · obtain ⟨b, o, x, rfl, hbb, hx, hcx⟩ := (ha.below hb9).get hjl
                    obtain ⟨b2, o2, y, rfl, hbb2, hy, hcy⟩ := hi5.get hjl
                    have hyx := bin_at hx hy
                    have htl := hd.len
                    have HX := hide hx
                    have HY := hide hy
                    clear hx hy
                    by_cases hnil : x = -1125899906842624
                    · have hy0 : y = -1125899906842624 := by rw [hyx]; unfold binOf; rw [if_pos hnil]; exact hnil
                      clear hyx
                      subst hnil hy0
                      go_wp2_with fail
                      go_quiet (fail)
                      go_wp2
                      go_roundw
                      case rel => exact ⟨j + 1, z + nq, by omega, by go_num, by first | rfl | rw [World.drewN_drewN]⟩
                      case measure => simp [intOf]; omega
                    · have h1 : 0 ≤ y ∧ y ≤ p := by rw [hyx]; unfold binOf; rw [if_neg hnil]; have := binN_le t x; simp; omega
                      obtain ⟨h1, h2⟩ := h1
                      have e1 : (x == -1125899906842624) = false := by simpa using hnil
                      have e2 : (y == -1125899906842624) = false := by simp; omega
                      have e3 : (y != -1125899906842624) = true := by simp; omega
                      have e4 : decide (y < 0) = false := by simp; omega
                      have e5 : decide ((p : Int) < y) = false := by simp; omega
                      clear hyx htl
                      go_wp2_with fail
                      go_quiet (fail)
                      go_wp2
                      go_roundw
                      case rel => exact ⟨j + 1, z + nq, by omega, by go_num, by first | rfl | rw [World.drewN_drewN]⟩
                      case measure => simp [intOf]; omega
                  · go_wp2
                    go_ret
                    exact ⟨rfl, below_drewN hb9 _⟩
              · have hv := errV_1 hbe
                obtain ⟨hk0, hct⟩ := bins_bad (unhide HE) (unhide HL) hbe
                have hvt := errV_1 hct
                clear hbe hct hown5
                rw [hv]
                clear hv
                go_wp2_with fail
                refine (cutCheck_any D p q t _ _ (hd.below hb9) hp).mono ?_
                rintro e w' ⟨rfl, rfl⟩
                rw [hvt]
                clear hvt
                go_wp2_with fail
                go_ret
                exact ⟨rfl, hb9⟩
            · go_wp2_with fail
              refine (bins_any A uA m c m uc r (List.replicate m ⟨D, p, q, t⟩) _ ((ha.below hbx).more hszx) (rr_repl (hr3x.more hszz) ((hd.below hbx).more hszx) hp) hn hn).mono ?_
              rintro e w5 ⟨v5, rfl, hown5, hb5⟩
              have hb9 := hbx.trans (hb5.mono hszx)
              have hsz9 := hb9.size
              by_cases hbe : binsE r (List.replicate m ⟨D, p, q, t⟩) = 0
              · have hv := errV_0 hbe
                rw [bins_repl (unhide HE) (unhide HL) hbe, bins_len (unhide HL)] at hown5
                obtain ⟨vB, cB, rfl, hr5, hr6, _⟩ := own_slice hown5
                have hi5 : IReads w5 w5.heap.size vB m (r.map (fun c => binOf c ⟨D, p, q, t⟩)) := hr5
                clear hown5 hr5 hbe
                rw [hv]
                clear hv
                go_wp2_with fail
                go_loopw [17] (fun i wz => ∃ j z : Nat, j ≤ m ∧ i = .int .i64 j ∧ wz = w5.drewN z) (fun i _ => m - (intOf i).toNat)
                case atStart => exact ⟨0, 0, Nat.zero_le _, rfl, rfl⟩
                case round =>
                  obtain ⟨j, z, hj, rfl, rfl⟩ := hrel
                  by_cases hjl : j < m
                  · obtain ⟨b, o, x, rfl, hbb, hx, hcx⟩ := (ha.below hb9).get hjl
                    obtain ⟨b2, o2, y, rfl, hbb2, hy, hcy⟩ := hi5.get hjl
                    have hyx := bin_at hx hy
                    have htl := hd.len
                    have HX := hide hx
                    have HY := hide hy
                    clear hx hy
                    by_cases hnil : x = -1125899906842624
                    · have hy0 : y = -1125899906842624 := by rw [hyx]; unfold binOf; rw [if_pos hnil]; exact hnil
                      clear hyx
                      subst hnil hy0
                      go_wp2_with fail
                      go_quiet (fail)
                      go_wp2
                      go_roundw
                      case rel => exact ⟨j + 1, z + nq, by omega, by go_num, by first | rfl | rw [World.drewN_drewN]⟩
                      case measure => simp [intOf]; omega
                    · have h1 : 0 ≤ y ∧ y ≤ p := by rw [hyx]; unfold binOf; rw [if_neg hnil]; have := binN_le t x; simp; omega
                      obtain ⟨h1, h2⟩ := h1
                      have e1 : (x == -1125899906842624) = false := by simpa using hnil
                      have e2 : (y == -1125899906842624) = false := by simp; omega
                      have e3 : (y != -1125899906842624) = true := by simp; omega
                      have e4 : decide (y < 0) = false := by simp; omega
                      have e5 : decide ((p : Int) < y) = false := by simp; omega
                      clear hyx htl
                      go_wp2_with fail
                      go_quiet (fail)
                      go_wp2
                      go_roundw
                      case rel => exact ⟨j + 1, z + nq, by omega, by go_num, by first | rfl | rw [World.drewN_drewN]⟩
                      case measure => simp [intOf]; omega
                  · go_wp2
                    go_ret
                    exact ⟨rfl, below_drewN hb9 _⟩
              · have hv := errV_1 hbe
                obtain ⟨hk0, hct⟩ := bins_bad (unhide HE) (unhide HL) hbe
                have hvt := errV_1 hct
                clear hbe hct hown5
                rw [hv]
                clear hv
                go_wp2_with fail
                refine (cutCheck_any D p q t _ _ (hd.below hb9) hp).mono ?_
                rintro e w' ⟨rfl, rfl⟩
                rw [hvt]
                clear hvt
                go_wp2_with fail
                go_ret
                exact ⟨rfl, hb9⟩
          · have hv := errV_1 hs0
            clear hs0
            go_wp2_with fail
            refine (rowCheck_any C m d s _ _ (hc.below hbx) hm).mono ?_
            rintro e w' ⟨rfl, rfl⟩
            rw [hv]
            clear hv
            go_wp2_with fail
            refine (bins_any A uA m c m uc r (List.replicate m ⟨D, p, q, t⟩) _ ((ha.below hbx).more hszx) (rr_repl (hr3x.more hszz) ((hd.below hbx).more hszx) hp) hn hn).mono ?_
            rintro e w5 ⟨v5, rfl, hown5, hb5⟩
            have hb9 := hbx.trans (hb5.mono hszx)
            have hsz9 := hb9.size
            by_cases hbe : binsE r (List.replicate m ⟨D, p, q, t⟩) = 0
            · have hv := errV_0 hbe
              rw [bins_repl (unhide HE) (unhide HL) hbe, bins_len (unhide HL)] at hown5
              obtain ⟨vB, cB, rfl, hr5, hr6, _⟩ := own_slice hown5
              have hi5 : IReads w5 w5.heap.size vB m (r.map (fun c => binOf c ⟨D, p, q, t⟩)) := hr5
              clear hown5 hr5 hbe
              rw [hv]
              clear hv
              go_wp2_with fail
              go_loopw [17] (fun i wz => ∃ j z : Nat, j ≤ m ∧ i = .int .i64 j ∧ wz = w5.drewN z) (fun i _ => m - (intOf i).toNat)
              case atStart => exact ⟨0, 0, Nat.zero_le _, rfl, rfl⟩
              case round =>
                obtain ⟨j, z, hj, rfl, rfl⟩ := hrel
                by_cases hjl : j < m
                · obtain ⟨b, o, x, rfl, hbb, hx, hcx⟩ := (ha.below hb9).get hjl
                  obtain ⟨b2, o2, y, rfl, hbb2, hy, hcy⟩ := hi5.get hjl
                  have hyx := bin_at hx hy
                  have htl := hd.len
                  have HX := hide hx
                  have HY := hide hy
                  clear hx hy
                  by_cases hnil : x = -1125899906842624
                  · have hy0 : y = -1125899906842624 := by rw [hyx]; unfold binOf; rw [if_pos hnil]; exact hnil
                    clear hyx
                    subst hnil hy0
                    go_wp2_with fail
                    go_quiet (fail)
                    go_wp2
                    go_roundw
                    case rel => exact ⟨j + 1, z + nq, by omega, by go_num, by first | rfl | rw [World.drewN_drewN]⟩
                    case measure => simp [intOf]; omega
                  · have h1 : 0 ≤ y ∧ y ≤ p := by rw [hyx]; unfold binOf; rw [if_neg hnil]; have := binN_le t x; simp; omega
                    obtain ⟨h1, h2⟩ := h1
                    have e1 : (x == -1125899906842624) = false := by simpa using hnil
                    have e2 : (y == -1125899906842624) = false := by simp; omega
                    have e3 : (y != -1125899906842624) = true := by simp; omega
                    have e4 : decide (y < 0) = false := by simp; omega
                    have e5 : decide ((p : Int) < y) = false := by simp; omega
                    clear hyx htl
                    go_wp2_with fail
                    go_quiet (fail)
                    go_wp2
                    go_roundw
                    case rel => exact ⟨j + 1, z + nq, by omega, by go_num, by first | rfl | rw [World.drewN_drewN]⟩
                    case measure => simp [intOf]; omega
                · go_wp2
                  go_ret
                  exact ⟨rfl, below_drewN hb9 _⟩
            · have hv := errV_1 hbe
              obtain ⟨hk0, hct⟩ := bins_bad (unhide HE) (unhide HL) hbe
              have hvt := errV_1 hct
              clear hbe hct hown5
              rw [hv]
              clear hv
              go_wp2_with fail
              refine (cutCheck_any D p q t _ _ (hd.below hb9) hp).mono ?_
              rintro e w' ⟨rfl, rfl⟩
              rw [hvt]
              clear hvt
              go_wp2_with fail
              go_ret
              exact ⟨rfl, hb9⟩
        · go_wp2_with fail
          refine (bins_any A uA k c k uc r (List.replicate k ⟨D, p, q, t⟩) _ ((ha.below hbx).more hszx) (rr_repl (hr3x.more hszz) ((hd.below hbx).more hszx) hp) hn hn).mono ?_
          rintro e w5 ⟨v5, rfl, hown5, hb5⟩
          have hb9 := hbx.trans (hb5.mono hszx)
          have hsz9 := hb9.size
          by_cases hbe : binsE r (List.replicate k ⟨D, p, q, t⟩) = 0
          · have hv := errV_0 hbe
            rw [bins_repl (unhide HE) (unhide HL) hbe, bins_len (unhide HL)] at hown5
            obtain ⟨vB, cB, rfl, hr5, hr6, _⟩ := own_slice hown5
            have hi5 : IReads w5 w5.heap.size vB k (r.map (fun c => binOf c ⟨D, p, q, t⟩)) := hr5
            clear hown5 hr5 hbe
            rw [hv]
            clear hv
            go_wp2_with fail
            go_loopw [17] (fun i wz => ∃ j z : Nat, j ≤ k ∧ i = .int .i64 j ∧ wz = w5.drewN z) (fun i _ => k - (intOf i).toNat)
            case atStart => exact ⟨0, 0, Nat.zero_le _, rfl, rfl⟩
            case round =>
              obtain ⟨j, z, hj, rfl, rfl⟩ := hrel
              by_cases hjl : j < k
              · obtain ⟨b, o, x, rfl, hbb, hx, hcx⟩ := (ha.below hb9).get hjl
                obtain ⟨b2, o2, y, rfl, hbb2, hy, hcy⟩ := hi5.get hjl
                have hyx := bin_at hx hy
                have htl := hd.len
                have HX := hide hx
                have HY := hide hy
                clear hx hy
                by_cases hnil : x = -1125899906842624
                · have hy0 : y = -1125899906842624 := by rw [hyx]; unfold binOf; rw [if_pos hnil]; exact hnil
                  clear hyx
                  subst hnil hy0
                  go_wp2_with fail
                  go_quiet (fail)
                  go_wp2
                  go_roundw
                  case rel => exact ⟨j + 1, z + nq, by omega, by go_num, by first | rfl | rw [World.drewN_drewN]⟩
                  case measure => simp [intOf]; omega
                · have h1 : 0 ≤ y ∧ y ≤ p := by rw [hyx]; unfold binOf; rw [if_neg hnil]; have := binN_le t x; simp; omega
                  obtain ⟨h1, h2⟩ := h1
                  have e1 : (x == -1125899906842624) = false := by simpa using hnil
                  have e2 : (y == -1125899906842624) = false := by simp; omega
                  have e3 : (y != -1125899906842624) = true := by simp; omega
                  have e4 : decide (y < 0) = false := by simp; omega
                  have e5 : decide ((p : Int) < y) = false := by simp; omega
                  clear hyx htl
                  go_wp2_with fail
                  go_quiet (fail)
                  go_wp2
                  go_roundw
                  case rel => exact ⟨j + 1, z + nq, by omega, by go_num, by first | rfl | rw [World.drewN_drewN]⟩
                  case measure => simp [intOf]; omega
              · go_wp2
                go_ret
                exact ⟨rfl, below_drewN hb9 _⟩
          · have hv := errV_1 hbe
            obtain ⟨hk0, hct⟩ := bins_bad (unhide HE) (unhide HL) hbe
            have hvt := errV_1 hct
            clear hbe hct hown5
            rw [hv]
            clear hv
            go_wp2_with fail
            refine (cutCheck_any D p q t _ _ (hd.below hb9) hp).mono ?_
            rintro e w' ⟨rfl, rfl⟩
            rw [hvt]
            clear hvt
            go_wp2_with fail
            go_ret
            exact ⟨rfl, hb9⟩
  · have hv := errV_1 he
    have HE := hide he
    clear hl hl2 he
    go_enter Try.func6, Try.ntmps6
    go_wp2_with fail
    refine (fact_calls w).mono ?_
    rintro e w1 ⟨rfl, hb1⟩
    go_wp2_with fail
    refine (rowCheck_any A n c r _ _ (ha.below hb1) hn).mono ?_
    rintro e w' ⟨rfl, rfl⟩
    rw [hv]
    clear hv
    go_wp2_with fail
    go_ret
    exact ⟨rfl, hb1⟩
end Go.Proofs.Ytliacpdbeghmlaa
