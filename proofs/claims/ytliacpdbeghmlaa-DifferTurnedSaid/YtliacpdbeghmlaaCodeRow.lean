/- CodeRow: the walk of the law's function. Conditions: the argument reads as a list of ints. -/
import Derived.Test.YtliacpdbeghmlaaCode
namespace Go.Proofs.Ytliacpdbeghmlaa
set_option linter.unusedVariables false
set_option linter.unusedSimpArgs false
open Go.RowKit

theorem own_base {w : World} {base base' : Nat} {e : TypeId} {size n : Nat} {v : Value} {xs : List Value} (h : w.ownsRow base e size v n xs) (hb : base' ≤ base) : w.ownsRow base' e size v n xs := by
  refine ⟨h.1, ?_⟩
  rcases h.2 with hn | ⟨g, cap, cur, rfl, hg, rest⟩
  · exact .inl hn
  · exact .inr ⟨g, cap, cur, rfl, Nat.le_trans hb hg, rest⟩
theorem own_slice2 {w : World} {base : Nat} {e : TypeId} {size n : Nat} {v : Value} {xs : List Value} (h : w.ownsRow base e size v n xs) : ∃ A c, v = .slice A n c ∧ Reads w w.heap.size size A n xs ∧ n ≤ maxLen ∧ n ≤ c ∧ (A = none → c = 0) ∧ (∀ a, A = some a → base ≤ a.block) := by
  rcases h.2 with ⟨rfl, rfl⟩ | ⟨g, cap, cur, rfl, hg, _, h1, h2, _⟩
  · exact ⟨none, 0, rfl, ⟨h.1, fun h0 => absurd h0 (by omega)⟩, Nat.zero_le _, Nat.le_refl _, fun _ => rfl, fun a e => by cases e⟩
  · exact ⟨_, _, rfl, Reads.of_own h, Nat.le_trans h1 h2, h1, fun e => (by cases e), fun a e => by injection e with e; subst e; exact hg⟩

def encs (l : List Int) : List Int := l.flatMap enc
theorem encs_next {l : List Int} {k : Nat} {x : Int} (h : l[k]? = some x) : encs (l.take (k + 1)) = encs (l.take k) ++ enc x := by
  unfold encs; rw [take_next h, List.flatMap_append]; simp
theorem enc_len (z : Int) : 1 ≤ (enc z).length ∧ (enc z).length ≤ 10 := ⟨encN_pos 9 _, encN_len 10 _⟩
theorem encs_len (l : List Int) : (encs l).length ≤ 10 * l.length := by
  induction l with
  | nil => simp [encs]
  | cons x r ih => unfold encs at *; rw [List.flatMap_cons, List.length_append, List.length_cons]; have := (enc_len x).2; omega
theorem encN_bytes : ∀ (k x : Nat), ∀ y ∈ encN k x, 0 ≤ y ∧ y < 256 := by
  intro k
  induction k with
  | zero => intro x y h; simp [encN] at h
  | succ k ih =>
    intro x y h
    rw [encN] at h
    split at h
    · simp at h; subst h; omega
    · rcases List.mem_cons.1 h with rfl | h
      · omega
      · exact ih _ y h
theorem encs_bytes (l : List Int) : ∀ y ∈ encs l, 0 ≤ y ∧ y < 256 := by
  intro y h
  unfold encs at h
  obtain ⟨z, _, hz⟩ := List.mem_flatMap.1 h
  exact encN_bytes _ _ y hz
theorem encs_drop {l : List Int} {k : Nat} {x : Int} (h : l[k]? = some x) : encs (l.drop k) = enc x ++ encs (l.drop (k + 1)) := by
  unfold encs; rw [drop_at h, List.flatMap_cons]
theorem getV4 : getV [4] = (2, 1, 0) := by decide

set_option maxRecDepth 100000 in
set_option maxHeartbeats 4000000 in
theorem codeRow_walk (A : Option Addr) (n c : Nat) (l : List Int) (w : World) (hl : IReads w w.heap.size A n l) (hn : n ≤ maxLen) (hwf : ∀ x ∈ l, (Lit.int .i64 x).wf = true) :
    Calls Try.prog 4 #[.slice A n c] w fun e w' => e = .returned (.bool true) ∧ Below w.heap.size w w' := by
  unfold maxLen at hn
  have hb0 := (Below.refl w.heap.size w).alloc (Nat.le_refl _) (.cells #[.int .u8 4] 5)
  have hr0 : BReads (w.alloc (.cells #[.int .u8 4] 5)) (w.heap.size + 1) (some ⟨w.heap.size, 0, none⟩) 1 [4] := Reads.new_ w 1 1 [.int .u8 4] 5 rfl
  have HWF : Hid (∀ x ∈ l, -9223372036854775808 ≤ x ∧ x < 9223372036854775808) := hide (fun x hx => by have := hwf x hx; simp [Lit.wf, IntKind.min, IntKind.max, IntKind.bits, IntKind.signed] at this; omega)
  have HLL := hide hl.len
  clear hwf
  go_enter Try.func4, Try.ntmps4
  go_wp2_with fail
  refine (get_any (some ⟨w.heap.size, 0, none⟩) 1 1 (w.heap.size + 1) [4] _ hr0 (by decide) (by decide)).mono ?_
  rintro e w' ⟨rfl, rfl⟩
  rw [getV4, errV_0 rfl]
  go_wp2_with fail
  go_loopw [6, 7] (fun v i wr => ∃ k : Nat, k ≤ n ∧ k ≤ 60 ∧ i = .int .i64 k ∧ wr.ownsRow w.heap.size 5 1 v (encs (l.take k)).length ((encs (l.take k)).map (Value.int .u8)) ∧ Below w.heap.size w wr) (fun _ i _ => n - (intOf i).toNat)
  case atStart => exact ⟨0, Nat.zero_le _, by omega, rfl, World.ownsRow_nil _ _ _ _, hb0⟩
  case round =>
    obtain ⟨k, hk, hk60, rfl, hown, hbel⟩ := hrel
    have hsz := hbel.size
    obtain ⟨L, hL⟩ : ∃ L, L = (encs (l.take k)).length := ⟨_, rfl⟩
    have hL600 : L ≤ 600 := by have := encs_len (l.take k); have := List.length_take_le k l; omega
    rw [← hL] at hown
    obtain ⟨vA, vc, rfl, hv1, hv2, hv3, hv4, _⟩ := own_slice2 hown
    have hbv : BReads wr wr.heap.size vA L (encs (l.take k)) := hv1
    by_cases hlt : k < n ∧ k < 60
    · obtain ⟨h1, h2⟩ := hlt
      obtain ⟨b, o, x, rfl, hbb, hx, cx⟩ := (hl.below hbel).get h1
      have hx64 := (unhide HWF) x (List.mem_of_getElem? hx)
      have HN := hide (encs_next hx)
      clear hx hv1 hown hL
      go_wp2_with fail
      refine (num_any vA L vc wr.heap.size (encs (l.take k)) x _ hbv (Nat.le_refl _) (by omega) hv4 hx64.1 hx64.2).mono ?_
      rintro e w2 ⟨v2, rfl, hown2, hb2⟩
      have hel := enc_len x
      have hown3 := own_base hown2 hsz
      rw [← unhide HN] at hown3
      obtain ⟨uA, uc, rfl, _, _, _⟩ := own_slice hown3
      obtain ⟨M, hM⟩ : ∃ M, M = (encs (l.take (k + 1))).length := ⟨_, rfl⟩
      have hM1 : M = L + (enc x).length := by rw [hM, unhide HN, List.length_append, hbv.len]
      have hM2 : L + 1 ≤ M ∧ M ≤ L + 10 := by omega
      obtain ⟨hM3, hM4⟩ := hM2
      rw [← hM] at hown3 ⊢
      have HM := hide hM
      clear hown2 hM hM1 hbv
      go_wp2_with fail
      go_roundw
      case rel => exact ⟨k + 1, by omega, by omega, by go_num, by rw [← unhide HM]; exact hown3, hbel.trans (hb2.mono hsz)⟩
      case measure => simp [intOf] <;> omega
    · have hks : l.take k = l.take 60 := by
        by_cases h : k < n
        · have : k = 60 := by omega
          rw [this]
        · have hl' := unhide HLL
          rw [List.take_of_length_le (by omega), List.take_of_length_le (by omega)]
      rw [hks] at hbv
      have hi0 : BReads wr wr.heap.size vA L (encs ((l.take 60).drop 0)) := by simpa using hbv
      clear hks hown hv1 hbv hL
      by_cases hkn : k < n
      all_goals
        go_wp2_with fail
        go_loop [6, 9] (fun v i => ∃ (j : Nat) (A' : Option Addr) (n' c' : Nat), j ≤ n ∧ j ≤ 60 ∧ i = .int .i64 j ∧ v = .slice A' n' c' ∧ n' ≤ c' ∧ n' ≤ 600 ∧ BReads wr wr.heap.size A' n' (encs ((l.take 60).drop j))) (fun _ i => n - (intOf i).toNat)
        case atStart => exact ⟨0, vA, L, vc, Nat.zero_le _, by omega, rfl, rfl, hv3, hL600, hi0⟩
        case round =>
          obtain ⟨j, A', n', c', hj, hj60, rfl, rfl, hnc, hn6, hbr⟩ := hrel
          by_cases hlt2 : j < n ∧ j < 60
          · obtain ⟨h1, h2⟩ := hlt2
            obtain ⟨b, o, x, rfl, hbb, hx, cx⟩ := (hl.below hbel).get h1
            have hx64 := (unhide HWF) x (List.mem_of_getElem? hx)
            have hxt : (l.take 60)[j]? = some x := by rw [List.getElem?_take_of_lt h2]; exact hx
            have hdr := encs_drop hxt
            have hgv := get_back x hx64.1 hx64.2 (encs ((l.take 60).drop (j + 1)))
            rw [← hdr] at hgv
            have hel := enc_len x
            have hnl := hbr.len
            have hnl2 : n' = (enc x).length + (encs ((l.take 60).drop (j + 1))).length := by rw [← hnl, hdr, List.length_append]
            obtain ⟨U, hU⟩ : ∃ U, U = (enc x).length := ⟨_, rfl⟩
            rw [← hU] at hgv hel hnl2
            have hUn : U ≤ n' := by omega
            have HGV := hide hgv
            have hcut : BReads wr wr.heap.size (if c' = U then A' else A'.map (·.add (U * 1))) (n' - U) (encs ((l.take 60).drop (j + 1))) := by
              have := Reads.cut (k := U) (cap := c') hbr hUn hnc
              rw [hdr, List.map_append, List.drop_append_of_le_length (by simp [hU])] at this
              rw [List.drop_of_length_le (by simp [hU]), List.nil_append] at this
              exact this
            have HCUT := hide hcut
            have hby := encs_bytes ((l.take 60).drop j)
            have HBY := hide hby
            clear hx hxt hdr hgv hnl hnl2 hU hcut hby hx64
            go_wp2_with fail
            refine (get_any A' n' c' wr.heap.size _ _ hbr (by unfold maxLen; omega) (unhide HBY)).mono ?_
            rintro e w' ⟨rfl, rfl⟩
            rw [unhide HGV, errV_0 rfl]
            go_wp2_with fail
            go_round
            case rel => exact ⟨j + 1, _, _, _, by omega, by omega, by go_num, rfl, by omega, by omega, by simpa using unhide HCUT⟩
            case measure => simp [intOf] <;> omega
          · have hz : n' = 0 := by
              have := hbr.len
              rw [List.drop_of_length_le (by have := unhide HLL; rw [List.length_take]; omega)] at this
              simpa [encs] using this.symm
            subst hz
            by_cases hjn : j < n
            all_goals (first | (go_wp2_with fail; done) | (go_wp2_with fail; go_ret; exact ⟨rfl, hbel⟩))
end Go.Proofs.Ytliacpdbeghmlaa
