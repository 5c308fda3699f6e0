/- chunk: Lacks, Bytes of a Fetch. Conditions: a Fetch as it was made and put. -/
import Derived.Test.YtijgiieoinmjhaaDoorFetch
import Derived.Test.YtijgiieoinmjhaaDoorPath
namespace Go.Proofs.YtijgiieoinmjhaaDoor
set_option linter.unusedVariables false
set_option linter.unusedSimpArgs false
open Go.RowKit Go.Maps

theorem elemI : Elem Tryd.prog 23 3 (.int .i64 0) 1 8 := ⟨Tryd.underlying23, by kernel_rfl, rfl, by omega, by omega⟩
def LkOwn (w : World) (base : Nat) (v : Value) (l : List Int) : Prop := w.ownsRow base 3 1 v l.length (l.map (Value.int .i64))
theorem LkOwn.nil_ (w : World) (base : Nat) : LkOwn w base (.slice none 0 0) [] := World.ownsRow_nil _ _ _ _
def LkPost (l : List Int) (w : World) (e : Ending) (w' : World) : Prop := ∃ v, e = .returned v ∧ LkOwn w' w.heap.size v l ∧ Below w.heap.size w w'
def lacksTo (S : List (Option (List Int))) (k : Nat) : List Int := ((List.range k).filter fun i => decide (S[i]? = some none)).map fun i : Nat => (i : Int)
theorem lacksTo_no {S : List (Option (List Int))} {k : Nat} (h : S[k]? = some none) : lacksTo S (k + 1) = lacksTo S k ++ [(k : Int)] := by
  unfold lacksTo
  rw [List.range_succ, List.filter_append, List.map_append]
  simp [h]
theorem lacksTo_yes {S : List (Option (List Int))} {k : Nat} {bs : List Int} (h : S[k]? = some (some bs)) : lacksTo S (k + 1) = lacksTo S k := by
  unfold lacksTo
  rw [List.range_succ, List.filter_append, List.map_append]
  simp [h]
theorem lacksTo_len (S : List (Option (List Int))) (k : Nat) : (lacksTo S k).length ≤ k := by
  unfold lacksTo
  rw [List.length_map]
  exact Nat.le_trans (List.length_filter_le _ _) (by rw [List.length_range]; exact Nat.le_refl _)

set_option maxRecDepth 100000 in
set_option maxHeartbeats 2000000 in
theorem lacks_any (g b : Nat) (l : List Pt) (S : List (Option (List Int))) (A : Option Addr) (c nn : Nat) (D : DataW Value) (w : World) (hF : FetchIs w g b l S A c nn D) :
    Calls Tryd.prog 14 #[.pointer (some ⟨g, 0, none⟩)] w (LkPost (lacksTo S l.length) w) := by
  have c0 := hF.blk.cell 0
  simp at c0
  have hcap := hF.cap
  have hgl := hF.blk.lt
  go_enter Tryd.func14, Tryd.ntmps14
  go_wp2_with fail
  go_loopw [3, 12] (fun v i wr => ∃ k : Nat, k ≤ l.length ∧ i = .int .i64 k ∧ Hid (LkOwn wr w.heap.size v (lacksTo S k)) ∧ Below w.heap.size w wr) (fun _ i _ => l.length - (intOf i).toNat)
  case atStart => exact ⟨0, Nat.zero_le _, rfl, hide (by simpa [lacksTo] using LkOwn.nil_ _ _), Below.refl _ _⟩
  case round =>
    obtain ⟨k, hk, rfl, HO, hbel⟩ := hrel
    have hsz := hbel.size
    by_cases hlt : k < l.length
    · have hFr := hF.below hbel (Nat.le_refl _)
      have c1 := hFr.blk.cell 1
      simp at c1
      have hmap := hFr.map.own
      have hkey := keyI_key (P := Tryd.prog) Tryd.underlying3 (x := (k : Int)) (by omega)
      have hll := lacksTo_len S k
      obtain ⟨o, ho⟩ : ∃ o, S[k]? = some o := ⟨_, List.getElem?_eq_getElem (by rw [hF.len]; exact hlt)⟩
      have hL9 : (lacksTo S k).length < 1000000000 := by omega
      obtain ⟨L, hL⟩ : ∃ L, L = lacksTo S k := ⟨_, rfl⟩
      rw [← hL] at HO hL9
      have hown : wr.ownsRow w.heap.size 3 1 _ L.length (L.map (Value.int .i64)) := unhide HO
      cases o with
      | none =>
        have hhas := hFr.no k ho
        have HN : Hid (lacksTo S (k + 1) = L ++ [(k : Int)]) := hide (by rw [lacksTo_no ho, hL])
        clear ho hL hFr HO hll
        go_wp2_with (first
          | (at_lookup; refine wpList_lookup_own_ok _ rfl _ _ 94 rfl 3 22 keyed_int Tryd.underlying94 heldR (zero_bytes _) (.held (.slice none 0 0)) [] rfl b nn D rfl hmap _ _ rfl hkey ?_; intro v ps hv)
          | (at_builtin; refine app_one elemI (.tmp 26) (.tmp 28) [.int .i64 k] rfl rfl rfl hown rfl rfl rfl (ints_oneCell .i64 [(k : Int)]) hL9 hsz ?_; intro v2 w2 hown2 hb2 _ _))
        have hown3 : LkOwn w2 w.heap.size v2 (lacksTo S (k + 1)) := by rw [unhide HN]; unfold LkOwn; rw [List.length_append, List.map_append]; exact hown2
        clear hown2 hown hmap
        go_wp2_with fail
        go_roundw
        case rel => exact ⟨k + 1, by omega, by go_num, hide hown3, hbel.trans hb2⟩
        case measure => simp [intOf]; omega
      | some bs =>
        obtain ⟨hhas, _⟩ := hFr.yes k bs ho
        have HN : Hid (lacksTo S (k + 1) = L) := hide (by rw [lacksTo_yes ho, hL])
        clear ho hL hFr hll hown
        go_wp2_with (at_lookup; refine wpList_lookup_own_ok _ rfl _ _ 94 rfl 3 22 keyed_int Tryd.underlying94 heldR (zero_bytes _) (.held (.slice none 0 0)) [] rfl b nn D rfl hmap _ _ rfl hkey ?_; intro v ps hv)
        clear hmap
        go_wp2_with fail
        go_roundw
        case rel => exact ⟨k + 1, by omega, by go_num, hide (by rw [unhide HN]; exact unhide HO), hbel⟩
        case measure => simp [intOf]; omega
    · obtain rfl : k = l.length := by omega
      go_wp2_with fail
      go_ret
      exact ⟨_, rfl, unhide HO, hbel⟩
end Go.Proofs.YtijgiieoinmjhaaDoor
