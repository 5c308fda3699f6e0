/- chunk: Bytes of a Fetch. Conditions: a Fetch as it was made and put. -/
import Derived.Test.YtijgiieoinmjhaaDoorFetch2
namespace Go.Proofs.YtijgiieoinmjhaaDoor
set_option linter.unusedVariables false
set_option linter.unusedSimpArgs false
open Go.RowKit Go.Maps

def bytesTo (S : List (Option (List Int))) (k : Nat) : List Int := (S.take k).flatMap fun o => o.getD []
def bytesOf (S : List (Option (List Int))) : List Int := S.flatMap fun o => o.getD []
theorem bytesTo_next {S : List (Option (List Int))} {k : Nat} {bs : List Int} (h : S[k]? = some (some bs)) : bytesTo S (k + 1) = bytesTo S k ++ bs := by
  unfold bytesTo
  rw [take_next h, List.flatMap_append]
  simp
theorem there_all {S : List (Option (List Int))} (h : there S = S.length) : ∀ k, k < S.length → ∃ bs, S[k]? = some (some bs) := by
  intro k hk
  have h1 := List.length_filter_eq_length_iff.1 h
  have h2 := h1 S[k] (List.getElem_mem hk)
  obtain ⟨bs, hbs⟩ := Option.isSome_iff_exists.1 h2
  exact ⟨bs, by rw [List.getElem?_eq_getElem hk, hbs]⟩
theorem there_le (S : List (Option (List Int))) : there S ≤ S.length := List.length_filter_le _ _
theorem quiet_len_own {H : Type} {P : Program} {o : Oper} {a : Act} {C : World → Prop} {K : Act → Prop} {m : Operand} {t k e : TypeId} {R : Value → Option (DataW H × List MemPlace)} {b n : Nat} {D : DataW H} (hop : o.op = Op.call { callee := Callee.builtin Builtin.len, args := #[m], argTypes := #[t] })
    (ht : P.underlying t = some (.map k e)) (hm : a.eval m = .map (some b)) (h : ∀ w, C w → w.ownsMap P k R b n D) (hK : K (a.put o.dst (.int .i64 (Maps.size D)))) : o.quiet P a C K :=
  ⟨_, fun w hc => by
    have := (h w hc).len ht o.type
    simp [Oper.quietAt, execOp, hop, resolve, invoke, builtin, hm, this, Result.andThen, Oper.quietUpon], hK⟩
def ByPost (l : List Int) (w : World) (e : Ending) (w' : World) : Prop := ∃ v, e = .returned (.tuple #[v, .nilIface]) ∧ w'.ownsRow w.heap.size 5 1 v l.length (l.map (Value.int .u8)) ∧ Below w.heap.size w w'

set_option maxRecDepth 100000 in
set_option maxHeartbeats 2000000 in
theorem bytes_all (g b : Nat) (l : List Pt) (S : List (Option (List Int))) (A : Option Addr) (c nn : Nat) (D : DataW Value) (w : World) (hF : FetchIs w g b l S A c nn D) (hall : there S = l.length) :
    Calls Tryd.prog 13 #[.pointer (some ⟨g, 0, none⟩)] w (ByPost (bytesOf S) w) := by
  have c0 := hF.blk.cell 0
  have c1 := hF.blk.cell 1
  simp at c0 c1
  have hcap := hF.cap
  have hgl := hF.blk.lt
  have hmap := hF.map.own
  have hsz := hF.size
  rw [hall] at hsz
  go_enter Tryd.func13, Tryd.ntmps13
  go_wp2_with fail
  refine wp_region_quiet_lit (by kernel_rfl) (by kernel_rfl) ?_
  repeat (go_big_quiet_step (fail))
  refine BigFrame.wpQuiet_want (by kernel_rfl) fun K hK => quiet_len_own rfl Tryd.underlying94 rfl (fun W hW => by obtain ⟨q, rfl⟩ := hW; exact hmap) (hK _ ?_)
  clear hK
  rw [hsz]
  simp [Act.put]
  repeat (go_big_quiet_step (fail))
  refine wpQuiet_nil ?_
  intro nq
  clear K
  have hF1 := hF.drewN nq
  have c01 : (w.drewN nq).cell? ⟨g, 0, none⟩ = some (.slice A l.length c) := c0
  have hbq : Below w.heap.size w (w.drewN nq) := below_drewN (Below.refl _ _) _
  generalize w.drewN nq = W at *
  clear c0 c1 hmap hsz
  go_wp2_with fail
  go_loopw [4, 23] (fun v i wr => ∃ k : Nat, k ≤ l.length ∧ i = .int .i64 k ∧ Hid (wr.ownsRow w.heap.size 5 1 v (bytesTo S k).length ((bytesTo S k).map (Value.int .u8))) ∧ (bytesTo S k).length ≤ 6000 * k ∧ Below w.heap.size w wr) (fun _ i _ => l.length - (intOf i).toNat)
  case atStart => exact ⟨0, Nat.zero_le _, rfl, hide (by simpa [bytesTo] using World.ownsRow_nil _ _ _ _), by simp [bytesTo], hbq⟩
  case round =>
    clear hF1 c01 hbq
    obtain ⟨k, hk, rfl, HO, hbl, hbel⟩ := hrel
    have hsz := hbel.size
    by_cases hlt : k < l.length
    · have hFr := hF.below hbel (Nat.le_refl _)
      have c1 := hFr.blk.cell 1
      simp at c1
      have hkey := keyI_key (P := Tryd.prog) Tryd.underlying3 (x := (k : Int)) (by omega)
      obtain ⟨bs, hbs⟩ := there_all (by rw [hF.len]; exact hall) k (by rw [hF.len]; exact hlt)
      obtain ⟨_, A', c', hat, hrb, hb6⟩ := hFr.yes k bs hbs
      have HN := hide (bytesTo_next hbs)
      obtain ⟨v, ps, hrun, hv⟩ := hFr.map.own.lookup keyed_int Tryd.underlying94 (zero_bytes wr) (zd := .held (.slice none 0 0)) (zp := []) rfl hkey
      have hv2 := heldR_inv hv
      rw [hat] at hv2
      injection hv2 with hv2
      subst hv2
      obtain ⟨L, hL⟩ : ∃ L, L = bytesTo S k := ⟨_, rfl⟩
      rw [← hL] at HO HN hbl
      have hown := unhide HO
      obtain ⟨n1, hn1⟩ : ∃ n, n = L.length := ⟨_, rfl⟩
      obtain ⟨n2, hn2⟩ : ∃ n, n = bs.length := ⟨_, rfl⟩
      rw [← hn1] at hown hbl
      rw [← hn2] at hrb hb6 hrun
      have hnn : n1 + n2 < 1000000000 := by omega
      have HN1 := hide hn1
      have HN2 := hide hn2
      clear HO hL hat hFr hbs hkey hv hn1 hn2
      go_wp2_with (at_builtin; refine app_many elem_byte (.tmp 26) (.tmp 32) rfl rfl rfl hown rfl hrb (ints_oneCell .u8 bs) hnn hsz ?_; intro v2 w2 hown2 hb2 _)
      have hlen : (bytesTo S (k + 1)).length = n1 + n2 := by rw [unhide HN, List.length_append, unhide HN1, unhide HN2]
      have hown3 : w2.ownsRow w.heap.size 5 1 v2 (bytesTo S (k + 1)).length ((bytesTo S (k + 1)).map (Value.int .u8)) := by
        rw [hlen, unhide HN, List.map_append]
        exact hown2
      clear hown2 hown hrb hrun
      go_wp2_with fail
      go_roundw
      case rel => exact ⟨k + 1, by omega, by go_num, hide hown3, by rw [hlen]; omega, hbel.trans hb2⟩
      case measure => simp [intOf]; omega
    · obtain rfl : k = l.length := by omega
      have e : bytesTo S l.length = bytesOf S := by unfold bytesTo bytesOf; rw [List.take_of_length_le (by rw [hF.len]; exact Nat.le_refl _)]
      rw [e] at HO
      clear e hbl
      go_wp2_with fail
      go_ret2
      exact ⟨_, rfl, unhide HO, hbel⟩
end Go.Proofs.YtijgiieoinmjhaaDoor
