/- Bytes of which one is another one have another sum. Plain. Conditions: as each lemma names. -/
import Derived.Test.YtijgiieoinmjhaaDoorChunk
namespace Go.Proofs.YtijgiieoinmjhaaDoor
set_option linter.unusedVariables false
set_option linter.unusedSimpArgs false
open Go.RowKit

theorem sumS_inj {a b d : Int} (ha : 0 ≤ a ∧ a < 1000003) (hb : 0 ≤ b ∧ b < 1000003) (h : sumS a d = sumS b d) : a = b := by
  unfold sumS at h
  omega
theorem sumS_byte {a c d : Int} (hc : 0 ≤ c ∧ c < 256) (hd : 0 ≤ d ∧ d < 256) (h : sumS a c = sumS a d) : c = d := by
  unfold sumS at h
  omega
theorem fold_inj : ∀ (l : List Int) {a b : Int}, (0 ≤ a ∧ a < 1000003) → (0 ≤ b ∧ b < 1000003) → l.foldl sumS a = l.foldl sumS b → a = b := by
  intro l
  induction l with
  | nil => intro a b _ _ h; exact h
  | cons x r ih =>
    intro a b ha hb h
    exact sumS_inj ha hb (ih (sumS_in _ _) (sumS_in _ _) h)
theorem sum_differ {l : List Int} {k : Nat} {c d : Int} (hk : l[k]? = some c) (hc : 0 ≤ c ∧ c < 256) (hd : 0 ≤ d ∧ d < 256) (h : c ≠ d) : sumV (l.set k d) ≠ sumV l := by
  have hl : k < l.length := (List.getElem?_eq_some_iff.1 hk).1
  have e1 : l = l.take k ++ c :: l.drop (k + 1) := by
    have := List.getElem?_eq_some_iff.1 hk
    rw [← this.2, List.getElem_cons_drop, List.take_append_drop]
  have e2 : l.set k d = l.take k ++ d :: l.drop (k + 1) := by rw [List.set_eq_take_append_cons_drop, if_pos hl]
  intro he
  have h1 : sumV (l.set k d) = (l.drop (k + 1)).foldl sumS (sumS ((l.take k).foldl sumS 7) d) := by rw [e2]; unfold sumV; rw [List.foldl_append]; rfl
  have h2 : sumV l = (l.drop (k + 1)).foldl sumS (sumS ((l.take k).foldl sumS 7) c) := by
    have : sumV (l.take k ++ c :: l.drop (k + 1)) = (l.drop (k + 1)).foldl sumS (sumS ((l.take k).foldl sumS 7) c) := by unfold sumV; rw [List.foldl_append]; rfl
    rwa [← e1] at this
  rw [h1, h2] at he
  have h3 := fold_inj _ (sumS_in _ _) (sumS_in _ _) he
  exact h (sumS_byte hd hc h3).symm
end Go.Proofs.YtijgiieoinmjhaaDoor
