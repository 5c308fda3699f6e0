/- Part 18 of what LawPathTells needs: Prune, Prune2, KinUp. Conditions: as each lemma names. -/
import Derived.Test.YtibbohebmmahmaaGreatDoorPkPathTells17
import Derived.Test.YtibbohebmmahmaaGreatDoorPkPathTells14
import Derived.Test.YtibbohebmmahmaaGreatDoorPkPathTells04
import Derived.Test.YtibbohebmmahmaaGreatDoorPkPathTells15
import Derived.Deep.CutRange
/- Package prune: nodes with their kids in memory, Of, pruned, Lay, Tree. Conditions: as each lemma names. -/
namespace Go.Proofs.YtibbohebmmahmaaGreatDoor
set_option linter.unusedVariables false
set_option linter.unusedSimpArgs false
open Go.RowKit

/-- cells of a node with its kids -/
def kcells (x : Nd) (u v : Option Addr) : Array Value := #[.int .i64 x.f, .int .i64 x.c, .int .i64 x.l, .int .i64 x.r, .bool x.less, .int .i64 x.v, .pointer u, .pointer v]
def Till (B : Nat) (b : Nat) : Prop := b < B
def Span2 (A B : Nat) (b : Nat) : Prop := A ≤ b ∧ b < B
/-- what a question in a tree with kids is about -/
def Fits (n : Nat) (k : Kt) : Prop := ∀ y ∈ k.asks, 0 ≤ y.f ∧ y.f < n ∧ -1000000 ≤ y.c ∧ y.c ≤ 1000000
theorem Fits.left {n : Nat} {x : Nd} {l r : Kt} (h : Fits n (.node x l r)) : Fits n l := fun y hy => h y (by simp [Kt.asks, hy])
theorem Fits.right {n : Nat} {x : Nd} {l r : Kt} (h : Fits n (.node x l r)) : Fits n r := fun y hy => h y (by simp [Kt.asks, hy])

end Go.Proofs.YtibbohebmmahmaaGreatDoor
/- Package prune: Lay, Tree, Sort. Conditions: as each lemma names. -/
namespace Go.Proofs.YtibbohebmmahmaaGreatDoor
set_option linter.unusedVariables false
set_option linter.unusedSimpArgs false
open Go.RowKit

theorem elem_nodeP : Elem Tryz.prog 22 40 (.agg #[.int .i64 0, .int .i64 0, .int .i64 0, .int .i64 0, .bool false, .int .i64 0]) 6 48 := ⟨Tryz.underlying22, by kernel_rfl, rfl, by omega, by omega⟩
theorem node_one (x : Nd) : ∀ u ∈ [Value.int .i64 x.f, .int .i64 x.c, .int .i64 x.l, .int .i64 x.r, .bool x.less, .int .i64 x.v], u.oneCell' = true := by
  intro u hu
  simp at hu
  rcases hu with rfl | rfl | rfl | rfl | rfl | rfl <;> rfl
theorem nodes_set (xs zs : List Nd) (x y : Nd) (r : Nat) (u : Value) (hr : r < 6) (h : x.cells.set r u = y.cells) :
    ((xs ++ x :: zs).flatMap Nd.cells).set (xs.length * 6 + r) u = (xs ++ y :: zs).flatMap Nd.cells := by
  have hl := flatMap_len Nd.cells 6 (fun _ => rfl) xs
  rw [List.flatMap_append, List.flatMap_append, List.set_append_right _ _ (by omega)]
  congr 1
  rw [List.flatMap_cons, List.flatMap_cons, hl, show xs.length * 6 + r - xs.length * 6 = r by omega, List.set_append_left _ _ (by simpa [Nd.cells] using hr), h]

/-- a row of nodes of a call's own -/
def NOwn (w : World) (base : Nat) (v : Value) (l : List Nd) : Prop := w.ownsRow base 40 6 v l.length (l.flatMap Nd.cells)
theorem NOwn.nil_ (w : World) (base : Nat) : NOwn w base (.slice none 0 0) [] := World.ownsRow_nil _ _ _ _
theorem NOwn.low {w : World} {base base' : Nat} {v : Value} {l : List Nd} (h : NOwn w base v l) (hb : base' ≤ base) : NOwn w base' v l := by
  refine ⟨h.1, ?_⟩
  rcases h.2 with h1 | ⟨g, cap, cur, e, hg, h2⟩
  · exact .inl h1
  · exact .inr ⟨g, cap, cur, e, Nat.le_trans hb hg, h2⟩
theorem NOwn.slice {w : World} {base : Nat} {v : Value} {l : List Nd} (h : NOwn w base v l) : ∃ A c, v = .slice A l.length c ∧ NReads w w.heap.size A l.length l ∧ l.length ≤ c := by
  obtain ⟨A, c, e, hr, _, hc⟩ := own_slice h
  exact ⟨A, c, e, hr, hc⟩
theorem NOwn.at_ {w : World} {base n cap : Nat} {A : Option Addr} {l : List Nd} (h : NOwn w base (.slice A n cap) l) (hl : l.length = n) {k : Nat} {x : Nd} (hx : l[k]? = some x) (r : Nat) (hr : r < 6) :
    ∃ g, A = some ⟨g, 0, none⟩ ∧ base ≤ g ∧ g < w.heap.size ∧ w.cell? ⟨g, k * 6 + r, none⟩ = x.cells[r]? ∧ w.frozen? ⟨g, k * 6 + r, none⟩ = false := by
  unfold NOwn at h
  rw [hl] at h
  have hk : k < n := by rw [← hl]; exact (List.getElem?_eq_some_iff.1 hx).1
  have hc := flatMap_at Nd.cells 6 (fun _ => rfl) l k r x hx hr
  rcases h.2 with ⟨e, h0⟩ | ⟨g, cap', cur, e, hg, hh, _⟩
  · omega
  · injection e with e1 e2 e3
    subst e1
    refine ⟨g, rfl, hg, (Array.getElem?_eq_some_iff.1 hh).1, ?_, h.frozenAt _⟩
    rw [h.cellAt _ (by omega), hc]
theorem NOwn.stored {w : World} {base n cap g : Nat} {xs zs : List Nd} {x y : Nd} (h : NOwn w base (.slice (some ⟨g, 0, none⟩) n cap) (xs ++ x :: zs)) (hl : (xs ++ x :: zs).length = n) (r : Nat) (u : Value) (hr : r < 6) (he : x.cells.set r u = y.cells) :
    NOwn (w.setCell ⟨g, xs.length * 6 + r, none⟩ u) base (.slice (some ⟨g, 0, none⟩) n cap) (xs ++ y :: zs) := by
  unfold NOwn at h ⊢
  have hl' : (xs ++ y :: zs).length = n := by rw [← hl]; simp
  rw [hl] at h
  rw [hl', ← nodes_set xs zs x y r u hr he]
  exact (h.stored _ u).1

theorem Right.fits {t : List Nd} {n : Nat} (h : Right t n) : Fits n (kTree t) := fun y hy => by
  obtain ⟨j, hj, hf⟩ := kof_asks _ _ y hy
  obtain ⟨h1, h2⟩ := h.asks j y hj hf
  obtain ⟨h3, h4⟩ := h.fit.cut j y hj hf
  exact ⟨h1, h2, h3, h4⟩
/-- what comes of prune.Tree -/
def prunedR (t : List Nd) (fe : Int) : List Nd := if treeE t fe = 0 then prunedV t fe.toNat else []
def sortedR (t : List Nd) (fe : Int) : List Nd := if treeE t fe = 0 then sortedV t else []
def NodesPost (l : List Nd) (er : Int) (w : World) (e : Ending) (w' : World) : Prop :=
  ∃ v, e = .returned (.tuple #[v, errV er]) ∧ NOwn w' w.heap.size v l ∧ Below w.heap.size w w'
end Go.Proofs.YtibbohebmmahmaaGreatDoor
/- Which node is above another one (R.Up), and the law's 'below'; a tree whose leaves say one value. Conditions: as each lemma names. -/
namespace Go.Proofs.YtibbohebmmahmaaGreatDoor
set_option linter.unusedVariables false
set_option linter.unusedSimpArgs false
open Go.RowKit

theorem clashAt_mk {t : List Nd} : ∀ (m i : Nat), (∀ j, i ≤ j → j < i + m → 0 < j → ups t j = 1) → (clashAt t i m).2 = 0 := by
  intro m
  induction m with
  | zero => intro i _; rfl
  | succ m ih =>
    intro i h
    rw [clashAt, if_neg (fun h2 => h2.2 (h i (Nat.le_refl _) (by omega) h2.1))]
    exact ih (i + 1) fun j h1 h2 h3 => h j (by omega) (by omega) h3
theorem treeE_right {t : List Nd} {fe : Int} (h : Right t fe) : treeE t fe = 0 := by
  unfold treeE treeC
  have h1 := h.most
  have h2 := h.pos
  have h3 := h.fe0
  have h4 := h.fe8
  have h5 := h.deep
  rw [if_neg (by omega), if_neg (by omega), if_neg (by omega), if_neg (by omega), badAt_mk t 0 (fun j n hj => by rw [Nat.zero_add]; exact h.node j n hj), if_pos rfl,
    if_pos (clashAt_mk t.length 0 fun j _ hj h0 => h.one j h0 (by omega)), if_neg (by omega)]

/-- each leaf says v -/
def sayV (v : Int) (n : Nd) : Nd := if n.f = -1 then ⟨n.f, n.c, n.l, n.r, n.less, v⟩ else n
theorem sayV_f (v : Int) (n : Nd) : (sayV v n).f = n.f := by unfold sayV; split <;> rfl
theorem sayV_l (v : Int) (n : Nd) : (sayV v n).l = n.l := by unfold sayV; split <;> rfl
theorem sayV_r (v : Int) (n : Nd) : (sayV v n).r = n.r := by unfold sayV; split <;> rfl
theorem nodeE_say {len i : Nat} {fe v : Int} {n : Nd} (h : nodeE len i fe n = 0) (h1 : -1000000 ≤ v) (h2 : v ≤ 1000000) : nodeE len i fe (sayV v n) = 0 := by
  by_cases hf : n.f = -1
  · rcases node_of h with ⟨_, _, _, hc, hl, hr, hs⟩ | h3
    · unfold sayV
      rw [if_pos hf]
      unfold nodeE
      dsimp only
      rw [if_pos hf, if_neg (by omega), if_neg (by omega), if_neg (by omega), if_neg (by omega), if_neg (by omega), if_neg (by simp [hs])]
    · omega
  · unfold sayV; rw [if_neg hf]; exact h
theorem kid_say (v : Int) (n : Nd) (j : Nat) : kid (sayV v n) j = kid n j := by unfold kid; rw [sayV_f, sayV_l, sayV_r]
theorem ups_say (v : Int) : ∀ (t : List Nd) (j : Nat), ups (t.map (sayV v)) j = ups t j := by
  intro t
  induction t with
  | nil => intro j; rfl
  | cons n r ih => intro j; simp only [List.map_cons, ups, kid_say, ih]
theorem deps_say (v : Int) : ∀ (t : List Nd) (i : Nat), deps i (t.map (sayV v)) = deps i t := by
  intro t
  induction t with
  | nil => intro i; rfl
  | cons n r ih => intro i; simp only [List.map_cons, deps, sayV_f, sayV_l, sayV_r, ih]
theorem Right.say {t : List Nd} {fe v : Int} (h : Right t fe) (h1 : -1000000 ≤ v) (h2 : v ≤ 1000000) : Right (t.map (sayV v)) fe := by
  refine ⟨by rw [List.length_map]; exact h.pos, by rw [List.length_map]; exact h.most, h.fe0, h.fe8, ?_, ?_, by unfold dep; rw [deps_say]; exact h.deep⟩
  · intro i n hi
    rw [List.getElem?_map] at hi
    obtain ⟨m, hm, rfl⟩ := Option.map_eq_some_iff.1 hi
    rw [List.length_map]
    exact nodeE_say (h.node i m hm) h1 h2
  · intro i h3 h4
    rw [List.length_map] at h4
    rw [ups_say]
    exact h.one i h3 h4
theorem Right.sayOne {t : List Nd} {fe v : Int} (h : Right t fe) (h1 : -1000000 ≤ v) (h2 : v ≤ 1000000) : ∃ x, prunedR (t.map (sayV v)) fe = [x] ∧ x.v = v := by
  have hr := h.say h1 h2
  obtain ⟨n, rfl⟩ : ∃ n : Nat, fe = n := ⟨fe.toNat, by have := h.fe0; omega⟩
  unfold prunedR
  rw [if_pos (treeE_right hr)]
  refine hr.prunedOne fun j y hj hf => ?_
  rw [List.getElem?_map] at hj
  obtain ⟨m, hm, rfl⟩ := Option.map_eq_some_iff.1 hj
  rw [sayV_f] at hf
  unfold sayV
  rw [if_pos hf]

/-- what is laid has its kids behind -/
theorem layK_kids : ∀ (k : Kt) (n : Nat), k.Ok → ∀ (j : Nat) x, (layK n k)[j]? = some x → x.f ≠ -1 → (n : Int) + j < x.l ∧ x.l < (n : Int) + k.size ∧ (n : Int) + j < x.r ∧ x.r < (n : Int) + k.size := by
  intro k
  induction k with
  | leaf y =>
    intro n hk j x hx hf
    cases j with
    | zero => simp [layK] at hx; subst hx; exact absurd (hk.2 y (by simp [Kt.leaves])) hf
    | succ j => simp [layK] at hx
  | node y a b ia ib =>
    intro n hk j x hx hf
    have hsa := a.size_pos
    have hsb := b.size_pos
    cases j with
    | zero => simp [layK] at hx; subst hx; simp only [Kt.size]; omega
    | succ j =>
      rw [layK, List.getElem?_cons_succ] at hx
      simp only [Kt.size]
      by_cases hj : j < a.size
      · rw [List.getElem?_append_left (by rw [layK_len]; exact hj)] at hx
        have := ia (n + 1) hk.left j x hx hf
        omega
      · rw [List.getElem?_append_right (by rw [layK_len]; omega), layK_len] at hx
        have := ib (n + 1 + a.size) hk.right (j - a.size) x hx hf
        omega
theorem layK_behind {k : Kt} (h : k.Ok) : Behind (layK 0 k) := fun i x hx hf => by
  have := layK_kids k 0 h i x hx hf
  rw [layK_len]
  omega

/-- the node above one -/
def upAt (at_ : Int) : Nat → List Nd → Int
  | _, [] => -1
  | k, n :: r => if n.f ≠ -1 ∧ (n.l = at_ ∨ n.r = at_) then (k : Int) else upAt at_ (k + 1) r
theorem upAt_drop {t : List Nd} {at_ : Int} {k : Nat} {x : Nd} (h : t[k]? = some x) : upAt at_ k (t.drop k) = if x.f ≠ -1 ∧ (x.l = at_ ∨ x.r = at_) then (k : Int) else upAt at_ (k + 1) (t.drop (k + 1)) := by
  obtain ⟨hk, e⟩ := List.getElem?_eq_some_iff.1 h
  rw [List.drop_eq_getElem_cons hk, e, upAt]
theorem upAt_par {at_ : Nat} : ∀ (l : List Nd) (k : Nat), upAt at_ k l = -1 ∨ ∃ j x, l[j]? = some x ∧ x.f ≠ -1 ∧ (x.l = (at_ : Int) ∨ x.r = (at_ : Int)) ∧ upAt at_ k l = ((k + j : Nat) : Int) := by
  intro l
  induction l with
  | nil => intro k; exact .inl rfl
  | cons n r ih =>
    intro k
    rw [upAt]
    by_cases h : n.f ≠ -1 ∧ (n.l = (at_ : Int) ∨ n.r = (at_ : Int))
    · rw [if_pos h]; exact .inr ⟨0, n, rfl, h.1, h.2, rfl⟩
    · rw [if_neg h]
      rcases ih (k + 1) with h1 | ⟨j, x, h1, h2, h3, h4⟩
      · exact .inl h1
      · exact .inr ⟨j + 1, x, by simpa using h1, h2, h3, by rw [h4]; omega⟩
theorem up_par {t : List Nd} {at_ : Nat} : upAt at_ 0 t = -1 ∨ ∃ j : Nat, Par t j at_ ∧ upAt at_ 0 t = j := by
  rcases upAt_par t 0 (at_ := at_) with h | ⟨j, x, h1, h2, h3, h4⟩
  · exact .inl h
  · exact .inr ⟨j, ⟨x, h1, h2, h3⟩, by rw [h4]; omega⟩

set_option maxRecDepth 100000 in
set_option maxHeartbeats 1000000 in
theorem up_any (A : Option Addr) (m d B : Nat) (at_ : Int) (t : List Nd) (w : World) (ht : NReads w B A m t) (hm : m ≤ maxLen) :
    Calls Tryz.prog 31 #[.slice A m d, .int .i64 at_] w fun e w' => e = .returned (.int .i64 (upAt at_ 0 t)) ∧ w = w' := by
  have HL := hide ht.len
  unfold maxLen at hm
  go_enter Tryz.func31, Tryz.ntmps31
  go_wp2_with fail
  go_loop [5] (fun i => ∃ k : Nat, k ≤ m ∧ i = .int .i64 k ∧ Hid (upAt at_ k (t.drop k) = upAt at_ 0 t)) (fun i => m - (intOf i).toNat)
  case atStart => exact ⟨0, Nat.zero_le _, rfl, hide (by simp)⟩
  case round =>
    obtain ⟨k, hk, rfl, HG⟩ := hrel
    by_cases hlt : k < m
    · obtain ⟨b, o, x, rfl, hb, hx, c0, c1, c2, c3, c4, c5⟩ := ht.get hlt
      have HD := hide (upAt_drop (at_ := at_) hx)
      clear hx
      by_cases hf : x.f = -1
      · have HE := hide ((unhide HD).symm.trans (unhide HG))
        rw [if_neg (by simp [hf])] at HE
        have hfb : (x.f != -1) = false := by simp [hf]
        clear hf HD
        go_wp2_with fail
        go_round
        case rel => exact ⟨k + 1, by omega, by go_num, HE⟩
        case measure => simp [intOf]; omega
      have hfb : (x.f != -1) = true := by simpa using hf
      by_cases hl : x.l = at_
      · have HE := hide ((unhide HD).symm.trans (unhide HG))
        rw [if_pos ⟨hf, .inl hl⟩] at HE
        have hlb : (x.l == at_) = true := by simpa using hl
        clear hl hf HD
        go_wp2_with fail
        go_ret
        exact ⟨ret_int (unhide HE), rfl⟩
      have hlb : (x.l == at_) = false := by simpa using hl
      by_cases hr : x.r = at_
      · have HE := hide ((unhide HD).symm.trans (unhide HG))
        rw [if_pos ⟨hf, .inr hr⟩] at HE
        have hrb : (x.r == at_) = true := by simpa using hr
        clear hl hf hr HD
        go_wp2_with fail
        go_ret
        exact ⟨ret_int (unhide HE), rfl⟩
      have hrb : (x.r == at_) = false := by simpa using hr
      have HE := hide ((unhide HD).symm.trans (unhide HG))
      rw [if_neg (by rintro ⟨_, h | h⟩ <;> contradiction)] at HE
      clear hl hf hr HD
      go_wp2_with fail
      go_round
      case rel => exact ⟨k + 1, by omega, by go_num, HE⟩
      case measure => simp [intOf]; omega
    · have H0 : Hid (upAt at_ 0 t = -1) := hide (by rw [← unhide HG, List.drop_of_length_le (by have := unhide HL; omega)]; rfl)
      go_wp2_with fail
      go_ret
      exact ⟨ret_int (unhide H0).symm, rfl⟩

def BelowPost (t : List Nd) (i j : Nat) (e : Ending) : Prop := ∃ b, e = .returned (.bool b) ∧ (b = true → Chain t i j)
end Go.Proofs.YtibbohebmmahmaaGreatDoor
