/- Part 3 of what LawWeighNeeds needs: TreeCheck, TreeOps. Conditions: as each lemma names. -/
import Derived.Test.YtopncifebldklaaPkWeighNeeds02
import Derived.StillTailTactics
import Derived.Deep.RegionHeld3
/- tree.depth and tree.Check. Conditions: the tree reads as a list of nodes. -/
namespace Go.Proofs.Ytopncifebldklaa
set_option linter.unusedVariables false
set_option linter.unusedSimpArgs false
open Go.RowKit

/-! ### the plain depth -/
theorem deps_len : ∀ (t : List Nd) (i : Nat), (deps i t).length = t.length := by
  intro t
  induction t with
  | nil => intro i; rfl
  | cons n r ih => intro i; rw [deps, List.length_cons, ih, List.length_cons]
theorem deps_drop : ∀ (t : List Nd) (i k : Nat), (deps i t).drop k = deps (i + k) (t.drop k) := by
  intro t
  induction t with
  | nil => intro i k; simp [deps]
  | cons n r ih =>
    intro i k
    cases k with
    | zero => rfl
    | succ k => rw [deps, List.drop_succ_cons, ih, List.drop_succ_cons, show i + 1 + k = i + (k + 1) by omega]
theorem dep_at {t : List Nd} {i : Nat} {n : Nd} (h : t[i]? = some n) (hl : n.f ≠ -1 → (i : Int) < n.l) (hr : n.f ≠ -1 → (i : Int) < n.r) : dep t i = if n.f = -1 then 0 else 1 + max (dep t n.l.toNat) (dep t n.r.toNat) := by
  have h1 := deps_drop t 0 i
  rw [Nat.zero_add, drop_at h, deps] at h1
  have hi : i < (deps 0 t).length := by rw [deps_len]; exact (List.getElem?_eq_some_iff.1 h).1
  have h2 : (deps 0 t)[i]? = some ((deps 0 t)[i]) := List.getElem?_eq_getElem hi
  have h3 := drop_at h2
  rw [h1] at h3
  injection h3 with h4 h5
  unfold dep
  rw [List.getD_eq_getElem?_getD, h2, Option.getD_some, ← h4]
  by_cases hf : n.f = -1
  · rw [if_pos hf, if_pos hf]
  · rw [if_neg hf, if_neg hf]
    have key : ∀ m : Nat, i < m → (deps (i + 1) (t.drop (i + 1))).getD (m - (i + 1)) 0 = (deps 0 t).getD m 0 := by
      intro m hm
      rw [h5, List.getD_eq_getElem?_getD, List.getElem?_drop, List.getD_eq_getElem?_getD, show i + 1 + (m - (i + 1)) = m by omega]
    rw [key _ (by have := hl hf; omega), key _ (by have := hr hf; omega)]
theorem deps_le : ∀ (t : List Nd) (i : Nat), ∀ d ∈ deps i t, d ≤ t.length := by
  intro t
  induction t with
  | nil => intro i d h; simp [deps] at h
  | cons n r ih =>
    intro i d h
    rw [deps] at h
    have hg : ∀ k, (deps (i + 1) r).getD k 0 ≤ r.length := by
      intro k
      rw [List.getD_eq_getElem?_getD]
      cases hk : (deps (i + 1) r)[k]? with
      | none => simp
      | some x => exact ih (i + 1) x (List.mem_of_getElem? hk)
    rcases List.mem_cons.1 h with rfl | h
    · split
      · omega
      · have h1 := hg (n.l.toNat - (i + 1))
        have h2 := hg (n.r.toNat - (i + 1))
        simp only [List.length_cons]
        omega
    · have := ih (i + 1) d h
      simp only [List.length_cons]
      omega
theorem dep_le (t : List Nd) (i : Nat) : dep t i ≤ t.length := by
  unfold dep
  rw [List.getD_eq_getElem?_getD]
  cases hk : (deps 0 t)[i]? with
  | none => simp
  | some x => exact deps_le t 0 x (List.mem_of_getElem? hk)

/-- what tree.depth asks of a tree: what is below stands behind -/
def Behind (t : List Nd) : Prop := ∀ (i : Nat) n, t[i]? = some n → n.f ≠ -1 → (i : Int) < n.l ∧ n.l < t.length ∧ (i : Int) < n.r ∧ n.r < t.length
theorem Right.behind {t : List Nd} {fe : Int} (h : Right t fe) : Behind t := by
  intro i n hi hf
  rcases node_of (h.node i n hi) with h1 | h1
  · exact absurd h1.1 hf
  · exact ⟨h1.2.2.2.2.1, h1.2.2.2.2.2.1, h1.2.2.2.2.2.2.1, h1.2.2.2.2.2.2.2.1⟩

theorem elem_int_info : (Try.prog.info? 3).map (fun i => (i.zero, i.size, i.bytes)) = some (some (.int .i64 0), 1, 8) := by kernel_rfl

/-- the row of depths when all from i on are done -/
def depRow (t : List Nd) (i : Nat) (j : Nat) : Value := .int .i64 (if i ≤ j then (dep t j : Int) else 0)

theorem depRow_leaf {w : World} {g : Nat} {T : TypeId} {m j : Nat} {t : List Nd} (h : dep t j = 0) (hrow : w.rowIs g T m (depRow t (j + 1))) : w.rowIs g T m (depRow t j) := by
  refine hrow.congr fun q _ => ?_
  unfold depRow
  by_cases h1 : j + 1 ≤ q
  · rw [if_pos h1, if_pos (by omega)]
  · rw [if_neg h1]
    by_cases h2 : j ≤ q
    · obtain rfl : j = q := by omega
      rw [if_pos h2, h]; rfl
    · rw [if_neg h2]
theorem depRow_set {w : World} {g : Nat} {T : TypeId} {m j x y : Nat} {t : List Nd} (h : dep t j = 1 + max x y) (hrow : w.rowIs g T m (depRow t (j + 1))) :
    (w.setCell ⟨g, j, none⟩ (.int .i64 (1 + if x < y then (y : Int) else (x : Int)))).rowIs g T m (depRow t j) := by
  refine (hrow.set j _).congr fun q _ => ?_
  unfold depRow
  by_cases h1 : q = j
  · subst h1
    rw [if_pos rfl, if_pos (Nat.le_refl _), h]
    congr 1
    split <;> omega
  · rw [if_neg h1]
    by_cases h2 : j + 1 ≤ q
    · rw [if_pos h2, if_pos (by omega)]
    · rw [if_neg h2, if_neg (by omega)]

set_option maxRecDepth 100000 in
set_option maxHeartbeats 2000000 in
theorem depth_any (A : Option Addr) (m d : Nat) (t : List Nd) (w : World) (ht : NReads w w.heap.size A m t) (h0 : 0 < m) (hm : m ≤ 63) (hb : Behind t) :
    Calls Try.prog 59 #[.slice A m d] w fun e w' => e = .returned (.int .i64 (dep t 0)) ∧ Below w.heap.size w w' := by
  have hlen := ht.len
  have HB := hide hb
  have HL := hide hlen
  clear hb hlen
  have hmk := run_make_row' (P := Try.prog) 22 3 (.int .i64 0) 8 Try.underlying22 elem_int_info rfl .i64 .i64 m (by omega) (by omega)
  go_enter Try.func59, Try.ntmps59
  go_wp2_with fail
  go_loopw [4] (fun i wr => ∃ k : Nat, k ≤ m ∧ i = .int .i64 ((k : Int) - 1) ∧ wr.rowIs w.heap.size 3 m (depRow t k) ∧ Below w.heap.size w wr) (fun i _ => (intOf i + 1).toNat)
  case atStart => exact ⟨m, Nat.le_refl _, rfl, (World.rowIs_made w (.int .i64 0) m 3).congr (fun j hj => by unfold depRow; rw [if_neg (by omega)]), (Below.refl _ _).alloc (Nat.le_refl _) _⟩
  case round =>
    obtain ⟨k, hk, rfl, hrow, hbel⟩ := hrel
    have hsz := hbel.size
    rcases Nat.eq_zero_or_pos k with rfl | hk0
    · have hc0 := hrow.cell (i := 0) h0
      have hd0 : depRow t 0 0 = .int .i64 (dep t 0) := by unfold depRow; rw [if_pos (Nat.le_refl _)]
      rw [hd0] at hc0
      clear hrow hd0
      go_wp2_with fail
      go_ret
      exact ⟨rfl, hbel⟩
    · obtain ⟨j, rfl⟩ : ∃ j, k = j + 1 := ⟨k - 1, by omega⟩
      obtain ⟨b, o, n, rfl, hbb, hn, g0, g1, g2, g3, g4, g5⟩ := (ht.below hbel).get (k := j) (by omega)
      by_cases hf : n.f = -1
      · have hz : dep t j = 0 := by rw [dep_at hn (fun h => absurd hf h) (fun h => absurd hf h), if_pos hf]
        have HR := hide (depRow_leaf hz hrow)
        clear hz hrow hn
        rw [hf] at g0
        go_wp2_with fail
        go_roundw
        case rel => exact ⟨j, by omega, by go_num, (unhide HR).alloc _, hbel.alloc hsz _⟩
        case measure => simp [intOf] <;> omega
      · obtain ⟨a1, a2, a3, a4⟩ := (unhide HB) j n hn hf
        have hlm := unhide HL
        obtain ⟨ln, hln⟩ : ∃ ln : Nat, n.l = ln := ⟨n.l.toNat, by omega⟩
        obtain ⟨rn, hrn⟩ : ∃ rn : Nat, n.r = rn := ⟨n.r.toNat, by omega⟩
        have hz := dep_at hn (fun _ => a1) (fun _ => a3)
        rw [if_neg hf, hln, hrn, Int.toNat_natCast, Int.toNat_natCast] at hz
        have hlb : ln < m := by omega
        have hrb : rn < m := by omega
        have hlj : j < ln := by omega
        have hrj : j < rn := by omega
        obtain ⟨x, hx⟩ : ∃ x, x = dep t ln := ⟨_, rfl⟩
        obtain ⟨y, hy⟩ : ∃ y, y = dep t rn := ⟨_, rfl⟩
        have hx63 : x ≤ 63 := by have := dep_le t ln; omega
        have hy63 : y ≤ 63 := by have := dep_le t rn; omega
        rw [← hx, ← hy] at hz
        have cl : ∀ o, (wr.alloc o).cell? ⟨w.heap.size, ln, none⟩ = some (.int .i64 x) := fun o => by
          rw [(hrow.alloc o).cell hlb, hx]; unfold depRow; rw [if_pos (by omega)]
        have cr : ∀ o, (wr.alloc o).cell? ⟨w.heap.size, rn, none⟩ = some (.int .i64 y) := fun o => by
          rw [(hrow.alloc o).cell hrb, hy]; unfold depRow; rw [if_pos (by omega)]
        have cj : ∀ o, (wr.alloc o).cell? ⟨w.heap.size, j, none⟩ = some (.int .i64 0) := fun o => by
          rw [(hrow.alloc o).cell (by omega)]; unfold depRow; rw [if_neg (by omega)]
        have fj : ∀ o, (wr.alloc o).frozen? ⟨w.heap.size, j, none⟩ = false := fun o => (hrow.alloc o).frozen j
        rw [hln] at g2
        rw [hrn] at g3
        have hnf : (n.f != -1) = true := by simpa using hf
        have HZ := hide hz
        have HROW := hide hrow
        clear hz hrow hx hy hln hrn a1 a2 a3 a4 hn hlm
        go_wp2_with fail
        go_region
        go_wp2
        go_roundw
        case rel => exact ⟨j, by omega, by go_num, (depRow_set (unhide HZ) ((unhide HROW).alloc _)).drew, ((hbel.alloc hsz _).setCell (Nat.le_refl _) _).drew⟩
        case measure => simp [intOf] <;> omega

/-! ### tree.Check -/
theorem ups_append (a : List Nd) (n : Nd) (j : Nat) : ups (a ++ [n]) j = ups a j + kid n j := by
  induction a with
  | nil => simp [ups]
  | cons x r ih => rw [List.cons_append, ups, ups, ih]; omega
theorem kid_le (n : Nd) (j : Nat) : kid n j ≤ 2 := by
  unfold kid
  split
  · omega
  · split <;> split <;> omega
theorem ups_le (a : List Nd) (j : Nat) : ups a j ≤ 2 * a.length := by
  induction a with
  | nil => simp [ups]
  | cons x r ih => rw [ups, List.length_cons]; have := kid_le x j; omega
/-- the row of how many ask for each node, when the first k are gone over -/
def upRow (t : List Nd) (k : Nat) (j : Nat) : Value := .int .i64 (ups (t.take k) j : Int)
theorem upRow_leaf {w : World} {g : Nat} {T : TypeId} {m k : Nat} {t : List Nd} {n : Nd} (h : t[k]? = some n) (hf : n.f = -1) (hrow : w.rowIs g T m (upRow t k)) : w.rowIs g T m (upRow t (k + 1)) := by
  refine hrow.congr fun q _ => ?_
  unfold upRow
  rw [take_next h, ups_append]
  have : kid n q = 0 := by unfold kid; rw [if_pos hf]
  rw [this]; rfl
theorem upRow_set {w : World} {g : Nat} {T : TypeId} {m k ln rn : Nat} {t : List Nd} {n : Nd} (h : t[k]? = some n) (hf : n.f ≠ -1) (hl : n.l = ln) (hr : n.r = rn) (hlr : ln ≠ rn) (hrow : w.rowIs g T m (upRow t k)) :
    ((w.setCell ⟨g, ln, none⟩ (.int .i64 ((ups (t.take k) ln : Int) + 1))).setCell ⟨g, rn, none⟩ (.int .i64 ((ups (t.take k) rn : Int) + 1))).rowIs g T m (upRow t (k + 1)) := by
  refine ((hrow.set ln _).set rn _).congr fun q _ => ?_
  unfold upRow
  rw [take_next h, ups_append]
  unfold kid
  rw [if_neg hf, hl, hr]
  by_cases h1 : q = rn
  · subst h1
    rw [if_pos rfl, if_neg (by omega), if_pos rfl]; rfl
  · rw [if_neg h1]
    by_cases h2 : q = ln
    · subst h2
      rw [if_pos rfl, if_pos rfl, if_neg (by omega)]; rfl
    · rw [if_neg h2, if_neg (by omega), if_neg (by omega)]; rfl
theorem badAt_step {len : Nat} {fe : Int} {t : List Nd} {k : Nat} {n : Nd} (h : t[k]? = some n) (h0 : nodeE len k fe n = 0) (hb : badAt len fe k (t.drop k) = badAt len fe 0 t) : badAt len fe (k + 1) (t.drop (k + 1)) = badAt len fe 0 t := by
  rw [← hb, drop_at h, badAt, if_pos h0]
theorem badAt_stop {len : Nat} {fe : Int} {t : List Nd} {k : Nat} {n : Nd} (h : t[k]? = some n) (h0 : nodeE len k fe n ≠ 0) (hb : badAt len fe k (t.drop k) = badAt len fe 0 t) : badAt len fe 0 t = (k, nodeE len k fe n) := by
  rw [← hb, drop_at h, badAt, if_neg h0]

/-- what tree.Check answers -/
def CheckPost (t : List Nd) (fe : Int) (w : World) (e : Ending) (w' : World) : Prop :=
  e = .returned (.tuple #[.int .i64 ((treeC t fe).1 : Int), errV (treeE t fe)]) ∧ Below w.heap.size w w'
theorem CheckPost.mk {t : List Nd} {fe : Int} {w w' : World} {at_ : Nat} {er : Int} {v : Value} (h : treeC t fe = (at_, er)) (hv : v = errV er) (hb : Below w.heap.size w w') : CheckPost t fe w (.returned (.tuple #[.int .i64 (at_ : Int), v])) w' := by
  subst hv
  unfold CheckPost treeE
  rw [h]
  exact ⟨rfl, hb⟩

set_option maxRecDepth 100000 in
set_option maxHeartbeats 4000000 in
theorem check_any (A : Option Addr) (m d : Nat) (fe : Int) (t : List Nd) (w : World) (ht : NReads w w.heap.size A m t) (hm : m ≤ maxLen) :
    Calls Try.prog 33 #[.slice A m d, .int .i64 fe] w (CheckPost t fe w) := by
  have hlen := ht.len
  by_cases c1 : 63 < m
  · have HE : Hid (treeC t fe = (0, 4)) := hide (by unfold treeC; rw [if_pos (by omega)])
    clear hlen
    unfold maxLen at hm
    go_enter Try.func33, Try.ntmps33
    go_wp2_with fail
    go_ret2
    exact CheckPost.mk (unhide HE) rfl (Below.refl _ _)
  by_cases c2 : m = 0
  · have HE : Hid (treeC t fe = (0, 5)) := hide (by unfold treeC; rw [if_neg (by omega), if_pos (by omega)])
    clear hlen
    subst c2
    go_enter Try.func33, Try.ntmps33
    go_wp2_with fail
    go_ret2
    exact CheckPost.mk (unhide HE) rfl (Below.refl _ _)
  by_cases c3 : fe < 0
  · have HE : Hid (treeC t fe = (0, 1)) := hide (by unfold treeC; rw [if_neg (by omega), if_neg (by omega), if_pos c3])
    clear hlen
    go_enter Try.func33, Try.ntmps33
    go_wp2_with fail
    go_ret2
    exact CheckPost.mk (unhide HE) rfl (Below.refl _ _)
  by_cases c4 : 8 < fe
  · have HE : Hid (treeC t fe = (0, 1)) := hide (by unfold treeC; rw [if_neg (by omega), if_neg (by omega), if_neg c3, if_pos c4])
    clear hlen
    go_enter Try.func33, Try.ntmps33
    go_wp2_with fail
    go_ret2
    exact CheckPost.mk (unhide HE) rfl (Below.refl _ _)
  have hmk := run_make_row' (P := Try.prog) 22 3 (.int .i64 0) 8 Try.underlying22 elem_int_info rfl .i64 .i64 m (by omega) (by omega)
  have HL := hide hlen
  have HT : Hid (treeC t fe = if (badAt m fe 0 t).2 = 0 then (if (clashAt t 0 m).2 = 0 then (if 10 < dep t 0 then (0, 4) else (0, 0)) else clashAt t 0 m) else badAt m fe 0 t) := hide (by
    unfold treeC; rw [if_neg (by omega), if_neg (by omega), if_neg c3, if_neg c4, hlen])
  clear hlen
  have hm0 : 0 < m := by omega
  have hm63 : m ≤ 63 := by omega
  clear c1 c2 hm
  go_enter Try.func33, Try.ntmps33
  go_wp2_with fail
  go_loopw [35] (fun i wr => ∃ k : Nat, k ≤ m ∧ i = .int .i64 k ∧ Hid (badAt m fe k (t.drop k) = badAt m fe 0 t) ∧ wr.rowIs w.heap.size 3 m (upRow t k) ∧ Below w.heap.size w wr) (fun i _ => m - (intOf i).toNat)
  case atStart => exact ⟨0, Nat.zero_le _, rfl, hide (by simp), (World.rowIs_made w (.int .i64 0) m 3).congr (fun j hj => by simp [upRow, ups]), (Below.refl _ _).alloc (Nat.le_refl _) _⟩
  case round =>
    obtain ⟨k, hk, rfl, HG, hrow, hbel⟩ := hrel
    have hsz := hbel.size
    by_cases hlt : k < m
    · obtain ⟨b, o, n, rfl, hbb, hn, g0, g1, g2, g3, g4, g5⟩ := (ht.below hbel).get hlt
      have HN := hide hn
      have hnr : NReads (wr.alloc (.cells #[.int .i64 n.f, .int .i64 n.c, .int .i64 n.l, .int .i64 n.r, .bool n.less, .int .i64 n.v] 29)) (wr.alloc (.cells #[.int .i64 n.f, .int .i64 n.c, .int .i64 n.l, .int .i64 n.r, .bool n.less, .int .i64 n.v] 29)).heap.size (some ⟨b, o, none⟩) m t :=
        Reads.more (Reads.alloc (ht.below hbel) hsz _) (by rw [World.size_alloc]; omega)
      have hblk := Blk.new wr 29 #[.int .i64 n.f, .int .i64 n.c, .int .i64 n.l, .int .i64 n.r, .bool n.less, .int .i64 n.v]
      have hbel2 := hbel.alloc hsz (.cells #[.int .i64 n.f, .int .i64 n.c, .int .i64 n.l, .int .i64 n.r, .bool n.less, .int .i64 n.v] 29)
      have hrow2 := hrow.alloc (.cells #[.int .i64 n.f, .int .i64 n.c, .int .i64 n.l, .int .i64 n.r, .bool n.less, .int .i64 n.v] 29)
      clear hn
      go_wp2_with fail
      refine (node_any (some ⟨b, o, none⟩) m d k fe t n _ hnr (by unfold maxLen; omega) hlt (unhide HN)).mono ?_
      rintro e w1 ⟨rfl, hb1⟩
      have hbel3 := hbel2.trans (hb1.mono (by rw [World.size_alloc]; omega))
      have hblk1 := hblk.below hb1 (by rw [World.size_alloc]; omega)
      have hrow3 := hrow2.of_block (hb1.block w.heap.size (by rw [World.size_alloc]; omega))
      clear hblk hrow2 hrow hnr hb1 hbel2
      by_cases he : nodeE m k fe n = 0
      · rw [errV_0 he]
        have hG2 := badAt_step (unhide HN) he (unhide HG)
        have f0 : w1.cell? ⟨wr.heap.size, 0, none⟩ = some (.int .i64 n.f) := hblk1.cell 0
        by_cases hf : n.f = -1
        · have HROW := hide (upRow_leaf (unhide HN) hf hrow3)
          rw [hf] at f0
          have HG2 := hide hG2
          clear hrow3 he hG2 hblk1
          go_wp2_with fail
          go_roundw
          case rel => exact ⟨k + 1, by omega, by go_num, HG2, unhide HROW, hbel3⟩
          case measure => simp [intOf] <;> omega
        · rcases node_of he with h1 | h1
          · exact absurd h1.1 hf
          obtain ⟨_, _, _, _, a1, a2, a3, a4, _, a5⟩ := h1
          obtain ⟨ln, hln⟩ : ∃ ln : Nat, n.l = ln := ⟨n.l.toNat, by omega⟩
          obtain ⟨rn, hrn⟩ : ∃ rn : Nat, n.r = rn := ⟨n.r.toNat, by omega⟩
          have hlb : ln < m := by omega
          have hrb : rn < m := by omega
          have hlr : ln ≠ rn := by omega
          have HSET := hide (upRow_set (unhide HN) hf hln hrn hlr hrow3)
          have f2 : w1.cell? ⟨wr.heap.size, 2, none⟩ = some (.int .i64 n.l) := hblk1.cell 2
          have f3 : w1.cell? ⟨wr.heap.size, 3, none⟩ = some (.int .i64 n.r) := hblk1.cell 3
          rw [hln] at f2
          rw [hrn] at f3
          have cl : w1.cell? ⟨w.heap.size, ln, none⟩ = some (.int .i64 (ups (t.take k) ln : Int)) := hrow3.cell hlb
          have cr : w1.cell? ⟨w.heap.size, rn, none⟩ = some (.int .i64 (ups (t.take k) rn : Int)) := hrow3.cell hrb
          have fl : w1.frozen? ⟨w.heap.size, ln, none⟩ = false := hrow3.frozen ln
          have fr : w1.frozen? ⟨w.heap.size, rn, none⟩ = false := hrow3.frozen rn
          have bl : ups (t.take k) ln ≤ 126 := by have := ups_le (t.take k) ln; have := List.length_take_le k t; omega
          have br : ups (t.take k) rn ≤ 126 := by have := ups_le (t.take k) rn; have := List.length_take_le k t; omega
          have hnf : (n.f != -1) = true := by simpa using hf
          have hgs : w.heap.size ≠ wr.heap.size := by have := hrow3.lt; intro e; have h2 := hblk1; unfold Blk at h2; obtain ⟨cc, hcc, _⟩ := hrow3; rw [← e, hcc] at h2; injection h2 with h2; injection h2 with _ h3; revert h3; decide
          obtain ⟨x, hx⟩ : ∃ x, x = ups (t.take k) ln := ⟨_, rfl⟩
          obtain ⟨y, hy⟩ : ∃ y, y = ups (t.take k) rn := ⟨_, rfl⟩
          rw [← hx] at cl bl HSET
          rw [← hy] at cr br HSET
          have HG2 := hide hG2
          clear hrow3 he hG2 hblk1 hln hrn hx hy a1 a2 a3 a4 a5 hf
          go_wp2_with fail
          go_roundw
          case rel => exact ⟨k + 1, by omega, by go_num, HG2, unhide HSET, (hbel3.setCell (Nat.le_refl _) _).setCell (Nat.le_refl _) _⟩
          case measure => simp [intOf] <;> omega
      · rw [errV_1 he]
        have HE : Hid (treeC t fe = (k, nodeE m k fe n)) := hide (by rw [unhide HT, badAt_stop (unhide HN) he (unhide HG), if_neg he])
        have HV := hide (errV_1 he)
        clear he hrow3 hblk1
        go_wp2_with fail
        go_ret2
        exact CheckPost.mk (unhide HE) (unhide HV).symm hbel3
    · obtain rfl : k = m := by omega
      have hG0 : (badAt k fe 0 t).2 = 0 := by
        rw [← unhide HG, List.drop_of_length_le (by have := unhide HL; omega)]; rfl
      have HT2 : Hid (treeC t fe = if (clashAt t 0 k).2 = 0 then (if 10 < dep t 0 then (0, 4) else (0, 0)) else clashAt t 0 k) := hide (by rw [unhide HT, if_pos hG0])
      have HB : Hid (Behind t) := hide (by
        intro i n hi hf
        have := badAt_none t 0 hG0 i n hi
        rw [Nat.zero_add] at this
        rcases node_of this with h1 | h1
        · exact absurd h1.1 hf
        · have := unhide HL
          exact ⟨h1.2.2.2.2.1, by omega, h1.2.2.2.2.2.2.1, by omega⟩)
      clear hG0 HT HG
      go_wp2_with fail
      go_loop [68] (fun i => ∃ j : Nat, j ≤ k ∧ i = .int .i64 j ∧ Hid (clashAt t j (k - j) = clashAt t 0 k)) (fun i => k - (intOf i).toNat)
      case atStart => exact ⟨0, Nat.zero_le _, rfl, hide rfl⟩
      case round =>
        obtain ⟨j, hj, rfl, HC⟩ := hrel
        by_cases hjl : j < k
        · have cj : wr.cell? ⟨w.heap.size, j, none⟩ = some (.int .i64 (ups t j : Int)) := by
            rw [hrow.cell hjl]; unfold upRow; rw [List.take_of_length_le (by have := unhide HL; omega)]
          have hst := unhide HC
          rw [show k - j = (k - (j + 1)) + 1 by omega, clashAt] at hst
          by_cases hj0 : j = 0
          · subst hj0
            rw [if_neg (by omega)] at hst
            have HST := hide hst
            clear hst
            go_wp2_with fail
            go_round
            case rel => exact ⟨1, by omega, by go_num, HST⟩
            case measure => simp [intOf] <;> omega
          · by_cases hu : ups t j = 1
            · rw [if_neg (by omega)] at hst
              rw [hu] at cj
              have HST := hide hst
              clear hst hu
              go_wp2_with fail
              go_round
              case rel => exact ⟨j + 1, by omega, by go_num, HST⟩
              case measure => simp [intOf] <;> omega
            · rw [if_pos ⟨by omega, hu⟩] at hst
              have HE : Hid (treeC t fe = (j, 7)) := hide (by rw [unhide HT2, ← hst, if_neg (by simp)])
              obtain ⟨x, hx⟩ : ∃ x, x = ups t j := ⟨_, rfl⟩
              rw [← hx] at cj hu
              have q : ((x : Int) != 1) = true := by simp; omega
              clear hst hx
              go_wp2_with fail
              go_ret2
              exact CheckPost.mk (unhide HE) rfl hbel
        · obtain rfl : j = k := by omega
          have hcl := unhide HC
          rw [Nat.sub_self, clashAt] at hcl
          have HT3 : Hid (treeC t fe = if 10 < dep t 0 then (0, 4) else (0, 0)) := hide (by rw [unhide HT2, ← hcl, if_pos rfl])
          clear hcl HC HT2
          go_wp2_with fail
          refine (depth_any A j d t _ (Reads.more (ht.below hbel) hsz) hm0 hm63 (unhide HB)).mono ?_
          rintro e w3 ⟨rfl, hb3⟩
          have hbx := hbel.trans (hb3.mono hsz)
          have hd63 := dep_le t 0
          rw [unhide HL] at hd63
          obtain ⟨x, hx⟩ : ∃ x, x = dep t 0 := ⟨_, rfl⟩
          rw [← hx] at HT3 hd63 ⊢
          clear hx
          by_cases h10 : 10 < x
          · have HE : Hid (treeC t fe = (0, 4)) := hide (by rw [unhide HT3, if_pos h10])
            go_wp2_with fail
            go_ret2
            exact CheckPost.mk (unhide HE) rfl hbx
          · have HE : Hid (treeC t fe = (0, 0)) := hide (by rw [unhide HT3, if_neg h10])
            go_wp2_with fail
            go_ret2
            exact CheckPost.mk (unhide HE) rfl hbx
end Go.Proofs.Ytopncifebldklaa
/- tree.Next, Walk, Ready, Leaf, Eval, Depth, Leaves. Conditions: arguments read as lists. -/
namespace Go.Proofs.Ytopncifebldklaa
set_option linter.unusedVariables false
set_option linter.unusedSimpArgs false
open Go.RowKit

def goes (n : Nd) (c : Int) : Bool := if c = -1125899906842624 then n.less else decide (c < n.c)
def nextOf (n : Nd) (c : Int) : Int := if goes n c = true then n.l else n.r

theorem next_any (f c l r : Int) (less : Bool) (v x : Int) (w : World) :
    Calls Try.prog 61 #[.agg #[.int .i64 f, .int .i64 c, .int .i64 l, .int .i64 r, .bool less, .int .i64 v], .int .i64 x] w fun e w' => e = .returned (.int .i64 (nextOf ⟨f, c, l, r, less, v⟩ x)) ∧ Below w.heap.size w w' := by
  by_cases h0 : x = -1125899906842624
  · subst h0
    cases less
    · have HE : Hid (nextOf ⟨f, c, l, r, false, v⟩ (-1125899906842624) = r) := hide (by simp [nextOf, goes])
      go_enter Try.func61, Try.ntmps61
      go_wp2
      go_ret
      exact ⟨by rw [unhide HE]; rfl, by go_grown⟩
    · have HE : Hid (nextOf ⟨f, c, l, r, true, v⟩ (-1125899906842624) = l) := hide (by simp [nextOf, goes])
      go_enter Try.func61, Try.ntmps61
      go_wp2
      go_ret
      exact ⟨by rw [unhide HE]; rfl, by go_grown⟩
  · have q0 : (x == -1125899906842624) = false := by simpa using h0
    have q1 : (x != -1125899906842624) = true := by simpa using h0
    by_cases h1 : x < c
    · have HE : Hid (nextOf ⟨f, c, l, r, less, v⟩ x = l) := hide (by simp [nextOf, goes, h0, h1])
      go_enter Try.func61, Try.ntmps61
      go_wp2
      go_ret
      exact ⟨by rw [unhide HE]; rfl, by go_grown⟩
    · have HE : Hid (nextOf ⟨f, c, l, r, less, v⟩ x = r) := hide (by simp [nextOf, goes, h0, h1])
      go_enter Try.func61, Try.ntmps61
      go_wp2
      go_ret
      exact ⟨by rw [unhide HE]; rfl, by go_grown⟩

def cellAt (row : List Int) (f : Int) : Int := row.getD f.toNat 0
/-- the leaf to which a row comes from a node -/
def leafFrom (t : List Nd) (row : List Int) : Nat → Nat → Nat
  | 0, i => i
  | k + 1, i => match t[i]? with
    | some n => if n.f = -1 then i else leafFrom t row k (nextOf n (cellAt row n.f)).toNat
    | none => i
theorem leafFrom_leaf {t : List Nd} {row : List Int} {k i : Nat} {n : Nd} (h : t[i]? = some n) (hf : n.f = -1) : leafFrom t row k i = i := by
  cases k with
  | zero => rfl
  | succ k => simp only [leafFrom, h, hf, if_true]
theorem leafFrom_step {t : List Nd} {row : List Int} {k i : Nat} {n : Nd} (h : t[i]? = some n) (hf : n.f ≠ -1) : leafFrom t row (k + 1) i = leafFrom t row k (nextOf n (cellAt row n.f)).toNat := by
  simp only [leafFrom, h, hf, if_false]
def leafOf (t : List Nd) (row : List Int) : Nat := leafFrom t row t.length 0

/-- what tree.Walk asks: the questions ask for cells that are there -/
def Asks (t : List Nd) (k : Nat) : Prop := ∀ (i : Nat) n, t[i]? = some n → n.f ≠ -1 → 0 ≤ n.f ∧ n.f < k
theorem Right.asks {t : List Nd} {k : Nat} (h : Right t k) : Asks t k := by
  intro i n hi hf
  rcases node_of (h.node i n hi) with h1 | h1
  · exact absurd h1.1 hf
  · exact ⟨h1.1, h1.2.1⟩
theorem nextOf_lt {t : List Nd} {i : Nat} {n : Nd} {c : Int} (hb : Behind t) (h : t[i]? = some n) (hf : n.f ≠ -1) : ∃ j : Nat, nextOf n c = j ∧ i < j ∧ j < t.length := by
  obtain ⟨a1, a2, a3, a4⟩ := hb i n h hf
  unfold nextOf
  split
  · exact ⟨n.l.toNat, by omega, by omega, by omega⟩
  · exact ⟨n.r.toNat, by omega, by omega, by omega⟩

set_option maxRecDepth 100000 in
set_option maxHeartbeats 2000000 in
theorem walk_any (A C : Option Addr) (m d k q : Nat) (t : List Nd) (row : List Int) (w : World) (ht : NReads w w.heap.size A m t) (hr : IReads w w.heap.size C k row) (h0 : 0 < m) (hm : m ≤ 63) (hk : k ≤ 8) (hb : Behind t) (ha : Asks t k) :
    Calls Try.prog 43 #[.slice A m d, .slice C k q] w fun e w' => e = .returned (.int .i64 (leafOf t row)) ∧ Below w.heap.size w w' := by
  have hlen := ht.len
  have HO : Hid (leafOf t row = leafFrom t row m 0) := hide (by unfold leafOf; rw [hlen])
  have HB := hide hb
  have HA := hide ha
  have HL := hide hlen
  clear hb ha hlen
  go_enter Try.func43, Try.ntmps43
  go_wp2_with fail
  go_loopw [5] (fun i wr => ∃ j F : Nat, j < m ∧ i = .int .i64 j ∧ m ≤ j + F ∧ Hid (leafFrom t row F j = leafFrom t row m 0) ∧ Below w.heap.size w wr) (fun i _ => m - (intOf i).toNat)
  case atStart => exact ⟨0, m, h0, rfl, by omega, hide rfl, Below.refl _ _⟩
  case round =>
    obtain ⟨j, F, hj, rfl, hF, HF, hbel⟩ := hrel
    have hsz := hbel.size
    obtain ⟨b, o, n, rfl, hbb, hn, g0, g1, g2, g3, g4, g5⟩ := (ht.below hbel).get hj
    by_cases hf : n.f = -1
    · have HZ : Hid (leafOf t row = j) := hide (by rw [unhide HO, ← unhide HF, leafFrom_leaf hn hf])
      rw [hf] at g0
      clear hn
      go_wp2_with fail
      go_ret
      exact ⟨by rw [unhide HZ]; rfl, hbel⟩
    · have hnf : (n.f != -1) = true := by simpa using hf
      obtain ⟨a1, a2⟩ := (unhide HA) j n hn hf
      obtain ⟨fn, hfn⟩ : ∃ fn : Nat, n.f = fn := ⟨n.f.toNat, by omega⟩
      have hfk : fn < k := by omega
      obtain ⟨b2, o2, x, rfl, hbb2, hx, cx⟩ := (hr.below hbel).get hfk
      have hcx : cellAt row n.f = x := by unfold cellAt; rw [hfn, Int.toNat_natCast, List.getD_eq_getElem?_getD, hx]; rfl
      obtain ⟨j2, hj2, hlt, hjm⟩ := nextOf_lt (c := x) (unhide HB) hn hf
      rw [unhide HL] at hjm
      obtain ⟨F2, rfl⟩ : ∃ F2, F = F2 + 1 := ⟨F - 1, by omega⟩
      have HF2 : Hid (leafFrom t row F2 j2 = leafFrom t row m 0) := hide (by
        have := unhide HF
        rw [leafFrom_step hn hf, hcx, hj2, Int.toNat_natCast] at this
        exact this)
      have HJ := hide hj2
      obtain ⟨nf, nc, nl, nr, nless, nv⟩ := n
      simp only at hfn g0 g1 g2 g3 g4 g5 hnf
      subst hfn
      clear hn hx hcx hj2 hf a1 a2
      go_wp2_with fail
      go_still_tail 12, (by kernel_rfl)
      go_wp2_with fail
      refine (next_any (fn : Int) nc nl nr nless nv x _).mono ?_
      rintro e w1 ⟨rfl, hb1⟩
      rw [unhide HJ]
      go_wp2_with fail
      go_roundw
      case rel => exact ⟨j2, F2, by omega, rfl, by omega, HF2, (hbel.drew).trans (hb1.mono hsz)⟩
      case measure => simp [intOf] <;> omega

/-! ### Ready, Leaf, Eval, Depth -/
def readyE (t : List Nd) (row : List Int) : Int := if rowE row = 0 then treeE t row.length else rowE row
theorem readyE_right {t : List Nd} {row : List Int} (h : readyE t row = 0) : rowE row = 0 ∧ Right t row.length ∧ row.length ≤ 8 := by
  unfold readyE at h
  by_cases h0 : rowE row = 0
  · rw [if_pos h0] at h
    have hr := right_of h
    exact ⟨h0, hr, by have := hr.fe8; omega⟩
  · rw [if_neg h0] at h; exact absurd h h0

def leafV (t : List Nd) (row : List Int) : Int := if readyE t row = 0 then (leafOf t row : Int) else 0
theorem leafFrom_lt {t : List Nd} {row : List Int} (hb : Behind t) : ∀ (k i : Nat), i < t.length → leafFrom t row k i < t.length := by
  intro k
  induction k with
  | zero => intro i hi; exact hi
  | succ k ih =>
    intro i hi
    have hn : t[i]? = some t[i] := List.getElem?_eq_getElem hi
    by_cases hf : (t[i]).f = -1
    · rw [leafFrom_leaf hn hf]; exact hi
    · rw [leafFrom_step hn hf]
      obtain ⟨j, hj, _, hjl⟩ := nextOf_lt (c := cellAt row (t[i]).f) hb hn hf
      rw [hj, Int.toNat_natCast]
      exact ih j hjl
def valAt (t : List Nd) (i : Nat) : Int := match t[i]? with | some n => n.v | none => 0
def evalV (t : List Nd) (row : List Int) : Int := if readyE t row = 0 then valAt t (leafOf t row) else 0
def depthV (t : List Nd) : Int := if treeE t 8 = 0 then (dep t 0 : Int) else 0
/-! ### Leaves -/
/-- the places of the leaves, from place i on -/
def leavesFrom (i : Nat) : List Nd → List Int
  | [] => []
  | n :: r => if n.f = -1 then (i : Int) :: leavesFrom (i + 1) r else leavesFrom (i + 1) r
def leavesV (t : List Nd) : List Int := if treeE t 8 = 0 then leavesFrom 0 t else []
theorem leavesFrom_len (t : List Nd) : ∀ i, (leavesFrom i t).length ≤ t.length := by
  induction t with
  | nil => intro i; simp [leavesFrom]
  | cons n r ih => intro i; rw [leavesFrom]; have := ih (i + 1); split <;> simp <;> omega
theorem leaves_hit {t : List Nd} {k : Nat} {n : Nd} (h : t[k]? = some n) (hf : n.f = -1) : leavesFrom k (t.drop k) = (k : Int) :: leavesFrom (k + 1) (t.drop (k + 1)) := by
  rw [drop_at h, leavesFrom, if_pos hf]
theorem leaves_miss {t : List Nd} {k : Nat} {n : Nd} (h : t[k]? = some n) (hf : n.f ≠ -1) : leavesFrom k (t.drop k) = leavesFrom (k + 1) (t.drop (k + 1)) := by
  rw [drop_at h, leavesFrom, if_neg hf]
def LeavesPost (t : List Nd) (w : World) (e : Ending) (w' : World) : Prop :=
  ∃ v, e = .returned (.tuple #[v, errV (treeE t 8)]) ∧ w'.ownsRow w.heap.size 3 1 v (leavesV t).length ((leavesV t).map (Value.int .i64)) ∧ Below w.heap.size w w'

end Go.Proofs.Ytopncifebldklaa
