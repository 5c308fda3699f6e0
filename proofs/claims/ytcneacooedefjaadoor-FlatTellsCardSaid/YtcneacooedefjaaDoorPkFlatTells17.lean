/- Part 17 of what LawFlatTells needs: FlatP. Conditions: as each lemma names. -/
import Derived.Test.YtcneacooedefjaaDoorPkFlatTells16
/- A tree laid level by level, in plain words (chapter of package flat). Conditions: none. -/
namespace Go.Proofs.YtcneacooedefjaaDoor
set_option linter.unusedVariables false
set_option linter.unusedSimpArgs false
open Go.RowKit

def Kt.kids : Kt → List Kt
  | .leaf _ => []
  | .node _ a b => [a, b]
def sizes : List Kt → Nat
  | [] => 0
  | k :: q => k.size + sizes q
theorem sizes_app (a b : List Kt) : sizes (a ++ b) = sizes a + sizes b := by
  induction a with
  | nil => simp [sizes]
  | cons k a ih => simp only [List.cons_append, sizes, ih]; omega
theorem sizes_kids (k : Kt) : sizes k.kids + 1 = k.size := by
  cases k with
  | leaf x => rfl
  | node x a b => simp only [Kt.kids, sizes, Kt.size]; omega
/-- the order: who stands in the queue, one by one -/
def bfsL : Nat → List Kt → List Kt
  | 0, _ => []
  | _ + 1, [] => []
  | f + 1, k :: q => k :: bfsL f (q ++ k.kids)
theorem bfs_len : ∀ (f : Nat) (q : List Kt), sizes q ≤ f → (bfsL f q).length = sizes q := by
  intro f
  induction f with
  | zero =>
    intro q h
    cases q with
    | nil => rfl
    | cons k q => have := k.size_pos; simp only [sizes] at h; omega
  | succ f ih =>
    intro q h
    cases q with
    | nil => rfl
    | cons k q =>
      have hk := sizes_kids k
      simp only [sizes] at h
      rw [bfsL, List.length_cons, ih _ (by rw [sizes_app]; omega), sizes_app]
      simp only [sizes]
      omega
/-- the node at place i, with m that stand behind it in the queue -/
def flatN (i m : Nat) : Kt → Nd
  | .leaf x => x
  | .node x _ _ => ⟨x.f, x.c, ((i + 1 + m : Nat) : Int), ((i + 2 + m : Nat) : Int), x.less, x.v⟩
def flatL : Nat → Nat → List Kt → List Nd
  | 0, _, _ => []
  | _ + 1, _, [] => []
  | f + 1, i, k :: q => flatN i q.length k :: flatL f (i + 1) (q ++ k.kids)
theorem flat_len : ∀ (f i : Nat) (q : List Kt), (flatL f i q).length = (bfsL f q).length := by
  intro f
  induction f with
  | zero => intro i q; rfl
  | succ f ih =>
    intro i q
    cases q with
    | nil => rfl
    | cons k q => rw [flatL, bfsL, List.length_cons, List.length_cons, ih]
/-- a tree laid flat -/
def flatV (k : Kt) : List Nd := flatL k.size 0 [k]
theorem flatV_len (k : Kt) : (flatV k).length = k.size := by
  unfold flatV
  rw [flat_len, bfs_len _ _ (by simp [sizes])]
  simp [sizes]
theorem sizes_len : ∀ q : List Kt, q.length ≤ sizes q := by
  intro q
  induction q with
  | nil => exact Nat.le_refl _
  | cons k q ih => have := k.size_pos; simp only [sizes, List.length_cons]; omega

/-- at a place of what is laid stands a part: what lies from there on is laid from a queue that begins with it -/
def FAt (L : List Nd) (p : Nat) (s : Kt) : Prop := ∃ f q, L.drop p = flatL f p (s :: q) ∧ sizes (s :: q) ≤ f
theorem drop_tail {L : List Nd} {p : Nat} {x : Nd} {r : List Nd} (h : L.drop p = x :: r) : L[p]? = some x ∧ L.drop (p + 1) = r := by
  constructor
  · have := congrArg (fun l => l[0]?) h
    simpa using this
  · have := congrArg (fun l => l.drop 1) h
    simpa [List.drop_drop, Nat.add_comm] using this
theorem FAt.of_queue {L : List Nd} : ∀ (j f p : Nat) (q : List Kt), L.drop p = flatL f p q → sizes q ≤ f → ∀ s, q[j]? = some s → FAt L (p + j) s := by
  intro j
  induction j with
  | zero =>
    intro f p q h hs s hq
    cases q with
    | nil => simp at hq
    | cons k q => simp at hq; subst hq; exact ⟨f, q, h, hs⟩
  | succ j ih =>
    intro f p q h hs s hq
    cases q with
    | nil => simp at hq
    | cons k q =>
      have hk := sizes_kids k
      simp only [sizes] at hs
      obtain ⟨f, rfl⟩ : ∃ g, f = g + 1 := ⟨f - 1, by omega⟩
      rw [flatL] at h
      have h2 := (drop_tail h).2
      have := ih f (p + 1) (q ++ k.kids) h2 (by rw [sizes_app]; omega) s (by
        rw [List.getElem?_cons_succ] at hq
        rw [List.getElem?_append_left (List.getElem?_eq_some_iff.1 hq).1]; exact hq)
      rw [show p + (j + 1) = p + 1 + j by omega]
      exact this
theorem FAt.top_ {L : List Nd} {p : Nat} {s : Kt} (h : FAt L p s) : ∃ m, L[p]? = some (flatN p m s) ∧ ∀ x a b, s = .node x a b → FAt L (p + 1 + m) a ∧ FAt L (p + 2 + m) b := by
  obtain ⟨f, q, h, hs⟩ := h
  have hk := sizes_kids s
  simp only [sizes] at hs
  obtain ⟨f, rfl⟩ : ∃ g, f = g + 1 := ⟨f - 1, by omega⟩
  rw [flatL] at h
  obtain ⟨h1, h2⟩ := drop_tail h
  refine ⟨q.length, h1, ?_⟩
  rintro x a b rfl
  have hq : sizes (q ++ (Kt.node x a b).kids) ≤ f := by rw [sizes_app]; omega
  constructor
  · exact FAt.of_queue q.length f (p + 1) _ h2 hq a (by rw [List.getElem?_append_right (Nat.le_refl _)]; simp [Kt.kids])
  · have := FAt.of_queue (q.length + 1) f (p + 1) _ h2 hq b (by rw [List.getElem?_append_right (by omega)]; simp [Kt.kids])
    rw [show p + 2 + q.length = p + 1 + (q.length + 1) by omega]
    exact this
theorem flat_at0 (k : Kt) : FAt (flatV k) 0 k := ⟨k.size, [], by rw [List.drop_zero]; rfl, by simp [sizes]⟩

theorem flat_node {fe : Int} : ∀ (f i : Nat) (q : List Kt) (N : Nat), (∀ s ∈ q, s.Fit fe) → sizes q ≤ f → i + sizes q ≤ N → ∀ (j : Nat) x, (flatL f i q)[j]? = some x → nodeE N (i + j) fe x = 0 := by
  intro f
  induction f with
  | zero => intro i q N _ _ _ j x hx; simp [flatL] at hx
  | succ f ih =>
    intro i q N hq hs hN j x hx
    cases q with
    | nil => simp [flatL] at hx
    | cons k q =>
      have hk := sizes_kids k
      have hl := sizes_len q
      simp only [sizes] at hs hN
      rw [flatL] at hx
      cases j with
      | zero =>
        have hx := Option.some.inj hx
        subst hx
        have hf := hq k (List.mem_cons_self ..)
        cases k with
        | leaf y =>
          obtain ⟨h1, h2, h3, h4, h5, h6, h7⟩ := hf.2 y (by simp [Kt.leaves])
          show nodeE N (i + 0) fe y = 0
          unfold nodeE
          rw [if_pos h1, if_neg (by omega), if_neg (by omega), if_neg (by omega), if_neg (by omega), if_neg (by omega), if_neg (by simp [h7])]
        | node y a b =>
          have ha := a.size_pos
          have hb := b.size_pos
          simp only [Kt.size] at hs hN
          obtain ⟨h1, h2, h3, h4, h5, h6⟩ := hf.1 y (by simp [Kt.asks])
          show nodeE N (i + 0) fe ⟨y.f, y.c, ((i + 1 + q.length : Nat) : Int), ((i + 2 + q.length : Nat) : Int), y.less, y.v⟩ = 0
          unfold nodeE
          dsimp only
          rw [if_neg h1, if_neg (by omega), if_neg (by omega), if_neg (by omega), if_neg (by omega), if_neg (by omega), if_neg (by omega), if_neg (by omega), if_neg (by omega), if_neg (by omega), if_neg (by omega)]
      | succ j =>
        rw [List.getElem?_cons_succ] at hx
        rw [show i + (j + 1) = i + 1 + j by omega]
        refine ih (i + 1) (q ++ k.kids) N ?_ (by rw [sizes_app]; omega) (by rw [sizes_app]; omega) j x hx
        intro s hs'
        rcases List.mem_append.1 hs' with h | h
        · exact hq s (List.mem_cons_of_mem _ h)
        · have hf := hq k (List.mem_cons_self ..)
          cases k with
          | leaf y => simp [Kt.kids] at h
          | node y a b =>
            simp [Kt.kids] at h
            rcases h with rfl | rfl
            · exact hf.left
            · exact hf.right
theorem flat_ups : ∀ (f i : Nat) (q : List Kt), (∀ s ∈ q, s.Ok) → sizes q ≤ f → ∀ j, (i + q.length ≤ j ∧ j < i + sizes q → ups (flatL f i q) j = 1) ∧ (¬ (i + q.length ≤ j ∧ j < i + sizes q) → ups (flatL f i q) j = 0) := by
  intro f
  induction f with
  | zero =>
    intro i q _ hs j
    have hl := sizes_len q
    exact ⟨fun h => by omega, fun _ => rfl⟩
  | succ f ih =>
    intro i q hq hs j
    cases q with
    | nil => exact ⟨fun h => by simp [sizes] at h; omega, fun _ => rfl⟩
    | cons k q =>
      have hk := sizes_kids k
      have hl := sizes_len q
      simp only [sizes] at hs
      have hok := hq k (List.mem_cons_self ..)
      have ih' := ih (i + 1) (q ++ k.kids) (by
        intro s hs'
        rcases List.mem_append.1 hs' with h | h
        · exact hq s (List.mem_cons_of_mem _ h)
        · cases k with
          | leaf y => simp [Kt.kids] at h
          | node y a b =>
            simp [Kt.kids] at h
            rcases h with rfl | rfl
            · exact hok.left
            · exact hok.right) (by rw [sizes_app]; omega) j
      rw [sizes_app, List.length_append] at ih'
      obtain ⟨i1, i0⟩ := ih'
      simp only [flatL, ups, sizes, List.length_cons]
      generalize flatL f (i + 1) (q ++ k.kids) = R at *
      cases k with
      | leaf y =>
        have hf := hok.2 y (by simp [Kt.leaves])
        have hkd : kid (flatN i q.length (.leaf y)) j = 0 := by unfold kid; exact if_pos hf
        rw [hkd]
        simp only [Kt.kids, sizes, Kt.size, List.length_nil] at i1 i0 ⊢
        exact ⟨fun h => by rw [i1 (by omega)], fun h => by rw [i0 (by omega)]⟩
      | node y a b =>
        have hf := hok.1 y (by simp [Kt.asks])
        have ha := a.size_pos
        have hb := b.size_pos
        have hkd : kid (flatN i q.length (.node y a b)) j = (if ((i + 1 + q.length : Nat) : Int) = j then 1 else 0) + (if ((i + 2 + q.length : Nat) : Int) = j then 1 else 0) := by unfold kid; exact if_neg hf
        rw [hkd]
        simp only [Kt.kids, sizes, Kt.size, List.length_nil, List.length_cons] at i1 i0 ⊢
        by_cases e1 : ((i + 1 + q.length : Nat) : Int) = j
        · rw [if_pos e1, if_neg (by omega), i0 (by omega)]
          exact ⟨fun _ => rfl, fun h => by omega⟩
        rw [if_neg e1]
        by_cases e2 : ((i + 2 + q.length : Nat) : Int) = j
        · rw [if_pos e2, i0 (by omega)]
          exact ⟨fun _ => rfl, fun h => by omega⟩
        rw [if_neg e2]
        exact ⟨fun h => by rw [i1 (by omega)], fun h => by rw [i0 (by omega)]⟩

theorem flat_behind {k : Kt} {fe : Int} (hk : k.Fit fe) : Behind (flatV k) := fun i x hx hf => by
  have h1 := flat_node k.size 0 [k] k.size (by simpa using hk) (by simp [sizes]) (by simp [sizes]) i x hx
  rw [Nat.zero_add] at h1
  have hl := flatV_len k
  rcases node_of h1 with h2 | h2
  · exact absurd h2.1 hf
  · omega
theorem flat_dep {L : List Nd} (hb : Behind L) : ∀ (s : Kt) (p : Nat), s.Ok → FAt L p s → dep L p = s.deep := by
  intro s
  induction s with
  | leaf x =>
    intro p hk h
    obtain ⟨m, h1, _⟩ := h.top_
    have hf := hk.2 x (by simp [Kt.leaves])
    have h1 : L[p]? = some x := h1
    rw [dep_at h1 (fun e => absurd hf e) (fun e => absurd hf e), if_pos hf]
    rfl
  | node x a b ia ib =>
    intro p hk h
    obtain ⟨m, h1, h2⟩ := h.top_
    obtain ⟨h3, h4⟩ := h2 x a b rfl
    have hf := hk.1 x (by simp [Kt.asks])
    have h5 := hb p _ h1 hf
    rw [dep_at h1 (fun _ => h5.1) (fun _ => h5.2.2.1), if_neg (by exact hf)]
    simp only [flatN]
    rw [Int.toNat_natCast, Int.toNat_natCast, ia _ hk.left h3, ib _ hk.right h4]
    rfl
theorem right_flat {k : Kt} {fe : Int} (hk : k.Fit fe) (h0 : 0 ≤ fe) (h8 : fe ≤ 8) (hs : k.size ≤ 63) (hd : k.deep ≤ 10) : Right (flatV k) fe := by
  refine ⟨by rw [flatV_len]; exact k.size_pos, by rw [flatV_len]; exact hs, h0, h8, ?_, ?_, ?_⟩
  · intro i n hi
    rw [flatV_len]
    have := flat_node k.size 0 [k] k.size (by simpa using hk) (by simp [sizes]) (by simp [sizes]) i n hi
    rw [Nat.zero_add] at this
    exact this
  · intro i h1 h2
    rw [flatV_len] at h2
    unfold flatV
    exact (flat_ups _ _ _ (by simpa using hk.ok) (by simp [sizes]) i).1 ⟨by simp; omega, by simpa [sizes] using h2⟩
  · rw [flat_dep (flat_behind hk) k 0 hk.ok (flat_at0 k)]
    exact hd
theorem kof_flat {L : List Nd} : ∀ (s : Kt) (p m : Nat), s.Ok → FAt L p s → s.size ≤ m → Alike (kof L m p) s := by
  intro s
  induction s with
  | leaf x =>
    intro p m hk h hm
    simp only [Kt.size] at hm
    obtain ⟨m, rfl⟩ : ∃ q, m = q + 1 := ⟨m - 1, by omega⟩
    obtain ⟨_, h1, _⟩ := h.top_
    have h1 : L[p]? = some x := h1
    rw [kof_leaf h1 (hk.2 x (by simp [Kt.leaves]))]
    exact .leaf x
  | node x a b ia ib =>
    intro p m hk h hm
    simp only [Kt.size] at hm
    obtain ⟨m, rfl⟩ : ∃ q, m = q + 1 := ⟨m - 1, by omega⟩
    obtain ⟨j, h1, h2⟩ := h.top_
    obtain ⟨h3, h4⟩ := h2 x a b rfl
    rw [kof_node h1 (by exact hk.1 x (by simp [Kt.asks]))]
    refine .node rfl rfl rfl rfl ?_ ?_
    · simp only [flatN]; rw [Int.toNat_natCast]; exact ia _ m hk.left h3 (by omega)
    · simp only [flatN]; rw [Int.toNat_natCast]; exact ib _ m hk.right h4 (by omega)
theorem kTree_flat {k : Kt} (hk : k.Ok) : Alike (kTree (flatV k)) k := by
  unfold kTree
  exact kof_flat k 0 _ hk (flat_at0 k) (by rw [flatV_len]; exact Nat.le_refl _)
def AlikeQ : List Kt → List Kt → Prop
  | [], [] => True
  | a :: q, b :: q' => Alike a b ∧ AlikeQ q q'
  | _, _ => False
theorem AlikeQ.app : ∀ {p p' q q' : List Kt}, AlikeQ p p' → AlikeQ q q' → AlikeQ (p ++ q) (p' ++ q') := by
  intro p
  induction p with
  | nil => intro p' q q' h h'; cases p' with
    | nil => exact h'
    | cons b r => exact absurd h (by simp [AlikeQ])
  | cons a p ih => intro p' q q' h h'; cases p' with
    | nil => exact absurd h (by simp [AlikeQ])
    | cons b r => exact ⟨h.1, ih h.2 h'⟩
theorem AlikeQ.len : ∀ {p p' : List Kt}, AlikeQ p p' → p.length = p'.length := by
  intro p
  induction p with
  | nil => intro p' h; cases p' with
    | nil => rfl
    | cons b r => exact absurd h (by simp [AlikeQ])
  | cons a p ih => intro p' h; cases p' with
    | nil => exact absurd h (by simp [AlikeQ])
    | cons b r => simp only [List.length_cons, ih h.2]
theorem AlikeQ.flat : ∀ (f i : Nat) (q q' : List Kt), AlikeQ q q' → flatL f i q = flatL f i q' := by
  intro f
  induction f with
  | zero => intro i q q' _; rfl
  | succ f ih =>
    intro i q q' h
    cases q with
    | nil => cases q' with
      | nil => rfl
      | cons b r => exact absurd h (by simp [AlikeQ])
    | cons a q => cases q' with
      | nil => exact absurd h (by simp [AlikeQ])
      | cons b r =>
        have hl := AlikeQ.len h.2
        obtain ⟨h1, h2⟩ := h
        rw [flatL, flatL, hl]
        cases h1 with
        | leaf x => rw [ih (i + 1) (q ++ (Kt.leaf x).kids) (r ++ (Kt.leaf x).kids) (AlikeQ.app h2 trivial)]
        | @node x y a b c d e1 e2 e3 e4 e5 e6 =>
          rw [ih (i + 1) (q ++ (Kt.node x a b).kids) (r ++ (Kt.node y c d).kids) (AlikeQ.app h2 (show AlikeQ [a, b] [c, d] from ⟨e5, e6, trivial⟩))]
          simp only [flatN, e1, e2, e3, e4]
theorem Alike.flatV_ {a b : Kt} (h : Alike a b) : flatV a = flatV b := by
  unfold flatV
  rw [h.size_]
  exact AlikeQ.flat _ _ _ _ ⟨h, trivial⟩

theorem kofMore {t : List Nd} (hb : Behind t) : ∀ (k k' i : Nat), i < t.length → t.length ≤ i + k → t.length ≤ i + k' → kof t k i = kof t k' i := by
  intro k
  induction k with
  | zero => intro k' i h1 h2; omega
  | succ k ih =>
    intro k' i h1 h2 h3
    obtain ⟨q, rfl⟩ : ∃ q, k' = q + 1 := ⟨k' - 1, by omega⟩
    have hn : t[i]? = some t[i] := List.getElem?_eq_getElem h1
    by_cases hf : (t[i]).f = -1
    · rw [kof_leaf hn hf, kof_leaf hn hf]
    · obtain ⟨a, b, c, d⟩ := hb i _ hn hf
      rw [kof_node hn hf, kof_node hn hf, ih q _ (by omega) (by omega) (by omega), ih q _ (by omega) (by omega) (by omega)]


/-! ### a tree laid level by level -/
def flatT (t : List Nd) : List Nd := flatV (kTree t)
section
variable {t : List Nd} {fe : Int}
theorem Right.flat (h : Right t fe) : Right (flatT t) fe := by
  refine right_flat h.kfit h.fe0 h.fe8 (by rw [h.sortedLen]; exact h.most) ?_
  have := kof_deep h.behind t.length 0 h.pos (by omega)
  have := h.deep
  unfold kTree
  omega
theorem Right.flatLen (h : Right t fe) : (flatT t).length = t.length := by unfold flatT; rw [flatV_len, h.sortedLen]
theorem Right.flatTwice (h : Right t fe) : flatT (flatT t) = flatT t := (kTree_flat h.kfit.ok).flatV_
theorem Right.flatValue (h : Right t fe) (r : List Int) : valAt (flatT t) (leafOf (flatT t) r) = valAt t (leafOf t r) := by
  rw [h.flat.value r, h.value r]
  exact (kTree_flat h.kfit.ok).val r

/-- the loop that lays a tree: at round i these are laid, and these stand in the queue -/
def FlSt (t : List Nd) (i : Nat) (lev : List Nat) (done : List Nd) : Prop :=
  i ≤ lev.length ∧ done.length = i ∧ (∀ p ∈ lev, p < t.length) ∧ ∃ f, flatT t = done ++ flatL f i ((lev.drop i).map (kof t t.length)) ∧ sizes ((lev.drop i).map (kof t t.length)) ≤ f
theorem FlSt.start (h : Right t fe) : FlSt t 0 [0] [] := by
  have := h.pos
  exact ⟨by simp, rfl, by simpa using h.pos, (kTree t).size, rfl, by simp [sizes, kTree]⟩
theorem FlSt.bound (h : Right t fe) {i : Nat} {lev : List Nat} {done : List Nd} (hs : FlSt t i lev done) : lev.length ≤ t.length ∧ t.length ≤ 63 := by
  obtain ⟨h1, h2, _, f, h4, h5⟩ := hs
  have h6 := congrArg List.length h4
  rw [h.flatLen, List.length_append, flat_len, bfs_len _ _ h5] at h6
  have h7 := sizes_len ((lev.drop i).map (kof t t.length))
  rw [List.length_map, List.length_drop] at h7
  have := h.most
  omega
theorem FlSt.done_ (h : Right t fe) {i : Nat} {lev : List Nat} {done : List Nd} (hs : FlSt t i lev done) (he : i = lev.length) : done = flatT t := by
  obtain ⟨h1, h2, _, f, h4, h5⟩ := hs
  subst he
  rw [h4]
  simp
  cases f <;> rfl
theorem FlSt.step (h : Right t fe) {i p : Nat} {lev : List Nat} {done : List Nd} {n : Nd} (hs : FlSt t i lev done) (hp : lev[i]? = some p) (hn : t[p]? = some n) :
    (n.f = -1 → FlSt t (i + 1) lev (done ++ [n])) ∧ (n.f ≠ -1 → FlSt t (i + 1) (lev ++ [n.l.toNat, n.r.toNat]) (done ++ [⟨n.f, n.c, (lev.length : Int), ((lev.length + 1 : Nat) : Int), n.less, n.v⟩]) ∧ (p : Int) < n.l ∧ n.l < t.length ∧ (p : Int) < n.r ∧ n.r < t.length) := by
  obtain ⟨h1, h2, h3, f, h4, h5⟩ := hs
  have hi : i < lev.length := (List.getElem?_eq_some_iff.1 hp).1
  have hpt : p < t.length := (List.getElem?_eq_some_iff.1 hn).1
  have hd : lev.drop i = p :: lev.drop (i + 1) := drop_at hp
  rw [hd, List.map_cons] at h4 h5
  have hk := sizes_kids (kof t t.length p)
  simp only [sizes] at h5
  obtain ⟨f, rfl⟩ : ∃ g, f = g + 1 := ⟨f - 1, by omega⟩
  rw [flatL] at h4
  obtain ⟨N, hN⟩ : ∃ N, t.length = N + 1 := ⟨t.length - 1, by omega⟩
  have hb := h.behind
  constructor
  · intro hf
    have hkk : kof t t.length p = .leaf n := by rw [hN]; exact kof_leaf hn hf
    rw [hkk] at h4 hk
    simp only [Kt.kids, List.append_nil, flatN] at h4 hk
    refine ⟨by omega, by simp [h2], h3, f, by rw [h4]; simp, ?_⟩
    rw [hkk] at h5
    simp only [Kt.size] at h5
    omega
  · intro hf
    obtain ⟨a, b, c, d⟩ := hb p n hn hf
    refine ⟨?_, a, b, c, d⟩
    have hkk : kof t t.length p = .node n (kof t t.length n.l.toNat) (kof t t.length n.r.toNat) := by
      rw [hN, kof_node hn hf, ← hN]
      rw [kofMore hb N t.length n.l.toNat (by omega) (by omega) (by omega), kofMore hb N t.length n.r.toNat (by omega) (by omega) (by omega)]
    rw [hkk] at h4 hk h5
    simp only [Kt.kids, flatN, List.length_map, List.length_drop] at h4 hk
    have e1 : i + 1 + (lev.length - (i + 1)) = lev.length := by omega
    have e2 : i + 2 + (lev.length - (i + 1)) = lev.length + 1 := by omega
    rw [e1, e2] at h4
    have hdr : (lev ++ [n.l.toNat, n.r.toNat]).drop (i + 1) = lev.drop (i + 1) ++ [n.l.toNat, n.r.toNat] := List.drop_append_of_le_length (by omega)
    refine ⟨by simp; omega, by simp [h2], ?_, f, ?_, ?_⟩
    · intro q hq
      rcases List.mem_append.1 hq with hq | hq
      · exact h3 q hq
      · simp at hq
        rcases hq with rfl | rfl <;> omega
    · rw [hdr, List.map_append, h4]
      simp
    · rw [hdr, List.map_append, sizes_app]
      simp only [List.map_cons, List.map_nil]
      omega
end
end Go.Proofs.YtcneacooedefjaaDoor
