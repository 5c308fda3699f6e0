/- Part 12 of what LawBoostTells needs: BoostP, App, GrowS, GrowC, Merge. Conditions: as each lemma names. -/
import Derived.Test.YtdpijhnbhopnbaaGreatDoorPkBoostTells11
import Derived.Test.YtdpijhnbhopnbaaGreatDoorPkBoostTells03
import Derived.Test.YtdpijhnbhopnbaaGreatDoorPkBoostTells01
import Derived.Deep.CutRange
import Derived.Test.YtdpijhnbhopnbaaGreatDoorPkBoostTells02
import Derived.Test.YtdpijhnbhopnbaaGreatDoorShelf
import Derived.Test.YtdpijhnbhopnbaaGreatDoorPkBoostTells09
import Derived.Lib.AppendZerosOnto
import Derived.Lib.SliceRun
import Derived.Lib.Walk
import Derived.Lib.RowBridge
import Derived.Shelf.RegionOpenPlain
/- Package boost in plain words: what is left, tree behind tree. Conditions: none. -/
namespace Go.Proofs.YtdpijhnbhopnbaaGreatDoor
set_option linter.unusedVariables false
set_option linter.unusedSimpArgs false
open Go.RowKit

/-- a grown tree is right -/
theorem growK_asks {n least : Nat} (hl : 1 ≤ least) : ∀ (d : Nat) (ss : List Sm), SRight ss n → (growK n least d ss).Fit n ∧ (growK n least d ss).deep ≤ d := by
  have hleaf : ∀ ss : List Sm, SRight ss n → (Kt.leaf (leafG ss)).Fit n := fun ss hs => by
    have h := leaf_v hs
    refine ⟨fun y hy => by simp [Kt.asks] at hy, fun y hy => ?_⟩
    simp [Kt.leaves] at hy
    subst hy
    exact ⟨rfl, by omega, by omega, rfl, rfl, rfl, rfl⟩
  intro d
  induction d with
  | zero => intro ss hs; exact ⟨hleaf ss hs, Nat.le_refl _⟩
  | succ d ih =>
    intro ss hs
    have hB := bestB_ok hs hl
    simp only [growK]
    by_cases h : (bestB ss n least).f < 0
    · rw [if_pos h]; exact ⟨hleaf ss hs, Nat.zero_le _⟩
    · rw [if_neg h]
      obtain ⟨_, _, _, _, h5, h6, h7, h8, hz⟩ := hB
      rcases hz with hz | ⟨h1, h2⟩
      · exact absurd hz h
      obtain ⟨a1, a2⟩ := ih _ (hs.low (f := (bestB ss n least).f.toNat) (c := (bestB ss n least).c) (by omega))
      obtain ⟨b1, b2⟩ := ih _ (hs.high (f := (bestB ss n least).f.toNat) (c := (bestB ss n least).c) (by omega))
      refine ⟨⟨fun y hy => ?_, fun y hy => ?_⟩, ?_⟩
      · simp only [Kt.asks, List.mem_cons, List.mem_append] at hy
        rcases hy with rfl | hy | hy
        · exact ⟨by dsimp only; omega, by dsimp only; omega, h6, h7, h8, rfl⟩
        · exact a1.1 y hy
        · exact b1.1 y hy
      · simp only [Kt.leaves, List.mem_append] at hy
        rcases hy with hy | hy
        · exact a1.2 y hy
        · exact b1.2 y hy
      · simp only [Kt.deep]; omega
theorem growK_right {n least d : Nat} {ss : List Sm} (hl : 1 ≤ least) (hs : SRight ss n) (hd : d ≤ 5) : Right (layK 0 (growK n least d ss)) n := by
  obtain ⟨h1, h2⟩ := growK_asks hl d ss hs
  refine right_lay h1 (by omega) (by have := hs.fe8; omega) ?_ (by omega)
  have := growK_size n least d ss
  have hp : 2 ^ (d + 1) ≤ 2 ^ 6 := Nat.pow_le_pow_right (by omega) (by omega)
  omega

/-- a tree with other values at its leaves -/
def reV (f : Int → Int) (x : Nd) : Nd := ⟨x.f, x.c, x.l, x.r, x.less, f x.v⟩
theorem ups_re (f : Int → Int) : ∀ (t : List Nd) (j : Nat), ups (t.map (reV f)) j = ups t j := by
  intro t
  induction t with
  | nil => intro j; rfl
  | cons n r ih => intro j; simp only [List.map_cons, ups, ih]; rfl
theorem deps_re (f : Int → Int) : ∀ (t : List Nd) (i : Nat), deps i (t.map (reV f)) = deps i t := by
  intro t
  induction t with
  | nil => intro i; rfl
  | cons n r ih => intro i; simp only [List.map_cons, deps, ih, reV]
theorem Right.re {t : List Nd} {fe : Int} {f : Int → Int} (h : Right t fe) (h0 : f 0 = 0) (h1 : ∀ y ∈ t, -1000000 ≤ f y.v ∧ f y.v ≤ 1000000) : Right (t.map (reV f)) fe := by
  refine ⟨by rw [List.length_map]; exact h.pos, by rw [List.length_map]; exact h.most, h.fe0, h.fe8, ?_, ?_, by unfold dep; rw [deps_re]; exact h.deep⟩
  · intro i n hi
    rw [List.getElem?_map] at hi
    obtain ⟨m, hm, rfl⟩ := Option.map_eq_some_iff.1 hi
    rw [List.length_map]
    have hv := h1 m (List.mem_of_getElem? hm)
    rcases node_of (h.node i m hm) with ⟨hf, _, _, hc, hl, hr, hs⟩ | ⟨b1, b2, b3, b4, b5, b6, b7, b8, b9, b10⟩
    · unfold nodeE reV
      dsimp only
      rw [if_pos hf, if_neg (by omega), if_neg (by omega), if_neg (by omega), if_neg (by omega), if_neg (by omega), if_neg (by simp [hs])]
    · unfold nodeE reV
      dsimp only
      rw [if_neg (by omega), if_neg (by omega), if_neg (by omega), if_neg (by omega), if_neg (by omega), if_neg (by omega), if_neg (by omega), if_neg (by omega), if_neg (by omega), if_neg (by rw [b9, h0]; omega), if_neg b10]
  · intro i h3 h4
    rw [List.length_map] at h4
    rw [ups_re]
    exact h.one i h3 h4
theorem leafFrom_re (f : Int → Int) (t : List Nd) (r : List Int) : ∀ k i, leafFrom (t.map (reV f)) r k i = leafFrom t r k i := by
  intro k
  induction k with
  | zero => intro i; rfl
  | succ k ih =>
    intro i
    cases h : t[i]? with
    | none => simp only [leafFrom, List.getElem?_map, h]; rfl
    | some x =>
      simp only [leafFrom, List.getElem?_map, h, Option.map_some]
      by_cases hf : x.f = -1
      · rw [if_pos hf, if_pos (show (reV f x).f = -1 from hf)]
      · rw [if_neg hf, if_neg (show ¬ (reV f x).f = -1 from hf), ih]
        rfl

def clipT (r : Int) : Int := min 1000 (max (-1000) r)
def capV (v : Int) : Int := min 1000000 (max (-1000000) v)
theorem clipT_in (r : Int) : -1000 ≤ clipT r ∧ clipT r ≤ 1000 := by unfold clipT; omega
theorem capV_in (r : Int) : -1000000 ≤ capV r ∧ capV r ≤ 1000000 := by unfold capV; omega
/-- the samples with what is left -/
def setT (s : Sm) (r : Int) : Sm := ⟨s.A, s.n, s.c, s.r, clipT r⟩
def reS (rest : List Int) (ss : List Sm) : List Sm := List.zipWith (fun r s => setT s r) rest ss
def lessV (rest : List Int) (t : List Nd) (ss : List Sm) : List Int := List.zipWith (fun r s => r - valAt t (leafOf t s.r)) rest ss
def shareV (part v : Int) : Int := (v * part).tdiv 100
def shareT (part : Int) (t : List Nd) : List Nd := t.map (reV (shareV part))
def squaresV (l : List Int) : Int := l.foldl (fun n x => addV n (mulV x x)) 0
theorem squaresV_next {l : List Int} {k : Nat} {x : Int} (h : l[k]? = some x) : squaresV (l.take (k + 1)) = addV (squaresV (l.take k)) (mulV x x) := by
  unfold squaresV
  rw [take_next h, List.foldl_append]
  rfl
/-- the tree of a round -/
def roundT (ss : List Sm) (n depth : Nat) (part : Int) (rest : List Int) : List Nd := shareT part (layK 0 (growK n 1 depth (reS rest ss)))
structure BS where
  rest : List Int
  trees : List (List Nd)
def roundsB (ss : List Sm) (n depth : Nat) (part : Int) : Nat → BS → BS
  | 0, b => b
  | k + 1, b =>
    if squaresV b.rest ≤ squaresV (lessV b.rest (roundT ss n depth part b.rest) ss) then b
    else roundsB ss n depth part k ⟨lessV b.rest (roundT ss n depth part b.rest) ss, b.trees ++ [roundT ss n depth part b.rest]⟩
def firstT (ss : List Sm) : List Nd := [leafG ss]
def startBS (ss : List Sm) : BS := ⟨lessV (ss.map (·.t)) (firstT ss) ss, [firstT ss]⟩
def endT (m : Nat) (t : List Nd) : List Nd := t.map (reV fun v => capV (v * (m : Int)))
def boostTrees (ss : List Sm) (n rounds depth : Nat) (part : Int) : List (List Nd) :=
  (roundsB ss n depth part rounds (startBS ss)).trees.map (endT (roundsB ss n depth part rounds (startBS ss)).trees.length)
def boostE (ss : List Sm) (fe rounds depth part : Int) : Int :=
  if sampE ss fe = 0 then (if rounds < 0 ∨ 8 < rounds ∨ depth < 1 ∨ 4 < depth ∨ part < 1 ∨ 100 < part then 1 else 0) else sampE ss fe

theorem shareV_in {part v : Int} (h1 : 1 ≤ part) (h2 : part ≤ 100) (hv : -1000 ≤ v ∧ v ≤ 1000) : -1000 ≤ shareV part v ∧ shareV part v ≤ 1000 := by
  unfold shareV
  have a : v * part ≤ 1000 * 100 := by
    rcases Int.le_total 0 v with h | h
    · exact Int.mul_le_mul hv.2 h2 (by omega) (by omega)
    · have := Int.mul_nonneg (show 0 ≤ -v by omega) (show 0 ≤ part by omega)
      rw [Int.neg_mul] at this; omega
  have b : -(1000 * 100) ≤ v * part := by
    rcases Int.le_total 0 v with h | h
    · have := Int.mul_nonneg h (show 0 ≤ part by omega); omega
    · have := Int.mul_le_mul (show -v ≤ 1000 by omega) h2 (by omega) (by omega)
      rw [Int.neg_mul] at this; omega
  have hp := tdiv_parts (v * part) 100 (by omega)
  omega
theorem SRight.re {ss : List Sm} {n : Nat} {rest : List Int} (hs : SRight ss n) (hl : rest.length = ss.length) : SRight (reS rest ss) n := by
  have hlen : (reS rest ss).length = ss.length := by unfold reS; rw [List.length_zipWith, hl, Nat.min_self]
  have hm : ∀ s ∈ reS rest ss, ∃ x ∈ ss, ∃ r, s = setT x r := fun s hsm => by
    obtain ⟨i, hi⟩ := List.mem_iff_getElem?.1 hsm
    unfold reS at hi
    rw [List.getElem?_zipWith] at hi
    cases h1 : rest[i]? with
    | none => rw [h1] at hi; simp at hi
    | some r =>
      cases h2 : ss[i]? with
      | none => rw [h1, h2] at hi; simp at hi
      | some x =>
        rw [h1, h2] at hi
        simp at hi
        exact ⟨x, List.mem_of_getElem? h2, r, hi.symm⟩
  refine ⟨by rw [hlen]; exact hs.pos, by rw [hlen]; exact hs.most, hs.fe8, fun s h => ?_, fun s h => ?_, fun s h => ?_, fun s h => ?_⟩
  all_goals obtain ⟨x, hx, r, rfl⟩ := hm s h
  · exact (clipT_in r).1
  · exact (clipT_in r).2
  · exact hs.len x hx
  · exact hs.cell x hx
theorem lessV_len {rest : List Int} {t : List Nd} {ss : List Sm} (h : rest.length = ss.length) : (lessV rest t ss).length = ss.length := by unfold lessV; rw [List.length_zipWith, h, Nat.min_self]
theorem growK_v0 {n least d : Nat} {ss : List Sm} (hl : 1 ≤ least) (hs : SRight ss n) : ∀ y ∈ layK 0 (growK n least d ss), -1000 ≤ y.v ∧ y.v ≤ 1000 := growK_v hl d ss 0 hs
theorem roundT_right {ss : List Sm} {n depth : Nat} {part : Int} {rest : List Int} (hs : SRight ss n) (hl : rest.length = ss.length) (hd : depth ≤ 5) (h1 : 1 ≤ part) (h2 : part ≤ 100) :
    Right (roundT ss n depth part rest) n ∧ ∀ y ∈ roundT ss n depth part rest, -1000 ≤ y.v ∧ y.v ≤ 1000 := by
  have hs' := hs.re hl
  have hv := growK_v0 (least := 1) (d := depth) (Nat.le_refl _) hs'
  constructor
  · exact (growK_right (Nat.le_refl _) hs' hd).re (by unfold shareV; simp) fun y hy => by have := shareV_in h1 h2 (hv y hy); omega
  · intro y hy
    unfold roundT shareT at hy
    obtain ⟨x, hx, rfl⟩ := List.mem_map.1 hy
    exact shareV_in h1 h2 (hv x hx)
theorem firstT_right {ss : List Sm} {n : Nat} (hs : SRight ss n) : Right (firstT ss) n ∧ ∀ y ∈ firstT ss, -1000 ≤ y.v ∧ y.v ≤ 1000 := by
  have := growK_right (n := n) (least := 1) (d := 0) (Nat.le_refl _) hs (by omega)
  exact ⟨this, growK_v0 (least := 1) (d := 0) (n := n) (Nat.le_refl _) hs⟩
end Go.Proofs.YtdpijhnbhopnbaaGreatDoor
/- Appending one element where another row of the call's own lies beside. Conditions: as each lemma names. -/
namespace Go.Proofs.YtdpijhnbhopnbaaGreatDoor
set_option linter.unusedVariables false
set_option linter.unusedSimpArgs false
open Go.RowKit

theorem app_one2 {P : Program} {T E : TypeId} {z : Value} {size bytes : Nat} (hE : Elem P T E z size bytes) {ops : Array Oper} {rest : List Oper} {o : Oper} {a : Act} {Q : Exit → Act → World → Prop} {wr : World}
    (s x : Operand) (cs : List Value) (hgd : o.guard = none) (ho : o.op = .call { callee := .builtin .append, args := #[s, x], argTypes := #[T, T] })
    {base : Nat} {v : Value} {n : Nat} {xs : List Value} (hs : a.eval s = v) (hown : wr.ownsRow base E size v n xs) {g : Nat} (hx : a.eval x = .slice (some ⟨g, 0, none⟩) 1 1) (hgs : wr.heap.size = g)
    (hcs : cs.length = size) (h1 : ∀ u ∈ cs, u.oneCell' = true) (hn : n < 1000000000) (hbase : base ≤ wr.heap.size)
    (h : ∀ v' w', w'.ownsRow base E size v' (n + 1) (xs ++ cs) → Below base wr w' → wr.grownBy w' v.ownBlock → (v'.ownBlock = v.ownBlock ∨ v'.ownBlock = some (wr.heap.size + 1)) → wpList P ops Q rest (a.put o.dst v') w') : wpList P ops Q (o :: rest) a (wr.alloc (.cells cs.toArray E)) := by
  subst hgs
  obtain ⟨i, hi, hz, hsz, hby⟩ := info_parts hE.info
  have hw := hE.wide
  refine wpList_append_any _ hgd s x T ho base E i z size bytes hE.und hi hz hsz hby hE.zs hE.pos v n xs hs (hown.alloc _) (wr.heap.size + 1) (some ⟨wr.heap.size, 0, none⟩) 1 1 cs hx (Reads.new_ wr size 1 cs E (by omega)) h1 (by unfold maxLen; omega) ?_ (by simp; omega) ?_
  · have : (n + 1) * bytes ≤ (n + 1) * 1000 := Nat.mul_le_mul_left _ hw
    omega
  · intro v' w' h2 h3 h4
    refine h v' w' h2 (((Below.refl base wr).alloc hbase _).grown h3 (by simp; omega) (own_block_ge hown)) ?_ (by rwa [World.size_alloc] at h4)
    exact ⟨h3.os, h3.tape, h3.output, Nat.le_trans (by simp) h3.size, fun k hk hne => (h3.block k (by simp; omega) hne).trans (Below.heap_alloc wr _ k hk)⟩

/-- two rows lie apart -/
def Apart (u v : Value) : Prop := ∀ k, u.ownBlock = some k → v.ownBlock ≠ some k
theorem Apart.symm {u v : Value} (h : Apart u v) : Apart v u := fun k hk e => h k e hk
theorem Apart.nil_ (v : Value) (n c : Nat) : Apart (.slice none n c) v := fun k hk => by simp [Value.ownBlock] at hk
/-- behind an append onto the one row the other is as it was, and they lie apart still -/
theorem own_aside {wr w' : World} {base base' : Nat} {e e' : TypeId} {size size' n n' : Nat} {v u v' : Value} {xs xs' : List Value} (hu : wr.ownsRow base e size u n xs) (hv : wr.ownsRow base' e' size' v n' xs') (ha : Apart u v) (hg : wr.grownBy w' v.ownBlock) (hn : v'.ownBlock = v.ownBlock ∨ v'.ownBlock = some (wr.heap.size + 1)) :
    w'.ownsRow base e size u n xs ∧ Apart u v' := by
  constructor
  · refine hu.kept hg ?_
    rcases hb : u.ownBlock with _ | k
    · exact .inl rfl
    · exact .inr fun e => ha k hb e.symm
  · intro k hk e
    rcases hn with hn | hn
    · exact ha k hk (by rw [← hn]; exact e)
    · rw [e] at hn
      injection hn with hn
      have := (hu.lt k hk).2
      omega
end Go.Proofs.YtdpijhnbhopnbaaGreatDoor
/- Package grow: sum, part. Conditions: samples that read as data. -/
namespace Go.Proofs.YtdpijhnbhopnbaaGreatDoor
set_option linter.unusedVariables false
set_option linter.unusedSimpArgs false
open Go.RowKit

theorem elem_smp : Elem Tryz.prog 22 40 (.agg #[.slice none 0 0, .int .i64 0]) 2 32 := ⟨Tryz.underlying22, by kernel_rfl, rfl, by omega, by omega⟩
theorem smp_one (A : Option Addr) (n c : Nat) (t : Int) : ∀ u ∈ [Value.slice A n c, .int .i64 t], u.oneCell' = true := by
  intro u hu
  simp at hu
  rcases hu with rfl | rfl <;> rfl
/-- samples of a call's own -/
def MOwn (w : World) (base : Nat) (v : Value) (ss : List Sm) : Prop := w.ownsRow base 40 2 v ss.length (ss.flatMap Sm.cells)
theorem MOwn.nil_ (w : World) (base : Nat) : MOwn w base (.slice none 0 0) [] := World.ownsRow_nil _ _ _ _
theorem MOwn.slice {w : World} {base : Nat} {v : Value} {ss : List Sm} (h : MOwn w base v ss) : ∃ A c, v = .slice A ss.length c ∧ Reads w w.heap.size 2 A ss.length (ss.flatMap Sm.cells) ∧ ss.length ≤ c := by
  obtain ⟨A, c, e, hr, _, hc⟩ := own_slice h
  exact ⟨A, c, e, hr, hc⟩
theorem MOwn.app {w : World} {base : Nat} {v : Value} {ss : List Sm} {s : Sm} (h : w.ownsRow base 40 2 v (ss.length + 1) (ss.flatMap Sm.cells ++ [.slice s.A s.n s.c, .int .i64 s.t])) : MOwn w base v (ss ++ [s]) := by
  unfold MOwn
  rw [List.length_append, List.flatMap_append]
  exact h

set_option maxRecDepth 100000 in
set_option maxHeartbeats 2000000 in
theorem msum_any (A : Option Addr) (n c : Nat) (ss : List Sm) (w : World) (h : MReads w w.heap.size A n ss) (hn : n ≤ 60) (h1 : ∀ s ∈ ss, -1000 ≤ s.t) (h2 : ∀ s ∈ ss, s.t ≤ 1000) :
    Calls Tryz.prog 41 #[.slice A n c] w fun e w' => e = .returned (.int .i64 (sumM ss)) ∧ Below w.heap.size w w' := by
  have hlen := h.len
  have HB : Hid (∀ k, -60000 ≤ sumM (ss.take k) ∧ sumM (ss.take k) ≤ 60000) := hide fun k => sum_60 (by rw [List.length_take]; omega) (fun s hs => h1 s (List.mem_of_mem_take hs)) (fun s hs => h2 s (List.mem_of_mem_take hs))
  have HT : Hid (ss.take n = ss) := hide (List.take_of_length_le (by omega))
  have HL := hide hlen
  have H1 := hide h1
  have H2 := hide h2
  clear hlen h1 h2
  go_enter Tryz.func41, Tryz.ntmps41
  go_wp2_with fail
  go_loopw [3, 8] (fun s i wr => ∃ k : Nat, k ≤ n ∧ s = .int .i64 (sumM (ss.take k)) ∧ i = .int .i64 k ∧ Below w.heap.size w wr) (fun _ i _ => n - (intOf i).toNat)
  case atStart => exact ⟨0, Nat.zero_le _, rfl, rfl, Below.refl _ _⟩
  case round =>
    obtain ⟨k, hk, rfl, rfl, hbel⟩ := hrel
    by_cases hlt : k < n
    · obtain ⟨b, o, s, rfl, _, hx, c0, c1, hok⟩ := (h.below hbel).get hlt
      have HN := hide (sumM_next hx)
      obtain ⟨b1, b2⟩ := unhide HB k
      obtain ⟨S, hS⟩ : ∃ S, S = sumM (ss.take k) := ⟨_, rfl⟩
      rw [← hS] at b1 b2 HN ⊢
      have t1 := unhide H1 s (List.mem_of_getElem? hx)
      have t2 := unhide H2 s (List.mem_of_getElem? hx)
      obtain ⟨sA, sn, sc, sr, st⟩ := s
      dsimp only at c0 c1 HN t1 t2
      have hbA := hbel.alloc hbel.size (.cells #[.slice sA sn sc, .int .i64 st] 40)
      clear hx hok hS
      go_wp2_with fail
      go_roundw
      case rel => exact ⟨k + 1, by omega, by rw [unhide HN], by go_num, hbA⟩
      case measure => simp [intOf]; omega
    · obtain rfl : k = n := by omega
      rw [unhide HT]
      go_wp2_with fail
      go_ret
      exact ⟨rfl, hbel⟩

/-- two rows of samples come back -/
def PartPost (a b : List Sm) (w : World) (e : Ending) (w' : World) : Prop :=
  ∃ A c A' c', e = .returned (.tuple #[.slice A a.length c, .slice A' b.length c']) ∧ (MOwn w' w.heap.size (.slice A a.length c) a ∧ MReads w' w'.heap.size A a.length a) ∧ (MOwn w' w.heap.size (.slice A' b.length c') b ∧ MReads w' w'.heap.size A' b.length b) ∧ Below w.heap.size w w'

set_option maxRecDepth 100000 in
set_option maxHeartbeats 4000000 in
theorem mpart_any (A : Option Addr) (n c f : Nat) (q : Int) (ss : List Sm) (w : World) (h : MReads w w.heap.size A n ss) (hn : n ≤ 60) (hf : ∀ s ∈ ss, f < s.r.length) :
    Calls Tryz.prog 42 #[.slice A n c, .int .i64 f, .int .i64 q] w (PartPost (lowS f q ss) (highS f q ss) w) := by
  have hlen := h.len
  have HT : Hid (ss.take n = ss) := hide (List.take_of_length_le (by omega))
  have HF := hide hf
  have HL := hide hlen
  clear hlen hf
  go_enter Tryz.func42, Tryz.ntmps42
  go_wp2_with fail
  go_loopw [6, 7, 12] (fun u v i wr => ∃ k : Nat, k ≤ n ∧ i = .int .i64 k ∧ Hid (MOwn wr w.heap.size u (lowS f q (ss.take k))) ∧ Hid (MOwn wr w.heap.size v (highS f q (ss.take k))) ∧ Hid (Apart u v) ∧ Below w.heap.size w wr) (fun _ _ i _ => n - (intOf i).toNat)
  case atStart => exact ⟨0, Nat.zero_le _, rfl, hide (MOwn.nil_ _ _), hide (MOwn.nil_ _ _), hide (Apart.nil_ _ _ _), Below.refl _ _⟩
  case round =>
    obtain ⟨k, hk, rfl, HO, HP, HA, hbel⟩ := hrel
    have hsz := hbel.size
    by_cases hlt : k < n
    · obtain ⟨b, o, s, rfl, _, hx, c0, c1, hok⟩ := (h.below hbel).get hlt
      have HN := hide (lowS_next (f := f) (c := q) hx)
      have HM := hide (highS_next (f := f) (c := q) hx)
      have hfl := unhide HF s (List.mem_of_getElem? hx)
      have hrd := hok.reads
      obtain ⟨sA, sn, sc, sr, st⟩ := s
      dsimp only at c0 c1 HN HM hfl hrd
      rw [hrd.len] at hfl
      obtain ⟨rb, ro, x, rfl, hrb, hrx, crx⟩ := hrd.get hfl
      have HX : Hid (cellS f ⟨some ⟨rb, ro, none⟩, sn, sc, sr, st⟩ = x) := hide (by unfold cellS; rw [List.getD_eq_getElem?_getD, hrx]; rfl)
      obtain ⟨La, hLa⟩ : ∃ La, La = lowS f q (ss.take k) := ⟨_, rfl⟩
      obtain ⟨Lb, hLb⟩ : ∃ Lb, Lb = highS f q (ss.take k) := ⟨_, rfl⟩
      have hal : La.length ≤ k := by rw [hLa]; exact Nat.le_trans (List.length_filter_le _ _) (List.length_take_le _ _)
      have hbl : Lb.length ≤ k := by rw [hLb]; exact Nat.le_trans (List.length_filter_le _ _) (List.length_take_le _ _)
      rw [← hLa] at HN HO
      rw [← hLb] at HM HP
      have hl1 : sn ≤ maxLen := hok.len
      unfold maxLen at hl1
      have hbA := hbel.alloc hsz (.cells #[.slice (some ⟨rb, ro, none⟩) sn sc, .int .i64 st] 40)
      have hcx : (wr.alloc (.cells #[.slice (some ⟨rb, ro, none⟩) sn sc, .int .i64 st] 40)).cell? ⟨rb, ro + f, none⟩ = some (.int .i64 x) := (World.cell?_alloc_lt wr _ _ (by show rb < _; omega)).trans crx
      have bS := Blk.new wr 40 #[.slice (some ⟨rb, ro, none⟩) sn sc, .int .i64 st]
      have e0 := bS.cell 0
      have e1 := bS.cell 1
      simp at e0 e1
      have hOA : (wr.alloc (.cells #[.slice (some ⟨rb, ro, none⟩) sn sc, .int .i64 st] 40)).ownsRow w.heap.size 40 2 _ La.length (La.flatMap Sm.cells) := World.ownsRow.alloc (unhide HO) _
      have hPA : (wr.alloc (.cells #[.slice (some ⟨rb, ro, none⟩) sn sc, .int .i64 st] 40)).ownsRow w.heap.size 40 2 _ Lb.length (Lb.flatMap Sm.cells) := World.ownsRow.alloc (unhide HP) _
      have hap := unhide HA
      have hwz : w.heap.size ≤ (wr.alloc (.cells #[.slice (some ⟨rb, ro, none⟩) sn sc, .int .i64 st] 40)).heap.size := by rw [World.size_alloc]; omega
      clear hx hok hrd hrx hLa hLb crx HO HP HA
      by_cases hlo : x < q
      · have HN2 : Hid (lowS f q (ss.take (k + 1)) = La ++ [⟨some ⟨rb, ro, none⟩, sn, sc, sr, st⟩]) := hide (by rw [unhide HN, unhide HX, if_pos hlo])
        have HM2 : Hid (highS f q (ss.take (k + 1)) = Lb) := hide (by rw [unhide HM, unhide HX, if_pos hlo, List.append_nil])
        have d1 : decide (x < q) = true := decide_eq_true hlo
        clear HN HM HX hlo
        go_wp2_with (at_builtin; refine app_one2 elem_smp (.tmp 23) (.tmp 25) [.slice (some ⟨rb, ro, none⟩) sn sc, .int .i64 st] rfl rfl rfl hOA rfl (World.size_alloc _ _) rfl (smp_one _ _ _ _) (by omega) hwz ?_; intro v2 w2 hown2 hb2 hn2 hg2)
        go_wp2_with fail
        go_roundw
        case rel => exact ⟨k + 1, by omega, by go_num, hide (by rw [unhide HN2]; exact MOwn.app (s := ⟨some ⟨rb, ro, none⟩, sn, sc, sr, st⟩) hown2), hide (by rw [unhide HM2]; exact (own_aside hPA hOA hap.symm hn2 hg2).1), hide (own_aside hPA hOA hap.symm hn2 hg2).2.symm, hbA.trans hb2⟩
        case measure => simp [intOf] <;> omega
      · have HN2 : Hid (lowS f q (ss.take (k + 1)) = La) := hide (by rw [unhide HN, unhide HX, if_neg hlo, List.append_nil])
        have HM2 : Hid (highS f q (ss.take (k + 1)) = Lb ++ [⟨some ⟨rb, ro, none⟩, sn, sc, sr, st⟩]) := hide (by rw [unhide HM, unhide HX, if_neg hlo])
        have d1 : decide (x < q) = false := decide_eq_false hlo
        clear HN HM HX hlo
        go_wp2_with (at_builtin; refine app_one2 elem_smp (.tmp 27) (.tmp 29) [.slice (some ⟨rb, ro, none⟩) sn sc, .int .i64 st] rfl rfl rfl hPA rfl (World.size_alloc _ _) rfl (smp_one _ _ _ _) (by omega) hwz ?_; intro v2 w2 hown2 hb2 hn2 hg2)
        go_wp2_with fail
        go_roundw
        case rel => exact ⟨k + 1, by omega, by go_num, hide (by rw [unhide HN2]; exact (own_aside hOA hPA hap hn2 hg2).1), hide (by rw [unhide HM2]; exact MOwn.app (s := ⟨some ⟨rb, ro, none⟩, sn, sc, sr, st⟩) hown2), hide (own_aside hOA hPA hap hn2 hg2).2, hbA.trans hb2⟩
        case measure => simp [intOf] <;> omega
    · obtain rfl : k = n := by omega
      rw [unhide HT] at HO HP
      obtain ⟨A1, d1, rfl, hr1, _⟩ := (unhide HO).slice
      obtain ⟨A2, d2, rfl, hr2, _⟩ := (unhide HP).slice
      go_wp2_with fail
      go_ret2
      refine ⟨A1, d1, A2, d2, rfl, ⟨unhide HO, hr1, fun s hs => ?_⟩, ⟨unhide HP, hr2, fun s hs => ?_⟩, hbel⟩
      · exact ((h.2 s (lowS_mem hs).1).below hbel).more hbel.size
      · exact ((h.2 s (highS_mem hs).1).below hbel).more hbel.size

/-- samples that stay as they are, whatever becomes of a row -/
def MKept (w : World) (v : Value) (A : Option Addr) (n : Nat) (ss : List Sm) : Prop := ∀ w', w.grownBy w' v.ownBlock → MReads w' w'.heap.size A n ss
def OwnNext (w : World) (v v' : Value) : Prop := v'.ownBlock = v.ownBlock ∨ ∃ q, v'.ownBlock = some q ∧ w.heap.size ≤ q
theorem grown_next {w w1 w2 : World} {v v1 : Value} (h1 : w.grownBy w1 v.ownBlock) (hn : OwnNext w v v1) (h2 : w1.grownBy w2 v1.ownBlock) : w.grownBy w2 v.ownBlock :=
  ⟨h2.os.trans h1.os, h2.tape.trans h1.tape, h2.output.trans h1.output, Nat.le_trans h1.size h2.size, fun i hi hne => by
    have hs := h1.size
    rw [h2.block i (by omega) ?_, h1.block i hi hne]
    rcases hn with e | ⟨q, e, hq⟩
    · rw [e]; exact hne
    · rw [e]; intro e'; injection e' with e'; omega⟩
theorem OwnNext.refl (w : World) (v : Value) : OwnNext w v v := .inl rfl
theorem OwnNext.trans {w w1 : World} {v v1 v2 : Value} (h : OwnNext w v v1) (hs : w.heap.size ≤ w1.heap.size) (k : OwnNext w1 v1 v2) : OwnNext w v v2 := by
  rcases k with e | ⟨q, e, hq⟩
  · rcases h with e1 | ⟨p, e1, hp⟩
    · exact .inl (e.trans e1)
    · exact .inr ⟨p, e.trans e1, hp⟩
  · exact .inr ⟨q, e, Nat.le_trans hs hq⟩
theorem MKept.next {w w1 : World} {v v1 : Value} {A : Option Addr} {n : Nat} {ss : List Sm} (h : MKept w v A n ss) (h1 : w.grownBy w1 v.ownBlock) (hn : OwnNext w v v1) : MKept w1 v1 A n ss := fun w2 h2 => h w2 (grown_next h1 hn h2)
theorem MKept.now {w : World} {v : Value} {A : Option Addr} {n : Nat} {ss : List Sm} (h : MKept w v A n ss) : MReads w w.heap.size A n ss := h w (World.grownBy.refl _ _)
/-- samples that were made behind a row stay so -/
theorem MKept.made {w w1 : World} {v : Value} {A : Option Addr} {c : Nat} {ss a : List Sm} {base : Nat} {xs : List Value} {e : TypeId} {size q : Nat} {A0 : Option Addr} {n0 : Nat} (hv : w.ownsRow base e size v q xs) (h : MKept w v A0 n0 ss) (hb : Below w.heap.size w w1) (ho : MOwn w1 w.heap.size (.slice A a.length c) a) (hm : ∀ s ∈ a, s ∈ ss) : MKept w1 v A a.length a := by
  intro w2 h2
  have hk : w2.ownsRow w.heap.size 40 2 (.slice A a.length c) a.length (a.flatMap Sm.cells) := by
    refine World.ownsRow.kept ho h2 ?_
    rcases hk : (Value.slice A a.length c).ownBlock with _ | k
    · exact .inl rfl
    · refine .inr fun e => ?_
      have h3 := own_block_ge ho k hk
      have h4 := (hv.lt k e.symm).2
      omega
  refine ⟨?_, fun s hs => ?_⟩
  · have := MOwn.slice hk
    obtain ⟨A', c', e', hr, _⟩ := this
    injection e' with e1 _ _
    rw [e1]; exact hr
  · exact (h w2 (grown_next (only_of_below hb _) (OwnNext.refl _ _) h2)).2 s (hm s hs)
end Go.Proofs.YtdpijhnbhopnbaaGreatDoor
/- Package grow: Check, Least. Conditions: samples that read as data. -/
namespace Go.Proofs.YtdpijhnbhopnbaaGreatDoor
set_option linter.unusedVariables false
set_option linter.unusedSimpArgs false
open Go.RowKit

theorem containsI_any (A : Option Addr) (n c B : Nat) (l : List Int) (x : Int) (w : World) (h : IReads w B A n l) (hn : n ≤ maxLen) :
    Calls Tryz.prog 38 #[.slice A n c, .int .i64 x] w fun e w' => e = .returned (.bool (decide (x ∈ l))) ∧ w' = w := by
  have hl := h.len
  unfold maxLen at hn
  rcases Nat.eq_zero_or_pos n with h0 | h0
  · subst h0
    have : l = [] := List.length_eq_zero_iff.1 hl
    subst this
    refine (Tryz.slices_Contains_int_empty A c x w).mono ?_
    rintro e w' ⟨rfl, rfl⟩
    exact ⟨rfl, rfl⟩
  · obtain ⟨b, off, rfl, hb, hc⟩ := Reads.spot h (by omega) (by omega)
    refine (Tryz.slices_Contains_int b off n c l x w (by omega) (by omega) (fun j hj => ?_)).mono ?_
    · refine hc j _ ?_
      rw [List.getElem?_map, List.getElem?_eq_getElem hj, List.getD_eq_getElem?_getD, List.getElem?_eq_getElem hj]
      rfl
    · rintro e w' ⟨rfl, rfl⟩
      refine ⟨?_, rfl⟩
      rw [List.take_of_length_le (by omega)]
      congr 2
      rw [Bool.eq_iff_iff]
      simp


def MCheckPost (ss : List Sm) (fe : Int) (w : World) (e : Ending) (w' : World) : Prop := e = .returned (.tuple #[.int .i64 ((sampC ss fe).1 : Nat), errV (sampE ss fe)]) ∧ Below w.heap.size w w'
theorem mcheckPost_at {ss : List Sm} {fe : Int} {w : World} {k : Nat} {x : Int} (h : sampC ss fe = (k, x)) : MCheckPost ss fe w = fun e w' => e = .returned (.tuple #[.int .i64 (k : Nat), errV x]) ∧ Below w.heap.size w w' := by
  funext e w'
  unfold MCheckPost sampE
  rw [h]

set_option maxRecDepth 100000 in
set_option maxHeartbeats 4000000 in
theorem gCheck_any (A : Option Addr) (n c : Nat) (fe : Int) (ss : List Sm) (w : World) (h : MReads w w.heap.size A n ss) (hn : n ≤ maxLen) :
    Calls Tryz.prog 19 #[.slice A n c, .int .i64 fe] w (MCheckPost ss fe w) := by
  have hlen := h.len
  unfold maxLen at hn
  by_cases h1 : 60 < n
  · rw [mcheckPost_at (k := 0) (x := 4) (by unfold sampC; rw [if_pos (by omega)])]
    have d1 : decide (60 < n) = true := decide_eq_true h1
    have d1' : decide ((60 : Int) < (n : Int)) = true := decide_eq_true (by omega)
    clear hlen h1
    go_enter Tryz.func19, Tryz.ntmps19
    go_wp2_with fail
    go_ret2
    exact ⟨rfl, Below.refl _ _⟩
  have d1 : decide (60 < n) = false := decide_eq_false h1
  have d1' : decide ((60 : Int) < (n : Int)) = false := decide_eq_false (by omega)
  by_cases h2 : n = 0
  · rw [mcheckPost_at (k := 0) (x := 5) (by unfold sampC; rw [if_neg (by omega), if_pos (by omega)])]
    have d2 : ((n : Int) == 0) = true := by simp [h2]
    clear hlen h1 h2
    go_enter Tryz.func19, Tryz.ntmps19
    go_wp2_with fail
    go_ret2
    exact ⟨rfl, Below.refl _ _⟩
  have d2 : ((n : Int) == 0) = false := by simp; omega
  by_cases h3 : fe < 0
  · rw [mcheckPost_at (k := 0) (x := 1) (by unfold sampC; rw [if_neg (by omega), if_neg (by omega), if_pos h3])]
    have d3 : decide (fe < 0) = true := decide_eq_true h3
    clear hlen h1 h2
    go_enter Tryz.func19, Tryz.ntmps19
    go_wp2_with fail
    go_ret2
    exact ⟨rfl, Below.refl _ _⟩
  have d3 : decide (fe < 0) = false := decide_eq_false h3
  by_cases h4 : 8 < fe
  · rw [mcheckPost_at (k := 0) (x := 1) (by unfold sampC; rw [if_neg (by omega), if_neg (by omega), if_neg h3, if_pos h4])]
    have d4 : decide (8 < fe) = true := decide_eq_true h4
    clear hlen h1 h2
    go_enter Tryz.func19, Tryz.ntmps19
    go_wp2_with fail
    go_ret2
    exact ⟨rfl, Below.refl _ _⟩
  have d4 : decide (8 < fe) = false := decide_eq_false h4
  have HE : Hid (sampC ss fe = badS fe 0 (ss.drop 0)) := hide (by unfold sampC; rw [if_neg (by omega), if_neg (by omega), if_neg h3, if_neg h4, List.drop_zero])
  have HL := hide hlen
  have hn60 : n ≤ 60 := by omega
  clear hlen h1 h2 h3 h4
  go_enter Tryz.func19, Tryz.ntmps19
  go_wp2_with fail
  clear d1 d1' d2 d3 d4
  go_loopw [29] (fun i wr => ∃ k : Nat, k ≤ n ∧ i = .int .i64 k ∧ Hid (sampC ss fe = badS fe k (ss.drop k)) ∧ Below w.heap.size w wr) (fun i _ => n - (intOf i).toNat)
  case atStart => exact ⟨0, Nat.zero_le _, rfl, HE, Below.refl _ _⟩
  case round =>
    clear HE
    obtain ⟨k, hk, rfl, HE, hbel⟩ := hrel
    have hsz := hbel.size
    by_cases hlt : k < n
    · obtain ⟨b, o, s, rfl, _, hx, c0, c1, hok⟩ := (h.below hbel).get hlt
      have HD := hide (badS_drop (fe := fe) hx)
      obtain ⟨sA, sn, sc, sr, st⟩ := s
      have hrd := hok.reads
      have hsn := hok.len
      dsimp only at c0 c1 HD hrd hsn
      have hsl := hrd.len
      have hbA := hbel.alloc hsz (.cells #[.slice sA sn sc, .int .i64 st] 40)
      have HRA : Hid (∀ q, IReads ((wr.alloc (.cells #[.slice sA sn sc, .int .i64 st] 40)).drewN q) w.heap.size sA sn sr) := hide (fun q => (Reads.alloc hrd hsz _).drewN q)
      have hRC := hide (rowCheck_any sA sn sc sr (wr.alloc (.cells #[.slice sA sn sc, .int .i64 st] 40)) _ (unhide HRA 0) hsn)
      have hCO := hide (containsI_any sA sn sc w.heap.size sr (-1125899906842624) (wr.alloc (.cells #[.slice sA sn sc, .int .i64 st] 40)) (unhide HRA 0) hsn)
      unfold maxLen at hsn
      by_cases e0 : rowE sr = 0
      case neg =>
        have HZ : Hid (sampC ss fe = (k, rowE sr)) := hide (by
          have : oneE fe ⟨sA, sn, sc, sr, st⟩ = rowE sr := by unfold oneE; rw [if_neg e0]
          rw [unhide HE, unhide HD, this, if_neg e0])
        have hv := errV_1 e0
        have HV := hide hv
        clear hx hok HE HD e0 HRA hCO
        go_wp2_with fail
        refine (unhide hRC).mono ?_
        rintro e w2 ⟨rfl, rfl⟩
        rw [hv]
        clear hv hRC
        go_wp2_with fail
        go_ret2
        rw [mcheckPost_at (unhide HZ), unhide HV]
        exact ⟨rfl, hbA⟩
      have hv := errV_0 e0
      by_cases e1 : st < -1000
      · have HZ : Hid (sampC ss fe = (k, 1)) := hide (by
          have : oneE fe ⟨sA, sn, sc, sr, st⟩ = 1 := by unfold oneE; rw [if_pos e0, if_pos e1]
          rw [unhide HE, unhide HD, this, if_neg (by decide)])
        have q1 : decide (st < -1000) = true := decide_eq_true e1
        clear hx hok HE HD e0 HRA hCO e1
        go_wp2_with fail
        refine (unhide hRC).mono ?_
        rintro e w2 ⟨rfl, rfl⟩
        rw [hv]
        clear hv hRC
        go_wp2_with fail
        go_ret2
        rw [mcheckPost_at (unhide HZ)]
        exact ⟨rfl, hbA⟩
      have q1 : decide (st < -1000) = false := decide_eq_false e1
      by_cases e2 : 1000 < st
      · have HZ : Hid (sampC ss fe = (k, 1)) := hide (by
          have : oneE fe ⟨sA, sn, sc, sr, st⟩ = 1 := by unfold oneE; rw [if_pos e0, if_neg e1, if_pos e2]
          rw [unhide HE, unhide HD, this, if_neg (by decide)])
        have q2 : decide (1000 < st) = true := decide_eq_true e2
        clear hx hok HE HD e0 HRA hCO e1 e2
        go_wp2_with fail
        refine (unhide hRC).mono ?_
        rintro e w2 ⟨rfl, rfl⟩
        rw [hv]
        clear hv hRC
        go_wp2_with fail
        go_ret2
        rw [mcheckPost_at (unhide HZ)]
        exact ⟨rfl, hbA⟩
      have q2 : decide (1000 < st) = false := decide_eq_false e2
      by_cases e3 : (sn : Int) = fe
      case neg =>
        have HZ : Hid (sampC ss fe = (k, 3)) := hide (by
          have : oneE fe ⟨sA, sn, sc, sr, st⟩ = 3 := by unfold oneE; rw [if_pos e0, if_neg e1, if_neg e2, if_neg (by dsimp only; rw [hsl]; exact e3)]
          rw [unhide HE, unhide HD, this, if_neg (by decide)])
        have q3 : ((sn : Int) != fe) = true := by simpa using e3
        clear hx hok HE HD e0 HRA hCO e1 e2 e3 hsl
        go_wp2_with fail
        refine (unhide hRC).mono ?_
        rintro e w2 ⟨rfl, rfl⟩
        rw [hv]
        clear hv hRC
        go_wp2_with fail
        go_ret2
        rw [mcheckPost_at (unhide HZ)]
        exact ⟨rfl, hbA⟩
      have q3 : ((sn : Int) != fe) = false := by simpa using e3
      by_cases e4 : nilC ∈ sr
      · have HZ : Hid (sampC ss fe = (k, 5)) := hide (by
          have : oneE fe ⟨sA, sn, sc, sr, st⟩ = 5 := by unfold oneE; rw [if_pos e0, if_neg e1, if_neg e2, if_pos (by dsimp only; rw [hsl]; exact e3), if_pos e4]
          rw [unhide HE, unhide HD, this, if_neg (by decide)])
        have q4 : decide ((-1125899906842624 : Int) ∈ sr) = true := decide_eq_true e4
        clear hx hok HE HD e0 HRA e1 e2 e3 e4 hsl
        go_wp2_with fail
        refine (unhide hRC).mono ?_
        rintro e w2 ⟨rfl, rfl⟩
        rw [hv]
        clear hv hRC
        go_wp2_with fail
        refine (unhide hCO).mono ?_
        rintro e w2 ⟨rfl, rfl⟩
        rw [q4]
        clear hCO q4
        go_wp2_with fail
        go_ret2
        rw [mcheckPost_at (unhide HZ)]
        exact ⟨rfl, hbA⟩
      · have HZ : Hid (sampC ss fe = badS fe (k + 1) (ss.drop (k + 1))) := hide (by
          have : oneE fe ⟨sA, sn, sc, sr, st⟩ = 0 := by unfold oneE; rw [if_pos e0, if_neg e1, if_neg e2, if_pos (by dsimp only; rw [hsl]; exact e3), if_neg e4]
          rw [unhide HE, unhide HD, this, if_pos rfl])
        have q4 : decide ((-1125899906842624 : Int) ∈ sr) = false := decide_eq_false e4
        clear hx hok HE HD e0 HRA e1 e2 e3 e4 hsl
        go_wp2_with fail
        refine (unhide hRC).mono ?_
        rintro e w2 ⟨rfl, rfl⟩
        rw [hv]
        clear hv hRC
        go_wp2_with fail
        refine (unhide hCO).mono ?_
        rintro e w2 ⟨rfl, rfl⟩
        rw [q4]
        clear hCO q4
        go_wp2_with fail
        go_roundw
        case rel => exact ⟨k + 1, by omega, by go_num, HZ, hbA⟩
        case measure => simp [intOf]; omega
    · have HZ : Hid (sampC ss fe = (0, 0)) := hide (by rw [unhide HE, List.drop_eq_nil_of_le (by rw [unhide HL]; omega)]; rfl)
      go_wp2_with fail
      go_ret2
      rw [mcheckPost_at (unhide HZ)]
      exact ⟨rfl, hbel⟩
end Go.Proofs.YtdpijhnbhopnbaaGreatDoor
/- cut.Merge and cut.Bin, with slices.Grow, Concat and Compact at ints. Conditions: as each lemma names. -/
namespace Go.Proofs.YtdpijhnbhopnbaaGreatDoor
set_option linter.unusedVariables false
set_option linter.unusedSimpArgs false
open Go.RowKit

/-- append of a list of ints onto a row of the call's own -/
theorem IOwn.app {w w' : World} {base : Nat} {v' : Value} {l m : List Int} (h : w'.ownsRow base 3 1 v' (l.length + m.length) (l.map (Value.int .i64) ++ m.map (Value.int .i64))) : IOwn w' base v' (l ++ m) := by
  unfold IOwn; rw [List.length_append, List.map_append]; exact h

theorem compactL_len (l : List Int) : (compactL l).length ≤ l.length := Lib.compact_length_le l
set_option maxRecDepth 100000 in
theorem compact_any (v : Value) (l : List Int) (base : Nat) (w : World) (h : IOwn w base v l) (hB : base ≤ w.heap.size) (hn : l.length ≤ 100000000) :
    Calls Tryz.prog 59 #[v] w fun e w' => ∃ v', e = .returned v' ∧ IOwn w' base v' (compactL l) ∧ Below base w w' := by
  rcases h.2 with ⟨rfl, h0⟩ | ⟨g, cap, cur, rfl, hg, hh, h1, h2, h3, h4⟩
  · have : l = [] := List.length_eq_zero_iff.1 h0
    subst this
    refine (Tryz.slices_Compact_int_empty none 0 w).mono ?_
    rintro e w' ⟨rfl, rfl⟩
    exact ⟨_, rfl, by rw [show compactL [] = [] from rfl]; exact IOwn.nil_ _ _, Below.refl _ _⟩
  · have hlt : g < w.heap.size := (Array.getElem?_eq_some_iff.1 hh).1
    refine (Tryz.slices_Compact_int g 0 cap l w (holds_of_blockI hh (by simpa using h4)) (by omega) h1).mono ?_
    rintro e w' ⟨rfl, q, rfl⟩
    have hcl := compactL_len l
    have hgr : w.grownBy _ (some g) := grownBy_sortedI (w := w) (n := q) (os := #[]) (Lib.compact l ++ List.replicate (l.length - (Lib.compact l).length) 0).toArray
    have ho := ownsRow_sortedI (w := w) (n := q) (os := #[]) (ss := l) (ts := Lib.compact l ++ List.replicate (l.length - (Lib.compact l).length) 0) (by unfold compactL at hcl; simp; omega) hg hh h1 h2 (by simpa using h3)
    rw [Go.Sort.grow_empty] at hgr ho
    refine ⟨_, rfl, ?_, (Below.refl base w).grown hgr hB (fun k e => by cases e; exact hg)⟩
    rcases ho.2 with ⟨e, _⟩ | ⟨g', cap', cur', e, hg', hh', h1', h2', h3', h4'⟩
    · cases e
    · injection e with e1 e2 e3
      injection e1 with e1
      injection e1 with e1
      subst e1
      subst e3
      refine ⟨by simp [compactL], .inr ⟨g, cap, cur', rfl, hg', hh', by unfold compactL at hcl; unfold compactL; omega, h2', h3', ?_⟩⟩
      have := congrArg (List.take (compactL l).length) h4'
      rw [List.take_take, List.map_append] at this
      rw [show min (compactL l).length (l.length * 1) = (compactL l).length * 1 by omega] at this
      rw [this, List.take_append_of_le_length (by simp [compactL])]
      exact List.take_of_length_le (by simp [compactL])
end Go.Proofs.YtdpijhnbhopnbaaGreatDoor
