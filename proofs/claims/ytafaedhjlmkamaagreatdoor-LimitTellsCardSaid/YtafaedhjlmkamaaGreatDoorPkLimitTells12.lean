/- Part 12 of what LawLimitTells needs: Ints, Reach, Reach2, Witness. Conditions: as each lemma names. -/
import Derived.Test.YtafaedhjlmkamaaGreatDoorPkLimitTells02
import Derived.Test.YtafaedhjlmkamaaGreatDoorPkLimitTells11
import Derived.Test.YtafaedhjlmkamaaGreatDoorShelf
import Derived.Sort.OwnSortedInts
import Derived.Lib.SliceRun
import Derived.Test.YtafaedhjlmkamaaGreatDoorPkLimitTells10
import Derived.Test.YtafaedhjlmkamaaGreatDoorPkLimitTells09
/- Rows of ints of the call's own: slices.Clone, slices.Sort and slices.Compact at them, by the shelf's contracts. Conditions: as each lemma names. -/
namespace Go.Proofs.YtafaedhjlmkamaaGreatDoor
set_option linter.unusedVariables false
set_option linter.unusedSimpArgs false
open Go.RowKit

theorem ints_one (l : List Int) : ∀ u ∈ l.map (Value.int .i64), u.oneCell' = true := by
  intro u hu
  obtain ⟨x, _, rfl⟩ := List.mem_map.1 hu
  rfl

/-- a row of ints of the call's own -/
def IOwn (w : World) (base : Nat) (v : Value) (l : List Int) : Prop := w.ownsRow base 3 1 v l.length (l.map (Value.int .i64))
theorem IOwn.nil_ (w : World) (base : Nat) : IOwn w base (.slice none 0 0) [] := World.ownsRow_nil _ _ _ _
theorem IOwn.slice_ {w : World} {base : Nat} {v : Value} {l : List Int} (h : IOwn w base v l) : ∃ A c, v = .slice A l.length c ∧ IReads w w.heap.size A l.length l ∧ l.length ≤ maxLen ∧ l.length ≤ c ∧ (A = none → c = 0) := by
  rcases h.2 with ⟨rfl, h0⟩ | ⟨g, cap, cur, rfl, _, _, h1, h2, _⟩
  · rw [h0]
    exact ⟨none, 0, rfl, ⟨by rw [h.1, h0], fun h => absurd h (by omega)⟩, Nat.zero_le _, Nat.le_refl _, fun _ => rfl⟩
  · exact ⟨_, _, rfl, Reads.of_own h, Nat.le_trans h1 h2, h1, fun h => by cases h⟩
theorem own_cap {w : World} {base n c : Nat} {A : Option Addr} {l : List Int} (h : IOwn w base (.slice A n c) l) : c ≤ maxLen := by
  rcases h.2 with ⟨e, _⟩ | ⟨g, cap, cur, e, _, _, h1, h2, _⟩
  · injection e with _ _ e3; omega
  · injection e with _ _ e3; omega
/-- owned rows over a call that leaves all below a bound -/
theorem IOwn.below {w w' : World} {base B : Nat} {v : Value} {l : List Int} (h : IOwn w base v l) (hb : Below B w w') (hB : w.heap.size ≤ B) : IOwn w' base v l := by
  rcases h.2 with ⟨rfl, h0⟩ | ⟨g, cap, cur, rfl, hg, hh, h1⟩
  · have : l = [] := List.length_eq_zero_iff.1 h0
    subst this; exact IOwn.nil_ _ _
  · have hlt : g < w.heap.size := (Array.getElem?_eq_some_iff.1 hh).1
    exact ⟨h.1, .inr ⟨g, cap, cur, rfl, hg, (hb.block g (by omega)).trans hh, h1⟩⟩
theorem IOwn.low {w : World} {base base' : Nat} {v : Value} {l : List Int} (h : IOwn w base v l) (hb : base' ≤ base) : IOwn w base' v l := by
  rcases h.2 with ⟨rfl, h0⟩ | ⟨g, cap, cur, rfl, hg, h1⟩
  · have : l = [] := List.length_eq_zero_iff.1 h0
    subst this; exact IOwn.nil_ _ _
  · exact ⟨h.1, .inr ⟨g, cap, cur, rfl, by omega, h1⟩⟩

theorem IReads.take_ {w : World} {B n m : Nat} {A : Option Addr} {l : List Int} (h : IReads w B A n l) (hm : m ≤ n) : IReads w B A m (l.take m) := by
  have hl := h.len
  refine ⟨by simp; omega, fun h0 => ?_⟩
  obtain ⟨ad, e, hb, hc⟩ := h.2 (by omega)
  refine ⟨ad, e, hb, fun j u hu => hc j u ?_⟩
  rw [List.map_take] at hu
  rw [List.getElem?_take] at hu
  split at hu
  · exact hu
  · cases hu
theorem IOwn.at_ {w : World} {base n cap : Nat} {A : Option Addr} {l : List Int} (h : IOwn w base (.slice A n cap) l) (hl : l.length = n) {k : Nat} {x : Int} (hx : l[k]? = some x) :
    ∃ g, A = some ⟨g, 0, none⟩ ∧ base ≤ g ∧ g < w.heap.size ∧ w.cell? ⟨g, k, none⟩ = some (.int .i64 x) ∧ w.frozen? ⟨g, k, none⟩ = false := by
  unfold IOwn at h
  rw [hl] at h
  have hk : k < n := by rw [← hl]; exact (List.getElem?_eq_some_iff.1 hx).1
  rcases h.2 with ⟨e, h0⟩ | ⟨g, cap', cur, e, hg, hh, _⟩
  · omega
  · injection e with e1 e2 e3
    subst e1
    exact ⟨g, rfl, hg, (Array.getElem?_eq_some_iff.1 hh).1, by rw [h.cellAt k (by omega)]; simp [hx], h.frozenAt k⟩
theorem IOwn.stored {w : World} {base n cap g : Nat} {l : List Int} (h : IOwn w base (.slice (some ⟨g, 0, none⟩) n cap) l) (hl : l.length = n) (k : Nat) (x : Int) :
    IOwn (w.setCell ⟨g, k, none⟩ (.int .i64 x)) base (.slice (some ⟨g, 0, none⟩) n cap) (l.set k x) := by
  unfold IOwn at h ⊢
  rw [List.length_set]
  rw [hl] at h ⊢
  have := (h.stored k (.int .i64 x)).1
  rwa [← List.map_set] at this
theorem IOwn.alloc {w : World} {base : Nat} {v : Value} {l : List Int} (h : IOwn w base v l) (o : Obj) : IOwn (w.alloc o) base v l := World.ownsRow.alloc h o
theorem IOwn.drew {w : World} {base : Nat} {v : Value} {l : List Int} (h : IOwn w base v l) : IOwn w.drew base v l := h

/-- what makes a row of ints -/
def IPost (l : List Int) (w : World) (e : Ending) (w' : World) : Prop := ∃ v, e = .returned v ∧ IOwn w' w.heap.size v l ∧ Below w.heap.size w w'

set_option maxRecDepth 100000 in
theorem cloneI_any (A : Option Addr) (n c B : Nat) (l : List Int) (w : World) (hr : IReads w B A n l) (hB : B ≤ w.heap.size) (hn : n ≤ 100000000) (hA : A = none → c = 0) :
    Calls Tryz.prog 36 #[.slice A n c] w (IPost l w) := by
  have hl := hr.len
  rcases A with _ | a
  · have hn0 : n = 0 := by
      rcases Nat.eq_zero_or_pos n with h | h
      · exact h
      · obtain ⟨_, _, e, _⟩ := Reads.spot hr h (by omega); cases e
    obtain rfl := hA rfl
    subst hn0
    obtain rfl : l = [] := List.eq_nil_of_length_eq_zero hl
    have hq := fun (W : World) => Lib.run_eql_slice_nil (P := Tryz.prog) W 24 3 none 0 0 0 0 Tryz.underlying24
    go_enter Tryz.func36, Tryz.ntmps36
    go_wp2_with fail
    go_ret
    exact ⟨_, rfl, IOwn.nil_ _ _, Below.refl _ _⟩
  · have hq := fun (W : World) => Lib.run_eql_slice_nil (P := Tryz.prog) W 24 3 (some a) n c 0 0 Tryz.underlying24
    have hown0 := own_new (w := w) (B := w.heap.size) [] 3 1 0 rfl (by decide) (Nat.le_refl _)
    have hra := Reads.alloc hr hB (.cells #[] 3)
    go_enter Tryz.func36, Tryz.ntmps36
    go_wp2_with (at_builtin; refine app_many elem_int (.tmp 5) (.tmp 6) rfl rfl rfl hown0 rfl hra (ints_one l) (by omega) (by rw [World.size_alloc]; omega) ?_; intro v2 w2 hown2 hb2 _)
    go_ret
    refine ⟨v2, rfl, ?_, ((Below.refl _ _).alloc (Nat.le_refl _) _).trans hb2⟩
    unfold IOwn; rw [hl]; simpa using hown2

theorem sort_any (v : Value) (l : List Int) (base : Nat) (w : World) (h : IOwn w base v l) (hB : base ≤ w.heap.size) (hn : l.length ≤ 100000000) :
    Calls Tryz.prog 34 #[v] w fun e w' => e = .returned (.tuple #[]) ∧ IOwn w' base v (sortL l) ∧ w.grownBy w' v.ownBlock ∧ Below base w w' := by
  rcases h.2 with ⟨rfl, h0⟩ | ⟨g, cap, cur, rfl, hg, hh, h1, h2, h3, h4⟩
  · have : l = [] := List.length_eq_zero_iff.1 h0
    subst this
    refine (Tryz.slices_Sort_int_none none 0 w).mono ?_
    rintro e w' ⟨rfl, rfl⟩
    exact ⟨rfl, by rw [show sortL [] = [] by simp [sortL]]; exact IOwn.nil_ _ _, World.grownBy.refl _ _, Below.refl _ _⟩
  · have hlt : g < w.heap.size := (Array.getElem?_eq_some_iff.1 hh).1
    refine (Tryz.slices_Sort_int g 0 cap l w (holds_of_blockI hh (by simpa using h4)) hlt (by omega)).mono ?_
    rintro e w' ⟨rfl, n, os, rfl⟩
    have hgr : w.grownBy _ (some g) := grownBy_sortedI (w := w) (n := n) (os := os) (sortL l).toArray
    refine ⟨rfl, ?_, hgr, (Below.refl base w).grown hgr hB (fun k e => by cases e; exact hg)⟩
    have := ownsRow_sortedI (w := w) (n := n) (os := os) (ss := l) (ts := sortL l) (sortL_len l) hg hh h1 h2 (by simpa using h3)
    unfold IOwn; rw [sortL_len]; exact this
end Go.Proofs.YtafaedhjlmkamaaGreatDoor
/- path.Region, path.Reach. Conditions: as each lemma names. -/
namespace Go.Proofs.YtafaedhjlmkamaaGreatDoor
set_option linter.unusedVariables false
set_option linter.unusedSimpArgs false
open Go.RowKit

/-! ### Region's listener -/
def RegT (go : Nat) : World → Nat → Prop := fun _ k => k = go
def RegOf (go n B0 : Nat) (w : World) (v : Value) : Option (List Sp) → Prop
  | none => v = .slice none 0 0
  | some l => ∃ A c, v = .slice A n c ∧ SReads w w.heap.size A n l ∧ Soft B0 w A ∧ (∀ a, A = some a → a.block ≠ go) ∧ l.length = n ∧ (A = none → c = 0)
def RegJ (go n leaf B0 : Nat) (pl : Addr) (ys : List (Nat × List Sp)) (w : World) : Prop := w.cell? pl = some (.int .i64 leaf) ∧ pl.block ≠ go ∧ ∃ v, Blk w go 23 #[v] ∧ RegOf go n B0 w v (lastAt ys leaf)
theorem reg_ear (go n leaf B0 : Nat) (pl : Addr) (h : B0 ≤ go) : Ear (RegT go) (RegJ go n leaf B0 pl) B0 :=
  ⟨fun pre w k hJ hk => by obtain ⟨_, _, v, hv, _⟩ := hJ; cases hk; exact ⟨hv.lt, h⟩, fun pre w w' hJ hb => by
    obtain ⟨h1, h2, v, hv, h3⟩ := hJ
    refine ⟨⟨(hb.cell (p := pl) (cell_lt h1)).trans h1, h2, v, hv.below hb hv.lt, ?_⟩, fun _ h => h⟩
    cases hl : lastAt pre leaf with
    | none => rw [hl] at h3; exact h3
    | some l =>
      rw [hl] at h3
      obtain ⟨A, c, e, hr, hs, hn, hl2, hc⟩ := h3
      exact ⟨A, c, e, (hr.below hb).more hb.size, hs.below hb, hn, hl2, hc⟩⟩
def regE (t : List Nd) (fe leaf : Int) : Int := if treeE t fe = 0 then (match t[leaf.toNat]? with
  | some x => if leaf < 0 then 1 else if x.f = -1 then 0 else 1
  | none => 1) else treeE t fe
def mixL (l : List Sp) (k : Nat) : List Sp := (l.take k).map fixS ++ l.drop k
theorem mixL_at {l : List Sp} {k : Nat} : (mixL l k)[k]? = l[k]? := by
  unfold mixL
  by_cases h : k ≤ l.length
  · rw [List.getElem?_append_right (by simp; omega), List.getElem?_drop]
    congr 1
    simp; omega
  · rw [List.getElem?_append_right (by simp; omega), List.getElem?_drop, List.getElem?_eq_none (by simp; omega), List.getElem?_eq_none (by omega)]
theorem mixL_next {l : List Sp} {k : Nat} {s : Sp} (h : l[k]? = some s) : (mixL l k).set k (fixS s) = mixL l (k + 1) := by
  have hk : k < l.length := (List.getElem?_eq_some_iff.1 h).1
  unfold mixL
  rw [take_next h, drop_at h, List.set_append_right _ _ (by simp; omega), List.map_append, List.append_assoc]
  congr 1
  simp
  rw [show k - min k l.length = 0 by omega]
  rfl
theorem mixL_keep {l : List Sp} {k : Nat} {s : Sp} (h : l[k]? = some s) (hs : fixS s = s) : mixL l (k + 1) = mixL l k := by
  rw [← mixL_next h, hs]
  refine List.ext_getElem? fun j => ?_
  rw [List.getElem?_set]
  split
  · rename_i e; subst e
    split
    · rw [mixL_at, h]
    · rename_i h2; rw [List.getElem?_eq_none (by omega)]
  · rfl
/-- what Region tells -/
def RegPost (t : List Nd) (fe leaf : Int) (w : World) (e : Ending) (w' : World) : Prop :=
  ∃ A n c l, e = .returned (.tuple #[.slice A n c, .bool (regE t fe leaf == 0 && anyB l), errV (regE t fe leaf)]) ∧ SReads w' w'.heap.size A n l ∧ (regE t fe leaf = 0 → (n : Int) = fe ∧ l = (regL t fe.toNat leaf.toNat).map fixS) ∧ (regE t fe leaf ≠ 0 → n = 0) ∧ Below w.heap.size w w'
theorem RegPost.fault {t : List Nd} {fe leaf : Int} {w w' : World} (h : regE t fe leaf ≠ 0) (hb : Below w.heap.size w w') : RegPost t fe leaf w (.returned (.tuple #[.slice none 0 0, .bool false, errV (regE t fe leaf)])) w' :=
  ⟨none, 0, 0, [], by rw [show (regE t fe leaf == 0) = false by simpa using h]; rfl, ⟨rfl, fun h => absurd h (by omega)⟩, fun h' => absurd h' h, fun _ => rfl, hb⟩

end Go.Proofs.YtafaedhjlmkamaaGreatDoor
/- path.Reach. Conditions: as each lemma names. -/
namespace Go.Proofs.YtafaedhjlmkamaaGreatDoor
set_option linter.unusedVariables false
set_option linter.unusedSimpArgs false
open Go.RowKit

/-- append of one element onto a row of the call's own: and where it lies -/
theorem app_one_at {P : Program} {T E : TypeId} {z : Value} {size bytes : Nat} (hE : Elem P T E z size bytes) {ops : Array Oper} {rest : List Oper} {o : Oper} {a : Act} {Q : Exit → Act → World → Prop} {wr : World}
    (s x : Operand) (cs : List Value) (hgd : o.guard = none) (ho : o.op = .call { callee := .builtin .append, args := #[s, x], argTypes := #[T, T] })
    {base : Nat} {v : Value} {n : Nat} {xs : List Value} (hs : a.eval s = v) (hown : wr.ownsRow base E size v n xs) {g : Nat} (hx : a.eval x = .slice (some ⟨g, 0, none⟩) 1 1) (hgs : wr.heap.size = g)
    (hcs : cs.length = size) (h1 : ∀ u ∈ cs, u.oneCell' = true) (hn : n < 1000000000) (hbase : base ≤ wr.heap.size)
    (h : ∀ v' w', w'.ownsRow base E size v' (n + 1) (xs ++ cs) → Below base wr w' → (wr.alloc (.cells cs.toArray E)).grownBy w' v.ownBlock → (v'.ownBlock = v.ownBlock ∨ v'.ownBlock = some (wr.heap.size + 1)) → wpList P ops Q rest (a.put o.dst v') w') : wpList P ops Q (o :: rest) a (wr.alloc (.cells cs.toArray E)) := by
  subst hgs
  obtain ⟨i, hi, hz, hsz, hby⟩ := info_parts hE.info
  have hw := hE.wide
  refine wpList_append_any _ hgd s x T ho base E i z size bytes hE.und hi hz hsz hby hE.zs hE.pos v n xs hs (hown.alloc _) (wr.heap.size + 1) (some ⟨wr.heap.size, 0, none⟩) 1 1 cs hx (Reads.new_ wr size 1 cs E (by omega)) h1 (by unfold maxLen; omega) ?_ (by simp; omega) ?_
  · have : (n + 1) * bytes ≤ (n + 1) * 1000 := Nat.mul_le_mul_left _ hw
    omega
  · intro v' w' h2 h3 h4
    refine h v' w' h2 (((Below.refl base wr).alloc hbase _).grown h3 (by simp; omega) (own_block_ge hown)) h3 ?_
    rwa [World.size_alloc] at h4

def reachX (ys : List (Nat × List Sp)) : List Int := (ys.filter fun p => anyB p.2).map fun p => (p.1 : Int)
theorem reachX_add (ys : List (Nat × List Sp)) (k : Nat) (l : List Sp) : reachX (ys ++ [(k, l)]) = reachX ys ++ if anyB l then [(k : Int)] else [] := by
  unfold reachX
  rw [List.filter_append, List.map_append, List.filter_cons]
  dsimp only
  split <;> simp
theorem reachX_len (ys : List (Nat × List Sp)) : (reachX ys).length ≤ ys.length := by unfold reachX; rw [List.length_map]; exact List.length_filter_le _ _
def ReT (go : Nat) : World → Nat → Prop := fun w g => g = go ∨ ∃ v, w.cell? ⟨go, 0, none⟩ = some v ∧ v.ownBlock = some g
def ReJ (go B0 : Nat) (ys : List (Nat × List Sp)) (w : World) : Prop := ∃ v, Blk w go 24 #[v] ∧ IOwn w B0 v (reachX ys)
theorem own_lt {w : World} {base : Nat} {e : TypeId} {size n : Nat} {v : Value} {xs : List Value} (h : w.ownsRow base e size v n xs) : ∀ k, v.ownBlock = some k → k < w.heap.size := by
  intro k hk
  rcases h.2 with ⟨rfl, _⟩ | ⟨g, cap, cur, rfl, hg, hh, _⟩
  · simp [Value.ownBlock] at hk
  · simp [Value.ownBlock] at hk; subst hk; exact Blk.lt (t := e) hh
theorem re_ear (go B0 : Nat) (h : B0 ≤ go) : Ear (ReT go) (ReJ go B0) B0 :=
  ⟨fun pre w k hJ hk => by
    obtain ⟨v, hv, ho⟩ := hJ
    rcases hk with rfl | ⟨u, hu, he⟩
    · exact ⟨hv.lt, h⟩
    · have := hv.cell 0
      rw [hu] at this
      simp at this
      subst this
      exact ⟨own_lt ho k he, own_block_ge ho k he⟩, fun pre w w' hJ hb => by
    obtain ⟨v, hv, ho⟩ := hJ
    refine ⟨⟨v, hv.below hb hv.lt, ho.below hb (Nat.le_refl _)⟩, fun g hg => ?_⟩
    rcases hg with rfl | ⟨u, hu, he⟩
    · exact .inl rfl
    · exact .inr ⟨u, by rw [← hu]; exact (hb.cell (p := ⟨go, 0, none⟩) hv.lt).symm, he⟩⟩
def reachV (t : List Nd) (fe : Int) : List Int := if treeE t fe = 0 then sortL (reachX (lv t t.length 0 (wideL fe.toNat))) else []
end Go.Proofs.YtafaedhjlmkamaaGreatDoor
/- path.Check, path.Witness. Conditions: as each lemma names. -/
namespace Go.Proofs.YtafaedhjlmkamaaGreatDoor
set_option linter.unusedVariables false
set_option linter.unusedSimpArgs false
open Go.RowKit

def spansF : List Sp → Int
  | [] => 0
  | s :: r => if cellB s.low && cellB s.high then (if someB s then spansF r else 5) else 1
def spansE (l : List Sp) : Int := if 8 < l.length then 4 else spansF l
theorem spansF_step {l : List Sp} {k : Nat} {s : Sp} (h : l[k]? = some s) (hF : spansF (l.drop k) = spansF l) (h1 : cellB s.low = true) (h2 : cellB s.high = true) (h3 : someB s = true) : spansF (l.drop (k + 1)) = spansF l := by
  rw [← hF, drop_at h, spansF, h1, h2, h3]; rfl
theorem spansF_1 {l : List Sp} {k : Nat} {s : Sp} (h : l[k]? = some s) (hF : spansF (l.drop k) = spansF l) (h1 : cellB s.low = false ∨ cellB s.high = false) : spansF l = 1 := by
  rw [← hF, drop_at h, spansF]
  rcases h1 with h1 | h1 <;> rw [h1] <;> simp
theorem spansF_5 {l : List Sp} {k : Nat} {s : Sp} (h : l[k]? = some s) (hF : spansF (l.drop k) = spansF l) (h1 : cellB s.low = true) (h2 : cellB s.high = true) (h3 : someB s = false) : spansF l = 5 := by
  rw [← hF, drop_at h, spansF, h1, h2, h3]; rfl

set_option maxRecDepth 100000 in
set_option maxHeartbeats 2000000 in
theorem pcheck_any (A : Option Addr) (n c B : Nat) (l : List Sp) (w : World) (hr : SReads w B A n l) (hB : B ≤ w.heap.size) (hn : n ≤ maxLen) :
    Calls Tryz.prog 29 #[.slice A n c] w fun e w' => e = .returned (errV (spansE l)) ∧ Below w.heap.size w w' := by
  unfold maxLen at hn
  have hl := hr.len
  by_cases h8 : 8 < n
  · have HE : Hid (spansE l = 4) := hide (by unfold spansE; rw [if_pos (by omega)])
    clear hl
    go_enter Tryz.func29, Tryz.ntmps29
    go_wp2
    go_ret
    exact ⟨by rw [unhide HE]; rfl, Below.refl _ _⟩
  · have HE : Hid (spansE l = spansF l) := hide (by unfold spansE; rw [if_neg (by omega)])
    have HL := hide hl
    clear hl
    go_enter Tryz.func29, Tryz.ntmps29
    go_wp2_with fail
    go_loopw [11] (fun i wr => ∃ k : Nat, k ≤ n ∧ i = .int .i64 k ∧ Hid (spansF (l.drop k) = spansF l) ∧ Below w.heap.size w wr) (fun i _ => n - (intOf i).toNat)
    case atStart => exact ⟨0, Nat.zero_le _, rfl, hide (by simp), Below.refl _ _⟩
    case round =>
      obtain ⟨k, hk, rfl, HG, hbel⟩ := hrel
      have hz := hbel.size
      by_cases hlt : k < n
      · obtain ⟨b, o, s, rfl, hb, hx, c0, c1, c2⟩ := (hr.below (hbel.mono hB)).get hlt
        have HX := hide hx
        obtain ⟨s0, s1, s2⟩ := s
        dsimp only at c0 c1 c2
        clear hx
        by_cases h1 : cellB s0 = true
        · by_cases h2 : cellB s1 = true
          · by_cases h3 : someB ⟨s0, s1, s2⟩ = true
            · have HN := hide (spansF_step (unhide HX) (unhide HG) h1 h2 h3)
              have H1 := hide h1
              have H2 := hide h2
              have H3 := hide h3
              clear h1 h2 h3
              go_wp2_with (first | (go_at_call 46; refine (cell_any s0 _).mono ?_; rintro e w' ⟨rfl, rfl⟩; rw [H1.out]) | (go_at_call 46; refine (cell_any s1 _).mono ?_; rintro e w' ⟨rfl, rfl⟩; rw [H2.out]))
              refine (some_any s0 s1 s2 _).mono ?_
              rintro e w2 ⟨rfl, hb2⟩
              rw [unhide H3]
              go_wp2_with fail
              go_roundw
              case rel => exact ⟨k + 1, by omega, by go_num, HN, (hbel.alloc hz _).trans (hb2.mono (by simp; omega))⟩
              case measure => simp [intOf]; omega
            · have h3' : someB ⟨s0, s1, s2⟩ = false := by simpa using h3
              have HN := hide (spansF_5 (unhide HX) (unhide HG) h1 h2 h3')
              have H1 := hide h1
              have H2 := hide h2
              have H3 := hide h3'
              clear h1 h2 h3 h3'
              go_wp2_with (first | (go_at_call 46; refine (cell_any s0 _).mono ?_; rintro e w' ⟨rfl, rfl⟩; rw [H1.out]) | (go_at_call 46; refine (cell_any s1 _).mono ?_; rintro e w' ⟨rfl, rfl⟩; rw [H2.out]))
              refine (some_any s0 s1 s2 _).mono ?_
              rintro e w2 ⟨rfl, hb2⟩
              rw [unhide H3]
              go_wp2_with fail
              go_ret
              exact ⟨by rw [unhide HE, unhide HN]; rfl, (hbel.alloc hz _).trans (hb2.mono (by simp; omega))⟩
          · have h2' : cellB s1 = false := by simpa using h2
            have HN := hide (spansF_1 (unhide HX) (unhide HG) (.inr h2'))
            have H1 := hide h1
            have H2 := hide h2'
            clear h1 h2 h2'
            go_wp2_with (first | (go_at_call 46; refine (cell_any s0 _).mono ?_; rintro e w' ⟨rfl, rfl⟩; rw [H1.out]) | (go_at_call 46; refine (cell_any s1 _).mono ?_; rintro e w' ⟨rfl, rfl⟩; rw [H2.out]))
            go_ret
            exact ⟨by rw [unhide HE, unhide HN]; rfl, hbel.alloc hz _⟩
        · have h1' : cellB s0 = false := by simpa using h1
          have HN := hide (spansF_1 (unhide HX) (unhide HG) (.inl h1'))
          have H1 := hide h1'
          clear h1 h1'
          go_wp2_with (first | (go_at_call 46; refine (cell_any s0 _).mono ?_; rintro e w' ⟨rfl, rfl⟩; rw [H1.out]))
          go_ret
          exact ⟨by rw [unhide HE, unhide HN]; rfl, hbel.alloc hz _⟩
      · have h0 : spansF l = 0 := by
          rw [← unhide HG, List.drop_of_length_le (by have := unhide HL; omega)]; rfl
        have H0 := hide h0
        clear h0
        go_wp2_with fail
        go_ret
        exact ⟨by rw [unhide HE, unhide H0]; rfl, hbel⟩
def witV (l : List Sp) : List Int := if spansE l = 0 then pickL l else []
end Go.Proofs.YtafaedhjlmkamaaGreatDoor
