/- Part 19 of what LawLimitTells needs: TreeDeep, TreeHalves, GroveOps, GroveOps2, App, GroveBnd. Conditions: as each lemma names. -/
import Derived.Test.YtafaedhjlmkamaaGreatDoorPkLimitTells06
import Derived.Test.YtafaedhjlmkamaaGreatDoorPkLimitTells18
import Derived.Test.YtafaedhjlmkamaaGreatDoorPkLimitTells01
/- TreeDeep: the walk of the law's function. Conditions: arguments read as lists. -/
namespace Go.Proofs.YtafaedhjlmkamaaGreatDoor
set_option linter.unusedVariables false
set_option linter.unusedSimpArgs false
open Go.RowKit

def tree3 (a b : Int) : List Nd := [⟨0, 0, 1, 2, false, 0⟩, ⟨-1, 0, 0, 0, false, a⟩, ⟨-1, 0, 0, 0, false, b⟩]
theorem tree3_right : treeE (tree3 0 0) 8 = 0 := by decide
theorem tree3_depth : depthV (tree3 0 0) = 1 := by decide

theorem pow_step {k x : Nat} (h : x = 2 ^ k) : x * 2 = 2 ^ (k + 1) := by rw [h, Nat.pow_succ]
theorem pow_le10 {k : Nat} (h : k ≤ 10) : 2 ^ k ≤ 1024 := Nat.le_trans (Nat.pow_le_pow_right (by omega) h) (by decide)

end Go.Proofs.YtafaedhjlmkamaaGreatDoor
/- TreeHalves: the walk of the law's function. Conditions: arguments read as lists. -/
namespace Go.Proofs.YtafaedhjlmkamaaGreatDoor
set_option linter.unusedVariables false
set_option linter.unusedSimpArgs false
open Go.RowKit

/-! ### plain -/
theorem leaves_mem {t : List Nd} : ∀ (i k : Nat) (n : Nd), t[k]? = some n → n.f = -1 → ((i + k : Nat) : Int) ∈ leavesFrom i t := by
  induction t with
  | nil => intro i k n h; simp at h
  | cons x r ih =>
    intro i k n h hf
    rw [leavesFrom]
    cases k with
    | zero =>
      simp at h; subst h
      rw [if_pos hf]; simp
    | succ k =>
      have := ih (i + 1) k n (by simpa using h) hf
      rw [show i + 1 + k = i + (k + 1) by omega] at this
      split
      · exact List.mem_cons_of_mem _ this
      · exact this
theorem leafFrom_is {t : List Nd} {row : List Int} (hb : Behind t) : ∀ (F i : Nat), i < t.length → t.length ≤ i + F → ∃ n, t[leafFrom t row F i]? = some n ∧ n.f = -1 := by
  intro F
  induction F with
  | zero => intro i h1 h2; omega
  | succ F ih =>
    intro i h1 h2
    have hn : t[i]? = some t[i] := List.getElem?_eq_getElem h1
    by_cases hf : (t[i]).f = -1
    · rw [leafFrom_leaf hn hf]; exact ⟨_, hn, hf⟩
    · rw [leafFrom_step hn hf]
      obtain ⟨j, hj, hlt, hjl⟩ := nextOf_lt (c := cellAt row (t[i]).f) hb hn hf
      rw [hj, Int.toNat_natCast]
      exact ih j hjl (by omega)
theorem leafOf_is {t : List Nd} {row : List Int} (hb : Behind t) (h0 : 0 < t.length) : ∃ n, t[leafOf t row]? = some n ∧ n.f = -1 := leafFrom_is hb t.length 0 h0 (by omega)
theorem leafFrom_same {t : List Nd} {r s : List Int} (h : ∀ (i : Nat) n, t[i]? = some n → n.f ≠ -1 → cellAt r n.f = cellAt s n.f) : ∀ (F i : Nat), leafFrom t r F i = leafFrom t s F i := by
  intro F
  induction F with
  | zero => intro i; rfl
  | succ F ih =>
    intro i
    cases hn : t[i]? with
    | none => simp only [leafFrom, hn]
    | some n =>
      by_cases hf : n.f = -1
      · rw [leafFrom_leaf hn hf, leafFrom_leaf hn hf]
      · rw [leafFrom_step hn hf, leafFrom_step hn hf, h i n hn hf, ih]
theorem cellAt_set {r : List Int} {f : Nat} {g c : Int} (hg : 0 ≤ g) (h : g ≠ f) : cellAt (r.set f c) g = cellAt r g := by
  unfold cellAt
  rw [List.getD_eq_getElem?_getD, List.getD_eq_getElem?_getD, List.getElem?_set_ne (by omega)]
theorem rowE_set {r : List Int} {f : Nat} {c : Int} (h : rowE r = 0) (hc : -1000000 ≤ c ∧ c ≤ 1000000) : rowE (r.set f c) = 0 := by
  unfold rowE at h ⊢
  split at h
  · cases h
  · rename_i h8
    split at h
    · rename_i ha
      rw [if_neg (by simpa using h8), if_pos]
      rw [List.all_eq_true] at ha ⊢
      intro x hx
      rcases List.mem_or_eq_of_mem_set hx with hx | rfl
      · exact ha x hx
      · exact rowGood_cell hc.1 hc.2
    · cases h
theorem readyE_set {t : List Nd} {r : List Int} {f : Nat} {c : Int} (h : readyE t r = 0) (hc : -1000000 ≤ c ∧ c ≤ 1000000) : readyE t (r.set f c) = 0 := by
  unfold readyE at h ⊢
  split at h
  · rename_i h1
    rw [if_pos (rowE_set h1 hc), List.length_set]; exact h
  · rename_i h1; exact absurd h h1
theorem leafV_set {t : List Nd} {r : List Int} {f : Nat} {c : Int} (h : readyE t r = 0) (hc : -1000000 ≤ c ∧ c ≤ 1000000) (hf : ∀ (i : Nat) n, t[i]? = some n → n.f ≠ f) : leafV t (r.set f c) = leafV t r := by
  have h2 := readyE_set (f := f) h hc
  obtain ⟨_, hR, _⟩ := readyE_right h
  unfold leafV leafOf
  rw [if_pos h, if_pos h2, leafFrom_same (r := r.set f c) (s := r)]
  intro i n hn hf2
  exact cellAt_set (hR.asks i n hn hf2).1 (hf i n hn)

theorem tree3_eval4 : evalV [⟨0, 5, 1, 2, false, 0⟩, ⟨-1, 0, 0, 0, false, 7⟩, ⟨-1, 0, 0, 0, false, 9⟩] [4] = 7 ∧ readyE [⟨0, 5, 1, 2, false, 0⟩, ⟨-1, 0, 0, 0, false, 7⟩, ⟨-1, 0, 0, 0, false, 9⟩] [4] = 0 := by decide
theorem tree3_eval5 : evalV [⟨0, 5, 1, 2, false, 0⟩, ⟨-1, 0, 0, 0, false, 7⟩, ⟨-1, 0, 0, 0, false, 9⟩] [5] = 9 ∧ readyE [⟨0, 5, 1, 2, false, 0⟩, ⟨-1, 0, 0, 0, false, 7⟩, ⟨-1, 0, 0, 0, false, 9⟩] [5] = 0 := by decide

end Go.Proofs.YtafaedhjlmkamaaGreatDoor
/- grove.Ready, Each, Eval: contracts. Conditions: arguments read as lists. -/
namespace Go.Proofs.YtafaedhjlmkamaaGreatDoor
set_option linter.unusedVariables false
set_option linter.unusedSimpArgs false
open Go.RowKit

def standE (g : Gv) (r : List Int) : Int := if g.e = 0 then (if rowE r = 0 then (if (r.length : Int) = g.f then 0 else 3) else rowE r) else g.e
def eachV (g : Gv) (r : List Int) : List Int := g.ts.map fun t => valAt t.l (leafOf t.l r)
def eachR (g : Gv) (r : List Int) : List Int := if standE g r = 0 then eachV g r else []
noncomputable def gevalV (g : Gv) (r : List Int) : Int := if standE g r = 0 then togV g.way g.ws (eachV g r) else 0
theorem standE_0 {g : Gv} {r : List Int} (h : standE g r = 0) : GRight g ∧ rowE r = 0 ∧ (r.length : Int) = g.f := by
  unfold standE at h
  by_cases h1 : g.e = 0
  · rw [if_pos h1] at h
    by_cases h2 : rowE r = 0
    · rw [if_pos h2] at h
      by_cases h3 : (r.length : Int) = g.f
      · exact ⟨groveE_right h1, h2, h3⟩
      · rw [if_neg h3] at h; cases h
    · rw [if_neg h2] at h; exact absurd h h2
  · rw [if_neg h1] at h; exact absurd h h1
theorem Blk.cells4 {w : World} {g : Nat} {T : TypeId} {x0 x1 x2 x3 : Value} (h : Blk w g T #[x0, x1, x2, x3]) : w.cell? ⟨g, 0, none⟩ = some x0 ∧ w.cell? ⟨g, 1, none⟩ = some x1 ∧ w.cell? ⟨g, 2, none⟩ = some x2 ∧ w.cell? ⟨g, 3, none⟩ = some x3 :=
  ⟨h.cell 0, h.cell 1, h.cell 2, h.cell 3⟩
theorem gbox (w : World) (f way : Int) (Aw : Option Addr) (nw cw : Nat) (At : Option Addr) (nt ct : Nat) : ∃ W, W = w.alloc (.cells #[.int .i64 f, .int .i64 way, .slice Aw nw cw, .slice At nt ct] 27) ∧
    Blk W w.heap.size 27 #[.int .i64 f, .int .i64 way, .slice Aw nw cw, .slice At nt ct] ∧ W.heap.size = w.heap.size + 1 ∧ Below w.heap.size w W :=
  ⟨_, rfl, Blk.new _ _ _, by simp, (Below.refl _ _).alloc (Nat.le_refl _) _⟩

/-- what Each answers -/
def EachPost (g : Gv) (r : List Int) (w : World) (e : Ending) (w' : World) : Prop :=
  ∃ v, e = .returned (.tuple #[v, errV (standE g r)]) ∧ IOwn w' w.heap.size v (eachR g r) ∧ Below w.heap.size w w'
theorem leaf_in {t : List Nd} {fe : Int} {r : List Int} (h : Right t fe) : ∃ n, t[leafOf t r]? = some n ∧ n.f = -1 ∧ -1000000 ≤ n.v ∧ n.v ≤ 1000000 := by
  obtain ⟨n, hn, hf⟩ := leafOf_is (row := r) h.behind h.pos
  rcases node_of (h.node _ n hn) with h1 | h1
  · exact ⟨n, hn, hf, h1.2.1, h1.2.2.1⟩
  · omega

end Go.Proofs.YtafaedhjlmkamaaGreatDoor
/- grove.Eval, Between, Bounds: contracts. Conditions: arguments read as lists. -/
namespace Go.Proofs.YtafaedhjlmkamaaGreatDoor
set_option linter.unusedVariables false
set_option linter.unusedSimpArgs false
open Go.RowKit

theorem eachV_in {g : Gv} {r : List Int} (h : standE g r = 0) : ∀ x ∈ eachV g r, -1000000 ≤ x ∧ x ≤ 1000000 := by
  obtain ⟨hG, _, hl⟩ := standE_0 h
  intro x hx
  obtain ⟨t, ht, rfl⟩ := List.mem_map.1 hx
  obtain ⟨n, hn, _, h1, h2⟩ := leaf_in (r := r) (right_of (hG.trees t ht))
  simp only [valAt, hn]
  exact ⟨h1, h2⟩
theorem eachV_len (g : Gv) (r : List Int) : (eachV g r).length = g.ts.length := by simp [eachV]

theorem maxR_any (A : Option Addr) (n c B : Nat) (l : List Int) (w : World) (hr : IReads w B A n l) (hpos : 0 < n) (hn : n ≤ maxLen) : Calls Tryz.prog 49 #[.slice A n c] w fun e w' => e = .returned (.int .i64 (Lib.maxOf l)) ∧ w = w' := by
  have hl := hr.len
  obtain ⟨b, off, rfl, _, hc⟩ := Reads.spot hr hpos (by omega)
  have := Tryz.slices_Max_int b off n c l w hpos (by omega) (by unfold maxLen at hn; omega) (fun j hj => hc j _ (by rw [List.getElem?_map, List.getElem?_eq_getElem hj, List.getD_eq_getElem?_getD, List.getElem?_eq_getElem hj]; rfl))
  refine this.mono ?_
  rintro e w' ⟨rfl, rfl⟩
  exact ⟨by rw [List.take_of_length_le (by omega)], rfl⟩
theorem minR_any (A : Option Addr) (n c B : Nat) (l : List Int) (w : World) (hr : IReads w B A n l) (hpos : 0 < n) (hn : n ≤ maxLen) : Calls Tryz.prog 48 #[.slice A n c] w fun e w' => e = .returned (.int .i64 (Lib.minOf l)) ∧ w = w' := by
  have hl := hr.len
  obtain ⟨b, off, rfl, _, hc⟩ := Reads.spot hr hpos (by omega)
  have := Tryz.slices_Min_int b off n c l w hpos (by omega) (by unfold maxLen at hn; omega) (fun j hj => hc j _ (by rw [List.getElem?_map, List.getElem?_eq_getElem hj, List.getD_eq_getElem?_getD, List.getElem?_eq_getElem hj]; rfl))
  refine this.mono ?_
  rintro e w' ⟨rfl, rfl⟩
  exact ⟨by rw [List.take_of_length_le (by omega)], rfl⟩

/-- between what a grove comes, of each tree's least and greatest -/
noncomputable def betwV (way : Int) (ws least most : List Int) : Int × Int := if way = 3 then (Lib.minOf least, Lib.maxOf most) else (togV way ws least, togV way ws most)
set_option maxRecDepth 100000 in
set_option maxHeartbeats 1000000 in
theorem between_any (g : Gv) (Al Am : Option Addr) (nl cl nm cm : Nat) (least most : List Int) (w : World) (hw : IReads w w.heap.size g.Aw g.nw g.ws) (hl : IReads w w.heap.size Al nl least) (hm : IReads w w.heap.size Am nm most) (h1 : nl = g.nw) (h2 : nm = g.nw)
    (h12 : g.nw ≤ 12) (hpos : 0 < g.nw) (hwb : ∀ x ∈ g.ws, 1 ≤ x ∧ x ≤ 1000) (hlb : ∀ x ∈ least, -1000000 ≤ x ∧ x ≤ 1000000) (hmb : ∀ x ∈ most, -1000000 ≤ x ∧ x ≤ 1000000) :
    Calls Tryz.prog 30 #[g.val, .slice Al nl cl, .slice Am nm cm] w fun e w' => e = .returned (.tuple #[.int .i64 (betwV g.way g.ws least most).1, .int .i64 (betwV g.way g.ws least most).2]) ∧ Below w.heap.size w w' := by
  subst h1
  subst h2
  obtain ⟨W, hW, bx, hWs, hb0⟩ := gbox w g.f g.way g.Aw g.nw g.cw g.At g.nt g.ct
  have c0 := bx.cell 0
  have c1 := bx.cell 1
  have c2 := bx.cell 2
  have c3 := bx.cell 3
  simp at c0 c1 c2 c3
  have hll := hl.len
  have hml := hm.len
  by_cases h3 : g.way = 3
  · have e3 : (g.way == 3) = true := by simp [h3]
    have HB : Hid (betwV g.way g.ws least most = (Lib.minOf least, Lib.maxOf most)) := hide (by unfold betwV; rw [if_pos h3])
    rw [unhide HB]
    have hmin := hide (minR_any Al g.nw cl w.heap.size least W (hl.below hb0) hpos (by unfold maxLen; omega))
    have hmax := hide (maxR_any Am g.nw cm w.heap.size most W (hm.below hb0) hpos (by unfold maxLen; omega))
    clear h3 hw hl hm
    obtain ⟨f, way, Aw, nw, cw, ws, At, nt, ct, ts⟩ := g
    simp only [Gv.val]
    dsimp only at hW bx c0 c1 c2 c3 e3 hmin hmax h12 hpos
    go_enter Tryz.func30, Tryz.ntmps30
    go_wp2_with fail
    rw [← hW]
    clear hW
    refine (unhide hmin).mono ?_
    rintro e w1 ⟨rfl, rfl⟩
    clear hmin
    go_wp2_with fail
    refine (unhide hmax).mono ?_
    rintro e w1 ⟨rfl, rfl⟩
    go_wp2_with fail
    go_ret2
    exact ⟨rfl, hb0⟩
  · have e3 : (g.way == 3) = false := by simp [h3]
    have HB : Hid (betwV g.way g.ws least most = (togV g.way g.ws least, togV g.way g.ws most)) := hide (by unfold betwV; rw [if_neg h3])
    rw [unhide HB]
    have hb0s := hb0.size
    have ht1 := fun (W1 : World) (hb : Below w.heap.size w W1) => tog_any g.way g.Aw Al g.nw g.cw g.nw cl g.ws least W1 ((hw.below hb).more hb.size) ((hl.below hb).more hb.size) rfl h12 hpos hwb hlb
    have ht2 := fun (W1 : World) (hb : Below w.heap.size w W1) => tog_any g.way g.Aw Am g.nw g.cw g.nw cm g.ws most W1 ((hw.below hb).more hb.size) ((hm.below hb).more hb.size) rfl h12 hpos hwb hmb
    have HT1 := hide ht1
    have HT2 := hide ht2
    clear h3 hw hl hm ht1 ht2 hll hml hwb hlb hmb
    obtain ⟨f, way, Aw, nw, cw, ws, At, nt, ct, ts⟩ := g
    simp only [Gv.val]
    dsimp only at hW bx c0 c1 c2 c3 e3 HT1 HT2 h12 hpos
    obtain ⟨L1, hL1⟩ : ∃ L1, L1 = togV way ws least := ⟨_, rfl⟩
    obtain ⟨L2, hL2⟩ : ∃ L2, L2 = togV way ws most := ⟨_, rfl⟩
    rw [← hL1] at HT1 ⊢
    rw [← hL2] at HT2 ⊢
    clear hL1 hL2 HB
    go_enter Tryz.func30, Tryz.ntmps30
    go_wp2_with fail
    rw [← hW]
    clear hW
    go_region_held3 (fun w' => w'.cell? ⟨w.heap.size, 1, none⟩ = some (.int .i64 way) ∧ w'.cell? ⟨w.heap.size, 2, none⟩ = some (.slice Aw nw cw))
      (first | go_keep | (go_split_ands <;> (first | (rw [hk1]; assumption) | (rw [hk2]; assumption))))
      (first
        | (go_at_call 50
           (with_reducible refine (unhide HT1 _ (hb0.drew)).mono ?_)
           rintro e w1 ⟨rfl, hb1⟩
           have hk1 : ∀ o, w1.cell? ⟨w.heap.size, o, none⟩ = W.cell? ⟨w.heap.size, o, none⟩ := fun o => hb1.cell (p := ⟨w.heap.size, o, none⟩) (by show w.heap.size < W.heap.size; omega)
           have hB1 : Below w.heap.size w w1 := (hb0.drew).trans (hb1.mono hb0s))
        | (go_at_call 50
           (with_reducible refine (unhide HT2 _ hB1).mono ?_)
           rintro e w2 ⟨rfl, hb2⟩
           have hk2 : ∀ o, w2.cell? ⟨w.heap.size, o, none⟩ = W.cell? ⟨w.heap.size, o, none⟩ := fun o => (hb2.cell (p := ⟨w.heap.size, o, none⟩) (by have := hb1.size; show w.heap.size < w1.heap.size; simp at this; omega)).trans (hk1 o)
           have hB2 : Below w.heap.size w w2 := hB1.trans (hb2.mono hB1.size)))
    go_wp2_with fail
    go_ret2
    exact ⟨rfl, hB2⟩
end Go.Proofs.YtafaedhjlmkamaaGreatDoor
/- Appending one element where another row of the call's own lies beside. Conditions: as each lemma names. -/
namespace Go.Proofs.YtafaedhjlmkamaaGreatDoor
set_option linter.unusedVariables false
set_option linter.unusedSimpArgs false
open Go.RowKit

theorem app_one2 {P : Program} {T E : TypeId} {z : Value} {size bytes : Nat} (hE : Elem P T E z size bytes) {ops : Array Oper} {rest : List Oper} {o : Oper} {a : Act} {Q : Exit → Act → World → Prop} {wr : World}
    (s x : Operand) (cs : List Value) (hgd : o.guard = none) (ho : o.op = .call { callee := .builtin .append, args := #[s, x], argTypes := #[T, T] })
    {base : Nat} {v : Value} {n : Nat} {xs : List Value} (hs : a.eval s = v) (hown : wr.ownsRow base E size v n xs) {g : Nat} (hx : a.eval x = .slice (some ⟨g, 0, none⟩) 1 1) (hgs : wr.heap.size = g)
    (hcs : cs.length = size) (h1 : ∀ u ∈ cs, u.oneCell' = true) (hn : n < 1000000000) (hbase : base ≤ wr.heap.size)
    (h : ∀ v' w', w'.ownsRow base E size v' (n + 1) (xs ++ cs) → Below base wr w' → wr.grownBy w' v.ownBlock → (v'.ownBlock = v.ownBlock ∨ v'.ownBlock = some (wr.heap.size + 1)) → wpList P ops Q rest (a.put o.dst v') w') : wpList P ops Q (o :: rest) a (wr.alloc (.cells cs.toArray E)) := by
  subst hgs
  obtain ⟨i, hi, hz, hsz, hby⟩ := info_parts hE.info
  have hw := hE.wide
  refine wpList_append_any _ hgd s x T ho base E i z size bytes hE.und hi hz hsz hby hE.zs hE.pos v n xs hs (hown.alloc _) (wr.heap.size + 1) (some ⟨wr.heap.size, 0, none⟩) 1 1 cs hx (Reads.new_ wr size 1 cs E (by omega)) h1 (by unfold maxLen; omega) ?_ (by simp; omega) ?_
  · have : (n + 1) * bytes ≤ (n + 1) * 1000 := Nat.mul_le_mul_left _ hw
    omega
  · intro v' w' h2 h3 h4
    refine h v' w' h2 (((Below.refl base wr).alloc hbase _).grown h3 (by simp; omega) (own_block_ge hown)) ?_ (by rwa [World.size_alloc] at h4)
    exact ⟨h3.os, h3.tape, h3.output, Nat.le_trans (by simp) h3.size, fun k hk hne => (h3.block k (by simp; omega) hne).trans (Below.heap_alloc wr _ k hk)⟩

/-- two rows lie apart -/
def Apart (u v : Value) : Prop := ∀ k, u.ownBlock = some k → v.ownBlock ≠ some k
theorem Apart.symm {u v : Value} (h : Apart u v) : Apart v u := fun k hk e => h k e hk
theorem Apart.nil_ (v : Value) (n c : Nat) : Apart (.slice none n c) v := fun k hk => by simp [Value.ownBlock] at hk
/-- behind an append onto the one row the other is as it was, and they lie apart still -/
theorem own_aside {wr w' : World} {base base' : Nat} {e e' : TypeId} {size size' n n' : Nat} {v u v' : Value} {xs xs' : List Value} (hu : wr.ownsRow base e size u n xs) (hv : wr.ownsRow base' e' size' v n' xs') (ha : Apart u v) (hg : wr.grownBy w' v.ownBlock) (hn : v'.ownBlock = v.ownBlock ∨ v'.ownBlock = some (wr.heap.size + 1)) :
    w'.ownsRow base e size u n xs ∧ Apart u v' := by
  constructor
  · refine hu.kept hg ?_
    rcases hb : u.ownBlock with _ | k
    · exact .inl rfl
    · exact .inr fun e => ha k hb e.symm
  · intro k hk e
    rcases hn with hn | hn
    · exact ha k hk (by rw [← hn]; exact e)
    · rw [e] at hn
      injection hn with hn
      have := (hu.lt k hk).2
      omega
end Go.Proofs.YtafaedhjlmkamaaGreatDoor
/- grove.Bounds: contract. Conditions: an argument that reads as a grove. -/
namespace Go.Proofs.YtafaedhjlmkamaaGreatDoor
set_option linter.unusedVariables false
set_option linter.unusedSimpArgs false
open Go.RowKit

def leafVals (t : List Nd) : List Int := (t.filter fun n => n.f == -1).map (·.v)
theorem leafVals_next {t : List Nd} {k : Nat} {n : Nd} (h : t[k]? = some n) : leafVals (t.take (k + 1)) = leafVals (t.take k) ++ (if n.f = -1 then [n.v] else []) := by
  unfold leafVals
  rw [take_next h, List.filter_append, List.map_append]
  congr 1
  by_cases hf : n.f = -1 <;> simp [hf]
theorem leafVals_in {t : List Nd} {fe : Int} (h : Right t fe) : leafVals t ≠ [] ∧ ∀ x ∈ leafVals t, -1000000 ≤ x ∧ x ≤ 1000000 := by
  constructor
  · obtain ⟨n, hn, hf, _⟩ := leaf_in (r := []) h
    intro e
    have : n.v ∈ leafVals t := List.mem_map.2 ⟨n, List.mem_filter.2 ⟨List.mem_of_getElem? hn, by simpa using hf⟩, rfl⟩
    rw [e] at this; cases this
  · intro x hx
    obtain ⟨n, hn, rfl⟩ := List.mem_map.1 hx
    obtain ⟨hn, hf⟩ := List.mem_filter.1 hn
    obtain ⟨i, hi⟩ := List.mem_iff_getElem?.1 hn
    have hf : n.f = -1 := by simpa using hf
    rcases node_of (h.node i n hi) with h1 | h1
    · exact ⟨h1.2.1, h1.2.2.1⟩
    · omega
theorem iown_app {w' : World} {base : Nat} {v' : Value} {l : List Int} {x : Int} (h : w'.ownsRow base 3 1 v' (l.length + 1) (l.map (Value.int .i64) ++ [.int .i64 x])) : IOwn w' base v' (l ++ [x]) := by
  unfold IOwn
  rw [List.length_append, List.map_append]
  exact h
noncomputable def boundsV (g : Gv) : Int × Int := if g.e = 0 then betwV g.way g.ws (g.ts.map fun t => Lib.minOf (leafVals t.l)) (g.ts.map fun t => Lib.maxOf (leafVals t.l)) else (0, 0)

end Go.Proofs.YtafaedhjlmkamaaGreatDoor
