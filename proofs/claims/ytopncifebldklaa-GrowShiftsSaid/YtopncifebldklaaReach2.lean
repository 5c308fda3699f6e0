/- path.Reach. Conditions: as each lemma names. -/
import Derived.Test.YtopncifebldklaaReach
namespace Go.Proofs.Ytopncifebldklaa
set_option linter.unusedVariables false
set_option linter.unusedSimpArgs false
open Go.RowKit

/-- append of one element onto a row of the call's own: and where it lies -/
theorem app_one_at {P : Program} {T E : TypeId} {z : Value} {size bytes : Nat} (hE : Elem P T E z size bytes) {ops : Array Oper} {rest : List Oper} {o : Oper} {a : Act} {Q : Exit → Act → World → Prop} {wr : World}
    (s x : Operand) (cs : List Value) (hgd : o.guard = none) (ho : o.op = .call { callee := .builtin .append, args := #[s, x], argTypes := #[T, T] })
    {base : Nat} {v : Value} {n : Nat} {xs : List Value} (hs : a.eval s = v) (hown : wr.ownsRow base E size v n xs) {g : Nat} (hx : a.eval x = .slice (some ⟨g, 0, none⟩) 1 1) (hgs : wr.heap.size = g)
    (hcs : cs.length = size) (h1 : ∀ u ∈ cs, u.oneCell' = true) (hn : n < 1000000000) (hbase : base ≤ wr.heap.size)
    (h : ∀ v' w', w'.ownsRow base E size v' (n + 1) (xs ++ cs) → Below base wr w' → (wr.alloc (.cells cs.toArray E)).grownBy w' v.ownBlock → (v'.ownBlock = v.ownBlock ∨ v'.ownBlock = some (wr.heap.size + 1)) → wpList P ops Q rest (a.put o.dst v') w') : wpList P ops Q (o :: rest) a (wr.alloc (.cells cs.toArray E)) := by
  subst hgs
  obtain ⟨i, hi, hz, hsz, hby⟩ := info_parts hE.info
  have hw := hE.wide
  refine wpList_append_any _ hgd s x T ho base E i z size bytes hE.und hi hz hsz hby hE.zs hE.pos v n xs hs (hown.alloc _) (wr.heap.size + 1) (some ⟨wr.heap.size, 0, none⟩) 1 1 cs hx (Reads.new_ wr size 1 cs E (by omega)) h1 (by unfold maxLen; omega) ?_ (by simp; omega) ?_
  · have : (n + 1) * bytes ≤ (n + 1) * 1000 := Nat.mul_le_mul_left _ hw
    omega
  · intro v' w' h2 h3 h4
    refine h v' w' h2 (((Below.refl base wr).alloc hbase _).grown h3 (by simp; omega) (own_block_ge hown)) h3 ?_
    rwa [World.size_alloc] at h4

def reachX (ys : List (Nat × List Sp)) : List Int := (ys.filter fun p => anyB p.2).map fun p => (p.1 : Int)
theorem reachX_add (ys : List (Nat × List Sp)) (k : Nat) (l : List Sp) : reachX (ys ++ [(k, l)]) = reachX ys ++ if anyB l then [(k : Int)] else [] := by
  unfold reachX
  rw [List.filter_append, List.map_append, List.filter_cons]
  dsimp only
  split <;> simp
theorem reachX_len (ys : List (Nat × List Sp)) : (reachX ys).length ≤ ys.length := by unfold reachX; rw [List.length_map]; exact List.length_filter_le _ _
def ReT (go : Nat) : World → Nat → Prop := fun w g => g = go ∨ ∃ v, w.cell? ⟨go, 0, none⟩ = some v ∧ v.ownBlock = some g
def ReJ (go B0 : Nat) (ys : List (Nat × List Sp)) (w : World) : Prop := ∃ v, Blk w go 22 #[v] ∧ IOwn w B0 v (reachX ys)
theorem own_lt {w : World} {base : Nat} {e : TypeId} {size n : Nat} {v : Value} {xs : List Value} (h : w.ownsRow base e size v n xs) : ∀ k, v.ownBlock = some k → k < w.heap.size := by
  intro k hk
  rcases h.2 with ⟨rfl, _⟩ | ⟨g, cap, cur, rfl, hg, hh, _⟩
  · simp [Value.ownBlock] at hk
  · simp [Value.ownBlock] at hk; subst hk; exact Blk.lt (t := e) hh
theorem re_ear (go B0 : Nat) (h : B0 ≤ go) : Ear (ReT go) (ReJ go B0) B0 :=
  ⟨fun pre w k hJ hk => by
    obtain ⟨v, hv, ho⟩ := hJ
    rcases hk with rfl | ⟨u, hu, he⟩
    · exact ⟨hv.lt, h⟩
    · have := hv.cell 0
      rw [hu] at this
      simp at this
      subst this
      exact ⟨own_lt ho k he, own_block_ge ho k he⟩, fun pre w w' hJ hb => by
    obtain ⟨v, hv, ho⟩ := hJ
    refine ⟨⟨v, hv.below hb hv.lt, ho.below hb (Nat.le_refl _)⟩, fun g hg => ?_⟩
    rcases hg with rfl | ⟨u, hu, he⟩
    · exact .inl rfl
    · exact .inr ⟨u, by rw [← hu]; exact (hb.cell (p := ⟨go, 0, none⟩) hv.lt).symm, he⟩⟩
def reachV (t : List Nd) (fe : Int) : List Int := if treeE t fe = 0 then sortL (reachX (lv t t.length 0 (wideL fe.toNat))) else []
end Go.Proofs.Ytopncifebldklaa
