/- Appending one element where another row of the call's own lies beside. Conditions: as each lemma names. -/
import Derived.Test.YtopncifebldklaaWords
namespace Go.Proofs.Ytopncifebldklaa
set_option linter.unusedVariables false
set_option linter.unusedSimpArgs false
open Go.RowKit

theorem app_one2 {P : Program} {T E : TypeId} {z : Value} {size bytes : Nat} (hE : Elem P T E z size bytes) {ops : Array Oper} {rest : List Oper} {o : Oper} {a : Act} {Q : Exit → Act → World → Prop} {wr : World}
    (s x : Operand) (cs : List Value) (hgd : o.guard = none) (ho : o.op = .call { callee := .builtin .append, args := #[s, x], argTypes := #[T, T] })
    {base : Nat} {v : Value} {n : Nat} {xs : List Value} (hs : a.eval s = v) (hown : wr.ownsRow base E size v n xs) {g : Nat} (hx : a.eval x = .slice (some ⟨g, 0, none⟩) 1 1) (hgs : wr.heap.size = g)
    (hcs : cs.length = size) (h1 : ∀ u ∈ cs, u.oneCell' = true) (hn : n < 1000000000) (hbase : base ≤ wr.heap.size)
    (h : ∀ v' w', w'.ownsRow base E size v' (n + 1) (xs ++ cs) → Below base wr w' → wr.grownBy w' v.ownBlock → (v'.ownBlock = v.ownBlock ∨ v'.ownBlock = some (wr.heap.size + 1)) → wpList P ops Q rest (a.put o.dst v') w') : wpList P ops Q (o :: rest) a (wr.alloc (.cells cs.toArray E)) := by
  subst hgs
  obtain ⟨i, hi, hz, hsz, hby⟩ := info_parts hE.info
  have hw := hE.wide
  refine wpList_append_any _ hgd s x T ho base E i z size bytes hE.und hi hz hsz hby hE.zs hE.pos v n xs hs (hown.alloc _) (wr.heap.size + 1) (some ⟨wr.heap.size, 0, none⟩) 1 1 cs hx (Reads.new_ wr size 1 cs E (by omega)) h1 (by unfold maxLen; omega) ?_ (by simp; omega) ?_
  · have : (n + 1) * bytes ≤ (n + 1) * 1000 := Nat.mul_le_mul_left _ hw
    omega
  · intro v' w' h2 h3 h4
    refine h v' w' h2 (((Below.refl base wr).alloc hbase _).grown h3 (by simp; omega) (own_block_ge hown)) ?_ (by rwa [World.size_alloc] at h4)
    exact ⟨h3.os, h3.tape, h3.output, Nat.le_trans (by simp) h3.size, fun k hk hne => (h3.block k (by simp; omega) hne).trans (Below.heap_alloc wr _ k hk)⟩

/-- two rows lie apart -/
def Apart (u v : Value) : Prop := ∀ k, u.ownBlock = some k → v.ownBlock ≠ some k
theorem Apart.symm {u v : Value} (h : Apart u v) : Apart v u := fun k hk e => h k e hk
theorem Apart.nil_ (v : Value) (n c : Nat) : Apart (.slice none n c) v := fun k hk => by simp [Value.ownBlock] at hk
/-- behind an append onto the one row the other is as it was, and they lie apart still -/
theorem own_aside {wr w' : World} {base base' : Nat} {e e' : TypeId} {size size' n n' : Nat} {v u v' : Value} {xs xs' : List Value} (hu : wr.ownsRow base e size u n xs) (hv : wr.ownsRow base' e' size' v n' xs') (ha : Apart u v) (hg : wr.grownBy w' v.ownBlock) (hn : v'.ownBlock = v.ownBlock ∨ v'.ownBlock = some (wr.heap.size + 1)) :
    w'.ownsRow base e size u n xs ∧ Apart u v' := by
  constructor
  · refine hu.kept hg ?_
    rcases hb : u.ownBlock with _ | k
    · exact .inl rfl
    · exact .inr fun e => ha k hb e.symm
  · intro k hk e
    rcases hn with hn | hn
    · exact ha k hk (by rw [← hn]; exact e)
    · rw [e] at hn
      injection hn with hn
      have := (hu.lt k hk).2
      omega
end Go.Proofs.Ytopncifebldklaa
