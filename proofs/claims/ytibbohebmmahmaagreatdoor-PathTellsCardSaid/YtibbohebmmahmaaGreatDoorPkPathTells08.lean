/- Part 8 of what LawPathTells needs: RefWhy, App. Conditions: as each lemma names. -/
import Derived.Test.YtibbohebmmahmaaGreatDoorPkPathTells06
import Derived.Test.YtibbohebmmahmaaGreatDoorPkPathTells07
import Derived.Test.YtibbohebmmahmaaGreatDoorPkPathTells01
/- The reference of a row's words: orchref1.Why. Conditions: a tree and a row that fit. -/
namespace Go.Proofs.YtibbohebmmahmaaGreatDoor
set_option linter.unusedVariables false
set_option linter.unusedSimpArgs false
open Go.RowKit

def flatW (t : List Nd) (row : List Int) (l : List Int) : List UInt8 := (l.map fun i => wordAt t row i ++ [32]).flatten
theorem joinTail_flat (ws : List (List UInt8)) (x : List UInt8) : Lib.joinTail [32] (ws ++ [x]) = [32] ++ (ws.map (· ++ [32])).flatten ++ x := by
  induction ws with
  | nil => simp [Lib.joinTail]
  | cons y r ih =>
    have e : Lib.joinTail [32] (y :: (r ++ [x])) = [32] ++ y ++ Lib.joinTail [32] (r ++ [x]) := by simp [Lib.joinTail]
    rw [List.cons_append, e, ih]
    simp
theorem join_flat (ws : List (List UInt8)) (x : List UInt8) : Lib.join (ws ++ [x]) [32] = (ws.map (· ++ [32])).flatten ++ x := by
  cases ws with
  | nil => rw [List.nil_append, Lib.join_cons]; simp [Lib.joinTail]
  | cons y r => rw [List.cons_append, Lib.join_cons, joinTail_flat]; simp
theorem why_flat {t : List Nd} {row : List Int} {l : List Int} {p : Int} (h : pathV t row = l ++ [p]) : whyV t row = flatW t row l ++ wordAt t row p := by
  unfold whyV wordsV flatW
  rw [h, List.map_append, List.map_cons, List.map_nil, join_flat, List.map_map]
  rfl
theorem flatW_next (t : List Nd) (row : List Int) (l : List Int) (p : Int) : flatW t row (l ++ [p]) = flatW t row l ++ (wordAt t row p ++ [32]) := by
  unfold flatW
  simp
theorem flatW_len {t : List Nd} {row : List Int} : ∀ (l : List Int), (∀ p ∈ l, (wordAt t row p).length ≤ 46) → (flatW t row l).length ≤ l.length * 47 := by
  intro l
  induction l with
  | nil => intro _; simp [flatW]
  | cons x r ih =>
    intro h
    have h1 := ih fun p hp => h p (List.mem_cons_of_mem _ hp)
    have h2 := h x (List.mem_cons_self ..)
    have e : flatW t row (x :: r) = (wordAt t row x ++ [32]) ++ flatW t row r := by simp [flatW]
    have e3 : (x :: r).length * 47 = r.length * 47 + 47 := by rw [List.length_cons, Nat.add_mul, Nat.one_mul]
    rw [e, e3, List.length_append, List.length_append]
    simp only [List.length_cons, List.length_nil]
    omega

set_option maxRecDepth 100000 in
set_option maxHeartbeats 4000000 in
theorem rwhy_any (A C : Option Addr) (m d k q : Nat) (t : List Nd) (row : List Int) (w : World) (ht : NReads w w.heap.size A m t) (hr : IReads w w.heap.size C k row) (h0 : readyE t row = 0) :
    Calls Tryz.prog 6 #[.slice A m d, .slice C k q] w fun e w' => e = .returned (.string (bt (whyV t row))) ∧ Below w.heap.size w w' := by
  obtain ⟨hrow, hR, h8⟩ := readyE_right h0
  have hlen := ht.len
  have hkl := hr.len
  have hpos := hR.pos
  have hm63 : m ≤ 63 := by have := hR.most; omega
  have hpV : pathV t row = 0 :: wayFrom t row m 0 := by unfold pathV; rw [if_pos h0, hlen]
  have hpl : (pathV t row).length ≤ 11 := pathV_le hR h0
  have hRL := hide (rleaf_any A C m d k q t row w ht hr (by omega) hm63 (by omega) hR.behind (fun i n hn hf => by
    rcases node_of (hR.node i n hn) with h | h
    · exact absurd h.1 hf
    · exact ⟨h.1, by have := h.2.1; omega⟩))
  unfold RLPost at hRL
  rw [hlen] at hRL
  have HV := hide hpV
  obtain ⟨V, hV⟩ : ∃ V, V = 0 :: wayFrom t row m 0 := ⟨_, rfl⟩
  rw [← hV] at hRL
  have HPV : Hid (pathV t row = V) := hide (by rw [hpV, hV])
  rw [hpV, ← hV] at hpl
  have HVW : Hid ([] ++ (((0 : Nat) : Int) :: wayFrom t row m 0) = V) := hide (by rw [hV]; rfl)
  have HR := hide hR
  have HM := hide hlen
  have HKL := hide hkl
  have hm0 : 0 < m := by omega
  clear h0 hrow hR hlen hkl hpos hpV hV
  go_enter Tryz.func6, Tryz.ntmps6
  go_wp2_with fail
  refine (unhide hRL).mono ?_
  rintro e w1 ⟨v, rfl, hown, hb1⟩
  obtain ⟨Ap, cp, rfl, hpr, _, _⟩ := own_slice hown
  have hpr := hide hpr
  have hz1 := hb1.size
  have ht1 := ht.below hb1
  have hr1 := hr.below hb1
  clear hRL hown ht hr
  go_wp2_with fail
  go_loopw [7, 8] (fun v7 v8 wr => ∃ (l : List Int) (p F : Nat), p < m ∧ m ≤ p + F ∧ v8 = .int .i64 (l.length : Nat) ∧ v7 = .string (bt (flatW t row l)) ∧ (∀ x ∈ l, (wordAt t row x).length ≤ 46) ∧ Hid (l ++ ((p : Int) :: wayFrom t row F p) = V) ∧ Below w1.heap.size w1 wr) (fun _ v8 _ => V.length - (intOf v8).toNat)
  case atStart => exact ⟨[], 0, m, hm0, by omega, rfl, rfl, (fun x hx => by cases hx), HVW, Below.refl _ _⟩
  case round =>
    obtain ⟨l, p, F, hpm, hF, rfl, rfl, hw46, HW, hbel⟩ := hrel
    have hsz := hbel.size
    have hlV : l.length + 1 ≤ V.length := by rw [← unhide HW, List.length_append, List.length_cons]; omega
    have hfl := flatW_len l hw46
    have hxp : V[l.length]? = some (p : Int) := by rw [← unhide HW, List.getElem?_append_right (Nat.le_refl _), Nat.sub_self]; rfl
    obtain ⟨bp, op, x, rfl, hbp, hx, hcx⟩ := (show IReads w1 w1.heap.size Ap V.length V from unhide hpr).get (show l.length < V.length by omega)
    obtain rfl : (p : Int) = x := Option.some.inj (hxp.symm.trans hx)
    have kx := (hbel.cell (p := ⟨bp, op + l.length, none⟩) hbp).trans hcx
    obtain ⟨bt0, ot, n, rfl, hbt, hn, k0, k1, k2, k3, k4, k5⟩ := (ht1.below (hbel.mono hz1)).get hpm
    have hwat : Hid (wordAt t row (p : Int) = wordN row n) := hide (by unfold wordAt; rw [Int.toNat_natCast, hn])
    have hnode := node_of ((unhide HR).node p n hn)
    have HN := hide hn
    obtain ⟨nf, nc, nl, nr0, nb, nv⟩ := n
    dsimp only at k0 k1 k2 k3 k4 k5 hnode
    have hj9 : l.length < V.length := by omega
    have hS : (bt (flatW t row l)).size ≤ 600 := by rw [bt_size]; omega
    obtain ⟨S, hSd⟩ : ∃ S, S = bt (flatW t row l) := ⟨_, rfl⟩
    rw [← hSd] at hS ⊢
    have HS := hide hSd
    clear hx hcx hn hxp hfl hSd
    by_cases hf : nf = -1
    · have hbf : (nf == -1) = true := by simp [hf]
      have hvb : -1000000 ≤ nv ∧ nv ≤ 1000000 := by
        rcases hnode with h | h
        · exact ⟨h.2.1, h.2.2.1⟩
        · omega
      obtain ⟨v1, v2⟩ := hvb
      have hil : (bt (Lib.itoa nv)).size ≤ 21 := by rw [bt_size]; exact Lib.itoa_length_le nv (by omega) (by omega)
      have HZ : Hid (bt (whyV t row) = S ++ ⟨#[61]⟩ ++ bt (Lib.itoa nv)) := hide (by
        have h1 := unhide HW
        rw [wayFrom_leaf (unhide HN) hf] at h1
        rw [why_flat ((unhide HPV).trans h1.symm), unhide hwat, ← bt_app, unhide HS, show wordN row ⟨nf, nc, nl, nr0, nb, nv⟩ = [61] ++ Lib.itoa nv by unfold wordN; rw [if_pos hf], ← bt_app, ← ByteArray.append_assoc]; rfl)
      clear hf hnode
      go_wp2_with fail
      refine (rdigits_any nv _ (by omega) (by omega)).mono ?_
      rintro e w3 ⟨rfl, rfl⟩
      go_wp2_with fail
      go_ret
      exact ⟨by rw [unhide HZ]; rfl, hb1.trans ((hbel.mono hz1).alloc (by omega) _)⟩
    · have hbf : (nf == -1) = false := by simp [hf]
      obtain ⟨f1, f2, c1, c2⟩ : 0 ≤ nf ∧ nf < row.length ∧ -1000000 ≤ nc ∧ nc ≤ 1000000 := by
        rcases hnode with h | h
        · exact absurd h.1 hf
        · exact ⟨h.1, h.2.1, h.2.2.1, h.2.2.2.1⟩
      obtain ⟨j2, hj2, hlt, hjm⟩ := nextOf_lt (c := cellAt row nf) (unhide HR).behind (unhide HN) hf
      rw [unhide HM] at hjm
      obtain ⟨F2, rfl⟩ : ∃ F2, F = F2 + 1 := ⟨F - 1, by omega⟩
      have HF2 : Hid ((l ++ [(p : Int)]) ++ ((j2 : Int) :: wayFrom t row F2 j2) = V) := hide (by
        have h1 := unhide HW
        rw [wayFrom_step (unhide HN) hf, hj2, Int.toNat_natCast] at h1
        rw [← h1]; simp)
      have h8' : row.length ≤ 8 := by have := (unhide HR).fe8; omega
      have hfk : nf.toNat < k := by have := unhide HKL; omega
      obtain ⟨br, orr, x, rfl, hbr, hxr, cxr⟩ := (hr1.below (hbel.mono hz1)).get hfk
      have hca : cellAt row nf = x := by unfold cellAt; rw [List.getD_eq_getElem?_getD, hxr]; rfl
      obtain ⟨fn, hfn⟩ : ∃ fn : Nat, nf = fn := ⟨nf.toNat, by omega⟩
      subst hfn
      rw [Int.toNat_natCast] at hfk cxr
      have hif : (bt (Lib.itoa (fn : Int))).size ≤ 21 := by rw [bt_size]; exact Lib.itoa_length_le _ (by omega) (by omega)
      have hic : (bt (Lib.itoa nc)).size ≤ 21 := by rw [bt_size]; exact Lib.itoa_length_le _ (by omega) (by omega)
      have hrow : br < wr.heap.size := by omega
      have hfn8 : fn < 8 := by have := unhide HKL; omega
      have cxa := cell_alloc cxr hrow
      have hw46' : ∀ y ∈ l ++ [(p : Int)], (wordAt t row y).length ≤ 46 := fun y hy => by
        rcases List.mem_append.1 hy with hy | hy
        · exact hw46 y hy
        · rw [List.mem_singleton.1 hy, unhide hwat]
          have b1 : -1000000 ≤ nv ∧ nv ≤ 1000000 := by
            rcases hnode with h | h
            · exact ⟨h.2.1, h.2.2.1⟩
            · omega
          exact wordN_len (n := ⟨fn, nc, nl, nr0, nb, nv⟩) b1 ⟨show (-1 : Int) ≤ (fn : Int) by omega, show (fn : Int) ≤ 8 by omega⟩ ⟨c1, c2⟩
      have hlen1 : Hid (((l ++ [(p : Int)]).length : Nat) = l.length + 1) := hide (by simp)
      by_cases hx0 : x = -1125899906842624
      · have hbx : (x == -1125899906842624) = true := by simp [hx0]
        have HZ : Hid (bt (flatW t row (l ++ [(p : Int)])) = S ++ ⟨#[102]⟩ ++ bt (Lib.itoa (fn : Int)) ++ ⟨#[63, 32]⟩) := hide (by
          rw [flatW_next, unhide hwat, show wordN row ⟨fn, nc, nl, nr0, nb, nv⟩ = [102] ++ Lib.itoa fn ++ [63] by unfold wordN; rw [if_neg hf, if_pos (by rw [hca]; exact hx0)], unhide HS, show (⟨#[102]⟩ : ByteArray) = bt [102] from rfl, show (⟨#[63, 32]⟩ : ByteArray) = bt [63, 32] from rfl, bt_app, bt_app, bt_app]
          simp)
        clear hf hnode hxr hca hx0 hw46
        go_wp2_with fail
        refine (rdigits_any (fn : Int) _ (by omega) (by omega)).mono ?_
        rintro e w3 ⟨rfl, rfl⟩
        go_wp2_with fail
        refine (rdigits_any nc _ (by omega) (by omega)).mono ?_
        rintro e w3 ⟨rfl, rfl⟩
        go_wp2_with fail
        refine (rnone_any x _).mono ?_
        rintro e w3 ⟨rfl, rfl⟩
        go_wp2_with fail
        go_roundw
        case rel => exact ⟨l ++ [(p : Int)], j2, F2, hjm, by omega, by rw [unhide hlen1]; go_num, by rw [unhide HZ], hw46', HF2, hbel.alloc hsz _⟩
        case measure => simp [intOf]; omega
      · have hbx : (x == -1125899906842624) = false := by simp [hx0]
        by_cases hxc : x < nc
        · have hdx : decide (x < nc) = true := by simpa using hxc
          have HZ : Hid (bt (flatW t row (l ++ [(p : Int)])) = S ++ ⟨#[102]⟩ ++ bt (Lib.itoa (fn : Int)) ++ ⟨#[60]⟩ ++ bt (Lib.itoa nc) ++ ⟨#[32]⟩) := hide (by
            rw [flatW_next, unhide hwat, show wordN row ⟨fn, nc, nl, nr0, nb, nv⟩ = [102] ++ Lib.itoa fn ++ [60] ++ Lib.itoa nc by unfold wordN; rw [if_neg hf, if_neg (by rw [hca]; exact hx0), if_pos (by rw [hca]; exact hxc)], unhide HS, show (⟨#[102]⟩ : ByteArray) = bt [102] from rfl, show (⟨#[60]⟩ : ByteArray) = bt [60] from rfl, show (⟨#[32]⟩ : ByteArray) = bt [32] from rfl, bt_app, bt_app, bt_app, bt_app, bt_app]
            simp)
          clear hf hnode hxr hca hx0 hw46
          go_wp2_with fail
          refine (rdigits_any (fn : Int) _ (by omega) (by omega)).mono ?_
          rintro e w3 ⟨rfl, rfl⟩
          go_wp2_with fail
          refine (rdigits_any nc _ (by omega) (by omega)).mono ?_
          rintro e w3 ⟨rfl, rfl⟩
          go_wp2_with fail
          refine (rnone_any x _).mono ?_
          rintro e w3 ⟨rfl, rfl⟩
          go_wp2_with fail
          go_quiet (fail)
          go_wp2_with fail
          go_roundw
          case rel => exact ⟨l ++ [(p : Int)], j2, F2, hjm, by omega, by rw [unhide hlen1]; go_num, by rw [unhide HZ], hw46', HF2, below_drewN (hbel.alloc hsz _) _⟩
          case measure => simp [intOf]; omega
        · have hdx : decide (x < nc) = false := by simpa using hxc
          have HZ : Hid (bt (flatW t row (l ++ [(p : Int)])) = S ++ ⟨#[102]⟩ ++ bt (Lib.itoa (fn : Int)) ++ ⟨#[62, 61]⟩ ++ bt (Lib.itoa nc) ++ ⟨#[32]⟩) := hide (by
            rw [flatW_next, unhide hwat, show wordN row ⟨fn, nc, nl, nr0, nb, nv⟩ = [102] ++ Lib.itoa fn ++ [62, 61] ++ Lib.itoa nc by unfold wordN; rw [if_neg hf, if_neg (by rw [hca]; exact hx0), if_neg (by rw [hca]; exact hxc)], unhide HS, show (⟨#[102]⟩ : ByteArray) = bt [102] from rfl, show (⟨#[62, 61]⟩ : ByteArray) = bt [62, 61] from rfl, show (⟨#[32]⟩ : ByteArray) = bt [32] from rfl, bt_app, bt_app, bt_app, bt_app, bt_app]
            simp)
          clear hf hnode hxr hca hx0 hw46
          go_wp2_with fail
          refine (rdigits_any (fn : Int) _ (by omega) (by omega)).mono ?_
          rintro e w3 ⟨rfl, rfl⟩
          go_wp2_with fail
          refine (rdigits_any nc _ (by omega) (by omega)).mono ?_
          rintro e w3 ⟨rfl, rfl⟩
          go_wp2_with fail
          refine (rnone_any x _).mono ?_
          rintro e w3 ⟨rfl, rfl⟩
          go_wp2_with fail
          go_quiet (fail)
          go_wp2_with fail
          go_roundw
          case rel => exact ⟨l ++ [(p : Int)], j2, F2, hjm, by omega, by rw [unhide hlen1]; go_num, by rw [unhide HZ], hw46', HF2, below_drewN (hbel.alloc hsz _) _⟩
          case measure => simp [intOf]; omega
end Go.Proofs.YtibbohebmmahmaaGreatDoor
/- Appending one element where another row of the call's own lies beside. Conditions: as each lemma names. -/
namespace Go.Proofs.YtibbohebmmahmaaGreatDoor
set_option linter.unusedVariables false
set_option linter.unusedSimpArgs false
open Go.RowKit

theorem app_one2 {P : Program} {T E : TypeId} {z : Value} {size bytes : Nat} (hE : Elem P T E z size bytes) {ops : Array Oper} {rest : List Oper} {o : Oper} {a : Act} {Q : Exit → Act → World → Prop} {wr : World}
    (s x : Operand) (cs : List Value) (hgd : o.guard = none) (ho : o.op = .call { callee := .builtin .append, args := #[s, x], argTypes := #[T, T] })
    {base : Nat} {v : Value} {n : Nat} {xs : List Value} (hs : a.eval s = v) (hown : wr.ownsRow base E size v n xs) {g : Nat} (hx : a.eval x = .slice (some ⟨g, 0, none⟩) 1 1) (hgs : wr.heap.size = g)
    (hcs : cs.length = size) (h1 : ∀ u ∈ cs, u.oneCell' = true) (hn : n < 1000000000) (hbase : base ≤ wr.heap.size)
    (h : ∀ v' w', w'.ownsRow base E size v' (n + 1) (xs ++ cs) → Below base wr w' → wr.grownBy w' v.ownBlock → (v'.ownBlock = v.ownBlock ∨ v'.ownBlock = some (wr.heap.size + 1)) → wpList P ops Q rest (a.put o.dst v') w') : wpList P ops Q (o :: rest) a (wr.alloc (.cells cs.toArray E)) := by
  subst hgs
  obtain ⟨i, hi, hz, hsz, hby⟩ := info_parts hE.info
  have hw := hE.wide
  refine wpList_append_any _ hgd s x T ho base E i z size bytes hE.und hi hz hsz hby hE.zs hE.pos v n xs hs (hown.alloc _) (wr.heap.size + 1) (some ⟨wr.heap.size, 0, none⟩) 1 1 cs hx (Reads.new_ wr size 1 cs E (by omega)) h1 (by unfold maxLen; omega) ?_ (by simp; omega) ?_
  · have : (n + 1) * bytes ≤ (n + 1) * 1000 := Nat.mul_le_mul_left _ hw
    omega
  · intro v' w' h2 h3 h4
    refine h v' w' h2 (((Below.refl base wr).alloc hbase _).grown h3 (by simp; omega) (own_block_ge hown)) ?_ (by rwa [World.size_alloc] at h4)
    exact ⟨h3.os, h3.tape, h3.output, Nat.le_trans (by simp) h3.size, fun k hk hne => (h3.block k (by simp; omega) hne).trans (Below.heap_alloc wr _ k hk)⟩

/-- two rows lie apart -/
def Apart (u v : Value) : Prop := ∀ k, u.ownBlock = some k → v.ownBlock ≠ some k
theorem Apart.symm {u v : Value} (h : Apart u v) : Apart v u := fun k hk e => h k e hk
theorem Apart.nil_ (v : Value) (n c : Nat) : Apart (.slice none n c) v := fun k hk => by simp [Value.ownBlock] at hk
/-- behind an append onto the one row the other is as it was, and they lie apart still -/
theorem own_aside {wr w' : World} {base base' : Nat} {e e' : TypeId} {size size' n n' : Nat} {v u v' : Value} {xs xs' : List Value} (hu : wr.ownsRow base e size u n xs) (hv : wr.ownsRow base' e' size' v n' xs') (ha : Apart u v) (hg : wr.grownBy w' v.ownBlock) (hn : v'.ownBlock = v.ownBlock ∨ v'.ownBlock = some (wr.heap.size + 1)) :
    w'.ownsRow base e size u n xs ∧ Apart u v' := by
  constructor
  · refine hu.kept hg ?_
    rcases hb : u.ownBlock with _ | k
    · exact .inl rfl
    · exact .inr fun e => ha k hb e.symm
  · intro k hk e
    rcases hn with hn | hn
    · exact ha k hk (by rw [← hn]; exact e)
    · rw [e] at hn
      injection hn with hn
      have := (hu.lt k hk).2
      omega
end Go.Proofs.YtibbohebmmahmaaGreatDoor
