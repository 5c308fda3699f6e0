/- Part 24 of what LawPathTells needs: Reach2, SameSp. Conditions: as each lemma names. -/
import Derived.Test.YtibbohebmmahmaaGreatDoorPkPathTells23
import Derived.Test.YtibbohebmmahmaaGreatDoorPkPathTells21
import Derived.Laws.StructEq
/- path.Reach. Conditions: as each lemma names. -/
namespace Go.Proofs.YtibbohebmmahmaaGreatDoor
set_option linter.unusedVariables false
set_option linter.unusedSimpArgs false
open Go.RowKit

/-- append of one element onto a row of the call's own: and where it lies -/
theorem app_one_at {P : Program} {T E : TypeId} {z : Value} {size bytes : Nat} (hE : Elem P T E z size bytes) {ops : Array Oper} {rest : List Oper} {o : Oper} {a : Act} {Q : Exit → Act → World → Prop} {wr : World}
    (s x : Operand) (cs : List Value) (hgd : o.guard = none) (ho : o.op = .call { callee := .builtin .append, args := #[s, x], argTypes := #[T, T] })
    {base : Nat} {v : Value} {n : Nat} {xs : List Value} (hs : a.eval s = v) (hown : wr.ownsRow base E size v n xs) {g : Nat} (hx : a.eval x = .slice (some ⟨g, 0, none⟩) 1 1) (hgs : wr.heap.size = g)
    (hcs : cs.length = size) (h1 : ∀ u ∈ cs, u.oneCell' = true) (hn : n < 1000000000) (hbase : base ≤ wr.heap.size)
    (h : ∀ v' w', w'.ownsRow base E size v' (n + 1) (xs ++ cs) → Below base wr w' → (wr.alloc (.cells cs.toArray E)).grownBy w' v.ownBlock → (v'.ownBlock = v.ownBlock ∨ v'.ownBlock = some (wr.heap.size + 1)) → wpList P ops Q rest (a.put o.dst v') w') : wpList P ops Q (o :: rest) a (wr.alloc (.cells cs.toArray E)) := by
  subst hgs
  obtain ⟨i, hi, hz, hsz, hby⟩ := info_parts hE.info
  have hw := hE.wide
  refine wpList_append_any _ hgd s x T ho base E i z size bytes hE.und hi hz hsz hby hE.zs hE.pos v n xs hs (hown.alloc _) (wr.heap.size + 1) (some ⟨wr.heap.size, 0, none⟩) 1 1 cs hx (Reads.new_ wr size 1 cs E (by omega)) h1 (by unfold maxLen; omega) ?_ (by simp; omega) ?_
  · have : (n + 1) * bytes ≤ (n + 1) * 1000 := Nat.mul_le_mul_left _ hw
    omega
  · intro v' w' h2 h3 h4
    refine h v' w' h2 (((Below.refl base wr).alloc hbase _).grown h3 (by simp; omega) (own_block_ge hown)) h3 ?_
    rwa [World.size_alloc] at h4

def reachX (ys : List (Nat × List Sp)) : List Int := (ys.filter fun p => anyB p.2).map fun p => (p.1 : Int)
theorem reachX_add (ys : List (Nat × List Sp)) (k : Nat) (l : List Sp) : reachX (ys ++ [(k, l)]) = reachX ys ++ if anyB l then [(k : Int)] else [] := by
  unfold reachX
  rw [List.filter_append, List.map_append, List.filter_cons]
  dsimp only
  split <;> simp
theorem reachX_len (ys : List (Nat × List Sp)) : (reachX ys).length ≤ ys.length := by unfold reachX; rw [List.length_map]; exact List.length_filter_le _ _
def ReT (go : Nat) : World → Nat → Prop := fun w g => g = go ∨ ∃ v, w.cell? ⟨go, 0, none⟩ = some v ∧ v.ownBlock = some g
def ReJ (go B0 : Nat) (ys : List (Nat × List Sp)) (w : World) : Prop := ∃ v, Blk w go 23 #[v] ∧ IOwn w B0 v (reachX ys)
theorem own_lt {w : World} {base : Nat} {e : TypeId} {size n : Nat} {v : Value} {xs : List Value} (h : w.ownsRow base e size v n xs) : ∀ k, v.ownBlock = some k → k < w.heap.size := by
  intro k hk
  rcases h.2 with ⟨rfl, _⟩ | ⟨g, cap, cur, rfl, hg, hh, _⟩
  · simp [Value.ownBlock] at hk
  · simp [Value.ownBlock] at hk; subst hk; exact Blk.lt (t := e) hh
theorem re_ear (go B0 : Nat) (h : B0 ≤ go) : Ear (ReT go) (ReJ go B0) B0 :=
  ⟨fun pre w k hJ hk => by
    obtain ⟨v, hv, ho⟩ := hJ
    rcases hk with rfl | ⟨u, hu, he⟩
    · exact ⟨hv.lt, h⟩
    · have := hv.cell 0
      rw [hu] at this
      simp at this
      subst this
      exact ⟨own_lt ho k he, own_block_ge ho k he⟩, fun pre w w' hJ hb => by
    obtain ⟨v, hv, ho⟩ := hJ
    refine ⟨⟨v, hv.below hb hv.lt, ho.below hb (Nat.le_refl _)⟩, fun g hg => ?_⟩
    rcases hg with rfl | ⟨u, hu, he⟩
    · exact .inl rfl
    · exact .inr ⟨u, by rw [← hu]; exact (hb.cell (p := ⟨go, 0, none⟩) hv.lt).symm, he⟩⟩
set_option maxRecDepth 100000 in
theorem re1_step (go n B0 : Nat) (hn : n ≤ 100000000) (h : B0 ≤ go) (pre : List (Nat × List Sp)) (hp : pre.length ≤ 1000000) (k : Nat) (l : List Sp) (A : Option Addr) (c : Nat) (w : World) (hB0 : B0 ≤ w.heap.size) (hJ : ReJ go B0 pre w) (hl : SReads w w.heap.size A n l) (hk : k ≤ maxLen) :
    Calls Tryz.prog 37 #[.int .i64 k, .slice A n c, .pointer (some ⟨go, 0, none⟩)] w (Hear (ReT go) (ReJ go B0) (pre ++ [(k, l)]) w) := by
  have hE := re_ear go B0 h
  unfold maxLen at hk
  by_cases ha : anyB l = true
  · have HX : Hid (reachX (pre ++ [(k, l)]) = reachX pre ++ [(k : Int)]) := hide (by rw [reachX_add, if_pos ha])
    go_enter Tryz.func37, Tryz.ntmps37
    go_wp2_with fail
    refine (any_any A n c w.heap.size l _ hl (Nat.le_refl _) hn).mono ?_
    rintro e w2 ⟨rfl, hb2⟩
    rw [ha]
    obtain ⟨hJ2, hT2⟩ := hE.keep pre w w2 hJ hb2
    obtain ⟨v, hv, ho⟩ := hJ2
    have c0 := hv.cell 0
    have f0 := hv.frozen 0
    simp at c0
    have hlt := hv.lt
    have hz2 := hb2.size
    have hk9 : (reachX pre).length < 1000000000 := by have := reachX_len pre; omega
    have hne : v.ownBlock ≠ some go := own_blk_ne ho hv (by decide)
    clear hJ ha
    go_wp2_with (at_builtin; refine app_one_at elem_int (.tmp 7) (.tmp 9) [.int .i64 k] rfl rfl rfl ho rfl rfl rfl (ints_oneCell .i64 [(k : Int)]) hk9 (by omega) ?_; intro v' w3 hown3 hb3 hg3 hat; obtain ⟨vA, vc, rfl, _, _, _⟩ := own_slice hown3; have hv3 : Blk w3 go 23 #[v] := (hv.alloc (.cells #[.int .i64 k] 3)).grown (row := v.ownBlock) hg3 (fun e => hne e.symm); have c3 := hv3.cell 0; have f3 := hv3.frozen 0; simp at c3; have hat' : (Value.slice vA ((reachX pre).length + 1) vc).ownBlock = v.ownBlock ∨ (Value.slice vA ((reachX pre).length + 1) vc).ownBlock = some (w2.heap.size + 1) := hat; have hg4 : (w2.alloc (.cells #[.int .i64 k] 3)).grownBy w3 v.ownBlock := hg3; clear hat hg3)
    go_end0
    have hvo : v.ownBlock ≠ none → ∀ g, v.ownBlock = some g → ReT go w2 g := fun _ g e => .inr ⟨v, c0, e⟩
    have hts : Touch (ReT go) w2 (w3.setCell ⟨go, 0, none⟩ (.slice vA ((reachX pre).length + 1) vc)) := by
      have hz3 := hg4.size
      rw [World.size_alloc] at hz3
      refine ⟨hg4.os, hg4.tape, hg4.output, by simp [World.setCell]; omega, fun g hg hn => ?_, fun g hg ht => ?_⟩
      · rw [Below.heap_setCell _ _ _ _ (fun e => hn (.inl e)), hg4.block g (by rw [World.size_alloc]; omega) (fun e => hn (.inr ⟨v, c0, e.symm⟩))]
        exact Below.heap_alloc _ _ _ hg
      · rcases ht with e | ⟨u, hu, he⟩
        · exact .inl e
        · rw [World.cell?_setCell_same' _ _ _ (by rw [c3]; rfl)] at hu
          cases hu
          rcases hat' with h9 | h9
          · exact .inr ⟨v, c0, by rw [← h9]; exact he⟩
          · rw [h9] at he; cases he; omega
    refine ⟨⟨_, rfl⟩, ⟨.slice vA ((reachX pre).length + 1) vc, by simpa using hv3.set_ 0 (.slice vA ((reachX pre).length + 1) vc), ?_⟩, (Touch.of_below hb2 hT2).trans hts⟩
    rw [unhide HX]
    have h5 : IOwn w3 B0 (.slice vA ((reachX pre).length + 1) vc) (reachX pre ++ [(k : Int)]) := by
      unfold IOwn
      rw [List.length_append, List.map_append]
      exact hown3
    refine World.ownsRow.kept h5 (w := w3) (row := some go) ⟨rfl, rfl, rfl, by simp [World.setCell], fun g hg hn => Below.heap_setCell _ _ _ _ (fun e => hn (by rw [e]))⟩ ?_
    right
    exact own_blk_ne hown3 hv3 (by decide)
  · have ha2 : anyB l = false := by simpa using ha
    have HX : Hid (reachX (pre ++ [(k, l)]) = reachX pre) := hide (by rw [reachX_add, if_neg ha, List.append_nil])
    clear ha
    go_enter Tryz.func37, Tryz.ntmps37
    go_wp2_with fail
    refine (any_any A n c w.heap.size l _ hl (Nat.le_refl _) hn).mono ?_
    rintro e w2 ⟨rfl, hb2⟩
    rw [ha2]
    obtain ⟨hJ2, hT2⟩ := hE.keep pre w w2 hJ hb2
    go_wp2_with fail
    go_end0
    refine ⟨⟨_, rfl⟩, ?_, Touch.of_below hb2 hT2⟩
    obtain ⟨v, hv, ho⟩ := hJ2
    exact ⟨v, hv, by rw [unhide HX]; exact ho⟩

def reachV (t : List Nd) (fe : Int) : List Int := if treeE t fe = 0 then sortL (reachX (lv t t.length 0 (wideL fe.toNat))) else []
set_option maxRecDepth 100000 in
set_option maxHeartbeats 2000000 in
theorem Reach_any (A : Option Addr) (m d : Nat) (t : List Nd) (fe : Int) (w : World) (ht : NReads w w.heap.size A m t) (hm : m ≤ maxLen) :
    Calls Tryz.prog 16 #[.slice A m d, .int .i64 fe] w fun e w' => ∃ v, e = .returned (.tuple #[v, errV (treeE t fe)]) ∧ IOwn w' w.heap.size v (reachV t fe) ∧ Below w.heap.size w w' := by
  have hlen := ht.len
  by_cases h0 : treeE t fe = 0
  · have hR := right_of h0
    have hv := errV_0 h0
    have HV := hide hv
    obtain ⟨n, rfl⟩ : ∃ n : Nat, fe = n := ⟨fe.toNat, by have := hR.fe0; omega⟩
    have hn8 : n ≤ 8 := by have := hR.fe8; omega
    have hm0 : 0 < m := by have := hR.pos; omega
    have HE : Hid (reachV t n = sortL (reachX (lv t m 0 (wideL n)))) := hide (by unfold reachV; rw [if_pos h0, Int.toNat_natCast, hlen])
    have HR := hide hR
    have hl24 : (lv t m 0 (wideL n)).length ≤ 1024 := lv_1024 hR _ _
    clear hR h0
    go_enter Tryz.func16, Tryz.ntmps16
    go_wp2_with fail
    refine (check_any A m d n t _ ht hm).mono ?_
    rintro e w1 ⟨rfl, hb1⟩
    rw [hv]
    clear hv
    have hz1 := hb1.size
    have bo := Blk.new w1 23 #[.slice none 0 0]
    have hB2 : Below w.heap.size w (w1.alloc (.cells #[.slice none 0 0] 23)) := hb1.alloc hb1.size _
    have hs2 : (w1.alloc (.cells #[.slice none 0 0] 23)).heap.size = w1.heap.size + 1 := by simp
    go_wp2_with fail
    refine (wide_any n hn8 _).mono ?_
    rintro e w3 ⟨A3, k3, rfl, hr3, hA3, hnew3, hso3, hb3⟩
    rw [hs2] at hnew3 hb3
    have hB3 := hB2.trans (hb3.mono (by omega))
    have bo3 := bo.below hb3 (by omega)
    have hlv := leavesW_any (ReT w1.heap.size) (ReJ w1.heap.size w.heap.size) w.heap.size (re_ear _ _ (by omega)) 37 #[.pointer (some ⟨w1.heap.size, 0, none⟩)] (enters_of Tryz.func37 (by kernel_rfl) rfl) n (by omega) A m d t hm (unhide HR).behind (unhide HR).asks (unhide HR).fit.cut False 1024
      (fun pre k l' A' c' w' hy hJ hl' hc' hT' hS' hpl => by
        obtain ⟨y, hy, _⟩ := hy
        have hk := (List.getElem?_eq_some_iff.1 hy).1
        have hm63 := (unhide HR).most
        exact re1_step _ n w.heap.size (by omega) (by omega) pre (by omega) k l' A' c' w' (by obtain ⟨v, hv, _⟩ := hJ; have := hv.lt; omega) hJ hl' (by unfold maxLen; omega))
      m 0 (wideL n) [] A3 k3 w3 (by omega) hm0 (ht.below hB3) hB3.size ⟨_, bo3, IOwn.nil_ _ _⟩ hr3 hA3 (fun a e h => by
        have h1 := hnew3 a e
        have h2 := (re_ear w1.heap.size w.heap.size (by omega)).lt [] w3 a.block ⟨_, bo3, IOwn.nil_ _ _⟩ h
        rcases h with h | ⟨u, hu, he⟩
        · omega
        · have h3 := bo3.cell 0
          rw [hu] at h3
          simp at h3
          subst h3
          simp [Value.ownBlock] at he) (fun h => h.elim) (by simpa using hl24)
    go_wp2_with fail
    refine hlv.mono ?_
    clear hlv
    rintro e w4 ⟨⟨v4, rfl⟩, ⟨v, hv4, ho4⟩, hT4⟩
    have hB4 : Below w.heap.size w w4 := hB3.trans (hT4.below hB3.size (fun g hg => ((re_ear w1.heap.size w.heap.size (by omega)).lt [] w3 g ⟨_, bo3, IOwn.nil_ _ _⟩ hg).2))
    rw [List.nil_append] at ho4
    have c5 := hv4.cell 0
    simp at c5
    have hl5 : (reachX (lv t m 0 (wideL n))).length ≤ 1024 := Nat.le_trans (reachX_len _) hl24
    clear hT4 bo bo3 hr3 hso3 hb3 hB3 hB2 hb1
    go_wp2_with fail
    refine (sort_any v _ w.heap.size w4 ho4 hB4.size (by omega)).mono ?_
    rintro e w5 ⟨rfl, ho5, hg5, hb5⟩
    have hv5 : Blk w5 w1.heap.size 23 #[v] := hv4.grown hg5 (fun e => own_blk_ne ho4 hv4 (by decide) e.symm)
    have c6 := hv5.cell 0
    simp at c6
    go_wp2_with fail
    go_ret2
    exact ⟨v, by rw [unhide HV]; rfl, by rw [unhide HE]; exact ho5, hB4.trans hb5⟩
  · have hv := errV_1 h0
    have HV := hide hv
    have HE : Hid (reachV t fe = []) := hide (by unfold reachV; rw [if_neg h0])
    clear h0
    go_enter Tryz.func16, Tryz.ntmps16
    go_wp2_with fail
    refine (check_any A m d fe t _ ht hm).mono ?_
    rintro e w1 ⟨rfl, hb1⟩
    rw [hv]
    clear hv
    go_wp2_with fail
    go_ret2
    exact ⟨_, by rw [unhide HV]; rfl, by rw [unhide HE]; exact IOwn.nil_ _ _, hb1⟩
end Go.Proofs.YtibbohebmmahmaaGreatDoor
/- orchsame.Spans of two lists that are the same; what is reached, counted by its places. Conditions: arguments read as spans; a right tree. -/
namespace Go.Proofs.YtibbohebmmahmaaGreatDoor
set_option linter.unusedVariables false
set_option linter.unusedSimpArgs false
open Go.RowKit

def atReach (t : List Nd) (n : Nat) (j : Nat) : Bool := isLeafB t j && anyB (regR t n j)
def reachTo (t : List Nd) (n k : Nat) : List Int := ((List.range k).filter (atReach t n)).map fun j : Nat => (j : Int)
theorem reachTo_next (t : List Nd) (n k : Nat) : reachTo t n (k + 1) = reachTo t n k ++ (if atReach t n k then [(k : Int)] else []) := by
  unfold reachTo
  rw [List.range_succ, List.filter_append, List.map_append, List.filter_cons]
  split <;> rfl
theorem reachTo_len (t : List Nd) (n k : Nat) : (reachTo t n k).length ≤ k := by
  unfold reachTo
  rw [List.length_map]
  exact Nat.le_trans (List.length_filter_le _ _) (by simp)
theorem reach_range {t : List Nd} {n : Nat} (hR : Right t n) (h0 : treeE t n = 0) : reachV t n = reachTo t n t.length := by
  unfold reachV reachX
  rw [if_pos h0, Int.toNat_natCast]
  symm
  have e : ((lv t t.length 0 (wideL n)).filter fun p => anyB p.2).map (fun p => (p.1 : Int)) = ((idx t t.length 0).filter (fun j => anyB (regR t n j))).map (fun j : Nat => (j : Int)) := by
    rw [← lv_idx t t.length 0 (wideL n), List.filter_map, List.map_map]
    have : ((lv t t.length 0 (wideL n)).filter fun p => anyB p.2) = (lv t t.length 0 (wideL n)).filter ((fun j => anyB (regR t n j)) ∘ (·.1)) := List.filter_congr fun p hp => by
      have h1 : p.2 = regR t n p.1 := lv_climb hR _ p hp
      rw [h1]; rfl
    rw [this]; rfl
  rw [e]
  refine sortL_of ?_ ?_
  · unfold reachTo
    refine List.Perm.map _ ?_
    have h1 := (idx_perm hR).filter (fun j => anyB (regR t n j))
    rw [List.filter_filter] at h1
    refine List.Perm.trans (List.Perm.of_eq (List.filter_congr fun j _ => ?_)) h1.symm
    exact Bool.and_comm _ _
  · unfold reachTo
    rw [List.pairwise_map]
    exact (List.pairwise_lt_range.filter _).imp fun h => by omega
theorem same_span (l h : Int) (b : Bool) (W : World) : (binOp .neq 44 (.agg #[.int .i64 l, .int .i64 h, .bool b]) (.agg #[.int .i64 l, .int .i64 h, .bool b])).run Tryz.prog W = .ok (.bool false) W := by
  have u := Tryz.underlying44
  have ui := Tryz.underlying3
  have ub := Tryz.underlying4
  rw [run_neq_struct, run_equalIn_agg _ _ _ _ _ (by unfold Program.fieldsOf; rw [u]) (by kernel_rfl)]
  simp only [Program.fieldsOf, u]
  simp [Op.eqFields, part, go_sem, ui, ub]
set_option maxRecDepth 100000 in
set_option maxHeartbeats 1000000 in
theorem sameSpans_any (A C : Option Addr) (n ca cc : Nat) (xs : List Sp) (w : World) (BA BC : Nat) (ha : SReads w BA A n xs) (hc : SReads w BC C n xs) (hn : n ≤ maxLen) :
    Calls Tryz.prog 15 #[.slice A n ca, .slice C n cc] w fun e w' => e = .returned (.bool true) ∧ ∃ q, w' = w.drewN q := by
  unfold maxLen at hn
  have e0 : ((n : Int) != (n : Int)) = false := by simp
  go_enter Tryz.func15, Tryz.ntmps15
  go_wp2
  go_loopw [5] (fun i wr => ∃ k q : Nat, k ≤ n ∧ i = .int .i64 k ∧ wr = w.drewN q) (fun i _ => n - (intOf i).toNat)
  case atStart => exact ⟨0, 0, Nat.zero_le _, rfl, rfl⟩
  case round =>
    obtain ⟨k, q, hk, rfl, rfl⟩ := hrel
    by_cases hlt : k < n
    · obtain ⟨b, o, x, rfl, _, hx, c0, c1, c2⟩ := ha.get hlt
      obtain ⟨b2, o2, y, rfl, _, hy, d0, d1, d2⟩ := hc.get hlt
      rw [hx] at hy
      injection hy with hy
      subst hy
      obtain ⟨xl, xh, xb⟩ := x
      dsimp only at c0 c1 c2 d0 d1 d2
      have hneq := same_span xl xh xb
      clear hx
      go_wp2_with fail
      go_quiet (fail)
      go_wp2_with fail
      go_roundw
      case rel => exact ⟨k + 1, q + nq, by omega, by go_num, by first | rfl | rw [World.drewN_drewN]⟩
      case measure => simp [intOf]; omega
    · go_wp2
      go_ret
      exact ⟨rfl, q, rfl⟩
end Go.Proofs.YtibbohebmmahmaaGreatDoor
