/- log.encode: a call as bytes. Conditions: the call reads as a call; its texts are not too long. -/
import Derived.Test.YtijgiieoinmjhaaDoorCallP
import Derived.Deep.RegionHeld3
import Derived.Deep.CutRange
import Derived.Deep.RegionLaw
namespace Go.Proofs.YtijgiieoinmjhaaDoor
set_option linter.unusedVariables false
set_option linter.unusedSimpArgs false
open Go.RowKit

/-- a call as it lies in memory -/
structure Cv where
  c : Cl
  (A : Option Addr) (n cap : Nat)
instance : Inhabited Cv := ⟨⟨default, none, 0, 0⟩⟩
def Cv.cells (r : Cv) : List Value := [.int .i64 r.c.what, .int .i64 r.c.ses, .int .i64 r.c.seq, .string r.c.name, .int .i64 r.c.num, .int .i64 r.c.share, .slice r.A r.n r.cap]
def Cv.val (r : Cv) : Value := .agg #[.int .i64 r.c.what, .int .i64 r.c.ses, .int .i64 r.c.seq, .string r.c.name, .int .i64 r.c.num, .int .i64 r.c.share, .slice r.A r.n r.cap]
structure CvOk (w : World) (B : Nat) (r : Cv) : Prop where
  reads : BReads w B r.A r.n r.c.bytes
  len : r.n ≤ maxLen
  cap : r.n ≤ r.cap
  nil : r.A = none → r.cap = 0
section
variable {w w' : World} {B B' : Nat} {r : Cv}
theorem CvOk.below (h : CvOk w B r) (hb : Below B w w') : CvOk w' B r := ⟨Reads.below h.reads hb, h.len, h.cap, h.nil⟩
theorem CvOk.more (h : CvOk w B r) (hB : B ≤ B') : CvOk w B' r := ⟨Reads.more h.reads hB, h.len, h.cap, h.nil⟩
theorem CvOk.blen (h : CvOk w B r) : r.c.bytes.length = r.n := h.reads.len
end
theorem step_append_str {P : Program} (w : World) {ops : Array Oper} {o : Oper} {a : Act} {K : Act → World → Prop} {Q : Exit → Act → World → Prop} {E : Prop} (hgd : o.guard = none) (sl x : Operand) (t u : TypeId)
    (ho : o.op = .call { callee := .builtin .append, args := #[sl, x], argTypes := #[t, u] })
    (base : Nat) (e : TypeId) (i : TypeInfo) (ht : P.underlying t = some (.slice e)) (hu : P.underlying u = some .string) (hi : P.info? e = some i) (hz : i.zero = some (.int .u8 0))
    (hsize : i.size = 1) (hby : i.bytes = 1)
    (v : Value) (n : Nat) (xs : List Value) (hs : a.eval sl = v) (hown : w.ownsRow base e 1 v n xs) (s : ByteArray) (hx : a.eval x = .string s)
    (h63 : n + s.size ≤ maxLen) (hbytes : n + s.size ≤ 140737488355328) (hbase : base ≤ w.heap.size)
    (h : ∀ v' w', w'.ownsRow base e 1 v' (n + s.size) (xs ++ Lib.strCells s) → w.grownBy w' v.ownBlock → K (a.put o.dst v') w') :
    if Region.wanted o (yielded ops a.tmps) = true then Oper.wp P o a w K Q else E := by
  have hw : Region.wanted o (yielded ops a.tmps) = true := by simp [Region.wanted, hgd]
  rw [if_pos hw]
  obtain ⟨v', w', hr, h2, h3, h4⟩ := Lib.run_append_own_string (P := P) w base t u o.type e i ht hu hi hz hsize hby v n xs hown s h63 hbytes hbase
  unfold Oper.wp execOp
  simp only [ho, resolve, invoke, builtin, Sem.run_bind, Sem.run_pure, Result.andThen_ok, List.map_toArray, List.map_cons, List.map_nil, hs, hx, hr]
  exact h v' w' h2 h3

theorem nums_at (c : Cl) {k : Nat} (h : k < 6) : ∃ x, c.nums[k]? = some x ∧ ((c.nums.map (Value.int .i64)).toArray)[k]? = some (.int .i64 x) := by
  have hl : c.nums.length = 6 := rfl
  refine ⟨c.nums[k], List.getElem?_eq_getElem (by omega), ?_⟩
  rw [List.getElem?_toArray, List.getElem?_map, List.getElem?_eq_getElem (by omega)]
  rfl
def Nums64 (c : Cl) : Prop := ∀ x ∈ c.nums, In64 x

set_option maxRecDepth 100000 in
set_option maxHeartbeats 4000000 in
theorem encode_any (r : Cv) (w : World) (hr : CvOk w w.heap.size r) (h64 : Nums64 r.c) (h1 : r.c.name.size ≤ 2000000) (h2 : r.n ≤ 2000000) :
    Calls Tryd.prog 48 #[r.val] w (AddPost w.heap.size (recB r.c).length (recB r.c) w) := by
  have hbl := hr.blen
  obtain ⟨c, A, n, cap⟩ := r
  have hrd := hr.reads
  have hnil := hr.nil
  dsimp only at h64 h1 h2 hbl hrd hnil
  have HBL := hide hbl
  have H64 := hide h64
  have HE : Hid ((recB c) = enc ((bodyB c).length : Int) ++ bodyB c) := hide rfl
  have HBB : Hid (bodyB c = encs c.nums ++ nmL c.name ++ c.bytes) := hide rfl
  obtain ⟨W, hW⟩ : ∃ W, W = (w.alloc (.cells #[.int .i64 c.what, .int .i64 c.ses, .int .i64 c.seq, .string c.name, .int .i64 c.num, .int .i64 c.share, .slice A n cap] 53)).alloc (.cells #[.int .i64 c.what, .int .i64 c.ses, .int .i64 c.seq, .int .i64 c.num, .int .i64 c.share, .int .i64 (c.name.size : Int)] 3) := ⟨_, rfl⟩
  have hb1 : Blk W w.heap.size 53 #[.int .i64 c.what, .int .i64 c.ses, .int .i64 c.seq, .string c.name, .int .i64 c.num, .int .i64 c.share, .slice A n cap] := by rw [hW]; exact (Blk.new _ _ _).alloc _
  have hb2 : Blk W (w.heap.size + 1) 3 (c.nums.map (Value.int .i64)).toArray := by
    have := Blk.new (w.alloc (.cells #[.int .i64 c.what, .int .i64 c.ses, .int .i64 c.seq, .string c.name, .int .i64 c.num, .int .i64 c.share, .slice A n cap] 53)) 3 #[.int .i64 c.what, .int .i64 c.ses, .int .i64 c.seq, .int .i64 c.num, .int .i64 c.share, .int .i64 (c.name.size : Int)]
    rw [World.size_alloc] at this
    rw [hW]; exact this
  have hbW : Below w.heap.size w W := by rw [hW]; exact ((Below.refl _ _).alloc (Nat.le_refl _) _).alloc (by simp) _
  have hsW : W.heap.size = w.heap.size + 1 + 1 := by rw [hW]; simp
  simp only [Cv.val]
  clear hr hbl h64 HE
  go_enter Tryd.func48, Tryd.ntmps48
  go_wp2_with fail
  rw [← hW]
  clear hW
  go_loopw [3, 21] (fun v i wr => ∃ k : Nat, k ≤ 6 ∧ i = .int .i64 k ∧ Hid (wr.ownsRow W.heap.size 5 1 v (encs (c.nums.take k)).length ((encs (c.nums.take k)).map (Value.int .u8))) ∧ Below W.heap.size W wr) (fun _ i _ => 6 - (intOf i).toNat)
  case atStart => exact ⟨0, by omega, rfl, hide (by simpa [encs] using World.ownsRow_nil _ _ _ _), Below.refl _ _⟩
  case round =>
    obtain ⟨k, hk, rfl, HO, hbel⟩ := hrel
    have hsz := hbel.size
    by_cases hlt : k < 6
    · obtain ⟨x, hx, hxa⟩ := nums_at c hlt
      have cx := (hb2.below hbel (by omega)).cell k
      rw [hxa] at cx
      obtain ⟨q1, q2⟩ := unhide H64 x (List.mem_of_getElem? hx)
      obtain ⟨vA, vc, hv, hrv, _, _, hvn, _⟩ := own_slice2 (unhide HO)
      subst hv
      have hl := encs_len (c.nums.take k)
      rw [List.length_take] at hl
      have sn := hide (num_any vA _ vc wr.heap.size _ x wr hrv (Nat.le_refl _) (by omega) hvn q1 q2)
      rw [← encs_next hx] at sn
      clear hx hxa HO hrv hl
      go_wp2_with fail
      refine (unhide sn).mono ?_
      rintro e w2 ⟨v2, rfl, hown2, hb2'⟩
      have hown3 := own_base hown2 hsz
      go_wp2_with fail
      go_roundw
      case rel => exact ⟨k + 1, by omega, by go_num, hide hown3, hbel.trans (hb2'.mono hsz)⟩
      case measure => simp [intOf]; omega
    · obtain rfl : k = 6 := by omega
      have e6 : c.nums.take 6 = c.nums := rfl
      rw [e6] at HO
      have hbB := hbW.trans (hbel.mono (by omega))
      have c3 := (hb1.below hbel (by omega)).cell 3
      have c6 := (hb1.below hbel (by omega)).cell 6
      simp at c3 c6
      have hrd2 : BReads wr w.heap.size A n c.bytes := Reads.below hrd hbB
      obtain ⟨i0, hi0, hz0, hs0, hby0⟩ := info_parts elem_byte.info
      have hl6 := encs_len c.nums
      have h66 : c.nums.length = 6 := rfl
      have HL := hide hl6
      have hbl2 : (encs c.nums).length ≤ 60 := by omega
      have hown : wr.drew.ownsRow W.heap.size 5 1 u3 (encs c.nums).length ((encs c.nums).map (Value.int .u8)) := unhide HO
      have HLX : Hid (∀ w1, wr.drew.grownBy w1 u3.ownBlock → Below W.heap.size wr w1) := hide (fun w1 hg => (Below.refl W.heap.size wr).grown (row := u3.ownBlock) ⟨hg.os, hg.tape, hg.output, hg.size, hg.block⟩ hsz (own_block_ge hown))
      generalize encs c.nums = EN at *
      clear hl6 h66 HO H64 hrd e6
      go_upto_region 7 with (fail)
      go_region_law (first
        | (refine step_append_str _ rfl (.tmp 29) (.tmp 31) 22 9 rfl W.heap.size 5 i0 Tryd.underlying22 Tryd.underlying9 hi0 hz0 hs0 hby0 u3 EN.length _ rfl hown c.name rfl (by unfold maxLen; omega) (by omega) hsz ?_
           intro v1 w1 o1 g1
           have hb11 := unhide HLX w1 g1
           have c61 := (hb11.cell (p := ⟨w.heap.size, 6, none⟩) (by dsimp only; omega)).trans c6
           have hrd3 : BReads w1 w.heap.size A n c.bytes := Reads.below hrd2 (hb11.mono (by omega))
           have hs1 := hb11.size
           have z1 : W.heap.size ≤ w1.heap.size := Nat.le_trans hsz hs1)
        | (refine step_append_any _ rfl (.tmp 32) (.tmp 34) 22 rfl W.heap.size 5 i0 (.int .u8 0) 1 1 Tryd.underlying22 hi0 hz0 hs0 hby0 rfl (by decide) v1 (EN.length + c.name.size) _ rfl o1 w.heap.size A n cap (c.bytes.map (Value.int .u8)) rfl hrd3 (ints_oneCell .u8 c.bytes) (by unfold maxLen; omega) (by omega) z1 ?_
           intro v2 w2 o2 g2 _
           have hb22 := hb11.grown g2 z1 (own_block_ge o1)))
      all_goals
        have ho3 : w2.ownsRow W.heap.size 5 1 v2 (bodyB c).length ((bodyB c).map (Value.int .u8)) := by
          rw [unhide HBB, List.length_append, List.length_append, List.map_append, List.map_append, ← nmL_cells, nmL_len, unhide HBL]; exact o2
        have z2 := hb22.size
        obtain ⟨yA, yc, hy, hry, _, _, _, _⟩ := own_slice2 ho3
        subst hy
        have hL : (bodyB c).length ≤ 5000000 := by
          rw [unhide HBB, List.length_append, List.length_append, nmL_len, unhide HBL]; omega
        have hrb := Reads.below (Reads.more hry (Nat.le_refl _)) (Below.refl _ w2)
        have hbt : Below w.heap.size w w2 := hbB.trans (hb22.mono (by omega))
        have sn := hide (num_any none 0 0 0 [] ((bodyB c).length : Int) w2 Reads.none_ (Nat.zero_le _) (by omega) (fun _ => rfl) (by omega) (by omega))
        have hRL : Hid (recB c = [] ++ enc ((bodyB c).length : Int) ++ bodyB c) := hide rfl
        have hee := (enc_len ((bodyB c).length : Int)).2
        have HEE := hide hee
        clear hrd2 hrd3 o2 g2 hb22 ho3 c61 o1 g1 hb11 hown HLX c3 c6 hbB hb1 hb2 hbW hbel HBB HBL hry hee
        go_wp2_with fail
        refine (unhide sn).mono ?_
        rintro e w3 ⟨v3, rfl, hown3, hb3⟩
        have hrb3 := Reads.below hrb hb3
        have hown4 := own_base hown3 hbt.size
        have hln : ([] ++ enc ((bodyB c).length : Int)).length + (bodyB c).length < 1000000000 := by have := unhide HEE; rw [List.nil_append]; omega
        clear hrb hown3
        go_wp2_with (at_builtin; refine app_many elem_byte (.tmp 38) (.tmp 39) rfl rfl rfl hown4 rfl hrb3 (ints_oneCell .u8 (bodyB c)) hln (Nat.le_trans hbt.size hb3.size) ?_; intro v4 w4 hown5 hb4 _)
        go_ret
        refine ⟨v4, rfl, ?_, (hbt.trans (hb3.mono hbt.size)).trans hb4⟩
        rw [unhide hRL, List.length_append, List.map_append]
        exact hown5
end Go.Proofs.YtijgiieoinmjhaaDoor
