/- PathWords: the plain law and the walk. Conditions: arguments read as lists; the table of powers of ten is laid. -/
import Derived.Test.YtibbohebmmahmaaDoorWhy
import Derived.Test.YtibbohebmmahmaaDoorDigits
import Derived.Test.YtibbohebmmahmaaDoorTreeHalves
import Derived.Test.YtibbohebmmahmaaDoorTreeDeep
namespace Go.Proofs.YtibbohebmmahmaaDoor
set_option linter.unusedVariables false
set_option linter.unusedSimpArgs false
open Go.RowKit

/-! ### plain -/
def cnt32 (l : List UInt8) : Nat := (l.filter (fun c => c == 32)).length
theorem cnt32_app (a b : List UInt8) : cnt32 (a ++ b) = cnt32 a + cnt32 b := by unfold cnt32; rw [List.filter_append, List.length_append]
theorem cnt32_none {l : List UInt8} (h : ∀ c ∈ l, c ≠ 32) : cnt32 l = 0 := by
  unfold cnt32
  rw [List.length_eq_zero_iff, List.filter_eq_nil_iff]
  intro c hc
  simpa using h c hc
theorem digit_ne (d : Nat) (h : d < 10) : UInt8.ofNat (48 + d) ≠ 32 := by
  match d, h with
  | 0, _ => decide
  | 1, _ => decide
  | 2, _ => decide
  | 3, _ => decide
  | 4, _ => decide
  | 5, _ => decide
  | 6, _ => decide
  | 7, _ => decide
  | 8, _ => decide
  | 9, _ => decide
theorem dec_ne : ∀ (u : Nat), ∀ c ∈ Lib.decDigits u, c ≠ 32 := by
  intro u
  induction u using Nat.strongRecOn with
  | _ u ih =>
    intro c hc
    rw [Lib.decDigits] at hc
    split at hc
    · rename_i h
      rw [List.mem_singleton.1 hc]
      exact digit_ne u h
    · rcases List.mem_append.1 hc with hc | hc
      · exact ih (u / 10) (by omega) c hc
      · rw [List.mem_singleton.1 hc]
        exact digit_ne _ (by omega)
theorem itoa_ne (n : Int) : ∀ c ∈ Lib.itoa n, c ≠ 32 := by
  intro c hc
  unfold Lib.itoa at hc
  split at hc
  · rcases List.mem_cons.1 hc with rfl | hc
    · decide
    · exact dec_ne _ c hc
  · exact dec_ne _ c hc
theorem word_ne (row : List Int) (n : Nd) : ∀ c ∈ wordN row n, c ≠ 32 := by
  intro c hc
  unfold wordN at hc
  split at hc
  · rcases List.mem_append.1 hc with hc | hc
    · rw [List.mem_singleton.1 hc]; decide
    · exact itoa_ne _ c hc
  split at hc
  · rcases List.mem_append.1 hc with hc | hc
    · rcases List.mem_append.1 hc with hc | hc
      · rw [List.mem_singleton.1 hc]; decide
      · exact itoa_ne _ c hc
    · rw [List.mem_singleton.1 hc]; decide
  split at hc
  · rcases List.mem_append.1 hc with hc | hc
    · rcases List.mem_append.1 hc with hc | hc
      · rcases List.mem_append.1 hc with hc | hc
        · rw [List.mem_singleton.1 hc]; decide
        · exact itoa_ne _ c hc
      · rw [List.mem_singleton.1 hc]; decide
    · exact itoa_ne _ c hc
  · rcases List.mem_append.1 hc with hc | hc
    · rcases List.mem_append.1 hc with hc | hc
      · rcases List.mem_append.1 hc with hc | hc
        · rw [List.mem_singleton.1 hc]; decide
        · exact itoa_ne _ c hc
      · simp at hc
        rcases hc with rfl | rfl <;> decide
    · exact itoa_ne _ c hc
theorem cnt_tail : ∀ (r : List (List UInt8)), (∀ w ∈ r, ∀ c ∈ w, c ≠ 32) → cnt32 (Lib.joinTail [32] r) = r.length := by
  intro r
  induction r with
  | nil => intro _; rfl
  | cons y r ih =>
    intro h
    have e : Lib.joinTail [32] (y :: r) = [32] ++ y ++ Lib.joinTail [32] r := by simp [Lib.joinTail]
    rw [e, cnt32_app, cnt32_app, cnt32_none (h y (List.mem_cons_self ..)), ih fun w hw => h w (List.mem_cons_of_mem _ hw)]
    show 1 + 0 + r.length = r.length + 1
    omega
theorem cnt_join {ws : List (List UInt8)} (h0 : 0 < ws.length) (h : ∀ w ∈ ws, ∀ c ∈ w, c ≠ 32) : cnt32 (Lib.join ws [32]) + 1 = ws.length := by
  cases ws with
  | nil => simp at h0
  | cons x r =>
    rw [Lib.join_cons, cnt32_app, cnt32_none (h x (List.mem_cons_self ..)), cnt_tail r fun w hw => h w (List.mem_cons_of_mem _ hw), List.length_cons]
    omega
theorem tail_last : ∀ (r : List (List UInt8)) (y : List UInt8), ∃ pre, Lib.joinTail [32] (r ++ [y]) = pre ++ y := by
  intro r y
  exact ⟨Lib.joinTail [32] r ++ [32], by simp [Lib.joinTail]⟩
theorem join_last (ws : List (List UInt8)) (y : List UInt8) : ∃ pre, Lib.join (ws ++ [y]) [32] = pre ++ y := by
  cases ws with
  | nil => exact ⟨[], by rw [List.nil_append, Lib.join_one]; rfl⟩
  | cons x r =>
    obtain ⟨pre, hp⟩ := tail_last r y
    exact ⟨x ++ pre, by rw [List.cons_append, Lib.join_cons, hp, List.append_assoc]⟩
theorem way_last {t : List Nd} {row : List Int} (hb : Behind t) : ∀ (k i : Nat), i < t.length → t.length ≤ i + k → ∃ pre, (i : Int) :: wayFrom t row k i = pre ++ [((leafFrom t row k i : Nat) : Int)] := by
  intro k
  induction k with
  | zero => intro i h1 h2; omega
  | succ k ih =>
    intro i h1 h2
    have hn : t[i]? = some t[i] := List.getElem?_eq_getElem h1
    by_cases hf : (t[i]).f = -1
    · rw [wayFrom_leaf hn hf, leafFrom_leaf hn hf]
      exact ⟨[], rfl⟩
    · obtain ⟨j2, hj2, hlt, hjm⟩ := nextOf_lt (c := cellAt row (t[i]).f) hb hn hf
      rw [wayFrom_step hn hf, leafFrom_step hn hf, hj2, Int.toNat_natCast]
      obtain ⟨pre, hp⟩ := ih j2 hjm (by omega)
      exact ⟨(i : Int) :: pre, by rw [hp]; rfl⟩
/-- the words of a way that is right: as many as nodes, and the last says the value -/
theorem why_facts {t : List Nd} {row : List Int} (h0 : readyE t row = 0) : cnt32 (whyV t row) + 1 = (pathV t row).length ∧ ∃ pre, whyV t row = pre ++ ([61] ++ Lib.itoa (evalV t row)) := by
  obtain ⟨_, hR, _⟩ := readyE_right h0
  have hpv : pathV t row = 0 :: wayFrom t row t.length 0 := by unfold pathV; rw [if_pos h0]
  have hl : (wordsV t row).length = (pathV t row).length := by unfold wordsV; rw [List.length_map]
  have hne : ∀ w ∈ wordsV t row, ∀ c ∈ w, c ≠ 32 := by
    intro w hw c hc
    unfold wordsV at hw
    obtain ⟨i, _, rfl⟩ := List.mem_map.1 hw
    unfold wordAt at hc
    split at hc
    · exact word_ne _ _ c hc
    · cases hc
  constructor
  · rw [← hl]
    exact cnt_join (by rw [hl, hpv]; simp) hne
  · obtain ⟨pre, hp⟩ := way_last (row := row) hR.behind t.length 0 hR.pos (by omega)
    have hp' : pathV t row = pre ++ [((leafOf t row : Nat) : Int)] := by rw [hpv]; exact hp
    obtain ⟨n, hn, hf⟩ := leafOf_is (row := row) hR.behind hR.pos
    have hw : wordsV t row = pre.map (wordAt t row) ++ [[61] ++ Lib.itoa n.v] := by
      unfold wordsV
      rw [hp', List.map_append]
      congr 1
      simp only [List.map_cons, List.map_nil, wordAt, Int.toNat_natCast, hn]
      unfold wordN
      rw [if_pos hf]
    have hev : evalV t row = n.v := by unfold evalV valAt; rw [if_pos h0, hn]
    rw [hev]
    unfold whyV
    rw [hw]
    exact join_last _ _
theorem why_len {t : List Nd} {row : List Int} (h0 : readyE t row = 0) : (whyV t row).length ≤ 600 := by
  obtain ⟨_, hR, _⟩ := readyE_right h0
  have h8 := hR.fe8
  have h1 := join_len_le (wordsV t row) 46 (fun x hx => by
    unfold wordsV at hx
    obtain ⟨i, hi, rfl⟩ := List.mem_map.1 hx
    obtain ⟨p, rfl, hp⟩ := pathV_in hR h0 hi
    unfold wordAt
    rw [Int.toNat_natCast]
    have hn : t[p]? = some t[p] := List.getElem?_eq_getElem hp
    rw [hn]
    rcases node_of (hR.node p _ hn) with h | h
    · exact wordN_len ⟨h.2.1, h.2.2.1⟩ ⟨by omega, by omega⟩ ⟨by omega, by omega⟩
    · exact wordN_len ⟨by omega, by omega⟩ ⟨by omega, by omega⟩ ⟨h.2.2.1, h.2.2.2.1⟩)
  have h2 : (wordsV t row).length ≤ 11 := by unfold wordsV; rw [List.length_map]; exact pathV_le hR h0
  have h3 : (wordsV t row).length * 47 ≤ 11 * 47 := Nat.mul_le_mul_right _ h2
  unfold whyV
  omega
theorem eval_in {t : List Nd} {row : List Int} (h0 : readyE t row = 0) : -1000000 ≤ evalV t row ∧ evalV t row ≤ 1000000 := by
  obtain ⟨_, hR, _⟩ := readyE_right h0
  obtain ⟨n, hn, hf⟩ := leafOf_is (row := row) hR.behind hR.pos
  have hev : evalV t row = n.v := by unfold evalV valAt; rw [if_pos h0, hn]
  rw [hev]
  rcases node_of (hR.node _ n hn) with h1 | h1
  · exact ⟨h1.2.1, h1.2.2.1⟩
  · omega
theorem cut_end (pre d : List UInt8) : (bt (pre ++ ([61] ++ d))).extract pre.length (bt (pre ++ ([61] ++ d))).size = ⟨#[61]⟩ ++ bt d := by
  rw [show (⟨#[61]⟩ : ByteArray) = bt [61] from rfl, bt_app]
  apply ByteArray.ext
  apply Array.toList_inj.1
  rw [bt_list, ByteArray.data_extract, bt_size]
  simp [bt]
theorem fact_why : whyV [⟨-1, 0, 0, 0, false, -7⟩] [] = [61, 45, 55] := by
  have h : Lib.itoa (-7) = [45, 55] := by
    rw [show (-7 : Int) = -((7 : Nat) : Int) from rfl, Lib.itoa_neg 7 (by omega), Lib.decDigits, dif_pos (by omega)]
    rfl
  have hp : pathV [⟨-1, 0, 0, 0, false, -7⟩] [] = [0] := rfl
  unfold whyV wordsV
  rw [hp]
  show Lib.join [wordN [] ⟨-1, 0, 0, 0, false, -7⟩] [32] = _
  rw [Lib.join_one]
  unfold wordN
  rw [if_pos rfl, h]
  rfl
theorem cnt_take (s : ByteArray) (k : Nat) (h : k < s.size) : cnt32 (s.data.toList.take (k + 1)) = cnt32 (s.data.toList.take k) + (if (s[k].toNat : Int) = 32 then 1 else 0) := by
  have hs : s.data.toList[k]? = some s[k] := by
    rw [List.getElem?_eq_getElem (by simpa using h)]
    rfl
  rw [take_next hs, cnt32_app]
  congr 1
  unfold cnt32
  by_cases hc : (s[k].toNat : Int) = 32
  · rw [if_pos hc]
    have : s[k] = 32 := by
      have h1 : s[k].toNat = (32 : UInt8).toNat := by simpa using (show s[k].toNat = 32 by omega)
      exact UInt8.toNat_inj.1 h1
    simp [this]
  · rw [if_neg hc]
    have : s[k] ≠ 32 := fun e => hc (by rw [e]; rfl)
    simp [this]

set_option maxRecDepth 100000 in
set_option maxHeartbeats 8000000 in
theorem pathWords_walk (A C : Option Addr) (m d k q : Nat) (t : List Nd) (row : List Int) (w : World) (hten : TenT w) (ht : NReads w w.heap.size A m t) (hr : IReads w w.heap.size C k row) (hm : m ≤ maxLen) (hk : k ≤ maxLen) :
    Calls Tryd.prog 3 #[.slice A m d, .slice C k q] w fun e w' => e = .returned (.bool true) ∧ Below w.heap.size w w' := by
  have cW := hide (fun (X : World) (hB : Below w.heap.size w X) => why_any A C m d k q t row X (hten.below hB) ((ht.below hB).more hB.size) ((hr.below hB).more hB.size) hm hk)
  have cP := hide (fun (X : World) (hB : Below w.heap.size w X) => path_any A C m d k q t row X ((ht.below hB).more hB.size) ((hr.below hB).more hB.size) hm hk)
  have cE := hide (fun (X : World) (hB : Below w.heap.size w X) => eval_any A C m d k q t row X ((ht.below hB).more hB.size) ((hr.below hB).more hB.size) hm hk)
  have hone : readyE [⟨-1, 0, 0, 0, false, -7⟩] [] = 0 := by decide
  have c1 := hide (fun (X : World) (g : Nat) (hB : Below w.heap.size w X) (h : NReads X X.heap.size (some ⟨g, 0, none⟩) 1 [⟨-1, 0, 0, 0, false, -7⟩]) => show Calls Tryd.prog 4 #[.slice (some ⟨g, 0, none⟩) 1 1, .slice none 0 0] X fun e w' => e = .returned (.tuple #[.string ⟨#[61, 45, 55]⟩, .nilIface]) ∧ Below X.heap.size X w' from by
    have h1 := why_any (some ⟨g, 0, none⟩) none 1 1 0 0 [⟨-1, 0, 0, 0, false, -7⟩] [] X (hten.below hB) h IReads.nil_ (by unfold maxLen; omega) (Nat.zero_le _)
    unfold WhyPost at h1
    rw [hone, if_pos rfl, fact_why, errV_0 rfl] at h1
    exact h1)
  have hnr := Reads.new_ w 6 1 [.int .i64 (-1), .int .i64 0, .int .i64 0, .int .i64 0, .bool false, .int .i64 (-7)] 29 rfl
  have hb0 : Below w.heap.size w (w.alloc (.cells #[.int .i64 (-1), .int .i64 0, .int .i64 0, .int .i64 0, .bool false, .int .i64 (-7)] 29)) := (Below.refl _ _).alloc (Nat.le_refl _) _
  have c1' := hide (unhide c1 _ w.heap.size hb0 (show NReads _ _ _ 1 [⟨-1, 0, 0, 0, false, -7⟩] from hnr.more (by simp)))
  clear c1 hnr hone hten ht hr
  go_enter Tryd.func3, Tryd.ntmps3
  go_wp2_with fail
  refine (unhide c1').mono ?_
  rintro e w1 ⟨rfl, hb1⟩
  have hB1 := hb0.trans (hb1.mono hb0.size)
  have cW1 := hide (unhide cW w1 hB1)
  unfold WhyPost at cW1
  clear c1' hb0 cW
  by_cases h0 : readyE t row = 0
  case neg =>
    have hv := errV_1 h0
    have HS := hide (show (if readyE t row = 0 then whyV t row else []) = [] from if_neg h0)
    rw [unhide HS] at cW1
    unfold PathPost at cP
    obtain ⟨E, hE⟩ : ∃ E, E = readyE t row := ⟨_, rfl⟩
    rw [← hE] at cW1 hv cP
    rw [hv] at cW1 cP
    rw [show bt [] = ⟨#[]⟩ from rfl] at cW1
    clear hE h0 hv HS cE
    go_wp2_with fail
    refine (unhide cW1).mono ?_
    rintro e w2 ⟨rfl, hb2⟩
    have hB2 := hB1.trans (hb2.mono hB1.size)
    go_wp2_with fail
    refine (unhide cP w2 hB2).mono ?_
    rintro e w3 ⟨v, rfl, hown, hb3⟩
    have hB3 := hB2.trans (hb3.mono hB2.size)
    clear hown
    go_wp2_with fail
    go_ret
    exact ⟨rfl, hB3⟩
  obtain ⟨hcn, pre, hpre⟩ := why_facts h0
  obtain ⟨v0, v1⟩ := eval_in h0
  have hwl := why_len h0
  rw [if_pos h0, errV_0 h0] at cW1
  unfold PathPost at cP
  rw [errV_0 h0] at cP cE
  obtain ⟨V, hV⟩ : ∃ V, V = evalV t row := ⟨_, rfl⟩
  rw [← hV] at hpre v0 v1 cE
  obtain ⟨PL, hPL⟩ : ∃ PL, PL = (pathV t row).length := ⟨_, rfl⟩
  rw [← hPL] at hcn cP
  have hdl := Lib.itoa_length_le V (by omega) (by omega)
  obtain ⟨sb, hsb⟩ : ∃ sb, sb = bt (whyV t row) := ⟨_, rfl⟩
  obtain ⟨D, hD⟩ : ∃ D, D = bt (Lib.itoa V) := ⟨_, rfl⟩
  have hsz : sb.size = pre.length + 1 + D.size := by rw [hsb, hD, bt_size, bt_size, hpre]; simp; omega
  have hsl : sb.size ≤ 600 := by rw [hsb, bt_size]; exact hwl
  have hext : sb.extract pre.length sb.size = ⟨#[61]⟩ ++ D := by rw [hsb, hD, hpre]; exact cut_end pre _
  have hcnt : Hid (1 + cnt32 (sb.data.toList.take sb.size) = PL) := hide (by
    have h1 : sb.data.toList = whyV t row := by rw [hsb, bt_list]
    rw [h1, List.take_of_length_le (by rw [hsb, bt_size]; exact Nat.le_refl _)]
    omega)
  have hDi := hide (fun (X : World) => rdigits_any V X (by omega) (by omega))
  rw [← hsb] at cW1
  rw [← hD] at hDi
  obtain ⟨P, hP⟩ : ∃ P, P = pre.length := ⟨_, rfl⟩
  rw [← hP] at hsz hext
  have HZ := hide hsz
  have HX := hide hext
  have hds : D.size ≤ 21 := by rw [hD, bt_size]; exact hdl
  clear h0 hcn hpre hwl hV hPL hdl hsb hD hP hsz hext
  go_wp2_with fail
  refine (unhide cW1).mono ?_
  rintro e w2 ⟨rfl, hb2⟩
  have hB2 := hB1.trans (hb2.mono hB1.size)
  go_wp2_with fail
  refine (unhide cP w2 hB2).mono ?_
  rintro e w3 ⟨v, rfl, hown, hb3⟩
  obtain ⟨Ap, cp, rfl, _, hpl, _⟩ := own_slice hown
  unfold maxLen at hpl
  have hB3 := hB2.trans (hb3.mono hB2.size)
  clear hown cW1 cP
  go_wp2_with fail
  refine (unhide cE w3 hB3).mono ?_
  rintro e w4 ⟨rfl, hb4⟩
  have hB4 := hB3.trans (hb4.mono hB3.size)
  clear cE
  go_wp2_with fail
  go_loop [12, 13] (fun v12 v13 => ∃ k : Nat, k ≤ sb.size ∧ v13 = .int .i64 k ∧ v12 = .int .i64 ((1 + cnt32 (sb.data.toList.take k) : Nat) : Int)) (fun _ v13 => sb.size - (Lib.intOf v13).toNat)
  case atStart => exact ⟨0, Nat.zero_le _, rfl, rfl⟩
  case round =>
    obtain ⟨k, hk, rfl, rfl⟩ := hrel
    by_cases hlt : k < sb.size
    · have hcs := hide (cnt_take sb k hlt)
      have hcl : cnt32 (sb.data.toList.take k) ≤ k := by
        unfold cnt32
        have h1 := List.length_filter_le (fun c : UInt8 => c == 32) (sb.data.toList.take k)
        have h2 := List.length_take_le k sb.data.toList
        omega
      obtain ⟨c, hc0⟩ : ∃ c, c = cnt32 (sb.data.toList.take k) := ⟨_, rfl⟩
      rw [← hc0] at hcs hcl ⊢
      clear hc0
      by_cases hc : (sb[k].toNat : Int) = 32
      · have hcs2 : Hid (cnt32 (sb.data.toList.take (k + 1)) = c + 1) := hide (by rw [unhide hcs, if_pos hc])
        have hcb : ((sb[k].toNat : Int) == 32) = true := by simpa using hc
        clear hcs hc
        go_wp2_with fail
        go_round
        case rel => exact ⟨k + 1, by omega, by go_num, by rw [unhide hcs2]; go_num⟩
        case measure => simp [Lib.intOf]; omega
      · have hcs2 : Hid (cnt32 (sb.data.toList.take (k + 1)) = c) := hide (by rw [unhide hcs, if_neg hc]; rfl)
        have hcb : ((sb[k].toNat : Int) == 32) = false := by simpa using hc
        clear hcs hc
        go_wp2_with fail
        go_round
        case rel => exact ⟨k + 1, by omega, by go_num, by rw [unhide hcs2]⟩
        case measure => simp [Lib.intOf]; omega
    · obtain rfl : k = sb.size := by omega
      rw [unhide hcnt]
      go_wp2_with fail
      refine (unhide hDi _).mono ?_
      rintro e w5 ⟨rfl, rfl⟩
      have hz := unhide HZ
      have q1 : (sb.size : Int) - (D.size : Int) - 1 = (P : Int) := by omega
      have q2 := unhide HX
      have q3 : (D.size : Int) ≤ (sb.size : Int) := by omega
      have q4 : (P : Int) ≤ (sb.size : Int) := by omega
      clear hz
      go_wp2_with fail
      go_ret
      exact ⟨by simp, hB4⟩
end Go.Proofs.YtibbohebmmahmaaDoor
