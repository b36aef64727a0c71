/- Walks: utext.letIn, utext.begins, utext.Check: what they answer, for every string, in every world that holds the table bars. -/
import Derived.Test.YtkdhomiieenfnaaDoorProg
import Derived.Test.YtkdhomiieenfnaaDoorXLm0
import Derived.WalkKit
import Derived.WalkSpells
import Derived.WalkLawsBesides
import Derived.Outline
import Derived.KernelRfl
import Derived.Lib.Hide
import Derived.Lib.OthersKept
import Derived.WalkSmall
namespace Go.Proofs.YtkdhomiieenfnaaDoor.U
set_option linter.unusedVariables false
set_option linter.unusedSimpArgs false
open Go.RowKit Go.Proofs.YtkdhomiieenfnaaDoor.Txt

abbrev barsCells : Array Value := #[.int .i32 0, .int .i32 8, .int .i32 11, .int .i32 31, .int .i32 127, .int .i32 159, .int .i32 64976, .int .i32 65007, .int .i32 65279, .int .i32 65279]
/-- The table of runes that are not let in lies where start-up code lays it. -/
def Bars (w : World) : Prop := ∃ t fr, w.heap[0]? = some (.cells barsCells t fr)
theorem Bars.below {w w' : World} (h : Bars w) (hb : Below w.heap.size w w') : Bars w' := by
  obtain ⟨t, fr, h⟩ := h
  exact ⟨t, fr, by rw [hb.block _ (Array.getElem?_eq_some_iff.1 h).1]; exact h⟩
theorem ret_bool {a b : Bool} (h : a = b) : Ending.returned (.bool a) = Ending.returned (.bool b) := by rw [h]
theorem ret_int {k : IntKind} {a b : Int} (h : a = b) : Ending.returned (.int k a) = .returned (.int k b) := by rw [h]

theorem idx0 : ∀ w, (Instr.index 164 (.agg barsCells) (.int .i64 0)).run Tryd.prog w = .ok (.agg #[.int .i32 0, .int .i32 8]) w := fun _ => by kernel_rfl
theorem idx1 : ∀ w, (Instr.index 164 (.agg barsCells) (.int .i64 1)).run Tryd.prog w = .ok (.agg #[.int .i32 11, .int .i32 31]) w := fun _ => by kernel_rfl
theorem idx2 : ∀ w, (Instr.index 164 (.agg barsCells) (.int .i64 2)).run Tryd.prog w = .ok (.agg #[.int .i32 127, .int .i32 159]) w := fun _ => by kernel_rfl
theorem idx3 : ∀ w, (Instr.index 164 (.agg barsCells) (.int .i64 3)).run Tryd.prog w = .ok (.agg #[.int .i32 64976, .int .i32 65007]) w := fun _ => by kernel_rfl
theorem idx4 : ∀ w, (Instr.index 164 (.agg barsCells) (.int .i64 4)).run Tryd.prog w = .ok (.agg #[.int .i32 65279, .int .i32 65279]) w := fun _ => by kernel_rfl
def barLo (k : Nat) : Int := [0, 11, 127, 64976, 65279].getD k 0
def barHi (k : Nat) : Int := [8, 31, 159, 65007, 65279].getD k 0
def Out (c : Int) (k : Nat) : Prop := ∀ j, j < k → ¬ (barLo j ≤ c ∧ c ≤ barHi j)
theorem Out.zero (c : Int) : Out c 0 := fun _ hj => absurd hj (Nat.not_lt_zero _)
theorem Out.step {c : Int} {k : Nat} (h : Out c k) (h' : ¬ (barLo k ≤ c ∧ c ≤ barHi k)) : Out c (k + 1) := by
  intro j hj
  by_cases e : j = k
  · subst e; exact h'
  · exact h j (by omega)
theorem Out.in_ {c : Int} {k : Nat} (hk : k < 5) (h' : barLo k ≤ c ∧ c ≤ barHi k) : letInB c = false := by
  obtain rfl | rfl | rfl | rfl | rfl : k = 0 ∨ k = 1 ∨ k = 2 ∨ k = 3 ∨ k = 4 := by omega
  all_goals (simp only [barLo, barHi, List.getD_cons_zero, List.getD_cons_succ] at h'; simp [letInB]; omega)
theorem bits_low (c : Int) (h0 : 0 ≤ c) (h1 : c ≤ 2147483647) : bits BinOp.and IntKind.i32 c 65535 = c % 65536 :=
  bits_mask .i32 31 (by decide) wraps_i32 16 (by decide) c h0 (by omega)
theorem Out.out {c : Int} (h0 : 0 ≤ c) (h1 : c ≤ 2147483647) (h : Out c 5) : decide (bits BinOp.and IntKind.i32 c 65535 < 65534) = letInB c := by
  have a0 := h 0 (by omega); have a1 := h 1 (by omega); have a2 := h 2 (by omega); have a3 := h 3 (by omega); have a4 := h 4 (by omega)
  simp only [barLo, barHi, List.getD_cons_zero, List.getD_cons_succ] at a0 a1 a2 a3 a4
  rw [bits_low c h0 h1]
  simp only [letInB, a0, a1, a2, a3, a4, decide_false, Bool.or_false, Bool.not_false, Bool.true_and]

set_option maxHeartbeats 400000 in
theorem letIn_any (c : Int) (w : World) (h0 : 0 ≤ c) (h1 : c ≤ 2147483647) (hg : Bars w) :
    Calls Tryd.prog 65 #[.int .i32 c] w fun e w' => e = .returned (.bool (letInB c)) ∧ Below w.heap.size w w' := by
  obtain ⟨tb, fr, hg⟩ := hg
  have i0 := idx0
  have i1 := idx1
  have i2 := idx2
  have i3 := idx3
  have i4 := idx4
  go_enter Tryd.func65, Tryd.ntmps65
  go_wp2_with (refine wpList_load_row rfl 164 _ rfl 0 rfl tb barsCells fr _ hg Tryd.underlying164 rfl (by kernel_rfl) ?_)
  go_loopw [6] (fun i wr => ∃ k : Nat, k ≤ 5 ∧ i = .int .i64 k ∧ Below w.heap.size w wr ∧ Out c k) (fun i _ => 5 - (intOf i).toNat)
  case atStart => exact ⟨0, by omega, rfl, Below.refl _ _, Out.zero c⟩
  case round =>
    obtain ⟨k, hk, rfl, hb, hn⟩ := hrel
    have HN := Lib.hid hn
    have HB := Lib.hid hb
    have hsz := hb.size
    clear hn hb
    obtain rfl | rfl | rfl | rfl | rfl | rfl : k = 0 ∨ k = 1 ∨ k = 2 ∨ k = 3 ∨ k = 4 ∨ k = 5 := by omega
    rotate_right
    · go_wp2
      go_ret
      exact ⟨ret_bool (Out.out h0 h1 HN.out), HB.out⟩
    all_goals
      go_wp2
      all_goals first
        | (go_ret; exact ⟨ret_bool (Out.in_ (k := 0) (by omega) ⟨by show (0 : Int) ≤ c; omega, by show c ≤ 8; omega⟩).symm, HB.out.alloc hsz _⟩)
        | (go_ret; exact ⟨ret_bool (Out.in_ (k := 1) (by omega) ⟨by show (11 : Int) ≤ c; omega, by show c ≤ 31; omega⟩).symm, HB.out.alloc hsz _⟩)
        | (go_ret; exact ⟨ret_bool (Out.in_ (k := 2) (by omega) ⟨by show (127 : Int) ≤ c; omega, by show c ≤ 159; omega⟩).symm, HB.out.alloc hsz _⟩)
        | (go_ret; exact ⟨ret_bool (Out.in_ (k := 3) (by omega) ⟨by show (64976 : Int) ≤ c; omega, by show c ≤ 65007; omega⟩).symm, HB.out.alloc hsz _⟩)
        | (go_ret; exact ⟨ret_bool (Out.in_ (k := 4) (by omega) ⟨by show (65279 : Int) ≤ c; omega, by show c ≤ 65279; omega⟩).symm, HB.out.alloc hsz _⟩)
        | (go_roundw
           case rel => first
             | exact ⟨1, by decide, rfl, HB.out.alloc hsz _, HN.out.step (by simp only [barLo, barHi, List.getD_cons_zero, List.getD_cons_succ]; omega)⟩
             | exact ⟨2, by decide, rfl, HB.out.alloc hsz _, HN.out.step (by simp only [barLo, barHi, List.getD_cons_zero, List.getD_cons_succ]; omega)⟩
             | exact ⟨3, by decide, rfl, HB.out.alloc hsz _, HN.out.step (by simp only [barLo, barHi, List.getD_cons_zero, List.getD_cons_succ]; omega)⟩
             | exact ⟨4, by decide, rfl, HB.out.alloc hsz _, HN.out.step (by simp only [barLo, barHi, List.getD_cons_zero, List.getD_cons_succ]; omega)⟩
             | exact ⟨5, by decide, rfl, HB.out.alloc hsz _, HN.out.step (by simp only [barLo, barHi, List.getD_cons_zero, List.getD_cons_succ]; omega)⟩
           case measure => simp [intOf])

/-- Does a sequence begin where the decoder gave that rune? -/
def begB (s : ByteArray) (pos : Nat) (c : Int) : Bool := c != 65533 || decide ([239, 191, 189] <+: s.data.toList.drop pos)
theorem begB_seq (s : ByteArray) (pos : Nat) : begB s pos (Utf8.decode s pos).1 = (seq (s.data.toList.drop pos)).isSome := by
  unfold begB seq
  rw [dec_eq]
  by_cases h1 : (decL (s.data.toList.drop pos)).1 = 65533
  · rw [h1]
    by_cases h2 : [239, 191, 189] <+: s.data.toList.drop pos
    · simp [h2]
    · simp [h2]
  · rw [if_pos (.inl h1)]
    have : ((decL (s.data.toList.drop pos)).1 : Int) != 65533 := by rw [bne_iff_ne]; omega
    simp [this]

theorem toList_eq (s : ByteArray) : s.toList = s.data.toList := ByteArray.toList_eq s
theorem begB_yes (s : ByteArray) (pos : Nat) : (((s.extract pos s.size).extract 0 3).toList == [239, 191, 189]) = begB s pos 65533 := by
  have e : ((s.extract pos s.size).extract 0 3).toList = (s.data.toList.drop pos).take 3 := by
    rw [toList_eq]
    simp only [ByteArray.data_extract, Array.toList_extract, List.drop_zero, List.extract_eq_take_drop]
    rw [List.take_of_length_le (l := s.data.toList.drop pos) (by rw [List.length_drop, size_toList]; omega)]
  rw [e, Bool.eq_iff_iff]
  simp only [begB, bne_self_eq_false, Bool.false_or, decide_eq_true_eq, beq_iff_eq]
  constructor
  · intro h; rw [← h]; exact List.take_prefix _ _
  · intro ⟨t, h⟩; rw [← h]; rfl
theorem begB_no (s : ByteArray) (pos : Nat) (h : ((s.size - pos : Nat) : Int) < 3) : false = begB s pos 65533 := by
  symm
  simp only [begB, bne_self_eq_false, Bool.false_or, decide_eq_false_iff_not]
  intro ⟨t, e⟩
  have := congrArg List.length e
  rw [List.length_drop, size_toList] at this
  simp at this
  omega
set_option maxHeartbeats 400000 in
theorem begins_any (s : ByteArray) (pos : Nat) (c : Int) (w : World) (hp : pos ≤ s.size) :
    Calls Tryd.prog 64 #[.string s, .int .i64 pos, .int .i32 c] w fun e w' => e = .returned (.bool (begB s pos c)) ∧ w = w' := by
  by_cases h1 : c = 65533
  · subst h1
    go_enter Tryd.func64, Tryd.ntmps64
    go_wp2
    · go_ret
      exact ⟨ret_bool (begB_yes s pos), rfl⟩
    · rename_i hlt
      go_ret
      exact ⟨ret_bool (begB_no s pos hlt), rfl⟩
  · have h2 : (c != 65533) = true := by simp [h1]
    go_enter Tryd.func64, Tryd.ntmps64
    go_wp2
    go_ret
    exact ⟨ret_bool (by simp [begB, h1]), rfl⟩

theorem chkF_none {m : Nat} {l : List UInt8} (hm : 0 < m) (hl : l ≠ []) (h : seq l = none) (k p : Nat) : chkF m l k p = (0, p, 10) := by
  obtain ⟨m, rfl⟩ : ∃ j, m = j + 1 := ⟨m - 1, by omega⟩
  rw [chkF, if_neg hl, h]
theorem chkF_bad {m : Nat} {l : List UInt8} (hm : 0 < m) (hl : l ≠ []) {r : Int} (h : seq l = some r) (hr : letInB r = false) (k p : Nat) : chkF m l k p = (0, p, 11) := by
  obtain ⟨m, rfl⟩ : ∃ j, m = j + 1 := ⟨m - 1, by omega⟩
  rw [chkF, if_neg hl, h]
  simp [hr]
theorem chkF_good {m : Nat} {l : List UInt8} (hm : l.length ≤ m) (hl : l ≠ []) {r : Int} (h : seq l = some r) (hr : letInB r = true) (k p : Nat) :
    chkF m l k p = chkF (m - (encB r).length) (l.drop (encB r).length) (k + 1) (p + (encB r).length) := by
  have h0 := List.length_pos_iff.2 hl
  have h1 := (encB_len r).1
  obtain ⟨_, t, e⟩ := seq_some hl h
  have h2 := congrArg List.length e
  rw [List.length_append] at h2
  obtain ⟨m, rfl⟩ : ∃ j, m = j + 1 := ⟨m - 1, by omega⟩
  rw [chkF, if_neg hl, h]
  simp only []
  rw [if_pos hr]
  exact chkF_fuel _ _ _ _ _ (by rw [List.length_drop]; omega) (by rw [List.length_drop]; omega)
def chkOut (s : ByteArray) : Value := .tuple #[.int .i64 (chk s.data.toList).1, .int .i64 (chk s.data.toList).2.1, .int .i64 (chk s.data.toList).2.2]
/-- Where the loop of Check stands: k runes are behind it. -/
def At (s : ByteArray) (w : World) (n : Value) (wr : World) : Prop :=
  ∃ pos k : Nat, n = .int .i64 k ∧ k ≤ pos ∧ pos ≤ s.size ∧ Below w.heap.size w wr ∧ wr.heap[w.heap.size]? = some (.stringIter s pos) ∧ chk s.data.toList = chkF (s.size - pos) (s.data.toList.drop pos) k pos
set_option maxHeartbeats 1000000 in
theorem check_any (s : ByteArray) (w : World) (hs : s.size ≤ maxLen) (hg : Bars w) :
    Calls Tryd.prog 31 #[.string s] w fun e w' => e = .returned (chkOut s) ∧ Below w.heap.size w w' := by
  unfold maxLen at hs
  have HG := Lib.hid hg
  clear hg
  go_enter Tryd.func31, Tryd.ntmps31
  go_wp2_with fail
  go_loopw [5] (fun n wr => At s w n wr) (fun _ wr => s.size - wr.iterPos w.heap.size)
  case atStart => exact ⟨0, 0, rfl, Nat.le_refl _, Nat.zero_le _, (Below.refl _ _).alloc (Nat.le_refl _) _, World.iter_heap _ _ _, rfl⟩
  case round =>
    obtain ⟨pos, k, rfl, hk, hp, hb, hi, hc⟩ := hrel
    have HB := Lib.hid hb
    have HI := Lib.hid hi
    have HC := Lib.hid hc
    clear hb hi hc
    by_cases hlt : pos < s.size
    · have hnx := fun ty => Lib.run_next_any_at (P := Tryd.prog) wr w.heap.size s pos ty HI.out hlt
      have hd := decode_le s pos
      go_wp2_with fail
      refine (begins_any s pos _ _ (by omega)).mono ?_
      rintro e w' ⟨rfl, rfl⟩
      rw [begB_seq]
      have HB2 := Lib.hid (Lib.below_iterAt HB.out (Nat.le_refl w.heap.size) s (pos + (Utf8.decode s pos).2))
      have HI2 := Lib.hid (Lib.iterAt_heap wr w.heap.size s pos (pos + (Utf8.decode s pos).2) HI.out)
      have hne : s.data.toList.drop pos ≠ [] := by
        intro e; have := congrArg List.length e; rw [List.length_drop, size_toList] at this; simp at this; omega
      have hln : (s.data.toList.drop pos).length = s.size - pos := by rw [List.length_drop, size_toList]
      have HN := Lib.hid hne
      have HL := Lib.hid hln
      clear hne hln hnx
      cases hq : seq (s.data.toList.drop pos) with
      | none =>
        have HQ := Lib.hid hq
        clear hq
        simp only [Option.isSome_none]
        go_wp2_with fail
        go_ret3
        refine ⟨?_, HB2.out⟩
        rw [chkOut, HC.out, chkF_none (by omega) HN.out HQ.out]
        rfl
      | some r =>
        have hw := seq_width HN.out hq
        rw [← dec_eq] at hw
        have hv := (valid_iff r).1 (seq_some HN.out hq).1
        have hr : ((Utf8.decode s pos).1 : Int) = r := by rw [hw]; show ((r.toNat : Nat) : Int) = r; omega
        have hwd : (Utf8.decode s pos).2 = (encB r).length := by rw [hw]
        have hle : (encB r).length ≤ s.size - pos := by
          obtain ⟨_, t, e⟩ := seq_some HN.out hq
          have := congrArg List.length e
          rw [HL.out, List.length_append] at this
          omega
        have h1 := (encB_len r).1
        have HQ := Lib.hid hq
        have HR := Lib.hid hr
        have HW := Lib.hid hwd
        clear hq hw hr hwd
        simp only [Option.isSome_some]
        go_wp2_with fail
        refine (letIn_any _ _ (by omega) (by omega) (HG.out.below HB2.out)).mono ?_
        rintro e w1 ⟨rfl, hb1⟩
        rw [HR.out]
        have hb3 : Below w.heap.size w w1 := HB2.out.trans (hb1.mono (by rw [Lib.iterAt_size]; exact HB.out.size))
        have hi3 : w1.heap[w.heap.size]? = some (.stringIter s (pos + (Utf8.decode s pos).2)) := by
          rw [hb1.block _ (Array.getElem?_eq_some_iff.1 HI2.out).1]; exact HI2.out
        have HB3 := Lib.hid hb3
        have HI3 := Lib.hid hi3
        clear hb1 hb3 hi3
        cases hlr : letInB r with
        | false =>
          have HLR := Lib.hid hlr
          clear hlr
          go_wp2_with fail
          go_ret3
          refine ⟨?_, HB3.out⟩
          rw [chkOut, HC.out, chkF_bad (by omega) HN.out HQ.out HLR.out]
          rfl
        | true =>
          have HLR := Lib.hid hlr
          clear hlr
          go_wp2_with fail
          go_roundw
          case rel =>
            have hi := HI3.out
            rw [HW.out] at hi
            refine ⟨pos + (encB r).length, k + 1, by go_num, by omega, by omega, HB3.out, hi, ?_⟩
            rw [HC.out, chkF_good (by rw [HL.out]; omega) HN.out HQ.out HLR.out, List.drop_drop]
            congr 1; omega
          case measure =>
            rw [iterPos_of HI3.out, iterPos_of HI.out, HW.out]
            omega
    · have hnx := fun ty => Lib.run_next_end_at (P := Tryd.prog) wr w.heap.size s pos ty HI.out hlt
      go_wp2_with fail
      have e : s.size - pos = 0 := by omega
      have hc := HC.out
      rw [e, chkF] at hc
      go_ret3
      refine ⟨?_, HB.out⟩
      rw [chkOut, hc]
      rfl
end Go.Proofs.YtkdhomiieenfnaaDoor.U
