/- The walk of utext.Quote. -/
import Derived.Test.YtkdhomiieenfnaaGreatDoorLs1
import Derived.Test.YtkdhomiieenfnaaGreatDoorUHex
import Derived.Test.YtkdhomiieenfnaaGreatDoorUBuild
import Derived.Test.YtkdhomiieenfnaaGreatDoorLs2
namespace Go.Proofs.YtkdhomiieenfnaaGreatDoor.U
open Go.RowKit Go.Proofs.YtkdhomiieenfnaaGreatDoor.Txt
set_option linter.unusedVariables false
set_option linter.unusedSimpArgs false

/-- What short answers. -/
def shortS (r : Int) : ByteArray := if r = 34 then ⟨#[92, 34]⟩ else if r = 92 then ⟨#[92, 92]⟩ else if r = 10 then ⟨#[92, 110]⟩ else if r = 9 then ⟨#[92, 116]⟩ else Utf8.encode r
def shortB (r : Int) : Bool := decide (r = 34 ∨ r = 92 ∨ r = 10 ∨ r = 9 ∨ (32 ≤ r ∧ r ≤ 126))
set_option maxRecDepth 100000 in
set_option maxHeartbeats 4000000 in
theorem short_any (r : Int) (w : World) : Calls Tryz.prog 109 #[.int .i32 r] w fun e w' => e = .returned (.tuple #[.string (shortS r), .bool (shortB r)]) ∧ w = w' := by
  by_cases h34 : r = 34
  · subst h34
    go_enter Tryz.func109, Tryz.ntmps109
    go_wp2
    go_ret2
    exact ⟨rfl, rfl⟩
  by_cases h92 : r = 92
  · subst h92
    go_enter Tryz.func109, Tryz.ntmps109
    go_wp2
    go_ret2
    exact ⟨rfl, rfl⟩
  by_cases h10 : r = 10
  · subst h10
    go_enter Tryz.func109, Tryz.ntmps109
    go_wp2
    go_ret2
    exact ⟨rfl, rfl⟩
  by_cases h9 : r = 9
  · subst h9
    go_enter Tryz.func109, Tryz.ntmps109
    go_wp2
    go_ret2
    exact ⟨rfl, rfl⟩
  have b34 : (r == 34) = false := by simpa using h34
  have b92 : (r == 92) = false := by simpa using h92
  have b10 : (r == 10) = false := by simpa using h10
  have b9 : (r == 9) = false := by simpa using h9
  go_enter Tryz.func109, Tryz.ntmps109
  have e1 : shortS r = Utf8.encode r := by unfold shortS; rw [if_neg h34, if_neg h92, if_neg h10, if_neg h9]
  have E1 := Lib.hid e1
  clear e1
  go_wp2
  · rename_i h
    have e2 : shortB r = decide (r ≤ 126) := by unfold shortB; rw [decide_eq_decide]; omega
    go_ret2
    rw [E1.out, e2]
    exact ⟨rfl, rfl⟩
  · rename_i h
    have e2 : shortB r = false := by unfold shortB; simp; omega
    go_ret2
    rw [E1.out, e2]
    exact ⟨rfl, rfl⟩

theorem bc_append (a b : List UInt8) : Lib.byteCells (a ++ b) = Lib.byteCells a ++ Lib.byteCells b := by simp [Lib.byteCells]
theorem bc_len (a : List UInt8) : (Lib.byteCells a).length = a.length := Lib.byteCells_length a
theorem sc_eq (s : ByteArray) : Lib.strCells s = Lib.byteCells s.data.toList := rfl
theorem WByte (B b : Nat) (l : List UInt8) (x : UInt8) (w : World) (h : Bld B b (Lib.byteCells l) w) (hlen : l.length + 1 ≤ 140737488355328) (hBw : B ≤ w.heap.size) :
    Calls Tryz.prog 107 #[.pointer (some ⟨b, 0, none⟩), .int .u8 (x.toNat : Int)] w fun e w' => e = .returned .nilIface ∧ (Bld B b (Lib.byteCells (l ++ [x])) w' ∧ Below B w w' ∧ Lib.OthersKept 5 (some b) w w') := by
  have := WriteByte_any B b _ (x.toNat : Int) w h (by rw [bc_len]; exact hlen) hBw
  rwa [show Lib.byteCells l ++ [Value.int .u8 (x.toNat : Int)] = Lib.byteCells (l ++ [x]) by rw [bc_append]; rfl] at this
theorem WString (B b : Nat) (l : List UInt8) (s : ByteArray) (w : World) (h : Bld B b (Lib.byteCells l) w) (hlen : l.length + s.size ≤ 140737488355328) (hBw : B ≤ w.heap.size) :
    Calls Tryz.prog 108 #[.pointer (some ⟨b, 0, none⟩), .string s] w fun e w' => e = .returned (.tuple #[.int .i64 s.size, .nilIface]) ∧ (Bld B b (Lib.byteCells (l ++ s.data.toList)) w' ∧ Below B w w' ∧ Lib.OthersKept 5 (some b) w w') := by
  have := WriteString_any B b _ s w h (by rw [bc_len]; exact hlen) hBw
  rwa [sc_eq, ← bc_append] at this

def digs16 : ByteArray := ⟨#[48, 49, 50, 51, 52, 53, 54, 55, 56, 57, 97, 98, 99, 100, 101, 102]⟩
set_option maxRecDepth 100000 in
theorem dig16_index (m : Nat) (h : m < 16) : ∀ w, (Instr.index 9 (.string digs16) (.int .u8 m)).run Tryz.prog w = .ok (.int .u8 (dig m).toNat) w := by
  have hm : m = 0 ∨ m = 1 ∨ m = 2 ∨ m = 3 ∨ m = 4 ∨ m = 5 ∨ m = 6 ∨ m = 7 ∨ m = 8 ∨ m = 9 ∨ m = 10 ∨ m = 11 ∨ m = 12 ∨ m = 13 ∨ m = 14 ∨ m = 15 := by omega
  rcases hm with rfl | rfl | rfl | rfl | rfl | rfl | rfl | rfl | rfl | rfl | rfl | rfl | rfl | rfl | rfl | rfl
  all_goals exact fun _ => by kernel_rfl
theorem byte_index (s : ByteArray) (pos : Nat) (h : pos < s.size) : ∀ w, (Instr.index 9 (.string s) (.int .i64 pos)).run Tryz.prog w = .ok (.int .u8 ((s.data.toList.drop pos).headD 0).toNat) w := by
  intro w
  rw [run_index_string w 9 s .i64 pos Tryz.underlying9, dif_pos (by omega)]
  congr 3
  have : (s.data.toList.drop pos).headD 0 = s[pos] := by
    rw [List.headD_eq_head?_getD, List.head?_drop]
    rw [Array.getElem?_toList, Array.getElem?_eq_getElem (show pos < s.data.size from h)]
    rfl
  rw [this]
  rfl

/-- Where Quote's loop stands. -/
structure QAt (W : World) (g : Nat) (s : ByteArray) (wr : World) (pos : Nat) (acc : List UInt8) : Prop where
  le : pos ≤ s.size
  it : wr.heap[g]? = some (.stringIter s pos)
  bld : Bld W.heap.size W.heap.size (Lib.byteCells acc) wr
  below : Below W.heap.size W wr
  len : acc.length ≤ 1 + 10 * pos
  eq : acc ++ qS (s.size - pos) (s.data.toList.drop pos) = 34 :: qS s.size s.data.toList
  gt : W.heap.size < g

set_option maxRecDepth 100000 in
set_option maxHeartbeats 8000000 in
theorem Quote_any (s : ByteArray) (w : World) (hs : s.size ≤ 14073748835000) (ht : Tz16 w) :
    Calls Tryz.prog 72 #[.string s] w fun e w' => e = .returned (.string ⟨(quoteL s.data.toList).toArray⟩) ∧ Below w.heap.size w w' := by
  have HT := Lib.hid ht
  clear ht
  go_enter Tryz.func72, Tryz.ntmps72
  go_wp2_with fail
  refine (WByte w.heap.size w.heap.size [] 34 _ (Bld.new w) (by simp) (by simp)).mono ?_
  rintro e w1 ⟨rfl, hb1, hB1, hk1⟩
  have hBB1 := hB1
  have hB1' : Below w.heap.size w w1 := ((Below.refl _ _).alloc (Nat.le_refl _) _).trans hB1
  have hsz1 : w.heap.size < w1.heap.size := by have := hB1.size; obtain ⟨_, h⟩ | ⟨_, h⟩ := hb1 <;> (obtain ⟨v, h, _⟩ := h; exact (Array.getElem?_eq_some_iff.1 h).1)
  have HB1 := Lib.hid hb1
  have HBe := Lib.hid hB1'
  clear hb1 hB1 hk1 hBB1 hB1'
  go_wp2_with fail
  go_loopw [] (fun wr => ∃ pos acc, QAt w w1.heap.size s wr pos acc) (fun wr => s.size - wr.iterPos w1.heap.size)
  case atStart =>
    exact ⟨0, [34], Nat.zero_le _, World.iter_heap _ _ _, HB1.out.below ((Below.refl _ _).alloc (Nat.le_refl _) _), HBe.out.alloc HBe.out.size _, by simp, rfl, hsz1⟩
  case round =>
    obtain ⟨pos, acc, hq⟩ := hrel
    have HQ := Lib.hid hq
    have hp := hq.le
    have hlen := hq.len
    have hit := hq.it
    clear hq HB1 HBe
    generalize w1.heap.size = g at hit HQ
    by_cases hlt : pos < s.size
    · have hnx := fun ty => Lib.run_next_any_at (P := Tryz.prog) wr g s pos ty hit hlt
      have hd := decode_le s pos
      clear hit
      go_wp2_with fail
      refine (begins_any s pos _ _ (by omega)).mono ?_
      rintro e w' ⟨rfl, rfl⟩
      rw [begB_seq]
      have HI2 := Lib.hid (Lib.iterAt_heap wr g s pos (pos + (Utf8.decode s pos).2) HQ.out.it)
      have HB2 := Lib.hid (HQ.out.bld.iterAt HQ.out.it (pos + (Utf8.decode s pos).2))
      have HL2 := Lib.hid (Lib.below_iterAt HQ.out.below (Nat.le_of_lt HQ.out.gt) s (pos + (Utf8.decode s pos).2))
      have hne : s.data.toList.drop pos ≠ [] := by
        intro e; have := congrArg List.length e; rw [List.length_drop, size_toList] at this; simp at this; omega
      have HN := Lib.hid hne
      clear hne hnx
      cases hq : seq (s.data.toList.drop pos) with
      | none =>
        have HS := Lib.hid hq
        clear hq
        simp only [Option.isSome_none]
        go_wp2_with fail
        refine (WString _ _ acc ⟨#[92, 120]⟩ _ HB2.out (by show acc.length + 2 ≤ _; omega) HL2.out.size).mono ?_
        rintro e w2 ⟨rfl, hb3, hl3, hk3⟩
        have HI3 := Lib.hid (hk3.iter HI2.out (by have := HQ.out.gt; omega))
        have HB3 := Lib.hid hb3
        have HL3 := Lib.hid (HL2.out.trans hl3)
        clear hb3 hl3 hk3
        have hx1 := byte_index s pos hlt
        have HX := Lib.hid (qS_none (f := s.size - pos) (by omega) HN.out HS.out)
        generalize (s.data.toList.drop pos).headD 0 = x at hx1 HX
        have hxl := x.toNat_lt
        have a1 : ((x.toNat : Int) / 16) = ((x.toNat / 16 : Nat) : Int) := by omega
        have a2 : bits BinOp.and IntKind.u8 (x.toNat : Int) 15 = ((x.toNat % 16 : Nat) : Int) := (u8_and15 (x := (x.toNat : Int)) (by omega) (by omega)).trans (by omega)
        have d1 := dig16_index (x.toNat / 16) (by omega)
        have d2 := dig16_index (x.toNat % 16) (by omega)
        have HXX := Lib.hid (show qX x = [92, 120, dig (x.toNat / 16), dig (x.toNat % 16)] from rfl)
        generalize x.toNat / 16 = m1 at a1 d1 HXX
        generalize x.toNat % 16 = m2 at a2 d2 HXX
        unfold digs16 at d1 d2
        go_wp2_with fail
        refine (WByte _ _ _ (dig m1) _ HB3.out (by simp; omega) HL3.out.size).mono ?_
        rintro e w3 ⟨rfl, hb4, hl4, hk4⟩
        have HI4 := Lib.hid (hk4.iter HI3.out (by have := HQ.out.gt; omega))
        have HB4 := Lib.hid hb4
        have HL4 := Lib.hid (HL3.out.trans hl4)
        clear hb4 hl4 hk4
        go_wp2_with fail
        refine (WByte _ _ _ (dig m2) _ HB4.out (by simp; omega) HL4.out.size).mono ?_
        rintro e w4 ⟨rfl, hb5, hl5, hk5⟩
        have HI5 := Lib.hid (hk5.iter HI4.out (by have := HQ.out.gt; omega))
        have HB5 := Lib.hid hb5
        have HL5 := Lib.hid (HL4.out.trans hl5)
        clear hb5 hl5 hk5
        go_wp2_with fail
        have hd1 : 1 ≤ (Utf8.decode s pos).2 ∧ (Utf8.decode s pos).2 ≤ s.size - pos := by
          rw [dec_eq]
          have := decL_le _ HN.out
          rw [List.length_drop, size_toList] at this
          exact ⟨decL_pos _ HN.out, this⟩
        go_roundw
        case rel =>
          refine ⟨pos + (Utf8.decode s pos).2, _, by omega, HI5.out, HB5.out, HL5.out, by simp; omega, ?_, HQ.out.gt⟩
          have hf : qS (s.size - (pos + (Utf8.decode s pos).2)) (s.data.toList.drop (pos + (Utf8.decode s pos).2)) = qS (s.size - pos - 1) (s.data.toList.drop (pos + (Utf8.decode s pos).2)) :=
            qS_fuel _ _ _ (by rw [List.length_drop, size_toList]; omega) (by rw [List.length_drop, size_toList]; omega)
          rw [← HQ.out.eq, HX.out, HXX.out, List.drop_drop, ← dec_eq, hf]
          simp
        case measure =>
          rw [iterPos_of HI5.out, iterPos_of HQ.out.it]
          omega
      | some r =>
        have hw := seq_width HN.out hq
        rw [← dec_eq] at hw
        have hv := (valid_iff r).1 (seq_some HN.out hq).1
        have hr : ((Utf8.decode s pos).1 : Int) = r := by rw [hw]; show ((r.toNat : Nat) : Int) = r; omega
        have hwd : (Utf8.decode s pos).2 = (encB r).length := by rw [hw]
        have hle : (encB r).length ≤ s.size - pos := by
          obtain ⟨_, t, e⟩ := seq_some HN.out hq
          have := congrArg List.length e
          rw [List.length_drop, size_toList, List.length_append] at this
          omega
        have h1 := (encB_len r).1
        have HX := Lib.hid (qS_some (f := s.size - pos) (by omega) HN.out hq)
        have hf : qS (s.size - (pos + (encB r).length)) (s.data.toList.drop (pos + (encB r).length)) = qS (s.size - pos - 1) (s.data.toList.drop (pos + (encB r).length)) :=
          qS_fuel _ _ _ (by rw [List.length_drop, size_toList]; omega) (by rw [List.length_drop, size_toList]; omega)
        have HF := Lib.hid hf
        have HR := Lib.hid hr
        have HW := Lib.hid hwd
        have hI2 : (wr.iterAt g s (pos + (Utf8.decode s pos).2)).heap[g]? = some (.stringIter s (pos + (encB r).length)) := by rw [← hwd]; exact HI2.out
        have HI2' := Lib.hid hI2
        have hq10 := qR_le r (by omega)
        clear hq hw hr hwd hI2 hf
        simp only [Option.isSome_some]
        go_wp2_with fail
        refine (short_any _ _).mono ?_
        rintro e w' ⟨rfl, rfl⟩
        rw [HR.out]
        cases hsb : shortB r with
        | true =>
          have hss : (shortS r).data.toList = qR r := by
            unfold shortB at hsb
            unfold shortS qR
            rw [decide_eq_true_eq] at hsb
            repeat' split
            all_goals first | rfl | omega
          have HSS := Lib.hid hss
          have hsz : (shortS r).size = (qR r).length := by rw [← hss, size_toList]
          clear hss hsb
          go_wp2_with fail
          refine (WString _ _ acc (shortS r) _ HB2.out (by omega) HL2.out.size).mono ?_
          rintro e w2 ⟨rfl, hb3, hl3, hk3⟩
          have HI3 := Lib.hid (hk3.iter HI2'.out (by have := HQ.out.gt; omega))
          have HB3 := Lib.hid hb3
          have HL3 := Lib.hid (HL2.out.trans hl3)
          clear hb3 hl3 hk3
          go_wp2_with fail
          go_roundw
          case rel =>
            refine ⟨pos + (encB r).length, _, by omega, HI3.out, HB3.out, HL3.out, by rw [List.length_append, HSS.out, Nat.mul_add]; omega, ?_, HQ.out.gt⟩
            rw [← HQ.out.eq, HX.out, HSS.out, List.drop_drop, HF.out]
            simp
          case measure =>
            rw [iterPos_of HI3.out, iterPos_of HQ.out.it]
            omega
        | false =>
          have hqr : qR r = [92, 117, 123] ++ hexL r.toNat ++ [125] := by
            unfold shortB at hsb
            rw [decide_eq_false_iff_not] at hsb
            unfold qR
            rw [if_neg (by omega), if_neg (by omega), if_neg (by omega), if_neg (by omega), if_neg (by omega)]
          have HQR := Lib.hid hqr
          have hrn : ((r.toNat : Nat) : Int) = r := by omega
          clear hqr hsb
          go_wp2_with fail
          rw [← hrn]
          refine (FormatInt16 r.toNat _ (by omega) (HT.out.below HL2.out)).mono ?_
          rintro e w2 ⟨rfl, hl3⟩
          have HI3 := Lib.hid ((hl3.block _ (Array.getElem?_eq_some_iff.1 HI2'.out).1).trans HI2'.out)
          have HB3 := Lib.hid (HB2.out.below hl3)
          have HL3 := Lib.hid (HL2.out.trans (hl3.mono HL2.out.size))
          clear hl3 HB2
          rw [hrn]
          have hxl := hexL_le r.toNat (by omega)
          have hxd : (⟨(hexL r.toNat).toArray⟩ : ByteArray).data.toList = hexL r.toNat := rfl
          have hxz : (⟨(hexL r.toNat).toArray⟩ : ByteArray).size = (hexL r.toNat).length := rfl
          generalize (⟨(hexL r.toNat).toArray⟩ : ByteArray) = X at hxd hxz
          have HXD := Lib.hid hxd
          have hx6 : X.size ≤ 6 := by omega
          clear hxd hxz hxl
          go_wp2_with fail
          have hsz : ((⟨#[92, 117, 123]⟩ : ByteArray) ++ X ++ ⟨#[125]⟩).size ≤ 10 := by rw [ByteArray.size_append, ByteArray.size_append]; show 3 + X.size + 1 ≤ 10; omega
          have hdt : ((⟨#[92, 117, 123]⟩ : ByteArray) ++ X ++ ⟨#[125]⟩).data.toList = qR r := by rw [HQR.out, ← HXD.out, app_list, app_list]
          have HDT := Lib.hid hdt
          clear hdt
          refine (WString _ _ acc _ _ HB3.out (by omega) HL3.out.size).mono ?_
          rintro e w3 ⟨rfl, hb4, hl4, hk4⟩
          have HI4 := Lib.hid (hk4.iter HI3.out (by have := HQ.out.gt; omega))
          have HB4 := Lib.hid hb4
          have HL4 := Lib.hid (HL3.out.trans hl4)
          clear hb4 hl4 hk4
          go_wp2_with fail
          go_roundw
          case rel =>
            refine ⟨pos + (encB r).length, _, by omega, HI4.out, HB4.out, HL4.out, by rw [List.length_append, HDT.out, Nat.mul_add]; omega, ?_, HQ.out.gt⟩
            rw [← HQ.out.eq, HX.out, HDT.out, List.drop_drop, HF.out]
            simp
          case measure =>
            rw [iterPos_of HI4.out, iterPos_of HQ.out.it]
            omega
    · have hnx := fun ty => Lib.run_next_end_at (P := Tryz.prog) wr g s pos ty hit hlt
      have hend : acc = 34 :: qS s.size s.data.toList := by
        have := HQ.out.eq
        rw [show s.size - pos = 0 by omega] at this
        simpa [qS] using this
      have HE := Lib.hid hend
      clear hit hend
      go_wp2_with fail
      refine (WByte _ _ _ 34 _ HQ.out.bld (by omega) HQ.out.below.size).mono ?_
      rintro e w2 ⟨rfl, hb3, hl3, hk3⟩
      have HB3 := Lib.hid hb3
      have HL3 := Lib.hid (HQ.out.below.trans hl3)
      clear hb3 hl3 hk3
      go_wp2_with fail
      refine (String_any _ _ _ _ HB3.out HL3.out.size).mono ?_
      rintro e w3 ⟨rfl, hl4⟩
      have HL4 := Lib.hid (HL3.out.trans hl4)
      clear hl4
      go_wp2_with fail
      go_ret
      refine ⟨?_, HL4.out⟩
      rw [HE.out]
      rfl
end Go.Proofs.YtkdhomiieenfnaaGreatDoor.U
