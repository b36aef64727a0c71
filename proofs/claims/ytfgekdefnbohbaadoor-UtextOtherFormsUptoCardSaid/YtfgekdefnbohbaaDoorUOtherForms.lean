/- UtextOtherForms walked. -/
import Derived.Test.YtfgekdefnbohbaaDoorUUnq
import Derived.Test.YtfgekdefnbohbaaDoorUTwo
import Derived.Test.YtfgekdefnbohbaaDoorUOtherP
import Derived.BigQuiet
import Derived.Deep.QuietTactic
namespace Go.Proofs.YtfgekdefnbohbaaDoor.U
open Go.RowKit Go.Proofs.YtfgekdefnbohbaaDoor.Txt
set_option linter.unusedVariables false
set_option linter.unusedSimpArgs false

theorem dig_slice (a : Nat) (h : a < 16) : ((⟨#[48, 49, 50, 51, 52, 53, 54, 55, 56, 57, 97, 98, 99, 100, 101, 102]⟩ : ByteArray).extract a (a + 1)).data.toList = [dig a] := by
  have : ∀ a : Fin 16, ((⟨#[48, 49, 50, 51, 52, 53, 54, 55, 56, 57, 97, 98, 99, 100, 101, 102]⟩ : ByteArray).extract a.val (a.val + 1)).data.toList = [dig a.val] := by decide +kernel
  exact this ⟨a, h⟩
/-- In a world behind W the argument's own block stands as it stood. -/
structure Boxed (W w : World) (B : Nat) (vs : Array Value) : Prop where
  below : Below W.heap.size W w
  box : ∃ t fr, w.heap[B]? = some (.cells vs t fr)
theorem Boxed.new {W : World} (vs : Array Value) (t : TypeId) : Boxed W (W.alloc (.cells vs t)) W.heap.size vs :=
  ⟨(Below.refl _ _).alloc (Nat.le_refl _) _, ⟨t, (0, 0), heap_alloc_new W _⟩⟩
theorem Boxed.step {W w w' : World} {B : Nat} {vs : Array Value} (h : Boxed W w B vs) (hb : Below w.heap.size w w') : Boxed W w' B vs :=
  ⟨h.below.trans (hb.mono h.below.size), by obtain ⟨t, fr, e⟩ := h.box; exact ⟨t, fr, by rw [hb.block _ (Array.getElem?_eq_some_iff.1 e).1]; exact e⟩⟩
theorem Boxed.cell {W w : World} {B : Nat} {vs : Array Value} (h : Boxed W w B vs) (i : Nat) {v : Value} (hv : vs[i]? = some v) : w.cell? ⟨B, i, none⟩ = some v := by
  obtain ⟨t, fr, e⟩ := h.box
  simp [World.cell?, e, hv]
theorem otherDrewN {B : Nat} {a w : World} (h : Below B a w) (n : Nat) : Below B a (w.drewN n) := ⟨h.os, h.tape, h.output, h.size, h.block⟩
theorem app_lit (a : List UInt8) (s : ByteArray) (l : List UInt8) (h : s.data.toList = l) : ((⟨a.toArray⟩ : ByteArray) ++ s).data.toList = a ++ l := by
  rw [app_list, h]
theorem qS_le : ∀ (f : Nat) (l : List UInt8), (qS f l).length ≤ 10 * l.length
  | 0, l => by simp [qS]
  | f + 1, l => by
    by_cases hl : l = []
    · subst hl; simp [qS]
    cases hs : seq l with
    | none =>
      rw [qS_none (by omega) hl hs, seq_none_len hl hs]
      have := qS_le f (l.drop 1)
      have h0 := List.length_pos_iff.2 hl
      rw [List.length_append, show (qX (l.headD 0)).length = 4 from rfl, Nat.add_sub_cancel]
      rw [List.length_drop] at this
      omega
    | some r =>
      obtain ⟨hv, t, rfl⟩ := seq_some hl hs
      have hr := (valid_iff r).1 hv
      rw [qS_some (by omega) hl hs, List.drop_left]
      have h1 := (encB_len r).1
      have := qS_le f t
      have h2 := qR_le r (by omega)
      rw [List.length_append, List.length_append, Nat.add_sub_cancel]
      omega

set_option maxRecDepth 100000 in
set_option maxHeartbeats 8000000 in
theorem otherForms_walk (W : World) (v : Value) (A1 : Option Addr) (n1 c1 : Nat) (xs1 : List Int) (A2 : Option Addr) (n2 c2 : Nat) (xs2 : List Int) (k : Int) (raw : ByteArray) (b : Int) (hv : TwoIn W v A1 n1 c1 xs1 A2 n2 c2 xs2 k raw b) (hsm : n1 + n2 + raw.size ≤ 1048576) (hE : EnvQ W) :
    Calls Tryd.prog 3 #[v] W fun e w' => e = .returned (.bool true) ∧ Below W.heap.size W w' := by
  have hrw : raw.size ≤ 1048576 := by omega
  obtain ⟨rfl, _, _, hk0, hk1, hraw, hb0, hb1⟩ := hv
  have L0 := Boxed.new (W := W) #[.slice A1 n1 c1, .slice A2 n2 c2, .int .i64 k, .string raw, .int .u8 b] 24
  have HE := Lib.hid hE
  clear hE
  have HL0 := Lib.hid L0
  clear L0
  obtain ⟨r, hr⟩ : ∃ r, raw.data.toList = r := ⟨_, rfl⟩
  have hrl : r.length = raw.size := by rw [← hr]; rfl
  go_enter Tryd.func3, Tryd.ntmps3
  have x0 := HL0.out.cell 3 rfl
  go_wp2_with fail
  refine (Quote_any raw _ (by omega) (HE.out.below HL0.out.below).tz).mono ?_
  rintro e w1 ⟨rfl, hb1⟩
  rw [hr]
  have HL1 := Lib.hid (HL0.out.step hb1)
  clear hb1 x0 HL0
  obtain ⟨Q, hQ⟩ : ∃ Q : ByteArray, Q = ⟨(quoteL r).toArray⟩ := ⟨_, rfl⟩
  rw [← hQ]
  have hQl : Q.data.toList = 34 :: (qS r.length r ++ [34]) := by rw [hQ]; rfl
  have hq := qS_le r.length r
  have hQs : Q.size = (qS r.length r).length + 2 := by rw [← size_toList, hQl]; simp
  have hidx : ∀ w, (Instr.index 9 (.string Q) (.int .i64 0)).run Tryd.prog w = .ok (.int .u8 34) w := fun w => by
    have := byte_index Q 0 (by omega) w
    rw [hQl] at this
    exact this
  obtain ⟨T, hT⟩ : ∃ T, T = Q.extract 1 Q.size := ⟨_, rfl⟩
  have hTl : T.data.toList = qS r.length r ++ [34] := by
    rw [hT, extract_list Q 1 Q.size (by omega), hQl, List.take_of_length_le (by rw [hQs]; simp), List.drop_succ_cons, List.drop_zero]
  have hTs : T.size = (qS r.length r).length + 1 := by rw [← size_toList, hTl]; simp
  have hsl : ∀ W : World, (Instr.slice 9 (.string Q) (some (.int .i64 1)) none none).run Tryd.prog W = .ok (.string T) W := fun W => by
    rw [run_slice_string_l W 9 Q Tryd.underlying9 .i64 1 (by omega) (by omega), show ((1 : Int)).toNat = 1 by omega, hT]
  have e1 : ((⟨#[34, 92, 117, 123, 101, 57, 125]⟩ : ByteArray) ++ T).data.toList = 34 :: 92 :: 117 :: 123 :: 101 :: 57 :: 125 :: (qS r.length r ++ [34]) := by rw [app_list, hTl]; rfl
  have HTl := Lib.hid hTl
  have HQl := Lib.hid hQl
  have HQs := Lib.hid hQs
  have HTs := Lib.hid hTs
  have q2 : 2 ≤ Q.size := by omega
  have qm : Q.size ≤ 10485762 := by omega
  have tm : T.size ≤ 10485762 := by omega
  clear hQ hT hTl hQl hQs hTs hq
  have x1 := HL1.out.cell 3 rfl
  go_wp2_with fail
  refine (Unquote_any _ _ (by simp only [ByteArray.size_append]; show 7 + T.size ≤ _; omega) (HE.out.below HL1.out.below)).mono ?_
  rintro e w2 ⟨hr2, hb2⟩
  rw [e1, read_more] at hr2
  obtain rfl := hr2
  have HL2 := Lib.hid (HL1.out.step hb2)
  have hcat : ((⟨#[195, 169]⟩ : ByteArray) ++ raw) = ⟨(195 :: 169 :: r).toArray⟩ := by
    apply ByteArray.ext
    rw [← Array.toList_inj]
    show (((⟨#[195, 169]⟩ : ByteArray) ++ raw)).data.toList = _
    rw [app_list, hr]
    rfl
  have hql : (quoteL r).length = Q.size := by rw [HQs.out, quoteL_len]
  rw [hql]
  generalize (⟨(195 :: 169 :: r).toArray⟩ : ByteArray) = X at hcat
  clear hb2 x1 hql hidx e1
  have x2 := HL2.out.cell 3 rfl
  have x3 := HL2.out.cell 4 rfl
  go_wp2_with fail
  generalize hD : (⟨#[48, 49, 50, 51, 52, 53, 54, 55, 56, 57, 97, 98, 99, 100, 101, 102]⟩ : ByteArray) = D
  have HD := Lib.hid hD
  clear hD
  obtain ⟨a, ha⟩ : ∃ a : Nat, b % 128 / 16 = a := ⟨(b % 128 / 16).toNat, by omega⟩
  obtain ⟨c, hc⟩ : ∃ c : Nat, b % 16 = c := ⟨(b % 16).toNat, by omega⟩
  have ha8 : a < 8 := by omega
  have hc16 : c < 16 := by omega
  obtain ⟨H, hH⟩ : ∃ H, H = D.extract a (a + 1) := ⟨_, rfl⟩
  obtain ⟨L, hL⟩ : ∃ L, L = D.extract c (c + 1) := ⟨_, rfl⟩
  have hHl : H.data.toList = [dig a] := by rw [hH, ← HD.out]; exact dig_slice a (by omega)
  have hLl : L.data.toList = [dig c] := by rw [hL, ← HD.out]; exact dig_slice c (by omega)
  have hDs : D.size = 16 := by rw [← HD.out]; rfl
  have hs1 : ∀ W : World, (Instr.slice 9 (.string D) (some (.int .u8 (b % 128 / 16))) (some (.int .u8 (b % 128 / 16 + 1))) none).run Tryd.prog W = .ok (.string H) W := fun W => by
    rw [run_slice_string W 9 D .u8 .u8 (b % 128 / 16) (b % 128 / 16 + 1) Tryd.underlying9 (by omega) (by omega) (by omega), hH, ha]
    rfl
  have hs2 : ∀ W : World, (Instr.slice 9 (.string D) (some (.int .u8 (b % 16))) (some (.int .u8 (b % 16 + 1))) none).run Tryd.prog W = .ok (.string L) W := fun W => by
    rw [run_slice_string W 9 D .u8 .u8 (b % 16) (b % 16 + 1) Tryd.underlying9 (by omega) (by omega) (by omega), hL, hc]
    rfl
  have hHs : H.size = 1 := by rw [← size_toList, hHl]; rfl
  have hLs : L.size = 1 := by rw [← size_toList, hLl]; rfl
  have e2 : ((((⟨#[34, 92, 120]⟩ : ByteArray) ++ H) ++ L) ++ T).data.toList = 34 :: 92 :: 120 :: dig a :: dig c :: (qS r.length r ++ [34]) := by
    rw [app_list, app_list, app_list, hHl, hLl, HTl.out]; rfl
  have e3 : (((((⟨#[34, 92, 117, 123, 48]⟩ : ByteArray) ++ H) ++ L) ++ ⟨#[125]⟩) ++ T).data.toList = 34 :: 92 :: 117 :: 123 :: 48 :: dig a :: dig c :: 125 :: (qS r.length r ++ [34]) := by
    rw [app_list, app_list, app_list, app_list, hHl, hLl, HTl.out]; rfl
  have e4 : ((⟨#[34, 92, 120, 99, 51, 92, 120, 97, 57]⟩ : ByteArray) ++ T).data.toList = 34 :: 92 :: 120 :: 99 :: 51 :: 92 :: 120 :: 97 :: 57 :: (qS r.length r ++ [34]) := by
    rw [app_list, HTl.out]; rfl
  have e5 : ((⟨#[34, 92, 117, 123, 69, 57, 125]⟩ : ByteArray) ++ T).data.toList = 34 :: 92 :: 117 :: 123 :: 69 :: 57 :: 125 :: (qS r.length r ++ [34]) := by
    rw [app_list, HTl.out]; rfl
  have E2 := Lib.hid e2
  have E3 := Lib.hid e3
  have E4 := Lib.hid e4
  have E5 := Lib.hid e5
  have HHs := Lib.hid hHs
  have HLs := Lib.hid hLs
  have hH1 : H.size ≤ 1 := by omega
  have hL1 : L.size ≤ 1 := by omega
  clear e2 e3 e4 e5 hHs hLs hHl hLl hDs hH hL ha hc hcat
  go_quiet (fail)
  have HL3 : Hid (Boxed W (w2.drewN nq) W.heap.size #[.slice A1 n1 c1, .slice A2 n2 c2, .int .i64 k, .string raw, .int .u8 b]) := Lib.hid (HL2.out.step (otherDrewN (Below.refl _ _) nq))
  generalize w2.drewN nq = w3 at HL3
  clear x2 x3 HL2 hs1 hs2
  go_wp2_with fail
  refine (Unquote_any _ _ (by simp only [ByteArray.size_append]; show 3 + H.size + L.size + T.size ≤ _; omega) (HE.out.below HL3.out.below)).mono ?_
  rintro e w4 ⟨hr4, hb4⟩
  rw [E2.out, no_x a c ha8 hc16] at hr4
  obtain rfl := hr4
  have HL4 := Lib.hid (HL3.out.step hb4)
  clear hb4
  go_wp2_with fail
  refine (Unquote_any _ _ (by simp only [ByteArray.size_append]; show 5 + H.size + L.size + 1 + T.size ≤ _; omega) (HE.out.below HL4.out.below)).mono ?_
  rintro e w5 ⟨hr5, hb5⟩
  rw [E3.out, no_0 a c (by omega) hc16] at hr5
  obtain rfl := hr5
  have HL5 := Lib.hid (HL4.out.step hb5)
  clear hb5
  go_wp2_with fail
  refine (Unquote_any _ _ (by simp only [ByteArray.size_append]; show 9 + T.size ≤ _; omega) (HE.out.below HL5.out.below)).mono ?_
  rintro e w6 ⟨hr6, hb6⟩
  rw [E4.out, no_bytes] at hr6
  obtain rfl := hr6
  have HL6 := Lib.hid (HL5.out.step hb6)
  clear hb6
  go_wp2_with fail
  refine (Unquote_any _ _ (by simp only [ByteArray.size_append]; show 7 + T.size ≤ _; omega) (HE.out.below HL6.out.below)).mono ?_
  rintro e w7 ⟨hr7, hb7⟩
  rw [E5.out, no_E9] at hr7
  obtain rfl := hr7
  have HL7 := Lib.hid (HL6.out.step hb7)
  clear hb7
  obtain ⟨P, hP⟩ : ∃ P, P = Q.extract 0 (Q.size - 1) := ⟨_, rfl⟩
  have hPl : P.data.toList = 34 :: qS r.length r := by
    rw [hP, take_list, HQl.out, HQs.out, show (qS r.length r).length + 2 - 1 = (qS r.length r).length + 1 by omega, List.take_succ_cons, List.take_left]
  have hPs : P.size ≤ 10485762 := by
    have := congrArg List.length hPl
    rw [size_toList, List.length_cons] at this
    have := HQs.out
    omega
  have hsp : ∀ W : World, (Instr.slice 9 (.string Q) none (some (.int .i64 ((Q.size : Int) - 1))) none).run Tryd.prog W = .ok (.string P) W := fun W => by
    rw [run_slice_string_h W 9 Q Tryd.underlying9 .i64 _ (by omega) (by omega), show ((Q.size : Int) - 1).toNat = Q.size - 1 by omega, hP]
  have HPl := Lib.hid hPl
  clear hPl hP
  go_wp2_with fail
  refine (Unquote_any _ _ (by omega) (HE.out.below HL7.out.below)).mono ?_
  rintro e w8 ⟨hr8, hb8⟩
  rw [HPl.out, no_end] at hr8
  obtain rfl := hr8
  have HL8 := Lib.hid (HL7.out.step hb8)
  clear hb8
  go_wp2_with fail
  go_ret
  exact ⟨rfl, HL8.out.below⟩
end Go.Proofs.YtfgekdefnbohbaaDoor.U
