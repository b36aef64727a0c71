/- strconv.ParseUint at base 16: the number, or an error that is not nil. -/
import Derived.Test.YtkdhomiieenfnaaGreatDoorUParse
import Derived.Shelf.Pu.SyntaxError
import Derived.Lib.IfaceEq
import Derived.Test.YtkdhomiieenfnaaGreatDoorLs2
import Derived.Test.YtkdhomiieenfnaaGreatDoorUHex
namespace Go.Proofs.YtkdhomiieenfnaaGreatDoor.U
open Go.RowKit Go.Proofs.YtkdhomiieenfnaaGreatDoor.Txt
set_option linter.unusedVariables false
set_option linter.unusedSimpArgs false

/-- What Quote and Unquote read of memory. -/
structure EnvQ (w : World) : Prop where
  tz : Tz16 w
  syn : ∃ ev, w.cell? ⟨3, 0, none⟩ = some ev ∧ (ev = .nilIface ∨ ∃ te pe, ev = .iface te pe)
theorem EnvQ.below {w w' : World} (h : EnvQ w) (hb : Below w.heap.size w w') : EnvQ w' :=
  ⟨h.tz.below hb, by obtain ⟨ev, h1, h2⟩ := h.syn; exact ⟨ev, cell_below hb h1, h2⟩⟩
def renSyn : Go.Shelf.Ren := ⟨fun | 21 => 151 | 25 => 173 | n => n, fun | 9 => 9 | 39 => 212 | 24 => 116 | 44 => 227 | 3 => 3 | 4 => 4 | 37 => 109 | 0 => 0 | 47 => 151 | 67 => 84 | 5 => 5 | n => n, fun | 0 => 3 | n => n⟩
theorem laysSyn : LaysPu.n21 Tryz.prog renSyn := {
  mixed := by kernel_rfl
  f21 := Tryz.func151.trans (congrArg some (by kernel_rfl))
  f25 := Tryz.func173.trans (congrArg some (by kernel_rfl))
  t0 := Tryz.underlying0, a0 := Tryz.isAgg0, z0 := Tryz.sizeOf0, v0 := Tryz.zeroValue0, i0 := by kernel_rfl
  t3 := Tryz.underlying3, a3 := Tryz.isAgg3, z3 := Tryz.sizeOf3, v3 := Tryz.zeroValue3, i3 := by kernel_rfl
  t4 := Tryz.underlying4, a4 := Tryz.isAgg4, z4 := Tryz.sizeOf4, v4 := Tryz.zeroValue4, i4 := by kernel_rfl
  t5 := Tryz.underlying5, a5 := Tryz.isAgg5, z5 := Tryz.sizeOf5, v5 := Tryz.zeroValue5, i5 := by kernel_rfl
  t9 := Tryz.underlying9, a9 := Tryz.isAgg9, z9 := Tryz.sizeOf9, v9 := Tryz.zeroValue9, i9 := by kernel_rfl
  t24 := Tryz.underlying116, a24 := Tryz.isAgg116, z24 := Tryz.sizeOf116, v24 := Tryz.zeroValue116, i24 := by kernel_rfl
  t37 := Tryz.underlying109, a37 := Tryz.isAgg109, z37 := Tryz.sizeOf109, v37 := Tryz.zeroValue109, i37 := by kernel_rfl
  t39 := Tryz.underlying212, a39 := Tryz.isAgg212, z39 := Tryz.sizeOf212, v39 := Tryz.zeroValue212, i39 := by kernel_rfl
  t44 := Tryz.underlying227, a44 := Tryz.isAgg227, z44 := Tryz.sizeOf227, v44 := Tryz.zeroValue227, i44 := by kernel_rfl
  t47 := Tryz.underlying151, a47 := Tryz.isAgg151, z47 := Tryz.sizeOf151, v47 := Tryz.zeroValue151, i47 := by kernel_rfl
  t67 := Tryz.underlying84, a67 := Tryz.isAgg84, z67 := Tryz.sizeOf84, v67 := Tryz.zeroValue84, i67 := by kernel_rfl
  g0 := by kernel_rfl
  m0 := by kernel_rfl }
theorem syntaxErr_any (fn s : ByteArray) (ev : Value) (w : World) (hlim : s.size ≤ 281474976710656) (hv : w.cell? ⟨3, 0, none⟩ = some ev) (hev : ev = .nilIface ∨ ∃ te pe, ev = .iface te pe) :
    Calls Tryz.prog 151 #[.string fn, .string s] w fun e w' => ∃ N : Nat, e = .returned (.pointer (some ⟨N, 0, none⟩)) ∧ Below w.heap.size w w' :=
  (AnyPu.strconv_syntaxError laysSyn fn s ev w hlim hv hev).mono fun e w' ⟨N, h1, _, _, h2⟩ => ⟨N, h1, h2⟩

set_option maxRecDepth 100000 in
set_option maxHeartbeats 4000000 in
theorem toErr_any (fn s : ByteArray) (base bits : Int) (ev : Value) (w : World) (hlim : s.size ≤ 281474976710656) (hv : w.cell? ⟨3, 0, none⟩ = some ev) (hev : ev = .nilIface ∨ ∃ te pe, ev = .iface te pe) :
    Calls Tryz.prog 138 #[.string fn, .string s, .int .i64 base, .int .i64 bits, .iface 209 (.int .i64 2)] w fun e w' => ∃ N : Nat, e = .returned (.iface 212 (.pointer (some ⟨N, 0, none⟩))) ∧ Below w.heap.size w w' := by
  have heq : ∀ W, (binOp .eql 116 (.iface 209 (.int .i64 2)) (.iface 209 (.int .i64 2))).run Tryz.prog W = .ok (.bool true) W := fun W => Lib.run_eql_iface_int W 2 2 Tryz.underlying116 (by kernel_rfl) Tryz.underlying209
  have HS := Lib.hid (syntaxErr_any fn s ev w hlim hv hev)
  clear hv hev
  go_enter Tryz.func138, Tryz.ntmps138
  go_wp2_with fail
  refine HS.out.mono ?_
  rintro e w2 ⟨N, rfl, hb⟩
  have HB := Lib.hid hb
  clear hb heq
  go_wp2_with fail
  go_ret
  exact ⟨N, rfl, HB.out⟩

/-- What the public ParseUint hands back. -/
def PubRes (o : Option Nat) (e : Ending) : Prop := match o with
  | some n => e = .returned (.tuple #[.int .u64 n, .nilIface])
  | none => ∃ T N, e = .returned (.tuple #[.int .u64 0, .iface T (.pointer (some ⟨N, 0, none⟩))])

set_option maxRecDepth 100000 in
set_option maxHeartbeats 4000000 in
theorem parse_any (t : ByteArray) (bz : Int) (ev : Value) (w : World) (hlim : t.size ≤ 6) (hv : w.cell? ⟨3, 0, none⟩ = some ev) (hev : ev = .nilIface ∨ ∃ te pe, ev = .iface te pe)
    (hi : Calls Tryz.prog 172 #[.string t, .int .i64 16, .int .i64 bz] w fun e w' => e = .returned (pRes (parseH t.data.toList)) ∧ w' = Lib.bytesWorld w 5 t) :
    Calls Tryz.prog 155 #[.string t, .int .i64 16, .int .i64 bz] w fun e w' => PubRes (parseH t.data.toList) e ∧ Below w.heap.size w w' := by
  have HB0 := Lib.hid (Lib.bytesWorld_below w 5 t)
  have HV := Lib.hid (cell_below HB0.out hv)
  have HE := Lib.hid hev
  clear hv hev
  obtain ⟨W1, hW1⟩ : ∃ W1, W1 = Lib.bytesWorld w 5 t := ⟨_, rfl⟩
  rw [← hW1] at hi HB0 HV
  clear hW1
  cases hp : parseH t.data.toList with
  | some n =>
    rw [hp] at hi
    simp only [pRes] at hi
    have HI := Lib.hid hi
    clear hi hp
    go_enter Tryz.func155, Tryz.ntmps155
    go_wp2_with fail
    refine HI.out.mono ?_
    rintro e w1 ⟨rfl, rfl⟩
    go_wp2_with fail
    go_ret2
    exact ⟨rfl, HB0.out⟩
  | none =>
    rw [hp] at hi
    simp only [pRes] at hi
    have HI := Lib.hid hi
    clear hi hp
    go_enter Tryz.func155, Tryz.ntmps155
    go_wp2_with fail
    refine HI.out.mono ?_
    rintro e w1 ⟨rfl, rfl⟩
    go_wp2_with fail
    refine (toErr_any _ t _ _ ev _ (by omega) HV.out HE.out).mono ?_
    rintro e w2 ⟨N, rfl, hb⟩
    have HB := Lib.hid (HB0.out.trans (hb.mono HB0.out.size))
    clear hb
    go_wp2_with fail
    go_ret2
    exact ⟨⟨_, N, rfl⟩, HB.out⟩
end Go.Proofs.YtkdhomiieenfnaaGreatDoor.U
