/- strconv.ParseUint at base 16: the number, or an error that is not nil. -/
import Derived.Test.YtnippaaiopgnaaaDoorUParse
import Derived.Shelf.Pu.SyntaxError
import Derived.Lib.IfaceEq
import Derived.Test.YtnippaaiopgnaaaDoorUOps
import Derived.Test.YtnippaaiopgnaaaDoorUHex
namespace Go.Proofs.YtnippaaiopgnaaaDoor.U
open Go.RowKit Go.Proofs.YtnippaaiopgnaaaDoor.Txt
set_option linter.unusedVariables false
set_option linter.unusedSimpArgs false

/-- What Quote and Unquote read of memory. -/
structure EnvQ (w : World) : Prop where
  tz : Tz16 w
  syn : ∃ ev, w.cell? ⟨3, 0, none⟩ = some ev ∧ (ev = .nilIface ∨ ∃ te pe, ev = .iface te pe)
theorem EnvQ.below {w w' : World} (h : EnvQ w) (hb : Below w.heap.size w w') : EnvQ w' :=
  ⟨h.tz.below hb, by obtain ⟨ev, h1, h2⟩ := h.syn; exact ⟨ev, cell_below hb h1, h2⟩⟩
def renSyn : Go.Shelf.Ren := ⟨fun | 21 => 72 | 25 => 92 | n => n, fun | 9 => 9 | 39 => 128 | 24 => 82 | 44 => 144 | 3 => 3 | 4 => 4 | 37 => 78 | 0 => 0 | 47 => 106 | 67 => 91 | 5 => 5 | n => n, fun | 0 => 3 | n => n⟩
theorem laysSyn : LaysPu.n21 Tryd.prog renSyn := {
  mixed := by kernel_rfl
  f21 := Tryd.func72.trans (congrArg some (by kernel_rfl))
  f25 := Tryd.func92.trans (congrArg some (by kernel_rfl))
  t0 := Tryd.underlying0, a0 := Tryd.isAgg0, z0 := Tryd.sizeOf0, v0 := Tryd.zeroValue0, i0 := by kernel_rfl
  t3 := Tryd.underlying3, a3 := Tryd.isAgg3, z3 := Tryd.sizeOf3, v3 := Tryd.zeroValue3, i3 := by kernel_rfl
  t4 := Tryd.underlying4, a4 := Tryd.isAgg4, z4 := Tryd.sizeOf4, v4 := Tryd.zeroValue4, i4 := by kernel_rfl
  t5 := Tryd.underlying5, a5 := Tryd.isAgg5, z5 := Tryd.sizeOf5, v5 := Tryd.zeroValue5, i5 := by kernel_rfl
  t9 := Tryd.underlying9, a9 := Tryd.isAgg9, z9 := Tryd.sizeOf9, v9 := Tryd.zeroValue9, i9 := by kernel_rfl
  t24 := Tryd.underlying82, a24 := Tryd.isAgg82, z24 := Tryd.sizeOf82, v24 := Tryd.zeroValue82, i24 := by kernel_rfl
  t37 := Tryd.underlying78, a37 := Tryd.isAgg78, z37 := Tryd.sizeOf78, v37 := Tryd.zeroValue78, i37 := by kernel_rfl
  t39 := Tryd.underlying128, a39 := Tryd.isAgg128, z39 := Tryd.sizeOf128, v39 := Tryd.zeroValue128, i39 := by kernel_rfl
  t44 := Tryd.underlying144, a44 := Tryd.isAgg144, z44 := Tryd.sizeOf144, v44 := Tryd.zeroValue144, i44 := by kernel_rfl
  t47 := Tryd.underlying106, a47 := Tryd.isAgg106, z47 := Tryd.sizeOf106, v47 := Tryd.zeroValue106, i47 := by kernel_rfl
  t67 := Tryd.underlying91, a67 := Tryd.isAgg91, z67 := Tryd.sizeOf91, v67 := Tryd.zeroValue91, i67 := by kernel_rfl
  g0 := by kernel_rfl
  m0 := by kernel_rfl }
theorem syntaxErr_any (fn s : ByteArray) (ev : Value) (w : World) (hlim : s.size ≤ 281474976710656) (hv : w.cell? ⟨3, 0, none⟩ = some ev) (hev : ev = .nilIface ∨ ∃ te pe, ev = .iface te pe) :
    Calls Tryd.prog 72 #[.string fn, .string s] w fun e w' => ∃ N : Nat, e = .returned (.pointer (some ⟨N, 0, none⟩)) ∧ Below w.heap.size w w' :=
  (AnyPu.strconv_syntaxError laysSyn fn s ev w hlim hv hev).mono fun e w' ⟨N, h1, _, _, h2⟩ => ⟨N, h1, h2⟩

set_option maxRecDepth 100000 in
set_option maxHeartbeats 4000000 in
theorem toErr_any (fn s : ByteArray) (base bits : Int) (ev : Value) (w : World) (hlim : s.size ≤ 281474976710656) (hv : w.cell? ⟨3, 0, none⟩ = some ev) (hev : ev = .nilIface ∨ ∃ te pe, ev = .iface te pe) :
    Calls Tryd.prog 59 #[.string fn, .string s, .int .i64 base, .int .i64 bits, .iface 125 (.int .i64 2)] w fun e w' => ∃ N : Nat, e = .returned (.iface 128 (.pointer (some ⟨N, 0, none⟩))) ∧ Below w.heap.size w w' := by
  have heq : ∀ W, (binOp .eql 82 (.iface 125 (.int .i64 2)) (.iface 125 (.int .i64 2))).run Tryd.prog W = .ok (.bool true) W := fun W => Lib.run_eql_iface_int W 2 2 Tryd.underlying82 (by kernel_rfl) Tryd.underlying125
  have HS := Lib.hid (syntaxErr_any fn s ev w hlim hv hev)
  clear hv hev
  go_enter Tryd.func59, Tryd.ntmps59
  go_wp2_with fail
  refine HS.out.mono ?_
  rintro e w2 ⟨N, rfl, hb⟩
  have HB := Lib.hid hb
  clear hb heq
  go_wp2_with fail
  go_ret
  exact ⟨N, rfl, HB.out⟩

/-- What the public ParseUint hands back. -/
def PubRes (o : Option Nat) (e : Ending) : Prop := match o with
  | some n => e = .returned (.tuple #[.int .u64 n, .nilIface])
  | none => ∃ T N, e = .returned (.tuple #[.int .u64 0, .iface T (.pointer (some ⟨N, 0, none⟩))])

set_option maxRecDepth 100000 in
set_option maxHeartbeats 4000000 in
theorem parse_any (t : ByteArray) (bz : Int) (ev : Value) (w : World) (hlim : t.size ≤ 6) (hv : w.cell? ⟨3, 0, none⟩ = some ev) (hev : ev = .nilIface ∨ ∃ te pe, ev = .iface te pe)
    (hi : Calls Tryd.prog 91 #[.string t, .int .i64 16, .int .i64 bz] w fun e w' => e = .returned (pRes (parseH t.data.toList)) ∧ w' = Lib.bytesWorld w 5 t) :
    Calls Tryd.prog 76 #[.string t, .int .i64 16, .int .i64 bz] w fun e w' => PubRes (parseH t.data.toList) e ∧ Below w.heap.size w w' := by
  have HB0 := Lib.hid (Lib.bytesWorld_below w 5 t)
  have HV := Lib.hid (cell_below HB0.out hv)
  have HE := Lib.hid hev
  clear hv hev
  obtain ⟨W1, hW1⟩ : ∃ W1, W1 = Lib.bytesWorld w 5 t := ⟨_, rfl⟩
  rw [← hW1] at hi HB0 HV
  clear hW1
  cases hp : parseH t.data.toList with
  | some n =>
    rw [hp] at hi
    simp only [pRes] at hi
    have HI := Lib.hid hi
    clear hi hp
    go_enter Tryd.func76, Tryd.ntmps76
    go_wp2_with fail
    refine HI.out.mono ?_
    rintro e w1 ⟨rfl, rfl⟩
    go_wp2_with fail
    go_ret2
    exact ⟨rfl, HB0.out⟩
  | none =>
    rw [hp] at hi
    simp only [pRes] at hi
    have HI := Lib.hid hi
    clear hi hp
    go_enter Tryd.func76, Tryd.ntmps76
    go_wp2_with fail
    refine HI.out.mono ?_
    rintro e w1 ⟨rfl, rfl⟩
    go_wp2_with fail
    refine (toErr_any _ t _ _ ev _ (by omega) HV.out HE.out).mono ?_
    rintro e w2 ⟨N, rfl, hb⟩
    have HB := Lib.hid (HB0.out.trans (hb.mono HB0.out.size))
    clear hb
    go_wp2_with fail
    go_ret2
    exact ⟨⟨_, N, rfl⟩, HB.out⟩
end Go.Proofs.YtnippaaiopgnaaaDoor.U
