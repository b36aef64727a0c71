/- Walks: the statement's own question: does Step answer that place? -/
import Derived.Test.YtekibfhlkocdlaaDoorUWords
namespace Go.Proofs.YtekibfhlkocdlaaDoor.U
open Go.RowKit Go.Proofs.YtekibfhlkocdlaaDoor.Txt
set_option linter.unusedVariables false
set_option linter.unusedSimpArgs false

set_option maxRecDepth 100000 in
theorem goes_1 (S : ByteArray) (rs : List Int) (a : Nat) (r to : Int) (w : World) (h : Text S rs) (hl : rs.length ≤ 35184372087808) (ha : a ≤ rs.length) (hg : Bars w) (hw : Walks w) (hr : r = to)
    (hf : ∀ (A : Option Addr) (c : Nat) (w : World), Cells32 w A rs → rs.length ≤ c → Calls Tryd.prog 96 #[.slice A rs.length c, .int .i64 a] w fun e w' => e = .returned (.int .i64 r) ∧ Below w.heap.size w w') :
    Calls Tryd.prog 24 #[.string S, .int .i64 a, .int .i64 1, .int .i64 to] w fun e w' => e = .returned (.bool true) ∧ Below w.heap.size w w' := by
  subst hr
  have H := Lib.hid (Step_1 S rs a r w h hl ha hg hw hf)
  clear h hg hw hf
  go_enter Tryd.func24, Tryd.ntmps24
  go_wp2_with fail
  refine H.out.mono ?_
  rintro e w1 ⟨rfl, hb1⟩
  have HB1 := Lib.hid hb1
  clear hb1
  go_wp2_with fail
  go_ret
  exact ⟨rfl, HB1.out⟩

set_option maxRecDepth 100000 in
theorem goes_2 (S : ByteArray) (rs : List Int) (a : Nat) (r to : Int) (w : World) (h : Text S rs) (hl : rs.length ≤ 35184372087808) (ha : a ≤ rs.length) (hg : Bars w) (hw : Walks w) (hr : r = to)
    (hf : ∀ (A : Option Addr) (c : Nat) (w : World), Cells32 w A rs → rs.length ≤ c → Calls Tryd.prog 97 #[.slice A rs.length c, .int .i64 a] w fun e w' => e = .returned (.int .i64 r) ∧ Below w.heap.size w w') :
    Calls Tryd.prog 24 #[.string S, .int .i64 a, .int .i64 2, .int .i64 to] w fun e w' => e = .returned (.bool true) ∧ Below w.heap.size w w' := by
  subst hr
  have H := Lib.hid (Step_2 S rs a r w h hl ha hg hw hf)
  clear h hg hw hf
  go_enter Tryd.func24, Tryd.ntmps24
  go_wp2_with fail
  refine H.out.mono ?_
  rintro e w1 ⟨rfl, hb1⟩
  have HB1 := Lib.hid hb1
  clear hb1
  go_wp2_with fail
  go_ret
  exact ⟨rfl, HB1.out⟩

set_option maxRecDepth 100000 in
theorem goes_3 (S : ByteArray) (rs : List Int) (a : Nat) (r to : Int) (w : World) (h : Text S rs) (hl : rs.length ≤ 35184372087808) (ha : a ≤ rs.length) (hg : Bars w) (hw : Walks w) (hr : r = to)
    (hf : ∀ (A : Option Addr) (c : Nat) (w : World), Cells32 w A rs → rs.length ≤ c → Calls Tryd.prog 98 #[.slice A rs.length c, .int .i64 a] w fun e w' => e = .returned (.int .i64 r) ∧ Below w.heap.size w w') :
    Calls Tryd.prog 24 #[.string S, .int .i64 a, .int .i64 3, .int .i64 to] w fun e w' => e = .returned (.bool true) ∧ Below w.heap.size w w' := by
  subst hr
  have H := Lib.hid (Step_3 S rs a r w h hl ha hg hw hf)
  clear h hg hw hf
  go_enter Tryd.func24, Tryd.ntmps24
  go_wp2_with fail
  refine H.out.mono ?_
  rintro e w1 ⟨rfl, hb1⟩
  have HB1 := Lib.hid hb1
  clear hb1
  go_wp2_with fail
  go_ret
  exact ⟨rfl, HB1.out⟩

set_option maxRecDepth 100000 in
theorem goes_4 (S : ByteArray) (rs : List Int) (a : Nat) (r to : Int) (w : World) (h : Text S rs) (hl : rs.length ≤ 35184372087808) (ha : a ≤ rs.length) (hg : Bars w) (hw : Walks w) (hr : r = to)
    (hf : ∀ (A : Option Addr) (c : Nat) (w : World), Cells32 w A rs → rs.length ≤ c → Calls Tryd.prog 99 #[.slice A rs.length c, .int .i64 a] w fun e w' => e = .returned (.int .i64 r) ∧ Below w.heap.size w w') :
    Calls Tryd.prog 24 #[.string S, .int .i64 a, .int .i64 4, .int .i64 to] w fun e w' => e = .returned (.bool true) ∧ Below w.heap.size w w' := by
  subst hr
  have H := Lib.hid (Step_4 S rs a r w h hl ha hg hw hf)
  clear h hg hw hf
  go_enter Tryd.func24, Tryd.ntmps24
  go_wp2_with fail
  refine H.out.mono ?_
  rintro e w1 ⟨rfl, hb1⟩
  have HB1 := Lib.hid hb1
  clear hb1
  go_wp2_with fail
  go_ret
  exact ⟨rfl, HB1.out⟩

set_option maxRecDepth 100000 in
theorem goes_5 (S : ByteArray) (rs : List Int) (a : Nat) (r to : Int) (w : World) (h : Text S rs) (hl : rs.length ≤ 35184372087808) (ha : a ≤ rs.length) (hg : Bars w) (hw : Walks w) (hr : r = to)
    (hf : ∀ (A : Option Addr) (c : Nat) (w : World), Cells32 w A rs → rs.length ≤ c → Calls Tryd.prog 100 #[.slice A rs.length c, .int .i64 a] w fun e w' => e = .returned (.int .i64 r) ∧ Below w.heap.size w w') :
    Calls Tryd.prog 24 #[.string S, .int .i64 a, .int .i64 5, .int .i64 to] w fun e w' => e = .returned (.bool true) ∧ Below w.heap.size w w' := by
  subst hr
  have H := Lib.hid (Step_5 S rs a r w h hl ha hg hw hf)
  clear h hg hw hf
  go_enter Tryd.func24, Tryd.ntmps24
  go_wp2_with fail
  refine H.out.mono ?_
  rintro e w1 ⟨rfl, hb1⟩
  have HB1 := Lib.hid hb1
  clear hb1
  go_wp2_with fail
  go_ret
  exact ⟨rfl, HB1.out⟩

set_option maxRecDepth 100000 in
theorem goes_6 (S : ByteArray) (rs : List Int) (a : Nat) (r to : Int) (w : World) (h : Text S rs) (hl : rs.length ≤ 35184372087808) (ha : a ≤ rs.length) (hg : Bars w) (hw : Walks w) (hr : r = to)
    (hf : ∀ (A : Option Addr) (c : Nat) (w : World), Cells32 w A rs → rs.length ≤ c → Calls Tryd.prog 101 #[.slice A rs.length c, .int .i64 a] w fun e w' => e = .returned (.int .i64 r) ∧ Below w.heap.size w w') :
    Calls Tryd.prog 24 #[.string S, .int .i64 a, .int .i64 6, .int .i64 to] w fun e w' => e = .returned (.bool true) ∧ Below w.heap.size w w' := by
  subst hr
  have H := Lib.hid (Step_6 S rs a r w h hl ha hg hw hf)
  clear h hg hw hf
  go_enter Tryd.func24, Tryd.ntmps24
  go_wp2_with fail
  refine H.out.mono ?_
  rintro e w1 ⟨rfl, hb1⟩
  have HB1 := Lib.hid hb1
  clear hb1
  go_wp2_with fail
  go_ret
  exact ⟨rfl, HB1.out⟩

set_option maxRecDepth 100000 in
theorem goes_7 (S : ByteArray) (rs : List Int) (a : Nat) (r to : Int) (w : World) (h : Text S rs) (hl : rs.length ≤ 35184372087808) (ha : a ≤ rs.length) (hg : Bars w) (hw : Walks w) (hr : r = to)
    (hf : ∀ (A : Option Addr) (c : Nat) (w : World), Cells32 w A rs → rs.length ≤ c → Calls Tryd.prog 102 #[.slice A rs.length c, .int .i64 a] w fun e w' => e = .returned (.int .i64 r) ∧ Below w.heap.size w w') :
    Calls Tryd.prog 24 #[.string S, .int .i64 a, .int .i64 7, .int .i64 to] w fun e w' => e = .returned (.bool true) ∧ Below w.heap.size w w' := by
  subst hr
  have H := Lib.hid (Step_7 S rs a r w h hl ha hg hw hf)
  clear h hg hw hf
  go_enter Tryd.func24, Tryd.ntmps24
  go_wp2_with fail
  refine H.out.mono ?_
  rintro e w1 ⟨rfl, hb1⟩
  have HB1 := Lib.hid hb1
  clear hb1
  go_wp2_with fail
  go_ret
  exact ⟨rfl, HB1.out⟩

set_option maxRecDepth 100000 in
theorem goes_8 (S : ByteArray) (rs : List Int) (a : Nat) (r to : Int) (w : World) (h : Text S rs) (hl : rs.length ≤ 35184372087808) (ha : a ≤ rs.length) (hg : Bars w) (hw : Walks w) (hr : r = to)
    (hf : ∀ (A : Option Addr) (c : Nat) (w : World), Cells32 w A rs → rs.length ≤ c → Calls Tryd.prog 103 #[.slice A rs.length c, .int .i64 a] w fun e w' => e = .returned (.int .i64 r) ∧ Below w.heap.size w w') :
    Calls Tryd.prog 24 #[.string S, .int .i64 a, .int .i64 8, .int .i64 to] w fun e w' => e = .returned (.bool true) ∧ Below w.heap.size w w' := by
  subst hr
  have H := Lib.hid (Step_8 S rs a r w h hl ha hg hw hf)
  clear h hg hw hf
  go_enter Tryd.func24, Tryd.ntmps24
  go_wp2_with fail
  refine H.out.mono ?_
  rintro e w1 ⟨rfl, hb1⟩
  have HB1 := Lib.hid hb1
  clear hb1
  go_wp2_with fail
  go_ret
  exact ⟨rfl, HB1.out⟩

set_option maxRecDepth 100000 in
theorem goes_9 (S : ByteArray) (rs : List Int) (a : Nat) (r to : Int) (w : World) (h : Text S rs) (hl : rs.length ≤ 35184372087808) (ha : a ≤ rs.length) (hg : Bars w) (hw : Walks w) (hr : r = to)
    (hf : ∀ (A : Option Addr) (c : Nat) (w : World), Cells32 w A rs → rs.length ≤ c → Calls Tryd.prog 104 #[.slice A rs.length c, .int .i64 a] w fun e w' => e = .returned (.int .i64 r) ∧ Below w.heap.size w w') :
    Calls Tryd.prog 24 #[.string S, .int .i64 a, .int .i64 9, .int .i64 to] w fun e w' => e = .returned (.bool true) ∧ Below w.heap.size w w' := by
  subst hr
  have H := Lib.hid (Step_9 S rs a r w h hl ha hg hw hf)
  clear h hg hw hf
  go_enter Tryd.func24, Tryd.ntmps24
  go_wp2_with fail
  refine H.out.mono ?_
  rintro e w1 ⟨rfl, hb1⟩
  have HB1 := Lib.hid hb1
  clear hb1
  go_wp2_with fail
  go_ret
  exact ⟨rfl, HB1.out⟩

set_option maxRecDepth 100000 in
theorem goes_10 (S : ByteArray) (rs : List Int) (a : Nat) (r to : Int) (w : World) (h : Text S rs) (hl : rs.length ≤ 35184372087808) (ha : a ≤ rs.length) (hg : Bars w) (hw : Walks w) (hr : r = to)
    (hf : ∀ (A : Option Addr) (c : Nat) (w : World), Cells32 w A rs → rs.length ≤ c → Calls Tryd.prog 105 #[.slice A rs.length c, .int .i64 a] w fun e w' => e = .returned (.int .i64 r) ∧ Below w.heap.size w w') :
    Calls Tryd.prog 24 #[.string S, .int .i64 a, .int .i64 10, .int .i64 to] w fun e w' => e = .returned (.bool true) ∧ Below w.heap.size w w' := by
  subst hr
  have H := Lib.hid (Step_10 S rs a r w h hl ha hg hw hf)
  clear h hg hw hf
  go_enter Tryd.func24, Tryd.ntmps24
  go_wp2_with fail
  refine H.out.mono ?_
  rintro e w1 ⟨rfl, hb1⟩
  have HB1 := Lib.hid hb1
  clear hb1
  go_wp2_with fail
  go_ret
  exact ⟨rfl, HB1.out⟩
end Go.Proofs.YtekibfhlkocdlaaDoor.U
