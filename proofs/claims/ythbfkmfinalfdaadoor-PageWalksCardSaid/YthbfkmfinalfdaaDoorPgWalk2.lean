/- page.Walk: one theorem for each of its ten walks. -/
import Derived.Test.YthbfkmfinalfdaaDoorPgWalk
namespace Go.Proofs.YthbfkmfinalfdaaDoor.Pg
open Go.RowKit Go.Proofs Go.Joins Go.Proofs.YthbfkmfinalfdaaDoor.U Go.Proofs.YthbfkmfinalfdaaDoor.Txt
set_option linter.unusedVariables false
set_option linter.unusedSimpArgs false
attribute [local go_sem] frozen?_alloc_cells

/-- The page's own table of walks. -/
structure PWalks (w : World) : Prop where
  c1 : w.cell? ⟨0, 1, none⟩ = some (.nilFunc)
  c2 : w.cell? ⟨0, 2, none⟩ = some (.nilFunc)
  c3 : w.cell? ⟨0, 3, none⟩ = some (.func (.func 50) #[] #[])
  c4 : w.cell? ⟨0, 4, none⟩ = some (.func (.func 51) #[] #[])
  c5 : w.cell? ⟨0, 5, none⟩ = some (.func (.func 52) #[] #[])
  c6 : w.cell? ⟨0, 6, none⟩ = some (.func (.func 53) #[] #[])
  c7 : w.cell? ⟨0, 7, none⟩ = some (.nilFunc)
  c8 : w.cell? ⟨0, 8, none⟩ = some (.nilFunc)
  c9 : w.cell? ⟨0, 9, none⟩ = some (.nilFunc)
  c10 : w.cell? ⟨0, 10, none⟩ = some (.nilFunc)
theorem PWalks.below {w w' : World} (h : PWalks w) (hb : Below w.heap.size w w') : PWalks w' := ⟨cell_below hb h.c1, cell_below hb h.c2, cell_below hb h.c3, cell_below hb h.c4, cell_below hb h.c5, cell_below hb h.c6, cell_below hb h.c7, cell_below hb h.c8, cell_below hb h.c9, cell_below hb h.c10⟩
/-- Two numbers are handed back of which something holds. -/
def Two2 (Q : Int → Int → Prop) (e : Ending) : Prop := ∃ a b, e = .returned (.tuple #[.int .i64 a, .int .i64 b]) ∧ Q a b
def Three3 (Q : Int → Int → Prop) (e : Ending) : Prop := ∃ a b, e = .returned (.tuple #[.int .i64 a, .int .i64 b, .int .i64 0]) ∧ Q a b

set_option maxRecDepth 100000 in
set_option maxHeartbeats 4000000 in
theorem Walk_3 {S : ByteArray} {rs : List Int} {W : Int} (at_ k : Nat) (want : Int) (Q : Int → Int → Prop) (w : World) (hp : Paper S rs W) (hk : Stands (pageRows W rs) at_ k) (ha : at_ ≤ rs.length) (hB : 4 ≤ w.heap.size) (hT : Tabs w) (hb : Bars w) (hw : PWalks w)
    (hf : ∀ (P : Nat) (A : Option Addr) (c g cap : Nat) (w1 : World), At w1 P S A c rs W g cap (pageRows W rs) at_ k → Tabs w1 → Calls Tryd.prog 50 #[.pointer (some ⟨P, 0, none⟩), .int .i64 at_, .int .i64 want] w1 fun e w' => Two2 Q e ∧ Below w1.heap.size w1 w') :
    Calls Tryd.prog 14 #[.string S, .int .i64 W, .int .i64 at_, .int .i64 want, .int .i64 3] w fun e w' => Three3 Q e ∧ Below w.heap.size w w' := by
  have HK := Lib.hid hk
  have HT := Lib.hid hT
  have ha0 : ¬ (at_ : Int) < 0 := by omega
  have HA := Lib.hid ha
  have HF := Lib.hid hf
  have c0 := hw.c3
  have hne : ∀ W : World, (binOp .neq 51 (.func (.func 50) #[] #[]) .nilFunc : Sem Value).run Tryd.prog W = .ok (.bool true) W := fun W => by kernel_rfl
  clear hk ha hT hf hw
  go_enter Tryd.func14, Tryd.ntmps14
  go_wp2_with fail
  refine (sheet_any _ hp (by decide) hB HT.out hb).mono ?_
  rintro e w1 ⟨⟨P, A, c, g, cap, rfl, hR⟩, hb1⟩
  have HB1 := Lib.hid hb1
  have c1 := cell_below hb1 c0
  have HAT := Lib.hid (show At w1 P S A c rs W g cap (pageRows W rs) at_ k from ⟨hR, hp.chain, HK.out, HA.out, by have := hp.rows; have := hp.len; omega, by have := hp.len; omega⟩)
  have cn := hR.sheet.runes
  obtain ⟨n, hn⟩ : ∃ n, rs.length = n := ⟨_, rfl⟩
  rw [hn] at cn
  have han : ¬ n < at_ := by have := HA.out; omega
  clear hR hb1 hp hn hb c0
  go_wp2_with fail
  refine (HF.out P A c g cap _ HAT.out (HT.out.below HB1.out)).mono ?_
  rintro e w2 ⟨⟨a, b, rfl, hq⟩, hb2⟩
  have HQ := Lib.hid hq
  have HB2 := Lib.hid (HB1.out.trans (hb2.mono HB1.out.size))
  clear hq hb2 c1 hne
  go_wp2_with fail
  go_ret3
  exact ⟨⟨a, b, rfl, HQ.out⟩, HB2.out⟩

set_option maxRecDepth 100000 in
set_option maxHeartbeats 4000000 in
theorem Walk_4 {S : ByteArray} {rs : List Int} {W : Int} (at_ k : Nat) (want : Int) (Q : Int → Int → Prop) (w : World) (hp : Paper S rs W) (hk : Stands (pageRows W rs) at_ k) (ha : at_ ≤ rs.length) (hB : 4 ≤ w.heap.size) (hT : Tabs w) (hb : Bars w) (hw : PWalks w)
    (hf : ∀ (P : Nat) (A : Option Addr) (c g cap : Nat) (w1 : World), At w1 P S A c rs W g cap (pageRows W rs) at_ k → Tabs w1 → Calls Tryd.prog 51 #[.pointer (some ⟨P, 0, none⟩), .int .i64 at_, .int .i64 want] w1 fun e w' => Two2 Q e ∧ Below w1.heap.size w1 w') :
    Calls Tryd.prog 14 #[.string S, .int .i64 W, .int .i64 at_, .int .i64 want, .int .i64 4] w fun e w' => Three3 Q e ∧ Below w.heap.size w w' := by
  have HK := Lib.hid hk
  have HT := Lib.hid hT
  have ha0 : ¬ (at_ : Int) < 0 := by omega
  have HA := Lib.hid ha
  have HF := Lib.hid hf
  have c0 := hw.c4
  have hne : ∀ W : World, (binOp .neq 51 (.func (.func 51) #[] #[]) .nilFunc : Sem Value).run Tryd.prog W = .ok (.bool true) W := fun W => by kernel_rfl
  clear hk ha hT hf hw
  go_enter Tryd.func14, Tryd.ntmps14
  go_wp2_with fail
  refine (sheet_any _ hp (by decide) hB HT.out hb).mono ?_
  rintro e w1 ⟨⟨P, A, c, g, cap, rfl, hR⟩, hb1⟩
  have HB1 := Lib.hid hb1
  have c1 := cell_below hb1 c0
  have HAT := Lib.hid (show At w1 P S A c rs W g cap (pageRows W rs) at_ k from ⟨hR, hp.chain, HK.out, HA.out, by have := hp.rows; have := hp.len; omega, by have := hp.len; omega⟩)
  have cn := hR.sheet.runes
  obtain ⟨n, hn⟩ : ∃ n, rs.length = n := ⟨_, rfl⟩
  rw [hn] at cn
  have han : ¬ n < at_ := by have := HA.out; omega
  clear hR hb1 hp hn hb c0
  go_wp2_with fail
  refine (HF.out P A c g cap _ HAT.out (HT.out.below HB1.out)).mono ?_
  rintro e w2 ⟨⟨a, b, rfl, hq⟩, hb2⟩
  have HQ := Lib.hid hq
  have HB2 := Lib.hid (HB1.out.trans (hb2.mono HB1.out.size))
  clear hq hb2 c1 hne
  go_wp2_with fail
  go_ret3
  exact ⟨⟨a, b, rfl, HQ.out⟩, HB2.out⟩

set_option maxRecDepth 100000 in
set_option maxHeartbeats 4000000 in
theorem Walk_5 {S : ByteArray} {rs : List Int} {W : Int} (at_ k : Nat) (want : Int) (Q : Int → Int → Prop) (w : World) (hp : Paper S rs W) (hk : Stands (pageRows W rs) at_ k) (ha : at_ ≤ rs.length) (hB : 4 ≤ w.heap.size) (hT : Tabs w) (hb : Bars w) (hw : PWalks w)
    (hf : ∀ (P : Nat) (A : Option Addr) (c g cap : Nat) (w1 : World), At w1 P S A c rs W g cap (pageRows W rs) at_ k → Tabs w1 → Calls Tryd.prog 52 #[.pointer (some ⟨P, 0, none⟩), .int .i64 at_, .int .i64 want] w1 fun e w' => Two2 Q e ∧ Below w1.heap.size w1 w') :
    Calls Tryd.prog 14 #[.string S, .int .i64 W, .int .i64 at_, .int .i64 want, .int .i64 5] w fun e w' => Three3 Q e ∧ Below w.heap.size w w' := by
  have HK := Lib.hid hk
  have HT := Lib.hid hT
  have ha0 : ¬ (at_ : Int) < 0 := by omega
  have HA := Lib.hid ha
  have HF := Lib.hid hf
  have c0 := hw.c5
  have hne : ∀ W : World, (binOp .neq 51 (.func (.func 52) #[] #[]) .nilFunc : Sem Value).run Tryd.prog W = .ok (.bool true) W := fun W => by kernel_rfl
  clear hk ha hT hf hw
  go_enter Tryd.func14, Tryd.ntmps14
  go_wp2_with fail
  refine (sheet_any _ hp (by decide) hB HT.out hb).mono ?_
  rintro e w1 ⟨⟨P, A, c, g, cap, rfl, hR⟩, hb1⟩
  have HB1 := Lib.hid hb1
  have c1 := cell_below hb1 c0
  have HAT := Lib.hid (show At w1 P S A c rs W g cap (pageRows W rs) at_ k from ⟨hR, hp.chain, HK.out, HA.out, by have := hp.rows; have := hp.len; omega, by have := hp.len; omega⟩)
  have cn := hR.sheet.runes
  obtain ⟨n, hn⟩ : ∃ n, rs.length = n := ⟨_, rfl⟩
  rw [hn] at cn
  have han : ¬ n < at_ := by have := HA.out; omega
  clear hR hb1 hp hn hb c0
  go_wp2_with fail
  refine (HF.out P A c g cap _ HAT.out (HT.out.below HB1.out)).mono ?_
  rintro e w2 ⟨⟨a, b, rfl, hq⟩, hb2⟩
  have HQ := Lib.hid hq
  have HB2 := Lib.hid (HB1.out.trans (hb2.mono HB1.out.size))
  clear hq hb2 c1 hne
  go_wp2_with fail
  go_ret3
  exact ⟨⟨a, b, rfl, HQ.out⟩, HB2.out⟩

set_option maxRecDepth 100000 in
set_option maxHeartbeats 4000000 in
theorem Walk_6 {S : ByteArray} {rs : List Int} {W : Int} (at_ k : Nat) (want : Int) (Q : Int → Int → Prop) (w : World) (hp : Paper S rs W) (hk : Stands (pageRows W rs) at_ k) (ha : at_ ≤ rs.length) (hB : 4 ≤ w.heap.size) (hT : Tabs w) (hb : Bars w) (hw : PWalks w)
    (hf : ∀ (P : Nat) (A : Option Addr) (c g cap : Nat) (w1 : World), At w1 P S A c rs W g cap (pageRows W rs) at_ k → Tabs w1 → Calls Tryd.prog 53 #[.pointer (some ⟨P, 0, none⟩), .int .i64 at_, .int .i64 want] w1 fun e w' => Two2 Q e ∧ Below w1.heap.size w1 w') :
    Calls Tryd.prog 14 #[.string S, .int .i64 W, .int .i64 at_, .int .i64 want, .int .i64 6] w fun e w' => Three3 Q e ∧ Below w.heap.size w w' := by
  have HK := Lib.hid hk
  have HT := Lib.hid hT
  have ha0 : ¬ (at_ : Int) < 0 := by omega
  have HA := Lib.hid ha
  have HF := Lib.hid hf
  have c0 := hw.c6
  have hne : ∀ W : World, (binOp .neq 51 (.func (.func 53) #[] #[]) .nilFunc : Sem Value).run Tryd.prog W = .ok (.bool true) W := fun W => by kernel_rfl
  clear hk ha hT hf hw
  go_enter Tryd.func14, Tryd.ntmps14
  go_wp2_with fail
  refine (sheet_any _ hp (by decide) hB HT.out hb).mono ?_
  rintro e w1 ⟨⟨P, A, c, g, cap, rfl, hR⟩, hb1⟩
  have HB1 := Lib.hid hb1
  have c1 := cell_below hb1 c0
  have HAT := Lib.hid (show At w1 P S A c rs W g cap (pageRows W rs) at_ k from ⟨hR, hp.chain, HK.out, HA.out, by have := hp.rows; have := hp.len; omega, by have := hp.len; omega⟩)
  have cn := hR.sheet.runes
  obtain ⟨n, hn⟩ : ∃ n, rs.length = n := ⟨_, rfl⟩
  rw [hn] at cn
  have han : ¬ n < at_ := by have := HA.out; omega
  clear hR hb1 hp hn hb c0
  go_wp2_with fail
  refine (HF.out P A c g cap _ HAT.out (HT.out.below HB1.out)).mono ?_
  rintro e w2 ⟨⟨a, b, rfl, hq⟩, hb2⟩
  have HQ := Lib.hid hq
  have HB2 := Lib.hid (HB1.out.trans (hb2.mono HB1.out.size))
  clear hq hb2 c1 hne
  go_wp2_with fail
  go_ret3
  exact ⟨⟨a, b, rfl, HQ.out⟩, HB2.out⟩

set_option maxRecDepth 100000 in
set_option maxHeartbeats 4000000 in
theorem Walk_1 {S : ByteArray} {rs : List Int} {W : Int} (at_ : Nat) (want r : Int) (w : World) (hp : Paper S rs W) (ha : at_ ≤ rs.length) (hB : 4 ≤ w.heap.size) (hT : Tabs w) (hb : Bars w) (hw : PWalks w)
    (hf : ∀ w1 : World, Below w.heap.size w w1 → Calls Tryd.prog 15 #[.string S, .int .i64 at_, .int .i64 1] w1 fun e w' => e = .returned (.tuple #[.int .i64 r, .int .i64 0]) ∧ Below w1.heap.size w1 w') :
    Calls Tryd.prog 14 #[.string S, .int .i64 W, .int .i64 at_, .int .i64 want, .int .i64 1] w fun e w' => e = .returned (.tuple #[.int .i64 r, .int .i64 (-1), .int .i64 0]) ∧ Below w.heap.size w w' := by
  have HT := Lib.hid hT
  have ha0 : ¬ (at_ : Int) < 0 := by omega
  have HA := Lib.hid ha
  have HF := Lib.hid hf
  have c0 := hw.c1
  have hne : ∀ W : World, (binOp .neq 51 .nilFunc .nilFunc : Sem Value).run Tryd.prog W = .ok (.bool false) W := fun W => by kernel_rfl
  clear ha hT hf hw
  go_enter Tryd.func14, Tryd.ntmps14
  go_wp2_with fail
  refine (sheet_any _ hp (by decide) hB HT.out hb).mono ?_
  rintro e w1 ⟨⟨P, A, c, g, cap, rfl, hR⟩, hb1⟩
  have HB1 := Lib.hid hb1
  have c1 := cell_below hb1 c0
  have cn := hR.sheet.runes
  obtain ⟨n, hn⟩ : ∃ n, rs.length = n := ⟨_, rfl⟩
  rw [hn] at cn
  have han : ¬ n < at_ := by have := HA.out; omega
  clear hR hb1 hp hn hb c0
  go_wp2_with fail
  refine (HF.out _ HB1.out).mono ?_
  rintro e w2 ⟨rfl, hb2⟩
  have HB2 := Lib.hid (HB1.out.trans (hb2.mono HB1.out.size))
  clear hb2 c1 hne
  go_wp2_with fail
  go_ret3
  exact ⟨rfl, HB2.out⟩

set_option maxRecDepth 100000 in
set_option maxHeartbeats 4000000 in
theorem Walk_2 {S : ByteArray} {rs : List Int} {W : Int} (at_ : Nat) (want r : Int) (w : World) (hp : Paper S rs W) (ha : at_ ≤ rs.length) (hB : 4 ≤ w.heap.size) (hT : Tabs w) (hb : Bars w) (hw : PWalks w)
    (hf : ∀ w1 : World, Below w.heap.size w w1 → Calls Tryd.prog 15 #[.string S, .int .i64 at_, .int .i64 2] w1 fun e w' => e = .returned (.tuple #[.int .i64 r, .int .i64 0]) ∧ Below w1.heap.size w1 w') :
    Calls Tryd.prog 14 #[.string S, .int .i64 W, .int .i64 at_, .int .i64 want, .int .i64 2] w fun e w' => e = .returned (.tuple #[.int .i64 r, .int .i64 (-1), .int .i64 0]) ∧ Below w.heap.size w w' := by
  have HT := Lib.hid hT
  have ha0 : ¬ (at_ : Int) < 0 := by omega
  have HA := Lib.hid ha
  have HF := Lib.hid hf
  have c0 := hw.c2
  have hne : ∀ W : World, (binOp .neq 51 .nilFunc .nilFunc : Sem Value).run Tryd.prog W = .ok (.bool false) W := fun W => by kernel_rfl
  clear ha hT hf hw
  go_enter Tryd.func14, Tryd.ntmps14
  go_wp2_with fail
  refine (sheet_any _ hp (by decide) hB HT.out hb).mono ?_
  rintro e w1 ⟨⟨P, A, c, g, cap, rfl, hR⟩, hb1⟩
  have HB1 := Lib.hid hb1
  have c1 := cell_below hb1 c0
  have cn := hR.sheet.runes
  obtain ⟨n, hn⟩ : ∃ n, rs.length = n := ⟨_, rfl⟩
  rw [hn] at cn
  have han : ¬ n < at_ := by have := HA.out; omega
  clear hR hb1 hp hn hb c0
  go_wp2_with fail
  refine (HF.out _ HB1.out).mono ?_
  rintro e w2 ⟨rfl, hb2⟩
  have HB2 := Lib.hid (HB1.out.trans (hb2.mono HB1.out.size))
  clear hb2 c1 hne
  go_wp2_with fail
  go_ret3
  exact ⟨rfl, HB2.out⟩

set_option maxRecDepth 100000 in
set_option maxHeartbeats 4000000 in
theorem Walk_7 {S : ByteArray} {rs : List Int} {W : Int} (at_ : Nat) (want r : Int) (w : World) (hp : Paper S rs W) (ha : at_ ≤ rs.length) (hB : 4 ≤ w.heap.size) (hT : Tabs w) (hb : Bars w) (hw : PWalks w)
    (hf : ∀ w1 : World, Below w.heap.size w w1 → Calls Tryd.prog 15 #[.string S, .int .i64 at_, .int .i64 7] w1 fun e w' => e = .returned (.tuple #[.int .i64 r, .int .i64 0]) ∧ Below w1.heap.size w1 w') :
    Calls Tryd.prog 14 #[.string S, .int .i64 W, .int .i64 at_, .int .i64 want, .int .i64 7] w fun e w' => e = .returned (.tuple #[.int .i64 r, .int .i64 (-1), .int .i64 0]) ∧ Below w.heap.size w w' := by
  have HT := Lib.hid hT
  have ha0 : ¬ (at_ : Int) < 0 := by omega
  have HA := Lib.hid ha
  have HF := Lib.hid hf
  have c0 := hw.c7
  have hne : ∀ W : World, (binOp .neq 51 .nilFunc .nilFunc : Sem Value).run Tryd.prog W = .ok (.bool false) W := fun W => by kernel_rfl
  clear ha hT hf hw
  go_enter Tryd.func14, Tryd.ntmps14
  go_wp2_with fail
  refine (sheet_any _ hp (by decide) hB HT.out hb).mono ?_
  rintro e w1 ⟨⟨P, A, c, g, cap, rfl, hR⟩, hb1⟩
  have HB1 := Lib.hid hb1
  have c1 := cell_below hb1 c0
  have cn := hR.sheet.runes
  obtain ⟨n, hn⟩ : ∃ n, rs.length = n := ⟨_, rfl⟩
  rw [hn] at cn
  have han : ¬ n < at_ := by have := HA.out; omega
  clear hR hb1 hp hn hb c0
  go_wp2_with fail
  refine (HF.out _ HB1.out).mono ?_
  rintro e w2 ⟨rfl, hb2⟩
  have HB2 := Lib.hid (HB1.out.trans (hb2.mono HB1.out.size))
  clear hb2 c1 hne
  go_wp2_with fail
  go_ret3
  exact ⟨rfl, HB2.out⟩

set_option maxRecDepth 100000 in
set_option maxHeartbeats 4000000 in
theorem Walk_8 {S : ByteArray} {rs : List Int} {W : Int} (at_ : Nat) (want r : Int) (w : World) (hp : Paper S rs W) (ha : at_ ≤ rs.length) (hB : 4 ≤ w.heap.size) (hT : Tabs w) (hb : Bars w) (hw : PWalks w)
    (hf : ∀ w1 : World, Below w.heap.size w w1 → Calls Tryd.prog 15 #[.string S, .int .i64 at_, .int .i64 8] w1 fun e w' => e = .returned (.tuple #[.int .i64 r, .int .i64 0]) ∧ Below w1.heap.size w1 w') :
    Calls Tryd.prog 14 #[.string S, .int .i64 W, .int .i64 at_, .int .i64 want, .int .i64 8] w fun e w' => e = .returned (.tuple #[.int .i64 r, .int .i64 (-1), .int .i64 0]) ∧ Below w.heap.size w w' := by
  have HT := Lib.hid hT
  have ha0 : ¬ (at_ : Int) < 0 := by omega
  have HA := Lib.hid ha
  have HF := Lib.hid hf
  have c0 := hw.c8
  have hne : ∀ W : World, (binOp .neq 51 .nilFunc .nilFunc : Sem Value).run Tryd.prog W = .ok (.bool false) W := fun W => by kernel_rfl
  clear ha hT hf hw
  go_enter Tryd.func14, Tryd.ntmps14
  go_wp2_with fail
  refine (sheet_any _ hp (by decide) hB HT.out hb).mono ?_
  rintro e w1 ⟨⟨P, A, c, g, cap, rfl, hR⟩, hb1⟩
  have HB1 := Lib.hid hb1
  have c1 := cell_below hb1 c0
  have cn := hR.sheet.runes
  obtain ⟨n, hn⟩ : ∃ n, rs.length = n := ⟨_, rfl⟩
  rw [hn] at cn
  have han : ¬ n < at_ := by have := HA.out; omega
  clear hR hb1 hp hn hb c0
  go_wp2_with fail
  refine (HF.out _ HB1.out).mono ?_
  rintro e w2 ⟨rfl, hb2⟩
  have HB2 := Lib.hid (HB1.out.trans (hb2.mono HB1.out.size))
  clear hb2 c1 hne
  go_wp2_with fail
  go_ret3
  exact ⟨rfl, HB2.out⟩

set_option maxRecDepth 100000 in
set_option maxHeartbeats 4000000 in
theorem Walk_9 {S : ByteArray} {rs : List Int} {W : Int} (at_ : Nat) (want r : Int) (w : World) (hp : Paper S rs W) (ha : at_ ≤ rs.length) (hB : 4 ≤ w.heap.size) (hT : Tabs w) (hb : Bars w) (hw : PWalks w)
    (hf : ∀ w1 : World, Below w.heap.size w w1 → Calls Tryd.prog 15 #[.string S, .int .i64 at_, .int .i64 9] w1 fun e w' => e = .returned (.tuple #[.int .i64 r, .int .i64 0]) ∧ Below w1.heap.size w1 w') :
    Calls Tryd.prog 14 #[.string S, .int .i64 W, .int .i64 at_, .int .i64 want, .int .i64 9] w fun e w' => e = .returned (.tuple #[.int .i64 r, .int .i64 (-1), .int .i64 0]) ∧ Below w.heap.size w w' := by
  have HT := Lib.hid hT
  have ha0 : ¬ (at_ : Int) < 0 := by omega
  have HA := Lib.hid ha
  have HF := Lib.hid hf
  have c0 := hw.c9
  have hne : ∀ W : World, (binOp .neq 51 .nilFunc .nilFunc : Sem Value).run Tryd.prog W = .ok (.bool false) W := fun W => by kernel_rfl
  clear ha hT hf hw
  go_enter Tryd.func14, Tryd.ntmps14
  go_wp2_with fail
  refine (sheet_any _ hp (by decide) hB HT.out hb).mono ?_
  rintro e w1 ⟨⟨P, A, c, g, cap, rfl, hR⟩, hb1⟩
  have HB1 := Lib.hid hb1
  have c1 := cell_below hb1 c0
  have cn := hR.sheet.runes
  obtain ⟨n, hn⟩ : ∃ n, rs.length = n := ⟨_, rfl⟩
  rw [hn] at cn
  have han : ¬ n < at_ := by have := HA.out; omega
  clear hR hb1 hp hn hb c0
  go_wp2_with fail
  refine (HF.out _ HB1.out).mono ?_
  rintro e w2 ⟨rfl, hb2⟩
  have HB2 := Lib.hid (HB1.out.trans (hb2.mono HB1.out.size))
  clear hb2 c1 hne
  go_wp2_with fail
  go_ret3
  exact ⟨rfl, HB2.out⟩

set_option maxRecDepth 100000 in
set_option maxHeartbeats 4000000 in
theorem Walk_10 {S : ByteArray} {rs : List Int} {W : Int} (at_ : Nat) (want r : Int) (w : World) (hp : Paper S rs W) (ha : at_ ≤ rs.length) (hB : 4 ≤ w.heap.size) (hT : Tabs w) (hb : Bars w) (hw : PWalks w)
    (hf : ∀ w1 : World, Below w.heap.size w w1 → Calls Tryd.prog 15 #[.string S, .int .i64 at_, .int .i64 10] w1 fun e w' => e = .returned (.tuple #[.int .i64 r, .int .i64 0]) ∧ Below w1.heap.size w1 w') :
    Calls Tryd.prog 14 #[.string S, .int .i64 W, .int .i64 at_, .int .i64 want, .int .i64 10] w fun e w' => e = .returned (.tuple #[.int .i64 r, .int .i64 (-1), .int .i64 0]) ∧ Below w.heap.size w w' := by
  have HT := Lib.hid hT
  have ha0 : ¬ (at_ : Int) < 0 := by omega
  have HA := Lib.hid ha
  have HF := Lib.hid hf
  have c0 := hw.c10
  have hne : ∀ W : World, (binOp .neq 51 .nilFunc .nilFunc : Sem Value).run Tryd.prog W = .ok (.bool false) W := fun W => by kernel_rfl
  clear ha hT hf hw
  go_enter Tryd.func14, Tryd.ntmps14
  go_wp2_with fail
  refine (sheet_any _ hp (by decide) hB HT.out hb).mono ?_
  rintro e w1 ⟨⟨P, A, c, g, cap, rfl, hR⟩, hb1⟩
  have HB1 := Lib.hid hb1
  have c1 := cell_below hb1 c0
  have cn := hR.sheet.runes
  obtain ⟨n, hn⟩ : ∃ n, rs.length = n := ⟨_, rfl⟩
  rw [hn] at cn
  have han : ¬ n < at_ := by have := HA.out; omega
  clear hR hb1 hp hn hb c0
  go_wp2_with fail
  refine (HF.out _ HB1.out).mono ?_
  rintro e w2 ⟨rfl, hb2⟩
  have HB2 := Lib.hid (HB1.out.trans (hb2.mono HB1.out.size))
  clear hb2 c1 hne
  go_wp2_with fail
  go_ret3
  exact ⟨rfl, HB2.out⟩
end Go.Proofs.YthbfkmfinalfdaaDoor.Pg
