/- EditorNew's parts: the seat, the law. -/
import Derived.Test.YtiagimmdohpddaaGreatEdPlay
import Derived.Test.YtiagimmdohpddaaGreatEdNew
import Derived.Test.YtiagimmdohpddaaGreatEdBadDesk
namespace Go.Proofs.YtiagimmdohpddaaGreat.E
open Go.RowKit Go.Proofs Go.Joins
set_option linter.unusedVariables false
set_option linter.unusedSimpArgs false

set_option maxRecDepth 100000 in
set_option maxHeartbeats 4000000 in
theorem solo_bad (c k o : Int) (w : World) (h : ¬ okLim c k o) : Calls Tryz.prog 7 #[.agg #[.int .i64 c, .int .i64 k, .int .i64 o]] w fun e w' => e = .returned (.tuple #[.pointer none, .int .i64 2]) ∧ Below w.heap.size w w' := by
  go_enter Tryz.func7, Tryz.ntmps7
  go_wp2_with fail
  refine (new_bad c k o _ h).mono ?_
  rintro e w1 ⟨rfl, hb⟩
  have HB := Lib.hid (((Below.refl w.heap.size w).alloc (Nat.le_refl _) _).trans (hb.mono (by simp)))
  clear hb
  go_wp2_with fail
  go_ret2
  exact ⟨rfl, HB.out⟩
set_option maxRecDepth 100000 in
set_option maxHeartbeats 4000000 in
theorem solo_ok (c k o : Int) (w : World) (h : okLim c k o) : Calls Tryz.prog 7 #[.agg #[.int .i64 c, .int .i64 k, .int .i64 o]] w fun e w' => (∃ p, e = .returned (.tuple #[.pointer (some p), .int .i64 0])) ∧ Below w.heap.size w w' := by
  go_enter Tryz.func7, Tryz.ntmps7
  go_wp2_with fail
  refine (new_ok c k o _ h.1 h.2.1 h.2.2).mono ?_
  rintro e w1 ⟨q, g, m, Z, rfl, hm, hM⟩
  have HM := Lib.hid hM
  clear hM
  go_wp2_with fail
  refine (play_any q g m Z _ _ c k o hm (by have := h.1; omega) HM.out).mono ?_
  rintro e w2 ⟨⟨v, rfl⟩, hb⟩
  have HB := Lib.hid (((Below.refl w.heap.size w).alloc (Nat.le_refl _) _).trans ((HM.out.below.trans (hb.mono (Nat.le_refl _))).mono (by simp)))
  clear hb
  go_wp2_with fail
  go_ret2
  exact ⟨⟨_, rfl⟩, HB.out⟩
set_option maxRecDepth 100000 in
set_option maxHeartbeats 4000000 in
theorem seat_any (c k o x y : Int) (w : World) : Calls Tryz.prog 5 #[.agg #[.int .i64 c, .int .i64 k, .int .i64 o], .int .i64 x, .int .i64 y] w fun e w' => (∃ p, e = .returned (.tuple #[.pointer p, .bool true])) ∧ Below w.heap.size w w' := by
  by_cases h : okLim c k o
  · go_enter Tryz.func5, Tryz.ntmps5
    go_wp2_with fail
    refine (solo_ok c k o _ h).mono ?_
    rintro e w1 ⟨⟨p, rfl⟩, hb⟩
    have m0 := cell_below hb (a := ⟨w.heap.size, 0, none⟩) (v := .int .i64 c) (by simp)
    have m1 := cell_below hb (a := ⟨w.heap.size, 1, none⟩) (v := .int .i64 k) (by simp)
    have m2 := cell_below hb (a := ⟨w.heap.size, 2, none⟩) (v := .int .i64 o) (by simp)
    have HB := Lib.hid (((Below.refl w.heap.size w).alloc (Nat.le_refl _) _).trans (hb.mono (by simp)))
    clear hb
    go_wp2_with fail
    refine (desk_ok c k o _ h).mono ?_
    rintro e w2 ⟨⟨a, rfl⟩, hb⟩
    have HB2 := Lib.hid (HB.out.trans (hb.mono HB.out.size))
    clear hb
    go_wp2_with fail
    by_cases hs : okSize x y
    · refine (ref_ok _ x y _ hs).mono ?_
      rintro e w3 ⟨⟨r, rfl⟩, hb⟩
      have HB3 := Lib.hid (HB2.out.trans (hb.mono HB2.out.size))
      clear hb
      go_wp2_with fail
      refine (ed_ok _ _ x y _ hs).mono ?_
      rintro e w4 ⟨⟨d, rfl⟩, hb⟩
      have HB4 := Lib.hid (HB3.out.trans (hb.mono HB3.out.size))
      clear hb
      go_wp2_with fail
      go_ret2
      exact ⟨⟨_, rfl⟩, by first | exact HB4.out.alloc HB4.out.size _ | exact (HB4.out.alloc HB4.out.size _).drew⟩
    · refine (ref_bad _ x y _ hs).mono ?_
      rintro e w3 ⟨⟨n, rfl, rfl⟩, rfl⟩
      go_wp2_with fail
      refine (ed_bad _ _ x y _ hs).mono ?_
      rintro e w4 ⟨rfl, rfl⟩
      go_wp2_with fail
      go_ret2
      exact ⟨⟨_, rfl⟩, HB2.out⟩
  · go_enter Tryz.func5, Tryz.ntmps5
    go_wp2_with fail
    refine (solo_bad c k o _ h).mono ?_
    rintro e w1 ⟨rfl, hb⟩
    have m0 := cell_below hb (a := ⟨w.heap.size, 0, none⟩) (v := .int .i64 c) (by simp)
    have m1 := cell_below hb (a := ⟨w.heap.size, 1, none⟩) (v := .int .i64 k) (by simp)
    have m2 := cell_below hb (a := ⟨w.heap.size, 2, none⟩) (v := .int .i64 o) (by simp)
    have HB := Lib.hid (((Below.refl w.heap.size w).alloc (Nat.le_refl _) _).trans (hb.mono (by simp)))
    clear hb
    go_wp2_with fail
    refine (desk_bad c k o _ h).mono ?_
    rintro e w2 ⟨⟨t, p, rfl⟩, hb⟩
    have HB2 := Lib.hid (HB.out.trans (hb.mono HB.out.size))
    clear hb
    go_wp2_with fail
    go_ret2
    exact ⟨⟨_, rfl⟩, HB2.out⟩
set_option maxRecDepth 100000 in
set_option maxHeartbeats 4000000 in
theorem law_any (c k o x y : Int) (w : World) : Calls Tryz.prog 3 #[.agg #[.int .i64 c, .int .i64 k, .int .i64 o], .int .i64 x, .int .i64 y] w fun e w' => e = .returned (.bool true) ∧ Below w.heap.size w w' := by
  go_enter Tryz.func3, Tryz.ntmps3
  go_wp2_with fail
  refine (ed_nil x y _).mono ?_
  rintro e w1 ⟨rfl, rfl⟩
  go_wp2_with fail
  refine (seat_any c k o x y _).mono ?_
  rintro e w1 ⟨⟨p, rfl⟩, hb⟩
  have HB := Lib.hid (((Below.refl w.heap.size w).alloc (Nat.le_refl _) _).trans (hb.mono (by simp)))
  clear hb
  go_wp2_with fail
  go_ret
  exact ⟨rfl, HB.out⟩
end Go.Proofs.YtiagimmdohpddaaGreat.E
