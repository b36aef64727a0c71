/- (redraftlaw27.Case).texts. -/
import Derived.Test.YtkidcleffllhbaaDoorDtEdit
namespace Go.Proofs.YtkidcleffllhbaaDoor.Dt
open Go.RowKit Go.Proofs Go.Proofs.YtkidcleffllhbaaDoor.U Go.Proofs.YtkidcleffllhbaaDoor.Txt
set_option linter.unusedVariables false
set_option linter.unusedSimpArgs false

/-- What a law over Case is handed. -/
structure CaseIn (w : World) (v : Value) (A1 : Option Addr) (n1 c1 : Nat) (xs : List Int) (A2 : Option Addr) (n2 c2 : Nat) (A3 : Option Addr) (n3 c3 : Nat) (ar : Int) : Prop where
  eq : v = .agg #[.slice A1 n1 c1, .slice A2 n2 c2, .slice A3 n3 c3, .int .i64 ar]
  r1 : Reads32 w A1 n1 xs
  r2 : EditsIn w A2 n2
  r3 : EditsIn w A3 n3
/-- What texts hands back. -/
structure TextsOf (b m t : List Int) (q : Nat) : Prop where
  hb : (∀ r ∈ b, TxtRune r) ∧ b.length ≤ 380
  hm : (∀ r ∈ m, TxtRune r) ∧ m.length ≤ 380
  ht : (∀ r ∈ t, TxtRune r) ∧ t.length ≤ 380
  hd : dist b m ≤ q ∧ q ≤ 104
theorem TIn.conv {w : World} {A : Option Addr} {n c : Nat} {rs : List Int} (h : TIn w (.slice A n c) rs) : ∀ N : Nat, (convert 22 9 (.slice A n c)).run Tryd.prog (w.drewN N) = .ok (.string (Str rs)) (w.drewN N) := fun N => by
  obtain ⟨A', c', he, h1, h2, h3⟩ := h
  cases he
  exact conv_runes h3
set_option maxRecDepth 100000 in
set_option maxHeartbeats 4000000 in
theorem caseTexts_any (v : Value) (A1 : Option Addr) (n1 c1 : Nat) (xs : List Int) (A2 : Option Addr) (n2 c2 : Nat) (A3 : Option Addr) (n3 c3 : Nat) (ar : Int) (w : World) (h : CaseIn w v A1 n1 c1 xs A2 n2 c2 A3 n3 c3 ar) :
    Calls Tryd.prog 8 #[v] w fun e w' => ∃ (b m t : List Int) (q : Nat), e = .returned (.tuple #[.string (Str b), .string (Str m), .string (Str t), .int .i64 q]) ∧ TextsOf b m t q ∧ Below w.heap.size w w' := by
  obtain ⟨rfl, r1, r2, r3⟩ := h
  have HR1 := Lib.hid r1
  have HR2 := Lib.hid r2
  have HR3 := Lib.hid r3
  clear r1 r2 r3
  obtain ⟨w0, hw0⟩ : ∃ w0, w.alloc (.cells #[.slice A1 n1 c1, .slice A2 n2 c2, .slice A3 n3 c3, .int .i64 ar] 25) = w0 := ⟨_, rfl⟩
  have hx := heap_alloc_new w (.cells #[.slice A1 n1 c1, .slice A2 n2 c2, .slice A3 n3 c3, .int .i64 ar] 25)
  have hb0 : Below w.heap.size w w0 := by rw [← hw0]; exact (Below.refl _ _).alloc (Nat.le_refl _) _
  rw [hw0] at hx
  have HW0 := Lib.hid hw0
  have HB0 := Lib.hid hb0
  have x0 : w0.cell? ⟨w.heap.size, 0, none⟩ = some (.slice A1 n1 c1) := by rw [Lib.cell_of_heap hx]; rfl
  have x1 : w0.cell? ⟨w.heap.size, 1, none⟩ = some (.slice A2 n2 c2) := by rw [Lib.cell_of_heap hx]; rfl
  have x2 : w0.cell? ⟨w.heap.size, 2, none⟩ = some (.slice A3 n3 c3) := by rw [Lib.cell_of_heap hx]; rfl
  clear hw0 hb0 hx
  have CL := letters_any A1 n1 c1 xs 300 w0 (by omega) (HR1.out.below HB0.out)
  rw [show ((300 : Nat) : Int) = 300 from rfl] at CL
  have HCL := Lib.hid CL
  clear CL
  go_enter Tryd.func8, Tryd.ntmps8
  go_upto_region 1 with fail
  rw [HW0.out]
  go_wp2_with fail
  refine HCL.out.mono ?_
  rintro e w1 ⟨vb, b, rfl, hown, hbl, hbok, hb1⟩
  have HTB := Lib.hid (own_tin hown)
  have HBOK := Lib.hid hbok
  have HB1 := Lib.hid (HB0.out.trans (hb1.mono HB0.out.size))
  have x1 := cell_below hb1 x1
  have x2 := cell_below hb1 x2
  clear hown hbok hb1 x0 HCL HW0
  go_wp2_with fail
  refine (edited_any vb b A2 n2 c2 _ HTB.out HBOK.out hbl (HR2.out.below HB1.out)).mono ?_
  rintro e w2 ⟨vm, m, q, rfl, hm, hmok, hml, hmd, hq, hb2⟩
  have HTM := Lib.hid hm
  have HMOK := Lib.hid hmok
  have HMD := Lib.hid hmd
  have HTB2 := Lib.hid (HTB.out.below hb2)
  have HB2 := Lib.hid (HB1.out.trans (hb2.mono HB1.out.size))
  have x2 := cell_below hb2 x2
  clear hm hmok hmd hb2 x1 HTB
  go_wp2_with fail
  refine (edited_any vb b A3 n3 c3 _ HTB2.out HBOK.out hbl (HR3.out.below HB2.out)).mono ?_
  rintro e w3 ⟨vt, t, q2, rfl, ht, htok, htl, htd, hq2, hb3⟩
  have HTT := Lib.hid ht
  have HTOK := Lib.hid htok
  have HTB3 := Lib.hid (HTB2.out.below hb3)
  have HTM3 := Lib.hid (HTM.out.below hb3)
  have HB3 := Lib.hid (HB2.out.trans (hb3.mono HB2.out.size))
  clear ht htok hb3 x2 HTB2 HTM htd
  go_upto_region 4 with fail
  obtain ⟨B1, e1, rfl, _⟩ := HTB3.out
  obtain ⟨B2, e2, rfl, _⟩ := HTM3.out
  obtain ⟨B3, e3, rfl, _⟩ := HTT.out
  have k1 := HTB3.out.conv
  have k2 := HTM3.out.conv
  have k3 := HTT.out.conv
  go_quiet (fail)
  go_wp2_with fail
  refine bodyPost_ret (results_tmp4 rfl _ _ _) rfl ?_
  exact ⟨b, m, t, q, rfl, ⟨⟨HBOK.out, by omega⟩, ⟨HMOK.out, hml⟩, ⟨HTOK.out, htl⟩, ⟨HMD.out, hq⟩⟩, pw_below HB3.out _⟩
end Go.Proofs.YtkidcleffllhbaaDoor.Dt
