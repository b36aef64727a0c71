/- delta.changes on strings (printed by gen_dtchg.py). -/
import Derived.Test.YtkidcleffllhbaaDoorDtComS
import Derived.Test.YtkidcleffllhbaaDoorDtCells
import Derived.Deep.CutRange
import Derived.Deep.AppendLies
namespace Go.Proofs.YtkidcleffllhbaaDoor.Dt
open Go.RowKit Go.Proofs Go.Proofs.YtkidcleffllhbaaDoor.U Go.Proofs.YtkidcleffllhbaaDoor.Txt
set_option linter.unusedVariables false
set_option linter.unusedSimpArgs false

/-- What changes hands back. -/
def ChgResS (w : World) (x y : List ByteArray) (e : Ending) (w' : World) : Prop :=
  ∃ v, e = .returned v ∧ w'.ownsRow w.heap.size 82 4 v (chL x y).length (chgCells (chL x y)) ∧ Below w.heap.size w w'
set_option maxRecDepth 100000 in
set_option maxHeartbeats 8000000 in
theorem changesS_any (A B : Option Addr) (c d : Nat) (x y : List ByteArray) (w : World) (hx : CellsS w A x) (hy : CellsS w B y) (hn : x.length ≤ 2048) (hm : y.length ≤ 2048) :
    Calls Tryd.prog 36 #[.slice A x.length c, .slice B y.length d] w (ChgResS w x y) := by
  have HX := Lib.hid hx
  have HY := Lib.hid hy
  have HCOM := Lib.hid (commonS_any A B c d x y w hx hy hn hm)
  clear hx hy
  obtain ⟨i0, hi, hz0, hz1, hz2⟩ := info_parts infoChg
  have HI := Lib.hid (And.intro hi (And.intro hz0 (And.intro hz1 hz2)))
  clear hi hz0 hz1 hz2
  obtain ⟨n, hn'⟩ : ∃ n, x.length = n := ⟨_, rfl⟩
  obtain ⟨m, hm'⟩ : ∃ m, y.length = m := ⟨_, rfl⟩
  obtain ⟨W, hW⟩ : ∃ W : Nat, m + 1 = W := ⟨_, rfl⟩
  have hWi : (m : Int) + 1 = (W : Int) := by omega
  obtain ⟨N, hN⟩ : ∃ N : Nat, (n + 1) * W = N := ⟨_, rfl⟩
  have hNs : N ≤ 10000000 := by
    have := Nat.mul_le_mul (show n + 1 ≤ 2049 by omega) (show W ≤ 2049 by omega)
    omega
  have HNX := Lib.hid hn'
  have HMY := Lib.hid hm'
  rw [hn'] at hn HCOM ⊢
  rw [hm'] at hm HCOM ⊢
  go_enter Tryd.func36, Tryd.ntmps36
  go_wp2_with fail
  refine HCOM.out.mono ?_
  rintro e w1 ⟨cs, rfl, htab⟩
  rw [HNX.out, HMY.out, hW, hN]
  rw [HMY.out] at htab
  have HTAB := Lib.hid htab
  clear htab HCOM
  go_wp2_with fail
  go_loopw [7, 8, 9, 10] (fun v o i j wr => ∃ (I J : Nat) (opn : Bool) (out : List Chg) (f : Nat), o = .bool opn ∧ i = .int .i64 I ∧ j = .int .i64 J ∧ I ≤ n ∧ J ≤ m ∧ (n - I) + (m - J) ≤ f ∧ chF f (x.drop I) (y.drop J) I J opn out = chL x y ∧ Cut x y out I J opn ∧ wr.ownsRow w1.heap.size 82 4 v out.length (chgCells out) ∧ Below w1.heap.size w1 wr) (fun _ _ i j _ => (n - (intOf i).toNat) + (m - (intOf j).toNat))
  case atStart => exact ⟨0, 0, false, [], n + m, rfl, rfl, rfl, Nat.zero_le _, Nat.zero_le _, by omega, by rw [← HNX.out, ← HMY.out]; rfl, .nil, ⟨rfl, .inl ⟨rfl, rfl⟩⟩, Below.refl _ _⟩
  case round =>
    obtain ⟨I, J, opn, out, f, rfl, rfl, rfl, hI, hJ, hf, hch, hcut, hown, hb⟩ := hrel
    have HO := Lib.hid hown
    have HB := Lib.hid hb
    have HCH := Lib.hid hch
    have HCUT := Lib.hid hcut
    have HTB := Lib.hid (HTAB.out.later HB.out)
    have HOL := Lib.hid (show out.length ≤ 4096 by have := hcut.length_le; rw [HNX.out, HMY.out] at this; omega)
    clear hown hb hch hcut
    have hway : (I = n ∧ J = m) ∨ (I < n ∧ J = m) ∨ (I = n ∧ J < m) ∨ (I < n ∧ J < m) := by omega
    rcases hway with ⟨g1, g2⟩ | ⟨g1, g2⟩ | ⟨g1, g2⟩ | ⟨g1, g2⟩
    · have d1 : decide ((I : Int) < n) = false := by simp; omega
      have d2 : decide ((J : Int) < m) = false := by simp; omega
      subst g1 g2
      go_wp2_with fail
      go_ret
      have hend : out = chL x y := by rw [← HCH.out]; rw [← HNX.out, ← HMY.out, List.drop_length, List.drop_length, chF_nil]
      exact ⟨_, rfl, by rw [← hend]; exact own_weak HO.out HTAB.out.below.size, HTAB.out.below.trans (HB.out.mono HTAB.out.below.size)⟩
    · have d2 : decide ((J : Int) < m) = false := by simp; omega
      have i1 : (I : Int) < n := by omega
      have HST := Lib.hid (chF_del (f := f - 1) (x := x) (y := y) (I := I) (J := J) (o := opn) (out := out) (by rw [HNX.out]; omega) (.inl (by rw [HMY.out]; omega)))
      have hf1 : f - 1 + 1 = f := by omega
      rw [hf1, HCH.out] at HST
      subst g2
      go_upto_region 7 with fail
      go_quiet (fail)
      generalize hwd : wr.drewN _ = wd
      have HOD : Hid (wd.ownsRow w1.heap.size 82 4 _ out.length (chgCells out)) := Lib.hid (by rw [← hwd]; exact own_drew HO.out _)
      have HBD : Hid (Below w1.heap.size w1 wd) := Lib.hid (by rw [← hwd]; exact pw_below HB.out _)
      clear hwd
      go_upto_if 54 with fail
      go_cut [7, 8] from 18 to 114 (fun v o wx => ∃ (ys : List Chg) (ch : Chg) (g cap : Nat), v = .slice (some ⟨g, 0, none⟩) (ys.length + 1) cap ∧ o = .bool true ∧ wx.ownsRow w1.heap.size 82 4 (.slice (some ⟨g, 0, none⟩) (ys.length + 1) cap) (ys.length + 1) (chgCells (ys ++ [ch])) ∧ Below w1.heap.size w1 wx ∧ ys.length ≤ 4096 ∧ Opened I J opn out ys ch)
      case first =>
        cases opn with
        | true =>
          obtain ⟨ys, ch, hout, hop⟩ := HCUT.out.opened
          have hle := HOL.out
          subst hout
          obtain ⟨g, cap, hv⟩ := own_some (HOD.out) (by rw [List.length_append]; exact Nat.succ_pos _)
          rw [List.length_append] at hv
          have HOP := Lib.hid hop
          have HOX := HOD.out
          rw [hv, List.length_append] at HOX
          have HO9 := Lib.hid HOX
          clear hop HOX
          go_wp2_with fail
          go_meet
          exact ⟨ys, ch, g, cap, hv, rfl, HO9.out, HBD.out, by have := HOL.out; rw [List.length_append] at this; omega, HOP.out⟩
        | false =>
          obtain ⟨A', cap', hv⟩ := own_shape HOD.out
          subst hv
          go_wp2_with (at_builtin; refine wpList_append_lies _ rfl (.tmp 55) (.tmp 59) 79 rfl w1.heap.size 82 i0 (.agg #[.int .i64 0, .int .i64 0, .int .i64 0, .int .i64 0]) 4 32 Tryd.underlying79 HI.out.1 HI.out.2.1 HI.out.2.2.1 HI.out.2.2.2 rfl (by decide) _ _ _ rfl (own_below HOD.out ((Below.refl _ _).alloc (Nat.le_refl _) _)) _ 1 1 [.int .i64 I, .int .i64 0, .int .i64 J, .int .i64 0] rfl rfl (fun j u hj => news_alloc _ _ _ j u hj) (by simp [Value.oneCell']) (by decide) (by have := HOL.out; unfold maxLen; omega) (by have := HOL.out; omega) (by have h3 := HBD.out.size; simp; omega) _ rfl ?_; intro g cap w9 hown hgrow hat hgl; have HO9 := Lib.hid hown; have HB9 := Lib.hid (grown_own HBD.out HOD.out hgrow); clear hown hgrow hat hgl)
          go_meet
          exact ⟨out, ⟨I, 0, J, 0⟩, g, cap, rfl, rfl, by rw [chgCells_snoc]; exact HO9.out, HB9.out, HOL.out, Opened.new I J out⟩
      case rest =>
        obtain ⟨ys, ch, g, cap, rfl, rfl, hown, hb, hyl, hop⟩ := hcut
        have HO9 := Lib.hid hown
        have HB9 := Lib.hid hb
        have HOP := Lib.hid hop
        have HSM := Lib.hid (HCUT.out.small hop)
        have HTC := Lib.hid (HTAB.out.later HB9.out)
        clear hown hb hop
        obtain ⟨q, hq⟩ : ∃ q, ys.length = q := ⟨_, rfl⟩
        rw [hq] at HO9 ⊢
        have HQ := Lib.hid hq
        rw [hq] at hyl
        clear hq HO HB HTB HOD HBD
        have f1 := HO9.out.frozenAt (q * 4 + 1)
        have f3 := HO9.out.frozenAt (q * 4 + 3)
        have x1 := chg_cell HO9.out HQ.out
        obtain ⟨x1, x3⟩ := x1
        obtain ⟨s1, s2⟩ := HSM.out
        rw [HNX.out] at s1
        rw [HMY.out] at s2
        obtain ⟨cd, hcd⟩ : ∃ cd, ch.del = cd := ⟨_, rfl⟩
        obtain ⟨ci, hci⟩ : ∃ ci, ch.ins = ci := ⟨_, rfl⟩
        rw [hcd] at x1 s1
        rw [hci] at x3 s2
        have HCD := Lib.hid hcd
        have HCI := Lib.hid hci
        clear hcd hci
        have e1 : ((J : Int) == (J : Int)) = true := by simp
        go_wp2_with fail
        go_quiet (fail)
        go_wp2_with fail
        go_roundw
        case rel => exact ⟨I + 1, J, true, _, f - 1, rfl, by go_num, rfl, by omega, by omega, by omega, by exact HST.out.symm, HCUT.out.del (by rw [HNX.out]; omega), by rw [HOP.out.1]; exact own_del (by first | exact HO9.out | exact own_drew HO9.out _) HQ.out HCD.out, below_put (by first | exact HB9.out | exact pw_below HB9.out _) (own_at HO9.out) _ _⟩
        case measure => simp [intOf]; omega
    · have d1 : decide ((I : Int) < n) = false := by simp; omega
      have i2 : (J : Int) < m := by omega
      have HST := Lib.hid (chF_ins (f := f - 1) (x := x) (y := y) (I := I) (J := J) (o := opn) (out := out) (by rw [HMY.out]; omega) (.inl (by rw [HNX.out]; omega)))
      have hf1 : f - 1 + 1 = f := by omega
      rw [hf1, HCH.out] at HST
      have e1 : ((J : Int) == (m : Int)) = false := by simp; omega
      have e1' : ¬ (J : Int) = m := by omega
      subst g1
      go_upto_region 7 with fail
      go_quiet (fail)
      generalize hwd : wr.drewN _ = wd
      have HOD : Hid (wd.ownsRow w1.heap.size 82 4 _ out.length (chgCells out)) := Lib.hid (by rw [← hwd]; exact own_drew HO.out _)
      have HBD : Hid (Below w1.heap.size w1 wd) := Lib.hid (by rw [← hwd]; exact pw_below HB.out _)
      clear hwd
      go_upto_if 54 with fail
      go_cut [7, 8] from 18 to 114 (fun v o wx => ∃ (ys : List Chg) (ch : Chg) (g cap : Nat), v = .slice (some ⟨g, 0, none⟩) (ys.length + 1) cap ∧ o = .bool true ∧ wx.ownsRow w1.heap.size 82 4 (.slice (some ⟨g, 0, none⟩) (ys.length + 1) cap) (ys.length + 1) (chgCells (ys ++ [ch])) ∧ Below w1.heap.size w1 wx ∧ ys.length ≤ 4096 ∧ Opened I J opn out ys ch)
      case first =>
        cases opn with
        | true =>
          obtain ⟨ys, ch, hout, hop⟩ := HCUT.out.opened
          have hle := HOL.out
          subst hout
          obtain ⟨g, cap, hv⟩ := own_some (HOD.out) (by rw [List.length_append]; exact Nat.succ_pos _)
          rw [List.length_append] at hv
          have HOP := Lib.hid hop
          have HOX := HOD.out
          rw [hv, List.length_append] at HOX
          have HO9 := Lib.hid HOX
          clear hop HOX
          go_wp2_with fail
          go_meet
          exact ⟨ys, ch, g, cap, hv, rfl, HO9.out, HBD.out, by have := HOL.out; rw [List.length_append] at this; omega, HOP.out⟩
        | false =>
          obtain ⟨A', cap', hv⟩ := own_shape HOD.out
          subst hv
          go_wp2_with (at_builtin; refine wpList_append_lies _ rfl (.tmp 55) (.tmp 59) 79 rfl w1.heap.size 82 i0 (.agg #[.int .i64 0, .int .i64 0, .int .i64 0, .int .i64 0]) 4 32 Tryd.underlying79 HI.out.1 HI.out.2.1 HI.out.2.2.1 HI.out.2.2.2 rfl (by decide) _ _ _ rfl (own_below HOD.out ((Below.refl _ _).alloc (Nat.le_refl _) _)) _ 1 1 [.int .i64 I, .int .i64 0, .int .i64 J, .int .i64 0] rfl rfl (fun j u hj => news_alloc _ _ _ j u hj) (by simp [Value.oneCell']) (by decide) (by have := HOL.out; unfold maxLen; omega) (by have := HOL.out; omega) (by have h3 := HBD.out.size; simp; omega) _ rfl ?_; intro g cap w9 hown hgrow hat hgl; have HO9 := Lib.hid hown; have HB9 := Lib.hid (grown_own HBD.out HOD.out hgrow); clear hown hgrow hat hgl)
          go_meet
          exact ⟨out, ⟨I, 0, J, 0⟩, g, cap, rfl, rfl, by rw [chgCells_snoc]; exact HO9.out, HB9.out, HOL.out, Opened.new I J out⟩
      case rest =>
        obtain ⟨ys, ch, g, cap, rfl, rfl, hown, hb, hyl, hop⟩ := hcut
        have HO9 := Lib.hid hown
        have HB9 := Lib.hid hb
        have HOP := Lib.hid hop
        have HSM := Lib.hid (HCUT.out.small hop)
        have HTC := Lib.hid (HTAB.out.later HB9.out)
        clear hown hb hop
        obtain ⟨q, hq⟩ : ∃ q, ys.length = q := ⟨_, rfl⟩
        rw [hq] at HO9 ⊢
        have HQ := Lib.hid hq
        rw [hq] at hyl
        clear hq HO HB HTB HOD HBD
        have f1 := HO9.out.frozenAt (q * 4 + 1)
        have f3 := HO9.out.frozenAt (q * 4 + 3)
        have x1 := chg_cell HO9.out HQ.out
        obtain ⟨x1, x3⟩ := x1
        obtain ⟨s1, s2⟩ := HSM.out
        rw [HNX.out] at s1
        rw [HMY.out] at s2
        obtain ⟨cd, hcd⟩ : ∃ cd, ch.del = cd := ⟨_, rfl⟩
        obtain ⟨ci, hci⟩ : ∃ ci, ch.ins = ci := ⟨_, rfl⟩
        rw [hcd] at x1 s1
        rw [hci] at x3 s2
        have HCD := Lib.hid hcd
        have HCI := Lib.hid hci
        clear hcd hci
        go_wp2_with fail
        go_quiet (fail)
        go_wp2_with fail
        go_roundw
        case rel => exact ⟨I, J + 1, true, _, f - 1, rfl, rfl, by go_num, by omega, by omega, by omega, by exact HST.out.symm, HCUT.out.ins (by rw [HMY.out]; omega), by rw [HOP.out.2]; exact own_ins (by first | exact HO9.out | exact own_drew HO9.out _) HQ.out HCI.out, below_put (by first | exact HB9.out | exact pw_below HB9.out _) (own_at HO9.out) _ _⟩
        case measure => simp [intOf]; omega
    · have i1 : (I : Int) < n := by omega
      have i2 : (J : Int) < m := by omega
      have i3 : (0 : Int) ≤ I := by omega
      have i4 : (0 : Int) ≤ J := by omega
      have hix : I < x.length := by rw [HNX.out]; omega
      have hjy : J < y.length := by rw [HMY.out]; omega
      have e1 : ((J : Int) == (m : Int)) = false := by simp; omega
      have e1' : ¬ (J : Int) = m := by omega
      obtain ⟨ad1, rfl, hcs1⟩ := (HX.out.below HTB.out.below) (by omega)
      obtain ⟨ad2, rfl, hcs2⟩ := (HY.out.below HTB.out.below) (by omega)
      have y1 := hcs1 I hix
      have y2 := hcs2 J hjy
      have HEQ := Lib.hid (chF_eq (f := f - 1) (o := opn) (out := out) hix hjy)
      have HDEL := Lib.hid (fun h1 h2 => chF_del (f := f - 1) (x := x) (y := y) (I := I) (J := J) (o := opn) (out := out) hix (.inr ⟨hjy, h1, h2⟩))
      have HINS := Lib.hid (fun h1 h2 => chF_ins (f := f - 1) (x := x) (y := y) (I := I) (J := J) (o := opn) (out := out) hjy (.inr ⟨hix, h1, h2⟩))
      have HXY := Lib.hid (fun (h : x[I]'hix = y[J]'hjy) => (show x[I]? = y[J]? by rw [List.getElem?_eq_getElem hix, List.getElem?_eq_getElem hjy, h]))
      have hf1 : f - 1 + 1 = f := by omega
      rw [hf1, HCH.out] at HEQ HDEL HINS
      rw [List.getD_eq_getElem?_getD, List.getElem?_eq_getElem hix, Option.getD_some] at y1
      rw [List.getD_eq_getElem?_getD, List.getElem?_eq_getElem hjy, Option.getD_some] at y2
      have HIX := Lib.hid hix
      have HJY := Lib.hid hjy
      generalize x[I]'hix = a at y1 HEQ HDEL HINS HXY
      generalize y[J]'hjy = b at y2 HEQ HDEL HINS HXY
      clear hcs1 hcs2 hix hjy
      by_cases hab : a = b
      · have HAB := Lib.hid (HXY.out hab)
        have HE := Lib.hid (HEQ.out hab)
        clear HEQ HDEL HINS HXY
        subst hab
        have haa : (a.toList == a.toList) = true := by simp
        go_wp2_with fail
        go_quiet (fail)
        go_wp2_with fail
        go_roundw
        case rel => exact ⟨I + 1, J + 1, false, out, f - 1, rfl, by go_num, by go_num, by omega, by omega, by omega, HE.out.symm, HCUT.out.keep HIX.out HJY.out HAB.out, own_drew HO.out _, pw_below HB.out _⟩
        case measure => simp [intOf]; omega
      · have hab' : (a.toList == b.toList) = false := beq_bytes hab
        have HNE := Lib.hid hab
        have HDL := Lib.hid (HDEL.out hab)
        have HIN := Lib.hid (HINS.out hab)
        clear HEQ HDEL HINS HXY hab
        go_upto_region 7 with fail
        go_quiet (fail)
        generalize hwd : wr.drewN _ = wd
        have HOD : Hid (wd.ownsRow w1.heap.size 82 4 _ out.length (chgCells out)) := Lib.hid (by rw [← hwd]; exact own_drew HO.out _)
        have HBD : Hid (Below w1.heap.size w1 wd) := Lib.hid (by rw [← hwd]; exact pw_below HB.out _)
        clear hwd
        go_upto_if 54 with fail
        go_cut [7, 8] from 18 to 114 (fun v o wx => ∃ (ys : List Chg) (ch : Chg) (g cap : Nat), v = .slice (some ⟨g, 0, none⟩) (ys.length + 1) cap ∧ o = .bool true ∧ wx.ownsRow w1.heap.size 82 4 (.slice (some ⟨g, 0, none⟩) (ys.length + 1) cap) (ys.length + 1) (chgCells (ys ++ [ch])) ∧ Below w1.heap.size w1 wx ∧ ys.length ≤ 4096 ∧ Opened I J opn out ys ch)
        case first =>
          cases opn with
          | true =>
            obtain ⟨ys, ch, hout, hop⟩ := HCUT.out.opened
            have hle := HOL.out
            subst hout
            obtain ⟨g, cap, hv⟩ := own_some (HOD.out) (by rw [List.length_append]; exact Nat.succ_pos _)
            rw [List.length_append] at hv
            have HOP := Lib.hid hop
            have HOX := HOD.out
            rw [hv, List.length_append] at HOX
            have HO9 := Lib.hid HOX
            clear hop HOX
            go_wp2_with fail
            go_meet
            exact ⟨ys, ch, g, cap, hv, rfl, HO9.out, HBD.out, by have := HOL.out; rw [List.length_append] at this; omega, HOP.out⟩
          | false =>
            obtain ⟨A', cap', hv⟩ := own_shape HOD.out
            subst hv
            go_wp2_with (at_builtin; refine wpList_append_lies _ rfl (.tmp 55) (.tmp 59) 79 rfl w1.heap.size 82 i0 (.agg #[.int .i64 0, .int .i64 0, .int .i64 0, .int .i64 0]) 4 32 Tryd.underlying79 HI.out.1 HI.out.2.1 HI.out.2.2.1 HI.out.2.2.2 rfl (by decide) _ _ _ rfl (own_below HOD.out ((Below.refl _ _).alloc (Nat.le_refl _) _)) _ 1 1 [.int .i64 I, .int .i64 0, .int .i64 J, .int .i64 0] rfl rfl (fun j u hj => news_alloc _ _ _ j u hj) (by simp [Value.oneCell']) (by decide) (by have := HOL.out; unfold maxLen; omega) (by have := HOL.out; omega) (by have h3 := HBD.out.size; simp; omega) _ rfl ?_; intro g cap w9 hown hgrow hat hgl; have HO9 := Lib.hid hown; have HB9 := Lib.hid (grown_own HBD.out HOD.out hgrow); clear hown hgrow hat hgl)
            go_meet
            exact ⟨out, ⟨I, 0, J, 0⟩, g, cap, rfl, rfl, by rw [chgCells_snoc]; exact HO9.out, HB9.out, HOL.out, Opened.new I J out⟩
        case rest =>
          obtain ⟨ys, ch, g, cap, rfl, rfl, hown, hb, hyl, hop⟩ := hcut
          have HO9 := Lib.hid hown
          have HB9 := Lib.hid hb
          have HOP := Lib.hid hop
          have HSM := Lib.hid (HCUT.out.small hop)
          have HTC := Lib.hid (HTAB.out.later HB9.out)
          clear hown hb hop
          obtain ⟨q, hq⟩ : ∃ q, ys.length = q := ⟨_, rfl⟩
          rw [hq] at HO9 ⊢
          have HQ := Lib.hid hq
          rw [hq] at hyl
          clear hq HO HB HTB HOD HBD
          have f1 := HO9.out.frozenAt (q * 4 + 1)
          have f3 := HO9.out.frozenAt (q * 4 + 3)
          have x1 := chg_cell HO9.out HQ.out
          obtain ⟨x1, x3⟩ := x1
          obtain ⟨s1, s2⟩ := HSM.out
          rw [HNX.out] at s1
          rw [HMY.out] at s2
          obtain ⟨cd, hcd⟩ : ∃ cd, ch.del = cd := ⟨_, rfl⟩
          obtain ⟨ci, hci⟩ : ∃ ci, ch.ins = ci := ⟨_, rfl⟩
          rw [hcd] at x1 s1
          rw [hci] at x3 s2
          have HCD := Lib.hid hcd
          have HCI := Lib.hid hci
          clear hcd hci
          have t1 := HTC.out.tab.all (I + 1) J (by have := HIX.out; omega) (by have := HJY.out; omega)
          have t2 := HTC.out.tab.all I (J + 1) (by have := HIX.out; omega) (by have := HJY.out; omega)
          obtain ⟨p, hp⟩ : ∃ p, I * W = p := ⟨_, rfl⟩
          have hpi : (I : Int) * (W : Int) = (p : Int) := by rw [← hp]; simp
          have hpj : ((I : Int) + 1) * (W : Int) = (p : Int) + W := by rw [Int.add_mul, hpi]; omega
          have hpN : p + W + W ≤ N := by
            have := Nat.mul_le_mul_right W (show I + 1 + 1 ≤ n + 1 by omega)
            rw [← hN, ← hp]; rw [Nat.add_mul, Nat.add_mul] at this; omega
          rw [HMY.out, hW, Nat.add_mul, Nat.one_mul, hp] at t1
          rw [HMY.out, hW, hp] at t2
          rw [← Nat.add_assoc] at t2
          have c1 := HTC.out.cell t1
          have c2 := HTC.out.cell t2
          generalize com (x.drop (I + 1)) (y.drop J) = v2 at c1 t1 HDL HIN
          generalize com (x.drop I) (y.drop (J + 1)) = v3 at c2 t2 HDL HIN
          clear t1 t2 y1 y2
          by_cases hcmp : v3 ≤ v2
          · have k1 : decide ((v2 : Int) ≥ v3) = true := by simp; omega
            have k2 : (v3 : Int) ≤ v2 := by omega
            have HST := Lib.hid (HDL.out hcmp)
            go_wp2_with fail
            go_quiet (fail)
            go_wp2_with fail
            go_roundw
            case rel => exact ⟨I + 1, J, true, _, f - 1, rfl, by go_num, rfl, by omega, by omega, by omega, by exact HST.out.symm, HCUT.out.del (by rw [HNX.out]; omega), by rw [HOP.out.1]; exact own_del (by first | exact HO9.out | exact own_drew HO9.out _) HQ.out HCD.out, below_put (by first | exact HB9.out | exact pw_below HB9.out _) (own_at HO9.out) _ _⟩
            case measure => simp [intOf]; omega
          · have k1 : decide ((v2 : Int) ≥ v3) = false := by simp; omega
            have k2 : ¬ (v3 : Int) ≤ v2 := by omega
            have HST := Lib.hid (HIN.out hcmp)
            go_wp2_with fail
            go_quiet (fail)
            go_wp2_with fail
            go_roundw
            case rel => exact ⟨I, J + 1, true, _, f - 1, rfl, rfl, by go_num, by omega, by omega, by omega, by exact HST.out.symm, HCUT.out.ins (by rw [HMY.out]; omega), by rw [HOP.out.2]; exact own_ins (by first | exact HO9.out | exact own_drew HO9.out _) HQ.out HCI.out, below_put (by first | exact HB9.out | exact pw_below HB9.out _) (own_at HO9.out) _ _⟩
            case measure => simp [intOf]; omega
end Go.Proofs.YtkidcleffllhbaaDoor.Dt
