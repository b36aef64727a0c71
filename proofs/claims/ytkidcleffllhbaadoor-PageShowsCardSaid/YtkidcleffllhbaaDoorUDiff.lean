/- The walk of utext.Diff on two texts. -/
import Derived.Test.YtkidcleffllhbaaDoorULines0
namespace Go.Proofs.YtkidcleffllhbaaDoor.U
open Go.RowKit Go.Proofs.YtkidcleffllhbaaDoor.Txt
set_option linter.unusedVariables false
set_option linter.unusedSimpArgs false

/-- h: how long the common head is; t: how long the common tail of what stands behind. -/
structure Meets (a b : List Int) (h t : Nat) : Prop where
  la : h + t ≤ a.length
  lb : h + t ≤ b.length
  pre : ∀ i, i < h → a.getD i 0 = b.getD i 0
  stop : h < a.length → h < b.length → a.getD h 0 ≠ b.getD h 0
  suf : ∀ i, i < t → a.getD (a.length - 1 - i) 0 = b.getD (b.length - 1 - i) 0
  stop2 : h + t < a.length → h + t < b.length → a.getD (a.length - 1 - t) 0 ≠ b.getD (b.length - 1 - t) 0
/-- What stands between. -/
def midB (b : List Int) (h t : Nat) : List Int := (b.take (b.length - t)).drop h

theorem Cells32.mid {w : World} {ad : Addr} {b : List Int} (h : Cells32 w (some ad) b) (j m : Nat) : Cells32 w (some (ad.add j)) ((b.take m).drop j) := fun h0 => by
  simp only [List.length_drop, List.length_take] at h0
  obtain ⟨ad', e, hc⟩ := h (by omega)
  cases e
  refine ⟨_, rfl, fun i hi => ?_⟩
  simp only [List.length_drop, List.length_take] at hi
  rw [Addr.add_add, hc (j + i) (by omega)]
  simp [List.getD, List.getElem?_drop, List.getElem?_take, show j + i < m by omega]
theorem conv_mid {W : World} {ad : Addr} {c j m : Nat} {b : List Int} (h : Cells32 W (some ad) b) (hm : m ≤ b.length) : (convert 22 9 (.slice (some (ad.add j)) (m - j) c)).run Tryd.prog W = .ok (.string (Str ((b.take m).drop j))) W := by
  have := conv_runes (c := c) (h.mid j m)
  rwa [List.length_drop, List.length_take, Nat.min_eq_left hm] at this

theorem results_tmp4 {fn : Func} {t u v x : Tmp} (h : fn.results = #[.tmp t, .tmp u, .tmp v, .tmp x]) (tmps : Array Value) (P : Program) (w : World) :
    (results fn tmps).run P w = .ok (.tuple #[tmps.getD t undef, tmps.getD u undef, tmps.getD v undef, tmps.getD x undef]) w := by
  simp [results, h]
theorem slice_mid (ad : Addr) (b : List Int) (c j m : Nat) (h1 : j ≤ m) (h2 : m ≤ b.length) (h3 : m ≤ c) : ∃ V, (∀ W : World, (Instr.slice 22 (.slice (some ad) b.length c) (some (.int .i64 j)) (some (.int .i64 m)) none).run Tryd.prog W = .ok V W) ∧ ∀ W : World, Cells32 W (some ad) b → (convert 22 9 V).run Tryd.prog W = .ok (.string (Str ((b.take m).drop j))) W := by
  refine ⟨sliced (some ad) j m c 1, fun W => ?_, fun W h => ?_⟩
  · rw [run_slice_lh W 22 (some ad) b.length c (by kernel_rfl) .i64 .i64 j m (by omega) (by omega) (by omega)]
    kernel_rfl
  · unfold sliced
    split
    · have : (b.take m).drop j = [] := by apply List.length_eq_zero_iff.1; simp; omega
      rw [this, show m - j = 0 by omega]
      exact conv_runes (xs := []) fun h0 => by simp at h0
    · rw [Nat.mul_one]
      exact conv_mid h h2

set_option maxRecDepth 100000 in
set_option maxHeartbeats 8000000 in
theorem Diff_any (S1 S2 : ByteArray) (a b : List Int) (w : World) (t1 : Text S1 a) (t2 : Text S2 b) (hl1 : a.length ≤ 35184372087808) (hl2 : b.length ≤ 35184372087808) (hg : Bars w) :
    Calls Tryd.prog 11 #[.string S1, .string S2] w fun e w' => ∃ h t, Meets a b h t ∧ e = .returned (.tuple #[.int .i64 h, .int .i64 (a.length - h - t : Int), .string (Str (midB b h t)), .int .i64 0]) ∧ Below w.heap.size w w' := by
  have HT1 := Lib.hid t1
  have HT2 := Lib.hid t2
  have HG := Lib.hid hg
  clear t1 t2 hg
  have x0 : ∀ w : World, (Instr.index 85 (.agg #[.string S1, .string S2]) (.int .i64 0)).run Tryd.prog w = .ok (.string S1) w := fun _ => by kernel_rfl
  have x1 : ∀ w : World, (Instr.index 85 (.agg #[.string S1, .string S2]) (.int .i64 1)).run Tryd.prog w = .ok (.string S2) w := fun _ => by kernel_rfl
  go_enter Tryd.func11, Tryd.ntmps11
  go_wp2_with fail
  go_loopw [4, 7, 16] (fun at0 e i wr => ∃ j : Nat, j ≤ 2 ∧ i = .int .i64 j ∧ e = .int .i64 0 ∧ at0 = .int .i64 0 ∧ Below w.heap.size w wr) (fun _ _ i _ => 2 - (intOf i).toNat)
  case atStart => exact ⟨0, Nat.zero_le _, rfl, rfl, rfl, Below.refl _ _⟩
  case round =>
    obtain ⟨j, hj, rfl, rfl, rfl, hb⟩ := hrel
    have HB := Lib.hid hb
    clear hb
    have hj2 : j = 0 ∨ j = 1 ∨ j = 2 := by omega
    rcases hj2 with rfl | rfl | rfl
    · go_wp2_with fail
      refine (check_at S1 a.length 0 0 _ (by have := HT1.out.size; unfold maxLen; omega) (HG.out.below HB.out) HT1.out.chk).mono ?_
      rintro e w1 ⟨rfl, hb1⟩
      have HB1 := Lib.hid (HB.out.trans (hb1.mono HB.out.size))
      clear hb1
      go_wp2_with fail
      go_roundw
      case rel => exact ⟨1, by omega, rfl, rfl, rfl, HB1.out⟩
      case measure => simp [intOf]
    · go_wp2_with fail
      refine (check_at S2 b.length 0 0 _ (by have := HT2.out.size; unfold maxLen; omega) (HG.out.below HB.out) HT2.out.chk).mono ?_
      rintro e w1 ⟨rfl, hb1⟩
      have HB1 := Lib.hid (HB.out.trans (hb1.mono HB.out.size))
      clear hb1
      go_wp2_with fail
      go_roundw
      case rel => exact ⟨2, by omega, rfl, rfl, rfl, HB1.out⟩
      case measure => simp [intOf]
    · obtain ⟨c1, w1, hcv1, hcap1, hb1, hcl1⟩ := conv_to_runes S1 a HT1.out hl1 wr
      have HB1 := Lib.hid (HB.out.trans (hb1.mono HB.out.size))
      obtain ⟨c2, w2, hcv2, hcap2, hb2, hcl2⟩ := conv_to_runes S2 b HT2.out hl2 w1
      have HB2 := Lib.hid (HB1.out.trans (hb2.mono HB1.out.size))
      have HC1 := Lib.hid (hcl1.below hb2)
      have HC2 := Lib.hid hcl2
      clear hb1 hb2 hcl1 hcl2
      generalize (⟨wr.heap.size, 0, none⟩ : Addr) = q1 at hcv1 HC1
      generalize (⟨w1.heap.size, 0, none⟩ : Addr) = q2 at hcv2 HC2
      clear hj HB HB1
      go_wp2_with fail
      go_loopw [4] (fun i wr => ∃ j : Nat, i = .int .i64 j ∧ j ≤ a.length ∧ j ≤ b.length ∧ (∀ i, i < j → a.getD i 0 = b.getD i 0) ∧ Below w2.heap.size w2 wr) (fun i _ => a.length - (intOf i).toNat)
      case atStart => exact ⟨0, rfl, Nat.zero_le _, Nat.zero_le _, fun i h => by omega, Below.refl _ _⟩
      case round =>
        obtain ⟨j, rfl, hj1, hj2, hpre, hb3⟩ := hrel
        have HP := Lib.hid hpre
        have HB3 := Lib.hid hb3
        clear hpre hb3
        have HW : (j < a.length ∧ j < b.length ∧ a.getD j 0 = b.getD j 0) ∨ (j = a.length ∨ (j < a.length ∧ j = b.length) ∨ (j < a.length ∧ j < b.length ∧ a.getD j 0 ≠ b.getD j 0)) := by omega
        rcases HW with ⟨g1, g2, g3⟩ | HW
        · have i1 : (j : Int) < ↑a.length := by omega
          have i2 : (j : Int) < ↑b.length := by omega
          have i3 : (0 : Int) ≤ j := by omega
          obtain ⟨ad1, e1, hcs1⟩ := (HC1.out.below HB3.out) (by omega)
          obtain ⟨ad2, e2, hcs2⟩ := (HC2.out.below HB3.out) (by omega)
          cases e1
          cases e2
          have y1 := hcs1 j g1
          have y2 := hcs2 j g2
          clear hcs1 hcs2
          rw [← g3] at y2
          generalize hx : a.getD j 0 = x at y1 y2
          have HX := Lib.hid hx
          have G3 := Lib.hid g3
          clear hx g3
          go_wp2_with fail
          go_quiet (fail)
          go_wp2_with fail
          go_roundw
          case rel => exact ⟨j + 1, by go_num, by omega, by omega, fun i h => by (rcases Nat.lt_succ_iff_lt_or_eq.1 h with h | rfl); exact HP.out i h; exact G3.out, pw_below HB3.out _⟩
          case measure => simp [intOf]; omega
        · have hstop : j < a.length → j < b.length → a.getD j 0 ≠ b.getD j 0 := by omega
          have HS := Lib.hid hstop
          clear hstop
          rcases HW with g1 | ⟨g1, g2⟩ | ⟨g1, g2, g3⟩
          case' inr.inl =>
            have d1 : decide (j < a.length) = false := by simp; omega
            have d1' : ¬ j < a.length := by omega
            clear g1
          case' inr.inr.inl =>
            have i1 : (j : Int) < ↑a.length := by omega
            have d2 : decide (j < b.length) = false := by simp; omega
            have d2' : ¬ j < b.length := by omega
            clear g1 g2
          case' inr.inr.inr =>
            have i1 : (j : Int) < ↑a.length := by omega
            have i2 : (j : Int) < ↑b.length := by omega
            have i3 : (0 : Int) ≤ j := by omega
            obtain ⟨ad1, e1, hcs1⟩ := (HC1.out.below HB3.out) (by omega)
            obtain ⟨ad2, e2, hcs2⟩ := (HC2.out.below HB3.out) (by omega)
            cases e1
            cases e2
            have y1 := hcs1 j g1
            have y2 := hcs2 j g2
            clear hcs1 hcs2
            generalize a.getD j 0 = x at y1 g3
            generalize b.getD j 0 = y at y2 g3
            have g4 : (x == y) = false := by simpa using g3
            clear g1 g2 g3
          all_goals
            go_wp2_with fail
            go_quiet (fail)
            go_wp2_with fail
            go_loopw [12] (fun i wr => ∃ t : Nat, i = .int .i64 t ∧ j + t ≤ a.length ∧ j + t ≤ b.length ∧ (∀ i, i < t → a.getD (a.length - 1 - i) 0 = b.getD (b.length - 1 - i) 0) ∧ Below w2.heap.size w2 wr) (fun i _ => a.length - (intOf i).toNat)
            case atStart => exact ⟨0, rfl, by omega, by omega, fun i h => by omega, pw_below HB3.out _⟩
            case round =>
              clear HB3
              try clear d1 d1'
              try clear d2 d2'
              try clear y1 y2 g4
              obtain ⟨t, rfl, ht1, ht2, hsuf, hb4⟩ := hrel
              have HU := Lib.hid hsuf
              have HB4 := Lib.hid hb4
              clear hsuf hb4
              have w1 : IntKind.i64.wrap (↑j + ↑t) = ↑j + ↑t := IntWalk.i64_in _ (by omega)
              have HW : (j + t < a.length ∧ j + t < b.length ∧ a.getD (a.length - 1 - t) 0 = b.getD (b.length - 1 - t) 0) ∨ (j + t = a.length ∨ (j + t < a.length ∧ j + t = b.length) ∨ (j + t < a.length ∧ j + t < b.length ∧ a.getD (a.length - 1 - t) 0 ≠ b.getD (b.length - 1 - t) 0)) := by omega
              rcases HW with ⟨g1, g2, g3⟩ | HW
              · have i1 : (j : Int) + ↑t < ↑a.length := by omega
                have i2 : (j : Int) + ↑t < ↑b.length := by omega
                obtain ⟨ad1, e1, hcs1⟩ := (HC1.out.below HB4.out) (by omega)
                obtain ⟨ad2, e2, hcs2⟩ := (HC2.out.below HB4.out) (by omega)
                cases e1
                cases e2
                have y1 := hcs1 (a.length - 1 - t) (by omega)
                have y2 := hcs2 (b.length - 1 - t) (by omega)
                clear hcs1 hcs2
                rw [← g3] at y2
                have G3 := Lib.hid g3
                clear g3
                generalize hx : a.getD (a.length - 1 - t) 0 = x at y1 y2
                have HX := Lib.hid hx
                clear hx
                have v1 : IntKind.i64.wrap (↑a.length - 1) = ↑a.length - 1 := IntWalk.i64_in _ (by omega)
                have v2 : IntKind.i64.wrap (↑b.length - 1) = ↑b.length - 1 := IntWalk.i64_in _ (by omega)
                have v3 : IntKind.i64.wrap (↑a.length - 1 - ↑t) = ↑(a.length - 1 - t) := by rw [IntWalk.i64_in _ (by omega)]; omega
                have v4 : IntKind.i64.wrap (↑b.length - 1 - ↑t) = ↑(b.length - 1 - t) := by rw [IntWalk.i64_in _ (by omega)]; omega
                have p1 : (a.length - 1 - t) < a.length := by omega
                have p2 : (b.length - 1 - t) < b.length := by omega
                generalize a.length - 1 - t = q3 at y1 v3 p1
                generalize b.length - 1 - t = q4 at y2 v4 p2
                go_wp2_with fail
                go_quiet (fail)
                go_wp2_with fail
                go_roundw
                case rel => exact ⟨t + 1, by go_num, by omega, by omega, fun i h => by (rcases Nat.lt_succ_iff_lt_or_eq.1 h with h | rfl); exact HU.out i h; exact G3.out, pw_below HB4.out _⟩
                case measure => simp [intOf]; omega
              · have hstop2 : j + t < a.length → j + t < b.length → a.getD (a.length - 1 - t) 0 ≠ b.getD (b.length - 1 - t) 0 := by omega
                have HS2 := Lib.hid hstop2
                clear hstop2
                have g0 : True := trivial
                have v1 : IntKind.i64.wrap (↑a.length - 1) = ↑a.length - 1 := IntWalk.i64_in _ (by omega)
                have v2 : IntKind.i64.wrap (↑b.length - 1) = ↑b.length - 1 := IntWalk.i64_in _ (by omega)
                rcases HW with g1 | ⟨g1, g2⟩ | ⟨g1, g2, g3⟩
                · have e1 : (j : Int) + ↑t = ↑a.length := by omega
                  have e2 : decide ((j : Int) + ↑t < ↑a.length) = false := by simp; omega
                  have e3 : ¬ (j : Int) + ↑t < ↑a.length := by omega
                  have f1 : IntKind.i64.wrap (↑a.length - ↑j) = ↑a.length - ↑j := IntWalk.i64_in _ (by omega)
                  have f2 : IntKind.i64.wrap (↑a.length - ↑j - ↑t) = ↑a.length - ↑j - ↑t := IntWalk.i64_in _ (by omega)
                  obtain ⟨m, hm⟩ : ∃ m : Nat, b.length = m + t := ⟨b.length - t, by omega⟩
                  have f3 : IntKind.i64.wrap (↑b.length - ↑t) = ↑m := by rw [IntWalk.i64_in _ (by omega)]; omega
                  have f4 : j ≤ m := by omega
                  have f5 : m ≤ c2 := by omega
                  have f6 : j ≤ c2 := by omega
                  obtain ⟨V, hV1, hV2⟩ := slice_mid q2 b c2 j m f4 (by omega) f5
                  have f7 : midB b j t = (b.take m).drop j := by unfold midB; rw [hm, Nat.add_sub_cancel]
                  have F7 := Lib.hid f7
                  have HV2 := Lib.hid hV2
                  clear hV2 f7 hm
                  go_wp2_with fail
                  go_quiet (fail)
                  go_wp2_with fail
                  clear w1 v1 v2
                  have hcv3 : ∀ n, (convert 22 9 V).run Tryd.prog (wr.drewN n) = .ok (.string (Str ((b.take m).drop j))) (wr.drewN n) := fun n => HV2.out _ (HC2.out.below (pw_below HB4.out n))
                  have hcv4 : ∀ n, (convert 22 9 V).run Tryd.prog ((wr.drewN nq).drewN n) = .ok (.string (Str ((b.take m).drop j))) ((wr.drewN nq).drewN n) := fun n => HV2.out _ (HC2.out.below (pw_below (pw_below HB4.out nq) n))
                  go_quiet (fail)
                  go_wp2_with fail
                  (try simp only [Exit.inBlock, Exit.then])
                  refine bodyPost_ret (results_tmp4 rfl _ _ _) rfl ?_
                  exact ⟨j, t, ⟨ht1, ht2, HP.out, HS.out, HU.out, HS2.out⟩, by rw [F7.out]; rfl, HB2.out.trans ((pw_below (pw_below HB4.out _) _).mono HB2.out.size)⟩
                · have i1 : (j : Int) + ↑t < ↑a.length := by omega
                  have e2 : decide ((j : Int) + ↑t < ↑b.length) = false := by simp; omega
                  have e3 : ¬ (j : Int) + ↑t < ↑b.length := by omega
                  have f1 : IntKind.i64.wrap (↑a.length - ↑j) = ↑a.length - ↑j := IntWalk.i64_in _ (by omega)
                  have f2 : IntKind.i64.wrap (↑a.length - ↑j - ↑t) = ↑a.length - ↑j - ↑t := IntWalk.i64_in _ (by omega)
                  obtain ⟨m, hm⟩ : ∃ m : Nat, b.length = m + t := ⟨b.length - t, by omega⟩
                  have f3 : IntKind.i64.wrap (↑b.length - ↑t) = ↑m := by rw [IntWalk.i64_in _ (by omega)]; omega
                  have f4 : j ≤ m := by omega
                  have f5 : m ≤ c2 := by omega
                  have f6 : j ≤ c2 := by omega
                  obtain ⟨V, hV1, hV2⟩ := slice_mid q2 b c2 j m f4 (by omega) f5
                  have f7 : midB b j t = (b.take m).drop j := by unfold midB; rw [hm, Nat.add_sub_cancel]
                  have F7 := Lib.hid f7
                  have HV2 := Lib.hid hV2
                  clear hV2 f7 hm
                  go_wp2_with fail
                  go_quiet (fail)
                  go_wp2_with fail
                  clear w1 v1 v2
                  have hcv3 : ∀ n, (convert 22 9 V).run Tryd.prog (wr.drewN n) = .ok (.string (Str ((b.take m).drop j))) (wr.drewN n) := fun n => HV2.out _ (HC2.out.below (pw_below HB4.out n))
                  have hcv4 : ∀ n, (convert 22 9 V).run Tryd.prog ((wr.drewN nq).drewN n) = .ok (.string (Str ((b.take m).drop j))) ((wr.drewN nq).drewN n) := fun n => HV2.out _ (HC2.out.below (pw_below (pw_below HB4.out nq) n))
                  go_quiet (fail)
                  go_wp2_with fail
                  (try simp only [Exit.inBlock, Exit.then])
                  refine bodyPost_ret (results_tmp4 rfl _ _ _) rfl ?_
                  exact ⟨j, t, ⟨ht1, ht2, HP.out, HS.out, HU.out, HS2.out⟩, by rw [F7.out]; rfl, HB2.out.trans ((pw_below (pw_below HB4.out _) _).mono HB2.out.size)⟩
                · have i1 : (j : Int) + ↑t < ↑a.length := by omega
                  have i2 : (j : Int) + ↑t < ↑b.length := by omega
                  obtain ⟨ad1, e1, hcs1⟩ := (HC1.out.below HB4.out) (by omega)
                  obtain ⟨ad2, e2, hcs2⟩ := (HC2.out.below HB4.out) (by omega)
                  cases e1
                  cases e2
                  have y1 := hcs1 (a.length - 1 - t) (by omega)
                  have y2 := hcs2 (b.length - 1 - t) (by omega)
                  clear hcs1 hcs2
                  generalize a.getD (a.length - 1 - t) 0 = x at y1 g3
                  generalize b.getD (b.length - 1 - t) 0 = y at y2 g3
                  have g4 : (x == y) = false := by simpa using g3
                  have v3 : IntKind.i64.wrap (↑a.length - 1 - ↑t) = ↑(a.length - 1 - t) := by rw [IntWalk.i64_in _ (by omega)]; omega
                  have v4 : IntKind.i64.wrap (↑b.length - 1 - ↑t) = ↑(b.length - 1 - t) := by rw [IntWalk.i64_in _ (by omega)]; omega
                  have p1 : (a.length - 1 - t) < a.length := by omega
                  have p2 : (b.length - 1 - t) < b.length := by omega
                  generalize a.length - 1 - t = q3 at y1 v3 p1
                  generalize b.length - 1 - t = q4 at y2 v4 p2
                  have f1 : IntKind.i64.wrap (↑a.length - ↑j) = ↑a.length - ↑j := IntWalk.i64_in _ (by omega)
                  have f2 : IntKind.i64.wrap (↑a.length - ↑j - ↑t) = ↑a.length - ↑j - ↑t := IntWalk.i64_in _ (by omega)
                  obtain ⟨m, hm⟩ : ∃ m : Nat, b.length = m + t := ⟨b.length - t, by omega⟩
                  have f3 : IntKind.i64.wrap (↑b.length - ↑t) = ↑m := by rw [IntWalk.i64_in _ (by omega)]; omega
                  have f4 : j ≤ m := by omega
                  have f5 : m ≤ c2 := by omega
                  have f6 : j ≤ c2 := by omega
                  obtain ⟨V, hV1, hV2⟩ := slice_mid q2 b c2 j m f4 (by omega) f5
                  have f7 : midB b j t = (b.take m).drop j := by unfold midB; rw [hm, Nat.add_sub_cancel]
                  have F7 := Lib.hid f7
                  have HV2 := Lib.hid hV2
                  clear hV2 f7 hm
                  go_wp2_with fail
                  go_quiet (fail)
                  go_wp2_with fail
                  clear w1 v1 v2
                  have hcv3 : ∀ n, (convert 22 9 V).run Tryd.prog (wr.drewN n) = .ok (.string (Str ((b.take m).drop j))) (wr.drewN n) := fun n => HV2.out _ (HC2.out.below (pw_below HB4.out n))
                  have hcv4 : ∀ n, (convert 22 9 V).run Tryd.prog ((wr.drewN nq).drewN n) = .ok (.string (Str ((b.take m).drop j))) ((wr.drewN nq).drewN n) := fun n => HV2.out _ (HC2.out.below (pw_below (pw_below HB4.out nq) n))
                  go_quiet (fail)
                  go_wp2_with fail
                  (try simp only [Exit.inBlock, Exit.then])
                  refine bodyPost_ret (results_tmp4 rfl _ _ _) rfl ?_
                  exact ⟨j, t, ⟨ht1, ht2, HP.out, HS.out, HU.out, HS2.out⟩, by rw [F7.out]; rfl, HB2.out.trans ((pw_below (pw_below HB4.out _) _).mono HB2.out.size)⟩
end Go.Proofs.YtkidcleffllhbaaDoor.U
