/- The walk of UtextShortest: for every input it answers true. -/
import Derived.Test.YtekibfhlkocdlaaDoorUDiff
import Derived.Test.YtekibfhlkocdlaaDoorUTwo
import Derived.Deep.RegionHeld3
import Derived.Deep.DeepCutAuto
import Derived.Deep.DrawnRows
namespace Go.Proofs.YtekibfhlkocdlaaDoor.U
open Go.RowKit Go.Proofs.YtekibfhlkocdlaaDoor.Txt
set_option linter.unusedVariables false
set_option linter.unusedSimpArgs false
attribute [local go_sem ↓] Go.wp_at_zero Go.wp_at_succ

/-- Two lists of runes that the call made, in a world behind W. -/
structure TwoRows (W w : World) (s t : Value) (l m : List Int) : Prop where
  s : ∃ A c, s = .slice A l.length c ∧ l.length ≤ c ∧ Cells32 w A l
  t : ∃ A c, t = .slice A m.length c ∧ m.length ≤ c ∧ Cells32 w A m
  below : Below W.heap.size W w
  bars : Bars w

theorem mid_text {S : ByteArray} (M : List Int) (h t : Nat) (hT : Text S M) (hl : h + t ≤ M.length) : (midB M h t).length + h + t = M.length ∧ Text (Str (midB M h t)) (midB M h t) := by
  have hlen : (midB M h t).length + h + t = M.length := by unfold midB; simp; omega
  refine ⟨hlen, str_list _, fun r hr => hT.ok r (List.mem_of_mem_take (List.mem_of_mem_drop hr)), ?_⟩
  rw [str_size]
  have e1 : (enc M).length = (enc (M.take (M.length - t))).length + (enc (M.drop (M.length - t))).length := by rw [← List.length_append, ← enc_append, List.take_append_drop]
  have e2 : (enc (M.take (M.length - t))).length = (enc ((M.take (M.length - t)).take h)).length + (enc (midB M h t)).length := by unfold midB; rw [← List.length_append, ← enc_append, List.take_append_drop]
  have h2 := hT.size
  rw [hT.len] at h2
  omega

theorem mid_last (M : List Int) (h t : Nat) (h0 : 0 < (midB M h t).length) (hl : h + t ≤ M.length) : (midB M h t).getD ((midB M h t).length - 1) 0 = M.getD (M.length - 1 - t) 0 := by
  have e : (midB M h t).length = M.length - t - h := by unfold midB; simp
  rw [e] at h0 ⊢
  unfold midB
  simp only [List.getD, List.getElem?_drop, List.getElem?_take]
  rw [if_pos (by omega)]
  congr 2
  omega

set_option maxRecDepth 100000 in
set_option maxHeartbeats 8000000 in
theorem shortest_walk (W : World) (v : Value) (A1 : Option Addr) (n1 c1 : Nat) (xs1 : List Int) (A2 : Option Addr) (n2 c2 : Nat) (xs2 : List Int) (k : Int) (raw : ByteArray) (b : Int) (hv : TwoIn W v A1 n1 c1 xs1 A2 n2 c2 xs2 k raw b) (hg : Bars W) :
    Calls Tryd.prog 5 #[v] W fun e w' => e = .returned (.bool true) ∧ Below W.heap.size W w' := by
  obtain ⟨rfl, r1, r2, hk0, hk1, hraw, _, _⟩ := hv
  have hl1 := r1.1
  have hn1 := r1.2.1
  have hl2 := r2.1
  have hn2 := r2.2.1
  have HG := Lib.hid hg
  have HR1 := Lib.hid r1
  have HR2 := Lib.hid r2
  clear hg r1 r2
  go_enter Tryd.func5, Tryd.ntmps5
  go_upto_region 1 with fail
  go_cut [3, 4] (fun s t wx => TwoRows W wx s t (xs1.map letR) (xs2.map letR))
  case first =>
    go_region_held3 (fun w' => w'.cell? ⟨W.heap.size, 0, none⟩ = some (.slice A1 n1 c1) ∧ w'.cell? ⟨W.heap.size, 1, none⟩ = some (.slice A2 n2 c2))
      (first | go_keep | (go_split_ands; first | exact ⟨cell_below hb1 (by assumption), cell_below hb1 (by assumption)⟩ | exact ⟨cell_below hb2 (by assumption), cell_below hb2 (by assumption)⟩ | exact ⟨cell_below hb1 (by go_keep), cell_below hb1 (by go_keep)⟩ | exact ⟨cell_below hb2 (by go_keep), cell_below hb2 (by go_keep)⟩))
      (first
        | (go_at_call_of 14 (Value.slice A1 n1 c1); refine (let_any A1 n1 c1 xs1 _ ?_).mono ?_; (first | exact HR1.out.below (((Below.refl W.heap.size W).alloc (Nat.le_refl _) _).drew) | exact HR1.out.below ((((Below.refl W.heap.size W).alloc (Nat.le_refl _) _).drew).trans (hb2.mono (by simp)))); rintro e w' ⟨v1, rfl, hown1, hb1⟩)
        | (go_at_call_of 14 (Value.slice A2 n2 c2); refine (let_any A2 n2 c2 xs2 _ ?_).mono ?_; (first | exact HR2.out.below ((((Below.refl W.heap.size W).alloc (Nat.le_refl _) _).drew).trans (hb1.mono (by simp))) | exact HR2.out.below (((Below.refl W.heap.size W).alloc (Nat.le_refl _) _).drew)); rintro e w' ⟨v2, rfl, hown2, hb2⟩))
    all_goals (go_wp2_with fail)
    all_goals
      go_meet
      have l1 : (xs1.map letR).length = xs1.length := by simp
      have l2 : (xs2.map letR).length = xs2.length := by simp
      rw [← l1] at hown1
      rw [← l2] at hown2
      obtain ⟨B1, d1, rfl, hd1, hc1⟩ := own_runes hown1
      obtain ⟨B2, d2, rfl, hd2, hc2⟩ := own_runes hown2
      have hbx : Below W.heap.size W _ := (((Below.refl W.heap.size W).alloc (Nat.le_refl _) _).drew.trans (hb1.mono (by simp))).trans (hb2.mono (by have := hb1.size; simp at this; omega))
      exact ⟨⟨B1, d1, rfl, hd1, hc1.below hb2⟩, ⟨B2, d2, rfl, hd2, hc2⟩, hbx, HG.out.below hbx⟩
  case rest =>
    obtain ⟨⟨B1, d1, rfl, hd1, hc1⟩, ⟨B2, d2, rfl, hd2, hc2⟩, hbx, hgx⟩ := hcut
    have t1 := Text.str xs1 (by omega)
    have t2 := Text.str xs2 (by omega)
    have l1 : (xs1.map letR).length ≤ 35184372087808 := by simp; omega
    have l2 : (xs2.map letR).length ≤ 35184372087808 := by simp; omega
    clear hl1 hn1 hl2 hn2 HG HR1 HR2
    generalize xs1.map letR = L at *
    generalize xs2.map letR = M at *
    have hs1 := conv_runes (c := d1) hc1
    have hs2 := conv_runes (c := d2) hc2
    have HC1 := Lib.hid hc1
    have HC2 := Lib.hid hc2
    have HBX := Lib.hid hbx
    have HGX := Lib.hid hgx
    have T1 := Lib.hid t1
    have T2 := Lib.hid t2
    clear hc1 hc2 hbx hgx t1 t2
    go_wp2_with fail
    refine (Diff_any _ _ L M _ T1.out T2.out l1 l2 HGX.out).mono ?_
    rintro e w1 ⟨h, t, hm, rfl, hb1⟩
    have HM := Lib.hid hm
    have HB1 := Lib.hid (HBX.out.trans (hb1.mono HBX.out.size))
    have HD1 := Lib.hid (HC1.out.below hb1)
    have HD2 := Lib.hid (HC2.out.below hb1)
    obtain ⟨hI, tI⟩ := mid_text M h t T2.out HM.out.lb
    have hla := HM.out.la
    have hlb := HM.out.lb
    clear hm hb1 hs1 hs2
    obtain ⟨c3, w2, hcv, hcap, hb2, hcl⟩ := conv_to_runes _ _ tI (by omega) w1
    have HB2 := Lib.hid (HB1.out.trans (hb2.mono HB1.out.size))
    have HE1 := Lib.hid (HD1.out.below hb2)
    have HE2 := Lib.hid (HD2.out.below hb2)
    have HCL := Lib.hid hcl
    clear hb2 hcl tI T1 T2 HC1 HC2 HD1 HD2 HBX HGX HB1
    generalize (⟨w1.heap.size, 0, none⟩ : Addr) = q3 at hcv HCL
    obtain ⟨d, hd⟩ : ∃ d : Nat, L.length = h + t + d := ⟨L.length - h - t, by omega⟩
    have hd' : (L.length : Int) - h - t = d := by omega
    rw [hd']
    have v1 : IntKind.i64.wrap (↑L.length - ↑h) = ↑L.length - ↑h := IntWalk.i64_in _ (by omega)
    have v2 : IntKind.i64.wrap (↑L.length - ↑d) = ↑L.length - ↑d := IntWalk.i64_in _ (by omega)
    have v3 : IntKind.i64.wrap (↑L.length - ↑d + ↑(midB M h t).length) = ↑M.length := by rw [IntWalk.i64_in _ (by omega)]; omega
    have o1 : ¬ (L.length < h) := by omega
    have o2 : ¬ ((L.length : Int) - ↑h < ↑d) := by omega
    have o3 : decide (L.length < h) = false := by simp; omega
    have o4 : decide ((L.length : Int) - ↑h < ↑d) = false := by simp; omega
    have HDD := Lib.hid hd
    clear hd hd'
    go_wp2_with fail
    clear v1 v2 v3 o1 o2 o3 o4
    go_loopw [10] (fun i wr => ∃ j : Nat, i = .int .i64 j ∧ j ≤ h ∧ Below w2.heap.size w2 wr) (fun i _ => h - (intOf i).toNat)
    case atStart => exact ⟨0, rfl, Nat.zero_le _, Below.refl _ _⟩
    case round =>
      obtain ⟨j, rfl, hj, hb3⟩ := hrel
      have HB3 := Lib.hid hb3
      clear hb3
      by_cases hlt : j < h
      · obtain ⟨ad1, e1, hcs1⟩ := (HE1.out.below HB3.out) (by omega)
        obtain ⟨ad2, e2, hcs2⟩ := (HE2.out.below HB3.out) (by omega)
        subst e1 e2
        have y1 := hcs1 j (by omega)
        have y2 := hcs2 j (by omega)
        clear hcs1 hcs2
        rw [← HM.out.pre j hlt] at y2
        generalize L.getD j 0 = x at y1 y2
        have i1 : (j : Int) < ↑L.length := by omega
        have i2 : (j : Int) < ↑M.length := by omega
        have i3 : (0 : Int) ≤ j := by omega
        have i4 : decide (M.length ≤ j) = false := by simp; omega
        have i5 : ¬ M.length ≤ j := by omega
        go_wp2_with fail
        go_quiet (fail)
        go_wp2_with fail
        go_roundw
        case rel => exact ⟨j + 1, by go_num, by omega, pw_below HB3.out _⟩
        case measure => simp [intOf]; omega
      · have hjh : j = h := by omega
        subst hjh
        go_wp2_with fail
        have HW : j = L.length ∨ (j < L.length ∧ j = M.length) ∨ (j < L.length ∧ j < M.length ∧ L.getD j 0 ≠ M.getD j 0) := by have := HM.out.stop; omega
        have i3 : (0 : Int) ≤ j := by omega
        rcases HW with g1 | ⟨g1, g2⟩ | ⟨g1, g2, g3⟩
        case' inl =>
          have o1 : decide (j < L.length) = false := by simp; omega
          have o2 : ¬ j < L.length := by omega
          clear g1
          go_quiet (fail)
          clear o1 o2
        case' inr.inl =>
          have o1 : decide (j < M.length) = false := by simp; omega
          have o2 : ¬ j < M.length := by omega
          have i1 : (j : Int) < ↑L.length := by omega
          clear g1 g2
          go_quiet (fail)
          clear o1 o2 i1
        case' inr.inr =>
          have i1 : (j : Int) < ↑L.length := by omega
          have i2 : (j : Int) < ↑M.length := by omega
          obtain ⟨ad1, e1, hcs1⟩ := (HE1.out.below HB3.out) (by omega)
          obtain ⟨ad2, e2, hcs2⟩ := (HE2.out.below HB3.out) (by omega)
          subst e1 e2
          have y1 := hcs1 j g1
          have y2 := hcs2 j g2
          clear hcs1 hcs2
          generalize L.getD j 0 = x at y1 g3
          generalize M.getD j 0 = y at y2 g3
          have g4 : (x == y) = false := by simpa using g3
          clear g1 g2 g3
          go_quiet (fail)
          clear y1 y2 g4 i1 i2
        all_goals
          go_wp2_with fail
          have HB4 := Lib.hid (pw_below HB3.out nq)
          rcases Nat.eq_zero_or_pos d with hd0 | hd0
          · subst hd0
            go_quiet (fail)
            go_wp2_with fail
            go_ret
            exact ⟨rfl, HB2.out.trans ((pw_below HB4.out _).mono HB2.out.size)⟩
          · have z1 : ((d : Int) == 0) = false := by simp; omega
            rcases Nat.eq_zero_or_pos (midB M j t).length with hn0 | hn0
            · rw [hn0]
              go_quiet (fail)
              go_wp2_with fail
              go_ret
              exact ⟨rfl, HB2.out.trans ((pw_below HB4.out _).mono HB2.out.size)⟩
            · have HLL := HDD.out
              obtain ⟨ad1, e1, hcs1⟩ := (HE1.out.below HB3.out) (by omega)
              cases e1
              have y1 := hcs1 (L.length - 1 - t) (by omega)
              obtain ⟨ad3, e3, hcs3⟩ := (HCL.out.below HB3.out) hn0
              cases e3
              have y3 := hcs3 ((midB M j t).length - 1) (by omega)
              rw [mid_last M j t hn0 hlb] at y3
              have g3 := HM.out.stop2 (by omega) (by omega)
              clear hcs1 hcs3
              generalize L.getD (L.length - 1 - t) 0 = x at y1 g3
              generalize M.getD (M.length - 1 - t) 0 = y at y3 g3
              have g4 : (x == y) = false := by simpa using g3
              clear g3
              generalize (midB M j t).length = nI at *
              have z2 : ((nI : Int) == 0) = false := by simp; omega
              have u1 : IntKind.i64.wrap (↑j + ↑d) = ↑j + ↑d := IntWalk.i64_in _ (by omega)
              have u2 : IntKind.i64.wrap (↑j + ↑d - 1) = ↑(L.length - 1 - t) := by rw [IntWalk.i64_in _ (by omega)]; omega
              have u3 : IntKind.i64.wrap (↑nI - 1) = ↑(nI - 1) := by rw [IntWalk.i64_in _ (by omega)]; omega
              have p1 : L.length - 1 - t < L.length := by omega
              have p2 : nI - 1 < nI := by omega
              clear HLL
              generalize L.length - 1 - t = q1 at y1 u2 p1
              generalize nI - 1 = q2 at y3 u3 p2
              go_quiet (fail)
              go_wp2_with fail
              go_ret
              exact ⟨by show Ending.returned (Value.bool (x != y)) = _; rw [show (x != y) = true by rw [bne, g4]; rfl], HB2.out.trans ((pw_below HB4.out _).mono HB2.out.size)⟩
end Go.Proofs.YtekibfhlkocdlaaDoor.U
