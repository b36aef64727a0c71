/- The walk of UtextWords: for every input it answers true. -/
import Derived.Test.YtekibfhlkocdlaaDoorUGoes
namespace Go.Proofs.YtekibfhlkocdlaaDoor.U
open Go.RowKit Go.Proofs.YtekibfhlkocdlaaDoor.Txt
set_option linter.unusedVariables false
set_option linter.unusedSimpArgs false

set_option maxHeartbeats 4000000 in
theorem wordy_any (r : Int) (w : World) : Calls Tryd.prog 26 #[.int .i32 r] w fun e w' => e = .returned (.bool (wordB r)) ∧ w = w' := by
  have HC : (r < 48 ∨ (57 < r ∧ r < 65) ∨ (90 < r ∧ r < 95) ∨ r = 96 ∨ (122 < r ∧ r < 192)) ∨ ((48 ≤ r ∧ r ≤ 57) ∨ (65 ≤ r ∧ r ≤ 90) ∨ (97 ≤ r ∧ r ≤ 122) ∨ 192 ≤ r) ∨ r = 95 := by omega
  rcases HC with h | h | rfl
  · have hb : wordB r = false := by unfold wordB; simp; omega
    have b95 : (r == 95) = false := by simp; omega
    have HB := Lib.hid hb
    clear hb
    rcases h with h | h | h | rfl | h
    all_goals
      go_enter Tryd.func26, Tryd.ntmps26
      go_wp2
      go_ret
      first | exact ⟨ret_bool HB.out.symm, rfl⟩ | exact ⟨ret_bool (by rw [HB.out]; simp; omega), rfl⟩
  · have hb : wordB r = true := by unfold wordB; simp; omega
    have b95 : (r == 95) = false := by simp; omega
    have HB := Lib.hid hb
    clear hb
    rcases h with h | h | h | h
    all_goals
      go_enter Tryd.func26, Tryd.ntmps26
      go_wp2
      go_ret
      first | exact ⟨ret_bool HB.out.symm, rfl⟩ | exact ⟨ret_bool (by rw [HB.out]; simp; omega), rfl⟩
  · go_enter Tryd.func26, Tryd.ntmps26
    go_wp2
    go_ret
    exact ⟨ret_bool rfl, rfl⟩

set_option maxRecDepth 100000 in
set_option maxHeartbeats 16000000 in
theorem words_walk (W : World) (v : Value) (A1 : Option Addr) (n1 c1 : Nat) (xs1 : List Int) (A2 : Option Addr) (n2 c2 : Nat) (xs2 : List Int) (k : Int) (raw : ByteArray) (b : Int) (hv : TwoIn W v A1 n1 c1 xs1 A2 n2 c2 xs2 k raw b) (hg : Bars W) (hw : Walks W) :
    Calls Tryd.prog 9 #[v] W fun e w' => e = .returned (.bool true) ∧ Below W.heap.size W w' := by
  obtain ⟨rfl, r1, _, hk0, hk1, hraw, _, _⟩ := hv
  have hl1 := r1.1
  have hn1 := r1.2.1
  have HG := Lib.hid hg
  have HW := Lib.hid hw
  have HR := Lib.hid r1
  clear hg r1 hw
  have L0 := Live.new HG.out #[.slice A1 n1 c1, .slice A2 n2 c2, .int .i64 k, .string raw, .int .u8 b] 24
  have HL0 := Lib.hid L0
  clear L0
  go_enter Tryd.func9, Tryd.ntmps9
  go_wp2_with fail
  refine (let_any A1 n1 c1 xs1 _ (HR.out.below ((Below.refl _ _).alloc (Nat.le_refl _) _))).mono ?_
  rintro e w1 ⟨v1, rfl, hown, hb1⟩
  have hlm : xs1.length = (xs1.map letR).length := (List.length_map _).symm
  rw [hlm] at hown
  have ht := Text.str xs1 (by omega)
  generalize xs1.map letR = l at hown hlm ht
  have hln : l.length ≤ 35184372087808 := by omega
  obtain ⟨A, c, rfl, hcc, hcl⟩ := own_runes hown
  have hcv := conv_runes (c := c) hcl
  have HL1 : Hid (LiveW _ _ _ _ _ _) := Lib.hid ⟨⟨HL0.out.step hb1, hcl⟩, HW.out.below (((Below.refl _ _).alloc (Nat.le_refl _) _).trans (hb1.mono (by simp)))⟩
  have hsz := ht.size
  generalize Str l = S at hcv ht hsz
  have HT := Lib.hid ht
  have x1 := HL1.out.l.live.cell 2 rfl
  have hk2 := Int.emod_nonneg k (show ((l.length : Int) + 1) ≠ 0 by omega)
  have hk3 := Int.emod_lt_of_pos k (show 0 < ((l.length : Int) + 1) by omega)
  clear hown hb1 hcl ht HR HL0 hlm
  go_wp2_with fail
  refine (pick_any k (l.length + 1) _ (by omega) (by omega) hk0 hk1).mono ?_
  rintro e w' ⟨rfl, rfl⟩
  obtain ⟨K, hK⟩ : ∃ K : Nat, k % ((l.length : Int) + 1) = K := ⟨_, (Int.toNat_of_nonneg hk2).symm⟩
  rw [hK]
  have hKl : K ≤ l.length := by omega
  clear hK hk2 hk3 hcv x1
  obtain ⟨ht1, ht2, ht3, ht4⟩ := wordR_spec l K hKl
  obtain ⟨hl1', hl2, hl3⟩ := wordL_spec l K
  generalize hTD : wordR l K = T at *
  generalize hBD : wordL l K = B at *
  have HTD := Lib.hid hTD
  have HBD := Lib.hid hBD
  have HW2 := Lib.hid ht3
  have HW3 := Lib.hid ht4
  have HWL2 := Lib.hid hl2
  have HWL3 := Lib.hid hl3
  clear hTD hBD ht3 ht4 hl2 hl3
  go_wp2_with fail
  refine (Step_8 S l K T _ HT.out (by omega) hKl HL1.out.l.live.bars HL1.out.walks (fun A c w hc hcap => by have := same_below (wordRight_any A c K l w hc (by omega) hKl); rw [HTD.out] at this; exact this)).mono ?_
  rintro e w2 ⟨rfl, hb2⟩
  have HL2 := Lib.hid (HL1.out.step hb2)
  clear hb2 HL1
  rcases Nat.lt_or_ge T l.length with hTn | hTn
  · obtain ⟨hKT, hb1, hb2⟩ := HW2.out hTn
    obtain ⟨T', rfl⟩ : ∃ q, T = q + 1 := ⟨T - 1, by omega⟩
    rw [Nat.add_sub_cancel] at hb2
    obtain ⟨ad0, he0, hcs⟩ := HL2.out.l.cells (by omega)
    subst he0
    have y1 := hcs T' (by omega)
    have y2 := hcs (T' + 1) (by omega)
    generalize l.getD T' 0 = r1 at y1 hb2
    generalize l.getD (T' + 1) 0 = r2 at y2 hb1
    rw [Addr.add, if_neg (by omega)] at y2
    have HB1 := Lib.hid hb2
    have HB2 := Lib.hid hb1
    have hne : (((T' : Int) + 1) == (K : Int)) = false := by simp; omega
    clear hb1 hb2 hcs
    go_wp2_with fail
    refine (wordy_any r2 _).mono ?_
    rintro e w' ⟨rfl, rfl⟩
    rw [HB2.out]
    go_wp2_with fail
    refine (wordy_any r1 _).mono ?_
    rintro e w' ⟨rfl, rfl⟩
    rw [HB1.out]
    clear y1 y2 hne
    go_wp2_with fail
    go_loop [8] (fun v => ∃ j : Nat, K + 1 ≤ j ∧ v = .int .i64 j) (fun v => T' + 1 - (intOf v).toNat)
    case atStart => exact ⟨K + 1, Nat.le_refl _, by go_num⟩
    case round =>
      obtain ⟨j, hj, rfl⟩ := hrel
      by_cases hjT : j < T' + 1
      · obtain ⟨i, rfl⟩ : ∃ i, j = i + 1 := ⟨j - 1, by omega⟩
        obtain ⟨ad', he, hcs⟩ := HL2.out.l.cells (by omega)
        cases he
        have y1 := hcs i (by omega)
        have y2 := hcs (i + 1) (by omega)
        have hst := HW3.out (i + 1) (by omega) (by omega)
        rw [Nat.add_sub_cancel] at hst
        generalize l.getD i 0 = r1 at y1 hst
        generalize l.getD (i + 1) 0 = r2 at y2 hst
        clear hcs
        cases hb1 : wordB r1 with
        | false =>
          have HB1 := Lib.hid hb1
          clear hb1 hst
          go_wp2_with fail
          refine (wordy_any r1 _).mono ?_
          rintro e w' ⟨rfl, rfl⟩
          rw [HB1.out]
          go_wp2_with fail
          go_round
          case rel => first | exact ⟨i + 1 + 1, by omega, by go_num⟩ | (trace_state; trivial)
          case measure => simp [intOf]; omega
        | true =>
          have hb2 := hst hb1
          have HB1 := Lib.hid hb1
          have HB2 := Lib.hid hb2
          clear hb1 hb2 hst
          go_wp2_with fail
          refine (wordy_any r1 _).mono ?_
          rintro e w' ⟨rfl, rfl⟩
          rw [HB1.out]
          rw [Addr.add, if_neg (by omega)] at y2
          go_wp2_with fail
          refine (wordy_any r2 _).mono ?_
          rintro e w' ⟨rfl, rfl⟩
          rw [HB2.out]
          go_wp2_with fail
          go_round
          case rel => first | exact ⟨i + 1 + 1, by omega, by go_num⟩ | (trace_state; trivial)
          case measure => simp [intOf]; omega
      · go_wp2_with fail
        refine (Step_7 S l K B _ HT.out (by omega) hKl HL2.out.l.live.bars HL2.out.walks (fun A c w hc hcap => by have := same_below (wordLeft_any A c K l w hc (by omega) hKl); rw [HBD.out] at this; exact this)).mono ?_
        rintro e w3 ⟨rfl, hb3⟩
        have HL3 := Lib.hid (HL2.out.step hb3)
        clear hb3
        rcases Nat.eq_zero_or_pos B with rfl | hB
        · by_cases hK0 : K ≤ 1
          · go_wp2_with fail
            go_loop [11] (fun v => ∃ j : Nat, 1 ≤ j ∧ v = .int .i64 j) (fun v => K - (intOf v).toNat)
            case atStart => exact ⟨1, Nat.le_refl _, rfl⟩
            case round =>
              obtain ⟨j, hj, rfl⟩ := hrel
              go_wp2_with fail
              go_ret
              exact ⟨rfl, HL3.out.l.live.below⟩
          · obtain ⟨ad, he, _⟩ := HL3.out.l.cells (by omega)
            cases he
            go_wp2_with fail
            go_loop [11] (fun v => ∃ j : Nat, 0 + 1 ≤ j ∧ v = .int .i64 j) (fun v => K - (intOf v).toNat)
            case atStart => exact ⟨0 + 1, Nat.le_refl _, rfl⟩
            case round =>
              obtain ⟨j, hj, rfl⟩ := hrel
              by_cases hjK : j < K
              · obtain ⟨i, rfl⟩ : ∃ i, j = i + 1 := ⟨j - 1, by omega⟩
                obtain ⟨ad', he, hcs⟩ := HL3.out.l.cells (by omega)
                cases he
                have y1 := hcs i (by omega)
                have y2 := hcs (i + 1) (by omega)
                have hst := HWL3.out (i + 1) (by omega) (by omega)
                rw [Nat.add_sub_cancel] at hst
                generalize l.getD i 0 = r1 at y1 hst
                generalize l.getD (i + 1) 0 = r2 at y2 hst
                clear hcs
                cases hb1 : wordB r1 with
                | true =>
                  have HB1 := Lib.hid hb1
                  clear hb1 hst
                  go_wp2_with fail
                  refine (wordy_any r1 _).mono ?_
                  rintro e w' ⟨rfl, rfl⟩
                  rw [HB1.out]
                  go_wp2_with fail
                  go_round
                  case rel => first | exact ⟨i + 1 + 1, by omega, by go_num⟩ | (trace_state; trivial)
                  case measure => simp [intOf]; omega
                | false =>
                  have hb2 := hst hb1
                  have HB1 := Lib.hid hb1
                  have HB2 := Lib.hid hb2
                  clear hb1 hb2 hst
                  go_wp2_with fail
                  refine (wordy_any r1 _).mono ?_
                  rintro e w' ⟨rfl, rfl⟩
                  rw [HB1.out]
                  rw [Addr.add, if_neg (by omega)] at y2
                  go_wp2_with fail
                  refine (wordy_any r2 _).mono ?_
                  rintro e w' ⟨rfl, rfl⟩
                  rw [HB2.out]
                  go_wp2_with fail
                  go_round
                  case rel => first | exact ⟨i + 1 + 1, by omega, by go_num⟩ | (trace_state; trivial)
                  case measure => simp [intOf]; omega
              · go_wp2_with fail
                go_ret
                exact ⟨rfl, HL3.out.l.live.below⟩
        · obtain ⟨hBK, hb1, hb2⟩ := HWL2.out hB
          obtain ⟨B', rfl⟩ : ∃ q, B = q + 1 := ⟨B - 1, by omega⟩
          rw [Nat.add_sub_cancel] at hb1
          obtain ⟨ad, he, hcs⟩ := HL3.out.l.cells (by omega)
          cases he
          have y1 := hcs B' (by omega)
          have y2 := hcs (B' + 1) (by omega)
          generalize l.getD B' 0 = r1 at y1 hb1
          generalize l.getD (B' + 1) 0 = r2 at y2 hb2
          rw [Addr.add, if_neg (by omega)] at y2
          have HB1 := Lib.hid hb1
          have HB2 := Lib.hid hb2
          have hne : (((B' : Int) + 1) == (K : Int)) = false := by simp; omega
          clear hb1 hb2 hcs
          go_wp2_with fail
          refine (wordy_any r1 _).mono ?_
          rintro e w' ⟨rfl, rfl⟩
          rw [HB1.out]
          go_wp2_with fail
          refine (wordy_any r2 _).mono ?_
          rintro e w' ⟨rfl, rfl⟩
          rw [HB2.out]
          clear y1 y2 hne
          go_wp2_with fail
          go_loop [11] (fun v => ∃ j : Nat, B' + 1 + 1 ≤ j ∧ v = .int .i64 j) (fun v => K - (intOf v).toNat)
          case atStart => exact ⟨B' + 1 + 1, Nat.le_refl _, by go_num⟩
          case round =>
            obtain ⟨j, hj, rfl⟩ := hrel
            by_cases hjK : j < K
            · obtain ⟨i, rfl⟩ : ∃ i, j = i + 1 := ⟨j - 1, by omega⟩
              obtain ⟨ad', he, hcs⟩ := HL3.out.l.cells (by omega)
              cases he
              have y1 := hcs i (by omega)
              have y2 := hcs (i + 1) (by omega)
              have hst := HWL3.out (i + 1) (by omega) (by omega)
              rw [Nat.add_sub_cancel] at hst
              generalize l.getD i 0 = r1 at y1 hst
              generalize l.getD (i + 1) 0 = r2 at y2 hst
              clear hcs
              cases hb1 : wordB r1 with
              | true =>
                have HB1 := Lib.hid hb1
                clear hb1 hst
                go_wp2_with fail
                refine (wordy_any r1 _).mono ?_
                rintro e w' ⟨rfl, rfl⟩
                rw [HB1.out]
                go_wp2_with fail
                go_round
                case rel => first | exact ⟨i + 1 + 1, by omega, by go_num⟩ | (trace_state; trivial)
                case measure => simp [intOf]; omega
              | false =>
                have hb2 := hst hb1
                have HB1 := Lib.hid hb1
                have HB2 := Lib.hid hb2
                clear hb1 hb2 hst
                go_wp2_with fail
                refine (wordy_any r1 _).mono ?_
                rintro e w' ⟨rfl, rfl⟩
                rw [HB1.out]
                rw [Addr.add, if_neg (by omega)] at y2
                go_wp2_with fail
                refine (wordy_any r2 _).mono ?_
                rintro e w' ⟨rfl, rfl⟩
                rw [HB2.out]
                go_wp2_with fail
                go_round
                case rel => first | exact ⟨i + 1 + 1, by omega, by go_num⟩ | (trace_state; trivial)
                case measure => simp [intOf]; omega
            · go_wp2_with fail
              go_ret
              exact ⟨rfl, HL3.out.l.live.below⟩
  · have hdc : decide (T < l.length) = false := by simp; omega
    have hdc2 : decide (T < K) = false := by simp; omega
    have hdc3 : decide (l.length < T) = false := by simp; omega
    go_wp2_with fail
    go_loop [8] (fun v => ∃ j : Nat, K + 1 ≤ j ∧ v = .int .i64 j) (fun v => T - (intOf v).toNat)
    case atStart => exact ⟨K + 1, Nat.le_refl _, by go_num⟩
    case round =>
      obtain ⟨j, hj, rfl⟩ := hrel
      by_cases hjT : j < T
      · obtain ⟨i, rfl⟩ : ∃ i, j = i + 1 := ⟨j - 1, by omega⟩
        obtain ⟨ad', he, hcs⟩ := HL2.out.l.cells (by omega)
        cases he
        have y1 := hcs i (by omega)
        have y2 := hcs (i + 1) (by omega)
        have hst := HW3.out (i + 1) (by omega) (by omega)
        rw [Nat.add_sub_cancel] at hst
        generalize l.getD i 0 = r1 at y1 hst
        generalize l.getD (i + 1) 0 = r2 at y2 hst
        clear hcs
        cases hb1 : wordB r1 with
        | false =>
          have HB1 := Lib.hid hb1
          clear hb1 hst
          go_wp2_with fail
          refine (wordy_any r1 _).mono ?_
          rintro e w' ⟨rfl, rfl⟩
          rw [HB1.out]
          go_wp2_with fail
          go_round
          case rel => first | exact ⟨i + 1 + 1, by omega, by go_num⟩ | (trace_state; trivial)
          case measure => simp [intOf]; omega
        | true =>
          have hb2 := hst hb1
          have HB1 := Lib.hid hb1
          have HB2 := Lib.hid hb2
          clear hb1 hb2 hst
          go_wp2_with fail
          refine (wordy_any r1 _).mono ?_
          rintro e w' ⟨rfl, rfl⟩
          rw [HB1.out]
          rw [Addr.add, if_neg (by omega)] at y2
          go_wp2_with fail
          refine (wordy_any r2 _).mono ?_
          rintro e w' ⟨rfl, rfl⟩
          rw [HB2.out]
          go_wp2_with fail
          go_round
          case rel => first | exact ⟨i + 1 + 1, by omega, by go_num⟩ | (trace_state; trivial)
          case measure => simp [intOf]; omega
      · go_wp2_with fail
        refine (Step_7 S l K B _ HT.out (by omega) hKl HL2.out.l.live.bars HL2.out.walks (fun A c w hc hcap => by have := same_below (wordLeft_any A c K l w hc (by omega) hKl); rw [HBD.out] at this; exact this)).mono ?_
        rintro e w3 ⟨rfl, hb3⟩
        have HL3 := Lib.hid (HL2.out.step hb3)
        clear hb3
        rcases Nat.eq_zero_or_pos B with rfl | hB
        · by_cases hK0 : K ≤ 1
          · go_wp2_with fail
            go_loop [11] (fun v => ∃ j : Nat, 1 ≤ j ∧ v = .int .i64 j) (fun v => K - (intOf v).toNat)
            case atStart => exact ⟨1, Nat.le_refl _, rfl⟩
            case round =>
              obtain ⟨j, hj, rfl⟩ := hrel
              go_wp2_with fail
              go_ret
              exact ⟨rfl, HL3.out.l.live.below⟩
          · obtain ⟨ad, he, _⟩ := HL3.out.l.cells (by omega)
            cases he
            go_wp2_with fail
            go_loop [11] (fun v => ∃ j : Nat, 0 + 1 ≤ j ∧ v = .int .i64 j) (fun v => K - (intOf v).toNat)
            case atStart => exact ⟨0 + 1, Nat.le_refl _, rfl⟩
            case round =>
              obtain ⟨j, hj, rfl⟩ := hrel
              by_cases hjK : j < K
              · obtain ⟨i, rfl⟩ : ∃ i, j = i + 1 := ⟨j - 1, by omega⟩
                obtain ⟨ad', he, hcs⟩ := HL3.out.l.cells (by omega)
                cases he
                have y1 := hcs i (by omega)
                have y2 := hcs (i + 1) (by omega)
                have hst := HWL3.out (i + 1) (by omega) (by omega)
                rw [Nat.add_sub_cancel] at hst
                generalize l.getD i 0 = r1 at y1 hst
                generalize l.getD (i + 1) 0 = r2 at y2 hst
                clear hcs
                cases hb1 : wordB r1 with
                | true =>
                  have HB1 := Lib.hid hb1
                  clear hb1 hst
                  go_wp2_with fail
                  refine (wordy_any r1 _).mono ?_
                  rintro e w' ⟨rfl, rfl⟩
                  rw [HB1.out]
                  go_wp2_with fail
                  go_round
                  case rel => first | exact ⟨i + 1 + 1, by omega, by go_num⟩ | (trace_state; trivial)
                  case measure => simp [intOf]; omega
                | false =>
                  have hb2 := hst hb1
                  have HB1 := Lib.hid hb1
                  have HB2 := Lib.hid hb2
                  clear hb1 hb2 hst
                  go_wp2_with fail
                  refine (wordy_any r1 _).mono ?_
                  rintro e w' ⟨rfl, rfl⟩
                  rw [HB1.out]
                  rw [Addr.add, if_neg (by omega)] at y2
                  go_wp2_with fail
                  refine (wordy_any r2 _).mono ?_
                  rintro e w' ⟨rfl, rfl⟩
                  rw [HB2.out]
                  go_wp2_with fail
                  go_round
                  case rel => first | exact ⟨i + 1 + 1, by omega, by go_num⟩ | (trace_state; trivial)
                  case measure => simp [intOf]; omega
              · go_wp2_with fail
                go_ret
                exact ⟨rfl, HL3.out.l.live.below⟩
        · obtain ⟨hBK, hb1, hb2⟩ := HWL2.out hB
          obtain ⟨B', rfl⟩ : ∃ q, B = q + 1 := ⟨B - 1, by omega⟩
          rw [Nat.add_sub_cancel] at hb1
          obtain ⟨ad, he, hcs⟩ := HL3.out.l.cells (by omega)
          cases he
          have y1 := hcs B' (by omega)
          have y2 := hcs (B' + 1) (by omega)
          generalize l.getD B' 0 = r1 at y1 hb1
          generalize l.getD (B' + 1) 0 = r2 at y2 hb2
          rw [Addr.add, if_neg (by omega)] at y2
          have HB1 := Lib.hid hb1
          have HB2 := Lib.hid hb2
          have hne : (((B' : Int) + 1) == (K : Int)) = false := by simp; omega
          clear hb1 hb2 hcs
          go_wp2_with fail
          refine (wordy_any r1 _).mono ?_
          rintro e w' ⟨rfl, rfl⟩
          rw [HB1.out]
          go_wp2_with fail
          refine (wordy_any r2 _).mono ?_
          rintro e w' ⟨rfl, rfl⟩
          rw [HB2.out]
          clear y1 y2 hne
          go_wp2_with fail
          go_loop [11] (fun v => ∃ j : Nat, B' + 1 + 1 ≤ j ∧ v = .int .i64 j) (fun v => K - (intOf v).toNat)
          case atStart => exact ⟨B' + 1 + 1, Nat.le_refl _, by go_num⟩
          case round =>
            obtain ⟨j, hj, rfl⟩ := hrel
            by_cases hjK : j < K
            · obtain ⟨i, rfl⟩ : ∃ i, j = i + 1 := ⟨j - 1, by omega⟩
              obtain ⟨ad', he, hcs⟩ := HL3.out.l.cells (by omega)
              cases he
              have y1 := hcs i (by omega)
              have y2 := hcs (i + 1) (by omega)
              have hst := HWL3.out (i + 1) (by omega) (by omega)
              rw [Nat.add_sub_cancel] at hst
              generalize l.getD i 0 = r1 at y1 hst
              generalize l.getD (i + 1) 0 = r2 at y2 hst
              clear hcs
              cases hb1 : wordB r1 with
              | true =>
                have HB1 := Lib.hid hb1
                clear hb1 hst
                go_wp2_with fail
                refine (wordy_any r1 _).mono ?_
                rintro e w' ⟨rfl, rfl⟩
                rw [HB1.out]
                go_wp2_with fail
                go_round
                case rel => first | exact ⟨i + 1 + 1, by omega, by go_num⟩ | (trace_state; trivial)
                case measure => simp [intOf]; omega
              | false =>
                have hb2 := hst hb1
                have HB1 := Lib.hid hb1
                have HB2 := Lib.hid hb2
                clear hb1 hb2 hst
                go_wp2_with fail
                refine (wordy_any r1 _).mono ?_
                rintro e w' ⟨rfl, rfl⟩
                rw [HB1.out]
                rw [Addr.add, if_neg (by omega)] at y2
                go_wp2_with fail
                refine (wordy_any r2 _).mono ?_
                rintro e w' ⟨rfl, rfl⟩
                rw [HB2.out]
                go_wp2_with fail
                go_round
                case rel => first | exact ⟨i + 1 + 1, by omega, by go_num⟩ | (trace_state; trivial)
                case measure => simp [intOf]; omega
            · go_wp2_with fail
              go_ret
              exact ⟨rfl, HL3.out.l.live.below⟩
end Go.Proofs.YtekibfhlkocdlaaDoor.U
