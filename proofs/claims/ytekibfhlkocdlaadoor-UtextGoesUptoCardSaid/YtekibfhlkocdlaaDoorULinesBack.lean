/- The walk of UtextLinesBack: for every input of at most 1048576 runes it answers true. -/
import Derived.Test.YtekibfhlkocdlaaDoorUPlacesMeet
import Derived.Test.YtekibfhlkocdlaaDoorULines
namespace Go.Proofs.YtekibfhlkocdlaaDoor.U
open Go.RowKit Go.Proofs.YtekibfhlkocdlaaDoor.Txt
set_option linter.unusedVariables false
set_option linter.unusedSimpArgs false

set_option maxRecDepth 100000 in
theorem home_any (A : Option Addr) (c k : Nat) (rs : List Int) (w : World) (hc : Cells32 w A rs) (hl : rs.length ≤ 35184372087808) (hk : k ≤ rs.length) :
    Calls Tryd.prog 22 #[.slice A rs.length c, .int .i64 k] w fun e w' => e = .returned (.int .i64 (homeP rs k)) ∧ w = w' := by
  go_enter Tryd.func22, Tryd.ntmps22
  go_wp2_with fail
  go_loop [1] (fun v => ∃ j : Nat, j ≤ k ∧ v = .int .i64 j ∧ homeP rs j = homeP rs k) (fun v => (intOf v).toNat)
  case atStart => exact ⟨k, Nat.le_refl _, rfl, rfl⟩
  case round =>
    obtain ⟨j, hj, rfl, hh⟩ := hrel
    have HH := Lib.hid hh
    clear hh
    cases j with
    | zero =>
      go_wp2_with fail
      go_ret
      exact ⟨ret_int (by rw [← HH.out]; rfl), rfl⟩
    | succ i =>
      obtain ⟨ad, rfl, hcs⟩ := hc (by omega)
      have hcell := hcs i (by omega)
      have hd : homeP rs (i + 1) = if rs.getD i 0 = 10 then i + 1 else homeP rs i := rfl
      generalize rs.getD i 0 = r at hcell hd
      by_cases hr : r = 10
      · subst hr
        rw [if_pos rfl] at hd
        have HD := Lib.hid hd
        clear hd hcs
        go_wp2_with fail
        go_ret
        exact ⟨ret_int (by rw [← HH.out, HD.out]; simp), rfl⟩
      · rw [if_neg hr] at hd
        have hrb : (r != 10) = true := by simpa using hr
        have HD := Lib.hid hd
        clear hd hcs hr
        go_wp2_with fail
        go_round
        case rel => exact ⟨i, by omega, rfl, by rw [← HH.out, HD.out]⟩
        case measure => simp [intOf]

set_option maxRecDepth 100000 in
theorem end_any (A : Option Addr) (c k : Nat) (rs : List Int) (w : World) (hc : Cells32 w A rs) (hl : rs.length ≤ 35184372087808) (hk : k ≤ rs.length) :
    Calls Tryd.prog 23 #[.slice A rs.length c, .int .i64 k] w fun e w' => e = .returned (.int .i64 (endP rs k)) ∧ w = w' := by
  go_enter Tryd.func23, Tryd.ntmps23
  go_wp2_with fail
  go_loop [1] (fun v => ∃ j : Nat, j ≤ rs.length ∧ v = .int .i64 j ∧ endP rs j = endP rs k) (fun v => rs.length - (intOf v).toNat)
  case atStart => exact ⟨k, hk, rfl, rfl⟩
  case round =>
    obtain ⟨j, hj, rfl, hh⟩ := hrel
    have HH := Lib.hid hh
    clear hh
    by_cases hlt : j < rs.length
    · obtain ⟨ad, rfl, hcs⟩ := hc (by omega)
      have hcell := hcs j hlt
      have hd : endP rs j = if rs.getD j 0 = 10 then j else endP rs (j + 1) := by
        unfold endP
        obtain ⟨d, hd⟩ : ∃ d, rs.length - j = d + 1 := ⟨rs.length - j - 1, by omega⟩
        rw [hd, show rs.length - (j + 1) = d by omega]
        conv => lhs; unfold endF
        by_cases e : rs.getD j 0 = 10
        · rw [if_pos e, if_neg (fun h => h.2 e)]
        · rw [if_neg e, if_pos ⟨hlt, e⟩]
      generalize rs.getD j 0 = r at hcell hd
      by_cases hr : r = 10
      · subst hr
        rw [if_pos rfl] at hd
        have HD := Lib.hid hd
        clear hd hcs
        go_wp2_with fail
        go_ret
        exact ⟨ret_int (by rw [← HH.out, HD.out]), rfl⟩
      · rw [if_neg hr] at hd
        have hrb : (r != 10) = true := by simpa using hr
        have HD := Lib.hid hd
        clear hd hcs hr
        go_wp2_with fail
        go_round
        case rel => exact ⟨j + 1, by omega, by go_num, by rw [← HH.out, HD.out]⟩
        case measure => simp [intOf]; omega
    · obtain rfl : j = rs.length := by omega
      have he : endP rs rs.length = rs.length := by unfold endP; rw [Nat.sub_self]; rfl
      have HE := Lib.hid he
      clear he
      go_wp2_with fail
      go_ret
      exact ⟨ret_int (by rw [← HH.out, HE.out]), rfl⟩

set_option maxRecDepth 100000 in
set_option maxHeartbeats 8000000 in
theorem linesBack_walk (W : World) (v : Value) (A1 : Option Addr) (n1 c1 : Nat) (xs1 : List Int) (A2 : Option Addr) (n2 c2 : Nat) (xs2 : List Int) (k : Int) (raw : ByteArray) (b : Int) (hv : TwoIn W v A1 n1 c1 xs1 A2 n2 c2 xs2 k raw b) (hsm : n1 ≤ 1048576) (hg : Bars W) :
    Calls Tryd.prog 7 #[v] W fun e w' => e = .returned (.bool true) ∧ Below W.heap.size W w' := by
  obtain ⟨rfl, r1, _, hk0, hk1, hraw, _, _⟩ := hv
  have hl1 := r1.1
  have HG := Lib.hid hg
  have HR := Lib.hid r1
  clear hg r1
  have L0 := Live.new HG.out #[.slice A1 n1 c1, .slice A2 n2 c2, .int .i64 k, .string raw, .int .u8 b] 24
  have HL0 := Lib.hid L0
  clear L0
  go_enter Tryd.func7, Tryd.ntmps7
  go_wp2_with fail
  refine (let_any A1 n1 c1 xs1 _ (HR.out.below ((Below.refl _ _).alloc (Nat.le_refl _) _))).mono ?_
  rintro e w1 ⟨v1, rfl, hown, hb1⟩
  have hlm : xs1.length = (xs1.map letR).length := (List.length_map _).symm
  rw [hlm] at hown
  have ht := Text.str xs1 (by omega)
  generalize xs1.map letR = l at hown hlm ht
  have hln : l.length ≤ 1048576 := by omega
  obtain ⟨A, c, rfl, hcc, hcl⟩ := own_runes hown
  have hcv := conv_runes (c := c) hcl
  have HL1 : Hid (LiveL _ _ _ _ _ _) := Lib.hid ⟨HL0.out.step hb1, hcl⟩
  have hsz := ht.size
  generalize Str l = S at hcv ht hsz
  have HT := Lib.hid ht
  have x1 := HL1.out.live.cell 2 rfl
  have hk2 := Int.emod_nonneg k (show ((l.length : Int) + 1) ≠ 0 by omega)
  have hk3 := Int.emod_lt_of_pos k (show 0 < ((l.length : Int) + 1) by omega)
  clear hown hb1 hcl ht HR HL0 hlm
  go_wp2_with fail
  refine (pick_any k (l.length + 1) _ (by omega) (by omega) hk0 hk1).mono ?_
  rintro e w' ⟨rfl, rfl⟩
  obtain ⟨K, hK⟩ : ∃ K : Nat, k % ((l.length : Int) + 1) = K := ⟨_, (Int.toNat_of_nonneg hk2).symm⟩
  rw [hK]
  have hKl : K ≤ l.length := by omega
  clear hK hk2 hk3
  obtain ⟨hp, hq, hm⟩ := end_of l K hKl
  obtain ⟨hh1, hh2⟩ := home_le_end l K hKl
  obtain ⟨_, he2, _⟩ := endP_spec l K hKl
  have hwh := Where_at S l K ((K : Int) - homeP l K) w1 HT.out (by omega) hKl rfl HL1.out.live.bars
  have hho := fun w h => home_any A c K l w h (by omega) hKl
  have hen := fun w h => end_any A c K l w h (by omega) hKl
  have HP := Lib.hid hp
  have HQ := Lib.hid hq
  have HWH := Lib.hid hwh
  have HHO := Lib.hid hho
  have HEN := Lib.hid hen
  clear hp hq hwh hho hen
  have hnl := nl_le l K
  have hnl2 := nl_le l l.length
  generalize homeP l K = H at *
  generalize endP l K = E at *
  generalize hN : nl l K = N at *
  clear hN
  go_wp2_with fail
  refine HWH.out.mono ?_
  rintro e w2 ⟨rfl, hb2⟩
  have HL2 := Lib.hid (HL1.out.step hb2)
  clear hcv hb2 x1 HWH HL1
  go_wp2_with fail
  refine (Find_in S l N _ H (E - H) K _ HT.out (by omega) hm HP.out HQ.out (by omega) (by omega) (by omega) (by omega) (by omega) (.inr ⟨by omega, by omega⟩) HL2.out.live.bars).mono ?_
  rintro e w3 ⟨rfl, hb3⟩
  have HL3 := Lib.hid (HL2.out.step hb3)
  clear hb3 HL2
  go_wp2_with fail
  refine (HHO.out _ HL3.out.cells).mono ?_
  rintro e w' ⟨rfl, rfl⟩
  go_wp2_with fail
  refine (Find_in S l N _ H (E - H) E _ HT.out (by omega) hm HP.out HQ.out (by omega) (by omega) (by omega) (by omega) (by omega) (.inl ⟨by omega, by omega⟩) HL3.out.live.bars).mono ?_
  rintro e w4 ⟨rfl, hb4⟩
  have HL4 := Lib.hid (HL3.out.step hb4)
  clear hb4 HL3
  go_wp2_with fail
  refine (HEN.out _ HL4.out.cells).mono ?_
  rintro e w' ⟨rfl, rfl⟩
  go_wp2_with fail
  refine (Where_at S l l.length _ _ HT.out (by omega) (Nat.le_refl _) rfl HL4.out.live.bars).mono ?_
  rintro e w5 ⟨rfl, hb5⟩
  have HL5 := Lib.hid (HL4.out.step hb5)
  clear hb5 HL4
  generalize ((l.length : Int) - homeP l l.length) = q
  go_wp2_with fail
  refine (Find_out S l _ 0 _ HT.out (by omega) (.inr (by omega)) (by omega) (by omega) HL5.out.live.bars).mono ?_
  rintro e w6 ⟨rfl, hb6⟩
  have HL6 := Lib.hid (HL5.out.step hb6)
  clear hb6 HL5
  go_wp2_with fail
  refine (Find_out S l _ 0 _ HT.out (by omega) (.inl (by omega)) (by omega) (by omega) HL6.out.live.bars).mono ?_
  rintro e w7 ⟨rfl, hb7⟩
  have HL7 := Lib.hid (HL6.out.step hb7)
  clear hb7 HL6
  go_wp2_with fail
  go_ret
  exact ⟨rfl, HL7.out.live.below⟩
end Go.Proofs.YtekibfhlkocdlaaDoor.U
