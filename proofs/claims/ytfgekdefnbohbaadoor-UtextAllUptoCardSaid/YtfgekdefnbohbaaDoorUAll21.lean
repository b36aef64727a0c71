/- Walks: word runes, the caret's walks over words. utext.Where and utext.Find on a text. -/
import Derived.Test.YtfgekdefnbohbaaDoorUAll9
namespace Go.Proofs.YtfgekdefnbohbaaDoor.U
open Go.RowKit Go.Proofs.YtfgekdefnbohbaaDoor.Txt
set_option linter.unusedVariables false
set_option linter.unusedSimpArgs false

set_option maxHeartbeats 4000000 in
theorem wordRune_any (r : Int) (w : World) : Calls Tryd.prog 128 #[.int .i32 r] w fun e w' => e = .returned (.bool (wordB r)) ∧ w = w' := by
  have HC : (r < 48 ∨ (57 < r ∧ r < 65) ∨ (90 < r ∧ r < 95) ∨ r = 96 ∨ (122 < r ∧ r < 192)) ∨ ((48 ≤ r ∧ r ≤ 57) ∨ (65 ≤ r ∧ r ≤ 90) ∨ (97 ≤ r ∧ r ≤ 122) ∨ 192 ≤ r) ∨ r = 95 := by omega
  rcases HC with h | h | rfl
  · have hb : wordB r = false := by unfold wordB; simp; omega
    have b95 : (r == 95) = false := by simp; omega
    have HB := Lib.hid hb
    clear hb
    rcases h with h | h | h | rfl | h
    all_goals
      go_enter Tryd.func128, Tryd.ntmps128
      go_wp2
      go_ret
      first | exact ⟨ret_bool HB.out.symm, rfl⟩ | exact ⟨ret_bool (by rw [HB.out]; simp; omega), rfl⟩
  · have hb : wordB r = true := by unfold wordB; simp; omega
    have b95 : (r == 95) = false := by simp; omega
    have HB := Lib.hid hb
    clear hb
    rcases h with h | h | h | h
    all_goals
      go_enter Tryd.func128, Tryd.ntmps128
      go_wp2
      go_ret
      first | exact ⟨ret_bool HB.out.symm, rfl⟩ | exact ⟨ret_bool (by rw [HB.out]; simp; omega), rfl⟩
  · go_enter Tryd.func128, Tryd.ntmps128
    go_wp2
    go_ret
    exact ⟨ret_bool rfl, rfl⟩

set_option maxRecDepth 100000 in
set_option maxHeartbeats 4000000 in
theorem wordLeft_any (A : Option Addr) (c k : Nat) (rs : List Int) (w : World) (hc : Cells32 w A rs) (hl : rs.length ≤ 35184372087808) (hk : k ≤ rs.length) :
    Calls Tryd.prog 124 #[.slice A rs.length c, .int .i64 k] w fun e w' => e = .returned (.int .i64 (wordL rs k)) ∧ w = w' := by
  go_enter Tryd.func124, Tryd.ntmps124
  go_wp2_with fail
  go_loop [1] (fun v => ∃ j : Nat, j ≤ k ∧ v = .int .i64 j ∧ skipL rs false j = skipL rs false k) (fun v => (intOf v).toNat)
  case atStart => exact ⟨k, Nat.le_refl _, rfl, rfl⟩
  case round =>
    obtain ⟨j, hj, rfl, hh⟩ := hrel
    have HH := Lib.hid hh
    clear hh
    cases j with
    | zero =>
      have he : skipL rs false k = 0 := by rw [← HH.out]; rfl
      have HE := Lib.hid he
      clear he
      go_wp2_with fail
      go_loop [1] (fun v => v = .int .i64 0) (fun v => (intOf v).toNat)
      case atStart => exact rfl
      case round =>
        subst hrel
        go_wp2_with fail
        go_ret
        exact ⟨ret_int (by unfold wordL; rw [HE.out]; rfl), rfl⟩
    | succ i =>
      obtain ⟨ad, rfl, hcs⟩ := hc (by omega)
      have hcell := hcs i (by omega)
      have hd : skipL rs false (i + 1) = if wordB (rs.getD i 0) = false then skipL rs false i else i + 1 := rfl
      have HCS := Lib.hid hcs
      generalize hx : rs.getD i 0 = r at hcell hd
      have HX := Lib.hid hx
      clear hx hcs
      cases hb : wordB r with
      | true =>
        rw [hb, if_neg (by simp)] at hd
        have HD := Lib.hid hd
        have HBB := Lib.hid hb
        clear hd
        go_wp2_with fail
        refine (wordRune_any r _).mono ?_
        rintro e w' ⟨rfl, rfl⟩
        rw [HBB.out]
        clear hb
        go_wp2_with fail
        go_loop [1] (fun v => ∃ j : Nat, j ≤ k ∧ v = .int .i64 j ∧ skipL rs true j = skipL rs true (i + 1)) (fun v => (intOf v).toNat)
        case atStart => exact ⟨i + 1, by omega, by go_num, rfl⟩
        case round =>
          obtain ⟨j2, hj2, rfl, hh2⟩ := hrel
          have HH2 := Lib.hid hh2
          clear hh2 hcell
          have he : wordL rs k = skipL rs true j2 := by unfold wordL; rw [← HH.out, HD.out, HH2.out]
          have HE := Lib.hid he
          clear he
          cases j2 with
          | zero =>
            go_wp2_with fail
            go_ret
            exact ⟨ret_int (by rw [HE.out]; rfl), rfl⟩
          | succ i2 =>
            have hcell2 := HCS.out i2 (by omega)
            have hd2 : skipL rs true (i2 + 1) = if wordB (rs.getD i2 0) = true then skipL rs true i2 else i2 + 1 := rfl
            generalize rs.getD i2 0 = r2 at hcell2 hd2
            cases hb2 : wordB r2 with
            | true =>
              rw [hb2, if_pos rfl] at hd2
              have HD2 := Lib.hid hd2
              have HB2 := Lib.hid hb2
              clear hd2 hb2
              go_wp2_with fail
              refine (wordRune_any r2 _).mono ?_
              rintro e w' ⟨rfl, rfl⟩
              rw [HB2.out]
              go_wp2_with fail
              go_round
              case rel => exact ⟨i2, by omega, rfl, by rw [← HH2.out, HD2.out]⟩
              case measure => simp [intOf]
            | false =>
              rw [hb2, if_neg (by simp)] at hd2
              have HD2 := Lib.hid hd2
              have HB2 := Lib.hid hb2
              clear hd2 hb2
              go_wp2_with fail
              refine (wordRune_any r2 _).mono ?_
              rintro e w' ⟨rfl, rfl⟩
              rw [HB2.out]
              go_wp2_with fail
              go_ret
              exact ⟨ret_int (by rw [HE.out, HD2.out]; simp), rfl⟩
      | false =>
        rw [hb, if_pos rfl] at hd
        have HD := Lib.hid hd
        have HBB := Lib.hid hb
        clear hd hb
        go_wp2_with fail
        refine (wordRune_any r _).mono ?_
        rintro e w' ⟨rfl, rfl⟩
        rw [HBB.out]
        go_wp2_with fail
        go_round
        case rel => exact ⟨i, by omega, rfl, by rw [← HH.out, HD.out]⟩
        case measure => simp [intOf]

set_option maxRecDepth 100000 in
set_option maxHeartbeats 4000000 in
theorem wordRight_any (A : Option Addr) (c k : Nat) (rs : List Int) (w : World) (hc : Cells32 w A rs) (hl : rs.length ≤ 35184372087808) (hk : k ≤ rs.length) :
    Calls Tryd.prog 125 #[.slice A rs.length c, .int .i64 k] w fun e w' => e = .returned (.int .i64 (wordR rs k)) ∧ w = w' := by
  go_enter Tryd.func125, Tryd.ntmps125
  go_wp2_with fail
  go_loop [1] (fun v => ∃ j : Nat, j ≤ rs.length ∧ v = .int .i64 j ∧ skipR rs false j = skipR rs false k) (fun v => rs.length - (intOf v).toNat)
  case atStart => exact ⟨k, hk, rfl, rfl⟩
  case round =>
    obtain ⟨j, hj, rfl, hh⟩ := hrel
    have HH := Lib.hid hh
    clear hh
    by_cases hlt : j < rs.length
    · obtain ⟨ad, rfl, hcs⟩ := hc (by omega)
      have hcell := hcs j hlt
      have hd := skipR_step rs false j hlt
      have HCS := Lib.hid hcs
      generalize hx : rs.getD j 0 = r at hcell hd
      have HX := Lib.hid hx
      clear hx hcs
      cases hb : wordB r with
      | true =>
        rw [hb, if_neg (by simp)] at hd
        have HD := Lib.hid hd
        have HBB := Lib.hid hb
        clear hd hb
        go_wp2_with fail
        refine (wordRune_any r _).mono ?_
        rintro e w' ⟨rfl, rfl⟩
        rw [HBB.out]
        go_wp2_with fail
        go_loop [1] (fun v => ∃ j2 : Nat, j2 ≤ rs.length ∧ v = .int .i64 j2 ∧ skipR rs true j2 = skipR rs true j) (fun v => rs.length - (intOf v).toNat)
        case atStart => exact ⟨j, hj, rfl, rfl⟩
        case round =>
          obtain ⟨j2, hj2, rfl, hh2⟩ := hrel
          have HH2 := Lib.hid hh2
          clear hh2 hcell
          have he : wordR rs k = skipR rs true j2 := by unfold wordR; rw [← HH.out, HD.out, HH2.out]
          have HE := Lib.hid he
          clear he
          by_cases hlt2 : j2 < rs.length
          · have hcell2 := HCS.out j2 hlt2
            have hd2 := skipR_step rs true j2 hlt2
            generalize rs.getD j2 0 = r2 at hcell2 hd2
            cases hb2 : wordB r2 with
            | true =>
              rw [hb2, if_pos rfl] at hd2
              have HD2 := Lib.hid hd2
              have HB2 := Lib.hid hb2
              clear hd2 hb2
              go_wp2_with fail
              refine (wordRune_any r2 _).mono ?_
              rintro e w' ⟨rfl, rfl⟩
              rw [HB2.out]
              go_wp2_with fail
              go_round
              case rel => exact ⟨j2 + 1, by omega, by go_num, by rw [← HH2.out, HD2.out]⟩
              case measure => simp [intOf]; omega
            | false =>
              rw [hb2, if_neg (by simp)] at hd2
              have HD2 := Lib.hid hd2
              have HB2 := Lib.hid hb2
              clear hd2 hb2
              go_wp2_with fail
              refine (wordRune_any r2 _).mono ?_
              rintro e w' ⟨rfl, rfl⟩
              rw [HB2.out]
              go_wp2_with fail
              go_ret
              exact ⟨ret_int (by rw [HE.out, HD2.out]), rfl⟩
          · obtain rfl : j2 = rs.length := by omega
            have he2 := skipR_end rs true
            have HE2 := Lib.hid he2
            clear he2
            go_wp2_with fail
            go_ret
            exact ⟨ret_int (by rw [HE.out, HE2.out]), rfl⟩
      | false =>
        rw [hb, if_pos rfl] at hd
        have HD := Lib.hid hd
        have HBB := Lib.hid hb
        clear hd hb
        go_wp2_with fail
        refine (wordRune_any r _).mono ?_
        rintro e w' ⟨rfl, rfl⟩
        rw [HBB.out]
        go_wp2_with fail
        go_round
        case rel => exact ⟨j + 1, by omega, by go_num, by rw [← HH.out, HD.out]⟩
        case measure => simp [intOf]; omega
    · obtain rfl : j = rs.length := by omega
      have he : wordR rs k = rs.length := by unfold wordR; rw [← HH.out, skipR_end, skipR_end]
      have HE := Lib.hid he
      clear he
      go_wp2_with fail
      go_loop [1] (fun v => v = .int .i64 rs.length) (fun _ => 0)
      case atStart => exact rfl
      case round =>
        subst hrel
        go_wp2_with fail
        go_ret
        exact ⟨ret_int (by rw [HE.out]), rfl⟩
end Go.Proofs.YtfgekdefnbohbaaDoor.U

namespace Go.Proofs.YtfgekdefnbohbaaDoor.U
open Go.RowKit Go.Proofs.YtfgekdefnbohbaaDoor.Txt
set_option linter.unusedVariables false
set_option linter.unusedSimpArgs false

set_option maxRecDepth 100000 in
set_option maxHeartbeats 4000000 in
theorem Where_at (S : ByteArray) (rs : List Int) (a : Nat) (q : Int) (w : World) (h : Text S rs) (hl : rs.length ≤ 35184372087808) (ha : a ≤ rs.length) (hq : (a : Int) - homeP rs a = q) (hg : Bars w) :
    Calls Tryd.prog 65 #[.string S, .int .i64 a] w fun e w' => e = .returned (.tuple #[.int .i64 (nl rs a), .int .i64 q, .int .i64 0]) ∧ Below w.heap.size w w' := by
  have HQ := Lib.hid hq
  clear hq
  have HT := Lib.hid h
  have HG := Lib.hid hg
  clear h hg
  go_enter Tryd.func65, Tryd.ntmps65
  go_wp2_with fail
  refine (place_in S rs a _ HT.out ha HG.out).mono ?_
  rintro e w1 ⟨rfl, hb1⟩
  have HB1 := Lib.hid hb1
  clear hb1
  obtain ⟨c, w2, hcv, hcap, hb2, hcl⟩ := conv_to_runes S rs HT.out hl w1
  have HB2 := Lib.hid (HB1.out.trans (hb2.mono HB1.out.size))
  have HC := Lib.hid hcl
  clear hb2 hcl
  go_wp2_with fail
  refine (where_any _ c a rs _ HC.out hl hcap ha).mono ?_
  rintro e w' ⟨rfl, rfl⟩
  rw [HQ.out]
  go_wp2_with fail
  go_ret3
  exact ⟨rfl, HB2.out⟩


set_option maxRecDepth 100000 in
set_option maxHeartbeats 4000000 in
/-- Find in a line that the text has: p: where it begins; d: how long it is; r: the answer. -/
theorem Find_in (S : ByteArray) (rs : List Int) (ln : Nat) (col p d r : Int) (w : World) (h : Text S rs) (hl : rs.length ≤ 4398046511104) (hln : ln ≤ nl rs rs.length) (hp : (linesP rs).getD ln 0 = p) (hq : (linesP rs).getD (ln + 1) 0 = p + d + 1) (h0 : 0 ≤ p) (h1 : 0 ≤ d) (h2 : p + d ≤ rs.length) (hc0 : 0 ≤ col) (hc1 : col ≤ 9223372036854775807)
    (hr : d < col ∧ r = p + d ∨ col ≤ d ∧ r = p + col) (hg : Bars w) :
    Calls Tryd.prog 67 #[.string S, .int .i64 ln, .int .i64 col] w fun e w' => e = .returned (.tuple #[.int .i64 r, .int .i64 0]) ∧ Below w.heap.size w w' := by
  have hsz := h.size
  have hnl := nl_le rs rs.length
  have HT := Lib.hid h
  have HG := Lib.hid hg
  have HP := Lib.hid hp
  have HQ := Lib.hid hq
  have HRR := Lib.hid hr
  clear h hg hp hq hr
  go_enter Tryd.func67, Tryd.ntmps67
  go_wp2_with fail
  refine (check_at S rs.length 0 0 _ (by unfold maxLen; omega) HG.out HT.out.chk).mono ?_
  rintro e w1 ⟨rfl, hb1⟩
  have HB1 := Lib.hid hb1
  clear hb1
  obtain ⟨c, w2, hcv, hcap, hb2, hcl⟩ := conv_to_runes S rs HT.out (by omega) w1
  have HB2 := Lib.hid (HB1.out.trans (hb2.mono HB1.out.size))
  have HC := Lib.hid hcl
  clear hb2 hcl
  go_wp2_with fail
  refine (lines_any _ c rs _ HC.out hl).mono ?_
  rintro e w3 ⟨v, rfl, hown, hb3⟩
  have HB3 := Lib.hid (HB2.out.trans (hb3.mono HB2.out.size))
  obtain ⟨A, c3, rfl, hcap3, hcs⟩ := own_ints hown
  have hll := lines_len rs
  obtain ⟨ad, rfl, hcs2⟩ := hcs (by omega)
  rw [hll] at hcap3 hcs2 ⊢
  have x1 := hcs2 ln (by omega)
  have x2 := hcs2 (ln + 1) (by omega)
  rw [HP.out] at x1
  rw [HQ.out, Addr.add, if_neg (by omega)] at x2
  clear hb3 hown hcs hcs2 hcv hll
  go_wp2_with fail
  have e1 : IntKind.i64.wrap (↑ln + 1) = ↑ln + 1 := IntWalk.i64_in _ (by omega)
  have e2 : IntKind.i64.wrap (p + d + 1 - 1) = p + d := by rw [IntWalk.i64_in _ (by omega)]; omega
  have e2' : IntKind.i64.wrap (p + d) = p + d := IntWalk.i64_in _ (by omega)
  have e3 : IntKind.i64.wrap (p + d - p) = d := by rw [IntWalk.i64_in _ (by omega)]; omega
  have e3' : IntKind.i64.wrap d = d := IntWalk.i64_in _ (by omega)
  have n1 : (0 : Int) ≤ ↑ln + 1 := by omega
  have n2 : ((ln : Int) + 1).toNat = ln + 1 := by omega
  have b1 : (ln : Int) < ↑(nl rs rs.length) + 2 := by omega
  have b2 : (ln : Int) + 1 < ↑(nl rs rs.length) + 2 := by omega
  have b3 : ln < nl rs rs.length + 2 := by omega
  have b4 : ln + 1 < nl rs rs.length + 2 := by omega
  have b5 : (0 : Int) ≤ ln := by omega
  rcases HRR.out with ⟨hm, hr⟩ | ⟨hm, hr⟩
  · have HRE := Lib.hid hr
    clear hr
    go_quiet (fail)
    go_wp2_with fail
    go_ret2
    exact ⟨ret_ii HRE.out.symm rfl, pw_below HB3.out _⟩
  · have HRE := Lib.hid hr
    have hm' : ¬ d < col := by omega
    have e4 : IntKind.i64.wrap (p + col) = p + col := IntWalk.i64_in _ (by omega)
    clear hr hm
    go_quiet (fail)
    go_wp2_with fail
    go_ret2
    exact ⟨ret_ii HRE.out.symm rfl, pw_below HB3.out _⟩

/-- Find of a line that the text has not. -/
theorem Find_out (S : ByteArray) (rs : List Int) (ln col : Int) (w : World) (h : Text S rs) (hl : rs.length ≤ 4398046511104) (hln : ln < 0 ∨ nl rs rs.length < ln) (h0 : -9223372036854775808 ≤ ln) (h1 : ln ≤ 9223372036854775807) (hg : Bars w) :
    Calls Tryd.prog 67 #[.string S, .int .i64 ln, .int .i64 col] w fun e w' => e = .returned (.tuple #[.int .i64 0, .int .i64 12]) ∧ Below w.heap.size w w' := by
  have hsz := h.size
  have hnl := nl_le rs rs.length
  have HT := Lib.hid h
  have HG := Lib.hid hg
  clear h hg
  rcases hln with hln | hln
  all_goals
    go_enter Tryd.func67, Tryd.ntmps67
    go_wp2_with fail
    refine (check_at S rs.length 0 0 _ (by unfold maxLen; omega) HG.out HT.out.chk).mono ?_
    rintro e w1 ⟨rfl, hb1⟩
    have HB1 := Lib.hid hb1
    clear hb1
    obtain ⟨c, w2, hcv, hcap, hb2, hcl⟩ := conv_to_runes S rs HT.out (by omega) w1
    have HB2 := Lib.hid (HB1.out.trans (hb2.mono HB1.out.size))
    have HC := Lib.hid hcl
    clear hb2 hcl
    go_wp2_with fail
    refine (lines_any _ c rs _ HC.out hl).mono ?_
    rintro e w3 ⟨v, rfl, hown, hb3⟩
    have HB3 := Lib.hid (HB2.out.trans (hb3.mono HB2.out.size))
    obtain ⟨A, c3, rfl, hcap3, hcs⟩ := own_ints hown
    rw [lines_len] at hcap3 ⊢
    clear hb3 hown hcs hcv
    go_wp2_with fail
    go_ret2
    exact ⟨rfl, HB3.out⟩

end Go.Proofs.YtfgekdefnbohbaaDoor.U
