/- utext.Where and utext.Find on a text. -/
import Derived.Test.YtfgekdefnbohbaaDoorULines0
namespace Go.Proofs.YtfgekdefnbohbaaDoor.U
open Go.RowKit Go.Proofs.YtfgekdefnbohbaaDoor.Txt
set_option linter.unusedVariables false
set_option linter.unusedSimpArgs false

set_option maxRecDepth 100000 in
set_option maxHeartbeats 4000000 in
theorem Where_at (S : ByteArray) (rs : List Int) (a : Nat) (q : Int) (w : World) (h : Text S rs) (hl : rs.length ≤ 35184372087808) (ha : a ≤ rs.length) (hq : (a : Int) - homeP rs a = q) (hg : Bars w) :
    Calls Tryd.prog 65 #[.string S, .int .i64 a] w fun e w' => e = .returned (.tuple #[.int .i64 (nl rs a), .int .i64 q, .int .i64 0]) ∧ Below w.heap.size w w' := by
  have HQ := Lib.hid hq
  clear hq
  have HT := Lib.hid h
  have HG := Lib.hid hg
  clear h hg
  go_enter Tryd.func65, Tryd.ntmps65
  go_wp2_with fail
  refine (place_in S rs a _ HT.out ha HG.out).mono ?_
  rintro e w1 ⟨rfl, hb1⟩
  have HB1 := Lib.hid hb1
  clear hb1
  obtain ⟨c, w2, hcv, hcap, hb2, hcl⟩ := conv_to_runes S rs HT.out hl w1
  have HB2 := Lib.hid (HB1.out.trans (hb2.mono HB1.out.size))
  have HC := Lib.hid hcl
  clear hb2 hcl
  go_wp2_with fail
  refine (where_any _ c a rs _ HC.out hl hcap ha).mono ?_
  rintro e w' ⟨rfl, rfl⟩
  rw [HQ.out]
  go_wp2_with fail
  go_ret3
  exact ⟨rfl, HB2.out⟩


set_option maxRecDepth 100000 in
set_option maxHeartbeats 4000000 in
/-- Find in a line that the text has: p: where it begins; d: how long it is; r: the answer. -/
theorem Find_in (S : ByteArray) (rs : List Int) (ln : Nat) (col p d r : Int) (w : World) (h : Text S rs) (hl : rs.length ≤ 4398046511104) (hln : ln ≤ nl rs rs.length) (hp : (linesP rs).getD ln 0 = p) (hq : (linesP rs).getD (ln + 1) 0 = p + d + 1) (h0 : 0 ≤ p) (h1 : 0 ≤ d) (h2 : p + d ≤ rs.length) (hc0 : 0 ≤ col) (hc1 : col ≤ 9223372036854775807)
    (hr : d < col ∧ r = p + d ∨ col ≤ d ∧ r = p + col) (hg : Bars w) :
    Calls Tryd.prog 67 #[.string S, .int .i64 ln, .int .i64 col] w fun e w' => e = .returned (.tuple #[.int .i64 r, .int .i64 0]) ∧ Below w.heap.size w w' := by
  have hsz := h.size
  have hnl := nl_le rs rs.length
  have HT := Lib.hid h
  have HG := Lib.hid hg
  have HP := Lib.hid hp
  have HQ := Lib.hid hq
  have HRR := Lib.hid hr
  clear h hg hp hq hr
  go_enter Tryd.func67, Tryd.ntmps67
  go_wp2_with fail
  refine (check_at S rs.length 0 0 _ (by unfold maxLen; omega) HG.out HT.out.chk).mono ?_
  rintro e w1 ⟨rfl, hb1⟩
  have HB1 := Lib.hid hb1
  clear hb1
  obtain ⟨c, w2, hcv, hcap, hb2, hcl⟩ := conv_to_runes S rs HT.out (by omega) w1
  have HB2 := Lib.hid (HB1.out.trans (hb2.mono HB1.out.size))
  have HC := Lib.hid hcl
  clear hb2 hcl
  go_wp2_with fail
  refine (lines_any _ c rs _ HC.out hl).mono ?_
  rintro e w3 ⟨v, rfl, hown, hb3⟩
  have HB3 := Lib.hid (HB2.out.trans (hb3.mono HB2.out.size))
  obtain ⟨A, c3, rfl, hcap3, hcs⟩ := own_ints hown
  have hll := lines_len rs
  obtain ⟨ad, rfl, hcs2⟩ := hcs (by omega)
  rw [hll] at hcap3 hcs2 ⊢
  have x1 := hcs2 ln (by omega)
  have x2 := hcs2 (ln + 1) (by omega)
  rw [HP.out] at x1
  rw [HQ.out, Addr.add, if_neg (by omega)] at x2
  clear hb3 hown hcs hcs2 hcv hll
  go_wp2_with fail
  have e1 : IntKind.i64.wrap (↑ln + 1) = ↑ln + 1 := IntWalk.i64_in _ (by omega)
  have e2 : IntKind.i64.wrap (p + d + 1 - 1) = p + d := by rw [IntWalk.i64_in _ (by omega)]; omega
  have e2' : IntKind.i64.wrap (p + d) = p + d := IntWalk.i64_in _ (by omega)
  have e3 : IntKind.i64.wrap (p + d - p) = d := by rw [IntWalk.i64_in _ (by omega)]; omega
  have e3' : IntKind.i64.wrap d = d := IntWalk.i64_in _ (by omega)
  have n1 : (0 : Int) ≤ ↑ln + 1 := by omega
  have n2 : ((ln : Int) + 1).toNat = ln + 1 := by omega
  have b1 : (ln : Int) < ↑(nl rs rs.length) + 2 := by omega
  have b2 : (ln : Int) + 1 < ↑(nl rs rs.length) + 2 := by omega
  have b3 : ln < nl rs rs.length + 2 := by omega
  have b4 : ln + 1 < nl rs rs.length + 2 := by omega
  have b5 : (0 : Int) ≤ ln := by omega
  rcases HRR.out with ⟨hm, hr⟩ | ⟨hm, hr⟩
  · have HRE := Lib.hid hr
    clear hr
    go_quiet (fail)
    go_wp2_with fail
    go_ret2
    exact ⟨ret_ii HRE.out.symm rfl, pw_below HB3.out _⟩
  · have HRE := Lib.hid hr
    have hm' : ¬ d < col := by omega
    have e4 : IntKind.i64.wrap (p + col) = p + col := IntWalk.i64_in _ (by omega)
    clear hr hm
    go_quiet (fail)
    go_wp2_with fail
    go_ret2
    exact ⟨ret_ii HRE.out.symm rfl, pw_below HB3.out _⟩

/-- Find of a line that the text has not. -/
theorem Find_out (S : ByteArray) (rs : List Int) (ln col : Int) (w : World) (h : Text S rs) (hl : rs.length ≤ 4398046511104) (hln : ln < 0 ∨ nl rs rs.length < ln) (h0 : -9223372036854775808 ≤ ln) (h1 : ln ≤ 9223372036854775807) (hg : Bars w) :
    Calls Tryd.prog 67 #[.string S, .int .i64 ln, .int .i64 col] w fun e w' => e = .returned (.tuple #[.int .i64 0, .int .i64 12]) ∧ Below w.heap.size w w' := by
  have hsz := h.size
  have hnl := nl_le rs rs.length
  have HT := Lib.hid h
  have HG := Lib.hid hg
  clear h hg
  rcases hln with hln | hln
  all_goals
    go_enter Tryd.func67, Tryd.ntmps67
    go_wp2_with fail
    refine (check_at S rs.length 0 0 _ (by unfold maxLen; omega) HG.out HT.out.chk).mono ?_
    rintro e w1 ⟨rfl, hb1⟩
    have HB1 := Lib.hid hb1
    clear hb1
    obtain ⟨c, w2, hcv, hcap, hb2, hcl⟩ := conv_to_runes S rs HT.out (by omega) w1
    have HB2 := Lib.hid (HB1.out.trans (hb2.mono HB1.out.size))
    have HC := Lib.hid hcl
    clear hb2 hcl
    go_wp2_with fail
    refine (lines_any _ c rs _ HC.out hl).mono ?_
    rintro e w3 ⟨v, rfl, hown, hb3⟩
    have HB3 := Lib.hid (HB2.out.trans (hb3.mono HB2.out.size))
    obtain ⟨A, c3, rfl, hcap3, hcs⟩ := own_ints hown
    rw [lines_len] at hcap3 ⊢
    clear hb3 hown hcs hcv
    go_wp2_with fail
    go_ret2
    exact ⟨rfl, HB3.out⟩

end Go.Proofs.YtfgekdefnbohbaaDoor.U
