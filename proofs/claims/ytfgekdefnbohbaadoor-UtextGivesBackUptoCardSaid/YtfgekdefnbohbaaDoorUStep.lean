/- Walks: the walks of a caret, by the table of them, and utext.Step on a text. -/
import Derived.Test.YtfgekdefnbohbaaDoorULines0
import Derived.Test.YtfgekdefnbohbaaDoorUWordsP
namespace Go.Proofs.YtfgekdefnbohbaaDoor.U
open Go.RowKit Go.Proofs.YtfgekdefnbohbaaDoor.Txt
set_option linter.unusedVariables false
set_option linter.unusedSimpArgs false

/-- The table of walks: its cells 1 to 10. -/
structure Walks (w : World) : Prop where
  c1 : w.cell? ⟨2, 1, none⟩ = some (.func (.func 118) #[] #[])
  c2 : w.cell? ⟨2, 2, none⟩ = some (.func (.func 119) #[] #[])
  c3 : w.cell? ⟨2, 3, none⟩ = some (.func (.func 120) #[] #[])
  c4 : w.cell? ⟨2, 4, none⟩ = some (.func (.func 121) #[] #[])
  c5 : w.cell? ⟨2, 5, none⟩ = some (.func (.func 122) #[] #[])
  c6 : w.cell? ⟨2, 6, none⟩ = some (.func (.func 123) #[] #[])
  c7 : w.cell? ⟨2, 7, none⟩ = some (.func (.func 124) #[] #[])
  c8 : w.cell? ⟨2, 8, none⟩ = some (.func (.func 125) #[] #[])
  c9 : w.cell? ⟨2, 9, none⟩ = some (.func (.func 126) #[] #[])
  c10 : w.cell? ⟨2, 10, none⟩ = some (.func (.func 127) #[] #[])
theorem Walks.below {w w' : World} (h : Walks w) (hb : Below w.heap.size w w') : Walks w' := ⟨cell_below hb h.c1, cell_below hb h.c2, cell_below hb h.c3, cell_below hb h.c4, cell_below hb h.c5, cell_below hb h.c6, cell_below hb h.c7, cell_below hb h.c8, cell_below hb h.c9, cell_below hb h.c10⟩

theorem left_any (A : Option Addr) (c n a : Nat) (r : Int) (w : World) (ha : a ≤ 35184372087808) (hr : a = 0 ∧ r = 0 ∨ 0 < a ∧ r = (a : Int) - 1) :
    Calls Tryd.prog 118 #[.slice A n c, .int .i64 a] w fun e w' => e = .returned (.int .i64 r) ∧ w = w' := by
  rcases hr with ⟨h, rfl⟩ | ⟨h, rfl⟩
  · subst h
    go_enter Tryd.func118, Tryd.ntmps118
    go_wp2
    all_goals (go_ret; exact ⟨rfl, rfl⟩)
  · go_enter Tryd.func118, Tryd.ntmps118
    go_wp2
    all_goals (go_ret; exact ⟨ret_int (by first | rfl | omega), rfl⟩)
theorem right_any (A : Option Addr) (c n a : Nat) (r : Int) (w : World) (hn : n ≤ 35184372087808) (ha : a ≤ n) (hr : a = n ∧ r = n ∨ a < n ∧ r = (a : Int) + 1) :
    Calls Tryd.prog 119 #[.slice A n c, .int .i64 a] w fun e w' => e = .returned (.int .i64 r) ∧ w = w' := by
  rcases hr with ⟨h, rfl⟩ | ⟨h, rfl⟩
  · subst h
    go_enter Tryd.func119, Tryd.ntmps119
    go_wp2
    all_goals (go_ret; exact ⟨ret_int (by first | rfl | omega), rfl⟩)
  · go_enter Tryd.func119, Tryd.ntmps119
    go_wp2
    all_goals (go_ret; exact ⟨ret_int (by first | rfl | omega), rfl⟩)
theorem top_any (A : Option Addr) (c n a : Nat) (w : World) :
    Calls Tryd.prog 126 #[.slice A n c, .int .i64 a] w fun e w' => e = .returned (.int .i64 0) ∧ w = w' := by
  go_enter Tryd.func126, Tryd.ntmps126
  go_wp2
  go_ret
  exact ⟨rfl, rfl⟩
theorem bottom_any (A : Option Addr) (c n a : Nat) (w : World) :
    Calls Tryd.prog 127 #[.slice A n c, .int .i64 a] w fun e w' => e = .returned (.int .i64 n) ∧ w = w' := by
  go_enter Tryd.func127, Tryd.ntmps127
  go_wp2
  go_ret
  exact ⟨rfl, rfl⟩
set_option maxRecDepth 100000 in
theorem uhome_any (A : Option Addr) (c a : Nat) (rs : List Int) (w : World) (hc : Cells32 w A rs) (hl : rs.length ≤ 35184372087808) (hcap : rs.length ≤ c) (ha : a ≤ rs.length) :
    Calls Tryd.prog 120 #[.slice A rs.length c, .int .i64 a] w fun e w' => e = .returned (.int .i64 (homeP rs a)) ∧ w = w' := by
  have hh := homeP_le rs a
  have hw := where_any A c a rs w hc hl hcap ha
  have HW := Lib.hid hw
  clear hw hc
  generalize homeP rs a = q at *
  go_enter Tryd.func120, Tryd.ntmps120
  go_wp2_with fail
  refine HW.out.mono ?_
  rintro e w' ⟨rfl, rfl⟩
  go_wp2_with fail
  go_ret
  exact ⟨ret_int (by omega), rfl⟩
set_option maxRecDepth 100000 in
theorem lineEnd_any (A : Option Addr) (c k : Nat) (rs : List Int) (w : World) (hc : Cells32 w A rs) (hl : rs.length ≤ 35184372087808) (hk : k ≤ rs.length) :
    Calls Tryd.prog 121 #[.slice A rs.length c, .int .i64 k] w fun e w' => e = .returned (.int .i64 (endP rs k)) ∧ w = w' := by
  go_enter Tryd.func121, Tryd.ntmps121
  go_wp2_with fail
  go_loop [1] (fun v => ∃ j : Nat, j ≤ rs.length ∧ v = .int .i64 j ∧ endP rs j = endP rs k) (fun v => rs.length - (intOf v).toNat)
  case atStart => exact ⟨k, hk, rfl, rfl⟩
  case round =>
    obtain ⟨j, hj, rfl, hh⟩ := hrel
    have HH := Lib.hid hh
    clear hh
    by_cases hlt : j < rs.length
    · obtain ⟨ad, rfl, hcs⟩ := hc (by omega)
      have hcell := hcs j hlt
      have hd := endP_step rs j hlt
      generalize rs.getD j 0 = r at hcell hd
      by_cases hr : r = 10
      · subst hr
        rw [if_pos rfl] at hd
        have HD := Lib.hid hd
        clear hd hcs
        go_wp2_with fail
        go_ret
        exact ⟨ret_int (by rw [← HH.out, HD.out]), rfl⟩
      · rw [if_neg hr] at hd
        have hrb : (r != 10) = true := by simpa using hr
        have HD := Lib.hid hd
        clear hd hcs hr
        go_wp2_with fail
        go_round
        case rel => exact ⟨j + 1, by omega, by go_num, by rw [← HH.out, HD.out]⟩
        case measure => simp [intOf]; omega
    · obtain rfl : j = rs.length := by omega
      have he : endP rs rs.length = rs.length := by unfold endP; rw [Nat.sub_self]; rfl
      have HE := Lib.hid he
      clear he
      go_wp2_with fail
      go_ret
      exact ⟨ret_int (by rw [← HH.out, HE.out]), rfl⟩

/-! ### up, down -/
set_option maxRecDepth 100000 in
set_option maxHeartbeats 4000000 in
theorem up_first (A : Option Addr) (c a : Nat) (rs : List Int) (w : World) (hc : Cells32 w A rs) (hl : rs.length ≤ 4398046511104) (hcap : rs.length ≤ c) (ha : a ≤ rs.length) (h0 : nl rs a = 0) :
    Calls Tryd.prog 122 #[.slice A rs.length c, .int .i64 a] w fun e w' => e = .returned (.int .i64 0) ∧ Below w.heap.size w w' := by
  have hw := where_any A c a rs w hc (by omega) hcap ha
  rw [h0] at hw
  have HW := Lib.hid hw
  clear hw hc h0
  go_enter Tryd.func122, Tryd.ntmps122
  go_wp2_with fail
  refine HW.out.mono ?_
  rintro e w' ⟨rfl, rfl⟩
  go_wp2_with fail
  go_ret
  exact ⟨rfl, Below.refl _ _⟩
set_option maxRecDepth 100000 in
set_option maxHeartbeats 4000000 in
/-- p: where the line above begins; d: how long it is; q: the column; r: the answer. -/
theorem up_more (A : Option Addr) (c a m : Nat) (p d q r : Int) (rs : List Int) (w : World) (hc : Cells32 w A rs) (hl : rs.length ≤ 4398046511104) (hcap : rs.length ≤ c) (ha : a ≤ rs.length) (h0 : nl rs a = m + 1) (hq : (a : Int) - homeP rs a = q)
    (hp : (linesP rs).getD m 0 = p) (hd : (linesP rs).getD (m + 1) 0 = p + d + 1) (hp0 : 0 ≤ p) (hd0 : 0 ≤ d) (hpd : p + d ≤ rs.length) (hq0 : 0 ≤ q) (hq1 : q ≤ rs.length) (hr : d < q ∧ r = p + d ∨ q ≤ d ∧ r = p + q) :
    Calls Tryd.prog 122 #[.slice A rs.length c, .int .i64 a] w fun e w' => e = .returned (.int .i64 r) ∧ Below w.heap.size w w' := by
  have hw := where_any A c a rs w hc (by omega) hcap ha
  have hnm := nl_mono rs a rs.length ha
  have hnl := nl_le rs rs.length
  rw [h0, hq] at hw
  rw [h0] at hnm
  have HW := Lib.hid hw
  have HC := Lib.hid hc
  have HP := Lib.hid hp
  have HQ := Lib.hid hd
  have HRR := Lib.hid hr
  clear hw hc h0 hq hp hd hr
  go_enter Tryd.func122, Tryd.ntmps122
  go_wp2_with fail
  refine HW.out.mono ?_
  rintro e w' ⟨rfl, rfl⟩
  go_wp2_with fail
  refine (lines_any _ c rs _ HC.out hl).mono ?_
  rintro e w3 ⟨v, rfl, hown, hb3⟩
  have HB3 := Lib.hid hb3
  obtain ⟨A3, c3, rfl, hcap3, hcs⟩ := own_ints hown
  have hll := lines_len rs
  obtain ⟨ad, rfl, hcs2⟩ := hcs (by omega)
  rw [hll] at hcap3 hcs2 ⊢
  have x1 := hcs2 m (by omega)
  have x2 := hcs2 (m + 1) (by omega)
  rw [HP.out] at x1
  rw [HQ.out, Addr.add, if_neg (by omega)] at x2
  clear hb3 hown hcs hcs2 hll
  go_wp2_with fail
  have e1 : IntKind.i64.wrap (((m : Int) + 1) - 1) = m := by rw [IntWalk.i64_in _ (by omega)]; omega
  have e1' : IntKind.i64.wrap (m : Int) = m := IntWalk.i64_in _ (by omega)
  have e2 : IntKind.i64.wrap (p + d + 1 - 1) = p + d := by rw [IntWalk.i64_in _ (by omega)]; omega
  have e2' : IntKind.i64.wrap (p + d) = p + d := IntWalk.i64_in _ (by omega)
  have e3 : IntKind.i64.wrap (p + d - p) = d := by rw [IntWalk.i64_in _ (by omega)]; omega
  have e3' : IntKind.i64.wrap d = d := IntWalk.i64_in _ (by omega)
  have n1 : (0 : Int) ≤ (m : Int) + 1 := by omega
  have n2 : ((m : Int) + 1).toNat = m + 1 := by omega
  have b1 : (m : Int) < ↑(nl rs rs.length) + 2 := by omega
  have b2 : (m : Int) + 1 < ↑(nl rs rs.length) + 2 := by omega
  have b3 : m < nl rs rs.length + 2 := by omega
  have b4 : m + 1 < nl rs rs.length + 2 := by omega
  have b5 : (0 : Int) ≤ m := by omega
  rcases HRR.out with ⟨hm, hr⟩ | ⟨hm, hr⟩
  · have HRE := Lib.hid hr
    clear hr
    go_quiet (fail)
    go_wp2_with fail
    go_ret
    exact ⟨ret_int HRE.out.symm, pw_below HB3.out _⟩
  · have HRE := Lib.hid hr
    have hm' : ¬ d < q := by omega
    have e4 : IntKind.i64.wrap (p + q) = p + q := IntWalk.i64_in _ (by omega)
    clear hr hm
    go_quiet (fail)
    go_wp2_with fail
    go_ret
    exact ⟨ret_int HRE.out.symm, pw_below HB3.out _⟩
set_option maxRecDepth 100000 in
set_option maxHeartbeats 4000000 in
theorem down_last (A : Option Addr) (c a : Nat) (rs : List Int) (w : World) (hc : Cells32 w A rs) (hl : rs.length ≤ 4398046511104) (hcap : rs.length ≤ c) (ha : a ≤ rs.length) (h0 : nl rs a = nl rs rs.length) :
    Calls Tryd.prog 123 #[.slice A rs.length c, .int .i64 a] w fun e w' => e = .returned (.int .i64 rs.length) ∧ Below w.heap.size w w' := by
  have hw := where_any A c a rs w hc (by omega) hcap ha
  have hnl := nl_le rs rs.length
  rw [h0] at hw
  have HW := Lib.hid hw
  have HC := Lib.hid hc
  clear hw hc h0
  go_enter Tryd.func123, Tryd.ntmps123
  go_wp2_with fail
  refine HW.out.mono ?_
  rintro e w' ⟨rfl, rfl⟩
  go_wp2_with fail
  refine (lines_any _ c rs _ HC.out hl).mono ?_
  rintro e w3 ⟨v, rfl, hown, hb3⟩
  have HB3 := Lib.hid hb3
  obtain ⟨A3, c3, rfl, hcap3, hcs⟩ := own_ints hown
  rw [lines_len] at hcap3 ⊢
  clear hb3 hown hcs
  go_wp2_with fail
  go_ret
  exact ⟨rfl, HB3.out⟩
set_option maxRecDepth 100000 in
set_option maxHeartbeats 4000000 in
/-- p: where the line below begins; d: how long it is; q: the column; r: the answer. -/
theorem down_more (A : Option Addr) (c a m : Nat) (p d q r : Int) (rs : List Int) (w : World) (hc : Cells32 w A rs) (hl : rs.length ≤ 4398046511104) (hcap : rs.length ≤ c) (ha : a ≤ rs.length) (h0 : nl rs a = m) (h1 : m < nl rs rs.length) (hq : (a : Int) - homeP rs a = q)
    (hp : (linesP rs).getD (m + 1) 0 = p) (hd : (linesP rs).getD (m + 1 + 1) 0 = p + d + 1) (hp0 : 0 ≤ p) (hd0 : 0 ≤ d) (hpd : p + d ≤ rs.length) (hq0 : 0 ≤ q) (hq1 : q ≤ rs.length) (hr : d < q ∧ r = p + d ∨ q ≤ d ∧ r = p + q) :
    Calls Tryd.prog 123 #[.slice A rs.length c, .int .i64 a] w fun e w' => e = .returned (.int .i64 r) ∧ Below w.heap.size w w' := by
  have hw := where_any A c a rs w hc (by omega) hcap ha
  have hnl := nl_le rs rs.length
  rw [h0, hq] at hw
  have HW := Lib.hid hw
  have HC := Lib.hid hc
  have HP := Lib.hid hp
  have HQ := Lib.hid hd
  have HRR := Lib.hid hr
  clear hw hc h0 hq hp hd hr
  go_enter Tryd.func123, Tryd.ntmps123
  go_wp2_with fail
  refine HW.out.mono ?_
  rintro e w' ⟨rfl, rfl⟩
  go_wp2_with fail
  refine (lines_any _ c rs _ HC.out hl).mono ?_
  rintro e w3 ⟨v, rfl, hown, hb3⟩
  have HB3 := Lib.hid hb3
  obtain ⟨A3, c3, rfl, hcap3, hcs⟩ := own_ints hown
  have hll := lines_len rs
  obtain ⟨ad, rfl, hcs2⟩ := hcs (by omega)
  rw [hll] at hcap3 hcs2 ⊢
  have x1 := hcs2 (m + 1) (by omega)
  have x2 := hcs2 (m + 1 + 1) (by omega)
  rw [HP.out, Addr.add, if_neg (by omega)] at x1
  rw [HQ.out, Addr.add, if_neg (by omega)] at x2
  clear hb3 hown hcs hcs2 hll
  go_wp2_with fail
  have e1 : IntKind.i64.wrap ((m : Int) + 1) = (m : Int) + 1 := IntWalk.i64_in _ (by omega)
  have e1' : IntKind.i64.wrap ((m : Int) + 2) = (m : Int) + 2 := IntWalk.i64_in _ (by omega)
  have e2 : IntKind.i64.wrap (p + d + 1 - 1) = p + d := by rw [IntWalk.i64_in _ (by omega)]; omega
  have e2' : IntKind.i64.wrap (p + d) = p + d := IntWalk.i64_in _ (by omega)
  have e3 : IntKind.i64.wrap (p + d - p) = d := by rw [IntWalk.i64_in _ (by omega)]; omega
  have e3' : IntKind.i64.wrap d = d := IntWalk.i64_in _ (by omega)
  have n1 : (0 : Int) ≤ (m : Int) + 1 := by omega
  have n1' : (0 : Int) ≤ (m : Int) + 2 := by omega
  have n2 : ((m : Int) + 1).toNat = m + 1 := by omega
  have n2' : ((m : Int) + 2).toNat = m + 2 := by omega
  have b1 : (m : Int) + 2 < ↑(nl rs rs.length) + 2 := by omega
  have b2 : (m : Int) + 1 < ↑(nl rs rs.length) + 2 := by omega
  have b3 : m + 2 < nl rs rs.length + 2 := by omega
  have b4 : m + 1 < nl rs rs.length + 2 := by omega
  rcases HRR.out with ⟨hm, hr⟩ | ⟨hm, hr⟩
  · have HRE := Lib.hid hr
    clear hr
    go_quiet (fail)
    go_wp2_with fail
    go_ret
    exact ⟨ret_int HRE.out.symm, pw_below HB3.out _⟩
  · have HRE := Lib.hid hr
    have hm' : ¬ d < q := by omega
    have e4 : IntKind.i64.wrap (p + q) = p + q := IntWalk.i64_in _ (by omega)
    clear hr hm
    go_quiet (fail)
    go_wp2_with fail
    go_ret
    exact ⟨ret_int HRE.out.symm, pw_below HB3.out _⟩

set_option maxRecDepth 100000 in
set_option maxHeartbeats 2000000 in
theorem Step_1 (S : ByteArray) (rs : List Int) (a : Nat) (r : Int) (w : World) (h : Text S rs) (hl : rs.length ≤ 35184372087808) (ha : a ≤ rs.length) (hg : Bars w) (hw : Walks w)
    (hf : ∀ (A : Option Addr) (c : Nat) (w : World), Cells32 w A rs → rs.length ≤ c → Calls Tryd.prog 118 #[.slice A rs.length c, .int .i64 a] w fun e w' => e = .returned (.int .i64 r) ∧ Below w.heap.size w w') :
    Calls Tryd.prog 69 #[.string S, .int .i64 a, .int .i64 1] w fun e w' => e = .returned (.tuple #[.int .i64 r, .int .i64 0]) ∧ Below w.heap.size w w' := by
  have HT := Lib.hid h
  have HG := Lib.hid hg
  have HW := Lib.hid hw
  have HF := Lib.hid hf
  clear h hg hw hf
  go_enter Tryd.func69, Tryd.ntmps69
  go_wp2_with fail
  refine (place_in S rs a _ HT.out ha HG.out).mono ?_
  rintro e w1 ⟨rfl, hb1⟩
  have HB1 := Lib.hid hb1
  have hcell := (HW.out.below hb1).c1
  clear hb1
  obtain ⟨c, w2, hcv, hcap, hb2, hcl⟩ := conv_to_runes S rs HT.out hl w1
  have HB2 := Lib.hid (HB1.out.trans (hb2.mono HB1.out.size))
  have HC := Lib.hid hcl
  clear hb2 hcl
  go_wp2_with fail
  refine (HF.out _ c _ HC.out hcap).mono ?_
  rintro e w3 ⟨rfl, hb3⟩
  have HB3 := Lib.hid (HB2.out.trans (hb3.mono HB2.out.size))
  clear hb3 hcv hcell
  go_wp2_with fail
  go_ret2
  exact ⟨rfl, HB3.out⟩

set_option maxRecDepth 100000 in
set_option maxHeartbeats 2000000 in
theorem Step_2 (S : ByteArray) (rs : List Int) (a : Nat) (r : Int) (w : World) (h : Text S rs) (hl : rs.length ≤ 35184372087808) (ha : a ≤ rs.length) (hg : Bars w) (hw : Walks w)
    (hf : ∀ (A : Option Addr) (c : Nat) (w : World), Cells32 w A rs → rs.length ≤ c → Calls Tryd.prog 119 #[.slice A rs.length c, .int .i64 a] w fun e w' => e = .returned (.int .i64 r) ∧ Below w.heap.size w w') :
    Calls Tryd.prog 69 #[.string S, .int .i64 a, .int .i64 2] w fun e w' => e = .returned (.tuple #[.int .i64 r, .int .i64 0]) ∧ Below w.heap.size w w' := by
  have HT := Lib.hid h
  have HG := Lib.hid hg
  have HW := Lib.hid hw
  have HF := Lib.hid hf
  clear h hg hw hf
  go_enter Tryd.func69, Tryd.ntmps69
  go_wp2_with fail
  refine (place_in S rs a _ HT.out ha HG.out).mono ?_
  rintro e w1 ⟨rfl, hb1⟩
  have HB1 := Lib.hid hb1
  have hcell := (HW.out.below hb1).c2
  clear hb1
  obtain ⟨c, w2, hcv, hcap, hb2, hcl⟩ := conv_to_runes S rs HT.out hl w1
  have HB2 := Lib.hid (HB1.out.trans (hb2.mono HB1.out.size))
  have HC := Lib.hid hcl
  clear hb2 hcl
  go_wp2_with fail
  refine (HF.out _ c _ HC.out hcap).mono ?_
  rintro e w3 ⟨rfl, hb3⟩
  have HB3 := Lib.hid (HB2.out.trans (hb3.mono HB2.out.size))
  clear hb3 hcv hcell
  go_wp2_with fail
  go_ret2
  exact ⟨rfl, HB3.out⟩

set_option maxRecDepth 100000 in
set_option maxHeartbeats 2000000 in
theorem Step_3 (S : ByteArray) (rs : List Int) (a : Nat) (r : Int) (w : World) (h : Text S rs) (hl : rs.length ≤ 35184372087808) (ha : a ≤ rs.length) (hg : Bars w) (hw : Walks w)
    (hf : ∀ (A : Option Addr) (c : Nat) (w : World), Cells32 w A rs → rs.length ≤ c → Calls Tryd.prog 120 #[.slice A rs.length c, .int .i64 a] w fun e w' => e = .returned (.int .i64 r) ∧ Below w.heap.size w w') :
    Calls Tryd.prog 69 #[.string S, .int .i64 a, .int .i64 3] w fun e w' => e = .returned (.tuple #[.int .i64 r, .int .i64 0]) ∧ Below w.heap.size w w' := by
  have HT := Lib.hid h
  have HG := Lib.hid hg
  have HW := Lib.hid hw
  have HF := Lib.hid hf
  clear h hg hw hf
  go_enter Tryd.func69, Tryd.ntmps69
  go_wp2_with fail
  refine (place_in S rs a _ HT.out ha HG.out).mono ?_
  rintro e w1 ⟨rfl, hb1⟩
  have HB1 := Lib.hid hb1
  have hcell := (HW.out.below hb1).c3
  clear hb1
  obtain ⟨c, w2, hcv, hcap, hb2, hcl⟩ := conv_to_runes S rs HT.out hl w1
  have HB2 := Lib.hid (HB1.out.trans (hb2.mono HB1.out.size))
  have HC := Lib.hid hcl
  clear hb2 hcl
  go_wp2_with fail
  refine (HF.out _ c _ HC.out hcap).mono ?_
  rintro e w3 ⟨rfl, hb3⟩
  have HB3 := Lib.hid (HB2.out.trans (hb3.mono HB2.out.size))
  clear hb3 hcv hcell
  go_wp2_with fail
  go_ret2
  exact ⟨rfl, HB3.out⟩

set_option maxRecDepth 100000 in
set_option maxHeartbeats 2000000 in
theorem Step_4 (S : ByteArray) (rs : List Int) (a : Nat) (r : Int) (w : World) (h : Text S rs) (hl : rs.length ≤ 35184372087808) (ha : a ≤ rs.length) (hg : Bars w) (hw : Walks w)
    (hf : ∀ (A : Option Addr) (c : Nat) (w : World), Cells32 w A rs → rs.length ≤ c → Calls Tryd.prog 121 #[.slice A rs.length c, .int .i64 a] w fun e w' => e = .returned (.int .i64 r) ∧ Below w.heap.size w w') :
    Calls Tryd.prog 69 #[.string S, .int .i64 a, .int .i64 4] w fun e w' => e = .returned (.tuple #[.int .i64 r, .int .i64 0]) ∧ Below w.heap.size w w' := by
  have HT := Lib.hid h
  have HG := Lib.hid hg
  have HW := Lib.hid hw
  have HF := Lib.hid hf
  clear h hg hw hf
  go_enter Tryd.func69, Tryd.ntmps69
  go_wp2_with fail
  refine (place_in S rs a _ HT.out ha HG.out).mono ?_
  rintro e w1 ⟨rfl, hb1⟩
  have HB1 := Lib.hid hb1
  have hcell := (HW.out.below hb1).c4
  clear hb1
  obtain ⟨c, w2, hcv, hcap, hb2, hcl⟩ := conv_to_runes S rs HT.out hl w1
  have HB2 := Lib.hid (HB1.out.trans (hb2.mono HB1.out.size))
  have HC := Lib.hid hcl
  clear hb2 hcl
  go_wp2_with fail
  refine (HF.out _ c _ HC.out hcap).mono ?_
  rintro e w3 ⟨rfl, hb3⟩
  have HB3 := Lib.hid (HB2.out.trans (hb3.mono HB2.out.size))
  clear hb3 hcv hcell
  go_wp2_with fail
  go_ret2
  exact ⟨rfl, HB3.out⟩

set_option maxRecDepth 100000 in
set_option maxHeartbeats 2000000 in
theorem Step_5 (S : ByteArray) (rs : List Int) (a : Nat) (r : Int) (w : World) (h : Text S rs) (hl : rs.length ≤ 35184372087808) (ha : a ≤ rs.length) (hg : Bars w) (hw : Walks w)
    (hf : ∀ (A : Option Addr) (c : Nat) (w : World), Cells32 w A rs → rs.length ≤ c → Calls Tryd.prog 122 #[.slice A rs.length c, .int .i64 a] w fun e w' => e = .returned (.int .i64 r) ∧ Below w.heap.size w w') :
    Calls Tryd.prog 69 #[.string S, .int .i64 a, .int .i64 5] w fun e w' => e = .returned (.tuple #[.int .i64 r, .int .i64 0]) ∧ Below w.heap.size w w' := by
  have HT := Lib.hid h
  have HG := Lib.hid hg
  have HW := Lib.hid hw
  have HF := Lib.hid hf
  clear h hg hw hf
  go_enter Tryd.func69, Tryd.ntmps69
  go_wp2_with fail
  refine (place_in S rs a _ HT.out ha HG.out).mono ?_
  rintro e w1 ⟨rfl, hb1⟩
  have HB1 := Lib.hid hb1
  have hcell := (HW.out.below hb1).c5
  clear hb1
  obtain ⟨c, w2, hcv, hcap, hb2, hcl⟩ := conv_to_runes S rs HT.out hl w1
  have HB2 := Lib.hid (HB1.out.trans (hb2.mono HB1.out.size))
  have HC := Lib.hid hcl
  clear hb2 hcl
  go_wp2_with fail
  refine (HF.out _ c _ HC.out hcap).mono ?_
  rintro e w3 ⟨rfl, hb3⟩
  have HB3 := Lib.hid (HB2.out.trans (hb3.mono HB2.out.size))
  clear hb3 hcv hcell
  go_wp2_with fail
  go_ret2
  exact ⟨rfl, HB3.out⟩

set_option maxRecDepth 100000 in
set_option maxHeartbeats 2000000 in
theorem Step_6 (S : ByteArray) (rs : List Int) (a : Nat) (r : Int) (w : World) (h : Text S rs) (hl : rs.length ≤ 35184372087808) (ha : a ≤ rs.length) (hg : Bars w) (hw : Walks w)
    (hf : ∀ (A : Option Addr) (c : Nat) (w : World), Cells32 w A rs → rs.length ≤ c → Calls Tryd.prog 123 #[.slice A rs.length c, .int .i64 a] w fun e w' => e = .returned (.int .i64 r) ∧ Below w.heap.size w w') :
    Calls Tryd.prog 69 #[.string S, .int .i64 a, .int .i64 6] w fun e w' => e = .returned (.tuple #[.int .i64 r, .int .i64 0]) ∧ Below w.heap.size w w' := by
  have HT := Lib.hid h
  have HG := Lib.hid hg
  have HW := Lib.hid hw
  have HF := Lib.hid hf
  clear h hg hw hf
  go_enter Tryd.func69, Tryd.ntmps69
  go_wp2_with fail
  refine (place_in S rs a _ HT.out ha HG.out).mono ?_
  rintro e w1 ⟨rfl, hb1⟩
  have HB1 := Lib.hid hb1
  have hcell := (HW.out.below hb1).c6
  clear hb1
  obtain ⟨c, w2, hcv, hcap, hb2, hcl⟩ := conv_to_runes S rs HT.out hl w1
  have HB2 := Lib.hid (HB1.out.trans (hb2.mono HB1.out.size))
  have HC := Lib.hid hcl
  clear hb2 hcl
  go_wp2_with fail
  refine (HF.out _ c _ HC.out hcap).mono ?_
  rintro e w3 ⟨rfl, hb3⟩
  have HB3 := Lib.hid (HB2.out.trans (hb3.mono HB2.out.size))
  clear hb3 hcv hcell
  go_wp2_with fail
  go_ret2
  exact ⟨rfl, HB3.out⟩

set_option maxRecDepth 100000 in
set_option maxHeartbeats 2000000 in
theorem Step_7 (S : ByteArray) (rs : List Int) (a : Nat) (r : Int) (w : World) (h : Text S rs) (hl : rs.length ≤ 35184372087808) (ha : a ≤ rs.length) (hg : Bars w) (hw : Walks w)
    (hf : ∀ (A : Option Addr) (c : Nat) (w : World), Cells32 w A rs → rs.length ≤ c → Calls Tryd.prog 124 #[.slice A rs.length c, .int .i64 a] w fun e w' => e = .returned (.int .i64 r) ∧ Below w.heap.size w w') :
    Calls Tryd.prog 69 #[.string S, .int .i64 a, .int .i64 7] w fun e w' => e = .returned (.tuple #[.int .i64 r, .int .i64 0]) ∧ Below w.heap.size w w' := by
  have HT := Lib.hid h
  have HG := Lib.hid hg
  have HW := Lib.hid hw
  have HF := Lib.hid hf
  clear h hg hw hf
  go_enter Tryd.func69, Tryd.ntmps69
  go_wp2_with fail
  refine (place_in S rs a _ HT.out ha HG.out).mono ?_
  rintro e w1 ⟨rfl, hb1⟩
  have HB1 := Lib.hid hb1
  have hcell := (HW.out.below hb1).c7
  clear hb1
  obtain ⟨c, w2, hcv, hcap, hb2, hcl⟩ := conv_to_runes S rs HT.out hl w1
  have HB2 := Lib.hid (HB1.out.trans (hb2.mono HB1.out.size))
  have HC := Lib.hid hcl
  clear hb2 hcl
  go_wp2_with fail
  refine (HF.out _ c _ HC.out hcap).mono ?_
  rintro e w3 ⟨rfl, hb3⟩
  have HB3 := Lib.hid (HB2.out.trans (hb3.mono HB2.out.size))
  clear hb3 hcv hcell
  go_wp2_with fail
  go_ret2
  exact ⟨rfl, HB3.out⟩

set_option maxRecDepth 100000 in
set_option maxHeartbeats 2000000 in
theorem Step_8 (S : ByteArray) (rs : List Int) (a : Nat) (r : Int) (w : World) (h : Text S rs) (hl : rs.length ≤ 35184372087808) (ha : a ≤ rs.length) (hg : Bars w) (hw : Walks w)
    (hf : ∀ (A : Option Addr) (c : Nat) (w : World), Cells32 w A rs → rs.length ≤ c → Calls Tryd.prog 125 #[.slice A rs.length c, .int .i64 a] w fun e w' => e = .returned (.int .i64 r) ∧ Below w.heap.size w w') :
    Calls Tryd.prog 69 #[.string S, .int .i64 a, .int .i64 8] w fun e w' => e = .returned (.tuple #[.int .i64 r, .int .i64 0]) ∧ Below w.heap.size w w' := by
  have HT := Lib.hid h
  have HG := Lib.hid hg
  have HW := Lib.hid hw
  have HF := Lib.hid hf
  clear h hg hw hf
  go_enter Tryd.func69, Tryd.ntmps69
  go_wp2_with fail
  refine (place_in S rs a _ HT.out ha HG.out).mono ?_
  rintro e w1 ⟨rfl, hb1⟩
  have HB1 := Lib.hid hb1
  have hcell := (HW.out.below hb1).c8
  clear hb1
  obtain ⟨c, w2, hcv, hcap, hb2, hcl⟩ := conv_to_runes S rs HT.out hl w1
  have HB2 := Lib.hid (HB1.out.trans (hb2.mono HB1.out.size))
  have HC := Lib.hid hcl
  clear hb2 hcl
  go_wp2_with fail
  refine (HF.out _ c _ HC.out hcap).mono ?_
  rintro e w3 ⟨rfl, hb3⟩
  have HB3 := Lib.hid (HB2.out.trans (hb3.mono HB2.out.size))
  clear hb3 hcv hcell
  go_wp2_with fail
  go_ret2
  exact ⟨rfl, HB3.out⟩

set_option maxRecDepth 100000 in
set_option maxHeartbeats 2000000 in
theorem Step_9 (S : ByteArray) (rs : List Int) (a : Nat) (r : Int) (w : World) (h : Text S rs) (hl : rs.length ≤ 35184372087808) (ha : a ≤ rs.length) (hg : Bars w) (hw : Walks w)
    (hf : ∀ (A : Option Addr) (c : Nat) (w : World), Cells32 w A rs → rs.length ≤ c → Calls Tryd.prog 126 #[.slice A rs.length c, .int .i64 a] w fun e w' => e = .returned (.int .i64 r) ∧ Below w.heap.size w w') :
    Calls Tryd.prog 69 #[.string S, .int .i64 a, .int .i64 9] w fun e w' => e = .returned (.tuple #[.int .i64 r, .int .i64 0]) ∧ Below w.heap.size w w' := by
  have HT := Lib.hid h
  have HG := Lib.hid hg
  have HW := Lib.hid hw
  have HF := Lib.hid hf
  clear h hg hw hf
  go_enter Tryd.func69, Tryd.ntmps69
  go_wp2_with fail
  refine (place_in S rs a _ HT.out ha HG.out).mono ?_
  rintro e w1 ⟨rfl, hb1⟩
  have HB1 := Lib.hid hb1
  have hcell := (HW.out.below hb1).c9
  clear hb1
  obtain ⟨c, w2, hcv, hcap, hb2, hcl⟩ := conv_to_runes S rs HT.out hl w1
  have HB2 := Lib.hid (HB1.out.trans (hb2.mono HB1.out.size))
  have HC := Lib.hid hcl
  clear hb2 hcl
  go_wp2_with fail
  refine (HF.out _ c _ HC.out hcap).mono ?_
  rintro e w3 ⟨rfl, hb3⟩
  have HB3 := Lib.hid (HB2.out.trans (hb3.mono HB2.out.size))
  clear hb3 hcv hcell
  go_wp2_with fail
  go_ret2
  exact ⟨rfl, HB3.out⟩

set_option maxRecDepth 100000 in
set_option maxHeartbeats 2000000 in
theorem Step_10 (S : ByteArray) (rs : List Int) (a : Nat) (r : Int) (w : World) (h : Text S rs) (hl : rs.length ≤ 35184372087808) (ha : a ≤ rs.length) (hg : Bars w) (hw : Walks w)
    (hf : ∀ (A : Option Addr) (c : Nat) (w : World), Cells32 w A rs → rs.length ≤ c → Calls Tryd.prog 127 #[.slice A rs.length c, .int .i64 a] w fun e w' => e = .returned (.int .i64 r) ∧ Below w.heap.size w w') :
    Calls Tryd.prog 69 #[.string S, .int .i64 a, .int .i64 10] w fun e w' => e = .returned (.tuple #[.int .i64 r, .int .i64 0]) ∧ Below w.heap.size w w' := by
  have HT := Lib.hid h
  have HG := Lib.hid hg
  have HW := Lib.hid hw
  have HF := Lib.hid hf
  clear h hg hw hf
  go_enter Tryd.func69, Tryd.ntmps69
  go_wp2_with fail
  refine (place_in S rs a _ HT.out ha HG.out).mono ?_
  rintro e w1 ⟨rfl, hb1⟩
  have HB1 := Lib.hid hb1
  have hcell := (HW.out.below hb1).c10
  clear hb1
  obtain ⟨c, w2, hcv, hcap, hb2, hcl⟩ := conv_to_runes S rs HT.out hl w1
  have HB2 := Lib.hid (HB1.out.trans (hb2.mono HB1.out.size))
  have HC := Lib.hid hcl
  clear hb2 hcl
  go_wp2_with fail
  refine (HF.out _ c _ HC.out hcap).mono ?_
  rintro e w3 ⟨rfl, hb3⟩
  have HB3 := Lib.hid (HB2.out.trans (hb3.mono HB2.out.size))
  clear hb3 hcv hcell
  go_wp2_with fail
  go_ret2
  exact ⟨rfl, HB3.out⟩
end Go.Proofs.YtfgekdefnbohbaaDoor.U
