/- PageSpots answers true. -/
import Derived.Test.YthbfkmfinalfdaaDoorPgSeek
namespace Go.Proofs.YthbfkmfinalfdaaDoor.Pg
open Go.RowKit Go.Proofs Go.Joins Go.Proofs.YthbfkmfinalfdaaDoor.U Go.Proofs.YthbfkmfinalfdaaDoor.Txt
set_option linter.unusedVariables false
set_option linter.unusedSimpArgs false
attribute [local go_sem] frozen?_alloc_cells

theorem paper_str {rs : List Int} {W : Int} (hg : ∀ r ∈ rs, TxtRune r) (hl : rs.length ≤ 200) (hW : 1 ≤ W ∧ W ≤ 1024) : Paper (Str rs) rs W := ⟨str_list rs, hg, by omega, hW⟩
theorem stands_of {w : Int} {rs : List Int} {xs : List Row} (hc : Chain w rs 0 xs) {a k : Nat} (ha : a ≤ rs.length) (hk : k < xs.length) (h1 : loOf xs k ≤ a) (h2 : k + 1 < xs.length → a < loOf xs (k + 1)) : Stands xs a k := by
  have hr := row_at hc k hk
  refine ⟨hk, by rw [loOf_eq hk] at h1; exact h1, ?_⟩
  rcases Nat.lt_or_ge (k + 1) xs.length with h3 | h3
  · have := h2 h3
    rw [loOf_eq h3, hr.next h3] at this
    omega
  · have := hr.fin (by omega)
    omega

set_option maxRecDepth 100000 in
set_option maxHeartbeats 8000000 in
theorem spots_any (A0 : Option Addr) (c0 : Nat) (zs : List Int) (wide rr cc : Int) (w : World) (hl : zs.length ≤ 140737488351232) (hZ : Ints w A0 zs) (hB : 4 ≤ w.heap.size) (hT : Tabs w) (hb : Bars w) :
    Calls Tryd.prog 5 #[.slice A0 zs.length c0, .int .i64 wide, .int .i64 rr, .int .i64 cc] w fun e w' => e = .returned (.bool true) ∧ Below w.heap.size w w' := by
  have HT := Lib.hid hT
  have HBR := Lib.hid hb
  have HB4 := Lib.hid hB
  clear hT hb hB
  go_enter Tryd.func5, Tryd.ntmps5
  go_wp2_with fail
  refine (made_any A0 c0 zs _ hl hZ).mono ?_
  rintro e w1 ⟨⟨v, rs, rfl, hown, hg, hlen⟩, hb1⟩
  obtain ⟨A, c, rfl, hc, hR⟩ := own_runes hown
  have HG := Lib.hid hg
  have HL := Lib.hid hlen
  have HC := Lib.hid hc
  have HR := Lib.hid hR
  have HB1 := Lib.hid hb1
  clear hown hg hlen hc hR hb1 hl hZ
  go_wp2_with fail
  refine (rest_any wide 40 _ (by decide)).mono ?_
  rintro e w2 ⟨⟨r, rfl, hr0, hr1⟩, rfl⟩
  obtain ⟨W, hW⟩ : ∃ W, 1 + r = W := ⟨_, rfl⟩
  have e0 : IntKind.i64.wrap (1 + r) = W := by rw [hW]; exact IntWalk.i64_in _ (by omega)
  have HW := Lib.hid (show 1 ≤ W ∧ W ≤ 1024 by omega)
  clear hW hr0 hr1
  go_wp2_with fail
  refine (lawLaid_any A c rs W _ HR.out HG.out HL.out HW.out (Nat.le_trans HB4.out HB1.out.size) (HT.out.below HB1.out) (HBR.out.below HB1.out)).mono ?_
  rintro e w3 ⟨⟨g, cap, rfl, hra⟩, hb3⟩
  have HPP := Lib.hid (paper_str HG.out HL.out HW.out)
  have HLN := Lib.hid HPP.out.rows
  have HCH := Lib.hid HPP.out.chain
  have HRA := Lib.hid hra
  have HB3 := Lib.hid (HB1.out.trans (hb3.mono HB1.out.size))
  have HR3 := Lib.hid (HR.out.below hb3)
  have HT3 := Lib.hid (HT.out.below HB3.out)
  have HBR3 := Lib.hid (HBR.out.below HB3.out)
  have HB43 := Lib.hid (Nat.le_trans HB4.out HB3.out.size)
  clear hra hb3 HR HT HBR HB4 HB1
  obtain ⟨xs, hxs⟩ : ∃ xs, pageRows W rs = xs := ⟨_, rfl⟩
  rw [hxs] at HRA HLN HCH ⊢
  have HXS := Lib.hid hxs
  clear hxs
  have hne := HCH.out.ne
  obtain ⟨h00, hz⟩ := lo_zero HCH.out
  have hz2 : loOf xs 0 = 0 := by rw [loOf_eq h00]; exact hz
  have HZ := Lib.hid hz2
  obtain ⟨m, hm⟩ : ∃ m, xs.length = m := ⟨_, rfl⟩
  rw [hm] at HLN hne ⊢
  have HM := Lib.hid hm
  obtain ⟨n, hn⟩ : ∃ n, rs.length = n := ⟨_, rfl⟩
  rw [hn] at HLN HL HC ⊢
  have HN := Lib.hid hn
  clear hm hn hz hz2 h00
  have hm2 : m ≤ 201 := by have := HLN.out; have := HL.out; omega
  have hn2 : n ≤ 200 := HL.out
  go_wp2_with fail
  go_loopw [13, 14] (fun k a wr => ∃ kk aa : Nat, k = .int .i64 kk ∧ a = .int .i64 aa ∧ aa ≤ n + 1 ∧ kk < m ∧ loOf xs kk ≤ aa ∧ Below w3.heap.size w3 wr) (fun _ a _ => n + 1 - (intOf a).toNat)
  case atStart => exact ⟨0, 0, rfl, rfl, Nat.zero_le _, hne, Nat.le_of_eq HZ.out, Below.refl _ _⟩
  case round =>
    obtain ⟨kk, aa, rfl, rfl, ha, hk, hlo, hb⟩ := hrel
    have HB := Lib.hid hb
    have HLO := Lib.hid hlo
    clear hb hlo
    have ha2 : aa ≤ 201 := by omega
    by_cases han : aa ≤ n
    case pos =>
      obtain ⟨wo, rfl⟩ : ∃ wo : World, wo = wr := ⟨_, rfl⟩
      have HK := Lib.hid hk
      go_upto_block 2 with fail
      go_cut [13] (fun k wx => ∃ kj : Nat, k = .int .i64 kj ∧ Stands xs aa kj ∧ Below w3.heap.size w3 wx)
      case first =>
        go_wp2_with fail
        go_loopw [13] (fun k wx => ∃ kk : Nat, k = .int .i64 kk ∧ kk < m ∧ loOf xs kk ≤ aa ∧ Below w3.heap.size w3 wx) (fun k _ => m - (intOf k).toNat)
        case atStart => exact ⟨kk, rfl, HK.out, HLO.out, HB.out⟩
        case round =>
          obtain ⟨kj, rfl, hkj, hlj, hbj⟩ := hrel
          have HBJ := Lib.hid hbj
          have HLJ := Lib.hid hlj
          have HKJ := Lib.hid hkj
          clear hbj hlj
          by_cases h1 : kj + 1 < m
          · have d0 := ((HRA.out.below HBJ.out) (kj + 1) (by have := HM.out; omega)).1
            rw [← loOf_eq] at d0
            obtain ⟨l1, hl1⟩ : ∃ l1, loOf xs (kj + 1) = l1 := ⟨_, rfl⟩
            rw [hl1] at d0
            have HL1 := Lib.hid hl1
            have H1 := Lib.hid h1
            clear hl1
            by_cases h2 : l1 ≤ aa
            · have H2 := Lib.hid h2
              go_wp2_with fail
              go_roundw
              case rel => exact ⟨kj + 1, by go_num, H1.out, by rw [HL1.out]; exact H2.out, HBJ.out⟩
              case measure => have := H1.out; simp [intOf]; omega
            · have hst := stands_of HCH.out (a := aa) (k := kj) (by have := HN.out; omega) (by have := HM.out; omega) HLJ.out (fun h => by rw [HL1.out]; omega)
              have HST := Lib.hid hst
              clear hst
              go_wp2_with fail
              go_meet
              exact ⟨kj, rfl, HST.out, HBJ.out⟩
          · have hst := stands_of HCH.out (a := aa) (k := kj) (by have := HN.out; omega) (by have := HM.out; omega) HLJ.out (fun h => by have := HM.out; omega)
            have HST := Lib.hid hst
            clear hst
            go_wp2_with fail
            go_meet
            exact ⟨kj, rfl, HST.out, HBJ.out⟩
      case rest =>
        obtain ⟨kj, rfl, hst, hbj⟩ := hcut
        have HST := Lib.hid hst
        have HBJ := Lib.hid hbj
        obtain ⟨hkl, hlo1, hla1⟩ := hst
        have d0 := ((HRA.out.below HBJ.out) kj hkl).1
        have hrat := row_at HCH.out kj hkl
        have hlan := hrat.last_le
        have hloe := loOf_eq hkl
        obtain ⟨x, hx⟩ : ∃ x, xs[kj] = x := ⟨_, rfl⟩
        have HX := Lib.hid (show ∀ h : kj < xs.length, xs[kj] = x from fun h => hx)
        rw [hx] at d0 hlo1 hla1 hlan hloe
        obtain ⟨lo, hlo⟩ : ∃ lo, x.lo = lo := ⟨_, rfl⟩
        obtain ⟨la, hla⟩ : ∃ la, lastOf x = la := ⟨_, rfl⟩
        rw [hlo] at d0 hlo1 hloe
        rw [hla] at hla1 hlan
        rw [HN.out] at hlan
        have HXL := Lib.hid (And.intro hlo (And.intro hla hloe))
        have HAL := Lib.hid (And.intro hlo1 (And.intro hla1 hlan))
        have hconv : ∀ c, (convert 23 9 (.slice A n c)).run Tryd.prog wc = .ok (.string (Str rs)) wc := fun c => by have := conv_runes (c := c) (HR3.out.below HBJ.out); rwa [HN.out] at this
        have hkm : kj < m := by have := HM.out; omega
        have hkb : kj ≤ 201 := by omega
        have hnlo : ¬ aa < lo := by omega
        clear hrat hlan hloe hx hlo hla hbj hla1 hkl hlo1
        go_wp2_with fail
        refine (Spot_any aa kj _ HPP.out (by rw [HXS.out]; exact HST.out) (by have := HN.out; omega) (by have := HB43.out; have := HBJ.out.size; omega) (HT3.out.below HBJ.out) (HBR3.out.below HBJ.out)).mono ?_
        rintro e w5 ⟨rfl, hb5⟩
        rw [HXS.out, HXL.out.2.2]
        obtain ⟨wd, hwd⟩ : ∃ wd, wid rs lo aa = wd := ⟨_, rfl⟩
        rw [hwd]
        have hw0 : 0 ≤ wd := by rw [← hwd]; exact wid_nonneg rs lo aa
        have HWD := Lib.hid hwd
        have HW0 := Lib.hid hw0
        have e0 := cell_below hb5 d0
        have HB5 := Lib.hid (HBJ.out.trans (hb5.mono HBJ.out.size))
        have hlea : lo ≤ aa := HAL.out.1
        have hrun := slice_run A n c lo aa hlea (by have := HC.out; omega)
        have hrv := (HR3.out.below HB5.out).cut lo aa c hlea (by have := HN.out; omega) (by have := HC.out; have := HN.out; omega)
        obtain ⟨V, hV⟩ : ∃ V, (if c = lo then A else A.map (·.add (lo * 1))) = V := ⟨_, rfl⟩
        rw [hV] at hrun hrv
        have HRV := Lib.hid hrv
        have HCL := Lib.hid (cut_len rs lo aa (by have := HN.out; omega))
        obtain ⟨k1, hk1⟩ : ∃ k1, aa - lo = k1 := ⟨_, rfl⟩
        rw [hk1] at hrun HCL
        have HK1 := Lib.hid hk1
        clear hwd hw0 d0 hb5 hlea hV hrv hk1
        go_wp2_with fail
        refine (cols_any' V (c - lo) k1 (cut rs lo aa) _ HCL.out (by have := HK1.out; omega) HRV.out (HT3.out.below HB5.out)).mono ?_
        rintro e w6 ⟨rfl, hb6⟩
        rw [show colsF (cut rs lo aa) 0 = wd from HWD.out]
        have f0 := cell_below hb6 e0
        have HB6 := Lib.hid (HB5.out.trans (hb6.mono HB5.out.size))
        have hconv6 : ∀ c, (convert 23 9 (.slice A n c)).run Tryd.prog w6 = .ok (.string (Str rs)) w6 := fun c => by have := conv_runes (c := c) (HR3.out.below HB6.out); rwa [HN.out] at this
        clear hb6 e0 hconv hrun
        go_wp2_with fail
        refine (Find_any kj wd _ HPP.out (by rw [HXS.out]; exact HST.out.1) HW0.out (by have := HB43.out; have := HB6.out.size; omega) (HT3.out.below HB6.out) (HBR3.out.below HB6.out)).mono ?_
        rintro e w7 ⟨⟨q, rfl, hf⟩, hb7⟩
        have hf2 : Found rs lo la wd q := by
          have hxs := HXS.out
          have hx := HX.out HST.out.1
          have : (pageRows W rs)[kj]'(by rw [hxs]; exact HST.out.1) = x := by rw [← hx]; congr 1
          rw [this, HXL.out.1, HXL.out.2.1] at hf
          exact hf
        have hq1 := hf2.past HAL.out.1 HAL.out.2.1 (Int.le_of_eq HWD.out)
        have hq2 := hf2.le
        have hq3 := HAL.out.2.2
        have hqw : wid rs lo q = wd := by
          have h1 := hf2.fits
          have h2 := wid_mono rs (lo := lo) (k := aa) (hi := q) HAL.out.1 hq1
          rw [HWD.out] at h2
          omega
        have HQW := Lib.hid hqw
        have hnq : ¬ q < aa := by omega
        have hqn : ¬ n < q := by omega
        have g0 := cell_below hb7 f0
        have HB7 := Lib.hid (HB6.out.trans (hb7.mono HB6.out.size))
        have hleq : lo ≤ q := hf2.ge
        have hrun := slice_run A n c lo q hleq (by have := HC.out; omega)
        have hrv := (HR3.out.below HB7.out).cut lo q c hleq (by have := HN.out; omega) (by have := HC.out; have := HN.out; omega)
        obtain ⟨V2, hV⟩ : ∃ V, (if c = lo then A else A.map (·.add (lo * 1))) = V := ⟨_, rfl⟩
        rw [hV] at hrun hrv
        have HRV2 := Lib.hid hrv
        have HCL2 := Lib.hid (cut_len rs lo q (by have := HN.out; omega))
        obtain ⟨k2, hk2⟩ : ∃ k2, q - lo = k2 := ⟨_, rfl⟩
        rw [hk2] at hrun HCL2
        have HK2 := Lib.hid (show k2 ≤ 200 by omega)
        clear hf hf2 hq1 hq2 hq3 hqw f0 hb7 hleq hV hrv hk2 hconv6
        go_wp2_with fail
        refine (cols_any' V2 (c - lo) k2 (cut rs lo q) _ HCL2.out (by have := HK2.out; omega) HRV2.out (HT3.out.below HB7.out)).mono ?_
        rintro e w8 ⟨rfl, hb8⟩
        rw [show colsF (cut rs lo q) 0 = wd from HQW.out]
        have HB8 := Lib.hid (HB7.out.trans (hb8.mono HB7.out.size))
        clear hb8 hrun
        go_wp2_with fail
        go_roundw
        case rel => exact ⟨kj, aa + 1, rfl, by go_num, by omega, hkm, by rw [HXL.out.2.2]; have := HAL.out.1; omega, HB8.out⟩
        case measure => simp [intOf]; omega
    case neg =>
      go_wp2_with fail
      refine (rest_any rr m _ (by omega)).mono ?_
      rintro e w5 ⟨⟨r1, rfl, hr0, hr1⟩, rfl⟩
      obtain ⟨j, rfl⟩ : ∃ j : Nat, r1 = (j : Int) := ⟨r1.toNat, by omega⟩
      have hjm : j < m := by omega
      clear hr0 hr1
      go_wp2_with fail
      refine (rest_any cc 80 _ (by decide)).mono ?_
      rintro e w5 ⟨⟨col, rfl, hc0, hc1⟩, rfl⟩
      have HC0 := Lib.hid hc0
      have hj : j < xs.length := by have := HM.out; omega
      obtain ⟨d0, d1, -, d3⟩ := (HRA.out.below HB.out) j hj
      have hrat := row_at HCH.out j hj
      obtain ⟨x, hx⟩ : ∃ x, xs[j] = x := ⟨_, rfl⟩
      have HX := Lib.hid (show ∀ h : j < xs.length, xs[j] = x from fun h => hx)
      have hlole := hrat.lo_le
      have hlan := hrat.last_le
      have hloe := loOf_eq hj
      have hhard := hrat.hardHi
      have hsoft := hrat.softHi
      rw [hx] at d0 d1 d3 hlole hlan hloe hhard hsoft
      obtain ⟨lo, hlo'⟩ : ∃ lo, x.lo = lo := ⟨_, rfl⟩
      obtain ⟨hi, hhi⟩ : ∃ hi, x.hi = hi := ⟨_, rfl⟩
      obtain ⟨hd, hhd⟩ : ∃ hd, x.hard = hd := ⟨_, rfl⟩
      obtain ⟨la, hla⟩ : ∃ la, lastOf x = la := ⟨_, rfl⟩
      rw [hlo'] at d0 hlole hloe
      rw [hhi] at d1 hhard hsoft
      rw [hhd] at d3 hhard hsoft
      rw [hla] at hlole hlan hhard hsoft
      rw [HN.out] at hlan
      have HXL := Lib.hid (And.intro hlo' (And.intro hla hloe))
      have HHS := Lib.hid (And.intro hhard hsoft)
      have HLL := Lib.hid (And.intro hlole hlan)
      have hconv : ∀ c, (convert 23 9 (.slice A n c)).run Tryd.prog w5 = .ok (.string (Str rs)) w5 := fun c => by have := conv_runes (c := c) (HR3.out.below HB.out); rwa [HN.out] at this
      have HJ := Lib.hid (show j < (pageRows W rs).length by rw [HXS.out]; exact hj)
      clear hrat hx hlole hlan hloe hhard hsoft hlo' hhi hhd hla hj hc1
      go_wp2_with fail
      refine (Find_any j col _ HPP.out HJ.out HC0.out (by have := HB43.out; have := HB.out.size; omega) (HT3.out.below HB.out) (HBR3.out.below HB.out)).mono ?_
      rintro e w7 ⟨⟨q, rfl, hf⟩, hb7⟩
      have hf2 : Found rs lo la col q := by
        have hxs := HXS.out
        have hx := HX.out (by have := HJ.out; rwa [hxs] at this)
        have : (pageRows W rs)[j]'HJ.out = x := by rw [← hx]; congr 1
        rw [this, HXL.out.1, HXL.out.2.1] at hf
        exact hf
      have HF := Lib.hid hf2
      have HB7 := Lib.hid (HB.out.trans (hb7.mono HB.out.size))
      have f0 := cell_below hb7 d0
      have f1 := cell_below hb7 d1
      have f3 := cell_below hb7 d3
      have hconv7 : ∀ c, (convert 23 9 (.slice A n c)).run Tryd.prog w7 = .ok (.string (Str rs)) w7 := fun c => by have := conv_runes (c := c) (HR3.out.below HB7.out); rwa [HN.out] at this
      have HSTQ := Lib.hid (show Stands (pageRows W rs) q j by
        refine ⟨HJ.out, ?_⟩
        have hxs := HXS.out
        have hx := HX.out (by have := HJ.out; rwa [hxs] at this)
        have : (pageRows W rs)[j]'HJ.out = x := by rw [← hx]; congr 1
        rw [this, HXL.out.1, HXL.out.2.1]
        exact ⟨hf2.ge, hf2.le⟩)
      have hqn : q ≤ n := by have := hf2.le; have := HLL.out.2; omega
      clear hf hf2 hb7 d0 d1 d3 hconv
      go_wp2_with fail
      refine (Spot_any q j _ HPP.out HSTQ.out (by have := HN.out; omega) (by have := HB43.out; have := HB7.out.size; omega) (HT3.out.below HB7.out) (HBR3.out.below HB7.out)).mono ?_
      rintro e w8 ⟨rfl, hb8⟩
      rw [HXS.out, HXL.out.2.2]
      obtain ⟨wq, hwq⟩ : ∃ wq, wid rs lo q = wq := ⟨_, rfl⟩
      rw [hwq]
      have hnc : ¬ col < wq := by have := HF.out.fits; omega
      have HWQ := Lib.hid hwq
      have HB8 := Lib.hid (HB7.out.trans (hb8.mono HB7.out.size))
      have g0 := cell_below hb8 f0
      have g1 := cell_below hb8 f1
      have g3 := cell_below hb8 f3
      clear hwq hb8 f0 f1 f3 hconv7
      have hq200 : q ≤ 200 := by omega
      by_cases hqe : q = n
      · have bq : ((q : Int) == (n : Int)) = true := by simp [hqe]
        clear hqe
        go_wp2_with fail
        go_ret
        exact ⟨rfl, HB3.out.trans (HB8.out.mono HB3.out.size)⟩
      · have bq : ((q : Int) == (n : Int)) = false := by simp; omega
        by_cases hql : q = la
        · cases hd
          · have hs := HHS.out.2 rfl
            have b1 : ((q : Int) + 1 == (hi : Int)) = true := by simp; omega
            clear hqe hql hs
            go_wp2_with fail
            go_ret
            exact ⟨rfl, HB3.out.trans (HB8.out.mono HB3.out.size)⟩
          · have hs := HHS.out.1 rfl
            have b1 : ((q : Int) + 1 == (hi : Int)) = false := by simp; omega
            have b2 : ((q : Int) == (hi : Int)) = true := by simp; omega
            clear hqe hql hs
            go_wp2_with fail
            go_ret
            exact ⟨rfl, HB3.out.trans (HB8.out.mono HB3.out.size)⟩
        · have hql2 : q < la := by have := HF.out.le; omega
          have hfull : col < wid rs lo (q + 1) := by
            rcases HF.out.full with h | h
            · exact absurd h hql
            · exact h
          have hleq : lo ≤ q + 1 := by have := HF.out.ge; omega
          have hrun := slice_run A n c lo (q + 1) hleq (by have := HC.out; omega)
          rw [show ((q + 1 : Nat) : Int) = (q : Int) + 1 by omega] at hrun
          have hrv := (HR3.out.below HB8.out).cut lo (q + 1) c hleq (by have := HN.out; omega) (by have := HC.out; have := HN.out; omega)
          obtain ⟨V2, hV⟩ : ∃ V, (if c = lo then A else A.map (·.add (lo * 1))) = V := ⟨_, rfl⟩
          rw [hV] at hrun hrv
          have HRV2 := Lib.hid hrv
          have HCL2 := Lib.hid (cut_len rs lo (q + 1) (by have := HN.out; omega))
          obtain ⟨k2, hk2⟩ : ∃ k2, q + 1 - lo = k2 := ⟨_, rfl⟩
          rw [hk2] at hrun HCL2
          have HK2 := Lib.hid (show k2 ≤ 201 by omega)
          obtain ⟨wf, hwf⟩ : ∃ wf, wid rs lo (q + 1) = wf := ⟨_, rfl⟩
          rw [hwf] at hfull
          have HWF := Lib.hid hwf
          cases hd
          case' false =>
            have hs := HHS.out.2 rfl
            have b1 : ((q : Int) + 1 == (hi : Int)) = false := by simp; omega
            have b2 : ((q : Int) == (hi : Int)) = false := by simp; omega
            clear hqe hql hs hql2 hleq hV hrv hk2 hwf
          case' true =>
            have hs := HHS.out.1 rfl
            by_cases hx : hi = q + 1
            · subst hx
              rw [show ((q + 1 : Nat) : Int) = (q : Int) + 1 by omega] at g1
              have b2 : ((q : Int) == (q : Int) + 1) = false := by simp; omega
              clear hqe hql hs hql2 hleq hV hrv hk2 hwf
              go_wp2_with fail
              refine (cols_any' V2 (c - lo) k2 (cut rs lo (q + 1)) _ HCL2.out (by have := HK2.out; omega) HRV2.out (HT3.out.below HB8.out)).mono ?_
              rintro e w9 ⟨rfl, hb9⟩
              rw [show colsF (cut rs lo (q + 1)) 0 = wf from HWF.out]
              have HB9 := Lib.hid (HB8.out.trans (hb9.mono HB8.out.size))
              clear hb9
              go_wp2_with fail
              go_ret
              exact ⟨rfl, HB3.out.trans (HB9.out.mono HB3.out.size)⟩
            have b1 : ((q : Int) + 1 == (hi : Int)) = false := by simp; omega
            have b2 : ((q : Int) == (hi : Int)) = false := by simp; omega
            clear hqe hql hs hql2 hleq hV hrv hk2 hwf hx
          all_goals
            go_wp2_with fail
            refine (cols_any' V2 (c - lo) k2 (cut rs lo (q + 1)) _ HCL2.out (by have := HK2.out; omega) HRV2.out (HT3.out.below HB8.out)).mono ?_
            rintro e w9 ⟨rfl, hb9⟩
            rw [show colsF (cut rs lo (q + 1)) 0 = wf from HWF.out]
            have HB9 := Lib.hid (HB8.out.trans (hb9.mono HB8.out.size))
            clear hb9
            go_wp2_with fail
            go_ret
            exact ⟨rfl, HB3.out.trans (HB9.out.mono HB3.out.size)⟩
end Go.Proofs.YthbfkmfinalfdaaDoor.Pg
