/- PageKeeps answers true. -/
import Derived.Test.YthbfkmfinalfdaaDoorPgQ
import Derived.Deep.RegionHeld3
namespace Go.Proofs.YthbfkmfinalfdaaDoor.Pg
open Go.RowKit Go.Proofs Go.Joins Go.Proofs.YthbfkmfinalfdaaDoor.U Go.Proofs.YthbfkmfinalfdaaDoor.Txt
set_option linter.unusedVariables false
set_option linter.unusedSimpArgs false
attribute [local go_sem] frozen?_alloc_cells

set_option maxRecDepth 100000 in
set_option maxHeartbeats 8000000 in
theorem keeps_any (A0 : Option Addr) (c0 : Nat) (zs : List Int) (wide : Int) (w : World) (hl : zs.length ≤ 140737488351232) (hZ : Ints w A0 zs) (hB : 4 ≤ w.heap.size) (hT : Tabs w) (hb : Bars w) :
    Calls Tryd.prog 3 #[.slice A0 zs.length c0, .int .i64 wide] w fun e w' => e = .returned (.bool true) ∧ Below w.heap.size w w' := by
  have HT := Lib.hid hT
  have HBR := Lib.hid hb
  have HB4 := Lib.hid hB
  clear hT hb hB
  go_enter Tryd.func3, Tryd.ntmps3
  go_wp2_with fail
  refine (made_any A0 c0 zs _ hl hZ).mono ?_
  rintro e w1 ⟨⟨v, rs, rfl, hown, hg, hlen⟩, hb1⟩
  obtain ⟨A, c, rfl, hc, hR⟩ := own_runes hown
  have HG := Lib.hid hg
  have HL := Lib.hid hlen
  have HC := Lib.hid hc
  have HR := Lib.hid hR
  have HB1 := Lib.hid hb1
  clear hown hg hlen hc hR hb1 hl hZ
  go_wp2_with fail
  refine (rest_any wide 40 _ (by decide)).mono ?_
  rintro e w2 ⟨⟨r, rfl, hr0, hr1⟩, rfl⟩
  obtain ⟨W, hW⟩ : ∃ W, 1 + r = W := ⟨_, rfl⟩
  have e0 : IntKind.i64.wrap (1 + r) = W := by rw [hW]; exact IntWalk.i64_in _ (by omega)
  have HW := Lib.hid (show 1 ≤ W ∧ W ≤ 1024 by omega)
  clear hW hr0 hr1
  go_wp2_with fail
  refine (lawLaid_any A c rs W _ HR.out HG.out HL.out HW.out (Nat.le_trans HB4.out HB1.out.size) (HT.out.below HB1.out) (HBR.out.below HB1.out)).mono ?_
  rintro e w3 ⟨⟨g, cap, rfl, hra⟩, hb3⟩
  have HCH := Lib.hid (page_chain W rs HW.out.1)
  have HLN := Lib.hid (rowsFrom_len W rs rs.length 0 0 (by omega) (Nat.le_refl _))
  have HRA := Lib.hid hra
  have HB3 := Lib.hid (HB1.out.trans (hb3.mono HB1.out.size))
  have HR3 := Lib.hid (HR.out.below hb3)
  clear hra hb3 HR
  rw [show rowsFrom W rs rs.length 0 0 = pageRows W rs from rfl] at HLN
  obtain ⟨xs, hxs⟩ : ∃ xs, pageRows W rs = xs := ⟨_, rfl⟩
  rw [hxs] at HRA HCH HLN ⊢
  clear hxs
  obtain ⟨m, hm⟩ : ∃ m, xs.length = m := ⟨_, rfl⟩
  rw [hm] at HLN ⊢
  have HM := Lib.hid hm
  obtain ⟨n, hn⟩ : ∃ n, rs.length = n := ⟨_, rfl⟩
  rw [hn] at HLN HL HC ⊢
  have HN := Lib.hid hn
  clear hm hn
  go_wp2_with fail
  go_loopw [9, 10] (fun a i wr => ∃ (at_ j : Nat), a = .int .i64 at_ ∧ i = .int .i64 j ∧ Chain W rs at_ (xs.drop j) ∧ Below w3.heap.size w3 wr) (fun _ i _ => m - (intOf i).toNat)
  case atStart => exact ⟨0, 0, rfl, rfl, HCH.out, Below.refl _ _⟩
  case round =>
    obtain ⟨at_, j, rfl, rfl, hch, hb⟩ := hrel
    obtain ⟨hj, hlo, hok, hkind⟩ := chain_get hch
    have HB := Lib.hid hb
    have HK := Lib.hid hkind
    have HOK := Lib.hid hok
    obtain ⟨d0, d1, d2, d3⟩ := (HRA.out.below hb) j hj
    have hjm : j < m := by have := HM.out; omega
    have hm2 : m ≤ 201 := by have := HLN.out; have := HL.out; omega
    have hlen2 := hok.len
    rw [HN.out] at hlen2
    have hle := hok.le
    have hcols := hok.cols
    have hfit := hok.fits
    obtain ⟨x, hx⟩ : ∃ x, xs[j] = x := ⟨_, rfl⟩
    rw [hx] at hlo d0 d1 d2 d3 HK HOK hlen2 hle hcols hfit
    rw [hcols] at d2 hfit
    rw [hlo] at d0 hle hfit d2
    obtain ⟨hi, hhi⟩ : ∃ hi, x.hi = hi := ⟨_, rfl⟩
    rw [hhi] at d1 d2 hlen2 hle hfit
    obtain ⟨hd, hhd⟩ : ∃ hd, x.hard = hd := ⟨_, rfl⟩
    rw [hhd] at d3
    have HX := Lib.hid (And.intro hlo (And.intro hhi hhd))
    have HF := Lib.hid hfit
    have hn2 : n ≤ 200 := HL.out
    obtain ⟨cw, hcw⟩ : ∃ cw, wid rs at_ hi = cw := ⟨_, rfl⟩
    rw [hcw] at d2
    have HCW := Lib.hid hcw
    clear hch hb hok hkind hx hlo hcols hfit hhi hhd hj hcw
    go_upto_region 11 with fail
    go_cut [65] (fun t wx => t = .bool false ∧ Below (wr.heap.size + 1) (wr.alloc (.cells #[.int .i64 at_, .int .i64 hi, .int .i64 cw, .bool hd] 30)) wx)
    case first =>
      have hrun := slice_run A n c at_ hi hle (by have := HC.out; omega)
      have hrv := HR3.out.cut at_ hi c hle (by have := HN.out; omega) (by have := HC.out; have := HN.out; omega)
      obtain ⟨V, hV⟩ : ∃ V, (if c = at_ then A else A.map (·.add (at_ * 1))) = V := ⟨_, rfl⟩
      rw [hV] at hrun hrv
      have HRV := Lib.hid hrv
      have HCL := Lib.hid (cut_len rs at_ hi (by have := HN.out; omega))
      obtain ⟨k, hk⟩ : ∃ k, hi - at_ = k := ⟨_, rfl⟩
      rw [hk] at hrun HCL
      have HKK := Lib.hid hk
      have hbw : Below w3.heap.size w3 (wr.alloc (.cells #[.int .i64 at_, .int .i64 hi, .int .i64 cw, .bool hd] 30)) := HB.out.alloc HB.out.size _
      have HBW := Lib.hid hbw
      have HTW := Lib.hid (HT.out.below (HB3.out.trans (hbw.mono HB3.out.size)))
      have HRW := Lib.hid (HRV.out.below hbw)
      obtain ⟨wz, hwz⟩ : ∃ wz, wr.alloc (.cells #[.int .i64 at_, .int .i64 hi, .int .i64 cw, .bool hd] 30) = wz := ⟨_, rfl⟩
      have k0 : wz.cell? ⟨wr.heap.size, 0, none⟩ = some (.int .i64 at_) := by rw [← hwz]; simp
      have k1 : wz.cell? ⟨wr.heap.size, 1, none⟩ = some (.int .i64 hi) := by rw [← hwz]; simp
      have k2 : wz.cell? ⟨wr.heap.size, 2, none⟩ = some (.int .i64 cw) := by rw [← hwz]; simp
      have hws : wz.heap.size = wr.heap.size + 1 := by rw [← hwz]; simp
      rw [hwz] at HBW HTW HRW ⊢
      have HWS := Lib.hid hws
      have HWZ := Lib.hid hwz
      clear hV hrv hk hbw hwz hws d0 d1 d2 d3
      have hfit2 := HF.out
      rw [HCW.out] at hfit2
      by_cases hcW : W < cw
      · have hh1 : hi = at_ + 1 := by omega
        have e7 : IntKind.i64.wrap ((hi : Int) - (at_ : Int)) = 1 := by rw [show (hi : Int) - (at_ : Int) = 1 by omega]; rfl
        have HH1 := Lib.hid hh1
        clear hh1
        clear hfit2
        (first
          | (go_region_held3 (fun w' => w'.cell? ⟨wr.heap.size, 0, none⟩ = some (.int .i64 at_) ∧ w'.cell? ⟨wr.heap.size, 1, none⟩ = some (.int .i64 hi) ∧ w'.cell? ⟨wr.heap.size, 2, none⟩ = some (.int .i64 cw))
          (first | exact ⟨k0, k1, k2⟩ | exact ⟨k0', k1', k2'⟩ | go_keep)
          (first
            | (go_at_call 10; refine (cols_any' V (c - at_) k (cut rs at_ hi) _ HCL.out (by have := HKK.out; omega) (HRW.out.below (by first | exact Below.refl _ _ | exact (Below.refl _ _).drew)) (HTW.out.below (by first | exact Below.refl _ _ | exact (Below.refl _ _).drew))).mono ?_; rintro e w5 ⟨rfl, hb5⟩; rw [show colsF (cut rs at_ hi) 0 = cw from HCW.out]; have k0' := cell_below hb5 (show _ = _ from k0); have k1' := cell_below hb5 (show _ = _ from k1); have k2' := cell_below hb5 (show _ = _ from k2); have HB5 := Lib.hid ((show Below wz.heap.size wz _ by first | exact Below.refl _ _ | exact (Below.refl _ _).drew).trans hb5); clear hb5)))
          | fail)
        all_goals (go_wp2_with fail)
        all_goals
          go_meet
          refine ⟨rfl, ?_⟩
          rw [HWZ.out]
          exact HB5.out.mono (Nat.le_of_eq HWS.out.symm)
      · have hcd : decide (W < cw) = false := decide_eq_false hcW
        clear hfit2 hcW
        (first
          | (go_region_law (go_simp; go_at_call 10; refine (cols_any' V (c - at_) k (cut rs at_ hi) _ HCL.out (by have := HKK.out; omega) (HRW.out.below (by first | exact Below.refl _ _ | exact (Below.refl _ _).drew)) (HTW.out.below (by first | exact Below.refl _ _ | exact (Below.refl _ _).drew))).mono ?_; rintro e w5 ⟨rfl, hb5⟩; rw [show colsF (cut rs at_ hi) 0 = cw from HCW.out]; have k0' := cell_below hb5 (show _ = _ from k0); have k1' := cell_below hb5 (show _ = _ from k1); have k2' := cell_below hb5 (show _ = _ from k2); have HB5 := Lib.hid ((show Below wz.heap.size wz _ by first | exact Below.refl _ _ | exact (Below.refl _ _).drew).trans hb5); clear hb5))
          | fail)
        all_goals (go_wp2_with fail)
        all_goals
          go_meet
          refine ⟨rfl, ?_⟩
          rw [HWZ.out]
          exact HB5.out.mono (Nat.le_of_eq HWS.out.symm)
    case rest =>
      obtain ⟨rfl, hbx⟩ := hcut
      have HBX := Lib.hid hbx
      have z0 : ∀ i u, (#[Value.int .i64 at_, .int .i64 hi, .int .i64 cw, .bool hd] : Array Value)[i]? = some u → wc.cell? ⟨wr.heap.size, i, none⟩ = some u := fun i u hu => by
        have h1 : wc.heap[wr.heap.size]? = some (.cells #[.int .i64 at_, .int .i64 hi, .int .i64 cw, .bool hd] 30 (0, 0)) := (hbx.block _ (Nat.lt_succ_self _)).trans (heap_alloc_new wr _)
        rw [Lib.cell_of_heap h1]; exact hu
      have c0 := z0 0 _ rfl
      have c1 := z0 1 _ rfl
      have c3 := z0 3 _ rfl
      have HBC := Lib.hid (HB.out.trans ((((Below.refl w3.heap.size wr).alloc HB.out.size _)).trans (hbx.mono (by have := HB.out.size; omega))))
      clear hbx z0 d0 d1 d2 d3
      go_wp2_with fail
      go_loopw [12] (fun q wy => ∃ qq : Nat, q = .int .i64 qq ∧ at_ ≤ qq ∧ qq ≤ hi ∧ Below wc.heap.size wc wy) (fun q _ => hi - (intOf q).toNat)
      case atStart => exact ⟨at_, rfl, Nat.le_refl _, hle, Below.refl _ _⟩
      case round =>
        obtain ⟨qq, rfl, hq1, hq2, hbq⟩ := hrel
        have x0 := cell_below hbq c0
        have x1 := cell_below hbq c1
        have x3 := cell_below hbq c3
        have HBY := Lib.hid (HBC.out.trans (hbq.mono HBC.out.size))
        have HBQ := Lib.hid hbq
        have HQ := Lib.hid (And.intro hq1 hq2)
        have hqb : qq ≤ 200 := by omega
        have hib : hi ≤ 200 := by omega
        have HHI := Lib.hid hlen2
        clear hbq c0 c1 c3 hq1 hq2
        by_cases hqlt : qq < hi
        · have hqn : qq < rs.length := by have := HN.out; have := HHI.out; omega
          obtain ⟨ad, rfl, hcell⟩ := (HR3.out.below HBY.out) (by omega)
          have d5 := hcell qq hqn
          have hnn := HOK.out.noNl qq (by have := HX.out.1; have := HQ.out.1; omega) (by have := HX.out.2.1; omega)
          obtain ⟨r5, hr5⟩ : ∃ r5, rs.getD qq 0 = r5 := ⟨_, rfl⟩
          rw [hr5] at d5 hnn
          have b5 : (r5 == 10) = false := by simp [hnn]
          have HLT := Lib.hid hqlt
          have hqn2 : qq < n := by have := HHI.out; omega
          clear hcell hr5 hnn hqn
          go_wp2_with fail
          go_roundw
          case rel => exact ⟨qq + 1, by go_num, by have := HQ.out.1; omega, HLT.out, HBQ.out⟩
          case measure => have := HLT.out; simp [intOf]; omega
        · have hqe : qq = hi := by have := HQ.out.2; omega
          have HQE := Lib.hid hqe
          clear hqe
          obtain ⟨hlo, hhi, hhd⟩ := HX.out
          have hK := HK.out
          rw [hhi, hhd] at hK
          have em : IntKind.i64.wrap ((m : Int) - 1) = (m : Int) - 1 := IntWalk.i64_in _ (by omega)
          rcases hK with ⟨k1, k2, k3⟩ | ⟨k1, k2, k3, k4, k5⟩ | ⟨k1, k2, k3, k4⟩
          · subst k2
            have bj : ((j : Int) == (m : Int) - 1) = true := by have := HM.out; simp; omega
            have bn : ((hi : Int) == (n : Int)) = true := by have := HN.out; simp; omega
            clear hlo hhi hhd k1 k3
            go_wp2_with fail
            go_ret
            exact ⟨rfl, HB3.out.trans (HBY.out.mono HB3.out.size)⟩
          · subst k2
            have bj : ((j : Int) == (m : Int) - 1) = false := by have := HM.out; simp; omega
            have kn : hi < n := by have := HN.out; omega
            have bn : ¬ (n : Int) ≤ (hi : Int) := by omega
            obtain ⟨ad, rfl, hcell⟩ := (HR3.out.below HBY.out) (by omega)
            have d5 := hcell hi k3
            rw [k4] at d5
            have K5 := Lib.hid k5
            clear hlo hhi hhd k1 k3 k4 k5 hcell
            go_wp2_with fail
            go_roundw
            case rel => exact ⟨hi + 1, j + 1, by go_num, by go_num, K5.out, HBY.out⟩
            case measure => simp [intOf]; omega
          · subst k2
            have bj : ((j : Int) == (m : Int) - 1) = false := by have := HM.out; simp; omega
            have s1 := k3.lt
            have s2 := k3.len
            have s3 := k3.nl
            rw [hhi] at s1 s2 s3
            rw [hlo] at s1
            have kn : hi < n := by have := HN.out; omega
            have bn : ¬ (n : Int) ≤ (hi : Int) := by omega
            have bl : ((hi : Int) == (at_ : Int)) = false := by simp; omega
            obtain ⟨ad, rfl, hcell⟩ := (HR3.out.below HBY.out) (by omega)
            have d5 := hcell hi s2
            obtain ⟨r5, hr5⟩ : ∃ r5, rs.getD hi 0 = r5 := ⟨_, rfl⟩
            rw [hr5] at d5 s3
            have b5 : (r5 == 10) = false := by simp [s3]
            have K5 := Lib.hid k4
            clear hlo hhi hhd k1 k3 k4 hcell s1 s2 s3 hr5
            go_wp2_with fail
            go_roundw
            case rel => exact ⟨hi, j + 1, rfl, by go_num, K5.out, HBY.out⟩
            case measure => simp [intOf]; omega
end Go.Proofs.YthbfkmfinalfdaaDoor.Pg
