/- weigh's other turns (printed by gen_weigh.py), and its contract. -/
import Derived.Test.YtkdhomiieenfnaaGreatDoorLc4
namespace Go.Proofs.YtkdhomiieenfnaaGreatDoor.Rp
open Go.RowKit Go.Proofs Go.Proofs.YtkdhomiieenfnaaGreatDoor.U Go.Proofs.YtkdhomiieenfnaaGreatDoor.Txt
set_option linter.unusedVariables false
set_option linter.unusedSimpArgs false
section
attribute [local go_sem ↓] ldP_fold
attribute [local go_sem] fldN fldH fldLo fldHi

set_option maxRecDepth 100000 in
set_option maxHeartbeats 8000000 in
theorem weigh_left2 (vl vr pv : Value) (l1 l2 r : T) (ls rs : List Int) (lh lp hd : Int) (w : World) (hl : TrW w vl (.node l1 ls lh l2 lp)) (hr : TrW w vr r) (hp : Pc w pv rs hd) (hn : rs ≠ []) (h0 : 0 ≤ hd ∧ hd ≤ M) (hlen : (cells (.node l1 ls lh l2 lp)).length + rs.length + (cells r).length ≤ 2097152)
    (h1 : hgt r + 1 < hgt (.node l1 ls lh l2 lp)) (h2 : hgt l1 < hgt l2) :
    Calls Tryz.prog 142 #[vl, pv, vr] w (RetC (cells (.node l1 ls lh l2 lp) ++ run rs hd ++ cells r) w) := by
  obtain ⟨A, c, rfl, hc, hcs⟩ := hp
  have HR := Lib.hid hr
  have HP := Lib.hid (show Pc w (.agg #[.slice A rs.length c, .int .i64 hd]) rs hd from ⟨A, c, rfl, hc, hcs⟩)
  have hok1 := smT_ok hl.wf hl.len
  have hok2 := smT_ok hr.wf hr.len
  have hpt := hl.wf.parts
  have HPT := Lib.hid hpt
  have HLEN := Lib.hid hlen
  have HNE := Lib.hid hn
  have H0 := Lib.hid h0
  have HO := Lib.hid (fun (W : World) (hW : Below w.heap.size w W) => open_any vl l1 l2 ls lh lp W (hl.below hW))
  have HA1 := Lib.hid (fun W1 (h : Below w.heap.size w W1) => all_any vl (.node l1 ls lh l2 lp) W1 (hl.tr.below h))
  have HA2 := Lib.hid (fun W1 (h : Below w.heap.size w W1) => all_any vr r W1 (hr.tr.below h))
  have hg1 : (smT (.node l1 ls lh l2 lp)).h = (hgt (.node l1 ls lh l2 lp) : Int) := rfl
  have hg2 : (smT r).h = (hgt r : Int) := rfl
  have b1 := hok1.h
  have b2 := hok2.h
  obtain ⟨n, hn'⟩ : ∃ n, rs.length = n := ⟨_, rfl⟩
  rw [hn'] at HP ⊢
  obtain ⟨sl, hsl⟩ : ∃ sl, smT (.node l1 ls lh l2 lp) = sl := ⟨_, rfl⟩
  obtain ⟨sr, hsr⟩ : ∃ sr, smT r = sr := ⟨_, rfl⟩
  rw [hsl] at HA1 hg1 b1
  rw [hsr] at HA2 hg2 b2
  obtain ⟨n1, v1, h1', lo1, c1, hi1⟩ := sl
  obtain ⟨n2, v2, h2', lo2, c2, hi2⟩ := sr
  simp only at hg1 hg2 b1 b2
  have g1 : h2' + 1 < h1' := by omega
  have H2 := Lib.hid h2
  clear hl hr hc hcs hn h0 hlen hok1 hok2 hg1 hg2 hn' hsl hsr h1 h2 hpt
  unfold Sm.v at HA1 HA2
  go_enter Tryz.func142, Tryz.ntmps142
  go_wp2_with fail
  refine (HA1.out _ (below_alloc1 _ _)).mono ?_
  rintro e w1 ⟨rfl, hb1⟩
  have HB1 := Lib.hid ((below_alloc1 w (.cells #[.slice A n c, .int .i64 hd] 114)).trans (hb1.mono (by simp)))
  have HX1 := Lib.hid ((hb1.block w.heap.size (by simp)).trans (heap_at rfl))
  clear hb1
  go_wp2_with fail
  refine (HA2.out _ HB1.out).mono ?_
  rintro e w2 ⟨rfl, hb2⟩
  have HB2 := Lib.hid (HB1.out.trans (hb2.mono HB1.out.size))
  have HX2 := Lib.hid ((hb2.block w.heap.size (Array.getElem?_eq_some_iff.1 HX1.out).1).trans HX1.out)
  clear hb2
  go_wp2_with fail
  refine (HO.out _ HB2.out).mono ?_
  rintro e w3 ⟨⟨vl1, vlp, vl2, rfl, ht1, ht2, A', c', rfl, hc', hcs'⟩, hb3⟩
  have HB3 := Lib.hid (HB2.out.trans (hb3.mono HB2.out.size))
  have HX3 := Lib.hid ((hb3.block w.heap.size (Array.getElem?_eq_some_iff.1 HX2.out).1).trans HX2.out)
  obtain ⟨n', hn'⟩ : ∃ n', ls.length = n' := ⟨_, rfl⟩
  have HN' := Lib.hid hn'
  have HP' := Lib.hid (show Pc w3 (.agg #[.slice A' n' c', .int .i64 (lh + lp)]) ls (lh + lp) from ⟨A', c', by rw [hn'], hc', hcs'⟩)
  have HT1 := Lib.hid ht1
  have HT2 := Lib.hid ht2
  have q1 := smT_ok ht1.wf ht1.len
  have q2 := smT_ok ht2.wf ht2.len
  have HQ1 := Lib.hid (fun W1 (h : Below w3.heap.size w3 W1) => all_any vl1 (lift lp l1) W1 (ht1.tr.below h))
  have HQ2 := Lib.hid (fun W1 (h : Below w3.heap.size w3 W1) => all_any vl2 (lift lp l2) W1 (ht2.tr.below h))
  have hg1 : (smT (lift lp l1)).h = (hgt l1 : Int) := by rw [← hgt_lift lp l1]; rfl
  have hg2 : (smT (lift lp l2)).h = (hgt l2 : Int) := by rw [← hgt_lift lp l2]; rfl
  obtain ⟨sl, hsl⟩ : ∃ sl, smT (lift lp l1) = sl := ⟨_, rfl⟩
  obtain ⟨sr, hsr⟩ : ∃ sr, smT (lift lp l2) = sr := ⟨_, rfl⟩
  rw [hsl] at HQ1 hg1
  rw [hsr] at HQ2 hg2
  obtain ⟨n3, v3, h3', lo3, c3, hi3⟩ := sl
  obtain ⟨n4, v4, h4', lo4, c4, hi4⟩ := sr
  simp only at hg1 hg2
  have g2 : ¬ h4' ≤ h3' := by have := H2.out; omega
  unfold Sm.v at HQ1 HQ2
  rw [hn']
  clear hb3 ht1 ht2 hc' hcs' hn' q1 q2 hg1 hg2 hsl hsr
  go_wp2_with fail
  refine (HQ1.out _ (below_alloc1 _ _)).mono ?_
  rintro e w4 ⟨rfl, hb4⟩
  have HB4 := Lib.hid ((below_alloc1 w3 (.cells #[.slice A' n' c', .int .i64 (lh + lp)] 114)).trans (hb4.mono (by simp)))
  have HY4 := Lib.hid ((hb4.block w3.heap.size (by simp)).trans (heap_at rfl))
  clear hb4
  go_wp2_with fail
  refine (HQ2.out _ HB4.out).mono ?_
  rintro e w5 ⟨rfl, hb5⟩
  have HB5 := Lib.hid (HB4.out.trans (hb5.mono HB4.out.size))
  have HB6 := Lib.hid (HB3.out.trans (HB5.out.mono HB3.out.size))
  have HY5 := Lib.hid ((hb5.block w3.heap.size (Array.getElem?_eq_some_iff.1 HY4.out).1).trans HY4.out)
  have HX5 := Lib.hid ((HB5.out.block w.heap.size (Array.getElem?_eq_some_iff.1 HX3.out).1).trans HX3.out)
  have hlen2 := HLEN.out
  rw [node_len] at hlen2
  obtain ⟨m1, ms, mh, m2, mp, hm⟩ : ∃ m1 ms mh m2 mp, lift lp l2 = .node m1 ms mh m2 mp := hgt_pos (by rw [hgt_lift]; have := H2.out; omega)
  have ht2 := HT2.out
  rw [hm] at ht2 hlen2
  rw [node_len] at hlen2
  have hpm := ht2.wf.parts
  have HPM := Lib.hid hpm
  have HM := Lib.hid hm
  have HOM := Lib.hid (open_any vl2 m1 m2 ms mh mp w5 (ht2.below HB5.out))
  have HLEN2 := Lib.hid hlen2
  clear ht2 hpm hm hlen2 hb5
  go_wp2_with fail
  refine HOM.out.mono ?_
  rintro e w6 ⟨⟨vm1, vmp, vm2, rfl, hu1, hu2, A6, c6, rfl, hc6, hcs6⟩, hb6⟩
  obtain ⟨n6, hn6⟩ : ∃ n6, ms.length = n6 := ⟨_, rfl⟩
  have HP6 := Lib.hid (show Pc w6 (.agg #[.slice A6 n6 c6, .int .i64 (mh + mp)]) ms (mh + mp) from ⟨A6, c6, by rw [hn6], hc6, hcs6⟩)
  have HU1 := Lib.hid hu1
  have HU2 := Lib.hid hu2
  have HB67 := Lib.hid hb6
  have HY6 := Lib.hid ((hb6.block w3.heap.size (Array.getElem?_eq_some_iff.1 HY5.out).1).trans HY5.out)
  have HX6 := Lib.hid ((hb6.block w.heap.size (Array.getElem?_eq_some_iff.1 HX5.out).1).trans HX5.out)
  rw [hn6]
  clear hu1 hu2 hc6 hcs6 hn6 hb6
  go_wp2_with fail
  obtain ⟨W0, hW0⟩ : ∃ W0, w6.alloc (.cells #[.slice A6 n6 c6, .int .i64 (mh + mp)] 114) = W0 := ⟨_, rfl⟩
  have HBW := Lib.hid (show Below w6.heap.size w6 W0 by rw [← hW0]; exact below_alloc1 _ _)
  have HZ0 := Lib.hid (show W0.heap[w6.heap.size]? = some (.cells #[.slice A6 n6 c6, .int .i64 (mh + mp)] 114 (0, 0)) by rw [← hW0]; exact heap_at rfl)
  have HY0 := Lib.hid ((HBW.out.block w3.heap.size (Array.getElem?_eq_some_iff.1 HY6.out).1).trans HY6.out)
  have HX0 := Lib.hid ((HBW.out.block w.heap.size (Array.getElem?_eq_some_iff.1 HX6.out).1).trans HX6.out)
  rw [hW0]
  clear hW0
  have HB0 := Lib.hid (HB6.out.trans ((HB67.out.trans (HBW.out.mono HB67.out.size)).mono HB6.out.size))
  have HB05 := Lib.hid (HB67.out.trans (HBW.out.mono HB67.out.size))
  have HB03 := Lib.hid (HB5.out.trans (HB05.out.mono HB5.out.size))
  have HSS := Lib.hid (fun (W1 : World) (hW : Below W0.heap.size W0 W1) => (show (ldP (.pointer (some ⟨w.heap.size, 0, none⟩))).run Tryz.prog W1 = .ok (.agg #[.slice A n c, .int .i64 hd]) W1 ∧ (ldP (.pointer (some ⟨w3.heap.size, 0, none⟩))).run Tryz.prog W1 = .ok (.agg #[.slice A' n' c', .int .i64 (lh + lp)]) W1 ∧ (ldP (.pointer (some ⟨w6.heap.size, 0, none⟩))).run Tryz.prog W1 = .ok (.agg #[.slice A6 n6 c6, .int .i64 (mh + mp)]) W1 from
    ⟨ldP_run ((hW.block _ (Array.getElem?_eq_some_iff.1 HX0.out).1).trans HX0.out), ldP_run ((hW.block _ (Array.getElem?_eq_some_iff.1 HY0.out).1).trans HY0.out), ldP_run ((hW.block _ (Array.getElem?_eq_some_iff.1 HZ0.out).1).trans HZ0.out)⟩))
  have hlen2 := HLEN2.out
  have C1 := Lib.hid (knot_from (HT1.out.below HB03.out) (HU1.out.below HBW.out) (HP'.out.below HB03.out) HPT.out.2.2.2.1 HPT.out.2.2.2.2 (by omega))
  have C2 := Lib.hid (knot_from (HU2.out.below HBW.out) (HR.out.below HB0.out) (HP.out.below HB0.out) HNE.out H0.out (by omega))
  have C3 := Lib.hid (fun (W : World) (hW : Below W0.heap.size W0 W) (v v' : Value) (hv : TrW W v (.node (lift lp l1) ls (lh + lp) (lift mp m1) 0)) (hv' : TrW W v' (.node (lift mp m2) rs hd r 0)) => knot_from hv hv' ((HP6.out.below HBW.out).below hW) HPM.out.2.2.2.1 HPM.out.2.2.2.2 (by rw [cells_knot, List.length_append, List.length_append, run_len, cells_knot, List.length_append, List.length_append, run_len]; omega) W (Below.refl _ _))
  clear hlen2
  obtain ⟨s1, s2, s3⟩ := HSS.out _ (Below.refl _ _)
  go_region_held3 (fun w' => (ldP (.pointer (some ⟨w.heap.size, 0, none⟩))).run Tryz.prog w' = .ok (.agg #[.slice A n c, .int .i64 hd]) w' ∧ (ldP (.pointer (some ⟨w3.heap.size, 0, none⟩))).run Tryz.prog w' = .ok (.agg #[.slice A' n' c', .int .i64 (lh + lp)]) w' ∧ (ldP (.pointer (some ⟨w6.heap.size, 0, none⟩))).run Tryz.prog w' = .ok (.agg #[.slice A6 n6 c6, .int .i64 (mh + mp)]) w')
    (first | (with_reducible exact HSS.out _ (hbR.trans (hbT.mono hbR.size))) | (with_reducible exact HSS.out _ hbR) | (with_reducible exact HSS.out _ hbL) | (with_reducible exact HSS.out _ (Below.refl _ _).drew))
    (first
    | ((with_reducible refine (C1.out _ (Below.refl _ _).drew).mono ?_); rintro e wL ⟨⟨vL, rfl, htL⟩, hbL, -⟩)
    | ((with_reducible refine (C2.out _ hbL).mono ?_); rintro e wR ⟨⟨vR, rfl, htR⟩, hbR, hcR⟩)
    | ((with_reducible refine (C3.out _ hbR vL vR (htL.below hcR) htR).mono ?_); rintro e wT ⟨⟨vT, rfl, htT⟩, hbT, -⟩))
  go_wp2_with fail
  go_ret
  refine ⟨⟨_, _, rfl, htT, ?_⟩, HB0.out.trans ((hbR.trans (hbT.mono hbR.size)).mono HB0.out.size)⟩
  rw [cells_knot, cells_knot, cells_knot, cells_open, HM.out, cells_open]
  simp
set_option maxRecDepth 100000 in
set_option maxHeartbeats 8000000 in
theorem weigh_right1 (vl vr pv : Value) (l l1 l2 : T) (ls rs : List Int) (lh lp hd : Int) (w : World) (hl : TrW w vl l) (hr : TrW w vr (.node l1 ls lh l2 lp)) (hp : Pc w pv rs hd) (hn : rs ≠ []) (h0 : 0 ≤ hd ∧ hd ≤ M) (hlen : (cells l).length + rs.length + (cells (.node l1 ls lh l2 lp)).length ≤ 2097152)
    (h1 : hgt l + 1 < hgt (.node l1 ls lh l2 lp)) (h2 : hgt l1 ≤ hgt l2) :
    Calls Tryz.prog 142 #[vl, pv, vr] w (RetC (cells l ++ run rs hd ++ cells (.node l1 ls lh l2 lp)) w) := by
  obtain ⟨A, c, rfl, hc, hcs⟩ := hp
  have HL := Lib.hid hl
  have HP := Lib.hid (show Pc w (.agg #[.slice A rs.length c, .int .i64 hd]) rs hd from ⟨A, c, rfl, hc, hcs⟩)
  have hok1 := smT_ok hl.wf hl.len
  have hok2 := smT_ok hr.wf hr.len
  have hpt := hr.wf.parts
  have HPT := Lib.hid hpt
  have HLEN := Lib.hid hlen
  have HNE := Lib.hid hn
  have H0 := Lib.hid h0
  have HO := Lib.hid (fun (W : World) (hW : Below w.heap.size w W) => open_any vr l1 l2 ls lh lp W (hr.below hW))
  have HA1 := Lib.hid (fun W1 (h : Below w.heap.size w W1) => all_any vl l W1 (hl.tr.below h))
  have HA2 := Lib.hid (fun W1 (h : Below w.heap.size w W1) => all_any vr (.node l1 ls lh l2 lp) W1 (hr.tr.below h))
  have hg1 : (smT l).h = (hgt l : Int) := rfl
  have hg2 : (smT (.node l1 ls lh l2 lp)).h = (hgt (.node l1 ls lh l2 lp) : Int) := rfl
  have b1 := hok1.h
  have b2 := hok2.h
  obtain ⟨n, hn'⟩ : ∃ n, rs.length = n := ⟨_, rfl⟩
  rw [hn'] at HP ⊢
  obtain ⟨sl, hsl⟩ : ∃ sl, smT l = sl := ⟨_, rfl⟩
  obtain ⟨sr, hsr⟩ : ∃ sr, smT (.node l1 ls lh l2 lp) = sr := ⟨_, rfl⟩
  rw [hsl] at HA1 hg1 b1
  rw [hsr] at HA2 hg2 b2
  obtain ⟨n1, v1, h1', lo1, c1, hi1⟩ := sl
  obtain ⟨n2, v2, h2', lo2, c2, hi2⟩ := sr
  simp only at hg1 hg2 b1 b2
  have g1 : h1' + 1 < h2' := by omega
  have g1' : ¬ h2' + 1 < h1' := by omega
  have H2 := Lib.hid h2
  clear hl hr hc hcs hn h0 hlen hok1 hok2 hg1 hg2 hn' hsl hsr h1 h2 hpt
  unfold Sm.v at HA1 HA2
  go_enter Tryz.func142, Tryz.ntmps142
  go_wp2_with fail
  refine (HA1.out _ (below_alloc1 _ _)).mono ?_
  rintro e w1 ⟨rfl, hb1⟩
  have HB1 := Lib.hid ((below_alloc1 w (.cells #[.slice A n c, .int .i64 hd] 114)).trans (hb1.mono (by simp)))
  have HX1 := Lib.hid ((hb1.block w.heap.size (by simp)).trans (heap_at rfl))
  clear hb1
  go_wp2_with fail
  refine (HA2.out _ HB1.out).mono ?_
  rintro e w2 ⟨rfl, hb2⟩
  have HB2 := Lib.hid (HB1.out.trans (hb2.mono HB1.out.size))
  have HX2 := Lib.hid ((hb2.block w.heap.size (Array.getElem?_eq_some_iff.1 HX1.out).1).trans HX1.out)
  clear hb2
  go_wp2_with fail
  refine (HO.out _ HB2.out).mono ?_
  rintro e w3 ⟨⟨vl1, vlp, vl2, rfl, ht1, ht2, A', c', rfl, hc', hcs'⟩, hb3⟩
  have HB3 := Lib.hid (HB2.out.trans (hb3.mono HB2.out.size))
  have HX3 := Lib.hid ((hb3.block w.heap.size (Array.getElem?_eq_some_iff.1 HX2.out).1).trans HX2.out)
  obtain ⟨n', hn'⟩ : ∃ n', ls.length = n' := ⟨_, rfl⟩
  have HN' := Lib.hid hn'
  have HP' := Lib.hid (show Pc w3 (.agg #[.slice A' n' c', .int .i64 (lh + lp)]) ls (lh + lp) from ⟨A', c', by rw [hn'], hc', hcs'⟩)
  have HT1 := Lib.hid ht1
  have HT2 := Lib.hid ht2
  have q1 := smT_ok ht1.wf ht1.len
  have q2 := smT_ok ht2.wf ht2.len
  have HQ1 := Lib.hid (fun W1 (h : Below w3.heap.size w3 W1) => all_any vl1 (lift lp l1) W1 (ht1.tr.below h))
  have HQ2 := Lib.hid (fun W1 (h : Below w3.heap.size w3 W1) => all_any vl2 (lift lp l2) W1 (ht2.tr.below h))
  have hg1 : (smT (lift lp l1)).h = (hgt l1 : Int) := by rw [← hgt_lift lp l1]; rfl
  have hg2 : (smT (lift lp l2)).h = (hgt l2 : Int) := by rw [← hgt_lift lp l2]; rfl
  obtain ⟨sl, hsl⟩ : ∃ sl, smT (lift lp l1) = sl := ⟨_, rfl⟩
  obtain ⟨sr, hsr⟩ : ∃ sr, smT (lift lp l2) = sr := ⟨_, rfl⟩
  rw [hsl] at HQ1 hg1
  rw [hsr] at HQ2 hg2
  obtain ⟨n3, v3, h3', lo3, c3, hi3⟩ := sl
  obtain ⟨n4, v4, h4', lo4, c4, hi4⟩ := sr
  simp only at hg1 hg2
  have g2 : h3' ≤ h4' := by have := H2.out; omega
  unfold Sm.v at HQ1 HQ2
  rw [hn']
  clear hb3 ht1 ht2 hc' hcs' hn' q1 q2 hg1 hg2 hsl hsr
  go_wp2_with fail
  refine (HQ2.out _ (below_alloc1 _ _)).mono ?_
  rintro e w4 ⟨rfl, hb4⟩
  have HB4 := Lib.hid ((below_alloc1 w3 (.cells #[.slice A' n' c', .int .i64 (lh + lp)] 114)).trans (hb4.mono (by simp)))
  have HY4 := Lib.hid ((hb4.block w3.heap.size (by simp)).trans (heap_at rfl))
  clear hb4
  go_wp2_with fail
  refine (HQ1.out _ HB4.out).mono ?_
  rintro e w5 ⟨rfl, hb5⟩
  have HB5 := Lib.hid (HB4.out.trans (hb5.mono HB4.out.size))
  have HB6 := Lib.hid (HB3.out.trans (HB5.out.mono HB3.out.size))
  have HY5 := Lib.hid ((hb5.block w3.heap.size (Array.getElem?_eq_some_iff.1 HY4.out).1).trans HY4.out)
  have HX5 := Lib.hid ((HB5.out.block w.heap.size (Array.getElem?_eq_some_iff.1 HX3.out).1).trans HX3.out)
  have HSS := Lib.hid (fun (W1 : World) (hW : Below w5.heap.size w5 W1) => (show (ldP (.pointer (some ⟨w.heap.size, 0, none⟩))).run Tryz.prog W1 = .ok (.agg #[.slice A n c, .int .i64 hd]) W1 ∧ (ldP (.pointer (some ⟨w3.heap.size, 0, none⟩))).run Tryz.prog W1 = .ok (.agg #[.slice A' n' c', .int .i64 (lh + lp)]) W1 from
    ⟨ldP_run ((hW.block _ (Array.getElem?_eq_some_iff.1 HX5.out).1).trans HX5.out), ldP_run ((hW.block _ (Array.getElem?_eq_some_iff.1 HY5.out).1).trans HY5.out)⟩))
  have hlen2 := HLEN.out
  rw [node_len] at hlen2
  have C1 := Lib.hid (knot_from (HL.out.below HB6.out) (HT1.out.below HB5.out) (HP.out.below HB6.out) HNE.out H0.out (by omega))
  have C2 := Lib.hid (fun (W : World) (hW : Below w5.heap.size w5 W) (v : Value) (hv : TrW W v (.node l rs hd (lift lp l1) 0)) => knot_from hv ((HT2.out.below HB5.out).below hW) ((HP'.out.below HB5.out).below hW) HPT.out.2.2.2.1 HPT.out.2.2.2.2 (by rw [cells_knot, List.length_append, List.length_append, run_len]; omega) W (Below.refl _ _))
  clear hb5 hlen2
  obtain ⟨s1, s2⟩ := HSS.out _ (Below.refl _ _)
  go_wp2_with fail
  go_region_held3 (fun w' => (ldP (.pointer (some ⟨w.heap.size, 0, none⟩))).run Tryz.prog w' = .ok (.agg #[.slice A n c, .int .i64 hd]) w' ∧ (ldP (.pointer (some ⟨w3.heap.size, 0, none⟩))).run Tryz.prog w' = .ok (.agg #[.slice A' n' c', .int .i64 (lh + lp)]) w')
    (first | (with_reducible exact HSS.out _ (hbL.trans (hbR.mono hbL.size))) | (with_reducible exact HSS.out _ hbL) | (with_reducible exact HSS.out _ (Below.refl _ _).drew))
    (first
    | ((with_reducible refine (C1.out _ (Below.refl _ _).drew).mono ?_); rintro e wL ⟨⟨vL, rfl, htL⟩, hbL, -⟩)
    | ((with_reducible refine (C2.out _ hbL vL htL).mono ?_); rintro e wR ⟨⟨vR, rfl, htR⟩, hbR, -⟩))
  go_wp2_with fail
  go_ret
  refine ⟨⟨_, _, rfl, htR, ?_⟩, HB6.out.trans ((hbL.trans (hbR.mono hbL.size)).mono HB6.out.size)⟩
  rw [cells_knot, cells_knot, cells_open]
  simp
set_option maxRecDepth 100000 in
set_option maxHeartbeats 8000000 in
theorem weigh_right2 (vl vr pv : Value) (l l1 l2 : T) (ls rs : List Int) (lh lp hd : Int) (w : World) (hl : TrW w vl l) (hr : TrW w vr (.node l1 ls lh l2 lp)) (hp : Pc w pv rs hd) (hn : rs ≠ []) (h0 : 0 ≤ hd ∧ hd ≤ M) (hlen : (cells l).length + rs.length + (cells (.node l1 ls lh l2 lp)).length ≤ 2097152)
    (h1 : hgt l + 1 < hgt (.node l1 ls lh l2 lp)) (h2 : hgt l2 < hgt l1) :
    Calls Tryz.prog 142 #[vl, pv, vr] w (RetC (cells l ++ run rs hd ++ cells (.node l1 ls lh l2 lp)) w) := by
  obtain ⟨A, c, rfl, hc, hcs⟩ := hp
  have HL := Lib.hid hl
  have HP := Lib.hid (show Pc w (.agg #[.slice A rs.length c, .int .i64 hd]) rs hd from ⟨A, c, rfl, hc, hcs⟩)
  have hok1 := smT_ok hl.wf hl.len
  have hok2 := smT_ok hr.wf hr.len
  have hpt := hr.wf.parts
  have HPT := Lib.hid hpt
  have HLEN := Lib.hid hlen
  have HNE := Lib.hid hn
  have H0 := Lib.hid h0
  have HO := Lib.hid (fun (W : World) (hW : Below w.heap.size w W) => open_any vr l1 l2 ls lh lp W (hr.below hW))
  have HA1 := Lib.hid (fun W1 (h : Below w.heap.size w W1) => all_any vl l W1 (hl.tr.below h))
  have HA2 := Lib.hid (fun W1 (h : Below w.heap.size w W1) => all_any vr (.node l1 ls lh l2 lp) W1 (hr.tr.below h))
  have hg1 : (smT l).h = (hgt l : Int) := rfl
  have hg2 : (smT (.node l1 ls lh l2 lp)).h = (hgt (.node l1 ls lh l2 lp) : Int) := rfl
  have b1 := hok1.h
  have b2 := hok2.h
  obtain ⟨n, hn'⟩ : ∃ n, rs.length = n := ⟨_, rfl⟩
  rw [hn'] at HP ⊢
  obtain ⟨sl, hsl⟩ : ∃ sl, smT l = sl := ⟨_, rfl⟩
  obtain ⟨sr, hsr⟩ : ∃ sr, smT (.node l1 ls lh l2 lp) = sr := ⟨_, rfl⟩
  rw [hsl] at HA1 hg1 b1
  rw [hsr] at HA2 hg2 b2
  obtain ⟨n1, v1, h1', lo1, c1, hi1⟩ := sl
  obtain ⟨n2, v2, h2', lo2, c2, hi2⟩ := sr
  simp only at hg1 hg2 b1 b2
  have g1 : h1' + 1 < h2' := by omega
  have g1' : ¬ h2' + 1 < h1' := by omega
  have H2 := Lib.hid h2
  clear hl hr hc hcs hn h0 hlen hok1 hok2 hg1 hg2 hn' hsl hsr h1 h2 hpt
  unfold Sm.v at HA1 HA2
  go_enter Tryz.func142, Tryz.ntmps142
  go_wp2_with fail
  refine (HA1.out _ (below_alloc1 _ _)).mono ?_
  rintro e w1 ⟨rfl, hb1⟩
  have HB1 := Lib.hid ((below_alloc1 w (.cells #[.slice A n c, .int .i64 hd] 114)).trans (hb1.mono (by simp)))
  have HX1 := Lib.hid ((hb1.block w.heap.size (by simp)).trans (heap_at rfl))
  clear hb1
  go_wp2_with fail
  refine (HA2.out _ HB1.out).mono ?_
  rintro e w2 ⟨rfl, hb2⟩
  have HB2 := Lib.hid (HB1.out.trans (hb2.mono HB1.out.size))
  have HX2 := Lib.hid ((hb2.block w.heap.size (Array.getElem?_eq_some_iff.1 HX1.out).1).trans HX1.out)
  clear hb2
  go_wp2_with fail
  refine (HO.out _ HB2.out).mono ?_
  rintro e w3 ⟨⟨vl1, vlp, vl2, rfl, ht1, ht2, A', c', rfl, hc', hcs'⟩, hb3⟩
  have HB3 := Lib.hid (HB2.out.trans (hb3.mono HB2.out.size))
  have HX3 := Lib.hid ((hb3.block w.heap.size (Array.getElem?_eq_some_iff.1 HX2.out).1).trans HX2.out)
  obtain ⟨n', hn'⟩ : ∃ n', ls.length = n' := ⟨_, rfl⟩
  have HN' := Lib.hid hn'
  have HP' := Lib.hid (show Pc w3 (.agg #[.slice A' n' c', .int .i64 (lh + lp)]) ls (lh + lp) from ⟨A', c', by rw [hn'], hc', hcs'⟩)
  have HT1 := Lib.hid ht1
  have HT2 := Lib.hid ht2
  have q1 := smT_ok ht1.wf ht1.len
  have q2 := smT_ok ht2.wf ht2.len
  have HQ1 := Lib.hid (fun W1 (h : Below w3.heap.size w3 W1) => all_any vl1 (lift lp l1) W1 (ht1.tr.below h))
  have HQ2 := Lib.hid (fun W1 (h : Below w3.heap.size w3 W1) => all_any vl2 (lift lp l2) W1 (ht2.tr.below h))
  have hg1 : (smT (lift lp l1)).h = (hgt l1 : Int) := by rw [← hgt_lift lp l1]; rfl
  have hg2 : (smT (lift lp l2)).h = (hgt l2 : Int) := by rw [← hgt_lift lp l2]; rfl
  obtain ⟨sl, hsl⟩ : ∃ sl, smT (lift lp l1) = sl := ⟨_, rfl⟩
  obtain ⟨sr, hsr⟩ : ∃ sr, smT (lift lp l2) = sr := ⟨_, rfl⟩
  rw [hsl] at HQ1 hg1
  rw [hsr] at HQ2 hg2
  obtain ⟨n3, v3, h3', lo3, c3, hi3⟩ := sl
  obtain ⟨n4, v4, h4', lo4, c4, hi4⟩ := sr
  simp only at hg1 hg2
  have g2 : ¬ h3' ≤ h4' := by have := H2.out; omega
  unfold Sm.v at HQ1 HQ2
  rw [hn']
  clear hb3 ht1 ht2 hc' hcs' hn' q1 q2 hg1 hg2 hsl hsr
  go_wp2_with fail
  refine (HQ2.out _ (below_alloc1 _ _)).mono ?_
  rintro e w4 ⟨rfl, hb4⟩
  have HB4 := Lib.hid ((below_alloc1 w3 (.cells #[.slice A' n' c', .int .i64 (lh + lp)] 114)).trans (hb4.mono (by simp)))
  have HY4 := Lib.hid ((hb4.block w3.heap.size (by simp)).trans (heap_at rfl))
  clear hb4
  go_wp2_with fail
  refine (HQ1.out _ HB4.out).mono ?_
  rintro e w5 ⟨rfl, hb5⟩
  have HB5 := Lib.hid (HB4.out.trans (hb5.mono HB4.out.size))
  have HB6 := Lib.hid (HB3.out.trans (HB5.out.mono HB3.out.size))
  have HY5 := Lib.hid ((hb5.block w3.heap.size (Array.getElem?_eq_some_iff.1 HY4.out).1).trans HY4.out)
  have HX5 := Lib.hid ((HB5.out.block w.heap.size (Array.getElem?_eq_some_iff.1 HX3.out).1).trans HX3.out)
  have hlen2 := HLEN.out
  rw [node_len] at hlen2
  obtain ⟨m1, ms, mh, m2, mp, hm⟩ : ∃ m1 ms mh m2 mp, lift lp l1 = .node m1 ms mh m2 mp := hgt_pos (by rw [hgt_lift]; have := H2.out; omega)
  have ht2 := HT1.out
  rw [hm] at ht2 hlen2
  rw [node_len] at hlen2
  have hpm := ht2.wf.parts
  have HPM := Lib.hid hpm
  have HM := Lib.hid hm
  have HOM := Lib.hid (open_any vl1 m1 m2 ms mh mp w5 (ht2.below HB5.out))
  have HLEN2 := Lib.hid hlen2
  clear ht2 hpm hm hlen2 hb5
  go_wp2_with fail
  refine HOM.out.mono ?_
  rintro e w6 ⟨⟨vm1, vmp, vm2, rfl, hu1, hu2, A6, c6, rfl, hc6, hcs6⟩, hb6⟩
  obtain ⟨n6, hn6⟩ : ∃ n6, ms.length = n6 := ⟨_, rfl⟩
  have HP6 := Lib.hid (show Pc w6 (.agg #[.slice A6 n6 c6, .int .i64 (mh + mp)]) ms (mh + mp) from ⟨A6, c6, by rw [hn6], hc6, hcs6⟩)
  have HU1 := Lib.hid hu1
  have HU2 := Lib.hid hu2
  have HB67 := Lib.hid hb6
  have HY6 := Lib.hid ((hb6.block w3.heap.size (Array.getElem?_eq_some_iff.1 HY5.out).1).trans HY5.out)
  have HX6 := Lib.hid ((hb6.block w.heap.size (Array.getElem?_eq_some_iff.1 HX5.out).1).trans HX5.out)
  rw [hn6]
  clear hu1 hu2 hc6 hcs6 hn6 hb6
  go_wp2_with fail
  obtain ⟨W0, hW0⟩ : ∃ W0, w6.alloc (.cells #[.slice A6 n6 c6, .int .i64 (mh + mp)] 114) = W0 := ⟨_, rfl⟩
  have HBW := Lib.hid (show Below w6.heap.size w6 W0 by rw [← hW0]; exact below_alloc1 _ _)
  have HZ0 := Lib.hid (show W0.heap[w6.heap.size]? = some (.cells #[.slice A6 n6 c6, .int .i64 (mh + mp)] 114 (0, 0)) by rw [← hW0]; exact heap_at rfl)
  have HY0 := Lib.hid ((HBW.out.block w3.heap.size (Array.getElem?_eq_some_iff.1 HY6.out).1).trans HY6.out)
  have HX0 := Lib.hid ((HBW.out.block w.heap.size (Array.getElem?_eq_some_iff.1 HX6.out).1).trans HX6.out)
  rw [hW0]
  clear hW0
  have HB0 := Lib.hid (HB6.out.trans ((HB67.out.trans (HBW.out.mono HB67.out.size)).mono HB6.out.size))
  have HB05 := Lib.hid (HB67.out.trans (HBW.out.mono HB67.out.size))
  have HB03 := Lib.hid (HB5.out.trans (HB05.out.mono HB5.out.size))
  have HSS := Lib.hid (fun (W1 : World) (hW : Below W0.heap.size W0 W1) => (show (ldP (.pointer (some ⟨w.heap.size, 0, none⟩))).run Tryz.prog W1 = .ok (.agg #[.slice A n c, .int .i64 hd]) W1 ∧ (ldP (.pointer (some ⟨w3.heap.size, 0, none⟩))).run Tryz.prog W1 = .ok (.agg #[.slice A' n' c', .int .i64 (lh + lp)]) W1 ∧ (ldP (.pointer (some ⟨w6.heap.size, 0, none⟩))).run Tryz.prog W1 = .ok (.agg #[.slice A6 n6 c6, .int .i64 (mh + mp)]) W1 from
    ⟨ldP_run ((hW.block _ (Array.getElem?_eq_some_iff.1 HX0.out).1).trans HX0.out), ldP_run ((hW.block _ (Array.getElem?_eq_some_iff.1 HY0.out).1).trans HY0.out), ldP_run ((hW.block _ (Array.getElem?_eq_some_iff.1 HZ0.out).1).trans HZ0.out)⟩))
  have hlen2 := HLEN2.out
  have C1 := Lib.hid (knot_from (HL.out.below HB0.out) (HU1.out.below HBW.out) (HP.out.below HB0.out) HNE.out H0.out (by omega))
  have C2 := Lib.hid (knot_from (HU2.out.below HBW.out) (HT2.out.below HB03.out) (HP'.out.below HB03.out) HPT.out.2.2.2.1 HPT.out.2.2.2.2 (by omega))
  have C3 := Lib.hid (fun (W : World) (hW : Below W0.heap.size W0 W) (v v' : Value) (hv : TrW W v (.node l rs hd (lift mp m1) 0)) (hv' : TrW W v' (.node (lift mp m2) ls (lh + lp) (lift lp l2) 0)) => knot_from hv hv' ((HP6.out.below HBW.out).below hW) HPM.out.2.2.2.1 HPM.out.2.2.2.2 (by rw [cells_knot, List.length_append, List.length_append, run_len, cells_knot, List.length_append, List.length_append, run_len]; omega) W (Below.refl _ _))
  clear hlen2
  obtain ⟨s1, s2, s3⟩ := HSS.out _ (Below.refl _ _)
  go_region_held3 (fun w' => (ldP (.pointer (some ⟨w.heap.size, 0, none⟩))).run Tryz.prog w' = .ok (.agg #[.slice A n c, .int .i64 hd]) w' ∧ (ldP (.pointer (some ⟨w3.heap.size, 0, none⟩))).run Tryz.prog w' = .ok (.agg #[.slice A' n' c', .int .i64 (lh + lp)]) w' ∧ (ldP (.pointer (some ⟨w6.heap.size, 0, none⟩))).run Tryz.prog w' = .ok (.agg #[.slice A6 n6 c6, .int .i64 (mh + mp)]) w')
    (first | (with_reducible exact HSS.out _ (hbR.trans (hbT.mono hbR.size))) | (with_reducible exact HSS.out _ hbR) | (with_reducible exact HSS.out _ hbL) | (with_reducible exact HSS.out _ (Below.refl _ _).drew))
    (first
    | ((with_reducible refine (C1.out _ (Below.refl _ _).drew).mono ?_); rintro e wL ⟨⟨vL, rfl, htL⟩, hbL, -⟩)
    | ((with_reducible refine (C2.out _ hbL).mono ?_); rintro e wR ⟨⟨vR, rfl, htR⟩, hbR, hcR⟩)
    | ((with_reducible refine (C3.out _ hbR vL vR (htL.below hcR) htR).mono ?_); rintro e wT ⟨⟨vT, rfl, htT⟩, hbT, -⟩))
  go_wp2_with fail
  go_ret
  refine ⟨⟨_, _, rfl, htT, ?_⟩, HB0.out.trans ((hbR.trans (hbT.mono hbR.size)).mono HB0.out.size)⟩
  rw [cells_knot, cells_knot, cells_knot, cells_open, HM.out, cells_open]
  simp
end
/-- weigh's contract. -/
theorem weigh_any (vl vr pv : Value) (l r : T) (rs : List Int) (hd : Int) (w : World) (hl : TrW w vl l) (hr : TrW w vr r) (hp : Pc w pv rs hd) (hn : rs ≠ []) (h0 : 0 ≤ hd ∧ hd ≤ M) (hlen : (cells l).length + rs.length + (cells r).length ≤ 2097152) :
    Calls Tryz.prog 142 #[vl, pv, vr] w (RetC (cells l ++ run rs hd ++ cells r) w) := by
  by_cases h1 : hgt r + 1 < hgt l
  · obtain ⟨l1, ls, lh, l2, lp, rfl⟩ := hgt_pos (show 0 < hgt l by omega)
    by_cases h2 : hgt l2 ≤ hgt l1
    · exact weigh_left1 vl vr pv l1 l2 r ls rs lh lp hd w hl hr hp hn h0 hlen h1 h2
    · exact weigh_left2 vl vr pv l1 l2 r ls rs lh lp hd w hl hr hp hn h0 hlen h1 (by omega)
  · by_cases h2 : hgt l + 1 < hgt r
    · obtain ⟨l1, ls, lh, l2, lp, rfl⟩ := hgt_pos (show 0 < hgt r by omega)
      by_cases h3 : hgt l1 ≤ hgt l2
      · exact weigh_right1 vl vr pv l l1 l2 ls rs lh lp hd w hl hr hp hn h0 hlen h2 h3
      · exact weigh_right2 vl vr pv l l1 l2 ls rs lh lp hd w hl hr hp hn h0 hlen h2 (by omega)
    · exact weigh_even vl vr pv l r rs hd w hl hr hp hn h0 hlen h1 h2
end Go.Proofs.YtkdhomiieenfnaaGreatDoor.Rp
