/- weigh's other turns (printed by gen_weigh.py), and its contract. join (printed by gen_join.py): the cells of two trees and of a piece between, whatever their heights. The last and the first piece of a tree: popLast, popFirst. -/
import Derived.Test.YtkdhomiieenfnaaGreatDoorLs4
namespace Go.Proofs.YtkdhomiieenfnaaGreatDoor.Rp
open Go.RowKit Go.Proofs Go.Proofs.YtkdhomiieenfnaaGreatDoor.U Go.Proofs.YtkdhomiieenfnaaGreatDoor.Txt
set_option linter.unusedVariables false
set_option linter.unusedSimpArgs false
section
attribute [local go_sem ↓] ldP_fold
attribute [local go_sem] fldN fldH fldLo fldHi

set_option maxRecDepth 100000 in
set_option maxHeartbeats 8000000 in
theorem weigh_left2 (vl vr pv : Value) (l1 l2 r : T) (ls rs : List Int) (lh lp hd : Int) (w : World) (hl : TrW w vl (.node l1 ls lh l2 lp)) (hr : TrW w vr r) (hp : Pc w pv rs hd) (hn : rs ≠ []) (h0 : 0 ≤ hd ∧ hd ≤ M) (hlen : (cells (.node l1 ls lh l2 lp)).length + rs.length + (cells r).length ≤ 2097152)
    (h1 : hgt r + 1 < hgt (.node l1 ls lh l2 lp)) (h2 : hgt l1 < hgt l2) :
    Calls Tryz.prog 142 #[vl, pv, vr] w (RetC (cells (.node l1 ls lh l2 lp) ++ run rs hd ++ cells r) w) := by
  obtain ⟨A, c, rfl, hc, hcs⟩ := hp
  have HR := Lib.hid hr
  have HP := Lib.hid (show Pc w (.agg #[.slice A rs.length c, .int .i64 hd]) rs hd from ⟨A, c, rfl, hc, hcs⟩)
  have hok1 := smT_ok hl.wf hl.len
  have hok2 := smT_ok hr.wf hr.len
  have hpt := hl.wf.parts
  have HPT := Lib.hid hpt
  have HLEN := Lib.hid hlen
  have HNE := Lib.hid hn
  have H0 := Lib.hid h0
  have HO := Lib.hid (fun (W : World) (hW : Below w.heap.size w W) => open_any vl l1 l2 ls lh lp W (hl.below hW))
  have HA1 := Lib.hid (fun W1 (h : Below w.heap.size w W1) => all_any vl (.node l1 ls lh l2 lp) W1 (hl.tr.below h))
  have HA2 := Lib.hid (fun W1 (h : Below w.heap.size w W1) => all_any vr r W1 (hr.tr.below h))
  have hg1 : (smT (.node l1 ls lh l2 lp)).h = (hgt (.node l1 ls lh l2 lp) : Int) := rfl
  have hg2 : (smT r).h = (hgt r : Int) := rfl
  have b1 := hok1.h
  have b2 := hok2.h
  obtain ⟨n, hn'⟩ : ∃ n, rs.length = n := ⟨_, rfl⟩
  rw [hn'] at HP ⊢
  obtain ⟨sl, hsl⟩ : ∃ sl, smT (.node l1 ls lh l2 lp) = sl := ⟨_, rfl⟩
  obtain ⟨sr, hsr⟩ : ∃ sr, smT r = sr := ⟨_, rfl⟩
  rw [hsl] at HA1 hg1 b1
  rw [hsr] at HA2 hg2 b2
  obtain ⟨n1, v1, h1', lo1, c1, hi1⟩ := sl
  obtain ⟨n2, v2, h2', lo2, c2, hi2⟩ := sr
  simp only at hg1 hg2 b1 b2
  have g1 : h2' + 1 < h1' := by omega
  have H2 := Lib.hid h2
  clear hl hr hc hcs hn h0 hlen hok1 hok2 hg1 hg2 hn' hsl hsr h1 h2 hpt
  unfold Sm.v at HA1 HA2
  go_enter Tryz.func142, Tryz.ntmps142
  go_wp2_with fail
  refine (HA1.out _ (below_alloc1 _ _)).mono ?_
  rintro e w1 ⟨rfl, hb1⟩
  have HB1 := Lib.hid ((below_alloc1 w (.cells #[.slice A n c, .int .i64 hd] 114)).trans (hb1.mono (by simp)))
  have HX1 := Lib.hid ((hb1.block w.heap.size (by simp)).trans (heap_at rfl))
  clear hb1
  go_wp2_with fail
  refine (HA2.out _ HB1.out).mono ?_
  rintro e w2 ⟨rfl, hb2⟩
  have HB2 := Lib.hid (HB1.out.trans (hb2.mono HB1.out.size))
  have HX2 := Lib.hid ((hb2.block w.heap.size (Array.getElem?_eq_some_iff.1 HX1.out).1).trans HX1.out)
  clear hb2
  go_wp2_with fail
  refine (HO.out _ HB2.out).mono ?_
  rintro e w3 ⟨⟨vl1, vlp, vl2, rfl, ht1, ht2, A', c', rfl, hc', hcs'⟩, hb3⟩
  have HB3 := Lib.hid (HB2.out.trans (hb3.mono HB2.out.size))
  have HX3 := Lib.hid ((hb3.block w.heap.size (Array.getElem?_eq_some_iff.1 HX2.out).1).trans HX2.out)
  obtain ⟨n', hn'⟩ : ∃ n', ls.length = n' := ⟨_, rfl⟩
  have HN' := Lib.hid hn'
  have HP' := Lib.hid (show Pc w3 (.agg #[.slice A' n' c', .int .i64 (lh + lp)]) ls (lh + lp) from ⟨A', c', by rw [hn'], hc', hcs'⟩)
  have HT1 := Lib.hid ht1
  have HT2 := Lib.hid ht2
  have q1 := smT_ok ht1.wf ht1.len
  have q2 := smT_ok ht2.wf ht2.len
  have HQ1 := Lib.hid (fun W1 (h : Below w3.heap.size w3 W1) => all_any vl1 (lift lp l1) W1 (ht1.tr.below h))
  have HQ2 := Lib.hid (fun W1 (h : Below w3.heap.size w3 W1) => all_any vl2 (lift lp l2) W1 (ht2.tr.below h))
  have hg1 : (smT (lift lp l1)).h = (hgt l1 : Int) := by rw [← hgt_lift lp l1]; rfl
  have hg2 : (smT (lift lp l2)).h = (hgt l2 : Int) := by rw [← hgt_lift lp l2]; rfl
  obtain ⟨sl, hsl⟩ : ∃ sl, smT (lift lp l1) = sl := ⟨_, rfl⟩
  obtain ⟨sr, hsr⟩ : ∃ sr, smT (lift lp l2) = sr := ⟨_, rfl⟩
  rw [hsl] at HQ1 hg1
  rw [hsr] at HQ2 hg2
  obtain ⟨n3, v3, h3', lo3, c3, hi3⟩ := sl
  obtain ⟨n4, v4, h4', lo4, c4, hi4⟩ := sr
  simp only at hg1 hg2
  have g2 : ¬ h4' ≤ h3' := by have := H2.out; omega
  unfold Sm.v at HQ1 HQ2
  rw [hn']
  clear hb3 ht1 ht2 hc' hcs' hn' q1 q2 hg1 hg2 hsl hsr
  go_wp2_with fail
  refine (HQ1.out _ (below_alloc1 _ _)).mono ?_
  rintro e w4 ⟨rfl, hb4⟩
  have HB4 := Lib.hid ((below_alloc1 w3 (.cells #[.slice A' n' c', .int .i64 (lh + lp)] 114)).trans (hb4.mono (by simp)))
  have HY4 := Lib.hid ((hb4.block w3.heap.size (by simp)).trans (heap_at rfl))
  clear hb4
  go_wp2_with fail
  refine (HQ2.out _ HB4.out).mono ?_
  rintro e w5 ⟨rfl, hb5⟩
  have HB5 := Lib.hid (HB4.out.trans (hb5.mono HB4.out.size))
  have HB6 := Lib.hid (HB3.out.trans (HB5.out.mono HB3.out.size))
  have HY5 := Lib.hid ((hb5.block w3.heap.size (Array.getElem?_eq_some_iff.1 HY4.out).1).trans HY4.out)
  have HX5 := Lib.hid ((HB5.out.block w.heap.size (Array.getElem?_eq_some_iff.1 HX3.out).1).trans HX3.out)
  have hlen2 := HLEN.out
  rw [node_len] at hlen2
  obtain ⟨m1, ms, mh, m2, mp, hm⟩ : ∃ m1 ms mh m2 mp, lift lp l2 = .node m1 ms mh m2 mp := hgt_pos (by rw [hgt_lift]; have := H2.out; omega)
  have ht2 := HT2.out
  rw [hm] at ht2 hlen2
  rw [node_len] at hlen2
  have hpm := ht2.wf.parts
  have HPM := Lib.hid hpm
  have HM := Lib.hid hm
  have HOM := Lib.hid (open_any vl2 m1 m2 ms mh mp w5 (ht2.below HB5.out))
  have HLEN2 := Lib.hid hlen2
  clear ht2 hpm hm hlen2 hb5
  go_wp2_with fail
  refine HOM.out.mono ?_
  rintro e w6 ⟨⟨vm1, vmp, vm2, rfl, hu1, hu2, A6, c6, rfl, hc6, hcs6⟩, hb6⟩
  obtain ⟨n6, hn6⟩ : ∃ n6, ms.length = n6 := ⟨_, rfl⟩
  have HP6 := Lib.hid (show Pc w6 (.agg #[.slice A6 n6 c6, .int .i64 (mh + mp)]) ms (mh + mp) from ⟨A6, c6, by rw [hn6], hc6, hcs6⟩)
  have HU1 := Lib.hid hu1
  have HU2 := Lib.hid hu2
  have HB67 := Lib.hid hb6
  have HY6 := Lib.hid ((hb6.block w3.heap.size (Array.getElem?_eq_some_iff.1 HY5.out).1).trans HY5.out)
  have HX6 := Lib.hid ((hb6.block w.heap.size (Array.getElem?_eq_some_iff.1 HX5.out).1).trans HX5.out)
  rw [hn6]
  clear hu1 hu2 hc6 hcs6 hn6 hb6
  go_wp2_with fail
  obtain ⟨W0, hW0⟩ : ∃ W0, w6.alloc (.cells #[.slice A6 n6 c6, .int .i64 (mh + mp)] 114) = W0 := ⟨_, rfl⟩
  have HBW := Lib.hid (show Below w6.heap.size w6 W0 by rw [← hW0]; exact below_alloc1 _ _)
  have HZ0 := Lib.hid (show W0.heap[w6.heap.size]? = some (.cells #[.slice A6 n6 c6, .int .i64 (mh + mp)] 114 (0, 0)) by rw [← hW0]; exact heap_at rfl)
  have HY0 := Lib.hid ((HBW.out.block w3.heap.size (Array.getElem?_eq_some_iff.1 HY6.out).1).trans HY6.out)
  have HX0 := Lib.hid ((HBW.out.block w.heap.size (Array.getElem?_eq_some_iff.1 HX6.out).1).trans HX6.out)
  rw [hW0]
  clear hW0
  have HB0 := Lib.hid (HB6.out.trans ((HB67.out.trans (HBW.out.mono HB67.out.size)).mono HB6.out.size))
  have HB05 := Lib.hid (HB67.out.trans (HBW.out.mono HB67.out.size))
  have HB03 := Lib.hid (HB5.out.trans (HB05.out.mono HB5.out.size))
  have HSS := Lib.hid (fun (W1 : World) (hW : Below W0.heap.size W0 W1) => (show (ldP (.pointer (some ⟨w.heap.size, 0, none⟩))).run Tryz.prog W1 = .ok (.agg #[.slice A n c, .int .i64 hd]) W1 ∧ (ldP (.pointer (some ⟨w3.heap.size, 0, none⟩))).run Tryz.prog W1 = .ok (.agg #[.slice A' n' c', .int .i64 (lh + lp)]) W1 ∧ (ldP (.pointer (some ⟨w6.heap.size, 0, none⟩))).run Tryz.prog W1 = .ok (.agg #[.slice A6 n6 c6, .int .i64 (mh + mp)]) W1 from
    ⟨ldP_run ((hW.block _ (Array.getElem?_eq_some_iff.1 HX0.out).1).trans HX0.out), ldP_run ((hW.block _ (Array.getElem?_eq_some_iff.1 HY0.out).1).trans HY0.out), ldP_run ((hW.block _ (Array.getElem?_eq_some_iff.1 HZ0.out).1).trans HZ0.out)⟩))
  have hlen2 := HLEN2.out
  have C1 := Lib.hid (knot_from (HT1.out.below HB03.out) (HU1.out.below HBW.out) (HP'.out.below HB03.out) HPT.out.2.2.2.1 HPT.out.2.2.2.2 (by omega))
  have C2 := Lib.hid (knot_from (HU2.out.below HBW.out) (HR.out.below HB0.out) (HP.out.below HB0.out) HNE.out H0.out (by omega))
  have C3 := Lib.hid (fun (W : World) (hW : Below W0.heap.size W0 W) (v v' : Value) (hv : TrW W v (.node (lift lp l1) ls (lh + lp) (lift mp m1) 0)) (hv' : TrW W v' (.node (lift mp m2) rs hd r 0)) => knot_from hv hv' ((HP6.out.below HBW.out).below hW) HPM.out.2.2.2.1 HPM.out.2.2.2.2 (by rw [cells_knot, List.length_append, List.length_append, run_len, cells_knot, List.length_append, List.length_append, run_len]; omega) W (Below.refl _ _))
  clear hlen2
  obtain ⟨s1, s2, s3⟩ := HSS.out _ (Below.refl _ _)
  go_region_held3 (fun w' => (ldP (.pointer (some ⟨w.heap.size, 0, none⟩))).run Tryz.prog w' = .ok (.agg #[.slice A n c, .int .i64 hd]) w' ∧ (ldP (.pointer (some ⟨w3.heap.size, 0, none⟩))).run Tryz.prog w' = .ok (.agg #[.slice A' n' c', .int .i64 (lh + lp)]) w' ∧ (ldP (.pointer (some ⟨w6.heap.size, 0, none⟩))).run Tryz.prog w' = .ok (.agg #[.slice A6 n6 c6, .int .i64 (mh + mp)]) w')
    (first | (with_reducible exact HSS.out _ (hbR.trans (hbT.mono hbR.size))) | (with_reducible exact HSS.out _ hbR) | (with_reducible exact HSS.out _ hbL) | (with_reducible exact HSS.out _ (Below.refl _ _).drew))
    (first
    | ((with_reducible refine (C1.out _ (Below.refl _ _).drew).mono ?_); rintro e wL ⟨⟨vL, rfl, htL⟩, hbL, -⟩)
    | ((with_reducible refine (C2.out _ hbL).mono ?_); rintro e wR ⟨⟨vR, rfl, htR⟩, hbR, hcR⟩)
    | ((with_reducible refine (C3.out _ hbR vL vR (htL.below hcR) htR).mono ?_); rintro e wT ⟨⟨vT, rfl, htT⟩, hbT, -⟩))
  go_wp2_with fail
  go_ret
  refine ⟨⟨_, _, rfl, htT, ?_⟩, HB0.out.trans ((hbR.trans (hbT.mono hbR.size)).mono HB0.out.size)⟩
  rw [cells_knot, cells_knot, cells_knot, cells_open, HM.out, cells_open]
  simp
set_option maxRecDepth 100000 in
set_option maxHeartbeats 8000000 in
theorem weigh_right1 (vl vr pv : Value) (l l1 l2 : T) (ls rs : List Int) (lh lp hd : Int) (w : World) (hl : TrW w vl l) (hr : TrW w vr (.node l1 ls lh l2 lp)) (hp : Pc w pv rs hd) (hn : rs ≠ []) (h0 : 0 ≤ hd ∧ hd ≤ M) (hlen : (cells l).length + rs.length + (cells (.node l1 ls lh l2 lp)).length ≤ 2097152)
    (h1 : hgt l + 1 < hgt (.node l1 ls lh l2 lp)) (h2 : hgt l1 ≤ hgt l2) :
    Calls Tryz.prog 142 #[vl, pv, vr] w (RetC (cells l ++ run rs hd ++ cells (.node l1 ls lh l2 lp)) w) := by
  obtain ⟨A, c, rfl, hc, hcs⟩ := hp
  have HL := Lib.hid hl
  have HP := Lib.hid (show Pc w (.agg #[.slice A rs.length c, .int .i64 hd]) rs hd from ⟨A, c, rfl, hc, hcs⟩)
  have hok1 := smT_ok hl.wf hl.len
  have hok2 := smT_ok hr.wf hr.len
  have hpt := hr.wf.parts
  have HPT := Lib.hid hpt
  have HLEN := Lib.hid hlen
  have HNE := Lib.hid hn
  have H0 := Lib.hid h0
  have HO := Lib.hid (fun (W : World) (hW : Below w.heap.size w W) => open_any vr l1 l2 ls lh lp W (hr.below hW))
  have HA1 := Lib.hid (fun W1 (h : Below w.heap.size w W1) => all_any vl l W1 (hl.tr.below h))
  have HA2 := Lib.hid (fun W1 (h : Below w.heap.size w W1) => all_any vr (.node l1 ls lh l2 lp) W1 (hr.tr.below h))
  have hg1 : (smT l).h = (hgt l : Int) := rfl
  have hg2 : (smT (.node l1 ls lh l2 lp)).h = (hgt (.node l1 ls lh l2 lp) : Int) := rfl
  have b1 := hok1.h
  have b2 := hok2.h
  obtain ⟨n, hn'⟩ : ∃ n, rs.length = n := ⟨_, rfl⟩
  rw [hn'] at HP ⊢
  obtain ⟨sl, hsl⟩ : ∃ sl, smT l = sl := ⟨_, rfl⟩
  obtain ⟨sr, hsr⟩ : ∃ sr, smT (.node l1 ls lh l2 lp) = sr := ⟨_, rfl⟩
  rw [hsl] at HA1 hg1 b1
  rw [hsr] at HA2 hg2 b2
  obtain ⟨n1, v1, h1', lo1, c1, hi1⟩ := sl
  obtain ⟨n2, v2, h2', lo2, c2, hi2⟩ := sr
  simp only at hg1 hg2 b1 b2
  have g1 : h1' + 1 < h2' := by omega
  have g1' : ¬ h2' + 1 < h1' := by omega
  have H2 := Lib.hid h2
  clear hl hr hc hcs hn h0 hlen hok1 hok2 hg1 hg2 hn' hsl hsr h1 h2 hpt
  unfold Sm.v at HA1 HA2
  go_enter Tryz.func142, Tryz.ntmps142
  go_wp2_with fail
  refine (HA1.out _ (below_alloc1 _ _)).mono ?_
  rintro e w1 ⟨rfl, hb1⟩
  have HB1 := Lib.hid ((below_alloc1 w (.cells #[.slice A n c, .int .i64 hd] 114)).trans (hb1.mono (by simp)))
  have HX1 := Lib.hid ((hb1.block w.heap.size (by simp)).trans (heap_at rfl))
  clear hb1
  go_wp2_with fail
  refine (HA2.out _ HB1.out).mono ?_
  rintro e w2 ⟨rfl, hb2⟩
  have HB2 := Lib.hid (HB1.out.trans (hb2.mono HB1.out.size))
  have HX2 := Lib.hid ((hb2.block w.heap.size (Array.getElem?_eq_some_iff.1 HX1.out).1).trans HX1.out)
  clear hb2
  go_wp2_with fail
  refine (HO.out _ HB2.out).mono ?_
  rintro e w3 ⟨⟨vl1, vlp, vl2, rfl, ht1, ht2, A', c', rfl, hc', hcs'⟩, hb3⟩
  have HB3 := Lib.hid (HB2.out.trans (hb3.mono HB2.out.size))
  have HX3 := Lib.hid ((hb3.block w.heap.size (Array.getElem?_eq_some_iff.1 HX2.out).1).trans HX2.out)
  obtain ⟨n', hn'⟩ : ∃ n', ls.length = n' := ⟨_, rfl⟩
  have HN' := Lib.hid hn'
  have HP' := Lib.hid (show Pc w3 (.agg #[.slice A' n' c', .int .i64 (lh + lp)]) ls (lh + lp) from ⟨A', c', by rw [hn'], hc', hcs'⟩)
  have HT1 := Lib.hid ht1
  have HT2 := Lib.hid ht2
  have q1 := smT_ok ht1.wf ht1.len
  have q2 := smT_ok ht2.wf ht2.len
  have HQ1 := Lib.hid (fun W1 (h : Below w3.heap.size w3 W1) => all_any vl1 (lift lp l1) W1 (ht1.tr.below h))
  have HQ2 := Lib.hid (fun W1 (h : Below w3.heap.size w3 W1) => all_any vl2 (lift lp l2) W1 (ht2.tr.below h))
  have hg1 : (smT (lift lp l1)).h = (hgt l1 : Int) := by rw [← hgt_lift lp l1]; rfl
  have hg2 : (smT (lift lp l2)).h = (hgt l2 : Int) := by rw [← hgt_lift lp l2]; rfl
  obtain ⟨sl, hsl⟩ : ∃ sl, smT (lift lp l1) = sl := ⟨_, rfl⟩
  obtain ⟨sr, hsr⟩ : ∃ sr, smT (lift lp l2) = sr := ⟨_, rfl⟩
  rw [hsl] at HQ1 hg1
  rw [hsr] at HQ2 hg2
  obtain ⟨n3, v3, h3', lo3, c3, hi3⟩ := sl
  obtain ⟨n4, v4, h4', lo4, c4, hi4⟩ := sr
  simp only at hg1 hg2
  have g2 : h3' ≤ h4' := by have := H2.out; omega
  unfold Sm.v at HQ1 HQ2
  rw [hn']
  clear hb3 ht1 ht2 hc' hcs' hn' q1 q2 hg1 hg2 hsl hsr
  go_wp2_with fail
  refine (HQ2.out _ (below_alloc1 _ _)).mono ?_
  rintro e w4 ⟨rfl, hb4⟩
  have HB4 := Lib.hid ((below_alloc1 w3 (.cells #[.slice A' n' c', .int .i64 (lh + lp)] 114)).trans (hb4.mono (by simp)))
  have HY4 := Lib.hid ((hb4.block w3.heap.size (by simp)).trans (heap_at rfl))
  clear hb4
  go_wp2_with fail
  refine (HQ1.out _ HB4.out).mono ?_
  rintro e w5 ⟨rfl, hb5⟩
  have HB5 := Lib.hid (HB4.out.trans (hb5.mono HB4.out.size))
  have HB6 := Lib.hid (HB3.out.trans (HB5.out.mono HB3.out.size))
  have HY5 := Lib.hid ((hb5.block w3.heap.size (Array.getElem?_eq_some_iff.1 HY4.out).1).trans HY4.out)
  have HX5 := Lib.hid ((HB5.out.block w.heap.size (Array.getElem?_eq_some_iff.1 HX3.out).1).trans HX3.out)
  have HSS := Lib.hid (fun (W1 : World) (hW : Below w5.heap.size w5 W1) => (show (ldP (.pointer (some ⟨w.heap.size, 0, none⟩))).run Tryz.prog W1 = .ok (.agg #[.slice A n c, .int .i64 hd]) W1 ∧ (ldP (.pointer (some ⟨w3.heap.size, 0, none⟩))).run Tryz.prog W1 = .ok (.agg #[.slice A' n' c', .int .i64 (lh + lp)]) W1 from
    ⟨ldP_run ((hW.block _ (Array.getElem?_eq_some_iff.1 HX5.out).1).trans HX5.out), ldP_run ((hW.block _ (Array.getElem?_eq_some_iff.1 HY5.out).1).trans HY5.out)⟩))
  have hlen2 := HLEN.out
  rw [node_len] at hlen2
  have C1 := Lib.hid (knot_from (HL.out.below HB6.out) (HT1.out.below HB5.out) (HP.out.below HB6.out) HNE.out H0.out (by omega))
  have C2 := Lib.hid (fun (W : World) (hW : Below w5.heap.size w5 W) (v : Value) (hv : TrW W v (.node l rs hd (lift lp l1) 0)) => knot_from hv ((HT2.out.below HB5.out).below hW) ((HP'.out.below HB5.out).below hW) HPT.out.2.2.2.1 HPT.out.2.2.2.2 (by rw [cells_knot, List.length_append, List.length_append, run_len]; omega) W (Below.refl _ _))
  clear hb5 hlen2
  obtain ⟨s1, s2⟩ := HSS.out _ (Below.refl _ _)
  go_wp2_with fail
  go_region_held3 (fun w' => (ldP (.pointer (some ⟨w.heap.size, 0, none⟩))).run Tryz.prog w' = .ok (.agg #[.slice A n c, .int .i64 hd]) w' ∧ (ldP (.pointer (some ⟨w3.heap.size, 0, none⟩))).run Tryz.prog w' = .ok (.agg #[.slice A' n' c', .int .i64 (lh + lp)]) w')
    (first | (with_reducible exact HSS.out _ (hbL.trans (hbR.mono hbL.size))) | (with_reducible exact HSS.out _ hbL) | (with_reducible exact HSS.out _ (Below.refl _ _).drew))
    (first
    | ((with_reducible refine (C1.out _ (Below.refl _ _).drew).mono ?_); rintro e wL ⟨⟨vL, rfl, htL⟩, hbL, -⟩)
    | ((with_reducible refine (C2.out _ hbL vL htL).mono ?_); rintro e wR ⟨⟨vR, rfl, htR⟩, hbR, -⟩))
  go_wp2_with fail
  go_ret
  refine ⟨⟨_, _, rfl, htR, ?_⟩, HB6.out.trans ((hbL.trans (hbR.mono hbL.size)).mono HB6.out.size)⟩
  rw [cells_knot, cells_knot, cells_open]
  simp
set_option maxRecDepth 100000 in
set_option maxHeartbeats 8000000 in
theorem weigh_right2 (vl vr pv : Value) (l l1 l2 : T) (ls rs : List Int) (lh lp hd : Int) (w : World) (hl : TrW w vl l) (hr : TrW w vr (.node l1 ls lh l2 lp)) (hp : Pc w pv rs hd) (hn : rs ≠ []) (h0 : 0 ≤ hd ∧ hd ≤ M) (hlen : (cells l).length + rs.length + (cells (.node l1 ls lh l2 lp)).length ≤ 2097152)
    (h1 : hgt l + 1 < hgt (.node l1 ls lh l2 lp)) (h2 : hgt l2 < hgt l1) :
    Calls Tryz.prog 142 #[vl, pv, vr] w (RetC (cells l ++ run rs hd ++ cells (.node l1 ls lh l2 lp)) w) := by
  obtain ⟨A, c, rfl, hc, hcs⟩ := hp
  have HL := Lib.hid hl
  have HP := Lib.hid (show Pc w (.agg #[.slice A rs.length c, .int .i64 hd]) rs hd from ⟨A, c, rfl, hc, hcs⟩)
  have hok1 := smT_ok hl.wf hl.len
  have hok2 := smT_ok hr.wf hr.len
  have hpt := hr.wf.parts
  have HPT := Lib.hid hpt
  have HLEN := Lib.hid hlen
  have HNE := Lib.hid hn
  have H0 := Lib.hid h0
  have HO := Lib.hid (fun (W : World) (hW : Below w.heap.size w W) => open_any vr l1 l2 ls lh lp W (hr.below hW))
  have HA1 := Lib.hid (fun W1 (h : Below w.heap.size w W1) => all_any vl l W1 (hl.tr.below h))
  have HA2 := Lib.hid (fun W1 (h : Below w.heap.size w W1) => all_any vr (.node l1 ls lh l2 lp) W1 (hr.tr.below h))
  have hg1 : (smT l).h = (hgt l : Int) := rfl
  have hg2 : (smT (.node l1 ls lh l2 lp)).h = (hgt (.node l1 ls lh l2 lp) : Int) := rfl
  have b1 := hok1.h
  have b2 := hok2.h
  obtain ⟨n, hn'⟩ : ∃ n, rs.length = n := ⟨_, rfl⟩
  rw [hn'] at HP ⊢
  obtain ⟨sl, hsl⟩ : ∃ sl, smT l = sl := ⟨_, rfl⟩
  obtain ⟨sr, hsr⟩ : ∃ sr, smT (.node l1 ls lh l2 lp) = sr := ⟨_, rfl⟩
  rw [hsl] at HA1 hg1 b1
  rw [hsr] at HA2 hg2 b2
  obtain ⟨n1, v1, h1', lo1, c1, hi1⟩ := sl
  obtain ⟨n2, v2, h2', lo2, c2, hi2⟩ := sr
  simp only at hg1 hg2 b1 b2
  have g1 : h1' + 1 < h2' := by omega
  have g1' : ¬ h2' + 1 < h1' := by omega
  have H2 := Lib.hid h2
  clear hl hr hc hcs hn h0 hlen hok1 hok2 hg1 hg2 hn' hsl hsr h1 h2 hpt
  unfold Sm.v at HA1 HA2
  go_enter Tryz.func142, Tryz.ntmps142
  go_wp2_with fail
  refine (HA1.out _ (below_alloc1 _ _)).mono ?_
  rintro e w1 ⟨rfl, hb1⟩
  have HB1 := Lib.hid ((below_alloc1 w (.cells #[.slice A n c, .int .i64 hd] 114)).trans (hb1.mono (by simp)))
  have HX1 := Lib.hid ((hb1.block w.heap.size (by simp)).trans (heap_at rfl))
  clear hb1
  go_wp2_with fail
  refine (HA2.out _ HB1.out).mono ?_
  rintro e w2 ⟨rfl, hb2⟩
  have HB2 := Lib.hid (HB1.out.trans (hb2.mono HB1.out.size))
  have HX2 := Lib.hid ((hb2.block w.heap.size (Array.getElem?_eq_some_iff.1 HX1.out).1).trans HX1.out)
  clear hb2
  go_wp2_with fail
  refine (HO.out _ HB2.out).mono ?_
  rintro e w3 ⟨⟨vl1, vlp, vl2, rfl, ht1, ht2, A', c', rfl, hc', hcs'⟩, hb3⟩
  have HB3 := Lib.hid (HB2.out.trans (hb3.mono HB2.out.size))
  have HX3 := Lib.hid ((hb3.block w.heap.size (Array.getElem?_eq_some_iff.1 HX2.out).1).trans HX2.out)
  obtain ⟨n', hn'⟩ : ∃ n', ls.length = n' := ⟨_, rfl⟩
  have HN' := Lib.hid hn'
  have HP' := Lib.hid (show Pc w3 (.agg #[.slice A' n' c', .int .i64 (lh + lp)]) ls (lh + lp) from ⟨A', c', by rw [hn'], hc', hcs'⟩)
  have HT1 := Lib.hid ht1
  have HT2 := Lib.hid ht2
  have q1 := smT_ok ht1.wf ht1.len
  have q2 := smT_ok ht2.wf ht2.len
  have HQ1 := Lib.hid (fun W1 (h : Below w3.heap.size w3 W1) => all_any vl1 (lift lp l1) W1 (ht1.tr.below h))
  have HQ2 := Lib.hid (fun W1 (h : Below w3.heap.size w3 W1) => all_any vl2 (lift lp l2) W1 (ht2.tr.below h))
  have hg1 : (smT (lift lp l1)).h = (hgt l1 : Int) := by rw [← hgt_lift lp l1]; rfl
  have hg2 : (smT (lift lp l2)).h = (hgt l2 : Int) := by rw [← hgt_lift lp l2]; rfl
  obtain ⟨sl, hsl⟩ : ∃ sl, smT (lift lp l1) = sl := ⟨_, rfl⟩
  obtain ⟨sr, hsr⟩ : ∃ sr, smT (lift lp l2) = sr := ⟨_, rfl⟩
  rw [hsl] at HQ1 hg1
  rw [hsr] at HQ2 hg2
  obtain ⟨n3, v3, h3', lo3, c3, hi3⟩ := sl
  obtain ⟨n4, v4, h4', lo4, c4, hi4⟩ := sr
  simp only at hg1 hg2
  have g2 : ¬ h3' ≤ h4' := by have := H2.out; omega
  unfold Sm.v at HQ1 HQ2
  rw [hn']
  clear hb3 ht1 ht2 hc' hcs' hn' q1 q2 hg1 hg2 hsl hsr
  go_wp2_with fail
  refine (HQ2.out _ (below_alloc1 _ _)).mono ?_
  rintro e w4 ⟨rfl, hb4⟩
  have HB4 := Lib.hid ((below_alloc1 w3 (.cells #[.slice A' n' c', .int .i64 (lh + lp)] 114)).trans (hb4.mono (by simp)))
  have HY4 := Lib.hid ((hb4.block w3.heap.size (by simp)).trans (heap_at rfl))
  clear hb4
  go_wp2_with fail
  refine (HQ1.out _ HB4.out).mono ?_
  rintro e w5 ⟨rfl, hb5⟩
  have HB5 := Lib.hid (HB4.out.trans (hb5.mono HB4.out.size))
  have HB6 := Lib.hid (HB3.out.trans (HB5.out.mono HB3.out.size))
  have HY5 := Lib.hid ((hb5.block w3.heap.size (Array.getElem?_eq_some_iff.1 HY4.out).1).trans HY4.out)
  have HX5 := Lib.hid ((HB5.out.block w.heap.size (Array.getElem?_eq_some_iff.1 HX3.out).1).trans HX3.out)
  have hlen2 := HLEN.out
  rw [node_len] at hlen2
  obtain ⟨m1, ms, mh, m2, mp, hm⟩ : ∃ m1 ms mh m2 mp, lift lp l1 = .node m1 ms mh m2 mp := hgt_pos (by rw [hgt_lift]; have := H2.out; omega)
  have ht2 := HT1.out
  rw [hm] at ht2 hlen2
  rw [node_len] at hlen2
  have hpm := ht2.wf.parts
  have HPM := Lib.hid hpm
  have HM := Lib.hid hm
  have HOM := Lib.hid (open_any vl1 m1 m2 ms mh mp w5 (ht2.below HB5.out))
  have HLEN2 := Lib.hid hlen2
  clear ht2 hpm hm hlen2 hb5
  go_wp2_with fail
  refine HOM.out.mono ?_
  rintro e w6 ⟨⟨vm1, vmp, vm2, rfl, hu1, hu2, A6, c6, rfl, hc6, hcs6⟩, hb6⟩
  obtain ⟨n6, hn6⟩ : ∃ n6, ms.length = n6 := ⟨_, rfl⟩
  have HP6 := Lib.hid (show Pc w6 (.agg #[.slice A6 n6 c6, .int .i64 (mh + mp)]) ms (mh + mp) from ⟨A6, c6, by rw [hn6], hc6, hcs6⟩)
  have HU1 := Lib.hid hu1
  have HU2 := Lib.hid hu2
  have HB67 := Lib.hid hb6
  have HY6 := Lib.hid ((hb6.block w3.heap.size (Array.getElem?_eq_some_iff.1 HY5.out).1).trans HY5.out)
  have HX6 := Lib.hid ((hb6.block w.heap.size (Array.getElem?_eq_some_iff.1 HX5.out).1).trans HX5.out)
  rw [hn6]
  clear hu1 hu2 hc6 hcs6 hn6 hb6
  go_wp2_with fail
  obtain ⟨W0, hW0⟩ : ∃ W0, w6.alloc (.cells #[.slice A6 n6 c6, .int .i64 (mh + mp)] 114) = W0 := ⟨_, rfl⟩
  have HBW := Lib.hid (show Below w6.heap.size w6 W0 by rw [← hW0]; exact below_alloc1 _ _)
  have HZ0 := Lib.hid (show W0.heap[w6.heap.size]? = some (.cells #[.slice A6 n6 c6, .int .i64 (mh + mp)] 114 (0, 0)) by rw [← hW0]; exact heap_at rfl)
  have HY0 := Lib.hid ((HBW.out.block w3.heap.size (Array.getElem?_eq_some_iff.1 HY6.out).1).trans HY6.out)
  have HX0 := Lib.hid ((HBW.out.block w.heap.size (Array.getElem?_eq_some_iff.1 HX6.out).1).trans HX6.out)
  rw [hW0]
  clear hW0
  have HB0 := Lib.hid (HB6.out.trans ((HB67.out.trans (HBW.out.mono HB67.out.size)).mono HB6.out.size))
  have HB05 := Lib.hid (HB67.out.trans (HBW.out.mono HB67.out.size))
  have HB03 := Lib.hid (HB5.out.trans (HB05.out.mono HB5.out.size))
  have HSS := Lib.hid (fun (W1 : World) (hW : Below W0.heap.size W0 W1) => (show (ldP (.pointer (some ⟨w.heap.size, 0, none⟩))).run Tryz.prog W1 = .ok (.agg #[.slice A n c, .int .i64 hd]) W1 ∧ (ldP (.pointer (some ⟨w3.heap.size, 0, none⟩))).run Tryz.prog W1 = .ok (.agg #[.slice A' n' c', .int .i64 (lh + lp)]) W1 ∧ (ldP (.pointer (some ⟨w6.heap.size, 0, none⟩))).run Tryz.prog W1 = .ok (.agg #[.slice A6 n6 c6, .int .i64 (mh + mp)]) W1 from
    ⟨ldP_run ((hW.block _ (Array.getElem?_eq_some_iff.1 HX0.out).1).trans HX0.out), ldP_run ((hW.block _ (Array.getElem?_eq_some_iff.1 HY0.out).1).trans HY0.out), ldP_run ((hW.block _ (Array.getElem?_eq_some_iff.1 HZ0.out).1).trans HZ0.out)⟩))
  have hlen2 := HLEN2.out
  have C1 := Lib.hid (knot_from (HL.out.below HB0.out) (HU1.out.below HBW.out) (HP.out.below HB0.out) HNE.out H0.out (by omega))
  have C2 := Lib.hid (knot_from (HU2.out.below HBW.out) (HT2.out.below HB03.out) (HP'.out.below HB03.out) HPT.out.2.2.2.1 HPT.out.2.2.2.2 (by omega))
  have C3 := Lib.hid (fun (W : World) (hW : Below W0.heap.size W0 W) (v v' : Value) (hv : TrW W v (.node l rs hd (lift mp m1) 0)) (hv' : TrW W v' (.node (lift mp m2) ls (lh + lp) (lift lp l2) 0)) => knot_from hv hv' ((HP6.out.below HBW.out).below hW) HPM.out.2.2.2.1 HPM.out.2.2.2.2 (by rw [cells_knot, List.length_append, List.length_append, run_len, cells_knot, List.length_append, List.length_append, run_len]; omega) W (Below.refl _ _))
  clear hlen2
  obtain ⟨s1, s2, s3⟩ := HSS.out _ (Below.refl _ _)
  go_region_held3 (fun w' => (ldP (.pointer (some ⟨w.heap.size, 0, none⟩))).run Tryz.prog w' = .ok (.agg #[.slice A n c, .int .i64 hd]) w' ∧ (ldP (.pointer (some ⟨w3.heap.size, 0, none⟩))).run Tryz.prog w' = .ok (.agg #[.slice A' n' c', .int .i64 (lh + lp)]) w' ∧ (ldP (.pointer (some ⟨w6.heap.size, 0, none⟩))).run Tryz.prog w' = .ok (.agg #[.slice A6 n6 c6, .int .i64 (mh + mp)]) w')
    (first | (with_reducible exact HSS.out _ (hbR.trans (hbT.mono hbR.size))) | (with_reducible exact HSS.out _ hbR) | (with_reducible exact HSS.out _ hbL) | (with_reducible exact HSS.out _ (Below.refl _ _).drew))
    (first
    | ((with_reducible refine (C1.out _ (Below.refl _ _).drew).mono ?_); rintro e wL ⟨⟨vL, rfl, htL⟩, hbL, -⟩)
    | ((with_reducible refine (C2.out _ hbL).mono ?_); rintro e wR ⟨⟨vR, rfl, htR⟩, hbR, hcR⟩)
    | ((with_reducible refine (C3.out _ hbR vL vR (htL.below hcR) htR).mono ?_); rintro e wT ⟨⟨vT, rfl, htT⟩, hbT, -⟩))
  go_wp2_with fail
  go_ret
  refine ⟨⟨_, _, rfl, htT, ?_⟩, HB0.out.trans ((hbR.trans (hbT.mono hbR.size)).mono HB0.out.size)⟩
  rw [cells_knot, cells_knot, cells_knot, cells_open, HM.out, cells_open]
  simp
end
/-- weigh's contract. -/
theorem weigh_any (vl vr pv : Value) (l r : T) (rs : List Int) (hd : Int) (w : World) (hl : TrW w vl l) (hr : TrW w vr r) (hp : Pc w pv rs hd) (hn : rs ≠ []) (h0 : 0 ≤ hd ∧ hd ≤ M) (hlen : (cells l).length + rs.length + (cells r).length ≤ 2097152) :
    Calls Tryz.prog 142 #[vl, pv, vr] w (RetC (cells l ++ run rs hd ++ cells r) w) := by
  by_cases h1 : hgt r + 1 < hgt l
  · obtain ⟨l1, ls, lh, l2, lp, rfl⟩ := hgt_pos (show 0 < hgt l by omega)
    by_cases h2 : hgt l2 ≤ hgt l1
    · exact weigh_left1 vl vr pv l1 l2 r ls rs lh lp hd w hl hr hp hn h0 hlen h1 h2
    · exact weigh_left2 vl vr pv l1 l2 r ls rs lh lp hd w hl hr hp hn h0 hlen h1 (by omega)
  · by_cases h2 : hgt l + 1 < hgt r
    · obtain ⟨l1, ls, lh, l2, lp, rfl⟩ := hgt_pos (show 0 < hgt r by omega)
      by_cases h3 : hgt l1 ≤ hgt l2
      · exact weigh_right1 vl vr pv l l1 l2 ls rs lh lp hd w hl hr hp hn h0 hlen h2 h3
      · exact weigh_right2 vl vr pv l l1 l2 ls rs lh lp hd w hl hr hp hn h0 hlen h2 (by omega)
    · exact weigh_even vl vr pv l r rs hd w hl hr hp hn h0 hlen h1 h2
end Go.Proofs.YtkdhomiieenfnaaGreatDoor.Rp

namespace Go.Proofs.YtkdhomiieenfnaaGreatDoor.Rp
open Go.RowKit Go.Proofs Go.Proofs.YtkdhomiieenfnaaGreatDoor.U Go.Proofs.YtkdhomiieenfnaaGreatDoor.Txt
set_option linter.unusedVariables false
set_option linter.unusedSimpArgs false
section
attribute [local go_sem ↓] ldP_fold
attribute [local go_sem] fldN fldH fldLo fldHi

set_option maxRecDepth 100000 in
set_option maxHeartbeats 8000000 in
theorem join_even (vl vr pv : Value) (l r : T) (rs : List Int) (hd : Int) (w : World) (hl : TrW w vl l) (hr : TrW w vr r) (hp : Pc w pv rs hd) (hn : rs ≠ []) (h0 : 0 ≤ hd ∧ hd ≤ M) (hlen : (cells l).length + rs.length + (cells r).length ≤ 2097152)
    (h1 : ¬ hgt r + 1 < hgt l) (h2 : ¬ hgt l + 1 < hgt r) :
    Calls Tryz.prog 118 #[vl, pv, vr] w (RetC (cells l ++ run rs hd ++ cells r) w) := by
  obtain ⟨A, c, rfl, hc, hcs⟩ := hp
  have HL := Lib.hid hl
  have HR := Lib.hid hr
  have hok1 := smT_ok hl.wf hl.len
  have hok2 := smT_ok hr.wf hr.len
  have HK := Lib.hid (fun (W : World) (hW : Below w.heap.size w W) => knot_from hl hr ⟨A, c, rfl, hc, hcs⟩ hn h0 hlen W hW)
  have HA1 := Lib.hid (fun W1 (h : Below w.heap.size w W1) => all_any vl l W1 (hl.tr.below h))
  have HA2 := Lib.hid (fun W1 (h : Below w.heap.size w W1) => all_any vr r W1 (hr.tr.below h))
  have hg1 : (smT l).h = (hgt l : Int) := rfl
  have hg2 : (smT r).h = (hgt r : Int) := rfl
  have b1 := hok1.h
  have b2 := hok2.h
  obtain ⟨n, hn'⟩ : ∃ n, rs.length = n := ⟨_, rfl⟩
  rw [hn'] at HK ⊢
  obtain ⟨sl, hsl⟩ : ∃ sl, smT l = sl := ⟨_, rfl⟩
  obtain ⟨sr, hsr⟩ : ∃ sr, smT r = sr := ⟨_, rfl⟩
  rw [hsl] at HA1 hg1 b1
  rw [hsr] at HA2 hg2 b2
  obtain ⟨n1, v1, h1', lo1, c1, hi1⟩ := sl
  obtain ⟨n2, v2, h2', lo2, c2, hi2⟩ := sr
  simp only at hg1 hg2 b1 b2
  have g1 : ¬ h2' + 1 < h1' := by omega
  have g2 : ¬ h1' + 1 < h2' := by omega
  clear hl hr hc hcs hn h0 hlen hok1 hok2 hg1 hg2 hn' hsl hsr h1 h2
  unfold Sm.v at HA1 HA2
  go_enter Tryz.func118, Tryz.ntmps118
  go_wp2_with fail
  refine (HA1.out _ (below_alloc1 _ _)).mono ?_
  rintro e w1 ⟨rfl, hb1⟩
  have HB1 := Lib.hid ((below_alloc1 w (.cells #[.slice A n c, .int .i64 hd] 114)).trans (hb1.mono (by simp)))
  have HX1 := Lib.hid ((hb1.block w.heap.size (by simp)).trans (heap_at rfl))
  clear hb1
  go_wp2_with fail
  refine (HA2.out _ HB1.out).mono ?_
  rintro e w2 ⟨rfl, hb2⟩
  have HB2 := Lib.hid (HB1.out.trans (hb2.mono HB1.out.size))
  have HX2 := Lib.hid ((hb2.block w.heap.size (Array.getElem?_eq_some_iff.1 HX1.out).1).trans HX1.out)
  have x2 := ldP_run HX2.out
  clear hb2
  go_wp2_with fail
  refine (HK.out _ HB2.out).mono ?_
  rintro e w3 ⟨⟨v3, rfl, ht3⟩, hb3, -⟩
  have HT3 := Lib.hid ht3
  have HB3 := Lib.hid hb3
  clear ht3 hb3
  go_wp2_with fail
  go_ret
  exact ⟨⟨_, _, rfl, HT3.out, cells_knot _ _ _ _⟩, HB3.out⟩
set_option maxRecDepth 100000 in
set_option maxHeartbeats 8000000 in
theorem join_left (vl vr pv : Value) (l1 l2 r : T) (ls rs : List Int) (lh lp hd : Int) (w : World) (hl : TrW w vl (.node l1 ls lh l2 lp)) (hr : TrW w vr r) (hp : Pc w pv rs hd) (hn : rs ≠ []) (h0 : 0 ≤ hd ∧ hd ≤ M) (hlen : (cells (.node l1 ls lh l2 lp)).length + rs.length + (cells r).length ≤ 2097152)
    (h1 : hgt r + 1 < hgt (.node l1 ls lh l2 lp)) (k : Nat) (hk : hgt l2 + hgt r ≤ k) (IH : ∀ (vl vr pv : Value) (l r : T) (rs : List Int) (hd : Int) (w : World), hgt l + hgt r ≤ k → TrW w vl l → TrW w vr r → Pc w pv rs hd → rs ≠ [] → (0 ≤ hd ∧ hd ≤ M) → (cells l).length + rs.length + (cells r).length ≤ 2097152 → Calls Tryz.prog 118 #[vl, pv, vr] w (RetC (cells l ++ run rs hd ++ cells r) w)) :
    Calls Tryz.prog 118 #[vl, pv, vr] w (RetC (cells (.node l1 ls lh l2 lp) ++ run rs hd ++ cells r) w) := by
  obtain ⟨A, c, rfl, hc, hcs⟩ := hp
  have HR := Lib.hid hr
  have HP := Lib.hid (show Pc w (.agg #[.slice A rs.length c, .int .i64 hd]) rs hd from ⟨A, c, rfl, hc, hcs⟩)
  have hok1 := smT_ok hl.wf hl.len
  have hok2 := smT_ok hr.wf hr.len
  have hpt := hl.wf.parts
  have HPT := Lib.hid hpt
  have HLEN := Lib.hid hlen
  have HNE := Lib.hid hn
  have H0 := Lib.hid h0
  have HO := Lib.hid (fun (W : World) (hW : Below w.heap.size w W) => open_any vl l1 l2 ls lh lp W (hl.below hW))
  have HA1 := Lib.hid (fun W1 (h : Below w.heap.size w W1) => all_any vl (.node l1 ls lh l2 lp) W1 (hl.tr.below h))
  have HA2 := Lib.hid (fun W1 (h : Below w.heap.size w W1) => all_any vr r W1 (hr.tr.below h))
  have hg1 : (smT (.node l1 ls lh l2 lp)).h = (hgt (.node l1 ls lh l2 lp) : Int) := rfl
  have hg2 : (smT r).h = (hgt r : Int) := rfl
  have b1 := hok1.h
  have b2 := hok2.h
  obtain ⟨n, hn'⟩ : ∃ n, rs.length = n := ⟨_, rfl⟩
  rw [hn'] at HP ⊢
  obtain ⟨sl, hsl⟩ : ∃ sl, smT (.node l1 ls lh l2 lp) = sl := ⟨_, rfl⟩
  obtain ⟨sr, hsr⟩ : ∃ sr, smT r = sr := ⟨_, rfl⟩
  rw [hsl] at HA1 hg1 b1
  rw [hsr] at HA2 hg2 b2
  obtain ⟨n1, v1, h1', lo1, c1, hi1⟩ := sl
  obtain ⟨n2, v2, h2', lo2, c2, hi2⟩ := sr
  simp only at hg1 hg2 b1 b2
  have g1 : h2' + 1 < h1' := by omega
  have HK := Lib.hid hk
  have HIH := Lib.hid IH
  clear hl hr hc hcs hn h0 hlen hok1 hok2 hg1 hg2 hn' hsl hsr h1 hk IH hpt
  unfold Sm.v at HA1 HA2
  go_enter Tryz.func118, Tryz.ntmps118
  go_wp2_with fail
  refine (HA1.out _ (below_alloc1 _ _)).mono ?_
  rintro e w1 ⟨rfl, hb1⟩
  have HB1 := Lib.hid ((below_alloc1 w (.cells #[.slice A n c, .int .i64 hd] 114)).trans (hb1.mono (by simp)))
  have HX1 := Lib.hid ((hb1.block w.heap.size (by simp)).trans (heap_at rfl))
  clear hb1
  go_wp2_with fail
  refine (HA2.out _ HB1.out).mono ?_
  rintro e w2 ⟨rfl, hb2⟩
  have HB2 := Lib.hid (HB1.out.trans (hb2.mono HB1.out.size))
  have HX2 := Lib.hid ((hb2.block w.heap.size (Array.getElem?_eq_some_iff.1 HX1.out).1).trans HX1.out)
  clear hb2
  go_wp2_with fail
  refine (HO.out _ HB2.out).mono ?_
  rintro e w3 ⟨⟨vl1, vlp, vl2, rfl, ht1, ht2, A', c', rfl, hc', hcs'⟩, hb3⟩
  have HB3 := Lib.hid (HB2.out.trans (hb3.mono HB2.out.size))
  have HX3 := Lib.hid ((hb3.block w.heap.size (Array.getElem?_eq_some_iff.1 HX2.out).1).trans HX2.out)
  obtain ⟨n', hn'⟩ : ∃ n', ls.length = n' := ⟨_, rfl⟩
  have HN' := Lib.hid hn'
  have HP' := Lib.hid (show Pc w3 (.agg #[.slice A' n' c', .int .i64 (lh + lp)]) ls (lh + lp) from ⟨A', c', by rw [hn'], hc', hcs'⟩)
  have HT1 := Lib.hid ht1
  have HT2 := Lib.hid ht2
  rw [hn']
  clear hb3 ht1 ht2 hc' hcs' hn'
  go_wp2_with fail
  obtain ⟨w5, hw5⟩ : ∃ w5, w3.alloc (.cells #[.slice A' n' c', .int .i64 (lh + lp)] 114) = w5 := ⟨_, rfl⟩
  have HB5 := Lib.hid (show Below w3.heap.size w3 w5 by rw [← hw5]; exact below_alloc1 _ _)
  have HY5 := Lib.hid (show w5.heap[w3.heap.size]? = some (.cells #[.slice A' n' c', .int .i64 (lh + lp)] 114 (0, 0)) by rw [← hw5]; exact heap_at rfl)
  rw [hw5]
  clear hw5
  have HB6 := Lib.hid (HB3.out.trans (HB5.out.mono HB3.out.size))
  have HX5 := Lib.hid ((HB5.out.block w.heap.size (Array.getElem?_eq_some_iff.1 HX3.out).1).trans HX3.out)
  have HSS := Lib.hid (fun (W1 : World) (hW : Below w5.heap.size w5 W1) => (show (ldP (.pointer (some ⟨w.heap.size, 0, none⟩))).run Tryz.prog W1 = .ok (.agg #[.slice A n c, .int .i64 hd]) W1 ∧ (ldP (.pointer (some ⟨w3.heap.size, 0, none⟩))).run Tryz.prog W1 = .ok (.agg #[.slice A' n' c', .int .i64 (lh + lp)]) W1 from
    ⟨ldP_run ((hW.block _ (Array.getElem?_eq_some_iff.1 HX5.out).1).trans HX5.out), ldP_run ((hW.block _ (Array.getElem?_eq_some_iff.1 HY5.out).1).trans HY5.out)⟩))
  have hlen2 := HLEN.out
  rw [node_len] at hlen2
  have C1 := Lib.hid (fun (W : World) (hW : Below w5.heap.size w5 W) => (HIH.out vl2 vr _ (lift lp l2) r rs hd W (by rw [hgt_lift]; exact HK.out) ((HT2.out.below HB5.out).below hW) ((HR.out.below HB6.out).below hW) ((HP.out.below HB6.out).below hW) HNE.out H0.out (by omega)).mono (R' := fun e w' => (∃ v t, e = .returned v ∧ TrW w' v t ∧ cells t = cells (lift lp l2) ++ run rs hd ++ cells r) ∧ Below w5.heap.size w5 w') fun e w' ⟨h1, h2⟩ => ⟨h1, hW.trans (h2.mono hW.size)⟩)
  have C2 := Lib.hid (fun (W : World) (hW : Below w5.heap.size w5 W) (v : Value) (t : T) (hv : TrW W v t) (ht : cells t = cells (lift lp l2) ++ run rs hd ++ cells r) => (weigh_any vl1 v _ (lift lp l1) t ls (lh + lp) W ((HT1.out.below HB5.out).below hW) hv ((HP'.out.below HB5.out).below hW) HPT.out.2.2.2.1 HPT.out.2.2.2.2 (by rw [ht, List.length_append, List.length_append, run_len]; omega)).mono (R' := fun e w' => (∃ v t', e = .returned v ∧ TrW w' v t' ∧ cells t' = cells (lift lp l1) ++ run ls (lh + lp) ++ cells t) ∧ Below w5.heap.size w5 w') fun e w' ⟨h1, h2⟩ => ⟨h1, hW.trans (h2.mono hW.size)⟩)
  clear hlen2
  obtain ⟨s1, s2⟩ := HSS.out _ (Below.refl _ _)
  go_wp2_with fail
  go_region_held3 (fun w' => (ldP (.pointer (some ⟨w.heap.size, 0, none⟩))).run Tryz.prog w' = .ok (.agg #[.slice A n c, .int .i64 hd]) w' ∧ (ldP (.pointer (some ⟨w3.heap.size, 0, none⟩))).run Tryz.prog w' = .ok (.agg #[.slice A' n' c', .int .i64 (lh + lp)]) w')
    (first | (with_reducible exact HSS.out _ hbR) | (with_reducible exact HSS.out _ hbL) | (with_reducible exact HSS.out _ (Below.refl _ _).drew))
    (first
    | ((with_reducible refine (C1.out _ (Below.refl _ _).drew).mono ?_); rintro e wL ⟨⟨vL, tL, rfl, htL, hcL⟩, hbL⟩)
    | ((with_reducible refine (C2.out _ hbL vL tL htL hcL).mono ?_); rintro e wR ⟨⟨vR, tR, rfl, htR, hcR⟩, hbR⟩))
  go_wp2_with fail
  go_ret
  refine ⟨⟨_, _, rfl, htR, ?_⟩, HB6.out.trans (hbR.mono HB6.out.size)⟩
  rw [hcR, hcL, cells_open]
  simp
set_option maxRecDepth 100000 in
set_option maxHeartbeats 8000000 in
theorem join_right (vl vr pv : Value) (l l1 l2 : T) (ls rs : List Int) (lh lp hd : Int) (w : World) (hl : TrW w vl l) (hr : TrW w vr (.node l1 ls lh l2 lp)) (hp : Pc w pv rs hd) (hn : rs ≠ []) (h0 : 0 ≤ hd ∧ hd ≤ M) (hlen : (cells l).length + rs.length + (cells (.node l1 ls lh l2 lp)).length ≤ 2097152)
    (h1 : hgt l + 1 < hgt (.node l1 ls lh l2 lp)) (k : Nat) (hk : hgt l + hgt l1 ≤ k) (IH : ∀ (vl vr pv : Value) (l r : T) (rs : List Int) (hd : Int) (w : World), hgt l + hgt r ≤ k → TrW w vl l → TrW w vr r → Pc w pv rs hd → rs ≠ [] → (0 ≤ hd ∧ hd ≤ M) → (cells l).length + rs.length + (cells r).length ≤ 2097152 → Calls Tryz.prog 118 #[vl, pv, vr] w (RetC (cells l ++ run rs hd ++ cells r) w)) :
    Calls Tryz.prog 118 #[vl, pv, vr] w (RetC (cells l ++ run rs hd ++ cells (.node l1 ls lh l2 lp)) w) := by
  obtain ⟨A, c, rfl, hc, hcs⟩ := hp
  have HL := Lib.hid hl
  have HP := Lib.hid (show Pc w (.agg #[.slice A rs.length c, .int .i64 hd]) rs hd from ⟨A, c, rfl, hc, hcs⟩)
  have hok1 := smT_ok hl.wf hl.len
  have hok2 := smT_ok hr.wf hr.len
  have hpt := hr.wf.parts
  have HPT := Lib.hid hpt
  have HLEN := Lib.hid hlen
  have HNE := Lib.hid hn
  have H0 := Lib.hid h0
  have HO := Lib.hid (fun (W : World) (hW : Below w.heap.size w W) => open_any vr l1 l2 ls lh lp W (hr.below hW))
  have HA1 := Lib.hid (fun W1 (h : Below w.heap.size w W1) => all_any vl l W1 (hl.tr.below h))
  have HA2 := Lib.hid (fun W1 (h : Below w.heap.size w W1) => all_any vr (.node l1 ls lh l2 lp) W1 (hr.tr.below h))
  have hg1 : (smT l).h = (hgt l : Int) := rfl
  have hg2 : (smT (.node l1 ls lh l2 lp)).h = (hgt (.node l1 ls lh l2 lp) : Int) := rfl
  have b1 := hok1.h
  have b2 := hok2.h
  obtain ⟨n, hn'⟩ : ∃ n, rs.length = n := ⟨_, rfl⟩
  rw [hn'] at HP ⊢
  obtain ⟨sl, hsl⟩ : ∃ sl, smT l = sl := ⟨_, rfl⟩
  obtain ⟨sr, hsr⟩ : ∃ sr, smT (.node l1 ls lh l2 lp) = sr := ⟨_, rfl⟩
  rw [hsl] at HA1 hg1 b1
  rw [hsr] at HA2 hg2 b2
  obtain ⟨n1, v1, h1', lo1, c1, hi1⟩ := sl
  obtain ⟨n2, v2, h2', lo2, c2, hi2⟩ := sr
  simp only at hg1 hg2 b1 b2
  have g1 : h1' + 1 < h2' := by omega
  have g1' : ¬ h2' + 1 < h1' := by omega
  have HK := Lib.hid hk
  have HIH := Lib.hid IH
  clear hl hr hc hcs hn h0 hlen hok1 hok2 hg1 hg2 hn' hsl hsr h1 hk IH hpt
  unfold Sm.v at HA1 HA2
  go_enter Tryz.func118, Tryz.ntmps118
  go_wp2_with fail
  refine (HA1.out _ (below_alloc1 _ _)).mono ?_
  rintro e w1 ⟨rfl, hb1⟩
  have HB1 := Lib.hid ((below_alloc1 w (.cells #[.slice A n c, .int .i64 hd] 114)).trans (hb1.mono (by simp)))
  have HX1 := Lib.hid ((hb1.block w.heap.size (by simp)).trans (heap_at rfl))
  clear hb1
  go_wp2_with fail
  refine (HA2.out _ HB1.out).mono ?_
  rintro e w2 ⟨rfl, hb2⟩
  have HB2 := Lib.hid (HB1.out.trans (hb2.mono HB1.out.size))
  have HX2 := Lib.hid ((hb2.block w.heap.size (Array.getElem?_eq_some_iff.1 HX1.out).1).trans HX1.out)
  clear hb2
  go_wp2_with fail
  refine (HO.out _ HB2.out).mono ?_
  rintro e w3 ⟨⟨vl1, vlp, vl2, rfl, ht1, ht2, A', c', rfl, hc', hcs'⟩, hb3⟩
  have HB3 := Lib.hid (HB2.out.trans (hb3.mono HB2.out.size))
  have HX3 := Lib.hid ((hb3.block w.heap.size (Array.getElem?_eq_some_iff.1 HX2.out).1).trans HX2.out)
  obtain ⟨n', hn'⟩ : ∃ n', ls.length = n' := ⟨_, rfl⟩
  have HN' := Lib.hid hn'
  have HP' := Lib.hid (show Pc w3 (.agg #[.slice A' n' c', .int .i64 (lh + lp)]) ls (lh + lp) from ⟨A', c', by rw [hn'], hc', hcs'⟩)
  have HT1 := Lib.hid ht1
  have HT2 := Lib.hid ht2
  rw [hn']
  clear hb3 ht1 ht2 hc' hcs' hn'
  go_wp2_with fail
  obtain ⟨w5, hw5⟩ : ∃ w5, w3.alloc (.cells #[.slice A' n' c', .int .i64 (lh + lp)] 114) = w5 := ⟨_, rfl⟩
  have HB5 := Lib.hid (show Below w3.heap.size w3 w5 by rw [← hw5]; exact below_alloc1 _ _)
  have HY5 := Lib.hid (show w5.heap[w3.heap.size]? = some (.cells #[.slice A' n' c', .int .i64 (lh + lp)] 114 (0, 0)) by rw [← hw5]; exact heap_at rfl)
  rw [hw5]
  clear hw5
  have HB6 := Lib.hid (HB3.out.trans (HB5.out.mono HB3.out.size))
  have HX5 := Lib.hid ((HB5.out.block w.heap.size (Array.getElem?_eq_some_iff.1 HX3.out).1).trans HX3.out)
  have HSS := Lib.hid (fun (W1 : World) (hW : Below w5.heap.size w5 W1) => (show (ldP (.pointer (some ⟨w.heap.size, 0, none⟩))).run Tryz.prog W1 = .ok (.agg #[.slice A n c, .int .i64 hd]) W1 ∧ (ldP (.pointer (some ⟨w3.heap.size, 0, none⟩))).run Tryz.prog W1 = .ok (.agg #[.slice A' n' c', .int .i64 (lh + lp)]) W1 from
    ⟨ldP_run ((hW.block _ (Array.getElem?_eq_some_iff.1 HX5.out).1).trans HX5.out), ldP_run ((hW.block _ (Array.getElem?_eq_some_iff.1 HY5.out).1).trans HY5.out)⟩))
  have hlen2 := HLEN.out
  rw [node_len] at hlen2
  have C1 := Lib.hid (fun (W : World) (hW : Below w5.heap.size w5 W) => (HIH.out vl vl1 _ l (lift lp l1) rs hd W (by rw [hgt_lift]; exact HK.out) ((HL.out.below HB6.out).below hW) ((HT1.out.below HB5.out).below hW) ((HP.out.below HB6.out).below hW) HNE.out H0.out (by omega)).mono (R' := fun e w' => (∃ v t, e = .returned v ∧ TrW w' v t ∧ cells t = cells l ++ run rs hd ++ cells (lift lp l1)) ∧ Below w5.heap.size w5 w') fun e w' ⟨h1, h2⟩ => ⟨h1, hW.trans (h2.mono hW.size)⟩)
  have C2 := Lib.hid (fun (W : World) (hW : Below w5.heap.size w5 W) (v : Value) (t : T) (hv : TrW W v t) (ht : cells t = cells l ++ run rs hd ++ cells (lift lp l1)) => (weigh_any v vl2 _ t (lift lp l2) ls (lh + lp) W hv ((HT2.out.below HB5.out).below hW) ((HP'.out.below HB5.out).below hW) HPT.out.2.2.2.1 HPT.out.2.2.2.2 (by rw [ht, List.length_append, List.length_append, run_len]; omega)).mono (R' := fun e w' => (∃ v t', e = .returned v ∧ TrW w' v t' ∧ cells t' = cells t ++ run ls (lh + lp) ++ cells (lift lp l2)) ∧ Below w5.heap.size w5 w') fun e w' ⟨h1, h2⟩ => ⟨h1, hW.trans (h2.mono hW.size)⟩)
  clear hlen2
  obtain ⟨s1, s2⟩ := HSS.out _ (Below.refl _ _)
  go_wp2_with fail
  go_region_held3 (fun w' => (ldP (.pointer (some ⟨w.heap.size, 0, none⟩))).run Tryz.prog w' = .ok (.agg #[.slice A n c, .int .i64 hd]) w' ∧ (ldP (.pointer (some ⟨w3.heap.size, 0, none⟩))).run Tryz.prog w' = .ok (.agg #[.slice A' n' c', .int .i64 (lh + lp)]) w')
    (first | (with_reducible exact HSS.out _ hbR) | (with_reducible exact HSS.out _ hbL) | (with_reducible exact HSS.out _ (Below.refl _ _).drew))
    (first
    | ((with_reducible refine (C1.out _ (Below.refl _ _).drew).mono ?_); rintro e wL ⟨⟨vL, tL, rfl, htL, hcL⟩, hbL⟩)
    | ((with_reducible refine (C2.out _ hbL vL tL htL hcL).mono ?_); rintro e wR ⟨⟨vR, tR, rfl, htR, hcR⟩, hbR⟩))
  go_wp2_with fail
  go_ret
  refine ⟨⟨_, _, rfl, htR, ?_⟩, HB6.out.trans (hbR.mono HB6.out.size)⟩
  rw [hcR, hcL, cells_open]
  simp
end
theorem join_all : ∀ (k : Nat) (vl vr pv : Value) (l r : T) (rs : List Int) (hd : Int) (w : World), hgt l + hgt r ≤ k → TrW w vl l → TrW w vr r → Pc w pv rs hd → rs ≠ [] → (0 ≤ hd ∧ hd ≤ M) → (cells l).length + rs.length + (cells r).length ≤ 2097152 → Calls Tryz.prog 118 #[vl, pv, vr] w (RetC (cells l ++ run rs hd ++ cells r) w) := by
  intro k
  induction k with
  | zero =>
    intro vl vr pv l r rs hd w hk hl hr hp hn h0 hlen
    exact join_even vl vr pv l r rs hd w hl hr hp hn h0 hlen (by omega) (by omega)
  | succ k ih =>
    intro vl vr pv l r rs hd w hk hl hr hp hn h0 hlen
    by_cases h1 : hgt r + 1 < hgt l
    · obtain ⟨l1, ls, lh, l2, lp, rfl⟩ := hgt_pos (show 0 < hgt l by omega)
      exact join_left vl vr pv l1 l2 r ls rs lh lp hd w hl hr hp hn h0 hlen h1 k (by simp only [hgt] at hk; omega) ih
    · by_cases h2 : hgt l + 1 < hgt r
      · obtain ⟨l1, ls, lh, l2, lp, rfl⟩ := hgt_pos (show 0 < hgt r by omega)
        exact join_right vl vr pv l l1 l2 ls rs lh lp hd w hl hr hp hn h0 hlen h2 k (by simp only [hgt] at hk; omega) ih
      · exact join_even vl vr pv l r rs hd w hl hr hp hn h0 hlen h1 h2
/-- join's contract. -/
theorem join_any (vl vr pv : Value) (l r : T) (rs : List Int) (hd : Int) (w : World) (hl : TrW w vl l) (hr : TrW w vr r) (hp : Pc w pv rs hd) (hn : rs ≠ []) (h0 : 0 ≤ hd ∧ hd ≤ M) (hlen : (cells l).length + rs.length + (cells r).length ≤ 2097152) :
    Calls Tryz.prog 118 #[vl, pv, vr] w (RetC (cells l ++ run rs hd ++ cells r) w) := join_all _ vl vr pv l r rs hd w (Nat.le_refl _) hl hr hp hn h0 hlen
end Go.Proofs.YtkdhomiieenfnaaGreatDoor.Rp

namespace Go.Proofs.YtkdhomiieenfnaaGreatDoor.Rp
open Go.RowKit Go.Proofs Go.Proofs.YtkdhomiieenfnaaGreatDoor.U Go.Proofs.YtkdhomiieenfnaaGreatDoor.Txt
set_option linter.unusedVariables false
set_option linter.unusedSimpArgs false

/-- Two stores into a block. -/
def put2 (w : World) (B : Nat) (u v : Value) : World := (w.setCell ⟨B, 0, none⟩ u).setCell ⟨B, 1, none⟩ v
theorem put2_other {w : World} {B k : Nat} {u v : Value} (h : k ≠ B) : (put2 w B u v).heap[k]? = w.heap[k]? := by
  simp [put2, World.setCell, Array.getElem?_modify, Ne.symm h]
theorem put2_heap {w : World} {B : Nat} {x y u v : Value} {T : TypeId} {fz : Nat × Nat} (h : w.heap[B]? = some (.cells #[x, y] T fz)) : (put2 w B u v).heap[B]? = some (.cells #[u, v] T fz) := by
  simp [put2, World.setCell, Array.getElem?_modify, h]
theorem put2_below {b : Nat} {a w : World} {B : Nat} {u v : Value} (h : Below b a w) (hB : b ≤ B) : Below b a (put2 w B u v) := (h.setCell (p := ⟨B, 0, none⟩) hB _).setCell (p := ⟨B, 1, none⟩) hB _
theorem Few.of2 {w : World} {B : Nat} {x y : Value} {T : TypeId} {fz : Nat × Nat} (h : w.heap[B]? = some (.cells #[x, y] T fz)) (hx : ∀ r, x ≠ .int .i32 r) (hy : ∀ r, y ≠ .int .i32 r) : Few w B := ⟨_, _, _, h, by show 2 < 7; omega, fun j r hj => by
  match j, hj with
  | 0, hj => simp at hj; exact hx r hj
  | 1, hj => simp at hj; exact hy r hj
  | j + 2, hj => simp at hj⟩
theorem TrW.put2 {w : World} {B : Nat} (h : Few w B) {u v : Value} (hu : ∀ r, u ≠ .int .i32 r) {x : Value} {t : T} (ht : TrW w x t) : TrW (put2 w B u v) x t := (ht.put h 0 u).put (h.put 0 hu) 1 v
theorem Pc.put2 {w : World} {B : Nat} (h : Few w B) {u v : Value} (hu : ∀ r, u ≠ .int .i32 r) {x : Value} {rs : List Int} {k : Int} (hp : Pc w x rs k) : Pc (put2 w B u v) x rs k := by
  obtain ⟨A, c, h1, h2, h3⟩ := hp
  exact ⟨A, c, h1, h2, Rn.put (h.put 0 hu) 1 v (Rn.put h 0 u h3)⟩
theorem two_facts {w : World} {B : Nat} {x y : Value} {T : TypeId} (h : w.heap[B]? = some (.cells #[x, y] T (0, 0))) : (w.cell? ⟨B, 0, none⟩ = some x ∧ w.cell? ⟨B, 1, none⟩ = some y) ∧ (w.frozen? ⟨B, 0, none⟩ = false ∧ w.frozen? ⟨B, 1, none⟩ = false) ∧ B < w.heap.size :=
  ⟨⟨by rw [Lib.cell_of_heap h]; rfl, by rw [Lib.cell_of_heap h]; rfl⟩, ⟨Lib.frozen_of_heap h 0, Lib.frozen_of_heap h 1⟩, (Array.getElem?_eq_some_iff.1 h).1⟩
/-- What popLast answers. -/
def PopL (cs : List Cl) (w : World) (e : Ending) (w' : World) : Prop := (∃ v t vp rs h, e = .returned (.tuple #[v, vp]) ∧ TrW w' v t ∧ Pc w' vp rs h ∧ rs ≠ [] ∧ (0 ≤ h ∧ h ≤ M) ∧ cells t ++ run rs h = cs) ∧ Below w.heap.size w w'
def PopF (cs : List Cl) (w : World) (e : Ending) (w' : World) : Prop := (∃ v t vp rs h, e = .returned (.tuple #[vp, v]) ∧ TrW w' v t ∧ Pc w' vp rs h ∧ rs ≠ [] ∧ (0 ≤ h ∧ h ≤ M) ∧ run rs h ++ cells t = cs) ∧ Below w.heap.size w w'
section
attribute [local go_sem ↓] ldP_fold

set_option maxRecDepth 100000 in
set_option maxHeartbeats 8000000 in
theorem popLast_step (v : Value) (l r : T) (ls : List Int) (lh lp : Int) (w : World) (ht : TrW w v (.node l ls lh r lp))
    (IH : ∀ (vr : Value) (w : World), r ≠ .nil → TrW w vr (lift lp r) → Calls Tryz.prog 119 #[vr] w (PopL (cells (lift lp r)) w)) :
    Calls Tryz.prog 119 #[v] w (PopL (cells (.node l ls lh r lp)) w) := by
  have HO := Lib.hid (open_any v l r ls lh lp (w.alloc (.cells #[.slice none 0 0, .int .i64 0] 114)) (ht.below (below_alloc1 _ _)))
  have HPT := Lib.hid ht.wf.parts
  have hlen := ht.len
  rw [node_len] at hlen
  have HLEN := Lib.hid hlen
  have HIH := Lib.hid IH
  clear ht IH hlen
  go_enter Tryz.func119, Tryz.ntmps119
  go_wp2_with fail
  refine HO.out.mono ?_
  rintro e w1 ⟨⟨vl, vp, vr, rfl, ht1, ht2, A, c, rfl, hc, hcs⟩, hb1⟩
  obtain ⟨al, rfl⟩ := ht1.tr.ptr
  obtain ⟨ar, rfl⟩ := ht2.tr.ptr
  obtain ⟨n, hn⟩ : ∃ n, ls.length = n := ⟨_, rfl⟩
  have HP := Lib.hid (show Pc w1 (.agg #[.slice A n c, .int .i64 (lh + lp)]) ls (lh + lp) from ⟨A, c, by rw [hn], hc, hcs⟩)
  have HB1 := Lib.hid ((below_alloc1 w (.cells #[.slice none 0 0, .int .i64 0] 114)).trans (hb1.mono (by simp)))
  have HX1 := Lib.hid ((hb1.block w.heap.size (by simp)).trans (heap_at rfl))
  have HT1 := Lib.hid ht1
  have HT2 := Lib.hid ht2
  rw [hn]
  clear ht1 ht2 hb1 hc hcs hn
  have HB2 := Lib.hid (below_alloc1 w1 (.cells #[.slice A n c, .int .i64 (lh + lp)] 114))
  have HY2 := Lib.hid (show (w1.alloc (.cells #[.slice A n c, .int .i64 (lh + lp)] 114)).heap[w1.heap.size]? = some (.cells #[.slice A n c, .int .i64 (lh + lp)] 114 (0, 0)) from heap_at rfl)
  have HX2 := Lib.hid ((HB2.out.block w.heap.size (Array.getElem?_eq_some_iff.1 HX1.out).1).trans HX1.out)
  have HNE := Lib.hid (show w1.heap.size ≠ w.heap.size by have := (Array.getElem?_eq_some_iff.1 HX1.out).1; omega)
  by_cases hr : r = .nil
  · subst hr
    obtain rfl : ar = none := by have := HT2.out.tr; exact Value.pointer.inj this
    go_wp2_with fail
    obtain ⟨w2, hw2⟩ : ∃ w2, w1.alloc (.cells #[.slice A n c, .int .i64 (lh + lp)] 114) = w2 := ⟨_, rfl⟩
    rw [hw2] at HB2 HY2 HX2 ⊢
    clear hw2
    have s1 := ldP_run (w := w2.drew) HY2.out
    obtain ⟨⟨y0, y1⟩, ⟨f0, f1⟩, ys⟩ := two_facts HX2.out
    go_region
    all_goals go_wp2_with fail
    all_goals
      refine bodyPost_ret (v := .tuple #[.pointer al, .agg #[.slice A n c, .int .i64 (lh + lp)]]) (by simp [results, Tryz.results119, go_sem, y0, y1, f0, f1, ys]) rfl ?_
      have hf := Few.of2 HX2.out (fun r => by simp) (fun r => by simp)
      refine ⟨⟨_, lift lp l, _, ls, lh + lp, rfl, ((HT1.out.below HB2.out).put2 hf (fun r => by simp)).below (Below.refl _ _).drew, ((HP.out.below HB2.out).put2 hf (fun r => by simp)).below (Below.refl _ _).drew, HPT.out.2.2.2.1, HPT.out.2.2.2.2, ?_⟩, (put2_below (HB1.out.trans (HB2.out.mono HB1.out.size)) (Nat.le_refl _)).drew⟩
      rw [cells_open]
      simp [lift, cells]
  · obtain ⟨a', rfl⟩ : ∃ a', ar = some a' := by
      have h := HT2.out.tr
      cases r with
      | nil => exact absurd rfl hr
      | node a b c d e => obtain ⟨b', _, _, _, _, h1, _⟩ := h; exact ⟨_, Value.pointer.inj h1⟩
    have HC := Lib.hid (HIH.out (.pointer (some a')) (w1.alloc (.cells #[.slice A n c, .int .i64 (lh + lp)] 114)) hr (HT2.out.below HB2.out))
    clear hr
    go_wp2_with fail
    refine HC.out.mono ?_
    rintro e w3 ⟨⟨vq, tq, vp', qs, qh, rfl, htq, ⟨A', c', rfl, hc', hcs'⟩, hq1, hq2, hq3⟩, hb3⟩
    obtain ⟨n', hn'⟩ : ∃ n', qs.length = n' := ⟨_, rfl⟩
    have HQ := Lib.hid (show Pc w3 (.agg #[.slice A' n' c', .int .i64 qh]) qs qh from ⟨A', c', by rw [hn'], hc', hcs'⟩)
    have HTQ := Lib.hid htq
    have HQ3 := Lib.hid hq3
    have HQ12 := Lib.hid (And.intro hq1 hq2)
    have HB3 := Lib.hid hb3
    have HB13 := Lib.hid (HB2.out.trans (hb3.mono HB2.out.size))
    have HY3 := Lib.hid ((hb3.block _ (Array.getElem?_eq_some_iff.1 HY2.out).1).trans HY2.out)
    have HX3 := Lib.hid ((hb3.block _ (Array.getElem?_eq_some_iff.1 HX2.out).1).trans HX2.out)
    rw [hn']
    clear hc' hcs' hn' htq hq1 hq2 hq3 hb3
    go_wp2_with fail
    obtain ⟨W0, hW0⟩ : ∃ W0, w3.alloc (.cells #[.slice A' n' c', .int .i64 qh] 114) = W0 := ⟨_, rfl⟩
    have HBW := Lib.hid (show Below w3.heap.size w3 W0 by rw [← hW0]; exact below_alloc1 _ _)
    have HZ0 := Lib.hid (show W0.heap[w3.heap.size]? = some (.cells #[.slice A' n' c', .int .i64 qh] 114 (0, 0)) by rw [← hW0]; exact heap_at rfl)
    have HY0 := Lib.hid ((HBW.out.block _ (Array.getElem?_eq_some_iff.1 HY3.out).1).trans HY3.out)
    have HX0 := Lib.hid ((HBW.out.block _ (Array.getElem?_eq_some_iff.1 HX3.out).1).trans HX3.out)
    rw [hW0]
    clear hW0
    have HB10 := Lib.hid (HB13.out.trans (HBW.out.mono HB13.out.size))
    have HNZ := Lib.hid (show w3.heap.size ≠ w.heap.size by have := (Array.getElem?_eq_some_iff.1 HX3.out).1; omega)
    have HSH := Lib.hid (fun (W1 : World) (h1 : W1.heap[w1.heap.size]? = some (.cells #[.slice A n c, .int .i64 (lh + lp)] 114 (0, 0))) (h2 : W1.heap[w3.heap.size]? = some (.cells #[.slice A' n' c', .int .i64 qh] 114 (0, 0))) => (show (ldP (.pointer (some ⟨w1.heap.size, 0, none⟩))).run Tryz.prog W1 = .ok (.agg #[.slice A n c, .int .i64 (lh + lp)]) W1 ∧ (ldP (.pointer (some ⟨w3.heap.size, 0, none⟩))).run Tryz.prog W1 = .ok (.agg #[.slice A' n' c', .int .i64 qh]) W1 from ⟨ldP_run h1, ldP_run h2⟩))
    have HSS := Lib.hid (fun (W1 : World) (hW : Below W0.heap.size W0 W1) => HSH.out W1 ((hW.block _ (Array.getElem?_eq_some_iff.1 HY0.out).1).trans HY0.out) ((hW.block _ (Array.getElem?_eq_some_iff.1 HZ0.out).1).trans HZ0.out))
    have HSP := Lib.hid (fun (W1 : World) (hW : Below W0.heap.size W0 W1) (u v : Value) => HSH.out (put2 W1 w.heap.size u v) ((put2_other HNE.out).trans ((hW.block _ (Array.getElem?_eq_some_iff.1 HY0.out).1).trans HY0.out)) ((put2_other HNZ.out).trans ((hW.block _ (Array.getElem?_eq_some_iff.1 HZ0.out).1).trans HZ0.out)))
    have hlen := HLEN.out
    have hql : (cells tq).length ≤ (cells (lift lp r)).length := by rw [← HQ3.out, List.length_append]; omega
    have C1 := Lib.hid (fun (W : World) (hW : Below W0.heap.size W0 W) => (join_any (.pointer al) vq _ (lift lp l) tq ls (lh + lp) W ((HT1.out.below HB10.out).below hW) ((HTQ.out.below HBW.out).below hW) ((HP.out.below HB10.out).below hW) HPT.out.2.2.2.1 HPT.out.2.2.2.2 (by omega)).mono (R' := fun e w' => (∃ v t, e = .returned v ∧ TrW w' v t ∧ cells t = cells (lift lp l) ++ run ls (lh + lp) ++ cells tq) ∧ Below W0.heap.size W0 w') fun e w' ⟨h1, h2⟩ => ⟨h1, hW.trans (h2.mono hW.size)⟩)
    clear hlen hql
    obtain ⟨s1, s2⟩ := HSS.out _ (Below.refl _ _)
    unfold put2 at HSP
    go_region_held3 (fun w' => (ldP (.pointer (some ⟨w1.heap.size, 0, none⟩))).run Tryz.prog w' = .ok (.agg #[.slice A n c, .int .i64 (lh + lp)]) w' ∧ (ldP (.pointer (some ⟨w3.heap.size, 0, none⟩))).run Tryz.prog w' = .ok (.agg #[.slice A' n' c', .int .i64 qh]) w')
      (first | (with_reducible exact HSS.out _ hbL) | (with_reducible exact HSS.out _ (Below.refl _ _).drew) | (with_reducible exact HSP.out _ hbL _ _))
      (first
      | ((with_reducible refine (C1.out _ (Below.refl _ _).drew).mono ?_); rintro e wL ⟨⟨vL, tL, rfl, htL, hcL⟩, hbL⟩; have hxL := (hbL.block _ (Array.getElem?_eq_some_iff.1 HX0.out).1).trans HX0.out; obtain ⟨⟨y0, y1⟩, ⟨f0, f1⟩, ys⟩ := two_facts hxL; have HXL := Lib.hid hxL; clear hxL))
    go_wp2_with fail
    obtain ⟨aL, rfl⟩ := htL.tr.ptr
    refine bodyPost_ret (v := .tuple #[.pointer aL, .agg #[.slice A' n' c', .int .i64 qh]]) (by simp [results, Tryz.results119, go_sem, y0, y1, f0, f1, ys]) rfl ?_
    have hf := Few.of2 HXL.out (fun r => by simp) (fun r => by simp)
    refine ⟨⟨_, tL, _, qs, qh, rfl, htL.put2 hf (fun r => by simp), ((HQ.out.below HBW.out).below hbL).put2 hf (fun r => by simp), HQ12.out.1, HQ12.out.2, ?_⟩, put2_below ((HB1.out.trans (HB10.out.mono HB1.out.size)).trans (hbL.mono (Nat.le_trans HB1.out.size HB10.out.size))) (Nat.le_refl _)⟩
    rw [hcL, cells_open, ← HQ3.out]
    simp
set_option maxRecDepth 100000 in
set_option maxHeartbeats 8000000 in
theorem popFirst_step (v : Value) (l r : T) (ls : List Int) (lh lp : Int) (w : World) (ht : TrW w v (.node l ls lh r lp))
    (IH : ∀ (vr : Value) (w : World), l ≠ .nil → TrW w vr (lift lp l) → Calls Tryz.prog 120 #[vr] w (PopF (cells (lift lp l)) w)) :
    Calls Tryz.prog 120 #[v] w (PopF (cells (.node l ls lh r lp)) w) := by
  have HO := Lib.hid (open_any v l r ls lh lp (w.alloc (.cells #[.slice none 0 0, .int .i64 0] 114)) (ht.below (below_alloc1 _ _)))
  have HPT := Lib.hid ht.wf.parts
  have hlen := ht.len
  rw [node_len] at hlen
  have HLEN := Lib.hid hlen
  have HIH := Lib.hid IH
  clear ht IH hlen
  go_enter Tryz.func120, Tryz.ntmps120
  go_wp2_with fail
  refine HO.out.mono ?_
  rintro e w1 ⟨⟨vl, vp, vr, rfl, ht1, ht2, A, c, rfl, hc, hcs⟩, hb1⟩
  obtain ⟨al, rfl⟩ := ht1.tr.ptr
  obtain ⟨ar, rfl⟩ := ht2.tr.ptr
  obtain ⟨n, hn⟩ : ∃ n, ls.length = n := ⟨_, rfl⟩
  have HP := Lib.hid (show Pc w1 (.agg #[.slice A n c, .int .i64 (lh + lp)]) ls (lh + lp) from ⟨A, c, by rw [hn], hc, hcs⟩)
  have HB1 := Lib.hid ((below_alloc1 w (.cells #[.slice none 0 0, .int .i64 0] 114)).trans (hb1.mono (by simp)))
  have HX1 := Lib.hid ((hb1.block w.heap.size (by simp)).trans (heap_at rfl))
  have HT1 := Lib.hid ht1
  have HT2 := Lib.hid ht2
  rw [hn]
  clear ht1 ht2 hb1 hc hcs hn
  have HB2 := Lib.hid (below_alloc1 w1 (.cells #[.slice A n c, .int .i64 (lh + lp)] 114))
  have HY2 := Lib.hid (show (w1.alloc (.cells #[.slice A n c, .int .i64 (lh + lp)] 114)).heap[w1.heap.size]? = some (.cells #[.slice A n c, .int .i64 (lh + lp)] 114 (0, 0)) from heap_at rfl)
  have HX2 := Lib.hid ((HB2.out.block w.heap.size (Array.getElem?_eq_some_iff.1 HX1.out).1).trans HX1.out)
  have HNE := Lib.hid (show w1.heap.size ≠ w.heap.size by have := (Array.getElem?_eq_some_iff.1 HX1.out).1; omega)
  by_cases hr : l = .nil
  · subst hr
    obtain rfl : al = none := by have := HT1.out.tr; exact Value.pointer.inj this
    go_upto_region 3 with fail
    obtain ⟨w2, hw2⟩ : ∃ w2, w1.alloc (.cells #[.slice A n c, .int .i64 (lh + lp)] 114) = w2 := ⟨_, rfl⟩
    rw [hw2] at HB2 HY2 HX2 ⊢
    clear hw2
    have s1 := ldP_run HY2.out
    obtain ⟨⟨y0, y1⟩, ⟨f0, f1⟩, ys⟩ := two_facts HX2.out
    go_wp2_with fail
    all_goals
      refine bodyPost_ret (v := .tuple #[.agg #[.slice A n c, .int .i64 (lh + lp)], .pointer ar]) (by simp [results, Tryz.results120, go_sem, y0, y1, f0, f1, ys]) rfl ?_
      have hf := Few.of2 HX2.out (fun r => by simp) (fun r => by simp)
      refine ⟨⟨_, lift lp r, _, ls, lh + lp, rfl, ((HT2.out.below HB2.out).put2 hf (fun r => by simp)), ((HP.out.below HB2.out).put2 hf (fun r => by simp)), HPT.out.2.2.2.1, HPT.out.2.2.2.2, ?_⟩, (put2_below (HB1.out.trans (HB2.out.mono HB1.out.size)) (Nat.le_refl _))⟩
      rw [cells_open]
      simp [lift, cells]
  · obtain ⟨a', rfl⟩ : ∃ a', al = some a' := by
      have h := HT1.out.tr
      cases l with
      | nil => exact absurd rfl hr
      | node a b c d e => obtain ⟨b', _, _, _, _, h1, _⟩ := h; exact ⟨_, Value.pointer.inj h1⟩
    have HC := Lib.hid (HIH.out (.pointer (some a')) (w1.alloc (.cells #[.slice A n c, .int .i64 (lh + lp)] 114)) hr (HT1.out.below HB2.out))
    clear hr
    go_wp2_with fail
    refine HC.out.mono ?_
    rintro e w3 ⟨⟨vq, tq, vp', qs, qh, rfl, htq, ⟨A', c', rfl, hc', hcs'⟩, hq1, hq2, hq3⟩, hb3⟩
    obtain ⟨n', hn'⟩ : ∃ n', qs.length = n' := ⟨_, rfl⟩
    have HQ := Lib.hid (show Pc w3 (.agg #[.slice A' n' c', .int .i64 qh]) qs qh from ⟨A', c', by rw [hn'], hc', hcs'⟩)
    have HTQ := Lib.hid htq
    have HQ3 := Lib.hid hq3
    have HQ12 := Lib.hid (And.intro hq1 hq2)
    have HB3 := Lib.hid hb3
    have HB13 := Lib.hid (HB2.out.trans (hb3.mono HB2.out.size))
    have HY3 := Lib.hid ((hb3.block _ (Array.getElem?_eq_some_iff.1 HY2.out).1).trans HY2.out)
    have HX3 := Lib.hid ((hb3.block _ (Array.getElem?_eq_some_iff.1 HX2.out).1).trans HX2.out)
    rw [hn']
    clear hc' hcs' hn' htq hq1 hq2 hq3 hb3
    go_wp2_with fail
    obtain ⟨W0, hW0⟩ : ∃ W0, w3.alloc (.cells #[.slice A' n' c', .int .i64 qh] 114) = W0 := ⟨_, rfl⟩
    have HBW := Lib.hid (show Below w3.heap.size w3 W0 by rw [← hW0]; exact below_alloc1 _ _)
    have HZ0 := Lib.hid (show W0.heap[w3.heap.size]? = some (.cells #[.slice A' n' c', .int .i64 qh] 114 (0, 0)) by rw [← hW0]; exact heap_at rfl)
    have HY0 := Lib.hid ((HBW.out.block _ (Array.getElem?_eq_some_iff.1 HY3.out).1).trans HY3.out)
    have HX0 := Lib.hid ((HBW.out.block _ (Array.getElem?_eq_some_iff.1 HX3.out).1).trans HX3.out)
    rw [hW0]
    clear hW0
    have HB10 := Lib.hid (HB13.out.trans (HBW.out.mono HB13.out.size))
    have HNZ := Lib.hid (show w3.heap.size ≠ w.heap.size by have := (Array.getElem?_eq_some_iff.1 HX3.out).1; omega)
    have HSH := Lib.hid (fun (W1 : World) (h1 : W1.heap[w1.heap.size]? = some (.cells #[.slice A n c, .int .i64 (lh + lp)] 114 (0, 0))) (h2 : W1.heap[w3.heap.size]? = some (.cells #[.slice A' n' c', .int .i64 qh] 114 (0, 0))) => (show (ldP (.pointer (some ⟨w1.heap.size, 0, none⟩))).run Tryz.prog W1 = .ok (.agg #[.slice A n c, .int .i64 (lh + lp)]) W1 ∧ (ldP (.pointer (some ⟨w3.heap.size, 0, none⟩))).run Tryz.prog W1 = .ok (.agg #[.slice A' n' c', .int .i64 qh]) W1 from ⟨ldP_run h1, ldP_run h2⟩))
    have HSS := Lib.hid (fun (W1 : World) (hW : Below W0.heap.size W0 W1) => HSH.out W1 ((hW.block _ (Array.getElem?_eq_some_iff.1 HY0.out).1).trans HY0.out) ((hW.block _ (Array.getElem?_eq_some_iff.1 HZ0.out).1).trans HZ0.out))
    have HSP := Lib.hid (fun (W1 : World) (hW : Below W0.heap.size W0 W1) (u v : Value) => HSH.out (put2 W1 w.heap.size u v) ((put2_other HNE.out).trans ((hW.block _ (Array.getElem?_eq_some_iff.1 HY0.out).1).trans HY0.out)) ((put2_other HNZ.out).trans ((hW.block _ (Array.getElem?_eq_some_iff.1 HZ0.out).1).trans HZ0.out)))
    have hlen := HLEN.out
    have hql : (cells tq).length ≤ (cells (lift lp l)).length := by rw [← HQ3.out, List.length_append]; omega
    have C1 := Lib.hid (fun (W : World) (hW : Below W0.heap.size W0 W) => (join_any vq (.pointer ar) _ tq (lift lp r) ls (lh + lp) W ((HTQ.out.below HBW.out).below hW) ((HT2.out.below HB10.out).below hW) ((HP.out.below HB10.out).below hW) HPT.out.2.2.2.1 HPT.out.2.2.2.2 (by omega)).mono (R' := fun e w' => (∃ v t, e = .returned v ∧ TrW w' v t ∧ cells t = cells tq ++ run ls (lh + lp) ++ cells (lift lp r)) ∧ Below W0.heap.size W0 w') fun e w' ⟨h1, h2⟩ => ⟨h1, hW.trans (h2.mono hW.size)⟩)
    clear hlen hql
    obtain ⟨s1, s2⟩ := HSS.out _ (Below.refl _ _)
    unfold put2 at HSP
    go_region_held3 (fun w' => (ldP (.pointer (some ⟨w1.heap.size, 0, none⟩))).run Tryz.prog w' = .ok (.agg #[.slice A n c, .int .i64 (lh + lp)]) w' ∧ (ldP (.pointer (some ⟨w3.heap.size, 0, none⟩))).run Tryz.prog w' = .ok (.agg #[.slice A' n' c', .int .i64 qh]) w')
      (first | (with_reducible exact HSS.out _ hbL) | (with_reducible exact HSS.out _ (Below.refl _ _).drew) | (with_reducible exact HSP.out _ hbL _ _))
      (first
      | ((with_reducible refine (C1.out _ (Below.refl _ _).drew).mono ?_); rintro e wL ⟨⟨vL, tL, rfl, htL, hcL⟩, hbL⟩; have hxL := (hbL.block _ (Array.getElem?_eq_some_iff.1 HX0.out).1).trans HX0.out; obtain ⟨⟨y0, y1⟩, ⟨f0, f1⟩, ys⟩ := two_facts hxL; have HXL := Lib.hid hxL; clear hxL))
    go_wp2_with fail
    obtain ⟨aL, rfl⟩ := htL.tr.ptr
    refine bodyPost_ret (v := .tuple #[.agg #[.slice A' n' c', .int .i64 qh], .pointer aL]) (by simp [results, Tryz.results120, go_sem, y0, y1, f0, f1, ys]) rfl ?_
    have hf := Few.of2 HXL.out (fun r => by simp) (fun r => by simp)
    refine ⟨⟨_, tL, _, qs, qh, rfl, htL.put2 hf (fun r => by simp), ((HQ.out.below HBW.out).below hbL).put2 hf (fun r => by simp), HQ12.out.1, HQ12.out.2, ?_⟩, put2_below ((HB1.out.trans (HB10.out.mono HB1.out.size)).trans (hbL.mono (Nat.le_trans HB1.out.size HB10.out.size))) (Nat.le_refl _)⟩
    rw [hcL, cells_open, ← HQ3.out]
    simp
end
theorem popLast_all : ∀ (k : Nat) (v : Value) (t : T) (w : World), hgt t ≤ k → t ≠ .nil → TrW w v t → Calls Tryz.prog 119 #[v] w (PopL (cells t) w)
  | 0, v, t, w, hk, hn, ht => absurd (hgt_zero (by omega)) hn
  | k + 1, v, .nil, w, hk, hn, ht => absurd rfl hn
  | k + 1, v, .node l ls lh r lp, w, hk, hn, ht => popLast_step v l r ls lh lp w ht fun vr W hr hT =>
    popLast_all k vr (lift lp r) W (by rw [hgt_lift]; simp only [hgt] at hk; omega) (by cases r <;> simp [lift] at hr ⊢) hT
/-- popLast's contract. -/
theorem popLast_any (v : Value) (t : T) (w : World) (hn : t ≠ .nil) (ht : TrW w v t) : Calls Tryz.prog 119 #[v] w (PopL (cells t) w) := popLast_all _ v t w (Nat.le_refl _) hn ht
theorem popFirst_all : ∀ (k : Nat) (v : Value) (t : T) (w : World), hgt t ≤ k → t ≠ .nil → TrW w v t → Calls Tryz.prog 120 #[v] w (PopF (cells t) w)
  | 0, v, t, w, hk, hn, ht => absurd (hgt_zero (by omega)) hn
  | k + 1, v, .nil, w, hk, hn, ht => absurd rfl hn
  | k + 1, v, .node l ls lh r lp, w, hk, hn, ht => popFirst_step v l r ls lh lp w ht fun vr W hr hT =>
    popFirst_all k vr (lift lp l) W (by rw [hgt_lift]; simp only [hgt] at hk; omega) (by cases l <;> simp [lift] at hr ⊢) hT
/-- popFirst's contract. -/
theorem popFirst_any (v : Value) (t : T) (w : World) (hn : t ≠ .nil) (ht : TrW w v t) : Calls Tryz.prog 120 #[v] w (PopF (cells t) w) := popFirst_all _ v t w (Nat.le_refl _) hn ht
end Go.Proofs.YtkdhomiieenfnaaGreatDoor.Rp
