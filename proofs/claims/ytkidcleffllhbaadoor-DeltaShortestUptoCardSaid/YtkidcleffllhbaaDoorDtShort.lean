/- DeltaShortest answers true. -/
import Derived.Test.YtkidcleffllhbaaDoorDtShortP
import Derived.Test.YtkidcleffllhbaaDoorDtCase
namespace Go.Proofs.YtkidcleffllhbaaDoor.Dt
open Go.RowKit Go.Proofs Go.Proofs.YtkidcleffllhbaaDoor.U Go.Proofs.YtkidcleffllhbaaDoor.Txt
set_option linter.unusedVariables false
set_option linter.unusedSimpArgs false

set_option maxRecDepth 100000 in
set_option maxHeartbeats 8000000 in
theorem shortest_walk (v : Value) (A1 : Option Addr) (n1 c1 : Nat) (xs : List Int) (A2 : Option Addr) (n2 c2 : Nat) (A3 : Option Addr) (n3 c3 : Nat) (ar : Int) (w : World) (h : CaseIn w v A1 n1 c1 xs A2 n2 c2 A3 n3 c3 ar) (hg : Bars w) :
    Calls Tryd.prog 3 #[v] w fun e w' => e = .returned (.bool true) ∧ Below w.heap.size w w' := by
  obtain ⟨rfl, r1, r2, r3⟩ := h
  have HG := Lib.hid hg
  obtain ⟨w0, hw0⟩ : ∃ w0, w.alloc (.cells #[.slice A1 n1 c1, .slice A2 n2 c2, .slice A3 n3 c3, .int .i64 ar] 25) = w0 := ⟨_, rfl⟩
  have hx := heap_alloc_new w (.cells #[.slice A1 n1 c1, .slice A2 n2 c2, .slice A3 n3 c3, .int .i64 ar] 25)
  have hb0 : Below w.heap.size w w0 := by rw [← hw0]; exact (Below.refl _ _).alloc (Nat.le_refl _) _
  rw [hw0] at hx
  have HW0 := Lib.hid hw0
  have HB0 := Lib.hid hb0
  have HCASE := Lib.hid (caseTexts_any _ A1 n1 c1 xs A2 n2 c2 A3 n3 c3 ar w0 ⟨rfl, r1.below hb0, r2.below hb0, r3.below hb0⟩)
  have x0 : w0.cell? ⟨w.heap.size, 0, none⟩ = some (.slice A1 n1 c1) := by rw [Lib.cell_of_heap hx]; rfl
  have x1 : w0.cell? ⟨w.heap.size, 1, none⟩ = some (.slice A2 n2 c2) := by rw [Lib.cell_of_heap hx]; rfl
  have x2 : w0.cell? ⟨w.heap.size, 2, none⟩ = some (.slice A3 n3 c3) := by rw [Lib.cell_of_heap hx]; rfl
  have x3 : w0.cell? ⟨w.heap.size, 3, none⟩ = some (.int .i64 ar) := by rw [Lib.cell_of_heap hx]; rfl
  clear hw0 hb0 hx r1 r2 r3 hg
  go_enter Tryd.func3, Tryd.ntmps3
  go_upto_region 1 with fail
  rw [HW0.out]
  go_wp2_with fail
  refine HCASE.out.mono ?_
  rintro e w1 ⟨b, m, t, q, rfl, hto, hb1⟩
  have HTO := Lib.hid hto
  have HB1 := Lib.hid (HB0.out.trans (hb1.mono HB0.out.size))
  have HTB := Lib.hid (text_str hto.hb.1 (by have := hto.hb.2; omega))
  have HTM := Lib.hid (text_str hto.hm.1 (by have := hto.hm.2; omega))
  have HTT := Lib.hid (text_str hto.ht.1 (by have := hto.ht.2; omega))
  obtain ⟨S, hS⟩ : ∃ S, Str b = S := ⟨_, rfl⟩
  obtain ⟨T, hT⟩ : ∃ T, Str m = T := ⟨_, rfl⟩
  obtain ⟨U, hU⟩ : ∃ U, Str t = U := ⟨_, rfl⟩
  have HST := Lib.hid (fun (h : S.toList = T.toList) => str_inj hto.hb.1 hto.hm.1 (by rw [hS, hT]; exact h))
  have HTS := Lib.hid (fun (h : b = m) => (show S = T by rw [← hS, ← hT, h]))
  rw [hS] at HTB ⊢
  rw [hT] at HTM ⊢
  rw [hU] at HTT ⊢
  clear hto hb1 hS hT hU x0 x1 x2 x3 HCASE HW0
  go_wp2_with fail
  refine (Splices_any S T b m _ HTB.out HTM.out (by have := HTO.out.hb.2; omega) (by have := HTO.out.hm.2; omega) (HG.out.below HB1.out)).mono ?_
  rintro e w2 ⟨vl, rfl, ho2, hb2⟩
  have HL2 := Lib.hid ho2
  have HB2 := Lib.hid (HB1.out.trans (hb2.mono HB1.out.size))
  clear ho2 hb2
  go_wp2_with fail
  refine (Cost_any vl (splL b m) _ _ HL2.out (splL_small (by have := HTO.out.hb.2; omega) (by have := HTO.out.hm.2; omega) HTO.out.hm.1) (HG.out.below HB2.out)).mono ?_
  rintro e w3 ⟨rfl, hb3⟩
  rw [splL_cost]
  have HL3 := Lib.hid (own_below HL2.out hb3)
  have HB3 := Lib.hid (HB2.out.trans (hb3.mono HB2.out.size))
  clear hb3 HL2
  go_wp2_with fail
  refine (Splices_any T S m b _ HTM.out HTB.out (by have := HTO.out.hm.2; omega) (by have := HTO.out.hb.2; omega) (HG.out.below HB3.out)).mono ?_
  rintro e w4 ⟨vk, rfl, ho4, hb4⟩
  have HK4 := Lib.hid ho4
  have HL4 := Lib.hid (own_below HL3.out hb4)
  have HB4 := Lib.hid (HB3.out.trans (hb4.mono HB3.out.size))
  clear ho4 hb4 HL3
  go_wp2_with fail
  refine (Cost_any vk (splL m b) _ _ HK4.out (splL_small (by have := HTO.out.hm.2; omega) (by have := HTO.out.hb.2; omega) HTO.out.hb.1) (HG.out.below HB4.out)).mono ?_
  rintro e w5 ⟨rfl, hb5⟩
  rw [splL_cost, dist_comm m b]
  have HL5 := Lib.hid (own_below HL4.out hb5)
  have HB5 := Lib.hid (HB4.out.trans (hb5.mono HB4.out.size))
  clear hb5 HL4 HK4
  go_wp2_with fail
  refine (Diff_any S T b m _ HTB.out HTM.out (by have := HTO.out.hb.2; omega) (by have := HTO.out.hm.2; omega) (HG.out.below HB5.out)).mono ?_
  rintro e w6 ⟨hh, tt, hmeet, rfl, hb6⟩
  have HL6 := Lib.hid (own_below HL5.out hb6)
  have HB6 := Lib.hid (HB5.out.trans (hb6.mono HB5.out.size))
  have HMT := Lib.hid hmeet
  have hmid : ∀ r ∈ midB m hh tt, TxtRune r := fun r hr => HTO.out.hm.1 r (List.mem_of_mem_take (List.mem_of_mem_drop hr))
  have hml : (midB m hh tt).length ≤ 380 := by have := HTO.out.hm.2; simp only [midB, List.length_drop, List.length_take]; omega
  obtain ⟨ci, w7, hcv, hcap, hb7, _⟩ := conv_to_runes (Str (midB m hh tt)) (midB m hh tt) (text_str hmid (by omega)) (by omega) w6
  have HL7 := Lib.hid (own_below HL6.out hb7)
  have HB7 := Lib.hid (HB6.out.trans (hb7.mono HB6.out.size))
  have d1 := meets_dist hmeet
  have d2 := HTO.out.hd.1
  have d3 := HTO.out.hd.2
  have hbl := HTO.out.hb.2
  have la := hmeet.la
  obtain ⟨D, hD⟩ : ∃ D, dist b m = D := ⟨_, rfl⟩
  obtain ⟨M, hM⟩ : ∃ M, (midB m hh tt).length = M := ⟨_, rfl⟩
  have HDD := Lib.hid hD
  rw [hD] at d1 d2 ⊢
  rw [hM] at d1 hcv hml
  obtain ⟨E, hE⟩ : ∃ E : Nat, b.length - hh - tt = E := ⟨_, rfl⟩
  rw [hE] at d1
  rw [show ((b.length : Int) - hh - tt) = (E : Int) by omega]
  have HBL := Lib.hid hbl
  have hEb : E ≤ 380 := by omega
  clear hb6 hb7 hmid hmeet hD hM hE hcap HL5 HL6 hbl la
  generalize Str (midB m hh tt) = V at hcv ⊢
  obtain ⟨bq, hq1, hq2⟩ : ∃ bq : Bool, ((D : Int) == 0) = bq ∧ (S.toList == T.toList) = bq := by
    by_cases hD0 : D = 0
    · refine ⟨true, by simp [hD0], ?_⟩
      rw [HTS.out (dist_zero.1 (HDD.out.trans hD0))]
      simp
    · refine ⟨false, by simp; omega, ?_⟩
      have : ¬ S.toList = T.toList := fun e => hD0 (by rw [← HDD.out]; exact dist_zero.2 (HST.out e))
      simp [this]
  have hbb : (bq != bq) = false := by cases bq <;> rfl
  have i1 : (D : Int) ≤ q := by omega
  have i3 : (E : Int) ≤ 380 := by have := HBL.out; omega
  have i4 : (M : Int) ≤ 380 := by omega
  have i2 : (D : Int) ≤ (E : Int) + M := by omega
  go_wp2_with fail
  clear hcv hq1 hq2 hbb i1 i2 i3 i4 d1 d2 hml HST HTS
  refine (Splices_any S U b t _ HTB.out HTT.out (by have := HTO.out.hb.2; omega) (by have := HTO.out.ht.2; omega) (HG.out.below HB7.out)).mono ?_
  rintro e w8 ⟨vx, rfl, ho8, hb8⟩
  have HX8 := Lib.hid ho8
  have HL8 := Lib.hid (own_below HL7.out hb8)
  have HB8 := Lib.hid (HB7.out.trans (hb8.mono HB7.out.size))
  clear ho8 hb8 HL7
  go_wp2_with fail
  refine (Splices_any U T t m _ HTT.out HTM.out (by have := HTO.out.ht.2; omega) (by have := HTO.out.hm.2; omega) (HG.out.below HB8.out)).mono ?_
  rintro e w9 ⟨vy, rfl, ho9, hb9⟩
  have HY9 := Lib.hid ho9
  have HX9 := Lib.hid (own_below HX8.out hb9)
  have HL9 := Lib.hid (own_below HL8.out hb9)
  have HB9 := Lib.hid (HB8.out.trans (hb9.mono HB8.out.size))
  clear ho9 hb9 HL8 HX8
  go_wp2_with fail
  refine (Cost_any vx (splL b t) _ _ HX9.out (splL_small (by have := HTO.out.hb.2; omega) (by have := HTO.out.ht.2; omega) HTO.out.ht.1) (HG.out.below HB9.out)).mono ?_
  rintro e w10 ⟨rfl, hb10⟩
  rw [splL_cost]
  have HY10 := Lib.hid (own_below HY9.out hb10)
  have HL10 := Lib.hid (own_below HL9.out hb10)
  have HB10 := Lib.hid (HB9.out.trans (hb10.mono HB9.out.size))
  clear hb10 HL9 HX9 HY9
  go_wp2_with fail
  refine (Cost_any vy (splL t m) _ _ HY10.out (splL_small (by have := HTO.out.ht.2; omega) (by have := HTO.out.hm.2; omega) HTO.out.hm.1) (HG.out.below HB10.out)).mono ?_
  rintro e w11 ⟨rfl, hb11⟩
  rw [splL_cost]
  have HL11 := Lib.hid (own_below HL10.out hb11)
  have HB11 := Lib.hid (HB10.out.trans (hb11.mono HB10.out.size))
  clear hb11 HL10 HY10
  have j1 := dist_tri b t m
  rw [HDD.out] at j1
  have j2 : dist b t ≤ 760 := by unfold dist; have := HTO.out.hb.2; have := HTO.out.ht.2; omega
  have j3 : dist t m ≤ 760 := by unfold dist; have := HTO.out.hm.2; have := HTO.out.ht.2; omega
  generalize dist b t = P at j1 j2 ⊢
  generalize dist t m = Q at j1 j3 ⊢
  have i1 : (D : Int) ≤ (P : Int) + Q := by omega
  have i2 : (P : Int) ≤ 760 := by omega
  have i3 : (Q : Int) ≤ 760 := by omega
  clear j1 j2 j3
  obtain ⟨n, hn⟩ : ∃ n, (splL b m).length = n := ⟨_, rfl⟩
  have HN := Lib.hid hn
  have HSM := Lib.hid (splL_small (a := b) (b := m) (by have := HTO.out.hb.2; omega) (by have := HTO.out.hm.2; omega) HTO.out.hm.1)
  have HAP := Lib.hid (splL_apart b m)
  rw [hn] at HL11
  obtain ⟨A', cap', rfl⟩ := own_shape HL11.out
  clear hn
  go_wp2_with fail
  go_loopw [27] (fun i wr => ∃ k : Nat, i = .int .i64 k ∧ k ≤ n ∧ Below w11.heap.size w11 wr) (fun i _ => n - (intOf i).toNat)
  case atStart => exact ⟨0, rfl, Nat.zero_le _, Below.refl _ _⟩
  case round =>
    obtain ⟨k, rfl, hk, hb⟩ := hrel
    have HB := Lib.hid hb
    clear hb
    by_cases hlt : k < n
    · have hkl : k < (splL b m).length := by rw [HN.out]; exact hlt
      obtain ⟨g, cap, hv⟩ := own_some HL11.out (by omega)
      cases hv
      have hg3 := splCells_get (splL b m) k hkl
      have hO2 := own_below HL11.out HB.out
      have y0 := hO2.cellAt (k * 3) (by omega)
      have y1 := hO2.cellAt (k * 3 + 1) (by omega)
      have y2 := hO2.cellAt (k * 3 + 2) (by omega)
      rw [hg3.1] at y0
      rw [hg3.2.1] at y1
      rw [hg3.2.2] at y2
      obtain ⟨p1, p2⟩ := HAP.out k hkl
      obtain ⟨s1, s2, s3, s4⟩ := HSM.out.2.2 _ (List.getElem_mem (l := splL b m) (n := k) hkl)
      have hns := HSM.out.1
      rw [HN.out] at hns
      have hprev : 0 < k → ∃ j pa, j + 1 = k ∧ wr.cell? ⟨g, j * 3, none⟩ = some (.int .i64 (pa : Nat)) ∧ (splL b m)[k].at_ + (splL b m)[k].del < pa ∧ pa ≤ 1048576 := fun h0 => by
        have hj : k - 1 < (splL b m).length := by omega
        have z0 := hO2.cellAt ((k - 1) * 3) (by omega)
        rw [(splCells_get (splL b m) (k - 1) hj).1] at z0
        exact ⟨k - 1, _, by omega, z0, p2 h0 hj, (HSM.out.2.2 _ (List.getElem_mem (l := splL b m) (n := k - 1) hj)).1⟩
      have hz : (splL b m)[k].del = 0 → ((Str (splL b m)[k].ins).toList == []) = false := fun h0 => by
        have h1 : (Str (splL b m)[k].ins).toList ≠ [] := fun e => by
          rw [toList_eq, str_list] at e
          have := enc_len_ge (splL b m)[k].ins
          rw [e] at this
          simp at this
          rw [this] at p1
          simp at p1
          omega
        simpa using h1
      clear s3 s4 p1 p2 hg3
      generalize (splL b m)[k].at_ = at_ at y0 s1 hprev
      generalize (splL b m)[k].del = dl at y1 s2 hprev hz
      generalize Str (splL b m)[k].ins = Z at y2 hz
      clear hO2 hkl
      have hdz : (dl = 0 ∧ (Z.toList == []) = false) ∨ ((dl : Int) == 0) = false := by
        by_cases h0 : dl = 0
        · exact .inl ⟨h0, hz h0⟩
        · exact .inr (by simp; omega)
      clear hz
      have hkc : k = 0 ∨ 0 < k := by omega
      have HPV := Lib.hid hprev
      clear hprev
      rcases hdz with ⟨rfl, hz⟩ | hz
      all_goals
        rcases hkc with rfl | h0
        · go_wp2_with fail
          go_quiet (fail)
          go_wp2_with fail
          go_roundw
          case rel => exact ⟨1, rfl, by omega, pw_below HB.out _⟩
          case measure => simp [intOf]; omega
        · obtain ⟨j, pa, hj, z0, z1, z2⟩ := HPV.out h0
          have hkj : (k : Int) - 1 = (j : Int) := by omega
          have hj0 : (0 : Int) ≤ j := by omega
          have hjn : (j : Int) < n := by omega
          have h0' : (0 : Int) < k := by omega
          have hcmp : (at_ : Int) + (_ : Nat) < pa := Int.ofNat_lt.2 z1
          go_wp2_with fail
          go_quiet (fail)
          go_wp2_with fail
          go_roundw
          case rel => exact ⟨k + 1, by go_num, by omega, pw_below HB.out _⟩
          case measure => simp [intOf]; omega
    · obtain rfl : k = n := by omega
      go_wp2_with fail
      go_ret
      exact ⟨rfl, HB11.out.trans (HB.out.mono HB11.out.size)⟩
end Go.Proofs.YtkidcleffllhbaaDoor.Dt
