/- PageShows answers true. -/
import Derived.Test.YtkidcleffllhbaaDoorPgBars
import Derived.Test.YtkidcleffllhbaaDoorPgShow
namespace Go.Proofs.YtkidcleffllhbaaDoor.Pg
open Go.RowKit Go.Proofs Go.Joins Go.Proofs.YtkidcleffllhbaaDoor.U Go.Proofs.YtkidcleffllhbaaDoor.Txt
set_option linter.unusedVariables false
set_option linter.unusedSimpArgs false
attribute [local go_sem] frozen?_alloc_cells

theorem paper_str {rs : List Int} {W : Int} (hg : ∀ r ∈ rs, TxtRune r) (hl : rs.length ≤ 200) (hW : 1 ≤ W ∧ W ≤ 1024) : Paper (Str rs) rs W := ⟨str_list rs, hg, by omega, hW⟩
theorem topP_ok (k H old : Nat) (h : 1 ≤ H) : topP k H old ≤ k ∧ k - topP k H old < H ∧ (old ≤ k ∧ k - old < H → topP k H old = old) ∧ (¬ (old ≤ k ∧ k - old < H) → topP k H old = k ∨ k - topP k H old = H - 1) := by
  unfold topP
  split
  · exact ⟨by omega, by omega, fun h => by omega, fun h => by omega⟩
  · split
    · exact ⟨by omega, by omega, fun h => by omega, fun h => by omega⟩
    · exact ⟨by omega, by omega, fun h => rfl, fun h => by omega⟩
theorem drawn_txt (rs : List Int) (lo hi : Nat) (car : Option Nat) (hg : ∀ r ∈ rs, TxtRune r) (h : hi ≤ rs.length) (h2 : lo ≤ hi) : ∀ r ∈ drawn rs lo hi car, TxtRune r := fun r hr => by
  have := drawTo_ok rs lo car (hi - lo) hg (by omega)
  rw [show lo + (hi - lo) = hi by omega] at this
  exact this r (trimL_mem hr)
theorem drawn_len (rs : List Int) (lo hi : Nat) (car : Option Nat) : (drawn rs lo hi car).length ≤ 5 * (hi - lo) + 1 := by
  have h1 := trimL_len 32 (drawTo rs lo car (hi - lo) ++ barAt car hi)
  have h2 := drawTo_len rs lo car (hi - lo)
  have h3 : (barAt car hi).length ≤ 1 := by unfold barAt; split <;> simp
  rw [List.length_append] at h1
  unfold drawn
  omega

theorem row_bars {w : Int} {rs : List Int} {xs : List Row} {q k i lo hi : Nat} (hc : Chain w rs 0 xs) (hst : Stands xs q k) (hi' : i < xs.length) (hlo : loOf xs i = lo) (hhi : hiOf xs i = hi) (hg : ∀ r ∈ rs, MadeRune r) :
    (i = k → (drawn rs lo hi (carAt (some (q, k)) i)).count 124 = 1 ∧ Str (trimL 32 ((drawn rs lo hi (carAt (some (q, k)) i)).erase 124)) = showRow rs xs none i) ∧ (i ≠ k → (drawn rs lo hi (carAt (some (q, k)) i)).count 124 = 0 ∧ showRow rs xs (some (q, k)) i = showRow rs xs none i) := by
  have ra := row_at hc i hi'
  have h1 := ra.ok.len
  have hbar : ∀ j, lo ≤ j → j < hi → rs.getD j 0 ≠ 124 := fun j a b => by
    have hj : j < rs.length := by rw [hiOf_eq hi'] at hhi; omega
    rw [List.getD_eq_getElem?_getD, List.getElem?_eq_getElem hj]
    exact (hg _ (List.getElem_mem hj)).2
  constructor
  · intro e
    subst e
    obtain ⟨hk, a, b⟩ := hst
    rw [loOf_eq hk] at hlo
    rw [hiOf_eq hk] at hhi
    have hl : lastOf xs[i] ≤ xs[i].hi := by unfold lastOf; split <;> omega
    have := drawn_bar rs lo hi q (by omega) (by omega) hbar
    rw [show carAt (some (q, i)) i = some q by simp [carAt]]
    refine ⟨this.1, ?_⟩
    rw [this.2]
    unfold showRow
    rw [loOf_eq hk, hiOf_eq hk, hlo, hhi]
    rfl
  · intro e
    have e2 : carAt (some (q, k)) i = none := by simp [carAt, Ne.symm e]
    rw [e2]
    refine ⟨drawn_no rs lo hi hbar, ?_⟩
    unfold showRow
    rw [e2]
    rfl

set_option maxRecDepth 100000 in
set_option maxHeartbeats 16000000 in
theorem shows_any (A0 : Option Addr) (c0 : Nat) (zs : List Int) (wide high place old : Int) (w : World) (hl : zs.length ≤ 140737488351232) (hZ : Ints w A0 zs) (hB : 4 ≤ w.heap.size) (hT : Tabs w) (hb : Bars w) :
    Calls Tryd.prog 6 #[.slice A0 zs.length c0, .int .i64 wide, .int .i64 high, .int .i64 place, .int .i64 old] w fun e w' => e = .returned (.bool true) ∧ Below w.heap.size w w' := by
  have HT := Lib.hid hT
  have HBR := Lib.hid hb
  have HB4 := Lib.hid hB
  clear hT hb hB
  go_enter Tryd.func6, Tryd.ntmps6
  go_wp2_with fail
  refine (made2_any A0 c0 zs _ hl hZ).mono ?_
  rintro e w1 ⟨⟨v, rs, rfl, hown, hg, hlen⟩, hb1⟩
  obtain ⟨A, c, rfl, hc, hR⟩ := own_runes hown
  have HG := Lib.hid hg
  have HL := Lib.hid hlen
  have HC := Lib.hid hc
  have HR := Lib.hid hR
  have HB1 := Lib.hid hb1
  clear hown hg hlen hc hR hb1 hl hZ
  go_wp2_with fail
  refine (rest_any wide 40 _ (by decide)).mono ?_
  rintro e w2 ⟨⟨r, rfl, hr0, hr1⟩, rfl⟩
  obtain ⟨W, hW⟩ : ∃ W, 1 + r = W := ⟨_, rfl⟩
  have e0 : IntKind.i64.wrap (1 + r) = W := by rw [hW]; exact IntWalk.i64_in _ (by omega)
  have HW := Lib.hid (show 1 ≤ W ∧ W ≤ 1024 by omega)
  clear hW hr0 hr1
  go_wp2_with fail
  refine (rest_any high 12 _ (by decide)).mono ?_
  rintro e w2b ⟨⟨rh, rfl, hh0, hh1⟩, rfl⟩
  obtain ⟨H, hH⟩ : ∃ H : Nat, 1 + rh = (H : Int) := ⟨(1 + rh).toNat, by omega⟩
  have e0h : IntKind.i64.wrap (1 + rh) = (H : Int) := by rw [hH]; exact IntWalk.i64_in _ (by omega)
  have hH1 : 1 ≤ H := by omega
  have hH2 : H ≤ 12 := by omega
  clear hH hh0 hh1
  go_wp2_with fail
  refine (lawLaid_any A c rs W _ HR.out (fun r hr => (HG.out r hr).1) HL.out HW.out (Nat.le_trans HB4.out HB1.out.size) (HT.out.below HB1.out) (HBR.out.below HB1.out)).mono ?_
  rintro e w3 ⟨⟨g, cap, rfl, hra⟩, hb3⟩
  have HPP := Lib.hid (paper_str (fun r hr => (HG.out r hr).1) HL.out HW.out)
  have HLN := Lib.hid HPP.out.rows
  have HCH := Lib.hid HPP.out.chain
  have HRA := Lib.hid hra
  have HB3 := Lib.hid (HB1.out.trans (hb3.mono HB1.out.size))
  have HR3 := Lib.hid (HR.out.below hb3)
  have HT3 := Lib.hid (HT.out.below HB3.out)
  have HBR3 := Lib.hid (HBR.out.below HB3.out)
  have HB43 := Lib.hid (Nat.le_trans HB4.out HB3.out.size)
  clear hra hb3 HR HT HBR HB4 HB1
  obtain ⟨xs, hxs⟩ : ∃ xs, pageRows W rs = xs := ⟨_, rfl⟩
  rw [hxs] at HRA HLN HCH ⊢
  have HXS := Lib.hid hxs
  clear hxs
  have hne := HCH.out.ne
  obtain ⟨h00, hz⟩ := lo_zero HCH.out
  have hz2 : loOf xs 0 = 0 := by rw [loOf_eq h00]; exact hz
  have HZ := Lib.hid hz2
  obtain ⟨m, hm⟩ : ∃ m, xs.length = m := ⟨_, rfl⟩
  rw [hm] at HLN hne ⊢
  have HM := Lib.hid hm
  obtain ⟨n, hn⟩ : ∃ n, rs.length = n := ⟨_, rfl⟩
  rw [hn] at HLN HL HC ⊢
  have HN := Lib.hid hn
  clear hm hn hz hz2 h00
  have hm2 : m ≤ 201 := by have := HLN.out; have := HL.out; omega
  have hn2 : n ≤ 200 := HL.out
  have z1 : IntKind.i64.wrap ((n : Int) + 1) = (n : Int) + 1 := IntWalk.i64_in _ (by omega)
  have z2 : IntKind.i64.wrap (2 * (m : Int)) = 2 * (m : Int) := IntWalk.i64_in _ (by omega)
  go_wp2_with fail
  refine (rest_any place ((n : Int) + 1) _ (by omega)).mono ?_
  rintro e w3b ⟨⟨rq, rfl, hq0, hq1⟩, rfl⟩
  obtain ⟨q, rfl⟩ : ∃ q : Nat, rq = (q : Int) := ⟨rq.toNat, by omega⟩
  have hqn : q ≤ n := by omega
  clear hq0 hq1
  go_wp2_with fail
  refine (rest_any old (2 * (m : Int)) _ (by omega)).mono ?_
  rintro e w3c ⟨⟨ro, rfl, ho0, ho1⟩, rfl⟩
  obtain ⟨wa, rfl⟩ : ∃ wa : Nat, ro = (wa : Int) := ⟨ro.toNat, by omega⟩
  have hwa : wa ≤ 402 := by omega
  clear ho0 ho1 z1 z2
  obtain ⟨k, hk⟩ := stands_ex HCH.out q (by rw [HN.out]; exact hqn)
  have HK := Lib.hid hk
  have hkm : k < m := by rw [← HM.out]; exact hk.1
  clear hk
  have hconv : ∀ c, (convert 22 9 (.slice A n c)).run Tryd.prog w3c = .ok (.string (Str rs)) w3c := fun c => by have := conv_runes (c := c) HR3.out; rwa [HN.out] at this
  go_wp2_with fail
  refine (Spot_any q k _ HPP.out (by rw [HXS.out]; exact HK.out) (by have := HN.out; omega) (by have := HB43.out; omega) HT3.out HBR3.out).mono ?_
  rintro e w4 ⟨rfl, hb4⟩
  have HB4 := Lib.hid hb4
  have hconv4 : ∀ c, (convert 22 9 (.slice A n c)).run Tryd.prog w4 = .ok (.string (Str rs)) w4 := fun c => by have := conv_runes (c := c) (HR3.out.below HB4.out); rwa [HN.out] at this
  clear hb4 hconv
  go_wp2_with fail
  refine (Top_any H wa q k _ HPP.out (by omega) (by rw [HXS.out]; exact HK.out) (by have := HN.out; omega) (by omega) (by have := HB43.out; have := HB4.out.size; omega) (HT3.out.below HB4.out) (HBR3.out.below HB4.out)).mono ?_
  rintro e w5 ⟨rfl, hb5⟩
  have HB5 := Lib.hid (HB4.out.trans (hb5.mono HB4.out.size))
  clear hb5 hconv4
  obtain ⟨t1, t2, t3, t4⟩ := topP_ok k H wa hH1
  obtain ⟨T, hTT⟩ : ∃ T, topP k H wa = T := ⟨_, rfl⟩
  rw [hTT] at t1 t2 t3 t4 ⊢
  have HTO := Lib.hid (And.intro t3 t4)
  have hTm : T < m := by omega
  have q1 : decide (k < T) = false := by simp; omega
  have q2 : ¬ (H : Int) ≤ (k : Int) - T := by omega
  have e1 : IntKind.i64.wrap ((k : Int) - T) = (k : Int) - T := IntWalk.i64_in _ (by omega)
  have HT12 := Lib.hid (And.intro t1 t2)
  clear t3 t4 hTT
  go_upto_region 13 with fail
  go_cut [108] (fun b wx => b = .bool (decide (wa ≤ k ∧ k - wa < H)) ∧ wx = w5)
  case first => as_aux_lemma =>
    by_cases g1 : wa ≤ k
    · have e2 : IntKind.i64.wrap ((k : Int) - wa) = (k : Int) - wa := IntWalk.i64_in _ (by omega)
      by_cases g2 : k - wa < H
      · have g3 : (k : Int) - wa < H := by omega
        have HG := Lib.hid (show decide (wa ≤ k ∧ k - wa < H) = true from decide_eq_true ⟨g1, g2⟩)
        clear g2
        go_wp2_with fail
        go_meet
        exact ⟨by rw [HG.out], rfl⟩
      · have g3 : ¬ (k : Int) - wa < H := by omega
        have HG := Lib.hid (show decide (wa ≤ k ∧ k - wa < H) = false from decide_eq_false (fun h => g2 h.2))
        clear g2
        go_wp2_with fail
        go_meet
        exact ⟨by rw [HG.out], rfl⟩
    · have HG := Lib.hid (show decide (wa ≤ k ∧ k - wa < H) = false from decide_eq_false (fun h => g1 h.1))
      have g2 : decide (wa ≤ k) = false := decide_eq_false g1
      go_wp2_with fail
      go_meet
      exact ⟨by rw [HG.out], rfl⟩
  case rest => as_aux_lemma =>
    obtain ⟨rfl, rfl⟩ := hcut
    obtain ⟨bw, hbw⟩ : ∃ bw, decide (wa ≤ k ∧ k - wa < H) = bw := ⟨_, rfl⟩
    rw [hbw]
    have HBW := Lib.hid hbw
    clear hbw
    go_upto_if 108 with fail
    go_cut [] (fun wx => wx = wc)
    case first => as_aux_lemma =>
      cases bw
      · have h1 := HTO.out.2 (of_decide_eq_false HBW.out)
        by_cases hkt : k = T
        · have b1 : ((k : Int) != (T : Int)) = false := by simp [hkt]
          clear h1 hkt
          go_wp2_with fail
          go_meet
          rfl
        · have b1 : ((k : Int) != (T : Int)) = true := by simp; omega
          have e3 : IntKind.i64.wrap ((H : Int) - 1) = (H : Int) - 1 := IntWalk.i64_in _ (by omega)
          have b2 : ((k : Int) - T != (H : Int) - 1) = false := by simp; omega
          clear h1 hkt
          go_wp2_with fail
          go_meet
          rfl
      · have h1 := HTO.out.1 (of_decide_eq_true HBW.out)
        have b1 : ((T : Int) != (wa : Int)) = false := by simp [h1]
        clear h1
        go_wp2_with fail
        go_meet
        rfl
    case rest => as_aux_lemma =>
      obtain rfl := hcut
      clear q1 q2
      have hconv5 : ∀ c, (convert 22 9 (.slice A n c)).run Tryd.prog wc = .ok (.string (Str rs)) wc := fun c => by have := conv_runes (c := c) (HR3.out.below HB5.out); rwa [HN.out] at this
      obtain ⟨nn, hnn⟩ : ∃ nn, nn = min (m - T) H := ⟨_, rfl⟩
      have HNN := Lib.hid hnn
      have hnnb : nn ≤ H ∧ nn ≤ m - T := by omega
      have hnn3 : k - T < nn := by omega
      clear hnn
      go_wp2_with fail
      refine (Show_any H T nn (some (q, k)) _ HPP.out (by omega) (by rw [HXS.out, HM.out]; exact hTm) (by rw [HXS.out, HM.out]; exact HNN.out) (fun a b h => by cases h; exact ⟨by rw [HXS.out]; exact HK.out, by have := HN.out; omega⟩) (by have := HB43.out; have := HB5.out.size; omega) (HT3.out.below HB5.out) (HBR3.out.below HB5.out)).mono ?_
      rintro e w6 ⟨⟨vw, rfl, hown6⟩, hb6⟩
      rw [HXS.out] at hown6
      have HB6 := Lib.hid (HB5.out.trans (hb6.mono HB5.out.size))
      have HS6 := Lib.hid (show Dt.SIn w6 vw (showL rs xs (some (q, k)) T nn) from Dt.own_sin (by rw [showL_len]; exact hown6))
      have hconv6 : ∀ c, (convert 22 9 (.slice A n c)).run Tryd.prog w6 = .ok (.string (Str rs)) w6 := fun c => by have := conv_runes (c := c) (HR3.out.below HB6.out); rwa [HN.out] at this
      clear hown6 hb6 hconv5
      go_wp2_with fail
      have hsn := Show_any H T nn none w6 HPP.out (by omega) (by rw [HXS.out, HM.out]; exact hTm) (by rw [HXS.out, HM.out]; exact HNN.out) (fun a b h => by cases h) (by have := HB43.out; have := HB6.out.size; omega) (HT3.out.below HB6.out) (HBR3.out.below HB6.out)
      refine (show Calls _ _ #[.string (Str rs), .int .i64 W, .int .i64 H, .int .i64 T, .int .i64 (-1)] w6 _ from hsn).mono ?_
      clear hsn
      rintro e w7 ⟨⟨vn, rfl, hown7⟩, hb7⟩
      rw [HXS.out] at hown7
      have HB7 := Lib.hid (HB6.out.trans (hb7.mono HB6.out.size))
      have HS7 := Lib.hid (show Dt.SIn w7 vn (showL rs xs none T nn) from Dt.own_sin (by rw [showL_len]; exact hown7))
      have HS67 := Lib.hid (HS6.out.below hb7)
      clear hown7 hb7 hconv6
      have e3 : IntKind.i64.wrap ((m : Int) - T) = (m : Int) - T := IntWalk.i64_in _ (by omega)
      go_upto_if 148 with fail
      go_cut [25] (fun v wx => v = .int .i64 nn ∧ wx = w7)
      case first => as_aux_lemma =>
        by_cases g1 : (H : Int) < (m : Int) - T
        · have HE := Lib.hid (show nn = H by have := HNN.out; omega)
          go_wp2_with fail
          go_meet
          exact ⟨by rw [HE.out], rfl⟩
        · have HE := Lib.hid (show (nn : Int) = (m : Int) - T by have := HNN.out; omega)
          go_wp2_with fail
          go_meet
          exact ⟨by rw [HE.out], rfl⟩
      case rest => as_aux_lemma =>
        obtain ⟨rfl, rfl⟩ := hcut
        obtain ⟨Aw, cw, hvw, hw1, hw2, hcw⟩ := HS67.out
        obtain ⟨An, cn, hvn, hn1, hn2, hcn⟩ := HS7.out
        rw [showL_len] at hvw hvn
        subst hvw
        subst hvn
        have HCW := Lib.hid hcw
        have HCN := Lib.hid hcn
        clear hw1 hw2 hcw hn1 hcn hn2 HS7 HS67 HS6 e3
        go_wp2_with fail
        go_loopw [26] (fun i wr => ∃ j : Nat, j ≤ nn ∧ i = .int .i64 j ∧ Below wc.heap.size wc wr) (fun i _ => nn - (intOf i).toNat)
        case atStart => exact ⟨0, Nat.zero_le _, rfl, Below.refl _ _⟩
        case round => as_aux_lemma =>
          obtain ⟨j, hj, rfl, hb⟩ := hrel
          have HB := Lib.hid hb
          clear hb
          obtain ⟨wo, rfl⟩ : ∃ wo : World, wo = wr := ⟨_, rfl⟩
          by_cases hlt : j < nn
          · have HBo := Lib.hid (HB7.out.trans (HB.out.mono HB7.out.size))
            obtain ⟨i, hi⟩ : ∃ i, T + j = i := ⟨_, rfl⟩
            have hix : i < xs.length := by have := HM.out; omega
            have hok := (row_at HCH.out i hix).ok
            have k1 := hok.le
            have k2 := hok.len
            obtain ⟨d0, d1, -, -⟩ := (HRA.out.below HBo.out) i hix
            have HRB := Lib.hid (row_bars HCH.out HK.out hix (loOf_eq hix) (hiOf_eq hix) HG.out)
            have HSR := Lib.hid (show showRow rs xs (some (q, k)) i = Str (drawn rs xs[i].lo xs[i].hi (carAt (some (q, k)) i)) by unfold showRow; rw [loOf_eq hix, hiOf_eq hix])
            have HSN := Lib.hid (show showRow rs xs none i = Str (drawn rs xs[i].lo xs[i].hi none) by unfold showRow; rw [loOf_eq hix, hiOf_eq hix]; rfl)
            obtain ⟨x, hx⟩ : ∃ x, xs[i] = x := ⟨_, rfl⟩
            rw [hx] at d0 d1 k1 k2 HRB HSR HSN
            obtain ⟨lo, hlo⟩ : ∃ lo, x.lo = lo := ⟨_, rfl⟩
            obtain ⟨hi', hhi⟩ : ∃ hi', x.hi = hi' := ⟨_, rfl⟩
            rw [hlo] at d0 k1 HRB HSR HSN
            rw [hhi] at d1 k1 k2 HRB HSR HSN
            rw [HN.out] at k2
            have HD0 := Lib.hid d0
            have HD1 := Lib.hid d1
            obtain ⟨ad, rfl, hcw⟩ := (HCW.out.below HB.out) (by rw [showL_len]; omega)
            obtain ⟨an, rfl, hcn⟩ := (HCN.out.below HB.out) (by rw [showL_len]; omega)
            have c1 := hcw j (by rw [showL_len]; exact hlt)
            have c2 := hcn j (by rw [showL_len]; exact hlt)
            rw [showL_get _ _ _ _ _ _ hlt, hi] at c1 c2
            obtain ⟨S1, hS1⟩ : ∃ S1, showRow rs xs (some (q, k)) i = S1 := ⟨_, rfl⟩
            obtain ⟨N1, hN1⟩ : ∃ N1, showRow rs xs none i = N1 := ⟨_, rfl⟩
            rw [hS1] at c1 HRB HSR
            rw [hN1] at c2 HRB HSN
            obtain ⟨D, hD⟩ : ∃ D, drawn rs lo hi' (carAt (some (q, k)) i) = D := ⟨_, rfl⟩
            have hdt := drawn_txt rs lo hi' (carAt (some (q, k)) i) (fun r hr => (HG.out r hr).1) (by rw [HN.out]; exact k2) k1
            have hdl := drawn_len rs lo hi' (carAt (some (q, k)) i)
            rw [hD] at HRB HSR hdt hdl
            have HDT := Lib.hid hdt
            have HDL := Lib.hid (show D.length ≤ 1001 by omega)
            have HC2 := Lib.hid c2
            have HII := Lib.hid hi
            have HJN := Lib.hid hlt
            have HLH := Lib.hid (And.intro k1 k2)
            have hi200 : i ≤ 201 := by omega
            clear hok hix hx hlo hhi d0 d1 hcw hcn hS1 hN1 hD hdt hdl k1 k2 hj hi
            rw [HSR.out] at c1
            go_wp2_with fail
            refine (bars_any D _ HDT.out (by have := HDL.out; omega)).mono ?_
            rintro e w9 ⟨rfl, hb9⟩
            obtain ⟨cnt, hcnt⟩ : ∃ cnt, D.count 124 = cnt := ⟨_, rfl⟩
            obtain ⟨P1, hP1⟩ : ∃ P1, Str (trimL 32 (D.erase 124)) = P1 := ⟨_, rfl⟩
            rw [hcnt, hP1] at HRB ⊢
            have HB9 := Lib.hid hb9
            have c29 := cell_below hb9 c2
            have c19 := cell_below hb9 c1
            rw [← HSR.out] at c19
            clear hcnt hP1 hb9 c1 c2
            have e5 : IntKind.i64.wrap ((k : Int) - T) = (k : Int) - T := IntWalk.i64_in _ (by omega)
            go_upto_region 29 with fail
            go_cut [185] from 168 to 281 (fun b wx => b = .bool (decide (i = k)) ∧ wx = w9)
            case first => as_aux_lemma =>
              by_cases hik : i = k
              · have b1 : ((j : Int) == (k : Int) - T) = true := by have := HII.out; simp; omega
                have HE := Lib.hid (show decide (i = k) = true from decide_eq_true hik)
                clear hik
                go_wp2_with fail
                go_meet
                exact ⟨by rw [HE.out], rfl⟩
              · have b1 : ((j : Int) == (k : Int) - T) = false := by have := HII.out; simp; omega
                have HE := Lib.hid (show decide (i = k) = false from decide_eq_false hik)
                clear hik
                go_wp2_with fail
                go_meet
                exact ⟨by rw [HE.out], rfl⟩
            case rest => as_aux_lemma =>
              obtain ⟨rfl, rfl⟩ := hcut
              obtain ⟨bi, hbi⟩ : ∃ bi, decide (i = k) = bi := ⟨_, rfl⟩
              rw [hbi]
              have HBI := Lib.hid hbi
              clear hbi e5
              go_upto_if 185 with fail
              go_cut [] from 168 to 281 (fun wx => Below wc.heap.size wc wx)
              case first => as_aux_lemma =>
                cases bi
                · obtain ⟨h1, h2⟩ := HRB.out.2 (of_decide_eq_false HBI.out)
                  subst h2
                  have b1 : ((cnt : Int) != 0) = false := by simp [h1]
                  clear h1
                  go_wp2_with fail
                  go_quiet (fail)
                  go_wp2_with fail
                  go_meet
                  exact below_drewN (Below.refl _ _) _
                · obtain ⟨h1, h2⟩ := HRB.out.1 (of_decide_eq_true HBI.out)
                  subst h2
                  have b1 : ((cnt : Int) != 1) = false := by simp [h1]
                  clear h1
                  go_wp2_with fail
                  go_meet
                  exact Below.refl _ _
              case rest => as_aux_lemma =>
                have HB10 := Lib.hid (HB9.out.trans (hcut.mono HB9.out.size))
                clear hcut c19 c29
                have HBt := Lib.hid (HBo.out.trans (HB10.out.mono HBo.out.size))
                obtain ⟨i0, hi0, hz0, hz1, hz2⟩ := info_parts infoRune
                have HI := Lib.hid (And.intro hi0 (And.intro hz0 (And.intro hz1 hz2)))
                have d0 := cell_below HB10.out HD0.out
                have e4 : IntKind.i64.wrap ((T : Int) + j) = (i : Int) := by rw [show (T : Int) + j = (i : Int) by have := HII.out; omega]; exact IntWalk.i64_in _ (by omega)
                have him : i < m := by have := HII.out; omega
                clear hi0 hz0 hz1 hz2
                go_wp2_with fail
                clear d0
                go_loopw [29, 30] (fun v p wr => ∃ kk : Nat, lo ≤ kk ∧ kk ≤ hi' ∧ p = .int .i64 kk ∧ wr.ownsRow wc.heap.size 21 1 v (drawTo rs lo none (kk - lo)).length (i32s (drawTo rs lo none (kk - lo))) ∧ Below wc.heap.size wc wr) (fun _ p _ => hi' - (intOf p).toNat)
                case atStart => exact ⟨lo, Nat.le_refl _, HLH.out.1, rfl, by rw [Nat.sub_self]; exact ⟨rfl, .inl ⟨rfl, rfl⟩⟩, Below.refl _ _⟩
                case round => as_aux_lemma =>
                  obtain ⟨kk, hk1, hk2, rfl, hown, hb⟩ := hrel
                  have HOW := Lib.hid hown
                  have HBW := Lib.hid hb
                  have HBX := Lib.hid (HBt.out.trans (hb.mono HBt.out.size))
                  have d0 := cell_below (HB10.out.trans (hb.mono HB10.out.size)) HD0.out
                  have d1 := cell_below (HB10.out.trans (hb.mono HB10.out.size)) HD1.out
                  have hdl := drawTo_len rs lo none (kk - lo)
                  have hhi200 : hi' ≤ 200 := by have := HLH.out.2; omega
                  have HKK := Lib.hid (And.intro hk1 hk2)
                  have HDL2 := Lib.hid (show (drawTo rs lo none (kk - lo)).length ≤ 1000 by omega)
                  clear hown hb hdl hk1
                  by_cases hlt2 : kk < hi'
                  · have hkr : kk < rs.length := by have := HLH.out.2; have := HN.out; omega
                    obtain ⟨ad, rfl, hcell⟩ := (HR3.out.below HBX.out) (by omega)
                    have d5 := hcell kk hkr
                    have hst := drawTo_succ rs lo none (kk - lo)
                    rw [show lo + (kk - lo) = kk by have := HKK.out; omega, show kk - lo + 1 = kk + 1 - lo by have := HKK.out; omega, barAt_none, List.append_nil] at hst
                    have hkn : kk < n := by have := HN.out; omega
                    have HLK := Lib.hid hlt2
                    obtain ⟨r, hr⟩ : ∃ r, rs.getD kk 0 = r := ⟨_, rfl⟩
                    rw [hr] at d5 hst
                    obtain ⟨D0, hD0⟩ : ∃ D0, drawTo rs lo none (kk - lo) = D0 := ⟨_, rfl⟩
                    rw [hD0] at hst HOW HDL2
                    clear hcell hr hkr hD0
                    by_cases h9 : r = 9
                    · have b9 : (r == 9) = true := by simp [h9]
                      unfold piece at hst
                      rw [if_pos h9, h9] at hst
                      have hrun := slice_run (some ad) n c lo kk HKK.out.1 (by have := HC.out; omega)
                      have hrv := (HR3.out.below HBX.out).cut lo kk c HKK.out.1 (by have := HN.out; omega) (by have := HC.out; have := HN.out; omega)
                      obtain ⟨V, hV⟩ : ∃ V, (if c = lo then some ad else (some ad).map (·.add (lo * 1))) = V := ⟨_, rfl⟩
                      rw [hV] at hrun hrv
                      have HRV := Lib.hid hrv
                      have HCL := Lib.hid (cut_len rs lo kk (by have := HN.out; omega))
                      obtain ⟨kd, hkd⟩ : ∃ kd, kk - lo = kd := ⟨_, rfl⟩
                      rw [hkd] at hrun HCL
                      have hkd2 : kd ≤ 200 := by omega
                      obtain ⟨wd, hwd⟩ : ∃ wd, wid rs lo kk = wd := ⟨_, rfl⟩
                      rw [hwd] at hst
                      have HW0 := Lib.hid (show 0 ≤ wd by rw [← hwd]; exact wid_nonneg rs lo kk)
                      have hc1 := colR_nonneg 9 wd
                      have hc2 := colR_le 9 wd
                      obtain ⟨cw, hcw⟩ : ∃ cw : Nat, colR 9 wd = (cw : Int) := ⟨(colR 9 wd).toNat, by omega⟩
                      have hcw2 : (colR 9 wd).toNat = cw := by omega
                      rw [hcw2] at hst
                      have hcw4 : cw ≤ 4 := by omega
                      have HCW2 := Lib.hid hcw
                      have HST := Lib.hid hst
                      have HWD := Lib.hid hwd
                      clear h9 hst hV hrv hkd hwd hc1 hc2 hcw hcw2
                      go_wp2_with fail
                      refine (cols_any' V (c - lo) kd (cut rs lo kk) _ HCL.out (by omega) HRV.out (HT3.out.below HBX.out)).mono ?_
                      rintro e w11 ⟨rfl, hb11⟩
                      rw [show colsF (cut rs lo kk) 0 = wd from HWD.out]
                      have HB11 := Lib.hid (HBW.out.trans (hb11.mono HBW.out.size))
                      have HOW2 := Lib.hid (own_below HOW.out hb11)
                      have HT11 := Lib.hid ((HT3.out.below HBX.out).below hb11)
                      clear hb11 hrun d5 d0 d1
                      go_wp2_with fail
                      refine (Cols_any 9 wd _ HW0.out HT11.out).mono ?_
                      rintro e w12 ⟨rfl, hb12⟩
                      rw [HCW2.out]
                      have HB12 := Lib.hid (HB11.out.trans (hb12.mono HB11.out.size))
                      have HOW3 := Lib.hid (own_below HOW2.out hb12)
                      clear hb12
                      go_wp2_with fail
                      obtain ⟨wq, rfl⟩ : ∃ wq : World, wq = wr := ⟨_, rfl⟩
                      go_loopw [29, 31] (fun v q wy => ∃ t : Nat, t ≤ cw ∧ q = .int .i64 ((cw : Int) - t) ∧ wy.ownsRow wc.heap.size 21 1 v (D0 ++ List.replicate t 32).length (i32s (D0 ++ List.replicate t 32)) ∧ Below wc.heap.size wc wy) (fun _ q _ => (intOf q).toNat)
                      case atStart => exact ⟨0, Nat.zero_le _, by simp, by simpa using HOW3.out, HB12.out⟩
                      case round => as_aux_lemma =>
                        obtain ⟨t, ht, rfl, hown4, hb4⟩ := hrel
                        have HO4 := Lib.hid hown4
                        have HB4' := Lib.hid hb4
                        clear hown4 hb4
                        by_cases htc : t < cw
                        · have h0 : (0 : Int) < (cw : Int) - t := by omega
                          have e7 : IntKind.i64.wrap ((cw : Int) - t - 1) = (cw : Int) - t - 1 := IntWalk.i64_in _ (by omega)
                          have HTC := Lib.hid htc
                          have HLE := Lib.hid (show (D0 ++ List.replicate t 32).length ≤ 1004 by rw [List.length_append, List.length_replicate]; have := HDL2.out; omega)
                          obtain ⟨D1, hD1⟩ : ∃ D1, D0 ++ List.replicate t 32 = D1 := ⟨_, rfl⟩
                          rw [hD1] at HO4 HLE
                          have HD1' := Lib.hid hD1
                          clear ht htc hD1
                          go_wp2_with (at_builtin; refine wpList_append_lies _ rfl (.tmp 248) (.tmp 249) 22 rfl wc.heap.size 21 i0 (.int .i32 0) 1 4 Tryd.underlying22 HI.out.1 HI.out.2.1 HI.out.2.2.1 HI.out.2.2.2 rfl (by decide) _ D1.length (i32s D1) rfl (own_below HO4.out (below_alloc1 _ _)) _ 1 1 [.int .i32 32] rfl rfl (fun j u hj => news_alloc _ _ _ j u hj) (by intro u hu; simp at hu; subst hu; rfl) (by decide) (by have h1 := HLE.out; unfold maxLen; omega) (by have h1 := HLE.out; omega) (by have := HB4'.out.size; simp; omega) _ rfl ?_; intro g cap w9 hown hgrow hat hgl; have HO9 := Lib.hid hown; have HGR := Lib.hid hgrow; clear hown hgrow hat hgl)
                          go_roundw
                          case rel => exact ⟨t + 1, HTC.out, by rw [show (cw : Int) - (t + 1 : Nat) = (cw : Int) - t - 1 by omega], by
                            have h1 := HO9.out
                            rw [List.replicate_succ', ← List.append_assoc, HD1'.out, List.length_append, show i32s (D1 ++ [32]) = i32s D1 ++ [.int .i32 32] by simp [i32s]]
                            exact h1, (HB4'.out.alloc HB4'.out.size _).grown HGR.out (by have := HB4'.out.size; simp; omega) (fun k hk => (HO4.out.lt k hk).1)⟩
                          case measure => have := HTC.out; simp [intOf]; omega
                        · obtain rfl : t = cw := by omega
                          have h0 : ¬ (0 : Int) < (t : Int) - t := by omega
                          have HST2 := Lib.hid HST.out
                          go_wp2_with fail
                          go_roundw
                          case rel => exact ⟨kk + 1, by have := HKK.out; omega, HLK.out, by go_num, by rw [HST.out]; exact HO4.out, HB4'.out⟩
                          case measure => have := HLK.out; simp [intOf]; omega
                    · have b9 : (r == 9) = false := by simp [h9]
                      unfold piece at hst
                      rw [if_neg h9] at hst
                      have HST := Lib.hid hst
                      clear h9 hst
                      go_wp2_with (at_builtin; refine wpList_append_lies _ rfl (.tmp 251) (.tmp 256) 22 rfl wc.heap.size 21 i0 (.int .i32 0) 1 4 Tryd.underlying22 HI.out.1 HI.out.2.1 HI.out.2.2.1 HI.out.2.2.2 rfl (by decide) _ D0.length (i32s D0) rfl (own_below HOW.out (below_alloc1 _ _)) _ 1 1 [.int .i32 r] rfl rfl (fun j u hj => news_alloc _ _ _ j u hj) (by intro u hu; simp at hu; subst hu; rfl) (by decide) (by have h1 := HDL2.out; unfold maxLen; omega) (by have h1 := HDL2.out; omega) (by have := HBW.out.size; simp; omega) _ rfl ?_; intro g cap w9 hown hgrow hat hgl; have HO9 := Lib.hid hown; have HGR := Lib.hid hgrow; clear hown hgrow hat hgl)
                      go_roundw
                      case rel => exact ⟨kk + 1, by have := HKK.out; omega, HLK.out, by go_num, by
                        have h1 := HO9.out
                        rw [HST.out, List.length_append, show i32s (D0 ++ [r]) = i32s D0 ++ [.int .i32 r] by simp [i32s]]
                        exact h1, (HBW.out.alloc HBW.out.size _).grown HGR.out (by have := HBW.out.size; simp; omega) (fun k hk => (HOW.out.lt k hk).1)⟩
                      case measure => have := HLK.out; simp [intOf]; omega
                  · obtain rfl : kk = hi' := by omega
                    obtain ⟨A5, c5, rfl, hc5, hA5, hcells5⟩ := Dt.own_tin HOW.out
                    have c2 := cell_below (HB10.out.trans (HBW.out.mono HB10.out.size)) HC2.out
                    rw [HSN.out, drawn_none] at c2
                    obtain ⟨ys, hys⟩ : ∃ ys, drawTo rs lo none (kk - lo) = ys := ⟨_, rfl⟩
                    rw [hys] at c2 hc5 hA5 hcells5 HDL2 ⊢
                    have HYS := HDL2
                    have HST := Lib.hid (show ys.length ≤ ys.length ∧ ys.length ≤ c5 ∧ (A5 = none → ys.length = 0 ∧ c5 = 0) ∧ Cells32 wr A5 (ys.take ys.length) ∧ trimL 32 (ys.take ys.length) = trimL 32 ys from ⟨Nat.le_refl _, hc5, hA5, by rw [List.take_length]; exact hcells5, by rw [List.take_length]⟩)
                    obtain ⟨n0, hn0⟩ : ∃ n0, ys.length = n0 := ⟨_, rfl⟩
                    rw [hn0] at HST HDL2 ⊢
                    have HN0 := Lib.hid hn0
                    have HC22 := Lib.hid c2
                    clear hc5 hA5 hcells5 hn0 hys hk2 hlt2 c2
                    go_wp2_with fail
                    clear d0 d1
                    obtain ⟨wq, rfl⟩ : ∃ wq : World, wq = wr := ⟨_, rfl⟩
                    go_loop [29] (fun v => ∃ (m : Nat) (A : Option Addr) (c : Nat), v = .slice A m c ∧ m ≤ n0 ∧ m ≤ c ∧ (A = none → m = 0 ∧ c = 0) ∧ Cells32 wq A (ys.take m) ∧ trimL 32 (ys.take m) = trimL 32 ys) (fun v => (match v with | .slice _ m _ => m | _ => 0))
                    case atStart => exact ⟨n0, A5, c5, rfl, HST.out⟩
                    case round => as_aux_lemma =>
                      obtain ⟨m5, A, c, rfl, hm, hmc, hA0, hcells, htr⟩ := hrel
                      have hm2 : m5 ≤ 1000 := by have := HDL2.out; omega
                      have c2 := HC22.out
                      cases m5 with
                      | zero =>
                        rw [← htr, show trimL 32 (ys.take 0) = [] from rfl] at c2
                        have hconv : ∀ N, (convert 22 9 (.slice A 0 c)).run Tryd.prog (wq.drewN N) = .ok (.string (Str [])) (wq.drewN N) := fun N => conv_runes (xs := []) (fun h => by cases h)
                        clear hm hmc hA0 htr
                        go_wp2_with fail
                        go_quiet (fail)
                        go_wp2_with fail
                        go_roundw
                        case rel => exact ⟨j + 1, HJN.out, by go_num, below_drewN (HB.out.trans ((HB10.out.trans (HBW.out.mono HB10.out.size)).mono HB.out.size)) _⟩
                        case measure => have := HJN.out; simp [intOf]; omega
                      | succ m5 =>
                        have hmy : m5 < ys.length := by have := HN0.out; omega
                        obtain ⟨ad5, rfl, hcs⟩ := hcells (by rw [List.length_take]; omega)
                        have d5 := hcs m5 (by rw [List.length_take]; omega)
                        rw [show (ys.take (m5 + 1)).getD m5 0 = ys.getD m5 0 by simp [List.getD, List.getElem?_take]] at d5
                        have z1 : ((m5 + 1 : Nat) : Int) - 1 = (m5 : Int) := by omega
                        have e8 : IntKind.i64.wrap (((m5 + 1 : Nat) : Int) - 1) = (m5 : Int) := by rw [z1]; exact IntWalk.i64_in _ (by omega)
                        obtain ⟨A', hsl, hA', hcm⟩ := Dt.slice_head (some ad5) (m5 + 1) c m5 (by omega) hmc hA0
                        have HCM := Lib.hid (And.intro hA' (hcm wq (ys.take (m5 + 1)) (by rw [List.length_take]; omega) hcells))
                        obtain ⟨r, hr⟩ : ∃ r, ys.getD m5 0 = r := ⟨_, rfl⟩
                        rw [hr] at d5
                        have HRR := Lib.hid hr
                        have HMY := Lib.hid hmy
                        have HMC := Lib.hid hmc
                        have HTR := Lib.hid htr
                        have HCL := Lib.hid hcells
                        obtain ⟨m1, hm1⟩ : ∃ m1, m5 + 1 = m1 := ⟨_, rfl⟩
                        have hlt1 : (m5 : Int) < (m1 : Int) := by omega
                        have hp1 : 0 < m1 := by omega
                        rw [hm1] at e8 hsl ⊢
                        have HM1 := Lib.hid hm1
                        clear hcs hcells hmy hr hmc htr hm hA0 hA' hcm z1 hm1
                        by_cases hc : r = 32
                        · have b1 : (r == 32) = true := by simp [hc]
                          have HCC := Lib.hid hc
                          clear hc c2
                          go_wp2_with fail
                          go_round
                          case rel => exact ⟨m5, A', c, rfl, by have := HMY.out; have := HN0.out; omega, by have := HMC.out; omega, HCM.out.1, by have := HCM.out.2; rwa [List.take_take, show min m5 (m5 + 1) = m5 by omega] at this, by rw [← HTR.out, trim_take HMY.out (by rw [HRR.out, HCC.out])]⟩
                          case measure => show m5 < m1; have := HM1.out; omega
                        · have b1 : (r == 32) = false := by simp [hc]
                          have HCC := Lib.hid hc
                          clear hc
                          rw [← HTR.out, trim_take_ne HMY.out (by rw [HRR.out]; exact HCC.out)] at c2
                          have hconv : ∀ N, (convert 22 9 (.slice (some ad5) m1 c)).run Tryd.prog (wq.drewN N) = .ok (.string (Str (ys.take (m5 + 1)))) (wq.drewN N) := fun N => by
                            have h1 := conv_runes (W := wq.drewN N) (A := some ad5) (c := c) (xs := ys.take (m5 + 1)) (fun h0 => HCL.out h0)
                            rwa [List.length_take, show min (m5 + 1) ys.length = m1 by have := HMY.out; have := HM1.out; omega] at h1
                          obtain ⟨Z, hZ⟩ : ∃ Z, Str (ys.take (m5 + 1)) = Z := ⟨_, rfl⟩
                          rw [hZ] at hconv c2
                          clear hZ
                          go_wp2_with fail
                          go_quiet (fail)
                          go_wp2_with fail
                          go_roundw
                          case rel => exact ⟨j + 1, HJN.out, by go_num, below_drewN (HB.out.trans ((HB10.out.trans (HBW.out.mono HB10.out.size)).mono HB.out.size)) _⟩
                          case measure => have := HJN.out; simp [intOf]; omega
          · go_wp2_with fail
            go_ret
            exact ⟨rfl, HB3.out.trans ((HB7.out.trans (HB.out.mono HB7.out.size)).mono HB3.out.size)⟩
end Go.Proofs.YtkidcleffllhbaaDoor.Pg
