/- sheet.line, walked. -/
import Derived.Test.YtkidcleffllhbaaDoorPgL
import Derived.Laws.MakeOwn
namespace Go.Proofs.YtkidcleffllhbaaDoor.Pg
open Go.RowKit Go.Proofs Go.Joins
set_option linter.unusedVariables false
set_option linter.unusedSimpArgs false
attribute [local go_sem] frozen?_alloc_cells

theorem wid_bound (rs : List Int) (lo k : Nat) (hk : k ≤ rs.length) (hl : rs.length ≤ 1125899906842624) : 0 ≤ wid rs lo k ∧ wid rs lo k ≤ 4503599627370496 := by
  have h1 := colsF_le (cut rs lo k) 0
  rw [cut_len rs lo k hk] at h1
  have h2 := wid_nonneg rs lo k
  unfold wid at h2 ⊢
  omega
theorem infoLine : (Tryd.prog.info? 61).map (fun i => (i.zero, i.size, i.bytes)) = some (some (.agg #[.int .i64 0, .int .i64 0, .int .i64 0, .bool false]), 4, 32) := by kernel_rfl
theorem four_one (a b c : Int) (d : Bool) : ∀ u ∈ [Value.int .i64 a, .int .i64 b, .int .i64 c, .bool d], u.oneCell' = true := by
  intro u hu
  simp at hu
  rcases hu with rfl | rfl | rfl | rfl <;> rfl
theorem scan_step (w : Int) (rs : List Int) (lo e k : Nat) (b : Option Nat) (n : Int) (h : k < e) : scan w rs lo e (e - k) k b n = if w < n + colR (rs.getD k 0) n ∧ lo < k then (k, b, n) else if w < n + colR (rs.getD k 0) n then (k + 1, if isB (rs.getD k 0) then some k else b, n + colR (rs.getD k 0) n) else scan w rs lo e (e - (k + 1)) (k + 1) (if isB (rs.getD k 0) then some k else b) (n + colR (rs.getD k 0) n) := by
  obtain ⟨f, hf⟩ : ∃ f, e - k = f + 1 := ⟨e - k - 1, by omega⟩
  rw [hf, show e - (k + 1) = f by omega]
  exact if_pos h
set_option maxRecDepth 100000 in
set_option maxHeartbeats 4000000 in
theorem line_any (B P : Nat) (S : ByteArray) (A : Option Addr) (c : Nat) (rs : List Int) (W : Int) (v : Value) (xs : List Row) (lo e : Nat) (w : World) (hW : 1 ≤ W ∧ W ≤ 1024) (hl : rs.length ≤ 1125899906842624) (hc : rs.length ≤ c) (h1 : lo ≤ e) (h2 : e ≤ rs.length) (hn : ∀ q, lo ≤ q → q < e → rs.getD q 0 ≠ 10)
    (hx : xs.length + (e - lo) + 1 ≤ 1099511627776) (hB : 4 ≤ B) (hBw : B ≤ w.heap.size) (hT : Tabs w) (hL : Lay B w P S A c rs W v xs) :
    Calls Tryd.prog 65 #[.pointer (some ⟨P, 0, none⟩), .int .i64 lo, .int .i64 e] w fun x w' => x = .returned (.tuple #[]) ∧ (∃ v', Lay B w' P S A c rs W v' (xs ++ lineRows W rs e (e - lo) lo)) ∧ Below B w w' := by
  have HT := Lib.hid hT
  have HL := Lib.hid hL
  have HN := Lib.hid hn
  have HX := Lib.hid hx
  have HLN := Lib.hid hl
  have HC := Lib.hid hc
  have HW := Lib.hid hW
  have HE := Lib.hid h2
  have HBW := Lib.hid hBw
  clear hT hL hn hx hl hc hW hBw
  go_enter Tryd.func65, Tryd.ntmps65
  go_wp2_with fail
  go_loopw [1] (fun i wr => ∃ (l : Nat) (ys : List Row) (v' : Value), i = .int .i64 l ∧ l ≤ e ∧ lo ≤ l ∧ Lay B wr P S A c rs W v' ys ∧ Below B w wr ∧ ys ++ lineRows W rs e (e - l) l = xs ++ lineRows W rs e (e - lo) lo ∧ ys.length + (e - l) + 1 ≤ 1099511627776) (fun i _ => e - (intOf i).toNat)
  case atStart => exact ⟨lo, xs, v, rfl, h1, Nat.le_refl _, HL.out, Below.refl _ _, rfl, HX.out⟩
  case round =>
    obtain ⟨l, ys, v', rfl, hle, hlo, hL, hb, hrows, hbound⟩ := hrel
    have HL2 := Lib.hid hL
    have HB2 := Lib.hid hb
    have HR := Lib.hid hrows
    have HBD := Lib.hid hbound
    clear hL hb hrows hbound
    go_upto_block 2 with fail
    go_cut [6, 7, 8] (fun k b n wx => ∃ (kk : Nat) (bb : Option Nat) (nn : Int), k = .int .i64 kk ∧ b = .int .i64 (bOf bb) ∧ n = .int .i64 nn ∧ scan W rs l e (e - l) l none 0 = (kk, bb, nn) ∧ Lay B wx P S A c rs W v' ys ∧ Below B w wx)
    case first =>
      go_wp2_with fail
      go_loopw [6, 7, 8] (fun k b n wr2 => ∃ (kk : Nat) (bb : Option Nat) (nn : Int), k = .int .i64 kk ∧ b = .int .i64 (bOf bb) ∧ n = .int .i64 nn ∧ Scanned W rs l e kk bb nn ∧ nn ≤ W ∧ scan W rs l e (e - l) l none 0 = scan W rs l e (e - kk) kk bb nn ∧ Lay B wr2 P S A c rs W v' ys ∧ Below B w wr2) (fun k _ _ _ => e - (intOf k).toNat)
      case atStart => exact ⟨l, none, 0, rfl, rfl, rfl, Scanned.start W rs hle, by have := HW.out; omega, rfl, HL2.out, HB2.out⟩
      case round =>
        obtain ⟨kk, bb, nn, rfl, rfl, rfl, hsc, hnw, hscan, hL, hb⟩ := hrel
        have HL3 := Lib.hid hL
        have HB3 := Lib.hid hb
        have HSC := Lib.hid hsc
        have HSN := Lib.hid hscan
        clear hL hb hscan
        have hlk := hsc.ge
        obtain ⟨bv, hbv⟩ : ∃ bv, bOf bb = bv := ⟨_, rfl⟩
        by_cases hlt : kk < e
        · have HST := Lib.hid (HSN.out.trans (scan_step W rs l e kk bb nn hlt))
          have hkr : kk < rs.length := by have := HE.out; omega
          have hkb : kk ≤ 1125899906842624 := by have := HLN.out; omega
          have hwb := wid_bound rs l kk (by omega) HLN.out
          rw [← hsc.cols] at hwb
          have s1 := HL3.out.sheet.runes
          have s2 := HL3.out.sheet.width
          obtain ⟨ad, rfl, hcell⟩ := HL3.out.runes (by omega)
          have d1 := hcell kk hkr
          obtain ⟨r, hr⟩ : ∃ r, rs.getD kk 0 = r := ⟨_, rfl⟩
          have hc0 := colR_nonneg r nn
          have hc1 := colR_le r nn
          rw [hr] at d1 HST
          have HNX := Lib.hid (HSC.out.next hlt HE.out)
          rw [hr] at HNX
          have hn0 : 0 ≤ nn := hwb.1
          have e1 : IntKind.i64.wrap (nn + colR r nn) = nn + colR r nn := IntWalk.i64_in _ (by omega)
          have HLT := Lib.hid hlt
          rw [hbv]
          clear hcell hr hsc hwb hc0 hc1
          go_wp2_with fail
          refine (Cols_any r nn _ hn0 (HT.out.belowB HB3.out hB)).mono ?_
          rintro x w2 ⟨rfl, hb⟩
          have HL4 := Lib.hid (HL3.out.below hb)
          have HB4 := Lib.hid (HB3.out.trans (hb.mono (Nat.le_trans HBW.out HB3.out.size)))
          have d1' := cell_below hb d1
          have s1' := HL4.out.sheet.runes
          have s2' := HL4.out.sheet.width
          clear hb d1 s1 s2
          obtain ⟨cw, hcw⟩ : ∃ cw, colR r nn = cw := ⟨_, rfl⟩
          rw [hcw] at e1 HST HNX ⊢
          clear hcw
          by_cases gA : W < nn + cw
          · by_cases gB : l < kk
            · go_wp2_with fail
              go_meet
              exact ⟨kk, bb, nn, rfl, by rw [hbv], rfl, by rw [HST.out, if_pos ⟨gA, gB⟩], HL4.out, HB4.out⟩
            · have HS2 := Lib.hid (show scan W rs l e (e - l) l none 0 = (kk + 1, if isB r then some kk else bb, nn + cw) by rw [HST.out, if_neg (fun h => gB h.2), if_pos gA])
              by_cases q1 : r = 32
              · have b1 : (r == 32) = true := by simp [q1]
                have QB := Lib.hid (show isB r = true by simp [isB, q1])
                clear q1
                go_wp2_with fail
                go_meet
                exact ⟨kk + 1, some kk, nn + cw, by go_num, rfl, rfl, by rw [HS2.out, if_pos QB.out], HL4.out, HB4.out⟩
              have b1 : (r == 32) = false := by simp [q1]
              by_cases q2 : r = 9
              · have b2 : (r == 9) = true := by simp [q2]
                have QB := Lib.hid (show isB r = true by simp [isB, q2])
                clear q1 q2
                go_wp2_with fail
                go_meet
                exact ⟨kk + 1, some kk, nn + cw, by go_num, rfl, rfl, by rw [HS2.out, if_pos QB.out], HL4.out, HB4.out⟩
              · have b2 : (r == 9) = false := by simp [q2]
                have QB := Lib.hid (show isB r = false by simp [isB, q1, q2])
                clear q1 q2
                go_wp2_with fail
                go_meet
                exact ⟨kk + 1, bb, nn + cw, by go_num, by rw [hbv], rfl, by rw [HS2.out, if_neg (by rw [QB.out]; decide)], HL4.out, HB4.out⟩
          · have GA := Lib.hid (Int.not_lt.1 gA)
            have HS2 := Lib.hid (show scan W rs l e (e - l) l none 0 = scan W rs l e (e - (kk + 1)) (kk + 1) (if isB r then some kk else bb) (nn + cw) by rw [HST.out, if_neg (fun h => gA h.1), if_neg gA])
            by_cases q1 : r = 32
            · have b1 : (r == 32) = true := by simp [q1]
              have QB := Lib.hid (show isB r = true by simp [isB, q1])
              clear q1
              go_wp2_with fail
              go_roundw
              case rel => exact ⟨kk + 1, some kk, nn + cw, by go_num, rfl, rfl, (by have := HNX.out; rwa [if_pos QB.out] at this), GA.out, by rw [HS2.out, if_pos QB.out], HL4.out, HB4.out⟩
              case measure => have := HLT.out; simp [intOf]; omega
            have b1 : (r == 32) = false := by simp [q1]
            by_cases q2 : r = 9
            · have b2 : (r == 9) = true := by simp [q2]
              have QB := Lib.hid (show isB r = true by simp [isB, q2])
              clear q1 q2
              go_wp2_with fail
              go_roundw
              case rel => exact ⟨kk + 1, some kk, nn + cw, by go_num, rfl, rfl, (by have := HNX.out; rwa [if_pos QB.out] at this), GA.out, by rw [HS2.out, if_pos QB.out], HL4.out, HB4.out⟩
              case measure => have := HLT.out; simp [intOf]; omega
            · have b2 : (r == 9) = false := by simp [q2]
              have QB := Lib.hid (show isB r = false by simp [isB, q1, q2])
              clear q1 q2
              go_wp2_with fail
              go_roundw
              case rel => exact ⟨kk + 1, bb, nn + cw, by go_num, by rw [hbv], rfl, (by have := HNX.out; rwa [if_neg (by rw [QB.out]; decide)] at this), GA.out, by rw [HS2.out, if_neg (by rw [QB.out]; decide)], HL4.out, HB4.out⟩
              case measure => have := HLT.out; simp [intOf]; omega
        · have hke : kk = e := Nat.le_antisymm HSC.out.le (Nat.le_of_not_lt hlt)
          rw [hbv]
          go_wp2_with fail
          go_meet
          exact ⟨kk, bb, nn, rfl, by rw [hbv], rfl, by rw [HSN.out, hke, Nat.sub_self]; rfl, HL3.out, HB3.out⟩
    case rest =>
      obtain ⟨kk, bb, nn, rfl, rfl, rfl, hscan, hL, hb⟩ := hcut
      have HL3 := Lib.hid hL
      have HB3 := Lib.hid hb
      have hrow : rowOf W rs l e = ⟨l, rowHi e kk bb, wid rs l (rowHi e kk bb), decide (kk = e)⟩ := by unfold rowOf; rw [hscan]
      obtain ⟨i0, hi0, hz0, hz1, hz2⟩ := info_parts infoLine
      have HRW := Lib.hid hrow
      have c3 := HL3.out.sheet.rows
      have HI := Lib.hid (And.intro hi0 (And.intro hz0 (And.intro hz1 hz2)))
      have hsoft : kk ≠ e → l < rowHi e kk bb ∧ rowHi e kk bb < e ∧ lineRows W rs e (e - l) l = rowOf W rs l e :: lineRows W rs e (e - rowHi e kk bb) (rowHi e kk bb) := fun hne => by
        have h7 := lineRows_soft W rs e l HW.out.1 HE.out hle (fun q a c => HN.out q (by omega) c) (by rw [hrow]; simp [hne])
        rwa [hrow] at h7 ⊢
      clear hL hb hscan HL2 HB2 hrow hi0 hz0 hz1 hz2
      by_cases hke : kk = e
      · have hhi : rowHi e kk bb = e := by cases bb <;> simp [rowHi, hke]
        have b1 : ((kk : Int) == (e : Int)) = true := by simp [hke]
        have HH := Lib.hid hhi
        have HKE := Lib.hid hke
        have HK2 := Lib.hid (show l ≤ kk ∧ kk ≤ rs.length by have := HE.out; omega)
        clear hhi hke hsoft
        go_wp2_with fail
        go_cut [] (fun wx => ∃ v2, Lay B wx P S A c rs W v2 (ys ++ [⟨l, kk, wid rs l kk, true⟩]) ∧ Below B w wx)
        case first =>
          go_region_law (first
            | (go_simp; go_at_call 41; refine (scols_any P S A c rs W v' l kk _ HLN.out HK2.out.1 HK2.out.2 HC.out (HL3.out.below (by first | exact Below.refl _ _ | exact (Below.refl _ _).drew)).sheet (HL3.out.below (by first | exact Below.refl _ _ | exact (Below.refl _ _).drew)).runes (HT.out.belowB (by first | exact HB3.out | exact HB3.out.drew) hB)).mono ?_; rintro _ w2 ⟨rfl, hb5⟩; have HL5 := Lib.hid ((HL3.out.below (by first | exact Below.refl _ _ | exact (Below.refl _ _).drew)).below hb5); have c5 := HL5.out.sheet.rows; have c6 : ∀ o, (w2.alloc o).cell? ⟨P, 3, none⟩ = some v' := fun o => cell_below (below_alloc1 w2 o) c5; have HB5 := Lib.hid ((show Below B w _ by first | exact HB3.out | exact HB3.out.drew).trans (hb5.mono (Nat.le_trans HBW.out HB3.out.size))); clear hb5)
            | (refine step_append_lies _ rfl (.tmp 82) (.tmp 91) 49 rfl B 61 i0 (.agg #[.int .i64 0, .int .i64 0, .int .i64 0, .bool false]) 4 32 Tryd.underlying49 HI.out.1 HI.out.2.1 HI.out.2.2.1 HI.out.2.2.2 rfl (by decide) v' ys.length (rowCells ys) (by simp [Act.eval, Act.put]) (by exact own_below HL5.out.own (below_alloc1 _ _)) _ 1 1 [.int .i64 l, .int .i64 kk, .int .i64 (wid rs l kk), .bool true] (by simp [Act.eval, Act.put]) rfl (fun j u hj => news_alloc _ _ _ j u hj) (four_one _ _ _ _) (by decide) (by have := HBD.out; unfold maxLen; omega) (by have := HBD.out; omega) (by have h3 := HL5.out.ge; have h4 := HL5.out.lt; simp; omega) _ rfl ?_; intro g cap w9 hown hgrow hat hgl; have b9 := HL5.out.box9 hgrow; have c9 : w9.cell? ⟨P, 3, none⟩ = some v' := (by rw [Lib.cell_of_heap b9]; rfl); have f9 : w9.frozen? ⟨P, 3, none⟩ = false := Lib.frozen_of_heap b9 3; have HP := Lib.hid (HL5.out.push ⟨l, kk, wid rs l kk, true⟩ (by have h3 := HL5.out.ge; have h4 := HL5.out.lt; omega) hown hgrow hat); clear hown hgrow hat hgl b9))
          all_goals (go_wp2_with fail)
          all_goals
            go_meet
            exact ⟨_, HP.out.1, HB5.out.trans HP.out.2⟩
        case rest =>
          obtain ⟨v2, hL, hb⟩ := hcut
          have HL6 := Lib.hid hL
          have HB6 := Lib.hid hb
          clear hL hb c3
          go_wp2_with fail
          try simp only [Exit.inBlock, Exit.then]
          refine bodyPost_ret (results_none rfl _ _ _) rfl ?_
          refine ⟨rfl, ⟨v2, ?_⟩, HB6.out⟩
          have h7 := HL6.out
          have h8 : rowOf W rs l e = ⟨l, kk, wid rs l kk, true⟩ := by rw [HRW.out, HH.out, HKE.out]; simp
          rw [← HR.out, lineRows_hard W rs e l (e - l) (by rw [h8]), h8]
          exact h7
      · have b1 : ((kk : Int) == (e : Int)) = false := by simp; omega
        have HSF0 := Lib.hid (hsoft hke)
        have HKE := Lib.hid hke
        clear hke hsoft
        cases bb with
        | none =>
          have hh : rowHi e kk none = kk := by simp [rowHi, HKE.out]
          have HSF := Lib.hid (show l < kk ∧ kk < e ∧ lineRows W rs e (e - l) l = ⟨l, kk, wid rs l kk, false⟩ :: lineRows W rs e (e - kk) kk by
            have h7 := HSF0.out
            rw [HRW.out, hh] at h7
            simpa [HKE.out] using h7)
          have HK2 := Lib.hid (show l ≤ kk ∧ kk ≤ rs.length by have := HE.out; have := HSF.out; omega)
          clear hh HSF0 HRW
          unfold bOf
          go_wp2_with fail
          go_cut [] (fun wx => ∃ v2, Lay B wx P S A c rs W v2 (ys ++ [⟨l, kk, wid rs l kk, false⟩]) ∧ Below B w wx)
          case first =>
            go_region_law (first
              | (go_simp; go_at_call 41; refine (scols_any P S A c rs W v' l kk _ HLN.out HK2.out.1 HK2.out.2 HC.out (HL3.out.below (by first | exact Below.refl _ _ | exact (Below.refl _ _).drew)).sheet (HL3.out.below (by first | exact Below.refl _ _ | exact (Below.refl _ _).drew)).runes (HT.out.belowB (by first | exact HB3.out | exact HB3.out.drew) hB)).mono ?_; rintro _ w2 ⟨rfl, hb5⟩; have HL5 := Lib.hid ((HL3.out.below (by first | exact Below.refl _ _ | exact (Below.refl _ _).drew)).below hb5); have c5 := HL5.out.sheet.rows; have c6 : ∀ o, (w2.alloc o).cell? ⟨P, 3, none⟩ = some v' := fun o => cell_below (below_alloc1 w2 o) c5; have HB5 := Lib.hid ((show Below B w _ by first | exact HB3.out | exact HB3.out.drew).trans (hb5.mono (Nat.le_trans HBW.out HB3.out.size))); clear hb5)
              | (refine step_append_lies _ rfl (.tmp 82) (.tmp 91) 49 rfl B 61 i0 (.agg #[.int .i64 0, .int .i64 0, .int .i64 0, .bool false]) 4 32 Tryd.underlying49 HI.out.1 HI.out.2.1 HI.out.2.2.1 HI.out.2.2.2 rfl (by decide) v' ys.length (rowCells ys) (by simp [Act.eval, Act.put]) (by exact own_below HL5.out.own (below_alloc1 _ _)) _ 1 1 [.int .i64 l, .int .i64 kk, .int .i64 (wid rs l kk), .bool false] (by simp [Act.eval, Act.put]) rfl (fun j u hj => news_alloc _ _ _ j u hj) (four_one _ _ _ _) (by decide) (by have := HBD.out; unfold maxLen; omega) (by have := HBD.out; omega) (by have h3 := HL5.out.ge; have h4 := HL5.out.lt; simp; omega) _ rfl ?_; intro g cap w9 hown hgrow hat hgl; have b9 := HL5.out.box9 hgrow; have c9 : w9.cell? ⟨P, 3, none⟩ = some v' := (by rw [Lib.cell_of_heap b9]; rfl); have f9 : w9.frozen? ⟨P, 3, none⟩ = false := Lib.frozen_of_heap b9 3; have HP := Lib.hid (HL5.out.push ⟨l, kk, wid rs l kk, false⟩ (by have h3 := HL5.out.ge; have h4 := HL5.out.lt; omega) hown hgrow hat); clear hown hgrow hat hgl b9))
            all_goals (go_wp2_with fail)
            all_goals
              go_meet
              exact ⟨_, HP.out.1, HB5.out.trans HP.out.2⟩
          case rest =>
            obtain ⟨v2, hL, hb⟩ := hcut
            have HL6 := Lib.hid hL
            have HB6 := Lib.hid hb
            clear hL hb c3
            go_wp2_with fail
            go_roundw
            case rel => exact ⟨kk, ys ++ [⟨l, kk, wid rs l kk, false⟩], v2, rfl, by have := HSF.out.2.1; omega, by have := HSF.out.1; omega, HL6.out, HB6.out, by rw [← HR.out, HSF.out.2.2]; simp, by have := HBD.out; have h8 := HSF.out.1; have h9 := HSF.out.2.1; simp; omega⟩
            case measure => have h8 := HSF.out.1; have h9 := HSF.out.2.1; simp [intOf]; omega
        | some q =>
          obtain ⟨z, hzq⟩ : ∃ z : Nat, z = q + 1 := ⟨_, rfl⟩
          have hh : rowHi e kk (some q) = z := by simp [rowHi, HKE.out, hzq]
          have HSF := Lib.hid (show l < z ∧ z < e ∧ lineRows W rs e (e - l) l = ⟨l, z, wid rs l z, false⟩ :: lineRows W rs e (e - z) z by
            have h7 := HSF0.out
            rw [HRW.out, hh] at h7
            simpa [HKE.out] using h7)
          have HK2 := Lib.hid (show l ≤ z ∧ z ≤ rs.length by have := HE.out; have := HSF.out; omega)
          have ez : IntKind.i64.wrap ((q : Int) + 1) = (z : Int) := by rw [hzq]; exact IntWalk.i64_in _ (by have := HE.out; have := HSF.out; have := HLN.out; omega)
          clear hh HSF0 HRW hzq
          unfold bOf
          go_wp2_with fail
          go_cut [] (fun wx => ∃ v2, Lay B wx P S A c rs W v2 (ys ++ [⟨l, z, wid rs l z, false⟩]) ∧ Below B w wx)
          case first =>
            go_region_law (first
              | (go_simp; go_at_call 41; refine (scols_any P S A c rs W v' l z _ HLN.out HK2.out.1 HK2.out.2 HC.out (HL3.out.below (by first | exact Below.refl _ _ | exact (Below.refl _ _).drew)).sheet (HL3.out.below (by first | exact Below.refl _ _ | exact (Below.refl _ _).drew)).runes (HT.out.belowB (by first | exact HB3.out | exact HB3.out.drew) hB)).mono ?_; rintro _ w2 ⟨rfl, hb5⟩; have HL5 := Lib.hid ((HL3.out.below (by first | exact Below.refl _ _ | exact (Below.refl _ _).drew)).below hb5); have c5 := HL5.out.sheet.rows; have c6 : ∀ o, (w2.alloc o).cell? ⟨P, 3, none⟩ = some v' := fun o => cell_below (below_alloc1 w2 o) c5; have HB5 := Lib.hid ((show Below B w _ by first | exact HB3.out | exact HB3.out.drew).trans (hb5.mono (Nat.le_trans HBW.out HB3.out.size))); clear hb5)
              | (refine step_append_lies _ rfl (.tmp 82) (.tmp 91) 49 rfl B 61 i0 (.agg #[.int .i64 0, .int .i64 0, .int .i64 0, .bool false]) 4 32 Tryd.underlying49 HI.out.1 HI.out.2.1 HI.out.2.2.1 HI.out.2.2.2 rfl (by decide) v' ys.length (rowCells ys) (by simp [Act.eval, Act.put]) (by exact own_below HL5.out.own (below_alloc1 _ _)) _ 1 1 [.int .i64 l, .int .i64 z, .int .i64 (wid rs l z), .bool false] (by simp [Act.eval, Act.put]) rfl (fun j u hj => news_alloc _ _ _ j u hj) (four_one _ _ _ _) (by decide) (by have := HBD.out; unfold maxLen; omega) (by have := HBD.out; omega) (by have h3 := HL5.out.ge; have h4 := HL5.out.lt; simp; omega) _ rfl ?_; intro g cap w9 hown hgrow hat hgl; have b9 := HL5.out.box9 hgrow; have c9 : w9.cell? ⟨P, 3, none⟩ = some v' := (by rw [Lib.cell_of_heap b9]; rfl); have f9 : w9.frozen? ⟨P, 3, none⟩ = false := Lib.frozen_of_heap b9 3; have HP := Lib.hid (HL5.out.push ⟨l, z, wid rs l z, false⟩ (by have h3 := HL5.out.ge; have h4 := HL5.out.lt; omega) hown hgrow hat); clear hown hgrow hat hgl b9))
            all_goals (go_wp2_with fail)
            all_goals
              go_meet
              exact ⟨_, HP.out.1, HB5.out.trans HP.out.2⟩
          case rest =>
            obtain ⟨v2, hL, hb⟩ := hcut
            have HL6 := Lib.hid hL
            have HB6 := Lib.hid hb
            clear hL hb c3
            go_wp2_with fail
            go_roundw
            case rel => exact ⟨z, ys ++ [⟨l, z, wid rs l z, false⟩], v2, rfl, by have := HSF.out.2.1; omega, by have := HSF.out.1; omega, HL6.out, HB6.out, by rw [← HR.out, HSF.out.2.2]; simp, by have := HBD.out; have h8 := HSF.out.1; have h9 := HSF.out.2.1; simp; omega⟩
            case measure => have h8 := HSF.out.1; have h9 := HSF.out.2.1; simp [intOf]; omega
end Go.Proofs.YtkidcleffllhbaaDoor.Pg
