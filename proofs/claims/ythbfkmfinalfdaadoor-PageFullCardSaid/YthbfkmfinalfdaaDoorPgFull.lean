/- PageFull answers true. -/
import Derived.Test.YthbfkmfinalfdaaDoorPgQ
import Derived.Deep.QuietTactic
import Derived.BigQuiet
namespace Go.Proofs.YthbfkmfinalfdaaDoor.Pg
open Go.RowKit Go.Proofs Go.Joins Go.Proofs.YthbfkmfinalfdaaDoor.U Go.Proofs.YthbfkmfinalfdaaDoor.Txt
set_option linter.unusedVariables false
set_option linter.unusedSimpArgs false
attribute [local go_sem] frozen?_alloc_cells

theorem isB_true {r : Int} (h : isB r = true) : r = 32 ∨ r = 9 := by simpa [isB] using h
theorem isB_false {r : Int} (h : isB r = false) : r ≠ 32 ∧ r ≠ 9 := by simpa [isB] using h
theorem blank_any (r : Int) (w : World) : Calls Tryd.prog 11 #[.int .i32 r] w fun e w' => e = .returned (.bool (isB r)) ∧ w = w' := by
  go_enter Tryd.func11, Tryd.ntmps11
  have e0 : isB r = (decide (r = 32) || decide (r = 9)) := rfl
  by_cases h1 : r = 32
  · have b1 : (r == 32) = true := by simp [h1]
    have E := Lib.hid (show isB r = true by rw [e0]; simp [h1])
    clear h1 e0
    go_wp2_with fail
    go_ret
    exact ⟨by rw [E.out]; rfl, rfl⟩
  · have b1 : (r == 32) = false := by simp [h1]
    by_cases h2 : r = 9
    · have b2 : (r == 9) = true := by simp [h2]
      have E := Lib.hid (show isB r = true by rw [e0]; simp [h2])
      clear h1 h2 e0
      go_wp2_with fail
      go_ret
      exact ⟨by rw [E.out]; rfl, rfl⟩
    · have b2 : (r == 9) = false := by simp [h2]
      have E := Lib.hid (show isB r = false by rw [e0]; simp [h1, h2])
      clear h1 h2 e0
      go_wp2_with fail
      go_ret
      exact ⟨by rw [E.out]; rfl, rfl⟩
theorem blank_is (b : Bool) (r : Int) (w : World) (h : isB r = b) : Calls Tryd.prog 11 #[.int .i32 r] w fun e w' => e = .returned (.bool b) ∧ w = w' := by
  subst h
  exact blank_any r w
/-- Each row of a chain: as it should be, and as a soft row should be if it is one; the last is hard and ends where the text does. -/
theorem Chain.each {w : Int} {rs : List Int} {a : Nat} {l : List Row} (h : Chain w rs a l) : ∀ x ∈ l, x.hard = false → SoftOk w rs x := by
  induction h with
  | last x h hh => intro y hy hf; simp at hy; subst hy; rw [hh] at hf; cases hf
  | hard x l h hh _ _ _ ih =>
    intro y hy hf
    rcases List.mem_cons.1 hy with rfl | hy
    · rw [hh] at hf; cases hf
    · exact ih y hy hf
  | soft x l h hh hs _ ih =>
    intro y hy hf
    rcases List.mem_cons.1 hy with rfl | hy
    · exact hs
    · exact ih y hy hf
theorem Chain.end {w : Int} {rs : List Int} {a : Nat} {l : List Row} (h : Chain w rs a l) : ∃ hj : l.length - 1 < l.length, l[l.length - 1].hard = true ∧ l[l.length - 1].hi = rs.length := by
  induction h with
  | last x h hh he => exact ⟨by simp, hh, he⟩
  | hard x l h hh _ _ hc ih =>
    obtain ⟨hj, h1, h2⟩ := ih
    have hn := hc.ne
    refine ⟨by simp, ?_, ?_⟩
    · simpa [List.getElem_cons, show l.length ≠ 0 by omega] using h1
    · simpa [List.getElem_cons, show l.length ≠ 0 by omega] using h2
  | soft x l h hh hs hc ih =>
    obtain ⟨hj, h1, h2⟩ := ih
    have hn := hc.ne
    refine ⟨by simp, ?_, ?_⟩
    · simpa [List.getElem_cons, show l.length ≠ 0 by omega] using h1
    · simpa [List.getElem_cons, show l.length ≠ 0 by omega] using h2
/-- Where the way over what is no blank stands: still to go. -/
def Going (rs : List Int) (hi e : Nat) : Prop := ∃ f, rs.length - e ≤ f ∧ ext rs rs.length hi = ext rs f e
theorem Going.next {rs : List Int} {hi e : Nat} (h : Going rs hi e) (h1 : e < rs.length) (h2 : rs.getD e 0 ≠ 10) (h3 : isB (rs.getD e 0) = false) : Going rs hi (e + 1) := by
  obtain ⟨f, hf, he⟩ := h
  obtain ⟨g, rfl⟩ : ∃ g, f = g + 1 := ⟨f - 1, by omega⟩
  refine ⟨g, by omega, ?_⟩
  rw [he, ext, if_pos ⟨h1, h2⟩, h3]
  simp
theorem Going.stop {rs : List Int} {hi e : Nat} (h : Going rs hi e) (h1 : rs.length ≤ e ∨ rs.getD e 0 = 10) : ext rs rs.length hi = e := by
  obtain ⟨f, hf, he⟩ := h
  cases f with
  | zero => exact he
  | succ g =>
    rw [he, ext, if_neg]
    rintro ⟨a, b⟩
    rcases h1 with h1 | h1
    · omega
    · exact b h1
theorem Going.over {rs : List Int} {hi e : Nat} (h : Going rs hi e) (h1 : e < rs.length) (h3 : isB (rs.getD e 0) = true) : ext rs rs.length hi = e + 1 := by
  obtain ⟨f, hf, he⟩ := h
  obtain ⟨g, rfl⟩ : ∃ g, f = g + 1 := ⟨f - 1, by omega⟩
  have h2 : rs.getD e 0 ≠ 10 := by rcases isB_true h3 with h | h <;> omega
  rw [he, ext, if_pos ⟨h1, h2⟩, h3]
  simp

set_option maxRecDepth 100000 in
set_option maxHeartbeats 20000000 in
theorem full_any (A0 : Option Addr) (c0 : Nat) (zs : List Int) (wide : Int) (w : World) (hl : zs.length ≤ 140737488351232) (hZ : Ints w A0 zs) (hB : 4 ≤ w.heap.size) (hT : Tabs w) (hb : Bars w) :
    Calls Tryd.prog 4 #[.slice A0 zs.length c0, .int .i64 wide] w fun e w' => e = .returned (.bool true) ∧ Below w.heap.size w w' := by
  have HT := Lib.hid hT
  have HBR := Lib.hid hb
  have HB4 := Lib.hid hB
  clear hT hb hB
  go_enter Tryd.func4, Tryd.ntmps4
  go_wp2_with fail
  refine (made_any A0 c0 zs _ hl hZ).mono ?_
  rintro e w1 ⟨⟨v, rs, rfl, hown, hg, hlen⟩, hb1⟩
  obtain ⟨A, c, rfl, hc, hR⟩ := own_runes hown
  have HG := Lib.hid hg
  have HL := Lib.hid hlen
  have HC := Lib.hid hc
  have HR := Lib.hid hR
  have HB1 := Lib.hid hb1
  clear hown hg hlen hc hR hb1 hl hZ
  go_wp2_with fail
  refine (rest_any wide 40 _ (by decide)).mono ?_
  rintro e w2 ⟨⟨r, rfl, hr0, hr1⟩, rfl⟩
  obtain ⟨W, hW⟩ : ∃ W, 1 + r = W := ⟨_, rfl⟩
  have e0 : IntKind.i64.wrap (1 + r) = W := by rw [hW]; exact IntWalk.i64_in _ (by omega)
  have HW := Lib.hid (show 1 ≤ W ∧ W ≤ 1024 by omega)
  clear hW hr0 hr1
  go_wp2_with fail
  refine (lawLaid_any A c rs W _ HR.out HG.out HL.out HW.out (Nat.le_trans HB4.out HB1.out.size) (HT.out.below HB1.out) (HBR.out.below HB1.out)).mono ?_
  rintro e w3 ⟨⟨g, cap, rfl, hra⟩, hb3⟩
  have HCH := Lib.hid (page_chain W rs HW.out.1)
  have HLN := Lib.hid (rowsFrom_len W rs rs.length 0 0 (by omega) (Nat.le_refl _))
  have HRA := Lib.hid hra
  have HB3 := Lib.hid (HB1.out.trans (hb3.mono HB1.out.size))
  have HR3 := Lib.hid (HR.out.below hb3)
  clear hra hb3 HR
  rw [show rowsFrom W rs rs.length 0 0 = pageRows W rs from rfl] at HLN
  obtain ⟨xs, hxs⟩ : ∃ xs, pageRows W rs = xs := ⟨_, rfl⟩
  rw [hxs] at HRA HCH HLN ⊢
  clear hxs
  obtain ⟨hj1, hlast, hend⟩ := HCH.out.end
  obtain ⟨-, l1, -, l3⟩ := HRA.out _ hj1
  rw [hlast] at l3
  rw [hend] at l1
  have hne := HCH.out.ne
  obtain ⟨m, hm⟩ : ∃ m, xs.length = m := ⟨_, rfl⟩
  rw [hm] at HLN l1 l3 hne ⊢
  have HM := Lib.hid hm
  obtain ⟨n, hn⟩ : ∃ n, rs.length = n := ⟨_, rfl⟩
  rw [hn] at HLN HL HC l1 ⊢
  have HN := Lib.hid hn
  have hm2 : m ≤ 201 := by have := HLN.out; have := HL.out; omega
  have hm1 : ((m : Int) - 1) = ((m - 1 : Nat) : Int) := by omega
  have hmw : IntKind.i64.wrap ((m : Int) - 1) = ((m - 1 : Nat) : Int) := by rw [hm1]; exact IntWalk.i64_in _ (by omega)
  obtain ⟨m1, hm1e⟩ : ∃ m1, m - 1 = m1 := ⟨_, rfl⟩
  rw [hm1e] at hmw l1 l3
  have hlt1 : m1 < m := by omega
  clear hm hn hj1 hlast hend hm1 hm1e hne
  have HM2 := Lib.hid hm2
  go_wp2_with fail
  clear l1 l3 hlt1 hmw
  go_loopw [9] (fun i wr => ∃ j : Nat, i = .int .i64 j ∧ j ≤ m ∧ Below w3.heap.size w3 wr) (fun i _ => m - (intOf i).toNat)
  case atStart => exact ⟨0, rfl, Nat.zero_le _, Below.refl _ _⟩
  case round =>
    obtain ⟨j, rfl, hj, hb⟩ := hrel
    have HB := Lib.hid hb
    clear hb
    by_cases hlt : j < m
    case neg =>
      go_wp2_with fail
      go_ret
      exact ⟨rfl, HB3.out.trans (HB.out.mono HB3.out.size)⟩
    have hjx : j < xs.length := by have := HM.out; omega
    obtain ⟨d0, d1, d2, d3⟩ := (HRA.out.below HB.out) j hjx
    have hok := HCH.out.all _ (List.getElem_mem hjx)
    have hsoft := HCH.out.each _ (List.getElem_mem hjx)
    obtain ⟨x, hx⟩ : ∃ x, xs[j] = x := ⟨_, rfl⟩
    rw [hx] at d0 d1 d2 d3 hok hsoft
    have HOK := Lib.hid hok
    have HS := Lib.hid hsoft
    clear hok hsoft hx d2
    obtain ⟨hd, hhd⟩ : ∃ hd, x.hard = hd := ⟨_, rfl⟩
    rw [hhd] at d3
    have HHD := Lib.hid hhd
    clear hhd hjx
    have HLT := Lib.hid hlt
    cases hd
    case true =>
      clear d0 d1
      go_wp2_with fail
      go_roundw
      case rel => exact ⟨j + 1, by go_num, HLT.out, HB.out⟩
      case measure => have := HLT.out; simp [intOf]; omega
    have hS := HS.out HHD.out
    have s1 := hS.lt
    have s2 := hS.len
    have s3 := hS.blank
    have s4 := hS.full
    rw [HN.out] at s2 s4
    obtain ⟨lo, hlo⟩ : ∃ lo, x.lo = lo := ⟨_, rfl⟩
    obtain ⟨hi, hhi⟩ : ∃ hi, x.hi = hi := ⟨_, rfl⟩
    rw [hlo, hhi] at s1 s3 s4
    rw [hhi] at s2
    rw [hlo] at d0
    rw [hhi] at d1
    have S3 := Lib.hid s3
    have S4 := Lib.hid s4
    have S1 := Lib.hid s1
    have S2 := Lib.hid s2
    clear hS s3 s4 hlo hhi
    have hn2 : n ≤ 200 := HL.out
    obtain ⟨ad, rfl, hcell⟩ := HR3.out (by have := HN.out; omega)
    have HCE := Lib.hid hcell
    clear hcell
    obtain ⟨wo, rfl⟩ : ∃ wo : World, wo = wr := ⟨_, rfl⟩
    go_wp2_with fail
    go_loopw [10, 11] (fun b q wy => ∃ (bb : Bool) (qq : Nat), b = .bool bb ∧ q = .int .i64 qq ∧ lo ≤ qq ∧ qq ≤ hi ∧ (bb = true → ∃ p, lo ≤ p ∧ p < qq ∧ isB (rs.getD p 0) = true) ∧ Below wo.heap.size wo wy) (fun _ q _ => hi - (intOf q).toNat)
    case atStart => exact ⟨false, lo, rfl, rfl, Nat.le_refl _, Nat.le_of_lt S1.out, (fun h => by cases h), Below.refl _ _⟩
    case round =>
      obtain ⟨bb, qq, rfl, rfl, hq1, hq2, hbb, hbq⟩ := hrel
      have HBB := Lib.hid hbb
      have HBQ := Lib.hid hbq
      have x0 := cell_below hbq d0
      have x1 := cell_below hbq d1
      have x3 := cell_below hbq d3
      have HBY := Lib.hid (HB.out.trans (hbq.mono HB.out.size))
      clear hbb hbq d0 d1 d3
      by_cases hqlt : qq < hi
      · have d5 := cell_below HBY.out (HCE.out qq (by have := HN.out; omega))
        obtain ⟨r5, hr5⟩ : ∃ r5, rs.getD qq 0 = r5 := ⟨_, rfl⟩
        rw [hr5] at d5
        have HR5 := Lib.hid hr5
        have HLT2 := Lib.hid (And.intro hqlt (And.intro hq1 hq2))
        have hqn : qq < n := by omega
        have hqi : qq ≤ 200 := by omega
        clear hr5 hq1 hq2
        cases bb
        · go_wp2_with (go_at_call 11; refine (blank_any _ _).mono ?_; rintro e w' ⟨rfl, rfl⟩)
          go_roundw
          case rel => exact ⟨isB r5, qq + 1, rfl, by go_num, by have := HLT2.out; omega, HLT2.out.1, fun h => ⟨qq, HLT2.out.2.1, Nat.lt_succ_self _, by rw [HR5.out]; exact h⟩, HBQ.out⟩
          case measure => have := HLT2.out; simp [intOf]; omega
        · go_wp2_with fail
          go_roundw
          case rel => exact ⟨true, qq + 1, rfl, by go_num, by have := HLT2.out; omega, HLT2.out.1, fun _ => by obtain ⟨p, a, b, c⟩ := HBB.out rfl; exact ⟨p, a, by omega, c⟩, HBQ.out⟩
          case measure => have := HLT2.out; simp [intOf]; omega
      · have hqe : qq = hi := by omega
        subst hqe
        have b1 : ((qq : Int) == (lo : Int)) = false := by have := S1.out; simp; omega
        have e1 : IntKind.i64.wrap ((qq : Int) - 1) = ((qq - 1 : Nat) : Int) := by rw [show (qq : Int) - 1 = ((qq - 1 : Nat) : Int) by have := S1.out; omega]; exact IntWalk.i64_in _ (by have := S2.out; omega)
        have d6 := cell_below HBY.out (HCE.out (qq - 1) (by have := HN.out; have := S2.out; omega))
        obtain ⟨r6, hr6⟩ : ∃ r6, rs.getD (qq - 1) 0 = r6 := ⟨_, rfl⟩
        have HR6 := Lib.hid hr6
        rw [hr6] at d6
        obtain ⟨q1, hq1e⟩ : ∃ q1, qq - 1 = q1 := ⟨_, rfl⟩
        rw [hq1e] at e1 d6
        have hq1n : q1 < n := by have := S2.out; have := S1.out; omega
        have HQ1 := Lib.hid hq1e
        clear hr6 hq1e hq1 hq2 hqlt
        obtain ⟨wp, rfl⟩ : ∃ wp : World, wp = wr := ⟨_, rfl⟩
        go_upto_region 15 with fail
        go_cut [107] (fun t wx => t = .bool false ∧ Below wp.heap.size wp wx)
        case first =>
          cases bb
          case' true =>
            have E6 := Lib.hid (show isB r6 = true by rw [← HR6.out]; exact S3.out (HBB.out rfl))
            go_quiet ((go_at_call 11; exact Calls.quiet_of_same ((blank_is true r6 _ E6.out).mono fun _ _ h => ⟨h.1, h.2.symm⟩)))
          case' false =>
            go_quiet (fail)
          all_goals
            go_wp2_with fail
            go_meet
            exact ⟨rfl, below_drewN (Below.refl _ _) _⟩
        case rest =>
          obtain ⟨rfl, hbx⟩ := hcut
          have y0 := cell_below hbx x0
          have y1 := cell_below hbx x1
          have HBX := Lib.hid (HBY.out.trans (hbx.mono HBY.out.size))
          clear hbx x0 x1 x3 d6 e1 b1 s1 hq1n
          go_wp2_with fail
          go_loopw [12] (fun e wz => ∃ ee : Nat, e = .int .i64 ee ∧ qq ≤ ee ∧ ee ≤ n ∧ Going rs qq ee ∧ Below w3.heap.size w3 wz ∧ wz.cell? ⟨g, j * 4, none⟩ = some (.int .i64 lo)) (fun e _ => n - (intOf e).toNat)
          case atStart => exact ⟨qq, rfl, Nat.le_refl _, Nat.le_of_lt S2.out, ⟨rs.length, by omega, rfl⟩, HBX.out, y0⟩
          case round =>
            obtain ⟨ee, rfl, he1, he2, hgo, hbz, y0⟩ := hrel
            have HGO := Lib.hid hgo
            have HBZ := Lib.hid hbz
            have HQE := Lib.hid (And.intro he1 he2)
            have hen2 : ee ≤ 200 := by omega
            clear hgo hbz he1
            by_cases hen : ee < n
            · have d7 := cell_below HBZ.out (HCE.out ee (by have := HN.out; omega))
              obtain ⟨r7, hr7⟩ : ∃ r7, rs.getD ee 0 = r7 := ⟨_, rfl⟩
              rw [hr7] at d7
              have HR7 := Lib.hid hr7
              have HEN := Lib.hid hen
              clear hr7
              by_cases h10 : r7 = 10
              · have b10 : (r7 != 10) = false := by simp [h10]
                have HB7 := Lib.hid (show isB r7 = false by rw [h10]; rfl)
                have H10 := Lib.hid h10
                clear h10
                have hle : lo ≤ ee := by have := HQE.out; have := S1.out; omega
                have hEn : ee ≤ n := by have := HQE.out; omega
                have hext : ext rs rs.length qq = ee := HGO.out.stop (.inr (by rw [HR7.out]; exact H10.out))
                have hfull := S4.out
                rw [← HN.out, hext] at hfull
                have hrun := slice_run (some ad) n c lo (ee) hle (by have := HC.out; omega)
                skip
                have hrv := (HR3.out.below HBZ.out).cut lo (ee) c hle (by have := HN.out; omega) (by have := HC.out; have := HN.out; omega)
                obtain ⟨V, hV⟩ : ∃ V, (if c = lo then (some ad) else (some ad).map (·.add (lo * 1))) = V := ⟨_, rfl⟩
                rw [hV] at hrun hrv
                have HRV := Lib.hid hrv
                have HCL := Lib.hid (cut_len rs lo (ee) (by have := HN.out; omega))
                obtain ⟨k, hk⟩ : ∃ k, ee - lo = k := ⟨_, rfl⟩
                rw [hk] at hrun HCL
                have HKK := Lib.hid hk
                obtain ⟨cw, hcw⟩ : ∃ cw, wid rs lo (ee) = cw := ⟨_, rfl⟩
                rw [hcw] at hfull
                have HCW := Lib.hid hcw
                have hfd : ¬ cw ≤ W := by omega
                have HHE := Lib.hid (And.intro hle hEn)
                clear hV hrv hk hcw hfull hext hle hEn
                go_wp2_with (go_at_call 11; refine (blank_is false r7 _ HB7.out).mono ?_; rintro e w' ⟨rfl, rfl⟩)
                refine (cols_any' V (c - lo) k (cut rs lo (ee)) _ HCL.out (by have := HKK.out; have := HHE.out; omega) HRV.out (HT.out.below (HB3.out.trans (HBZ.out.mono HB3.out.size)))).mono ?_
                rintro e w5 ⟨rfl, hb5⟩
                rw [show colsF (cut rs lo (ee)) 0 = cw from HCW.out]
                have HB5 := Lib.hid (HBZ.out.trans (hb5.mono HBZ.out.size))
                clear hb5
                go_wp2_with fail
                go_roundw
                case rel => exact ⟨j + 1, by go_num, HLT.out, HB5.out⟩
                case measure => have := HLT.out; simp [intOf]; omega
              · have b10 : (r7 != 10) = true := by simp [h10]
                have H10 := Lib.hid h10
                clear h10
                rcases Bool.eq_false_or_eq_true (isB r7) with h7 | h7
                · have HB7 := Lib.hid h7
                  clear h7
                  have hle : lo ≤ ee + 1 := by have := HQE.out; have := S1.out; omega
                  have hEn : ee + 1 ≤ n := by have := HQE.out; omega
                  have hext : ext rs rs.length qq = ee + 1 := HGO.out.over (by have := HN.out; have := HEN.out; omega) (by rw [HR7.out]; exact HB7.out)
                  have hfull := S4.out
                  rw [← HN.out, hext] at hfull
                  have hrun := slice_run (some ad) n c lo (ee + 1) hle (by have := HC.out; omega)
                  rw [show ((ee + 1 : Nat) : Int) = (ee : Int) + 1 by omega] at hrun
                  have hrv := (HR3.out.below HBZ.out).cut lo (ee + 1) c hle (by have := HN.out; omega) (by have := HC.out; have := HN.out; omega)
                  obtain ⟨V, hV⟩ : ∃ V, (if c = lo then (some ad) else (some ad).map (·.add (lo * 1))) = V := ⟨_, rfl⟩
                  rw [hV] at hrun hrv
                  have HRV := Lib.hid hrv
                  have HCL := Lib.hid (cut_len rs lo (ee + 1) (by have := HN.out; omega))
                  obtain ⟨k, hk⟩ : ∃ k, ee + 1 - lo = k := ⟨_, rfl⟩
                  rw [hk] at hrun HCL
                  have HKK := Lib.hid hk
                  obtain ⟨cw, hcw⟩ : ∃ cw, wid rs lo (ee + 1) = cw := ⟨_, rfl⟩
                  rw [hcw] at hfull
                  have HCW := Lib.hid hcw
                  have hfd : ¬ cw ≤ W := by omega
                  have HHE := Lib.hid (And.intro hle hEn)
                  clear hV hrv hk hcw hfull hext hle hEn
                  go_wp2_with (go_at_call 11; refine (blank_is true r7 _ HB7.out).mono ?_; rintro e w' ⟨rfl, rfl⟩)
                  refine (cols_any' V (c - lo) k (cut rs lo (ee + 1)) _ HCL.out (by have := HKK.out; have := HHE.out; omega) HRV.out (HT.out.below (HB3.out.trans (HBZ.out.mono HB3.out.size)))).mono ?_
                  rintro e w5 ⟨rfl, hb5⟩
                  rw [show colsF (cut rs lo (ee + 1)) 0 = cw from HCW.out]
                  have HB5 := Lib.hid (HBZ.out.trans (hb5.mono HBZ.out.size))
                  clear hb5
                  go_wp2_with fail
                  go_roundw
                  case rel => exact ⟨j + 1, by go_num, HLT.out, HB5.out⟩
                  case measure => have := HLT.out; simp [intOf]; omega
                · have HB7 := Lib.hid h7
                  clear h7
                  go_wp2_with (go_at_call 11; refine (blank_is false r7 _ HB7.out).mono ?_; rintro e w' ⟨rfl, rfl⟩)
                  go_roundw
                  case rel => exact ⟨ee + 1, by go_num, by have := HQE.out; omega, HEN.out, HGO.out.next (by have := HN.out; have := HEN.out; omega) (by rw [HR7.out]; exact H10.out) (by rw [HR7.out]; exact HB7.out), HBZ.out, y0⟩
                  case measure => have := HEN.out; simp [intOf]; omega
            · have HEN := Lib.hid hen
              have hle : lo ≤ ee := by have := HQE.out; have := S1.out; omega
              have hEn : ee ≤ n := by have := HQE.out; omega
              have hext : ext rs rs.length qq = ee := HGO.out.stop (.inl (by have := HN.out; have := HEN.out; omega))
              have hfull := S4.out
              rw [← HN.out, hext] at hfull
              have hrun := slice_run (some ad) n c lo (ee) hle (by have := HC.out; omega)
              skip
              have hrv := (HR3.out.below HBZ.out).cut lo (ee) c hle (by have := HN.out; omega) (by have := HC.out; have := HN.out; omega)
              obtain ⟨V, hV⟩ : ∃ V, (if c = lo then (some ad) else (some ad).map (·.add (lo * 1))) = V := ⟨_, rfl⟩
              rw [hV] at hrun hrv
              have HRV := Lib.hid hrv
              have HCL := Lib.hid (cut_len rs lo (ee) (by have := HN.out; omega))
              obtain ⟨k, hk⟩ : ∃ k, ee - lo = k := ⟨_, rfl⟩
              rw [hk] at hrun HCL
              have HKK := Lib.hid hk
              obtain ⟨cw, hcw⟩ : ∃ cw, wid rs lo (ee) = cw := ⟨_, rfl⟩
              rw [hcw] at hfull
              have HCW := Lib.hid hcw
              have hfd : ¬ cw ≤ W := by omega
              have HHE := Lib.hid (And.intro hle hEn)
              clear hV hrv hk hcw hfull hext hle hEn
              go_wp2_with fail
              refine (cols_any' V (c - lo) k (cut rs lo (ee)) _ HCL.out (by have := HKK.out; have := HHE.out; omega) HRV.out (HT.out.below (HB3.out.trans (HBZ.out.mono HB3.out.size)))).mono ?_
              rintro e w5 ⟨rfl, hb5⟩
              rw [show colsF (cut rs lo (ee)) 0 = cw from HCW.out]
              have HB5 := Lib.hid (HBZ.out.trans (hb5.mono HBZ.out.size))
              clear hb5
              go_wp2_with fail
              go_roundw
              case rel => exact ⟨j + 1, by go_num, HLT.out, HB5.out⟩
              case measure => have := HLT.out; simp [intOf]; omega
end Go.Proofs.YthbfkmfinalfdaaDoor.Pg
