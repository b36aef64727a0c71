/- PageWalks answers true. -/
import Derived.Test.YthbfkmfinalfdaaDoorPgWalkX
import Derived.Deep.DeepCutAuto
namespace Go.Proofs.YthbfkmfinalfdaaDoor.Pg
open Go.RowKit Go.Proofs Go.Joins Go.Proofs.YthbfkmfinalfdaaDoor.U Go.Proofs.YthbfkmfinalfdaaDoor.Txt
set_option linter.unusedVariables false
set_option linter.unusedSimpArgs false
attribute [local go_sem] frozen?_alloc_cells

/-- The walks that go by the text alone. -/
def hows : List Int := [1, 2, 7, 8, 9, 10]
theorem hows_at (j : Nat) (h : j < 6) : hows.getD j 0 = 1 ∨ hows.getD j 0 = 2 ∨ hows.getD j 0 = 7 ∨ hows.getD j 0 = 8 ∨ hows.getD j 0 = 9 ∨ hows.getD j 0 = 10 := by
  match j, h with
  | 0, _ => exact .inl rfl
  | 1, _ => exact .inr (.inl rfl)
  | 2, _ => exact .inr (.inr (.inl rfl))
  | 3, _ => exact .inr (.inr (.inr (.inl rfl)))
  | 4, _ => exact .inr (.inr (.inr (.inr (.inl rfl))))
  | 5, _ => exact .inr (.inr (.inr (.inr (.inr rfl))))
theorem hows_cell (w : World) (T : TypeId) (j : Nat) (h : j < 6) : (w.alloc (.cells #[.int .i64 1, .int .i64 2, .int .i64 7, .int .i64 8, .int .i64 9, .int .i64 10] T)).cell? ⟨w.heap.size, j, none⟩ = some (.int .i64 (hows.getD j 0)) := by
  rw [Lib.cell_of_heap (heap_alloc_new w _)]
  match j, h with
  | 0, _ => rfl
  | 1, _ => rfl
  | 2, _ => rfl
  | 3, _ => rfl
  | 4, _ => rfl
  | 5, _ => rfl
/-- The row in which the caret stands behind i walks down and up again. -/
def rowI (k n i : Nat) : Nat := if i ≤ n then k + i else k + (2 * n - i)
/-- The caret behind i walks. -/
def Caret (rs : List Int) (xs : List Row) (k n a : Nat) (col : Int) (i q : Nat) (w : Int) : Prop := (i = 0 ∧ q = a ∧ w = -1) ∨ (0 < i ∧ w = col ∧ FoundRow rs xs (rowI k n i) col q)
theorem Caret.stands {rs : List Int} {xs : List Row} {k n a : Nat} {col : Int} {i q : Nat} {w : Int} (h : Caret rs xs k n a col i q w) (hs : Stands xs a k) : Stands xs q (rowI k n i) := by
  rcases h with ⟨rfl, rfl, _⟩ | ⟨_, _, hf⟩
  · simpa [rowI] using hs
  · exact hf.stands
theorem Caret.want {rs : List Int} {xs : List Row} {k n a : Nat} {col : Int} {i q : Nat} {w : Int} (h : Caret rs xs k n a col i q w) (hc : wid rs (loOf xs k) a = col) (h0 : 0 ≤ col) : wantP rs (loOf xs (rowI k n i)) q w = col := by
  rcases h with ⟨rfl, rfl, rfl⟩ | ⟨_, rfl, _⟩
  · simpa [rowI, wantP] using hc
  · unfold wantP; rw [if_neg (by omega)]
theorem Caret.back {rs : List Int} {xs : List Row} {k n a : Nat} {col : Int} {q : Nat} {w : Int} (h : Caret rs xs k n a col (2 * n) q w) (hc : wid rs (loOf xs k) a = col) (hs : Stands xs a k) : Stands xs q k ∧ wid rs (loOf xs k) q = col := by
  have hst := h.stands hs
  have hr : rowI k n (2 * n) = k := by unfold rowI; split <;> omega
  rw [hr] at hst
  refine ⟨hst, ?_⟩
  rcases h with ⟨_, rfl, _⟩ | ⟨_, _, hf⟩
  · exact hc
  · rw [hr] at hf
    obtain ⟨hk, hf⟩ := hf
    rw [loOf_eq hk] at hc ⊢
    have h1 := hf.fits
    have h2 := hf.past hs.2.1 hs.2.2 (Int.le_of_eq hc)
    have h3 := wid_mono rs (lo := xs[k].lo) (k := a) (hi := q) hs.2.1 h2
    omega

set_option maxRecDepth 100000 in
set_option maxHeartbeats 8000000 in
theorem walks_any (A0 : Option Addr) (c0 : Nat) (zs : List Int) (wide rr cc : Int) (w : World) (hl : zs.length ≤ 140737488351232) (hZ : Ints w A0 zs) (hE : Env w) :
    Calls Tryd.prog 6 #[.slice A0 zs.length c0, .int .i64 wide, .int .i64 rr, .int .i64 cc] w fun e w' => e = .returned (.bool true) ∧ Below w.heap.size w w' := by
  have HE := Lib.hid hE
  clear hE
  go_enter Tryd.func6, Tryd.ntmps6
  go_wp2_with fail
  refine (made_any A0 c0 zs _ hl hZ).mono ?_
  rintro e w1 ⟨⟨v, rs, rfl, hown, hg, hlen⟩, hb1⟩
  obtain ⟨A, c, rfl, hc, hR⟩ := own_runes hown
  have HG := Lib.hid hg
  have HL := Lib.hid hlen
  have HC := Lib.hid hc
  have HR := Lib.hid hR
  have HB1 := Lib.hid hb1
  clear hown hg hlen hc hR hb1 hl hZ
  go_wp2_with fail
  refine (rest_any wide 40 _ (by decide)).mono ?_
  rintro e w2 ⟨⟨r, rfl, hr0, hr1⟩, rfl⟩
  obtain ⟨W, hW⟩ : ∃ W, 1 + r = W := ⟨_, rfl⟩
  have e0 : IntKind.i64.wrap (1 + r) = W := by rw [hW]; exact IntWalk.i64_in _ (by omega)
  have HW := Lib.hid (show 1 ≤ W ∧ W ≤ 1024 by omega)
  clear hW hr0 hr1
  go_wp2_with fail
  refine (lawLaid_any A c rs W _ HR.out HG.out HL.out HW.out (HE.out.below HB1.out).size (HE.out.below HB1.out).tabs (HE.out.below HB1.out).bars).mono ?_
  rintro e w3 ⟨⟨g, cap, rfl, hra⟩, hb3⟩
  have HLN := Lib.hid (paper_str HG.out HL.out HW.out).rows
  have HRA := Lib.hid hra
  have HB3 := Lib.hid (HB1.out.trans (hb3.mono HB1.out.size))
  have HR3 := Lib.hid (HR.out.below hb3)
  have HE3 := Lib.hid (HE.out.below HB3.out)
  clear hra hb3 HR HE HB1
  obtain ⟨xs, hxs⟩ : ∃ xs, pageRows W rs = xs := ⟨_, rfl⟩
  have HPX := Lib.hid (show Pagex (Str rs) rs W xs from ⟨paper_str HG.out HL.out HW.out, hxs⟩)
  rw [hxs] at HRA HLN ⊢
  have HCH := Lib.hid HPX.out.chain
  clear hxs
  obtain ⟨m, hm⟩ : ∃ m, xs.length = m := ⟨_, rfl⟩
  rw [hm] at HLN ⊢
  have HM := Lib.hid hm
  obtain ⟨n, hn⟩ : ∃ n, rs.length = n := ⟨_, rfl⟩
  rw [hn] at HLN HL HC ⊢
  have HN := Lib.hid hn
  clear hm hn
  have hm2 : m ≤ 201 := by have := HLN.out; have := HL.out; omega
  have hn2 : n ≤ 200 := HL.out
  go_wp2_with fail
  refine (rest_any rr ((n : Int) + 1) _ (by omega)).mono ?_
  rintro e w4 ⟨⟨r1, rfl, hr0, hr1⟩, rfl⟩
  obtain ⟨a, rfl⟩ : ∃ a : Nat, r1 = (a : Int) := ⟨r1.toNat, by omega⟩
  have han : a ≤ n := by omega
  obtain ⟨k, hst⟩ := stands_ex HCH.out a (by have := HN.out; omega)
  have HST := Lib.hid hst
  have hkm : k < m := by have := hst.1; have := HM.out; omega
  have hk200 : k ≤ 200 := by omega
  have HAN := Lib.hid (show a ≤ rs.length by have := HN.out; omega)
  have hconv : ∀ c, (convert 23 9 (.slice A n c)).run Tryd.prog w4 = .ok (.string (Str rs)) w4 := fun c => by have := conv_runes (c := c) HR3.out; rwa [HN.out] at this
  clear hst hr0 hr1
  go_wp2_with fail
  refine (spot_x HPX.out HE3.out HST.out HAN.out).mono ?_
  rintro e w5 ⟨rfl, hb5⟩
  obtain ⟨col, hcol⟩ : ∃ col, wid rs (loOf xs k) a = col := ⟨_, rfl⟩
  rw [hcol]
  have HCOL := Lib.hid hcol
  have HC0 := Lib.hid (show 0 ≤ col by rw [← hcol]; exact wid_nonneg _ _ _)
  have HB5 := Lib.hid hb5
  clear hconv hcol hb5
  have hk0 : ¬ (k : Int) < 0 := by omega
  have hkm2 : ¬ m ≤ k := by omega
  go_wp2_with fail
  obtain ⟨wz, hwz⟩ : ∃ wz, w5.alloc (.cells #[.int .i64 1, .int .i64 2, .int .i64 7, .int .i64 8, .int .i64 9, .int .i64 10] 3) = wz := ⟨_, rfl⟩
  have HCELL := Lib.hid (show ∀ j, j < 6 → wz.cell? ⟨w5.heap.size, j, none⟩ = some (.int .i64 (hows.getD j 0)) from fun j hj => by rw [← hwz]; exact hows_cell w5 _ j hj)
  have HBZ := Lib.hid (show Below w4.heap.size w4 wz by rw [← hwz]; exact HB5.out.alloc HB5.out.size _)
  rw [hwz]
  clear hwz
  have HEZ := Lib.hid (HE3.out.below HBZ.out)
  go_loopw [81] (fun i wr => ∃ j : Nat, i = .int .i64 j ∧ j ≤ 6 ∧ Below wz.heap.size wz wr) (fun i _ => 6 - (intOf i).toNat)
  case atStart => exact ⟨0, rfl, by omega, Below.refl _ _⟩
  case round =>
    obtain ⟨j, rfl, hj, hb⟩ := hrel
    have HB := Lib.hid hb
    clear hb
    by_cases hj6 : j < 6
    case pos =>
      have d0 := cell_below HB.out (HCELL.out j hj6)
      obtain ⟨how, hhow⟩ : ∃ how, hows.getD j 0 = how := ⟨_, rfl⟩
      obtain ⟨q, hS, hW⟩ := step_x HPX.out HAN.out how (by rw [← hhow]; exact hows_at j hj6)
      rw [hhow] at d0
      have HS := Lib.hid hS
      have HWK := Lib.hid hW
      have HJ6 := Lib.hid hj6
      have hconv : ∀ c, (convert 23 9 (.slice A n c)).run Tryd.prog wr = .ok (.string (Str rs)) wr := fun c => by have := conv_runes (c := c) (HR3.out.below (HBZ.out.trans (HB.out.mono HBZ.out.size))); rwa [HN.out] at this
      have z0 : (0 : Int) ≤ (j : Int) := by omega
      have z1 : (j : Int) < 6 := by omega
      clear hhow hS hW
      go_wp2_with fail
      refine (HWK.out 3 _ (HEZ.out.below HB.out)).mono ?_
      rintro e w6 ⟨rfl, hb6⟩
      have HB6 := Lib.hid (HB.out.trans (hb6.mono HB.out.size))
      have hconv6 : ∀ c, (convert 23 9 (.slice A n c)).run Tryd.prog w6 = .ok (.string (Str rs)) w6 := fun c => by have := conv_runes (c := c) (HR3.out.below (HBZ.out.trans (HB6.out.mono HBZ.out.size))); rwa [HN.out] at this
      clear hb6 hconv d0
      go_wp2_with fail
      refine (HS.out _ (HEZ.out.below HB6.out)).mono ?_
      rintro e w7 ⟨rfl, hb7⟩
      have HB7 := Lib.hid (HB6.out.trans (hb7.mono HB6.out.size))
      clear hb7 hconv6
      go_wp2_with fail
      go_roundw
      case rel => exact ⟨j + 1, by go_num, HJ6.out, HB7.out⟩
      case measure => have := HJ6.out; simp [intOf]; omega
    case neg =>
      obtain ⟨wo, rfl⟩ : ∃ wo : World, wo = wr := ⟨_, rfl⟩
      have hconv : ∀ c, (convert 23 9 (.slice A n c)).run Tryd.prog wo = .ok (.string (Str rs)) wo := fun c => by have := conv_runes (c := c) (HR3.out.below (HBZ.out.trans (HB.out.mono HBZ.out.size))); rwa [HN.out] at this
      go_wp2_with fail
      refine (home_x HPX.out (HEZ.out.below HB.out) (-1) HST.out HAN.out).mono ?_
      rintro e w6 ⟨rfl, hb6⟩
      have HB6 := Lib.hid (HB.out.trans (hb6.mono HB.out.size))
      have hconv6 : ∀ c, (convert 23 9 (.slice A n c)).run Tryd.prog w6 = .ok (.string (Str rs)) w6 := fun c => by have := conv_runes (c := c) (HR3.out.below (HBZ.out.trans (HB6.out.mono HBZ.out.size))); rwa [HN.out] at this
      have hkx : k < xs.length := HST.out.1
      obtain ⟨lo, hlo⟩ : ∃ lo, loOf xs k = lo := ⟨_, rfl⟩
      rw [hlo]
      have HLO := Lib.hid hlo
      clear hb6 hconv hlo hj6
      go_wp2_with fail
      refine (end_x HPX.out (HEZ.out.below HB6.out) (-1) HST.out HAN.out hkx).mono ?_
      rintro e w7 ⟨rfl, hb7⟩
      have HB7 := Lib.hid (HB6.out.trans (hb7.mono HB6.out.size))
      obtain ⟨d0, d1, -, d3⟩ := (HRA.out.below (HBZ.out.trans (HB7.out.mono HBZ.out.size))) k hkx
      have hrat := row_at HCH.out k hkx
      have hhard := hrat.hardHi
      have hsoft := hrat.softHi
      have hlan := hrat.last_le
      rw [← loOf_eq, HLO.out] at d0
      obtain ⟨x, hx⟩ : ∃ x, xs[k] = x := ⟨_, rfl⟩
      rw [hx] at d1 d3 hhard hsoft hlan ⊢
      obtain ⟨la, hla⟩ : ∃ la, lastOf x = la := ⟨_, rfl⟩
      obtain ⟨hi, hhi⟩ : ∃ hi, x.hi = hi := ⟨_, rfl⟩
      obtain ⟨hd, hhd⟩ : ∃ hd, x.hard = hd := ⟨_, rfl⟩
      rw [hhd] at d3 hhard hsoft
      rw [hhi] at d1 hhard hsoft
      rw [hla] at hhard hsoft hlan ⊢
      rw [HN.out] at hlan
      have HHS := Lib.hid (And.intro hhard (And.intro hsoft hlan))
      clear hrat hhard hsoft hlan hx hla hhi hhd hb7 hconv6 hkx
      go_upto_if 147 with fail
      go_cut [29] (fun t wx => t = .int .i64 la ∧ wx = w7)
      case first =>
        cases hd
        · have hs := HHS.out.2.1 rfl
          have e1 : IntKind.i64.wrap ((hi : Int) - 1) = (la : Int) := by rw [show (hi : Int) - 1 = la by omega]; exact IntWalk.i64_in _ (by have := HHS.out.2.2; omega)
          clear hs
          go_wp2_with fail
          go_meet
          exact ⟨rfl, rfl⟩
        · have hs := HHS.out.1 rfl
          subst hs
          go_wp2_with fail
          go_meet
          exact ⟨rfl, rfl⟩
      case rest =>
        obtain ⟨rfl, rfl⟩ := hcut
        clear d1 d3
        have HD0 := Lib.hid d0
        have e1 : IntKind.i64.wrap ((m : Int) - (k : Int)) = ((m - k : Nat) : Int) := by rw [show (m : Int) - k = ((m - k : Nat) : Int) by omega]; exact IntWalk.i64_in _ (by omega)
        obtain ⟨mk, hmk⟩ : ∃ mk, m - k = mk := ⟨_, rfl⟩
        rw [hmk] at e1
        go_wp2_with fail
        refine (rest_any cc mk _ (by omega)).mono ?_
        rintro e w8 ⟨⟨r2, rfl, hr0, hr1⟩, rfl⟩
        obtain ⟨nn, rfl⟩ : ∃ nn : Nat, r2 = (nn : Int) := ⟨r2.toNat, by omega⟩
        have HNN := Lib.hid (show k + nn < m by omega)
        have hnn2 : nn ≤ 201 := by omega
        clear hr0 hr1 e1 hmk d0
        go_wp2_with fail
        go_loopw [31, 32, 33] (fun q ww i wr => ∃ (qq ii : Nat) (wi : Int), q = .int .i64 qq ∧ ww = .int .i64 wi ∧ i = .int .i64 ii ∧ ii ≤ 2 * nn ∧ Caret rs xs k nn a col ii qq wi ∧ Below wz.heap.size wz wr) (fun _ _ i _ => 2 * nn - (intOf i).toNat)
        case atStart => exact ⟨a, 0, -1, rfl, rfl, rfl, by omega, .inl ⟨rfl, rfl, rfl⟩, HB7.out⟩
        case round =>
          obtain ⟨qq, ii, wi, rfl, rfl, rfl, hii, hca, hb⟩ := hrel
          have HB := Lib.hid hb
          have HCA := Lib.hid hca
          have HSQ := Lib.hid (hca.stands HST.out)
          have HWT := Lib.hid (hca.want HCOL.out HC0.out)
          have hqn : qq ≤ n := by
            have h1 := HSQ.out
            have h2 := (row_at HCH.out _ h1.1).last_le
            have h3 := h1.2.2
            have := HN.out
            omega
          have HQN := Lib.hid (show qq ≤ rs.length by have := HN.out; omega)
          clear hb hca
          by_cases hi2 : ii < 2 * nn
          case pos =>
            have HI2 := Lib.hid hi2
            have hconv : ∀ c, (convert 23 9 (.slice A n c)).run Tryd.prog wr = .ok (.string (Str rs)) wr := fun c => by have := conv_runes (c := c) (HR3.out.below (HBZ.out.trans (HB.out.mono HBZ.out.size))); rwa [HN.out] at this
            by_cases hi1 : ii < nn
            · have hr0 : rowI k nn ii = k + ii := if_pos (by omega)
              have HR1 := Lib.hid (show rowI k nn (ii + 1) = k + ii + 1 by unfold rowI; rw [if_pos (by omega)]; rfl)
              have hsq := HSQ.out
              have hwt := HWT.out
              rw [hr0] at hsq hwt
              have hd := down_x HPX.out (HEZ.out.below HB.out) wi hsq HQN.out (by have := HNN.out; have := HM.out; omega)
              rw [hwt] at hd
              have HD := Lib.hid hd
              clear hr0 hsq hwt hd
              go_wp2_with fail
              refine HD.out.mono ?_
              rintro e w9 ⟨⟨b, rfl, hf⟩, hb9⟩
              have HF := Lib.hid hf
              have HB9 := Lib.hid (HB.out.trans (hb9.mono HB.out.size))
              clear hf hb9 hconv
              go_wp2_with fail
              go_roundw
              case rel => exact ⟨b, ii + 1, col, rfl, rfl, by go_num, by omega, .inr ⟨by omega, rfl, by rw [HR1.out]; exact HF.out⟩, HB9.out⟩
              case measure => have := HI2.out; simp [intOf]; omega
            · have hr0 : rowI k nn ii = k + (2 * nn - ii) := by
                unfold rowI
                by_cases e : ii ≤ nn
                · rw [if_pos e]; omega
                · rw [if_neg e]
              obtain ⟨j, hj⟩ : ∃ j, k + (2 * nn - ii) = j + 1 := ⟨k + (2 * nn - ii) - 1, by omega⟩
              have HR1 := Lib.hid (show rowI k nn (ii + 1) = j by unfold rowI; rw [if_neg (by omega)]; omega)
              have hsq := HSQ.out
              have hwt := HWT.out
              rw [hr0, hj] at hsq hwt
              have hd := up_x HPX.out (HEZ.out.below HB.out) wi hsq HQN.out
              rw [hwt] at hd
              have HD := Lib.hid hd
              clear hr0 hsq hwt hd hj
              go_wp2_with fail
              refine HD.out.mono ?_
              rintro e w9 ⟨⟨b, rfl, hf⟩, hb9⟩
              have HF := Lib.hid hf
              have HB9 := Lib.hid (HB.out.trans (hb9.mono HB.out.size))
              clear hf hb9 hconv
              go_wp2_with fail
              go_roundw
              case rel => exact ⟨b, ii + 1, col, rfl, rfl, by go_num, by omega, .inr ⟨by omega, rfl, by rw [HR1.out]; exact HF.out⟩, HB9.out⟩
              case measure => have := HI2.out; simp [intOf]; omega
          case neg =>
            have hie : ii = 2 * nn := by omega
            have hbk : Stands xs qq k ∧ wid rs (loOf xs k) qq = col := by
              have h := HCA.out
              rw [hie] at h
              exact h.back HCOL.out HST.out
            have HBK := Lib.hid hbk
            have hconv : ∀ c, (convert 23 9 (.slice A n c)).run Tryd.prog wr = .ok (.string (Str rs)) wr := fun c => by have := conv_runes (c := c) (HR3.out.below (HBZ.out.trans (HB.out.mono HBZ.out.size))); rwa [HN.out] at this
            clear hbk hie
            go_wp2_with fail
            refine (spot_x HPX.out (HEZ.out.below HB.out) HBK.out.1 HQN.out).mono ?_
            rintro e w9 ⟨rfl, hb9⟩
            rw [HBK.out.2]
            have HB9 := Lib.hid (HB.out.trans (hb9.mono HB.out.size))
            have hconv9 : ∀ c, (convert 23 9 (.slice A n c)).run Tryd.prog w9 = .ok (.string (Str rs)) w9 := fun c => by have := conv_runes (c := c) (HR3.out.below (HBZ.out.trans (HB9.out.mono HBZ.out.size))); rwa [HN.out] at this
            have HSL := Lib.hid (show Stands xs lo k from ⟨HST.out.1, by rw [← loOf_eq HST.out.1, HLO.out]; exact Nat.le_refl _, by rw [← HLO.out, loOf_eq HST.out.1]; exact (row_at HCH.out k HST.out.1).lo_le⟩)
            have HLOL := Lib.hid (show lo ≤ rs.length by
              have h1 := (row_at HCH.out k HST.out.1)
              have h2 := h1.lo_le
              have h3 := h1.last_le
              have h4 := HLO.out
              rw [loOf_eq HST.out.1] at h4
              omega)
            have HW0 := Lib.hid (show wantP rs (loOf xs k) lo (-1) = 0 by unfold wantP; rw [if_pos (by decide), HLO.out, wid_self])
            clear hb9 hconv
            go_wp2_with fail
            rcases Nat.eq_zero_or_pos k with hk00 | hk1
            · subst hk00
              refine (up0_x HPX.out (HEZ.out.below HB9.out) (-1) HSL.out HLOL.out).mono ?_
              rintro e wa ⟨rfl, hba⟩
              rw [HW0.out]
              have HBA := Lib.hid (HB9.out.trans (hba.mono HB9.out.size))
              have hconva : ∀ c, (convert 23 9 (.slice A n c)).run Tryd.prog wa = .ok (.string (Str rs)) wa := fun c => by have := conv_runes (c := c) (HR3.out.below (HBZ.out.trans (HBA.out.mono HBZ.out.size))); rwa [HN.out] at this
              obtain ⟨k0, hs0⟩ := stands_ex HCH.out 0 (Nat.zero_le _)
              have HS0 := Lib.hid hs0
              clear hba hconv9 hs0
              go_wp2_with fail
              refine (spot_x HPX.out (HEZ.out.below HBA.out) (a := 0) HS0.out (Nat.zero_le _)).mono ?_
              rintro e wb ⟨rfl, hbb⟩
              have HBB := Lib.hid (HBA.out.trans (hbb.mono HBA.out.size))
              clear hbb hconva
              go_wp2_with fail
              go_ret
              exact ⟨rfl, HB3.out.trans ((HBZ.out.trans (HBB.out.mono HBZ.out.size)).mono HB3.out.size)⟩
            · obtain ⟨j, rfl⟩ : ∃ j, k = j + 1 := ⟨k - 1, by omega⟩
              have hu := up_x HPX.out (HEZ.out.below HB9.out) (-1) HSL.out HLOL.out
              rw [HW0.out] at hu
              have HU := Lib.hid hu
              clear hu
              refine HU.out.mono ?_
              rintro e wa ⟨⟨b, rfl, hf⟩, hba⟩
              have HBA := Lib.hid (HB9.out.trans (hba.mono HB9.out.size))
              have hconva : ∀ c, (convert 23 9 (.slice A n c)).run Tryd.prog wa = .ok (.string (Str rs)) wa := fun c => by have := conv_runes (c := c) (HR3.out.below (HBZ.out.trans (HBA.out.mono HBZ.out.size))); rwa [HN.out] at this
              have HSB := Lib.hid hf.stands
              have HBN := Lib.hid (show b ≤ rs.length by have h1 := hf.stands; have h2 := (row_at HCH.out _ h1.1).last_le; have h3 := h1.2.2; omega)
              clear hba hconv9 hf
              go_wp2_with fail
              refine (spot_x HPX.out (HEZ.out.below HBA.out) HSB.out HBN.out).mono ?_
              rintro e wb ⟨rfl, hbb⟩
              have HBB := Lib.hid (HBA.out.trans (hbb.mono HBA.out.size))
              have e1 : IntKind.i64.wrap (((j + 1 : Nat) : Int) - 1) = (j : Int) := by rw [show ((j + 1 : Nat) : Int) - 1 = j by omega]; exact IntWalk.i64_in _ (by omega)
              clear hbb hconva
              go_wp2_with fail
              go_ret
              exact ⟨rfl, HB3.out.trans ((HBZ.out.trans (HBB.out.mono HBZ.out.size)).mono HB3.out.size)⟩
end Go.Proofs.YthbfkmfinalfdaaDoor.Pg
