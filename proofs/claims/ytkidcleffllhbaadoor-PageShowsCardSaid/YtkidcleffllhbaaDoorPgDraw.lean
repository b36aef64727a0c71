/- sheet.drawn: a row's string. -/
import Derived.Test.YtkidcleffllhbaaDoorPgRune
import Derived.Test.YtkidcleffllhbaaDoorPgSeek
import Derived.Deep.QuietTactic
import Derived.BigQuiet
namespace Go.Proofs.YtkidcleffllhbaaDoor.Pg
open Go.RowKit Go.Proofs Go.Joins Go.Proofs.YtkidcleffllhbaaDoor.U Go.Proofs.YtkidcleffllhbaaDoor.Txt
set_option linter.unusedVariables false
set_option linter.unusedSimpArgs false
attribute [local go_sem] frozen?_alloc_cells

/-- A caret: the place, the row in which it stands. -/
def cvOf : Option (Nat × Nat) → Int
  | none => -1
  | some (q, _) => q
/-- The caret as a row sees it. -/
def carAt (o : Option (Nat × Nat)) (j : Nat) : Option Nat :=
  match o with
  | none => none
  | some (q, k) => if k = j then some q else none
theorem str_mk (xs : List Int) : (⟨(enc xs).toArray⟩ : ByteArray) = Str xs := by
  apply ByteArray.ext
  rw [← Array.toList_inj, str_list]
theorem ret_str {a b : ByteArray} (h : a = b) : Ending.returned (.string a) = Ending.returned (.string b) := by rw [h]
theorem drawTo_ok (rs : List Int) (lo : Nat) (car : Option Nat) (n : Nat) (hg : ∀ r ∈ rs, TxtRune r) (h : lo + n ≤ rs.length) : ∀ r ∈ drawTo rs lo car n ++ barAt car (lo + n), TxtRune r := by
  intro r hr
  rcases List.mem_append.1 hr with h1 | h1
  · exact drawTo_mem rs lo car TxtRune ⟨by decide, by decide⟩ (fun _ => ⟨by decide, by decide⟩) n (fun k a b => by
      rw [List.getD_eq_getElem?_getD, List.getElem?_eq_getElem (show k < rs.length by omega)]
      exact hg _ (List.getElem_mem _)) r h1
  · unfold barAt at h1
    split at h1
    · rw [List.mem_singleton.1 h1]; exact ⟨by decide, by decide⟩
    · simp at h1

/-- Where drawing stands: the builder, the row's own cells. -/
structure DrawAt (w : World) (lo hi : Nat) (cl : Int) (hd : Bool) (ys : List Int) (wx : World) : Prop where
  bld : TBld w.heap.size w.heap.size ys wx
  line : wx.heap[w.heap.size + 1]? = some (.cells #[.int .i64 lo, .int .i64 hi, .int .i64 cl, .bool hd] 61 (0, 0))
  below : Below w.heap.size w wx
section
variable {w : World} {lo hi : Nat} {cl : Int} {hd : Bool} {ys : List Int} {wx : World}
theorem DrawAt.l0 (h : DrawAt w lo hi cl hd ys wx) : wx.cell? ⟨w.heap.size + 1, 0, none⟩ = some (.int .i64 lo) := by rw [Lib.cell_of_heap h.line]; rfl
theorem DrawAt.l1 (h : DrawAt w lo hi cl hd ys wx) : wx.cell? ⟨w.heap.size + 1, 1, none⟩ = some (.int .i64 hi) := by rw [Lib.cell_of_heap h.line]; rfl
theorem DrawAt.next {w1 : World} (h : DrawAt w lo hi cl hd ys wx) (hb : Below wx.heap.size wx w1) : DrawAt w lo hi cl hd ys w1 :=
  ⟨h.bld.below hb, (hb.block _ (Array.getElem?_eq_some_iff.1 h.line).1).trans h.line, h.below.trans (hb.mono h.below.size)⟩
theorem DrawAt.wrote {w1 : World} {zs : List Int} (h : DrawAt w lo hi cl hd ys wx) (h1 : TBld w.heap.size w.heap.size zs w1) (h2 : Below w.heap.size wx w1) (h3 : Lib.OthersKept 5 (some w.heap.size) wx w1) : DrawAt w lo hi cl hd zs w1 :=
  ⟨h1, h3 _ _ h.line (by simp) (fun c fz e => by have := (Obj.cells.inj e).2.1; exact absurd this (by decide)), h.below.trans h2⟩
end

set_option maxRecDepth 100000 in
set_option maxHeartbeats 8000000 in
theorem drawn_any (P : Nat) (S : ByteArray) (A : Option Addr) (c : Nat) (rs : List Int) (W : Int) (g cap : Nat) (xs : List Row) (j : Nat) (o : Option (Nat × Nat)) (w : World) (hR : Rowed w P S A c rs W g cap xs) (hC : Chain W rs 0 xs) (hj : j < xs.length) (hn : rs.length ≤ 34359738368) (hl : xs.length ≤ 1125899906842624) (hT : Tabs w) (hg : ∀ r ∈ rs, TxtRune r) (ho : ∀ q k, o = some (q, k) → Stands xs q k) :
    Calls Tryd.prog 42 #[.pointer (some ⟨P, 0, none⟩), .int .i64 j, .int .i64 (cvOf o)] w fun e w' => e = .returned (.string (Str (drawn rs xs[j].lo xs[j].hi (carAt o j)))) ∧ Below w.heap.size w w' := by
  obtain ⟨d0, d1, d2, d3⟩ := hR.rows j hj
  have hok := (row_at hC j hj).ok
  have h1 := hok.le
  have h2 := hok.len
  obtain ⟨x, hx⟩ : ∃ x, xs[j] = x := ⟨_, rfl⟩
  rw [hx] at d0 d1 d2 d3 h1 h2 ⊢
  obtain ⟨lo, hlo⟩ : ∃ lo, x.lo = lo := ⟨_, rfl⟩
  obtain ⟨hi, hhi⟩ : ∃ hi, x.hi = hi := ⟨_, rfl⟩
  obtain ⟨cl, hcl⟩ : ∃ cl, x.cols = cl := ⟨_, rfl⟩
  obtain ⟨hd, hhd⟩ : ∃ hd, x.hard = hd := ⟨_, rfl⟩
  rw [hlo] at d0 h1 ⊢
  rw [hhi] at d1 h1 h2 ⊢
  rw [hcl] at d2
  rw [hhd] at d3
  have HR := Lib.hid hR
  have HC := Lib.hid hC
  have HT := Lib.hid hT
  have HL := Lib.hid hl
  have HN := Lib.hid hn
  have HG := Lib.hid hg
  have HO := Lib.hid ho
  have HLH := Lib.hid (And.intro h1 h2)
  have cr := hR.sheet.rows
  have cn := hR.sheet.runes
  obtain ⟨m, hm⟩ : ∃ m, xs.length = m := ⟨_, rfl⟩
  rw [hm] at cr
  obtain ⟨n, hn'⟩ : ∃ n, rs.length = n := ⟨_, rfl⟩
  rw [hn'] at cn
  have hjm : j < m := by omega
  have HM := Lib.hid hm
  have HNN := Lib.hid hn'
  have hn2 : n ≤ 34359738368 := by omega
  have hm2 : m ≤ 1125899906842624 := by omega
  have hhib : hi ≤ 34359738368 := by omega
  obtain ⟨cv, hcv⟩ : ∃ cv, cvOf o = cv := ⟨_, rfl⟩
  obtain ⟨car, hcar⟩ : ∃ car, carAt o j = car := ⟨_, rfl⟩
  rw [hcv, hcar]
  have HCV := Lib.hid hcv
  have HCAR := Lib.hid hcar
  have HD0 := Lib.hid (show DrawAt w lo hi cl hd [] ((w.alloc (.cells #[.pointer none, .slice none 0 0] 134)).alloc (.cells #[.int .i64 lo, .int .i64 hi, .int .i64 cl, .bool hd] 61)) from ⟨(Bld.new w).below ((Below.refl _ _).alloc (Nat.le_refl _) _), by
      have := heap_alloc_new (w.alloc (.cells #[.pointer none, .slice none 0 0] 134)) (.cells #[.int .i64 lo, .int .i64 hi, .int .i64 cl, .bool hd] 61)
      simpa using this, ((Below.refl _ _).alloc (Nat.le_refl _) _).alloc (by simp) _⟩)
  have a3 : ∀ o, (w.alloc o).cell? ⟨P, 3, none⟩ = some (.slice (some ⟨g, 0, none⟩) m cap) := fun o => cell_alloc_sl _ cr
  have b0 : ∀ o, (w.alloc o).cell? ⟨g, j * 4, none⟩ = some (.int .i64 lo) := fun o => cell_alloc_sl _ d0
  have b1 : ∀ o, (w.alloc o).cell? ⟨g, j * 4 + 1, none⟩ = some (.int .i64 hi) := fun o => cell_alloc_sl _ d1
  have b2 : ∀ o, (w.alloc o).cell? ⟨g, j * 4 + 2, none⟩ = some (.int .i64 cl) := fun o => cell_alloc_sl _ d2
  have b3 : ∀ o, (w.alloc o).cell? ⟨g, j * 4 + 3, none⟩ = some (.bool hd) := fun o => cell_alloc_sl _ d3
  have HCN := Lib.hid cn
  clear hR hC hT hl hn hg ho h1 h2 hx hlo hhi hcl hhd hm hn' hok hcv hcar d0 d1 d2 d3 cr cn
  go_enter Tryd.func42, Tryd.ntmps42
  go_upto_region 3 with fail
  clear a3 b0 b1 b2 b3
  go_cut [9] (fun h wx => h = .bool car.isSome ∧ DrawAt w lo hi cl hd [] wx)
  case first =>
    cases o with
    | none =>
      obtain rfl : -1 = cv := HCV.out
      obtain rfl : none = car := HCAR.out
      go_wp2_with fail
      go_meet
      exact ⟨rfl, HD0.out⟩
    | some qk =>
      obtain ⟨q, k⟩ := qk
      obtain rfl : (q : Int) = cv := HCV.out
      have hst := HO.out q k rfl
      by_cases hk : k = j
      · have HCC := Lib.hid (show car = some q by rw [← HCAR.out]; simp [carAt, hk])
        have b1 : ((k : Int) == (j : Int)) = true := by simp [hk]
        clear hk
        go_wp2_with fail
        refine (row_any P S A c rs W g cap xs q k _ (HR.out.below (HD0.out.below.mono (by simp))) HC.out hst HL.out).mono ?_
        rintro e w2 ⟨rfl, hb2⟩
        go_wp2_with fail
        go_meet
        exact ⟨by rw [HCC.out]; rfl, HD0.out.next hb2⟩
      · have HCC := Lib.hid (show car = none by rw [← HCAR.out]; simp [carAt, hk])
        have b1 : ((k : Int) == (j : Int)) = false := by simpa using (show ¬ ((k : Int) = j) by omega)
        clear hk
        go_wp2_with fail
        refine (row_any P S A c rs W g cap xs q k _ (HR.out.below (HD0.out.below.mono (by simp))) HC.out hst HL.out).mono ?_
        rintro e w2 ⟨rfl, hb2⟩
        go_wp2_with fail
        go_meet
        exact ⟨by rw [HCC.out]; rfl, HD0.out.next hb2⟩
  case rest =>
    obtain ⟨rfl, hD⟩ := hcut
    have HD := Lib.hid hD
    have l0 := hD.l0
    clear hD
    go_wp2_with fail
    clear l0
    go_loopw [10, 11] (fun nn p wr => ∃ k : Nat, lo ≤ k ∧ k ≤ hi ∧ nn = .int .i64 (wid rs lo k) ∧ p = .int .i64 k ∧ DrawAt w lo hi cl hd (drawTo rs lo car (k - lo)) wr) (fun _ p _ => hi - (intOf p).toNat)
    case atStart => exact ⟨lo, Nat.le_refl _, HLH.out.1, by rw [wid_self], rfl, by rw [Nat.sub_self]; exact HD.out⟩
    case round =>
      obtain ⟨k, hk1, hk2, rfl, rfl, hdr⟩ := hrel
      have HD1 := Lib.hid hdr
      have HK := Lib.hid (And.intro hk1 hk2)
      have l1 := hdr.l1
      clear hdr hk1
      go_upto_region 8 with fail
      clear l1
      go_cut [42] from 31 to 78 (fun b wx => b = .bool (decide (car = some k)) ∧ wx = wr)
      case first =>
        cases car with
        | none =>
          go_wp2_with fail
          go_meet
          exact ⟨by simp, rfl⟩
        | some q =>
          have hq : (q : Int) = cv := by
            have h1 := HCAR.out
            have h2 := HCV.out
            unfold carAt at h1
            split at h1
            · cases h1
            · split at h1
              · simp [cvOf] at h2; cases h1; exact h2
              · cases h1
          obtain rfl := hq
          by_cases hkq : k = q
          · have b1 : ((k : Int) == (q : Int)) = true := by simp [hkq]
            have HKQ := Lib.hid hkq
            clear hkq
            go_wp2_with fail
            go_meet
            exact ⟨by simp [HKQ.out], rfl⟩
          · have b1 : ((k : Int) == (q : Int)) = false := by simp; omega
            have HKQ := Lib.hid hkq
            clear hkq
            go_wp2_with fail
            go_meet
            exact ⟨by have := HKQ.out; simp; omega, rfl⟩
      case rest =>
        obtain ⟨rfl, rfl⟩ := hcut
        obtain ⟨bk, hbk⟩ : ∃ bk, decide (car = some k) = bk := ⟨_, rfl⟩
        rw [hbk]
        have HBK := Lib.hid hbk
        clear hbk
        go_upto_if 42 with fail
        go_cut [] from 31 to 78 (fun wx => DrawAt w lo hi cl hd (drawTo rs lo car (k - lo) ++ barAt car k) wx)
        case first =>
          cases bk
          · have HCK := Lib.hid (show ¬ car = some k from of_decide_eq_false HBK.out)
            go_wp2_with fail
            go_meet
            have := HD1.out
            unfold barAt
            rw [if_neg HCK.out, List.append_nil]
            exact this
          · have HCK := Lib.hid (show car = some k from of_decide_eq_true HBK.out)
            go_wp2_with fail
            refine (TBar w.heap.size w.heap.size _ _ HD1.out.bld (by have := drawTo_len rs lo car (k - lo); omega) HD1.out.below.size).mono ?_
            rintro e w2 ⟨rfl, h1, h2, h3⟩
            have HD2 := Lib.hid (HD1.out.wrote h1 h2 h3)
            clear h1 h2 h3
            go_wp2_with fail
            go_meet
            have := HD2.out
            unfold barAt
            rw [if_pos HCK.out]
            exact this
        case rest =>
          have HD2 := Lib.hid hcut
          have l1 := hcut.l1
          clear hcut
          by_cases hke : k = hi
          · have b1 : ((k : Int) == (hi : Int)) = true := by simp [hke]
            have HKE := Lib.hid hke
            clear hke
            go_wp2_with fail
            obtain ⟨ys, hys⟩ : ∃ ys, drawTo rs lo car (k - lo) ++ barAt car k = ys := ⟨_, rfl⟩
            have hok := drawTo_ok rs lo car (k - lo) HG.out (by have := HK.out; have := HLH.out; omega)
            have hlen := drawTo_len rs lo car (k - lo)
            have hbl : (barAt car k).length ≤ 1 := by unfold barAt; split <;> simp
            have hyl : ys.length ≤ 171798691841 := by rw [← hys, List.length_append]; have := HK.out; omega
            rw [show lo + (k - lo) = k by have := HK.out; omega, hys] at hok
            have HD3 := Lib.hid (show DrawAt w lo hi cl hd ys wc by rw [← hys]; exact HD2.out)
            have HYS := Lib.hid hys
            have HOK := Lib.hid hok
            clear hys hok hlen hbl HD2
            refine (String_any w.heap.size w.heap.size (enc ys) _ HD3.out.bld HD3.out.below.size).mono ?_
            rintro e w3 ⟨rfl, hb3⟩
            have HB3 := Lib.hid (HD3.out.below.trans hb3)
            have HSZ := Lib.hid (show (⟨(enc ys).toArray⟩ : ByteArray).size ≤ 140737488355328 by rw [← size_toList]; have := enc_len_le ys; simp; omega)
            clear hb3 b1
            go_wp2_with fail
            refine (trim_any _ _ HSZ.out).mono ?_
            rintro e w4 ⟨rfl, rfl⟩
            go_wp2_with fail
            go_ret
            refine ⟨ret_str ?_, HB3.out⟩
            apply ByteArray.ext
            rw [← Array.toList_inj, str_list]
            show trimL 32 (enc ys) = _
            rw [enc_trim ys (fun r hr => (HOK.out r hr).1), ← HYS.out, HKE.out]
            rfl
          · have b1 : ((k : Int) == (hi : Int)) = false := by simp; omega
            have hlt : k < hi := by omega
            have HLT := Lib.hid hlt
            have hkn : k < rs.length := by have := HLH.out; omega
            have HKN := Lib.hid hkn
            have cn2 := cell_below (HD2.out.below) HCN.out
            obtain ⟨ad, rfl, hcell⟩ := (HR.out.runes.below HD2.out.below) (by omega)
            have d5 := hcell k hkn
            have hws := wid_succ rs (lo := lo) (k := k) HK.out.1 hkn
            have hwb := wid_bound rs lo k (by omega) (by have := HN.out; omega)
            have hrr : TxtRune (rs.getD k 0) := by
              rw [List.getD_eq_getElem?_getD, List.getElem?_eq_getElem hkn]
              exact HG.out _ (List.getElem_mem _)
            have hyl := drawTo_len rs lo car (k - lo)
            have hbl : (barAt car k).length ≤ 1 := by unfold barAt; split <;> simp
            have HYL := Lib.hid (show (drawTo rs lo car (k - lo) ++ barAt car k).length ≤ 171798691841 by rw [List.length_append]; have := HK.out; omega)
            have hst := drawTo_succ rs lo car (k - lo)
            rw [show lo + (k - lo) = k by have := HK.out; omega, show k - lo + 1 = k + 1 - lo by have := HK.out; omega] at hst
            have hkn2 : k < n := by have := HNN.out; omega
            obtain ⟨r, hr⟩ : ∃ r, rs.getD k 0 = r := ⟨_, rfl⟩
            rw [hr] at d5 hws hrr hst
            obtain ⟨q, hq⟩ : ∃ q, wid rs lo k = q := ⟨_, rfl⟩
            rw [hq] at hws hwb hst ⊢
            obtain ⟨ys, hys⟩ : ∃ ys, drawTo rs lo car (k - lo) ++ barAt car k = ys := ⟨_, rfl⟩
            have HD3 := Lib.hid (show DrawAt w lo hi cl hd ys wc by rw [← hys]; exact HD2.out)
            rw [hys] at hst HYL
            have hc1 := colR_nonneg r q
            have hc2 := colR_le r q
            obtain ⟨cw, hcw⟩ : ∃ cw : Nat, colR r q = (cw : Int) := ⟨(colR r q).toNat, by omega⟩
            have hcw2 : (colR r q).toNat = cw := by omega
            unfold piece at hst
            rw [hcw2] at hst
            rw [hcw] at hws
            have hcw4 : cw ≤ 4 := by omega
            have HCW := Lib.hid hcw
            have HST := Lib.hid hst
            have HWS := Lib.hid hws
            have HWB := Lib.hid hwb
            have HRR := Lib.hid hrr
            have e1 : IntKind.i64.wrap (q + cw) = q + cw := IntWalk.i64_in _ (by omega)
            clear hcell hkn hwb hws hrr hyl hbl hst hr hq hys HD2 hc1 hc2 hcw hcw2 hlt hke
            go_wp2_with fail
            refine (Cols_any r q _ HWB.out.1 (HT.out.below HD3.out.below)).mono ?_
            rintro e w3 ⟨rfl, hb3⟩
            rw [HCW.out]
            have HD4 := Lib.hid (HD3.out.next hb3)
            have cn3 := cell_below hb3 cn2
            have d6 := cell_below hb3 d5
            clear hb3 cn2 d5 l1
            by_cases h9 : r = 9
            · have b9 : (r == 9) = true := by simp [h9]
              have H9 := Lib.hid h9
              clear h9
              go_wp2_with fail
              refine (Tryd.strings_Repeat ⟨#[32]⟩ cw _ (by omega) (by show 1 * cw ≤ _; omega)).mono ?_
              rintro e w4 ⟨rfl, hb4⟩
              have HD5 := Lib.hid (HD4.out.next hb4)
              clear hb4 cn3 d6
              go_wp2_with fail
              refine (TBlanks w.heap.size w.heap.size ys cw _ HD5.out.bld (by have := HYL.out; omega) hcw4 HD5.out.below.size).mono ?_
              rintro e w5 ⟨⟨v5, rfl⟩, h1, h2, h3⟩
              have HD6 := Lib.hid (HD5.out.wrote h1 h2 h3)
              clear h1 h2 h3
              go_wp2_with fail
              go_roundw
              case rel => exact ⟨k + 1, by have := HK.out; omega, HLT.out, by rw [HWS.out], by go_num, by have := HST.out; rw [if_pos H9.out] at this; rw [this]; exact HD6.out⟩
              case measure => have := HLT.out; simp [intOf]; omega
            · have b9 : (r == 9) = false := by simp [h9]
              have H9 := Lib.hid h9
              clear h9
              go_wp2_with fail
              refine (TRune w.heap.size w.heap.size ys r _ HRR.out.1 HD4.out.bld (by have := HYL.out; omega) HD4.out.below.size).mono ?_
              rintro e w5 ⟨⟨v5, rfl⟩, h1, h2, h3⟩
              have HD6 := Lib.hid (HD4.out.wrote h1 h2 h3)
              clear h1 h2 h3 cn3 d6
              go_wp2_with fail
              go_roundw
              case rel => exact ⟨k + 1, by have := HK.out; omega, HLT.out, by rw [HWS.out], by go_num, by have := HST.out; rw [if_neg H9.out] at this; rw [this]; exact HD6.out⟩
              case measure => have := HLT.out; simp [intOf]; omega
end Go.Proofs.YtkidcleffllhbaaDoor.Pg
