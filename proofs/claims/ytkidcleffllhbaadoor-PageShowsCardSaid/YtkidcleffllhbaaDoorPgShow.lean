/- page.Show and page.Top on a text. -/
import Derived.Test.YtkidcleffllhbaaDoorPgDraw
import Derived.Test.YtkidcleffllhbaaDoorDtRes
namespace Go.Proofs.YtkidcleffllhbaaDoor.Pg
open Go.RowKit Go.Proofs Go.Joins Go.Proofs.YtkidcleffllhbaaDoor.U Go.Proofs.YtkidcleffllhbaaDoor.Txt
set_option linter.unusedVariables false
set_option linter.unusedSimpArgs false
attribute [local go_sem] frozen?_alloc_cells

def hiOf (xs : List Row) (i : Nat) : Nat := (xs[i]?.map Row.hi).getD 0
theorem hiOf_eq {xs : List Row} {i : Nat} (h : i < xs.length) : hiOf xs i = xs[i].hi := by simp [hiOf, List.getElem?_eq_getElem h]
/-- A row's string. -/
def showRow (rs : List Int) (xs : List Row) (o : Option (Nat × Nat)) (j : Nat) : ByteArray := Str (drawn rs (loOf xs j) (hiOf xs j) (carAt o j))
/-- The strings of n rows from top on. -/
def showL (rs : List Int) (xs : List Row) (o : Option (Nat × Nat)) (top n : Nat) : List ByteArray := (List.range n).map fun i => showRow rs xs o (top + i)
theorem showL_len (rs : List Int) (xs : List Row) (o : Option (Nat × Nat)) (top n : Nat) : (showL rs xs o top n).length = n := by simp [showL]
theorem showL_succ (rs : List Int) (xs : List Row) (o : Option (Nat × Nat)) (top n : Nat) : showL rs xs o top (n + 1) = showL rs xs o top n ++ [showRow rs xs o (top + n)] := by simp [showL, List.range_succ]
theorem showL_get (rs : List Int) (xs : List Row) (o : Option (Nat × Nat)) (top n i : Nat) (h : i < n) : (showL rs xs o top n).getD i ⟨#[]⟩ = showRow rs xs o (top + i) := by
  simp [showL, List.getD, List.getElem?_range h]

theorem own_base {w : World} {B B' e size n : Nat} {v : Value} {xs : List Value} (h : w.ownsRow B e size v n xs) (hb : B' ≤ B) : w.ownsRow B' e size v n xs := by
  refine ⟨h.1, ?_⟩
  rcases h.2 with hn | ⟨g, cap, cur, hv, hbg, hg, rest⟩
  · exact .inl hn
  · exact .inr ⟨g, cap, cur, hv, Nat.le_trans hb hbg, hg, rest⟩
set_option maxRecDepth 100000 in
set_option maxHeartbeats 8000000 in
theorem Show_any {S : ByteArray} {rs : List Int} {W : Int} (H top n : Nat) (o : Option (Nat × Nat)) (w : World) (hp : Paper S rs W) (hH : 1 ≤ H ∧ H ≤ 1024) (ht : top < (pageRows W rs).length) (hn : n = min ((pageRows W rs).length - top) H) (ho : ∀ q k, o = some (q, k) → Stands (pageRows W rs) q k ∧ q ≤ rs.length) (hB : 4 ≤ w.heap.size) (hT : Tabs w) (hb : Bars w) :
    Calls Tryd.prog 20 #[.string S, .int .i64 W, .int .i64 H, .int .i64 top, .int .i64 (cvOf o)] w fun e w' => (∃ v, e = .returned (.tuple #[v, .int .i64 0]) ∧ w'.ownsRow w.heap.size 9 1 v n (Dt.strs (showL rs (pageRows W rs) o top n))) ∧ Below w.heap.size w w' := by
  have HT := Lib.hid hT
  have HP := Lib.hid hp
  have HH : 1 ≤ (H : Int) ∧ (H : Int) ≤ 1024 := by omega
  have hc1 : -1 ≤ cvOf o := by
    cases o with
    | none => exact Int.le_refl _
    | some qk => show (-1 : Int) ≤ (qk.1 : Int); omega
  have hc2 : cvOf o ≤ rs.length := by
    cases o with
    | none => show (-1 : Int) ≤ _; omega
    | some qk => have := (ho qk.1 qk.2 rfl).2; show (qk.1 : Int) ≤ _; omega
  have ht0 : ¬ (top : Int) < 0 := by omega
  have HO := Lib.hid ho
  obtain ⟨cv, hcv⟩ : ∃ cv, cvOf o = cv := ⟨_, rfl⟩
  rw [hcv] at hc1 hc2 ⊢
  have HCV := Lib.hid hcv
  have HNN := Lib.hid hn
  have HTP := Lib.hid ht
  have HHH := Lib.hid hH
  clear ho hcv hn ht hT hH
  go_enter Tryd.func20, Tryd.ntmps20
  go_wp2_with fail
  refine (sheet_any _ hp HH hB HT.out hb).mono ?_
  rintro e w1 ⟨⟨P, A, c, g, cap, rfl, hR⟩, hb1⟩
  have HR := Lib.hid hR
  have HB1 := Lib.hid hb1
  have HXL := Lib.hid hp.rows
  have HCH := Lib.hid hp.chain
  have HLN := Lib.hid hp.len
  have HG := Lib.hid hp.good
  obtain ⟨xs, hxs⟩ : ∃ xs, pageRows W rs = xs := ⟨_, rfl⟩
  rw [hxs] at HR HXL HCH HO HNN HTP hR
  have HXS := Lib.hid hxs
  have cr := hR.sheet.rows
  have cn := hR.sheet.runes
  obtain ⟨m, hm⟩ : ∃ m, xs.length = m := ⟨_, rfl⟩
  rw [hm] at cr HXL HNN HTP
  have HM := Lib.hid hm
  obtain ⟨l, hl⟩ : ∃ l, rs.length = l := ⟨_, rfl⟩
  rw [hl] at cn hc2 HXL HLN
  have HL := Lib.hid hl
  have htm : top < m := HTP.out
  have hml : m ≤ 34359738369 := by have := HXL.out; have := HLN.out; omega
  have hH4 : H ≤ 1024 := HHH.out.2
  have q0 : decide ((top : Int) < 0) = false := by simp
  have q1 : decide (cv < -1) = false := by simp; omega
  have q2 : decide ((l : Int) < cv) = false := by simp; omega
  have q3 : decide (m ≤ top) = false := by simp; omega
  clear hR hb1 hp hxs hm hl hb HH ht0
  go_wp2_with fail
  go_loopw [14, 15] (fun v r wr => ∃ i : Nat, i ≤ n ∧ r = .int .i64 ((top + i : Nat) : Int) ∧ wr.ownsRow w1.heap.size 9 1 v i (Dt.strs (showL rs xs o top i)) ∧ Below w1.heap.size w1 wr) (fun _ r _ => m - (intOf r).toNat)
  case atStart => exact ⟨0, Nat.zero_le _, rfl, ⟨rfl, .inl ⟨rfl, rfl⟩⟩, Below.refl _ _⟩
  case round =>
    obtain ⟨i, hi, rfl, hown, hb⟩ := hrel
    have HOW := Lib.hid hown
    have HB := Lib.hid hb
    have cr2 := cell_below hb cr
    clear hown hb
    have hnb : n ≤ m - top ∧ n ≤ H ∧ (n = m - top ∨ n = H) := by have := HNN.out; omega
    obtain ⟨j, hj⟩ : ∃ j, top + i = j := ⟨_, rfl⟩
    have HJ := Lib.hid hj
    by_cases hlt : i < n
    · have HLT := Lib.hid hlt
      have hjm : j < m := by omega
      have hd : (j : Int) - top < H := by omega
      have e1 : IntKind.i64.wrap ((j : Int) - top) = (j : Int) - top := IntWalk.i64_in _ (by omega)
      have hjx : j < xs.length := by have := HM.out; omega
      have HJX := Lib.hid hjx
      have hnb2 : n ≤ 1024 := by omega
      rw [hj]
      clear hi hnb hj hlt hjx
      go_wp2_with fail
      have hdrawn := (drawn_any P S A c rs W g cap xs j o wr (HR.out.below HB.out) HCH.out HJX.out (by have := HLN.out; have := HL.out; omega) (by have := HM.out; omega) (HT.out.below (HB1.out.trans (HB.out.mono HB1.out.size))) HG.out (fun q k h => (HO.out q k h).1))
      rw [HCV.out] at hdrawn
      refine hdrawn.mono ?_
      clear hdrawn
      rintro e w2 ⟨rfl, hb2⟩
      rw [show Str (drawn rs xs[j].lo xs[j].hi (carAt o j)) = showRow rs xs o j by unfold showRow; rw [loOf_eq HJX.out, hiOf_eq HJX.out]; rfl]
      have HB2 := Lib.hid hb2
      have HB3 := Lib.hid (HB.out.trans (hb2.mono HB.out.size))
      obtain ⟨sx, hsx⟩ : ∃ sx, showRow rs xs o j = sx := ⟨_, rfl⟩
      rw [hsx]
      have HSX := Lib.hid hsx
      clear hb2 hsx cr2 e1 hd
      go_wp2_with (at_builtin; refine Dt.wpList_appS rfl (.tmp 67) (.tmp 72) rfl w1.heap.size _ (showL rs xs o top i) [sx] rfl (by rw [showL_len]; exact own_below (own_below HOW.out HB2.out) (below_alloc1 _ _)) _ 1 1 rfl rfl (fun h => by cases h) (Dt.cellsS_one _ _) (by rw [showL_len]; have := HLT.out; omega) (by have := HB3.out.size; simp; omega) ?_; intro v' w3 hown' hgrow; have HO3 := Lib.hid hown'; have HG3 := Lib.hid hgrow; clear hown' hgrow)
      go_roundw
      case rel => exact ⟨i + 1, HLT.out, by rw [show top + (i + 1) = j + 1 by have := HJ.out; omega]; rfl, by
          have := HO3.out
          rw [List.length_append, showL_len, ← HSX.out, ← HJ.out, ← showL_succ] at this
          exact this, (HB3.out.alloc HB3.out.size _).grown HG3.out (by have := HB3.out.size; simp; omega) (fun k hk => (HOW.out.lt k hk).1)⟩
      case measure => simp [intOf]; omega
    · have hin : i = n := by omega
      have HIN := Lib.hid hin
      rw [hj]
      have hjb : j ≤ 34359739393 := by omega
      have hd0 : j < m → ¬ (j : Int) - top < H := by intro h; omega
      clear hin hi hlt
      by_cases hjm : j < m
      · have hd : ¬ (j : Int) - top < H := hd0 hjm
        have e1 : IntKind.i64.wrap ((j : Int) - top) = (j : Int) - top := IntWalk.i64_in _ (by omega)
        clear hnb hj hd0
        go_wp2_with fail
        go_ret2
        exact ⟨⟨_, rfl, by rw [HXS.out, ← HIN.out]; exact own_base HOW.out HB1.out.size⟩, HB1.out.trans (HB.out.mono HB1.out.size)⟩
      · clear hnb hj hd0
        go_wp2_with fail
        go_ret2
        exact ⟨⟨_, rfl, by rw [HXS.out, ← HIN.out]; exact own_base HOW.out HB1.out.size⟩, HB1.out.trans (HB.out.mono HB1.out.size)⟩
/-- Which row Top tells. -/
def topP (k H old : Nat) : Nat := if k < old then k else if H ≤ k - old then k - H + 1 else old
set_option maxRecDepth 100000 in
set_option maxHeartbeats 8000000 in
theorem Top_any {S : ByteArray} {rs : List Int} {W : Int} (H old q k : Nat) (w : World) (hp : Paper S rs W) (hH : 1 ≤ H ∧ H ≤ 1024) (hk : Stands (pageRows W rs) q k) (hq : q ≤ rs.length) (hold : old ≤ 1125899906842624) (hB : 4 ≤ w.heap.size) (hT : Tabs w) (hb : Bars w) :
    Calls Tryd.prog 19 #[.string S, .int .i64 W, .int .i64 H, .int .i64 old, .int .i64 q] w fun e w' => e = .returned (.tuple #[.int .i64 (topP k H old), .int .i64 0]) ∧ Below w.heap.size w w' := by
  have HT := Lib.hid hT
  have HH : 1 ≤ (H : Int) ∧ (H : Int) ≤ 1024 := by omega
  have HQ := Lib.hid hq
  have HK := Lib.hid hk
  have h0 : ¬ (old : Int) < 0 := by omega
  have h1 : ¬ (q : Int) < 0 := by omega
  have hH4 : H ≤ 1024 := hH.2
  have HH1 := Lib.hid hH.1
  clear hq hk hH hT
  go_enter Tryd.func19, Tryd.ntmps19
  go_wp2_with fail
  refine (sheet_any _ hp HH hB HT.out hb).mono ?_
  rintro e w1 ⟨⟨P, A, c, g, cap, rfl, hR⟩, hb1⟩
  have HR := Lib.hid hR
  have HB1 := Lib.hid hb1
  have HXL := Lib.hid hp.rows
  have HCH := Lib.hid hp.chain
  have HLN := Lib.hid hp.len
  obtain ⟨xs, hxs⟩ : ∃ xs, pageRows W rs = xs := ⟨_, rfl⟩
  rw [hxs] at HR HXL HCH HK hR
  have cn := hR.sheet.runes
  obtain ⟨l, hl⟩ : ∃ l, rs.length = l := ⟨_, rfl⟩
  rw [hl] at cn HXL HLN HQ
  have hql : ¬ l < q := by have := HQ.out; omega
  have hkm : k ≤ 34359738369 := by have := HK.out.1; have := HXL.out; have := HLN.out; omega
  clear hR hb1 hp hxs hl hb HH
  go_wp2_with fail
  refine (row_any P S A c rs W g cap xs q k _ HR.out HCH.out HK.out (by have := HXL.out; have := HLN.out; omega)).mono ?_
  rintro e w2 ⟨rfl, hb2⟩
  have HB2 := Lib.hid (HB1.out.trans (hb2.mono HB1.out.size))
  clear hb2 cn
  by_cases g1 : k < old
  · have HTP := Lib.hid (show topP k H old = k by unfold topP; rw [if_pos g1])
    go_wp2_with fail
    go_ret2
    exact ⟨by rw [HTP.out]; rfl, HB2.out⟩
  · have e1 : IntKind.i64.wrap ((k : Int) - old) = (k : Int) - old := IntWalk.i64_in _ (by omega)
    by_cases g2 : H ≤ k - old
    · have g3 : (H : Int) ≤ (k : Int) - old := by omega
      have HTP := Lib.hid (show ((topP k H old : Nat) : Int) = (k : Int) - H + 1 by unfold topP; rw [if_neg g1, if_pos g2]; omega)
      clear g2
      go_wp2_with fail
      go_ret2
      exact ⟨by rw [HTP.out]; rfl, HB2.out⟩
    · have g3 : ¬ (H : Int) ≤ (k : Int) - old := by omega
      have HTP := Lib.hid (show topP k H old = old by unfold topP; rw [if_neg g1, if_neg g2])
      clear g2
      go_wp2_with fail
      go_ret2
      exact ⟨by rw [HTP.out]; rfl, HB2.out⟩
end Go.Proofs.YtkidcleffllhbaaDoor.Pg
