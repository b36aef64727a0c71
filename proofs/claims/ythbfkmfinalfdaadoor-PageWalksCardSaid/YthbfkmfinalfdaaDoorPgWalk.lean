/- page's walks by rows: wants, home, end, up, down. -/
import Derived.Test.YthbfkmfinalfdaaDoorPgSeek
import Derived.Deep.RegionHeld3
namespace Go.Proofs.YthbfkmfinalfdaaDoor.Pg
open Go.RowKit Go.Proofs Go.Joins Go.Proofs.YthbfkmfinalfdaaDoor.U Go.Proofs.YthbfkmfinalfdaaDoor.Txt
set_option linter.unusedVariables false
set_option linter.unusedSimpArgs false
attribute [local go_sem] frozen?_alloc_cells

def wantP (rs : List Int) (lo at_ : Nat) (want : Int) : Int := if want < 0 then wid rs lo at_ else want
theorem wantP_nonneg (rs : List Int) (lo at_ : Nat) (want : Int) : 0 ≤ wantP rs lo at_ want := by
  unfold wantP; split
  · exact wid_nonneg rs lo at_
  · omega
/-- What the walks by rows are given: a sheet with its rows, a place in one of them. -/
structure At (w : World) (P : Nat) (S : ByteArray) (A : Option Addr) (c : Nat) (rs : List Int) (W : Int) (g cap : Nat) (xs : List Row) (at_ k : Nat) : Prop where
  sheet : Rowed w P S A c rs W g cap xs
  chain : Chain W rs 0 xs
  stands : Stands xs at_ k
  most : at_ ≤ rs.length
  few : xs.length ≤ 1125899906842624
  len : rs.length ≤ 1125899906842624
theorem At.below {w w' : World} {P : Nat} {S : ByteArray} {A : Option Addr} {c : Nat} {rs : List Int} {W : Int} {g cap : Nat} {xs : List Row} {at_ k : Nat} (h : At w P S A c rs W g cap xs at_ k) (hb : Below w.heap.size w w') : At w' P S A c rs W g cap xs at_ k :=
  ⟨h.sheet.below hb, h.chain, h.stands, h.most, h.few, h.len⟩
section
variable {w : World} {P : Nat} {S : ByteArray} {A : Option Addr} {c : Nat} {rs : List Int} {W : Int} {g cap : Nat} {xs : List Row} {at_ k : Nat}
theorem At.lo (h : At w P S A c rs W g cap xs at_ k) : w.cell? ⟨g, k * 4, none⟩ = some (.int .i64 (loOf xs k)) := by
  have hk := h.stands.1
  rw [loOf_eq hk]
  exact (h.sheet.rows k hk).1

set_option maxRecDepth 100000 in
set_option maxHeartbeats 4000000 in
theorem wants_any (want : Int) (w : World) (h : At w P S A c rs W g cap xs at_ k) (hT : Tabs w) :
    Calls Tryd.prog 54 #[.pointer (some ⟨P, 0, none⟩), .int .i64 at_, .int .i64 want] w fun e w' => e = .returned (.tuple #[.int .i64 k, .int .i64 (wantP rs (loOf xs k) at_ want)]) ∧ Below w.heap.size w w' := by
  have H := Lib.hid h
  have HT := Lib.hid hT
  obtain ⟨lo, hl⟩ : ∃ lo, loOf xs k = lo := ⟨_, rfl⟩
  rw [hl]
  have HLO := Lib.hid hl
  clear hT hl
  go_enter Tryd.func54, Tryd.ntmps54
  go_wp2_with fail
  refine (row_any P S A c rs W g cap xs at_ k _ h.sheet h.chain h.stands h.few).mono ?_
  rintro e w1 ⟨rfl, hb1⟩
  have HB := Lib.hid hb1
  have hlo := (h.below hb1).lo
  have cr := (h.below hb1).sheet.sheet.rows
  have hkl := h.stands.1
  have hle : loOf xs k ≤ at_ := by rw [loOf_eq hkl]; exact h.stands.2.1
  obtain ⟨m, hm⟩ : ∃ m, xs.length = m := ⟨_, rfl⟩
  rw [hm] at cr hkl
  rw [HLO.out] at hlo hle
  have HLE := Lib.hid hle
  clear h hb1 hm hle
  by_cases hw : want < 0
  · have HW := Lib.hid (show wantP rs lo at_ want = wid rs lo at_ from if_pos hw)
    go_wp2_with fail
    refine (scols_any P S A c rs W _ lo at_ _ H.out.len HLE.out H.out.most H.out.sheet.room (H.out.below HB.out).sheet.sheet (H.out.below HB.out).sheet.runes (HT.out.below HB.out)).mono ?_
    rintro e w2 ⟨rfl, hb2⟩
    have HB2 := Lib.hid (HB.out.trans (hb2.mono HB.out.size))
    clear hb2
    go_wp2_with fail
    go_ret2
    exact ⟨by rw [HW.out]; rfl, HB2.out⟩
  · have HW := Lib.hid (show wantP rs lo at_ want = want from if_neg hw)
    go_wp2_with fail
    go_ret2
    exact ⟨by rw [HW.out]; rfl, HB.out⟩

set_option maxRecDepth 100000 in
set_option maxHeartbeats 4000000 in
theorem home_any (want : Int) (w : World) (h : At w P S A c rs W g cap xs at_ k) :
    Calls Tryd.prog 50 #[.pointer (some ⟨P, 0, none⟩), .int .i64 at_, .int .i64 want] w fun e w' => e = .returned (.tuple #[.int .i64 (loOf xs k), .int .i64 (-1)]) ∧ Below w.heap.size w w' := by
  have H := Lib.hid h
  have k1 := h.lo
  have k0 := h.sheet.sheet.rows
  have hkl := h.stands.1
  have hfew := h.few
  obtain ⟨m, hm⟩ : ∃ m, xs.length = m := ⟨_, rfl⟩
  rw [hm] at k0 hkl hfew
  obtain ⟨lo, hl⟩ : ∃ lo, loOf xs k = lo := ⟨_, rfl⟩
  rw [hl] at k1 ⊢
  have i0 : (0 : Int) ≤ (k : Int) := by omega
  have i1 : (k : Int) < (m : Int) := by omega
  obtain ⟨ww, hww⟩ : ∃ ww, w = ww := ⟨_, rfl⟩
  rw [hww] at k0 k1 H ⊢
  clear h hm hl hww
  go_enter Tryd.func50, Tryd.ntmps50
  go_wp2_with fail
  go_region_held3 (fun w' => w'.cell? ⟨P, 3, none⟩ = some (.slice (some ⟨g, 0, none⟩) m cap) ∧ w'.cell? ⟨g, k * 4, none⟩ = some (.int .i64 lo))
    (first | exact ⟨k0, k1⟩ | exact ⟨k0', k1'⟩ | go_keep)
    (first
      | (go_at_call 19; refine (row_any P S A c rs W g cap xs at_ k _ (H.out.sheet.below (by first | exact Below.refl _ _ | exact (Below.refl _ _).drew)) H.out.chain H.out.stands H.out.few).mono ?_; rintro e w5 ⟨rfl, hb5⟩; have k0' := cell_below hb5 (show _ = _ from k0); have k1' := cell_below hb5 (show _ = _ from k1); have HB5 := Lib.hid ((show Below ww.heap.size ww _ by first | exact Below.refl _ _ | exact (Below.refl _ _).drew).trans hb5); clear hb5))
  all_goals (go_wp2_with fail)
  all_goals go_ret2
  all_goals exact ⟨rfl, HB5.out⟩

set_option maxRecDepth 100000 in
set_option maxHeartbeats 4000000 in
theorem end_any (want : Int) (w : World) (h : At w P S A c rs W g cap xs at_ k) (hk : k < xs.length) :
    Calls Tryd.prog 51 #[.pointer (some ⟨P, 0, none⟩), .int .i64 at_, .int .i64 want] w fun e w' => e = .returned (.tuple #[.int .i64 (lastOf xs[k]), .int .i64 (-1)]) ∧ Below w.heap.size w w' := by
  have H := Lib.hid h
  obtain ⟨la, hla⟩ : ∃ la, lastOf xs[k] = la := ⟨_, rfl⟩
  rw [hla]
  have HLA := Lib.hid hla
  clear hla h
  go_enter Tryd.func51, Tryd.ntmps51
  go_wp2_with fail
  refine (row_any P S A c rs W g cap xs at_ k _ H.out.sheet H.out.chain H.out.stands H.out.few).mono ?_
  rintro e w1 ⟨rfl, hb1⟩
  have HB := Lib.hid hb1
  clear hb1
  go_wp2_with fail
  refine (last_any P S A c rs W g cap xs k _ (H.out.sheet.below HB.out) H.out.chain hk H.out.len H.out.few).mono ?_
  rintro e w2 ⟨rfl, rfl⟩
  rw [HLA.out]
  go_wp2_with fail
  go_ret2
  exact ⟨rfl, HB.out⟩

def FoundTwo (rs : List Int) (lo last : Nat) (col : Int) (e : Ending) : Prop := ∃ a : Nat, e = .returned (.tuple #[.int .i64 a, .int .i64 col]) ∧ Found rs lo last col a
set_option maxRecDepth 100000 in
set_option maxHeartbeats 4000000 in
theorem up_zero (want : Int) (w : World) (h : At w P S A c rs W g cap xs at_ 0) (hT : Tabs w) :
    Calls Tryd.prog 52 #[.pointer (some ⟨P, 0, none⟩), .int .i64 at_, .int .i64 want] w fun e w' => e = .returned (.tuple #[.int .i64 0, .int .i64 (wantP rs (loOf xs 0) at_ want)]) ∧ Below w.heap.size w w' := by
  go_enter Tryd.func52, Tryd.ntmps52
  go_wp2_with fail
  refine (wants_any want _ h hT).mono ?_
  rintro e w1 ⟨rfl, hb1⟩
  have HB := Lib.hid hb1
  clear hb1
  go_wp2_with fail
  go_ret2
  exact ⟨rfl, HB.out⟩
set_option maxRecDepth 100000 in
set_option maxHeartbeats 4000000 in
theorem up_more (j : Nat) (want : Int) (w : World) (h : At w P S A c rs W g cap xs at_ (j + 1)) (hT : Tabs w) (hj : j < xs.length) :
    Calls Tryd.prog 52 #[.pointer (some ⟨P, 0, none⟩), .int .i64 at_, .int .i64 want] w fun e w' => FoundTwo rs xs[j].lo (lastOf xs[j]) (wantP rs (loOf xs (j + 1)) at_ want) e ∧ Below w.heap.size w w' := by
  have hW := wants_any want _ h hT
  have H := Lib.hid h
  have HT := Lib.hid hT
  have hc := wantP_nonneg rs (loOf xs (j + 1)) at_ want
  obtain ⟨cc, hcc⟩ : ∃ cc, wantP rs (loOf xs (j + 1)) at_ want = cc := ⟨_, rfl⟩
  rw [hcc] at hW hc ⊢
  have HC := Lib.hid hc
  obtain ⟨k1, hk1⟩ : ∃ k1 : Nat, j + 1 = k1 := ⟨_, rfl⟩
  have b1 : ((k1 : Int) == 0) = false := by simp; omega
  have hfew := h.few
  have e1 : IntKind.i64.wrap ((k1 : Int) - 1) = (j : Int) := by rw [show (k1 : Int) - 1 = j by omega]; exact IntWalk.i64_in _ (by omega)
  rw [hk1] at hW
  clear h hT hcc hk1 hc hfew
  go_enter Tryd.func52, Tryd.ntmps52
  go_wp2_with fail
  refine hW.mono ?_
  rintro e w1 ⟨rfl, hb1⟩
  have HB := Lib.hid hb1
  clear hb1 hW
  go_wp2_with fail
  refine (find_any P S A c rs W g cap xs j cc _ (H.out.sheet.below HB.out) H.out.chain hj H.out.len H.out.few HC.out (HT.out.below HB.out)).mono ?_
  rintro e w2 ⟨⟨a, rfl, hf⟩, hb2⟩
  have HF := Lib.hid hf
  have HB2 := Lib.hid (HB.out.trans (hb2.mono HB.out.size))
  clear hf hb2
  go_wp2_with fail
  go_ret2
  exact ⟨⟨a, rfl, HF.out⟩, HB2.out⟩
set_option maxRecDepth 100000 in
set_option maxHeartbeats 4000000 in
theorem down_more (want : Int) (w : World) (h : At w P S A c rs W g cap xs at_ k) (hT : Tabs w) (hj : k + 1 < xs.length) :
    Calls Tryd.prog 53 #[.pointer (some ⟨P, 0, none⟩), .int .i64 at_, .int .i64 want] w fun e w' => FoundTwo rs xs[k + 1].lo (lastOf xs[k + 1]) (wantP rs (loOf xs k) at_ want) e ∧ Below w.heap.size w w' := by
  have hW := wants_any want _ h hT
  have H := Lib.hid h
  have HT := Lib.hid hT
  have hc := wantP_nonneg rs (loOf xs k) at_ want
  obtain ⟨cc, hcc⟩ : ∃ cc, wantP rs (loOf xs k) at_ want = cc := ⟨_, rfl⟩
  rw [hcc] at hW hc ⊢
  have HC := Lib.hid hc
  have hfew := h.few
  have k0 := h.sheet.sheet.rows
  obtain ⟨m, hm⟩ : ∃ m, xs.length = m := ⟨_, rfl⟩
  rw [hm] at k0 hfew
  have e1 : IntKind.i64.wrap ((m : Int) - 1) = (m : Int) - 1 := IntWalk.i64_in _ (by omega)
  have b1 : ((k : Int) == (m : Int) - 1) = false := by simp; omega
  have hkb : k ≤ 1125899906842624 := by omega
  clear h hT hcc hm hc
  go_enter Tryd.func53, Tryd.ntmps53
  go_wp2_with fail
  refine hW.mono ?_
  rintro e w1 ⟨rfl, hb1⟩
  have HB := Lib.hid hb1
  have k1 := cell_below hb1 k0
  clear hb1 hW k0
  go_wp2_with fail
  refine (find_any P S A c rs W g cap xs (k + 1) cc _ (H.out.sheet.below HB.out) H.out.chain hj H.out.len H.out.few HC.out (HT.out.below HB.out)).mono ?_
  rintro e w2 ⟨⟨a, rfl, hf⟩, hb2⟩
  have HF := Lib.hid hf
  have HB2 := Lib.hid (HB.out.trans (hb2.mono HB.out.size))
  clear hf hb2
  go_wp2_with fail
  go_ret2
  exact ⟨⟨a, rfl, HF.out⟩, HB2.out⟩
end
end Go.Proofs.YthbfkmfinalfdaaDoor.Pg
