/- Exact laws, walks: the reference's Where, Find, Step. The plays of Where, Find and Step, and UtextWalks. -/
import Derived.Test.YtfgekdefnbohbaaDoorUAll22
namespace Go.Proofs.YtfgekdefnbohbaaDoor.U
open Go.RowKit Go.Proofs.YtfgekdefnbohbaaDoor.Txt
set_option linter.unusedVariables false
set_option linter.unusedSimpArgs false

theorem reffind_to (A : Option Addr) (c : Nat) (ln col : Int) (rs : List Int) (w : World) (L p d r : Nat) (hc : Cells64 w A rs) (hl : rs.length ≤ 1048576) (hL : LineIs rs L p d) (h1 : ln = L) (h2 : 0 ≤ col) (h3 : col ≤ 9223372036854775807) (hr : p + min col.toNat d = r) :
    Calls Tryd.prog 88 #[.slice A rs.length c, .int .i64 ln, .int .i64 col] w fun e w' => e = .returned (.int .i64 r) ∧ w = w' := by
  obtain ⟨k, rfl⟩ : ∃ k : Nat, col = (k : Int) := ⟨col.toNat, by omega⟩
  subst h1 hr
  exact reffind_in A c L p d k rs w hc hl hL (by omega)

set_option maxRecDepth 100000 in
set_option maxHeartbeats 4000000 in
theorem RefWhere_fault (S : ByteArray) (rs : List Int) (t : List UInt8) (a : Int) (f : Int) (w : World) (h : Halves S rs t) (hs : S.size ≤ 1048576) (ht : t ≠ []) (hf : (fault t : Int) = f) :
    Calls Tryd.prog 66 #[.string S, .int .i64 a] w fun e' w' => e' = .returned (.tuple #[.int .i64 0, .int .i64 0, .int .i64 f]) ∧ Below w.heap.size w w' := by
  have H := Lib.hid h
  have HS := Lib.hid (show S.size ≤ 4398046511104 by omega)
  have b := fault_ne hf
  have HF := Lib.hid hf
  have HT := Lib.hid ht
  clear hf ht h hs
  go_enter Tryd.func66, Tryd.ntmps66
  go_wp2_with fail
  refine (Runes_any S rs t _ H.out HS.out).mono ?_
  rintro e w1 ⟨hp, hb1⟩
  have HB := Lib.hid hb1
  clear hb1
  rcases hp with ⟨ht2, _⟩ | ⟨_, rfl⟩
  · exact absurd ht2 HT.out
  rw [HF.out]
  go_wp2_with fail
  go_ret3
  exact ⟨rfl, HB.out⟩

set_option maxRecDepth 100000 in
set_option maxHeartbeats 4000000 in
theorem RefWhere_out (S : ByteArray) (rs : List Int) (a : Int) (w : World) (h : Halves S rs []) (hs : S.size ≤ 1048576) (ha : a < 0 ∨ rs.length < a) :
    Calls Tryd.prog 66 #[.string S, .int .i64 a] w fun e' w' => e' = .returned (.tuple #[.int .i64 0, .int .i64 0, .int .i64 12]) ∧ Below w.heap.size w w' := by
  have H := Lib.hid h
  have HS := Lib.hid (show S.size ≤ 4398046511104 by omega)
  have hlen := (len_bound h hs).1
  clear h hs
  by_cases hneg : a < 0
  · clear ha
    go_enter Tryd.func66, Tryd.ntmps66
    go_wp2_with fail
    refine (Runes_any S rs [] _ H.out HS.out).mono ?_
    rintro e w1 ⟨hp, hb1⟩
    have HB := Lib.hid hb1
    clear hb1
    rcases hp with ⟨_, v, rfl, hown⟩ | ⟨ht2, _⟩
    case inr => exact absurd rfl ht2
    obtain ⟨A, c, rfl, hcap, hcell⟩ := own_ints hown
    have HCE := Lib.hid hcell
    have HCAP := Lib.hid hcap
    clear hown hcap hcell
    go_wp2_with fail
    go_ret3
    exact ⟨rfl, HB.out⟩
  · have hbig : (rs.length : Int) < a := by omega
    clear ha
    go_enter Tryd.func66, Tryd.ntmps66
    go_wp2_with fail
    refine (Runes_any S rs [] _ H.out HS.out).mono ?_
    rintro e w1 ⟨hp, hb1⟩
    have HB := Lib.hid hb1
    clear hb1
    rcases hp with ⟨_, v, rfl, hown⟩ | ⟨ht2, _⟩
    case inr => exact absurd rfl ht2
    obtain ⟨A, c, rfl, hcap, hcell⟩ := own_ints hown
    have HCE := Lib.hid hcell
    have HCAP := Lib.hid hcap
    clear hown hcap hcell
    go_wp2_with fail
    go_ret3
    exact ⟨rfl, HB.out⟩

set_option maxRecDepth 100000 in
set_option maxHeartbeats 4000000 in
theorem RefWhere_in (S : ByteArray) (rs : List Int) (k : Nat) (w : World) (h : Halves S rs []) (hs : S.size ≤ 1048576) (hk : k ≤ rs.length) (q : Int) (hq : (k : Int) - homeP rs k = q) :
    Calls Tryd.prog 66 #[.string S, .int .i64 k] w fun e' w' => e' = .returned (.tuple #[.int .i64 (nl rs k : Nat), .int .i64 q, .int .i64 0]) ∧ Below w.heap.size w w' := by
  have H := Lib.hid h
  have HS := Lib.hid (show S.size ≤ 4398046511104 by omega)
  have hlen := (len_bound h hs).1
  clear h hs
  have HQ := Lib.hid hq
  have HK := Lib.hid hk
  have hneg : ¬ (k : Int) < 0 := by omega
  have hbig : ¬ rs.length < k := by omega
  clear hq hk
  go_enter Tryd.func66, Tryd.ntmps66
  go_wp2_with fail
  refine (Runes_any S rs [] _ H.out HS.out).mono ?_
  rintro e w1 ⟨hp, hb1⟩
  have HB := Lib.hid hb1
  clear hb1
  rcases hp with ⟨_, v, rfl, hown⟩ | ⟨ht2, _⟩
  case inr => exact absurd rfl ht2
  obtain ⟨A, c, rfl, hcap, hcell⟩ := own_ints hown
  have HCE := Lib.hid hcell
  have HCAP := Lib.hid hcap
  clear hown hcap hcell
  go_wp2_with fail
  refine (refwhere_any A c k rs q _ HCE.out hlen HK.out HQ.out).mono ?_
  rintro e' w2 ⟨rfl, rfl⟩
  go_wp2_with fail
  go_ret3
  exact ⟨rfl, HB.out⟩

theorem RefWhere_is (S : ByteArray) (rs : List Int) (t : List UInt8) (a x y e : Int) (w : World) (h : Halves S rs t) (hs : S.size ≤ 1048576) (hp : WhereIs rs t a x y e) :
    Calls Tryd.prog 66 #[.string S, .int .i64 a] w fun e' w' => e' = .returned (.tuple #[.int .i64 x, .int .i64 y, .int .i64 e]) ∧ Below w.heap.size w w' := by
  cases hp with
  | fault f ht hf => exact RefWhere_fault S rs t a _ w h hs ht hf
  | out ht ha => subst ht; exact RefWhere_out S rs a w h hs ha
  | ok k q ht ha hk hq => subst ht ha; exact RefWhere_in S rs k w h hs hk q hq

set_option maxRecDepth 100000 in
set_option maxHeartbeats 4000000 in
theorem RefFind_fault (S : ByteArray) (rs : List Int) (t : List UInt8) (ln : Int) (col : Int) (f : Int) (w : World) (h : Halves S rs t) (hs : S.size ≤ 1048576) (ht : t ≠ []) (hf : (fault t : Int) = f) :
    Calls Tryd.prog 68 #[.string S, .int .i64 ln, .int .i64 col] w fun e' w' => e' = .returned (.tuple #[.int .i64 0, .int .i64 f]) ∧ Below w.heap.size w w' := by
  have H := Lib.hid h
  have HS := Lib.hid (show S.size ≤ 4398046511104 by omega)
  have b := fault_ne hf
  have HF := Lib.hid hf
  have HT := Lib.hid ht
  clear hf ht h hs
  go_enter Tryd.func68, Tryd.ntmps68
  go_wp2_with fail
  refine (Runes_any S rs t _ H.out HS.out).mono ?_
  rintro e w1 ⟨hp, hb1⟩
  have HB := Lib.hid hb1
  clear hb1
  rcases hp with ⟨ht2, _⟩ | ⟨_, rfl⟩
  · exact absurd ht2 HT.out
  rw [HF.out]
  go_wp2_with fail
  go_ret2
  exact ⟨rfl, HB.out⟩

set_option maxRecDepth 100000 in
set_option maxHeartbeats 4000000 in
theorem RefFind_out (S : ByteArray) (rs : List Int) (ln : Int) (col : Int) (w : World) (h : Halves S rs []) (hs : S.size ≤ 1048576) (h0 : ln < 0 ∨ (nl rs rs.length : Int) < ln ∨ col < 0) :
    Calls Tryd.prog 68 #[.string S, .int .i64 ln, .int .i64 col] w fun e' w' => e' = .returned (.tuple #[.int .i64 0, .int .i64 12]) ∧ Below w.heap.size w w' := by
  have H := Lib.hid h
  have HS := Lib.hid (show S.size ≤ 4398046511104 by omega)
  have hlen := (len_bound h hs).1
  clear h hs
  by_cases hneg : ln < 0
  · clear h0
    go_enter Tryd.func68, Tryd.ntmps68
    go_wp2_with fail
    refine (Runes_any S rs [] _ H.out HS.out).mono ?_
    rintro e w1 ⟨hp, hb1⟩
    have HB := Lib.hid hb1
    clear hb1
    rcases hp with ⟨_, v, rfl, hown⟩ | ⟨ht2, _⟩
    case inr => exact absurd rfl ht2
    obtain ⟨A, c, rfl, hcap, hcell⟩ := own_ints hown
    have HCE := Lib.hid hcell
    have HCAP := Lib.hid hcap
    clear hown hcap hcell
    go_wp2_with fail
    go_ret2
    exact ⟨rfl, HB.out⟩
  by_cases hcn : col < 0
  · clear h0
    go_enter Tryd.func68, Tryd.ntmps68
    go_wp2_with fail
    refine (Runes_any S rs [] _ H.out HS.out).mono ?_
    rintro e w1 ⟨hp, hb1⟩
    have HB := Lib.hid hb1
    clear hb1
    rcases hp with ⟨_, v, rfl, hown⟩ | ⟨ht2, _⟩
    case inr => exact absurd rfl ht2
    obtain ⟨A, c, rfl, hcap, hcell⟩ := own_ints hown
    have HCE := Lib.hid hcell
    have HCAP := Lib.hid hcap
    clear hown hcap hcell
    go_wp2_with fail
    go_ret2
    exact ⟨rfl, HB.out⟩
  have HO := Lib.hid (show ln < 0 ∨ (nl rs rs.length : Int) < ln by omega)
  clear h0
  go_enter Tryd.func68, Tryd.ntmps68
  go_wp2_with fail
  refine (Runes_any S rs [] _ H.out HS.out).mono ?_
  rintro e w1 ⟨hp, hb1⟩
  have HB := Lib.hid hb1
  clear hb1
  rcases hp with ⟨_, v, rfl, hown⟩ | ⟨ht2, _⟩
  case inr => exact absurd rfl ht2
  obtain ⟨A, c, rfl, hcap, hcell⟩ := own_ints hown
  have HCE := Lib.hid hcell
  have HCAP := Lib.hid hcap
  clear hown hcap hcell
  go_wp2_with fail
  refine (reffind_out A c ln col rs _ HCE.out hlen HO.out).mono ?_
  rintro e' w2 ⟨rfl, rfl⟩
  go_wp2_with fail
  go_ret2
  exact ⟨rfl, HB.out⟩

set_option maxRecDepth 100000 in
set_option maxHeartbeats 4000000 in
theorem RefFind_in (S : ByteArray) (rs : List Int) (ln : Nat) (col : Nat) (w : World) (h : Halves S rs []) (hs : S.size ≤ 1048576) (p d r : Nat) (hcol : col ≤ 9223372036854775807) (hL : LineIs rs ln p d) (hr : p + min col d = r) :
    Calls Tryd.prog 68 #[.string S, .int .i64 ln, .int .i64 col] w fun e' w' => e' = .returned (.tuple #[.int .i64 r, .int .i64 0]) ∧ Below w.heap.size w w' := by
  have H := Lib.hid h
  have HS := Lib.hid (show S.size ≤ 4398046511104 by omega)
  have hlen := (len_bound h hs).1
  clear h hs
  have HL := Lib.hid hL
  have HR := Lib.hid hr
  have hneg : ¬ (ln : Int) < 0 := by omega
  have hneg2 : ¬ (col : Int) < 0 := by omega
  have hneg3 : ¬ (r : Int) < 0 := by omega
  clear hL hr
  go_enter Tryd.func68, Tryd.ntmps68
  go_wp2_with fail
  refine (Runes_any S rs [] _ H.out HS.out).mono ?_
  rintro e w1 ⟨hp, hb1⟩
  have HB := Lib.hid hb1
  clear hb1
  rcases hp with ⟨_, v, rfl, hown⟩ | ⟨ht2, _⟩
  case inr => exact absurd rfl ht2
  obtain ⟨A, c, rfl, hcap, hcell⟩ := own_ints hown
  have HCE := Lib.hid hcell
  have HCAP := Lib.hid hcap
  clear hown hcap hcell
  go_wp2_with fail
  refine (reffind_to A c _ _ rs _ ln p d r HCE.out hlen HL.out rfl (by omega) (by omega) (by rw [Int.toNat_natCast]; exact HR.out)).mono ?_
  rintro e' w2 ⟨rfl, rfl⟩
  go_wp2_with fail
  go_ret2
  exact ⟨rfl, HB.out⟩

theorem RefFind_is (S : ByteArray) (rs : List Int) (t : List UInt8) (ln col x e : Int) (w : World) (h : Halves S rs t) (hs : S.size ≤ 1048576) (hc1 : col ≤ 9223372036854775807) (hp : FindIs rs t ln col x e) :
    Calls Tryd.prog 68 #[.string S, .int .i64 ln, .int .i64 col] w fun e' w' => e' = .returned (.tuple #[.int .i64 x, .int .i64 e]) ∧ Below w.heap.size w w' := by
  cases hp with
  | fault f ht hf => exact RefFind_fault S rs t ln col _ w h hs ht hf
  | out ht h1 => subst ht; exact RefFind_out S rs ln col w h hs (by omega)
  | neg l ht hl h1 hc => subst ht; exact RefFind_out S rs ln col w h hs (by omega)
  | ok l k p d r ht hl h1 hc hL hr => subst ht hl hc; exact RefFind_in S rs l k w h hs p d r (by omega) hL hr

set_option maxRecDepth 100000 in
set_option maxHeartbeats 4000000 in
theorem RefStep_fault (S : ByteArray) (rs : List Int) (t : List UInt8) (a : Int) (how : Int) (f : Int) (w : World) (h : Halves S rs t) (hs : S.size ≤ 1048576) (ht : t ≠ []) (hf : (fault t : Int) = f) :
    Calls Tryd.prog 70 #[.string S, .int .i64 a, .int .i64 how] w fun e' w' => e' = .returned (.tuple #[.int .i64 0, .int .i64 f]) ∧ Below w.heap.size w w' := by
  have H := Lib.hid h
  have HS := Lib.hid (show S.size ≤ 4398046511104 by omega)
  have b := fault_ne hf
  have HF := Lib.hid hf
  have HT := Lib.hid ht
  clear hf ht h hs
  go_enter Tryd.func70, Tryd.ntmps70
  go_wp2_with fail
  refine (Runes_any S rs t _ H.out HS.out).mono ?_
  rintro e w1 ⟨hp, hb1⟩
  have HB := Lib.hid hb1
  clear hb1
  rcases hp with ⟨ht2, _⟩ | ⟨_, rfl⟩
  · exact absurd ht2 HT.out
  rw [HF.out]
  go_wp2_with fail
  go_ret2
  exact ⟨rfl, HB.out⟩

set_option maxRecDepth 100000 in
set_option maxHeartbeats 4000000 in
theorem RefStep_out (S : ByteArray) (rs : List Int) (a : Int) (how : Int) (w : World) (h : Halves S rs []) (hs : S.size ≤ 1048576) (ha : a < 0 ∨ rs.length < a) :
    Calls Tryd.prog 70 #[.string S, .int .i64 a, .int .i64 how] w fun e' w' => e' = .returned (.tuple #[.int .i64 0, .int .i64 12]) ∧ Below w.heap.size w w' := by
  have H := Lib.hid h
  have HS := Lib.hid (show S.size ≤ 4398046511104 by omega)
  have hlen := (len_bound h hs).1
  clear h hs
  by_cases hneg : a < 0
  · clear ha
    go_enter Tryd.func70, Tryd.ntmps70
    go_wp2_with fail
    refine (Runes_any S rs [] _ H.out HS.out).mono ?_
    rintro e w1 ⟨hp, hb1⟩
    have HB := Lib.hid hb1
    clear hb1
    rcases hp with ⟨_, v, rfl, hown⟩ | ⟨ht2, _⟩
    case inr => exact absurd rfl ht2
    obtain ⟨A, c, rfl, hcap, hcell⟩ := own_ints hown
    have HCE := Lib.hid hcell
    have HCAP := Lib.hid hcap
    clear hown hcap hcell
    go_wp2_with fail
    go_ret2
    exact ⟨rfl, HB.out⟩
  · have hbig : (rs.length : Int) < a := by omega
    clear ha
    go_enter Tryd.func70, Tryd.ntmps70
    go_wp2_with fail
    refine (Runes_any S rs [] _ H.out HS.out).mono ?_
    rintro e w1 ⟨hp, hb1⟩
    have HB := Lib.hid hb1
    clear hb1
    rcases hp with ⟨_, v, rfl, hown⟩ | ⟨ht2, _⟩
    case inr => exact absurd rfl ht2
    obtain ⟨A, c, rfl, hcap, hcell⟩ := own_ints hown
    have HCE := Lib.hid hcell
    have HCAP := Lib.hid hcap
    clear hown hcap hcell
    go_wp2_with fail
    go_ret2
    exact ⟨rfl, HB.out⟩

set_option maxRecDepth 100000 in
set_option maxHeartbeats 4000000 in
theorem RefStep_bad (S : ByteArray) (rs : List Int) (k : Nat) (how : Int) (w : World) (h : Halves S rs []) (hs : S.size ≤ 1048576) (hk : k ≤ rs.length) (hh : how < 1 ∨ 10 < how) :
    Calls Tryd.prog 70 #[.string S, .int .i64 k, .int .i64 how] w fun e' w' => e' = .returned (.tuple #[.int .i64 0, .int .i64 16]) ∧ Below w.heap.size w w' := by
  have H := Lib.hid h
  have HS := Lib.hid (show S.size ≤ 4398046511104 by omega)
  have hlen := (len_bound h hs).1
  clear h hs
  have HK := Lib.hid hk
  have hneg : ¬ (k : Int) < 0 := by omega
  have hbig : ¬ rs.length < k := by omega
  obtain ⟨q, hq⟩ : ∃ q : Int, (k : Int) - homeP rs k = q := ⟨_, rfl⟩
  have hq0 : 0 ≤ q := by have := homeP_le rs k; omega
  have hq1 : q ≤ k := by omega
  have HQ := Lib.hid hq
  obtain ⟨ln, hln⟩ : ∃ ln, nl rs k = ln := ⟨_, rfl⟩
  have HLN := Lib.hid hln
  have hlnk : ln ≤ k := by have := nl_le rs k; omega
  have b1 : (how == 1) = false := by simp; omega
  have b2 : (how == 2) = false := by simp; omega
  have b3 : (how == 3) = false := by simp; omega
  have b4 : (how == 4) = false := by simp; omega
  have b5 : (how == 5) = false := by simp; omega
  have b6 : (how == 6) = false := by simp; omega
  have b7 : (how == 7) = false := by simp; omega
  have b8 : (how == 8) = false := by simp; omega
  have b9 : (how == 9) = false := by simp; omega
  have b10 : (how == 10) = false := by simp; omega
  clear hh
  clear hq hk hln
  go_enter Tryd.func70, Tryd.ntmps70
  go_wp2_with fail
  refine (Runes_any S rs [] _ H.out HS.out).mono ?_
  rintro e w1 ⟨hp, hb1⟩
  have HB := Lib.hid hb1
  clear hb1
  rcases hp with ⟨_, v, rfl, hown⟩ | ⟨ht2, _⟩
  case inr => exact absurd rfl ht2
  obtain ⟨A, c, rfl, hcap, hcell⟩ := own_ints hown
  have HCE := Lib.hid hcell
  have HCAP := Lib.hid hcap
  clear hown hcap hcell
  go_wp2_with fail
  refine (refwhere_any A c k rs q _ HCE.out hlen HK.out HQ.out).mono ?_
  rintro e' w2 ⟨rfl, rfl⟩
  rw [HLN.out]
  go_wp2_with fail
  go_ret2
  exact ⟨rfl, HB.out⟩

set_option maxRecDepth 100000 in
set_option maxHeartbeats 4000000 in
theorem RefStep_1a (S : ByteArray) (rs : List Int) (k : Nat) (w : World) (h : Halves S rs []) (hs : S.size ≤ 1048576) (hk : k ≤ rs.length) (h0 : k = 0) :
    Calls Tryd.prog 70 #[.string S, .int .i64 k, .int .i64 1] w fun e' w' => e' = .returned (.tuple #[.int .i64 0, .int .i64 0]) ∧ Below w.heap.size w w' := by
  have H := Lib.hid h
  have HS := Lib.hid (show S.size ≤ 4398046511104 by omega)
  have hlen := (len_bound h hs).1
  clear h hs
  have HK := Lib.hid hk
  have hneg : ¬ (k : Int) < 0 := by omega
  have hbig : ¬ rs.length < k := by omega
  obtain ⟨q, hq⟩ : ∃ q : Int, (k : Int) - homeP rs k = q := ⟨_, rfl⟩
  have hq0 : 0 ≤ q := by have := homeP_le rs k; omega
  have hq1 : q ≤ k := by omega
  have HQ := Lib.hid hq
  obtain ⟨ln, hln⟩ : ∃ ln, nl rs k = ln := ⟨_, rfl⟩
  have HLN := Lib.hid hln
  have hlnk : ln ≤ k := by have := nl_le rs k; omega
  have g1 : (k : Int) - 1 < 0 := by omega
  have g2 : (k : Int) < 1 := by omega
  have g3 : k < 1 := by omega
  clear h0
  clear hq hk hln
  go_enter Tryd.func70, Tryd.ntmps70
  go_wp2_with fail
  refine (Runes_any S rs [] _ H.out HS.out).mono ?_
  rintro e w1 ⟨hp, hb1⟩
  have HB := Lib.hid hb1
  clear hb1
  rcases hp with ⟨_, v, rfl, hown⟩ | ⟨ht2, _⟩
  case inr => exact absurd rfl ht2
  obtain ⟨A, c, rfl, hcap, hcell⟩ := own_ints hown
  have HCE := Lib.hid hcell
  have HCAP := Lib.hid hcap
  clear hown hcap hcell
  go_wp2_with fail
  refine (refwhere_any A c k rs q _ HCE.out hlen HK.out HQ.out).mono ?_
  rintro e' w2 ⟨rfl, rfl⟩
  rw [HLN.out]
  go_wp2_with fail
  go_ret2
  exact ⟨rfl, HB.out⟩

set_option maxRecDepth 100000 in
set_option maxHeartbeats 4000000 in
theorem RefStep_1b (S : ByteArray) (rs : List Int) (k : Nat) (w : World) (h : Halves S rs []) (hs : S.size ≤ 1048576) (hk : k ≤ rs.length) (m : Nat) (h0 : k = m + 1) :
    Calls Tryd.prog 70 #[.string S, .int .i64 k, .int .i64 1] w fun e' w' => e' = .returned (.tuple #[.int .i64 m, .int .i64 0]) ∧ Below w.heap.size w w' := by
  have H := Lib.hid h
  have HS := Lib.hid (show S.size ≤ 4398046511104 by omega)
  have hlen := (len_bound h hs).1
  clear h hs
  have HK := Lib.hid hk
  have hneg : ¬ (k : Int) < 0 := by omega
  have hbig : ¬ rs.length < k := by omega
  obtain ⟨q, hq⟩ : ∃ q : Int, (k : Int) - homeP rs k = q := ⟨_, rfl⟩
  have hq0 : 0 ≤ q := by have := homeP_le rs k; omega
  have hq1 : q ≤ k := by omega
  have HQ := Lib.hid hq
  obtain ⟨ln, hln⟩ : ∃ ln, nl rs k = ln := ⟨_, rfl⟩
  have HLN := Lib.hid hln
  have hlnk : ln ≤ k := by have := nl_le rs k; omega
  have g1 : ¬ (k : Int) - 1 < 0 := by omega
  have g2 : ¬ (k : Int) < 1 := by omega
  have g3 : ¬ rs.length < (k : Int) - 1 := by omega
  have HM := Lib.hid (show (k : Int) - 1 = m by omega)
  clear h0
  clear hq hk hln
  go_enter Tryd.func70, Tryd.ntmps70
  go_wp2_with fail
  refine (Runes_any S rs [] _ H.out HS.out).mono ?_
  rintro e w1 ⟨hp, hb1⟩
  have HB := Lib.hid hb1
  clear hb1
  rcases hp with ⟨_, v, rfl, hown⟩ | ⟨ht2, _⟩
  case inr => exact absurd rfl ht2
  obtain ⟨A, c, rfl, hcap, hcell⟩ := own_ints hown
  have HCE := Lib.hid hcell
  have HCAP := Lib.hid hcap
  clear hown hcap hcell
  go_wp2_with fail
  refine (refwhere_any A c k rs q _ HCE.out hlen HK.out HQ.out).mono ?_
  rintro e' w2 ⟨rfl, rfl⟩
  rw [HLN.out]
  go_wp2_with fail
  go_ret2
  exact ⟨ret_ii HM.out rfl, HB.out⟩

set_option maxRecDepth 100000 in
set_option maxHeartbeats 4000000 in
theorem RefStep_2a (S : ByteArray) (rs : List Int) (k : Nat) (w : World) (h : Halves S rs []) (hs : S.size ≤ 1048576) (hk : k ≤ rs.length) (h0 : k = rs.length) :
    Calls Tryd.prog 70 #[.string S, .int .i64 k, .int .i64 2] w fun e' w' => e' = .returned (.tuple #[.int .i64 k, .int .i64 0]) ∧ Below w.heap.size w w' := by
  have H := Lib.hid h
  have HS := Lib.hid (show S.size ≤ 4398046511104 by omega)
  have hlen := (len_bound h hs).1
  clear h hs
  have HK := Lib.hid hk
  have hneg : ¬ (k : Int) < 0 := by omega
  have hbig : ¬ rs.length < k := by omega
  obtain ⟨q, hq⟩ : ∃ q : Int, (k : Int) - homeP rs k = q := ⟨_, rfl⟩
  have hq0 : 0 ≤ q := by have := homeP_le rs k; omega
  have hq1 : q ≤ k := by omega
  have HQ := Lib.hid hq
  obtain ⟨ln, hln⟩ : ∃ ln, nl rs k = ln := ⟨_, rfl⟩
  have HLN := Lib.hid hln
  have hlnk : ln ≤ k := by have := nl_le rs k; omega
  have g1 : ¬ (k : Int) + 1 < 0 := by omega
  have g3 : (rs.length : Int) < (k : Int) + 1 := by omega
  have g4 : rs.length < k + 1 := by omega
  have HM := Lib.hid (show (rs.length : Int) = k by omega)
  clear h0
  clear hq hk hln
  go_enter Tryd.func70, Tryd.ntmps70
  go_wp2_with fail
  refine (Runes_any S rs [] _ H.out HS.out).mono ?_
  rintro e w1 ⟨hp, hb1⟩
  have HB := Lib.hid hb1
  clear hb1
  rcases hp with ⟨_, v, rfl, hown⟩ | ⟨ht2, _⟩
  case inr => exact absurd rfl ht2
  obtain ⟨A, c, rfl, hcap, hcell⟩ := own_ints hown
  have HCE := Lib.hid hcell
  have HCAP := Lib.hid hcap
  clear hown hcap hcell
  go_wp2_with fail
  refine (refwhere_any A c k rs q _ HCE.out hlen HK.out HQ.out).mono ?_
  rintro e' w2 ⟨rfl, rfl⟩
  rw [HLN.out]
  go_wp2_with fail
  go_ret2
  exact ⟨ret_ii HM.out rfl, HB.out⟩

set_option maxRecDepth 100000 in
set_option maxHeartbeats 4000000 in
theorem RefStep_2b (S : ByteArray) (rs : List Int) (k : Nat) (w : World) (h : Halves S rs []) (hs : S.size ≤ 1048576) (hk : k ≤ rs.length) (h0 : k < rs.length) :
    Calls Tryd.prog 70 #[.string S, .int .i64 k, .int .i64 2] w fun e' w' => e' = .returned (.tuple #[.int .i64 (k + 1 : Nat), .int .i64 0]) ∧ Below w.heap.size w w' := by
  have H := Lib.hid h
  have HS := Lib.hid (show S.size ≤ 4398046511104 by omega)
  have hlen := (len_bound h hs).1
  clear h hs
  have HK := Lib.hid hk
  have hneg : ¬ (k : Int) < 0 := by omega
  have hbig : ¬ rs.length < k := by omega
  obtain ⟨q, hq⟩ : ∃ q : Int, (k : Int) - homeP rs k = q := ⟨_, rfl⟩
  have hq0 : 0 ≤ q := by have := homeP_le rs k; omega
  have hq1 : q ≤ k := by omega
  have HQ := Lib.hid hq
  obtain ⟨ln, hln⟩ : ∃ ln, nl rs k = ln := ⟨_, rfl⟩
  have HLN := Lib.hid hln
  have hlnk : ln ≤ k := by have := nl_le rs k; omega
  have g1 : ¬ (k : Int) + 1 < 0 := by omega
  have g3 : ¬ (rs.length : Int) < (k : Int) + 1 := by omega
  have g4 : ¬ rs.length < k + 1 := by omega
  clear h0
  clear hq hk hln
  go_enter Tryd.func70, Tryd.ntmps70
  go_wp2_with fail
  refine (Runes_any S rs [] _ H.out HS.out).mono ?_
  rintro e w1 ⟨hp, hb1⟩
  have HB := Lib.hid hb1
  clear hb1
  rcases hp with ⟨_, v, rfl, hown⟩ | ⟨ht2, _⟩
  case inr => exact absurd rfl ht2
  obtain ⟨A, c, rfl, hcap, hcell⟩ := own_ints hown
  have HCE := Lib.hid hcell
  have HCAP := Lib.hid hcap
  clear hown hcap hcell
  go_wp2_with fail
  refine (refwhere_any A c k rs q _ HCE.out hlen HK.out HQ.out).mono ?_
  rintro e' w2 ⟨rfl, rfl⟩
  rw [HLN.out]
  go_wp2_with fail
  go_ret2
  exact ⟨by first | rfl | go_num | (simp; done), HB.out⟩

set_option maxRecDepth 100000 in
set_option maxHeartbeats 4000000 in
theorem RefStep_3 (S : ByteArray) (rs : List Int) (k : Nat) (w : World) (h : Halves S rs []) (hs : S.size ≤ 1048576) (hk : k ≤ rs.length) (p d : Nat) (hL : LineIs rs (nl rs k) p d) :
    Calls Tryd.prog 70 #[.string S, .int .i64 k, .int .i64 3] w fun e' w' => e' = .returned (.tuple #[.int .i64 p, .int .i64 0]) ∧ Below w.heap.size w w' := by
  have H := Lib.hid h
  have HS := Lib.hid (show S.size ≤ 4398046511104 by omega)
  have hlen := (len_bound h hs).1
  clear h hs
  have HK := Lib.hid hk
  have hneg : ¬ (k : Int) < 0 := by omega
  have hbig : ¬ rs.length < k := by omega
  obtain ⟨q, hq⟩ : ∃ q : Int, (k : Int) - homeP rs k = q := ⟨_, rfl⟩
  have hq0 : 0 ≤ q := by have := homeP_le rs k; omega
  have hq1 : q ≤ k := by omega
  have HQ := Lib.hid hq
  obtain ⟨ln, hln⟩ : ∃ ln, nl rs k = ln := ⟨_, rfl⟩
  have HLN := Lib.hid hln
  have hlnk : ln ≤ k := by have := nl_le rs k; omega
  have HL := Lib.hid hL
  have hr0 : ¬ (p : Int) < 0 := by omega
  have hr1 : ¬ rs.length < p := by have := hL.le; omega
  clear hL
  clear hq hk hln
  go_enter Tryd.func70, Tryd.ntmps70
  go_wp2_with fail
  refine (Runes_any S rs [] _ H.out HS.out).mono ?_
  rintro e w1 ⟨hp, hb1⟩
  have HB := Lib.hid hb1
  clear hb1
  rcases hp with ⟨_, v, rfl, hown⟩ | ⟨ht2, _⟩
  case inr => exact absurd rfl ht2
  obtain ⟨A, c, rfl, hcap, hcell⟩ := own_ints hown
  have HCE := Lib.hid hcell
  have HCAP := Lib.hid hcap
  clear hown hcap hcell
  go_wp2_with fail
  refine (refwhere_any A c k rs q _ HCE.out hlen HK.out HQ.out).mono ?_
  rintro e' w2 ⟨rfl, rfl⟩
  rw [HLN.out]
  go_wp2_with fail
  refine (reffind_to A c _ _ rs _ (nl rs k) p d p HCE.out hlen HL.out (by rw [HLN.out]) (by omega) (by omega) (by simp)).mono ?_
  rintro e' w3 ⟨rfl, rfl⟩
  go_wp2_with fail
  go_ret2
  exact ⟨rfl, HB.out⟩

set_option maxRecDepth 100000 in
set_option maxHeartbeats 4000000 in
theorem RefStep_4 (S : ByteArray) (rs : List Int) (k : Nat) (w : World) (h : Halves S rs []) (hs : S.size ≤ 1048576) (hk : k ≤ rs.length) (p d r : Nat) (hL : LineIs rs (nl rs k) p d) (hr : p + d = r) :
    Calls Tryd.prog 70 #[.string S, .int .i64 k, .int .i64 4] w fun e' w' => e' = .returned (.tuple #[.int .i64 r, .int .i64 0]) ∧ Below w.heap.size w w' := by
  have H := Lib.hid h
  have HS := Lib.hid (show S.size ≤ 4398046511104 by omega)
  have hlen := (len_bound h hs).1
  clear h hs
  have HK := Lib.hid hk
  have hneg : ¬ (k : Int) < 0 := by omega
  have hbig : ¬ rs.length < k := by omega
  obtain ⟨q, hq⟩ : ∃ q : Int, (k : Int) - homeP rs k = q := ⟨_, rfl⟩
  have hq0 : 0 ≤ q := by have := homeP_le rs k; omega
  have hq1 : q ≤ k := by omega
  have HQ := Lib.hid hq
  obtain ⟨ln, hln⟩ : ∃ ln, nl rs k = ln := ⟨_, rfl⟩
  have HLN := Lib.hid hln
  have hlnk : ln ≤ k := by have := nl_le rs k; omega
  have HL := Lib.hid hL
  have HR := Lib.hid hr
  have hr0 : ¬ (r : Int) < 0 := by omega
  have hr1 : ¬ rs.length < r := by have := hL.le; omega
  clear hL hr
  have hd : d ≤ rs.length := by have := HL.out.le; omega
  clear hq hk hln
  go_enter Tryd.func70, Tryd.ntmps70
  go_wp2_with fail
  refine (Runes_any S rs [] _ H.out HS.out).mono ?_
  rintro e w1 ⟨hp, hb1⟩
  have HB := Lib.hid hb1
  clear hb1
  rcases hp with ⟨_, v, rfl, hown⟩ | ⟨ht2, _⟩
  case inr => exact absurd rfl ht2
  obtain ⟨A, c, rfl, hcap, hcell⟩ := own_ints hown
  have HCE := Lib.hid hcell
  have HCAP := Lib.hid hcap
  clear hown hcap hcell
  go_wp2_with fail
  refine (refwhere_any A c k rs q _ HCE.out hlen HK.out HQ.out).mono ?_
  rintro e' w2 ⟨rfl, rfl⟩
  rw [HLN.out]
  go_wp2_with fail
  refine (reffind_to A c _ _ rs _ (nl rs k) p d r HCE.out hlen HL.out (by rw [HLN.out]) (by omega) (by omega) (by have := HR.out; rw [Int.toNat_natCast]; omega)).mono ?_
  rintro e' w3 ⟨rfl, rfl⟩
  go_wp2_with fail
  go_ret2
  exact ⟨rfl, HB.out⟩

set_option maxRecDepth 100000 in
set_option maxHeartbeats 4000000 in
theorem RefStep_5a (S : ByteArray) (rs : List Int) (k : Nat) (w : World) (h : Halves S rs []) (hs : S.size ≤ 1048576) (hk : k ≤ rs.length) (h0 : nl rs k = 0) :
    Calls Tryd.prog 70 #[.string S, .int .i64 k, .int .i64 5] w fun e' w' => e' = .returned (.tuple #[.int .i64 0, .int .i64 0]) ∧ Below w.heap.size w w' := by
  have H := Lib.hid h
  have HS := Lib.hid (show S.size ≤ 4398046511104 by omega)
  have hlen := (len_bound h hs).1
  clear h hs
  have HK := Lib.hid hk
  have hneg : ¬ (k : Int) < 0 := by omega
  have hbig : ¬ rs.length < k := by omega
  obtain ⟨q, hq⟩ : ∃ q : Int, (k : Int) - homeP rs k = q := ⟨_, rfl⟩
  have hq0 : 0 ≤ q := by have := homeP_le rs k; omega
  have hq1 : q ≤ k := by omega
  have HQ := Lib.hid hq
  obtain ⟨ln, hln⟩ : ∃ ln, nl rs k = ln := ⟨_, rfl⟩
  have HLN := Lib.hid hln
  have hlnk : ln ≤ k := by have := nl_le rs k; omega
  have hl0 : ln = 0 := by omega
  have HL0 := Lib.hid hl0
  clear h0 hl0
  clear hq hk hln
  go_enter Tryd.func70, Tryd.ntmps70
  go_wp2_with fail
  refine (Runes_any S rs [] _ H.out HS.out).mono ?_
  rintro e w1 ⟨hp, hb1⟩
  have HB := Lib.hid hb1
  clear hb1
  rcases hp with ⟨_, v, rfl, hown⟩ | ⟨ht2, _⟩
  case inr => exact absurd rfl ht2
  obtain ⟨A, c, rfl, hcap, hcell⟩ := own_ints hown
  have HCE := Lib.hid hcell
  have HCAP := Lib.hid hcap
  clear hown hcap hcell
  go_wp2_with fail
  refine (refwhere_any A c k rs q _ HCE.out hlen HK.out HQ.out).mono ?_
  rintro e' w2 ⟨rfl, rfl⟩
  rw [HLN.out]
  go_wp2_with fail
  refine (reffind_out A c _ _ rs _ HCE.out hlen (.inl (by have := HL0.out; omega))).mono ?_
  rintro e' w3 ⟨rfl, rfl⟩
  go_wp2_with fail
  go_ret2
  exact ⟨rfl, HB.out⟩

set_option maxRecDepth 100000 in
set_option maxHeartbeats 4000000 in
theorem RefStep_5b (S : ByteArray) (rs : List Int) (k : Nat) (w : World) (h : Halves S rs []) (hs : S.size ≤ 1048576) (hk : k ≤ rs.length) (m p d qn r : Nat) (h0 : nl rs k = m + 1) (hL : LineIs rs m p d) (hqn : (k : Int) - homeP rs k = qn) (hr : p + min qn d = r) :
    Calls Tryd.prog 70 #[.string S, .int .i64 k, .int .i64 5] w fun e' w' => e' = .returned (.tuple #[.int .i64 r, .int .i64 0]) ∧ Below w.heap.size w w' := by
  have H := Lib.hid h
  have HS := Lib.hid (show S.size ≤ 4398046511104 by omega)
  have hlen := (len_bound h hs).1
  clear h hs
  have HK := Lib.hid hk
  have hneg : ¬ (k : Int) < 0 := by omega
  have hbig : ¬ rs.length < k := by omega
  obtain ⟨q, hq⟩ : ∃ q : Int, (k : Int) - homeP rs k = q := ⟨_, rfl⟩
  have hq0 : 0 ≤ q := by have := homeP_le rs k; omega
  have hq1 : q ≤ k := by omega
  have HQ := Lib.hid hq
  obtain ⟨ln, hln⟩ : ∃ ln, nl rs k = ln := ⟨_, rfl⟩
  have HLN := Lib.hid hln
  have hlnk : ln ≤ k := by have := nl_le rs k; omega
  have HL := Lib.hid hL
  have HR := Lib.hid hr
  have hr0 : ¬ (r : Int) < 0 := by omega
  have hr1 : ¬ rs.length < r := by have := hL.le; omega
  clear hL hr
  have HL0 := Lib.hid (show ln = m + 1 by omega)
  have HQN := Lib.hid (show q.toNat = qn by omega)
  clear h0 hqn
  clear hq hk hln
  go_enter Tryd.func70, Tryd.ntmps70
  go_wp2_with fail
  refine (Runes_any S rs [] _ H.out HS.out).mono ?_
  rintro e w1 ⟨hp, hb1⟩
  have HB := Lib.hid hb1
  clear hb1
  rcases hp with ⟨_, v, rfl, hown⟩ | ⟨ht2, _⟩
  case inr => exact absurd rfl ht2
  obtain ⟨A, c, rfl, hcap, hcell⟩ := own_ints hown
  have HCE := Lib.hid hcell
  have HCAP := Lib.hid hcap
  clear hown hcap hcell
  go_wp2_with fail
  refine (refwhere_any A c k rs q _ HCE.out hlen HK.out HQ.out).mono ?_
  rintro e' w2 ⟨rfl, rfl⟩
  rw [HLN.out]
  go_wp2_with fail
  refine (reffind_to A c _ _ rs _ m p d r HCE.out hlen HL.out (by have := HL0.out; omega) (by omega) (by omega) (by rw [HQN.out]; exact HR.out)).mono ?_
  rintro e' w3 ⟨rfl, rfl⟩
  go_wp2_with fail
  go_ret2
  exact ⟨rfl, HB.out⟩

set_option maxRecDepth 100000 in
set_option maxHeartbeats 4000000 in
theorem RefStep_6a (S : ByteArray) (rs : List Int) (k : Nat) (w : World) (h : Halves S rs []) (hs : S.size ≤ 1048576) (hk : k ≤ rs.length) (h0 : nl rs k = nl rs rs.length) :
    Calls Tryd.prog 70 #[.string S, .int .i64 k, .int .i64 6] w fun e' w' => e' = .returned (.tuple #[.int .i64 rs.length, .int .i64 0]) ∧ Below w.heap.size w w' := by
  have H := Lib.hid h
  have HS := Lib.hid (show S.size ≤ 4398046511104 by omega)
  have hlen := (len_bound h hs).1
  clear h hs
  have HK := Lib.hid hk
  have hneg : ¬ (k : Int) < 0 := by omega
  have hbig : ¬ rs.length < k := by omega
  obtain ⟨q, hq⟩ : ∃ q : Int, (k : Int) - homeP rs k = q := ⟨_, rfl⟩
  have hq0 : 0 ≤ q := by have := homeP_le rs k; omega
  have hq1 : q ≤ k := by omega
  have HQ := Lib.hid hq
  obtain ⟨ln, hln⟩ : ∃ ln, nl rs k = ln := ⟨_, rfl⟩
  have HLN := Lib.hid hln
  have hlnk : ln ≤ k := by have := nl_le rs k; omega
  have HL0 := Lib.hid (show ln = nl rs rs.length by omega)
  clear h0
  clear hq hk hln
  go_enter Tryd.func70, Tryd.ntmps70
  go_wp2_with fail
  refine (Runes_any S rs [] _ H.out HS.out).mono ?_
  rintro e w1 ⟨hp, hb1⟩
  have HB := Lib.hid hb1
  clear hb1
  rcases hp with ⟨_, v, rfl, hown⟩ | ⟨ht2, _⟩
  case inr => exact absurd rfl ht2
  obtain ⟨A, c, rfl, hcap, hcell⟩ := own_ints hown
  have HCE := Lib.hid hcell
  have HCAP := Lib.hid hcap
  clear hown hcap hcell
  go_wp2_with fail
  refine (refwhere_any A c k rs q _ HCE.out hlen HK.out HQ.out).mono ?_
  rintro e' w2 ⟨rfl, rfl⟩
  rw [HLN.out]
  go_wp2_with fail
  refine (reffind_out A c _ _ rs _ HCE.out hlen (.inr (by have := HL0.out; omega))).mono ?_
  rintro e' w3 ⟨rfl, rfl⟩
  go_wp2_with fail
  go_ret2
  exact ⟨rfl, HB.out⟩

set_option maxRecDepth 100000 in
set_option maxHeartbeats 4000000 in
theorem RefStep_6b (S : ByteArray) (rs : List Int) (k : Nat) (w : World) (h : Halves S rs []) (hs : S.size ≤ 1048576) (hk : k ≤ rs.length) (m p d qn r : Nat) (h0 : nl rs k = m) (hL : LineIs rs (m + 1) p d) (hqn : (k : Int) - homeP rs k = qn) (hr : p + min qn d = r) :
    Calls Tryd.prog 70 #[.string S, .int .i64 k, .int .i64 6] w fun e' w' => e' = .returned (.tuple #[.int .i64 r, .int .i64 0]) ∧ Below w.heap.size w w' := by
  have H := Lib.hid h
  have HS := Lib.hid (show S.size ≤ 4398046511104 by omega)
  have hlen := (len_bound h hs).1
  clear h hs
  have HK := Lib.hid hk
  have hneg : ¬ (k : Int) < 0 := by omega
  have hbig : ¬ rs.length < k := by omega
  obtain ⟨q, hq⟩ : ∃ q : Int, (k : Int) - homeP rs k = q := ⟨_, rfl⟩
  have hq0 : 0 ≤ q := by have := homeP_le rs k; omega
  have hq1 : q ≤ k := by omega
  have HQ := Lib.hid hq
  obtain ⟨ln, hln⟩ : ∃ ln, nl rs k = ln := ⟨_, rfl⟩
  have HLN := Lib.hid hln
  have hlnk : ln ≤ k := by have := nl_le rs k; omega
  have HL := Lib.hid hL
  have HR := Lib.hid hr
  have hr0 : ¬ (r : Int) < 0 := by omega
  have hr1 : ¬ rs.length < r := by have := hL.le; omega
  clear hL hr
  have HL0 := Lib.hid (show ln = m by omega)
  have HQN := Lib.hid (show q.toNat = qn by omega)
  clear h0 hqn
  clear hq hk hln
  go_enter Tryd.func70, Tryd.ntmps70
  go_wp2_with fail
  refine (Runes_any S rs [] _ H.out HS.out).mono ?_
  rintro e w1 ⟨hp, hb1⟩
  have HB := Lib.hid hb1
  clear hb1
  rcases hp with ⟨_, v, rfl, hown⟩ | ⟨ht2, _⟩
  case inr => exact absurd rfl ht2
  obtain ⟨A, c, rfl, hcap, hcell⟩ := own_ints hown
  have HCE := Lib.hid hcell
  have HCAP := Lib.hid hcap
  clear hown hcap hcell
  go_wp2_with fail
  refine (refwhere_any A c k rs q _ HCE.out hlen HK.out HQ.out).mono ?_
  rintro e' w2 ⟨rfl, rfl⟩
  rw [HLN.out]
  go_wp2_with fail
  refine (reffind_to A c _ _ rs _ (m + 1) p d r HCE.out hlen HL.out (by have := HL0.out; omega) (by omega) (by omega) (by rw [HQN.out]; exact HR.out)).mono ?_
  rintro e' w3 ⟨rfl, rfl⟩
  go_wp2_with fail
  go_ret2
  exact ⟨rfl, HB.out⟩

set_option maxRecDepth 100000 in
set_option maxHeartbeats 4000000 in
theorem RefStep_7 (S : ByteArray) (rs : List Int) (k : Nat) (w : World) (h : Halves S rs []) (hs : S.size ≤ 1048576) (hk : k ≤ rs.length) (r : Nat) (hr : wordL rs k = r) :
    Calls Tryd.prog 70 #[.string S, .int .i64 k, .int .i64 7] w fun e' w' => e' = .returned (.tuple #[.int .i64 r, .int .i64 0]) ∧ Below w.heap.size w w' := by
  have H := Lib.hid h
  have HS := Lib.hid (show S.size ≤ 4398046511104 by omega)
  have hlen := (len_bound h hs).1
  clear h hs
  have HK := Lib.hid hk
  have hneg : ¬ (k : Int) < 0 := by omega
  have hbig : ¬ rs.length < k := by omega
  obtain ⟨q, hq⟩ : ∃ q : Int, (k : Int) - homeP rs k = q := ⟨_, rfl⟩
  have hq0 : 0 ≤ q := by have := homeP_le rs k; omega
  have hq1 : q ≤ k := by omega
  have HQ := Lib.hid hq
  obtain ⟨ln, hln⟩ : ∃ ln, nl rs k = ln := ⟨_, rfl⟩
  have HLN := Lib.hid hln
  have hlnk : ln ≤ k := by have := nl_le rs k; omega
  have hr0 : ¬ (r : Int) < 0 := by omega
  have hr1 : ¬ rs.length < r := by have := (wordL_spec rs k).1; omega
  have HR := Lib.hid hr
  clear hr
  clear hq hk hln
  go_enter Tryd.func70, Tryd.ntmps70
  go_wp2_with fail
  refine (Runes_any S rs [] _ H.out HS.out).mono ?_
  rintro e w1 ⟨hp, hb1⟩
  have HB := Lib.hid hb1
  clear hb1
  rcases hp with ⟨_, v, rfl, hown⟩ | ⟨ht2, _⟩
  case inr => exact absurd rfl ht2
  obtain ⟨A, c, rfl, hcap, hcell⟩ := own_ints hown
  have HCE := Lib.hid hcell
  have HCAP := Lib.hid hcap
  clear hown hcap hcell
  go_wp2_with fail
  refine (refwhere_any A c k rs q _ HCE.out hlen HK.out HQ.out).mono ?_
  rintro e' w2 ⟨rfl, rfl⟩
  rw [HLN.out]
  go_wp2_with fail
  refine (refword_back A c k rs _ HCE.out hlen HK.out).mono ?_
  rintro e' w3 ⟨rfl, rfl⟩
  rw [HR.out]
  go_wp2_with fail
  go_ret2
  exact ⟨rfl, HB.out⟩

set_option maxRecDepth 100000 in
set_option maxHeartbeats 4000000 in
theorem RefStep_8 (S : ByteArray) (rs : List Int) (k : Nat) (w : World) (h : Halves S rs []) (hs : S.size ≤ 1048576) (hk : k ≤ rs.length) (r : Nat) (hr : wordR rs k = r) :
    Calls Tryd.prog 70 #[.string S, .int .i64 k, .int .i64 8] w fun e' w' => e' = .returned (.tuple #[.int .i64 r, .int .i64 0]) ∧ Below w.heap.size w w' := by
  have H := Lib.hid h
  have HS := Lib.hid (show S.size ≤ 4398046511104 by omega)
  have hlen := (len_bound h hs).1
  clear h hs
  have HK := Lib.hid hk
  have hneg : ¬ (k : Int) < 0 := by omega
  have hbig : ¬ rs.length < k := by omega
  obtain ⟨q, hq⟩ : ∃ q : Int, (k : Int) - homeP rs k = q := ⟨_, rfl⟩
  have hq0 : 0 ≤ q := by have := homeP_le rs k; omega
  have hq1 : q ≤ k := by omega
  have HQ := Lib.hid hq
  obtain ⟨ln, hln⟩ : ∃ ln, nl rs k = ln := ⟨_, rfl⟩
  have HLN := Lib.hid hln
  have hlnk : ln ≤ k := by have := nl_le rs k; omega
  have hr0 : ¬ (r : Int) < 0 := by omega
  have hr1 : ¬ rs.length < r := by have := (wordR_spec rs k hk).2.1; omega
  have HR := Lib.hid hr
  clear hr
  clear hq hk hln
  go_enter Tryd.func70, Tryd.ntmps70
  go_wp2_with fail
  refine (Runes_any S rs [] _ H.out HS.out).mono ?_
  rintro e w1 ⟨hp, hb1⟩
  have HB := Lib.hid hb1
  clear hb1
  rcases hp with ⟨_, v, rfl, hown⟩ | ⟨ht2, _⟩
  case inr => exact absurd rfl ht2
  obtain ⟨A, c, rfl, hcap, hcell⟩ := own_ints hown
  have HCE := Lib.hid hcell
  have HCAP := Lib.hid hcap
  clear hown hcap hcell
  go_wp2_with fail
  refine (refwhere_any A c k rs q _ HCE.out hlen HK.out HQ.out).mono ?_
  rintro e' w2 ⟨rfl, rfl⟩
  rw [HLN.out]
  go_wp2_with fail
  refine (refword_fore A c k rs _ HCE.out hlen HK.out).mono ?_
  rintro e' w3 ⟨rfl, rfl⟩
  rw [HR.out]
  go_wp2_with fail
  go_ret2
  exact ⟨rfl, HB.out⟩

set_option maxRecDepth 100000 in
set_option maxHeartbeats 4000000 in
theorem RefStep_9 (S : ByteArray) (rs : List Int) (k : Nat) (w : World) (h : Halves S rs []) (hs : S.size ≤ 1048576) (hk : k ≤ rs.length) :
    Calls Tryd.prog 70 #[.string S, .int .i64 k, .int .i64 9] w fun e' w' => e' = .returned (.tuple #[.int .i64 0, .int .i64 0]) ∧ Below w.heap.size w w' := by
  have H := Lib.hid h
  have HS := Lib.hid (show S.size ≤ 4398046511104 by omega)
  have hlen := (len_bound h hs).1
  clear h hs
  have HK := Lib.hid hk
  have hneg : ¬ (k : Int) < 0 := by omega
  have hbig : ¬ rs.length < k := by omega
  obtain ⟨q, hq⟩ : ∃ q : Int, (k : Int) - homeP rs k = q := ⟨_, rfl⟩
  have hq0 : 0 ≤ q := by have := homeP_le rs k; omega
  have hq1 : q ≤ k := by omega
  have HQ := Lib.hid hq
  obtain ⟨ln, hln⟩ : ∃ ln, nl rs k = ln := ⟨_, rfl⟩
  have HLN := Lib.hid hln
  have hlnk : ln ≤ k := by have := nl_le rs k; omega
  clear hq hk hln
  go_enter Tryd.func70, Tryd.ntmps70
  go_wp2_with fail
  refine (Runes_any S rs [] _ H.out HS.out).mono ?_
  rintro e w1 ⟨hp, hb1⟩
  have HB := Lib.hid hb1
  clear hb1
  rcases hp with ⟨_, v, rfl, hown⟩ | ⟨ht2, _⟩
  case inr => exact absurd rfl ht2
  obtain ⟨A, c, rfl, hcap, hcell⟩ := own_ints hown
  have HCE := Lib.hid hcell
  have HCAP := Lib.hid hcap
  clear hown hcap hcell
  go_wp2_with fail
  refine (refwhere_any A c k rs q _ HCE.out hlen HK.out HQ.out).mono ?_
  rintro e' w2 ⟨rfl, rfl⟩
  rw [HLN.out]
  go_wp2_with fail
  go_ret2
  exact ⟨rfl, HB.out⟩

set_option maxRecDepth 100000 in
set_option maxHeartbeats 4000000 in
theorem RefStep_10 (S : ByteArray) (rs : List Int) (k : Nat) (w : World) (h : Halves S rs []) (hs : S.size ≤ 1048576) (hk : k ≤ rs.length) :
    Calls Tryd.prog 70 #[.string S, .int .i64 k, .int .i64 10] w fun e' w' => e' = .returned (.tuple #[.int .i64 rs.length, .int .i64 0]) ∧ Below w.heap.size w w' := by
  have H := Lib.hid h
  have HS := Lib.hid (show S.size ≤ 4398046511104 by omega)
  have hlen := (len_bound h hs).1
  clear h hs
  have HK := Lib.hid hk
  have hneg : ¬ (k : Int) < 0 := by omega
  have hbig : ¬ rs.length < k := by omega
  obtain ⟨q, hq⟩ : ∃ q : Int, (k : Int) - homeP rs k = q := ⟨_, rfl⟩
  have hq0 : 0 ≤ q := by have := homeP_le rs k; omega
  have hq1 : q ≤ k := by omega
  have HQ := Lib.hid hq
  obtain ⟨ln, hln⟩ : ∃ ln, nl rs k = ln := ⟨_, rfl⟩
  have HLN := Lib.hid hln
  have hlnk : ln ≤ k := by have := nl_le rs k; omega
  clear hq hk hln
  go_enter Tryd.func70, Tryd.ntmps70
  go_wp2_with fail
  refine (Runes_any S rs [] _ H.out HS.out).mono ?_
  rintro e w1 ⟨hp, hb1⟩
  have HB := Lib.hid hb1
  clear hb1
  rcases hp with ⟨_, v, rfl, hown⟩ | ⟨ht2, _⟩
  case inr => exact absurd rfl ht2
  obtain ⟨A, c, rfl, hcap, hcell⟩ := own_ints hown
  have HCE := Lib.hid hcell
  have HCAP := Lib.hid hcap
  clear hown hcap hcell
  go_wp2_with fail
  refine (refwhere_any A c k rs q _ HCE.out hlen HK.out HQ.out).mono ?_
  rintro e' w2 ⟨rfl, rfl⟩
  rw [HLN.out]
  go_wp2_with fail
  go_ret2
  exact ⟨rfl, HB.out⟩

theorem RefStep_is (S : ByteArray) (rs : List Int) (t : List UInt8) (a how x e : Int) (w : World) (h : Halves S rs t) (hs : S.size ≤ 1048576) (hp : StepIs rs t a how x e) :
    Calls Tryd.prog 70 #[.string S, .int .i64 a, .int .i64 how] w fun e' w' => e' = .returned (.tuple #[.int .i64 x, .int .i64 e]) ∧ Below w.heap.size w w' := by
  cases hp with
  | fault f ht hf => exact RefStep_fault S rs t a how _ w h hs ht hf
  | out ht ha => subst ht; exact RefStep_out S rs a how w h hs ha
  | bad k ht ha hk hh => subst ht ha; exact RefStep_bad S rs k how w h hs hk hh
  | ok k r ht ha hk hG =>
    subst ht ha
    cases hG with
    | s1a h0 => exact RefStep_1a S rs k w h hs hk h0
    | s1b m h0 => exact RefStep_1b S rs k w h hs hk _ h0
    | s2a h0 => exact RefStep_2a S rs k w h hs hk h0
    | s2b h0 => exact RefStep_2b S rs k w h hs hk h0
    | s3 p d hL hp => exact RefStep_3 S rs k w h hs hk _ d hL
    | s4 p d e hL hp he => exact RefStep_4 S rs k w h hs hk p d _ hL he
    | s5a h0 => exact RefStep_5a S rs k w h hs hk h0
    | s5b m p d q r h0 hL hq hr => exact RefStep_5b S rs k w h hs hk m p d q _ h0 hL hq hr
    | s6a h0 => exact RefStep_6a S rs k w h hs hk h0
    | s6b m p d q r h0 hm hL hq hr => exact RefStep_6b S rs k w h hs hk m p d q _ h0 hL hq hr
    | s7 r hr => exact RefStep_7 S rs k w h hs hk _ hr
    | s8 r hr => exact RefStep_8 S rs k w h hs hk _ hr
    | s9 => exact RefStep_9 S rs k w h hs hk
    | s10 => exact RefStep_10 S rs k w h hs hk
end Go.Proofs.YtfgekdefnbohbaaDoor.U

namespace Go.Proofs.YtfgekdefnbohbaaDoor.U
open Go.RowKit Go.Proofs.YtfgekdefnbohbaaDoor.Txt
set_option linter.unusedVariables false
set_option linter.unusedSimpArgs false
attribute [local go_sem] frozen?_alloc_cells

set_option maxRecDepth 100000 in
set_option maxHeartbeats 4000000 in
theorem walks_where (o : OpV) (ho : o.Small) (hk : o.kind = 9) (w : World) (hE : EnvU w) : Calls Tryd.prog 46 #[.agg #[.int .i64 o.kind, .string o.s, .string o.t, .int .i64 o.a, .int .i64 o.b]] w fun e w' => e = .returned (.bool true) ∧ Below w.heap.size w w' := by
  obtain ⟨k, S, T, a, b⟩ := o
  obtain rfl : k = 9 := hk
  simp only
  have hs : S.size ≤ 1048576 := ho.s
  have htt : T.size ≤ 1048576 := ho.t
  have ha0 : -9223372036854775808 ≤ a := ho.a0
  have ha1 : a ≤ 9223372036854775807 := ho.a1
  have hb0 : -9223372036854775808 ≤ b := ho.b0
  have hb1 : b ≤ 9223372036854775807 := ho.b1
  obtain ⟨rs, t, h⟩ := halves S
  have H := Lib.hid h
  clear h
  obtain ⟨x, y, e, hp⟩ := where_is rs t a
  have HP := Lib.hid hp
  clear hp
  have HE := Lib.hid hE
  clear hE ho
  have HB0 := Lib.hid (show Below w.heap.size w (w.alloc (.cells #[.int .i64 9, .string S, .string T, .int .i64 a, .int .i64 b] 67)) from (Below.refl _ _).alloc (Nat.le_refl _) _)
  have hz := heap_alloc_new w (.cells #[.int .i64 9, .string S, .string T, .int .i64 a, .int .i64 b] 67)
  have d1 : (w.alloc (.cells #[.int .i64 9, .string S, .string T, .int .i64 a, .int .i64 b] 67)).cell? ⟨w.heap.size, 1, none⟩ = some (.string S) := by rw [Lib.cell_of_heap hz]; rfl
  have d2 : (w.alloc (.cells #[.int .i64 9, .string S, .string T, .int .i64 a, .int .i64 b] 67)).cell? ⟨w.heap.size, 2, none⟩ = some (.string T) := by rw [Lib.cell_of_heap hz]; rfl
  have d3 : (w.alloc (.cells #[.int .i64 9, .string S, .string T, .int .i64 a, .int .i64 b] 67)).cell? ⟨w.heap.size, 3, none⟩ = some (.int .i64 a) := by rw [Lib.cell_of_heap hz]; rfl
  have d4 : (w.alloc (.cells #[.int .i64 9, .string S, .string T, .int .i64 a, .int .i64 b] 67)).cell? ⟨w.heap.size, 4, none⟩ = some (.int .i64 b) := by rw [Lib.cell_of_heap hz]; rfl
  have HD := Lib.hid (And.intro d1 (And.intro d2 (And.intro d3 d4)))
  clear hz d1 d2 d3 d4
  go_enter Tryd.func46, Tryd.ntmps46
  go_wp2_with fail
  refine (Where_is S rs t a x y e _ H.out hs ha0 ha1 HP.out (HE.out.below HB0.out).bars).mono ?_
  rintro e' w1 ⟨rfl, hw1⟩
  have HB1 := Lib.hid (HB0.out.trans (hw1.mono HB0.out.size))
  have d1 := cell_below hw1 HD.out.1
  have d2 := cell_below hw1 HD.out.2.1
  have d3 := cell_below hw1 HD.out.2.2.1
  have d4 := cell_below hw1 HD.out.2.2.2
  clear hw1
  go_wp2_with fail
  refine (RefWhere_is S rs t a x y e _ H.out hs HP.out).mono ?_
  rintro e' w2 ⟨rfl, hw2⟩
  have HB2 := Lib.hid (HB1.out.trans (hw2.mono HB1.out.size))
  clear hw2 d1 d2 d3 d4
  go_wp2_with fail
  go_ret
  exact ⟨rfl, HB2.out⟩

set_option maxRecDepth 100000 in
set_option maxHeartbeats 4000000 in
theorem walks_find (o : OpV) (ho : o.Small) (hk : o.kind = 10) (w : World) (hE : EnvU w) : Calls Tryd.prog 46 #[.agg #[.int .i64 o.kind, .string o.s, .string o.t, .int .i64 o.a, .int .i64 o.b]] w fun e w' => e = .returned (.bool true) ∧ Below w.heap.size w w' := by
  obtain ⟨k, S, T, a, b⟩ := o
  obtain rfl : k = 10 := hk
  simp only
  have hs : S.size ≤ 1048576 := ho.s
  have htt : T.size ≤ 1048576 := ho.t
  have ha0 : -9223372036854775808 ≤ a := ho.a0
  have ha1 : a ≤ 9223372036854775807 := ho.a1
  have hb0 : -9223372036854775808 ≤ b := ho.b0
  have hb1 : b ≤ 9223372036854775807 := ho.b1
  obtain ⟨rs, t, h⟩ := halves S
  have H := Lib.hid h
  clear h
  obtain ⟨x, e, hp⟩ := find_is rs t a b
  have HP := Lib.hid hp
  clear hp
  have HE := Lib.hid hE
  clear hE ho
  have HB0 := Lib.hid (show Below w.heap.size w (w.alloc (.cells #[.int .i64 10, .string S, .string T, .int .i64 a, .int .i64 b] 67)) from (Below.refl _ _).alloc (Nat.le_refl _) _)
  have hz := heap_alloc_new w (.cells #[.int .i64 10, .string S, .string T, .int .i64 a, .int .i64 b] 67)
  have d1 : (w.alloc (.cells #[.int .i64 10, .string S, .string T, .int .i64 a, .int .i64 b] 67)).cell? ⟨w.heap.size, 1, none⟩ = some (.string S) := by rw [Lib.cell_of_heap hz]; rfl
  have d2 : (w.alloc (.cells #[.int .i64 10, .string S, .string T, .int .i64 a, .int .i64 b] 67)).cell? ⟨w.heap.size, 2, none⟩ = some (.string T) := by rw [Lib.cell_of_heap hz]; rfl
  have d3 : (w.alloc (.cells #[.int .i64 10, .string S, .string T, .int .i64 a, .int .i64 b] 67)).cell? ⟨w.heap.size, 3, none⟩ = some (.int .i64 a) := by rw [Lib.cell_of_heap hz]; rfl
  have d4 : (w.alloc (.cells #[.int .i64 10, .string S, .string T, .int .i64 a, .int .i64 b] 67)).cell? ⟨w.heap.size, 4, none⟩ = some (.int .i64 b) := by rw [Lib.cell_of_heap hz]; rfl
  have HD := Lib.hid (And.intro d1 (And.intro d2 (And.intro d3 d4)))
  clear hz d1 d2 d3 d4
  go_enter Tryd.func46, Tryd.ntmps46
  go_wp2_with fail
  refine (Find_is S rs t a b x e _ H.out hs ha0 ha1 hb0 hb1 HP.out (HE.out.below HB0.out).bars).mono ?_
  rintro e' w1 ⟨rfl, hw1⟩
  have HB1 := Lib.hid (HB0.out.trans (hw1.mono HB0.out.size))
  have d1 := cell_below hw1 HD.out.1
  have d2 := cell_below hw1 HD.out.2.1
  have d3 := cell_below hw1 HD.out.2.2.1
  have d4 := cell_below hw1 HD.out.2.2.2
  clear hw1
  go_wp2_with fail
  refine (RefFind_is S rs t a b x e _ H.out hs hb1 HP.out).mono ?_
  rintro e' w2 ⟨rfl, hw2⟩
  have HB2 := Lib.hid (HB1.out.trans (hw2.mono HB1.out.size))
  clear hw2 d1 d2 d3 d4
  go_wp2_with fail
  go_ret
  exact ⟨rfl, HB2.out⟩

set_option maxRecDepth 100000 in
set_option maxHeartbeats 4000000 in
theorem walks_step (o : OpV) (ho : o.Small) (hk : o.kind = 11) (w : World) (hE : EnvU w) : Calls Tryd.prog 46 #[.agg #[.int .i64 o.kind, .string o.s, .string o.t, .int .i64 o.a, .int .i64 o.b]] w fun e w' => e = .returned (.bool true) ∧ Below w.heap.size w w' := by
  obtain ⟨k, S, T, a, b⟩ := o
  obtain rfl : k = 11 := hk
  simp only
  have hs : S.size ≤ 1048576 := ho.s
  have htt : T.size ≤ 1048576 := ho.t
  have ha0 : -9223372036854775808 ≤ a := ho.a0
  have ha1 : a ≤ 9223372036854775807 := ho.a1
  have hb0 : -9223372036854775808 ≤ b := ho.b0
  have hb1 : b ≤ 9223372036854775807 := ho.b1
  obtain ⟨rs, t, h⟩ := halves S
  have H := Lib.hid h
  clear h
  obtain ⟨x, e, hp⟩ := step_is rs t a b
  have HP := Lib.hid hp
  clear hp
  have HE := Lib.hid hE
  clear hE ho
  have HB0 := Lib.hid (show Below w.heap.size w (w.alloc (.cells #[.int .i64 11, .string S, .string T, .int .i64 a, .int .i64 b] 67)) from (Below.refl _ _).alloc (Nat.le_refl _) _)
  have hz := heap_alloc_new w (.cells #[.int .i64 11, .string S, .string T, .int .i64 a, .int .i64 b] 67)
  have d1 : (w.alloc (.cells #[.int .i64 11, .string S, .string T, .int .i64 a, .int .i64 b] 67)).cell? ⟨w.heap.size, 1, none⟩ = some (.string S) := by rw [Lib.cell_of_heap hz]; rfl
  have d2 : (w.alloc (.cells #[.int .i64 11, .string S, .string T, .int .i64 a, .int .i64 b] 67)).cell? ⟨w.heap.size, 2, none⟩ = some (.string T) := by rw [Lib.cell_of_heap hz]; rfl
  have d3 : (w.alloc (.cells #[.int .i64 11, .string S, .string T, .int .i64 a, .int .i64 b] 67)).cell? ⟨w.heap.size, 3, none⟩ = some (.int .i64 a) := by rw [Lib.cell_of_heap hz]; rfl
  have d4 : (w.alloc (.cells #[.int .i64 11, .string S, .string T, .int .i64 a, .int .i64 b] 67)).cell? ⟨w.heap.size, 4, none⟩ = some (.int .i64 b) := by rw [Lib.cell_of_heap hz]; rfl
  have HD := Lib.hid (And.intro d1 (And.intro d2 (And.intro d3 d4)))
  clear hz d1 d2 d3 d4
  go_enter Tryd.func46, Tryd.ntmps46
  go_wp2_with fail
  refine (Step_is S rs t a b x e _ H.out hs ha0 ha1 HP.out (HE.out.below HB0.out).bars (HE.out.below HB0.out).walks).mono ?_
  rintro e' w1 ⟨rfl, hw1⟩
  have HB1 := Lib.hid (HB0.out.trans (hw1.mono HB0.out.size))
  have d1 := cell_below hw1 HD.out.1
  have d2 := cell_below hw1 HD.out.2.1
  have d3 := cell_below hw1 HD.out.2.2.1
  have d4 := cell_below hw1 HD.out.2.2.2
  clear hw1
  go_wp2_with fail
  refine (RefStep_is S rs t a b x e _ H.out hs HP.out).mono ?_
  rintro e' w2 ⟨rfl, hw2⟩
  have HB2 := Lib.hid (HB1.out.trans (hw2.mono HB1.out.size))
  clear hw2 d1 d2 d3 d4
  go_wp2_with fail
  go_ret
  exact ⟨rfl, HB2.out⟩

set_option maxRecDepth 100000 in
set_option maxHeartbeats 4000000 in
theorem plays_where (o : OpV) (ho : o.Small) (hk : o.kind = 9) : PlaysWell o := by
  intro w hE
  have HI := Lib.hid (fun W hW => walks_where o ho hk W hW)
  obtain ⟨k, S, T, a, b⟩ := o
  obtain rfl : k = 9 := hk
  simp only at HI ⊢
  have HE := Lib.hid hE
  clear hE ho
  have HB0 := Lib.hid (show Below w.heap.size w (w.alloc (.cells #[.int .i64 9, .string S, .string T, .int .i64 a, .int .i64 b] 67)) from (Below.refl _ _).alloc (Nat.le_refl _) _)
  go_enter Tryd.func32, Tryd.ntmps32
  go_wp2_with fail
  refine (HI.out _ (HE.out.below HB0.out)).mono ?_
  rintro e' w1 ⟨rfl, hw1⟩
  have HB1 := Lib.hid (HB0.out.trans (hw1.mono HB0.out.size))
  clear hw1
  go_wp2_with fail
  go_ret
  exact ⟨rfl, HB1.out⟩

set_option maxRecDepth 100000 in
set_option maxHeartbeats 4000000 in
theorem plays_find (o : OpV) (ho : o.Small) (hk : o.kind = 10) : PlaysWell o := by
  intro w hE
  have HI := Lib.hid (fun W hW => walks_find o ho hk W hW)
  obtain ⟨k, S, T, a, b⟩ := o
  obtain rfl : k = 10 := hk
  simp only at HI ⊢
  have HE := Lib.hid hE
  clear hE ho
  have HB0 := Lib.hid (show Below w.heap.size w (w.alloc (.cells #[.int .i64 10, .string S, .string T, .int .i64 a, .int .i64 b] 67)) from (Below.refl _ _).alloc (Nat.le_refl _) _)
  go_enter Tryd.func32, Tryd.ntmps32
  go_wp2_with fail
  refine (HI.out _ (HE.out.below HB0.out)).mono ?_
  rintro e' w1 ⟨rfl, hw1⟩
  have HB1 := Lib.hid (HB0.out.trans (hw1.mono HB0.out.size))
  clear hw1
  go_wp2_with fail
  go_ret
  exact ⟨rfl, HB1.out⟩

set_option maxRecDepth 100000 in
set_option maxHeartbeats 4000000 in
theorem plays_step (o : OpV) (ho : o.Small) (hk : o.kind = 11) : PlaysWell o := by
  intro w hE
  have HI := Lib.hid (fun W hW => walks_step o ho hk W hW)
  obtain ⟨k, S, T, a, b⟩ := o
  obtain rfl : k = 11 := hk
  simp only at HI ⊢
  have HE := Lib.hid hE
  clear hE ho
  have HB0 := Lib.hid (show Below w.heap.size w (w.alloc (.cells #[.int .i64 11, .string S, .string T, .int .i64 a, .int .i64 b] 67)) from (Below.refl _ _).alloc (Nat.le_refl _) _)
  go_enter Tryd.func32, Tryd.ntmps32
  go_wp2_with fail
  refine (HI.out _ (HE.out.below HB0.out)).mono ?_
  rintro e' w1 ⟨rfl, hw1⟩
  have HB1 := Lib.hid (HB0.out.trans (hw1.mono HB0.out.size))
  clear hw1
  go_wp2_with fail
  go_ret
  exact ⟨rfl, HB1.out⟩

theorem walks_walk (w : World) (A : Option Addr) (c : Nat) (os : List OpV) (hS : Script w A os) (hn : os.length ≤ 1048576) (hsm : ∀ o ∈ os, o.Small) (hE : EnvU w) :
    Calls Tryd.prog 10 #[.slice A os.length c] w fun e w' => e = .returned (.bool true) ∧ Below w.heap.size w w' := by
  have HK := Lib.hid (kinds_any A c os 9 11 w hS hn hE fun o ho h1 h2 => by
    have hs := hsm o ho
    have : o.kind = 9 ∨ o.kind = 10 ∨ o.kind = 11 := by omega
    rcases this with h | h | h
    · exact plays_where o hs h
    · exact plays_find o hs h
    · exact plays_step o hs h)
  clear hS hsm hE
  go_enter Tryd.func10, Tryd.ntmps10
  go_wp2_with fail
  refine HK.out.mono ?_
  rintro e w1 ⟨rfl, hb⟩
  have HB := Lib.hid hb
  clear hb
  go_wp2_with fail
  go_ret
  exact ⟨rfl, HB.out⟩
end Go.Proofs.YtfgekdefnbohbaaDoor.U
