/- Exact laws, walks: what Where, Find and Step answer; the program's contracts. -/
import Derived.Test.YtfgekdefnbohbaaDoorRWalks2
import Derived.Test.YtfgekdefnbohbaaDoorULines
namespace Go.Proofs.YtfgekdefnbohbaaDoor.U
open Go.RowKit Go.Proofs.YtfgekdefnbohbaaDoor.Txt
set_option linter.unusedVariables false
set_option linter.unusedSimpArgs false

inductive WhereIs (rs : List Int) (t : List UInt8) (a : Int) : Int → Int → Int → Prop where
  | fault (f : Int) (ht : t ≠ []) (hf : (fault t : Int) = f) : WhereIs rs t a 0 0 f
  | out (ht : t = []) (ha : a < 0 ∨ rs.length < a) : WhereIs rs t a 0 0 12
  | ok (k q : Nat) (ht : t = []) (ha : a = k) (hk : k ≤ rs.length) (hq : (k : Int) - homeP rs k = q) : WhereIs rs t a (nl rs k : Nat) q 0
theorem where_is (rs : List Int) (t : List UInt8) (a : Int) : ∃ x y e, WhereIs rs t a x y e := by
  by_cases ht : t = []
  · by_cases ha : a < 0 ∨ rs.length < a
    · exact ⟨_, _, _, .out ht ha⟩
    · have := homeP_le rs a.toNat
      exact ⟨_, _, _, .ok a.toNat (a.toNat - homeP rs a.toNat) ht (by omega) (by omega) (by omega)⟩
  · exact ⟨_, _, _, .fault _ ht rfl⟩
inductive FindIs (rs : List Int) (t : List UInt8) (ln col : Int) : Int → Int → Prop where
  | fault (f : Int) (ht : t ≠ []) (hf : (fault t : Int) = f) : FindIs rs t ln col 0 f
  | out (ht : t = []) (h : ln < 0 ∨ nl rs rs.length < ln) : FindIs rs t ln col 0 12
  | neg (l : Nat) (ht : t = []) (hl : ln = l) (h : l ≤ nl rs rs.length) (hc : col < 0) : FindIs rs t ln col 0 12
  | ok (l k p d r : Nat) (ht : t = []) (hl : ln = l) (h : l ≤ nl rs rs.length) (hc : col = k) (hL : LineIs rs l p d) (hr : p + min k d = r) : FindIs rs t ln col r 0
theorem find_is (rs : List Int) (t : List UInt8) (ln col : Int) : ∃ x e, FindIs rs t ln col x e := by
  by_cases ht : t = []
  · by_cases ha : ln < 0 ∨ nl rs rs.length < ln
    · exact ⟨_, _, .out ht ha⟩
    · by_cases hc : col < 0
      · exact ⟨_, _, .neg ln.toNat ht (by omega) (by omega) hc⟩
      · obtain ⟨p, d, hL⟩ := line_is rs ln.toNat (by omega)
        exact ⟨_, _, .ok ln.toNat col.toNat p d _ ht (by omega) (by omega) (by omega) hL rfl⟩
  · exact ⟨_, _, .fault _ ht rfl⟩
/-- Where a walk leads. -/
inductive GoesTo (rs : List Int) (k : Nat) : Int → Nat → Prop where
  | s1a (h : k = 0) : GoesTo rs k 1 0
  | s1b (m : Nat) (h : k = m + 1) : GoesTo rs k 1 m
  | s2a (h : k = rs.length) : GoesTo rs k 2 k
  | s2b (h : k < rs.length) : GoesTo rs k 2 (k + 1)
  | s3 (p d : Nat) (hL : LineIs rs (nl rs k) p d) (hp : homeP rs k = p) : GoesTo rs k 3 p
  | s4 (p d e : Nat) (hL : LineIs rs (nl rs k) p d) (hp : endP rs k = e) (he : p + d = e) : GoesTo rs k 4 e
  | s5a (h : nl rs k = 0) : GoesTo rs k 5 0
  | s5b (m p d q r : Nat) (h : nl rs k = m + 1) (hL : LineIs rs m p d) (hq : (k : Int) - homeP rs k = q) (hr : p + min q d = r) : GoesTo rs k 5 r
  | s6a (h : nl rs k = nl rs rs.length) : GoesTo rs k 6 rs.length
  | s6b (m p d q r : Nat) (h : nl rs k = m) (hm : m < nl rs rs.length) (hL : LineIs rs (m + 1) p d) (hq : (k : Int) - homeP rs k = q) (hr : p + min q d = r) : GoesTo rs k 6 r
  | s7 (r : Nat) (hr : wordL rs k = r) : GoesTo rs k 7 r
  | s8 (r : Nat) (hr : wordR rs k = r) : GoesTo rs k 8 r
  | s9 : GoesTo rs k 9 0
  | s10 : GoesTo rs k 10 rs.length
theorem goes_to (rs : List Int) (k : Nat) (hk : k ≤ rs.length) (how : Int) (h1 : 1 ≤ how) (h2 : how ≤ 10) : ∃ r, GoesTo rs k how r := by
  have hh := homeP_le rs k
  have hm := nl_mono rs k _ hk
  obtain ⟨e1, e2, _⟩ := endP_spec rs k hk
  have hL := line_at rs k hk
  have : how = 1 ∨ how = 2 ∨ how = 3 ∨ how = 4 ∨ how = 5 ∨ how = 6 ∨ how = 7 ∨ how = 8 ∨ how = 9 ∨ how = 10 := by omega
  rcases this with rfl | rfl | rfl | rfl | rfl | rfl | rfl | rfl | rfl | rfl
  · cases k with
    | zero => exact ⟨_, .s1a rfl⟩
    | succ m => exact ⟨_, .s1b m rfl⟩
  · by_cases h : k = rs.length
    · exact ⟨_, .s2a h⟩
    · exact ⟨_, .s2b (by omega)⟩
  · exact ⟨_, .s3 _ _ hL rfl⟩
  · exact ⟨_, .s4 _ _ _ hL rfl (by omega)⟩
  · rcases hc : nl rs k with _ | m
    · exact ⟨_, .s5a hc⟩
    · obtain ⟨p, d, hL⟩ := line_is rs m (by omega)
      exact ⟨_, .s5b m p d (k - homeP rs k) _ hc hL (by omega) rfl⟩
  · by_cases h : nl rs k = nl rs rs.length
    · exact ⟨_, .s6a h⟩
    · obtain ⟨p, d, hL⟩ := line_is rs (nl rs k + 1) (by omega)
      exact ⟨_, .s6b _ p d (k - homeP rs k) _ rfl (by omega) hL (by omega) rfl⟩
  · exact ⟨_, .s7 _ rfl⟩
  · exact ⟨_, .s8 _ rfl⟩
  · exact ⟨_, .s9⟩
  · exact ⟨_, .s10⟩
inductive StepIs (rs : List Int) (t : List UInt8) (a how : Int) : Int → Int → Prop where
  | fault (f : Int) (ht : t ≠ []) (hf : (fault t : Int) = f) : StepIs rs t a how 0 f
  | out (ht : t = []) (ha : a < 0 ∨ rs.length < a) : StepIs rs t a how 0 12
  | bad (k : Nat) (ht : t = []) (ha : a = k) (hk : k ≤ rs.length) (h : how < 1 ∨ 10 < how) : StepIs rs t a how 0 16
  | ok (k r : Nat) (ht : t = []) (ha : a = k) (hk : k ≤ rs.length) (h : GoesTo rs k how r) : StepIs rs t a how r 0
theorem step_is (rs : List Int) (t : List UInt8) (a how : Int) : ∃ x e, StepIs rs t a how x e := by
  by_cases ht : t = []
  · by_cases ha : a < 0 ∨ rs.length < a
    · exact ⟨_, _, .out ht ha⟩
    · by_cases hh : how < 1 ∨ 10 < how
      · exact ⟨_, _, .bad a.toNat ht (by omega) (by omega) hh⟩
      · obtain ⟨r, hr⟩ := goes_to rs a.toNat (by omega) how (by omega) (by omega)
        exact ⟨_, _, .ok a.toNat r ht (by omega) (by omega) hr⟩
  · exact ⟨_, _, .fault _ ht rfl⟩
theorem stay_below {P : Program} {f : FuncId} {args : Array Value} {w : World} {v : Value} (h : Calls P f args w fun e w' => e = .returned v ∧ w = w') : Calls P f args w fun e w' => e = .returned v ∧ Below w.heap.size w w' :=
  h.mono fun _ _ ⟨a, b⟩ => ⟨a, b ▸ Below.refl _ _⟩

set_option maxRecDepth 100000 in
set_option maxHeartbeats 4000000 in
theorem Where_bad (S : ByteArray) (a f : Int) (w : World) (b : (f != 0) = true)
    (hP : Calls Tryd.prog 31 #[.string S, .int .i64 a] w fun e' w' => e' = .returned (.tuple #[.int .i64 0, .int .i64 f]) ∧ Below w.heap.size w w') :
    Calls Tryd.prog 65 #[.string S, .int .i64 a] w fun e' w' => e' = .returned (.tuple #[.int .i64 0, .int .i64 0, .int .i64 f]) ∧ Below w.heap.size w w' := by
  have HP := Lib.hid hP
  clear hP
  go_enter Tryd.func65, Tryd.ntmps65
  go_wp2_with fail
  refine HP.out.mono ?_
  rintro e w1 ⟨rfl, hb1⟩
  have HB := Lib.hid hb1
  clear hb1
  go_wp2_with fail
  go_ret3
  exact ⟨rfl, HB.out⟩
theorem Where_is (S : ByteArray) (rs : List Int) (t : List UInt8) (a x y e : Int) (w : World) (h : Halves S rs t) (hs : S.size ≤ 1048576) (ha0 : -9223372036854775808 ≤ a) (ha1 : a ≤ 9223372036854775807) (hp : WhereIs rs t a x y e) (hg : Bars w) :
    Calls Tryd.prog 65 #[.string S, .int .i64 a] w fun e' w' => e' = .returned (.tuple #[.int .i64 x, .int .i64 y, .int .i64 e]) ∧ Below w.heap.size w w' := by
  cases hp with
  | fault f ht hf => exact Where_bad S a e w (fault_ne hf) (Place_is S rs t a 0 e w h hs ha0 ha1 (.fault e ht hf) hg)
  | out ht ha => exact Where_bad S a 12 w rfl (Place_is S rs t a 0 12 w h hs ha0 ha1 (.out ht ha) hg)
  | ok k q ht ha hk hq =>
    subst ht ha
    exact Where_at S rs k q w (h.text (by omega)) (by have := (len_bound h hs).1; omega) hk hq hg

set_option maxRecDepth 100000 in
set_option maxHeartbeats 4000000 in
theorem Find_fault (S : ByteArray) (rs : List Int) (t : List UInt8) (ln col f : Int) (w : World) (h : Halves S rs t) (hs : S.size ≤ 1048576) (ht : t ≠ []) (hf : (fault t : Int) = f) (hg : Bars w) :
    Calls Tryd.prog 67 #[.string S, .int .i64 ln, .int .i64 col] w fun e' w' => e' = .returned (.tuple #[.int .i64 0, .int .i64 f]) ∧ Below w.heap.size w w' := by
  have hC := Check_halves S rs t w h (by omega) hg
  rw [chkN_fault ht hf] at hC
  have b := fault_ne hf
  obtain ⟨p, hp⟩ : ∃ p : Int, ((enc rs).length : Int) = p := ⟨_, rfl⟩
  rw [hp] at hC
  have HC := Lib.hid hC
  clear hC hp hf ht h hg
  go_enter Tryd.func67, Tryd.ntmps67
  go_wp2_with fail
  refine HC.out.mono ?_
  rintro e w1 ⟨rfl, hb1⟩
  have HB := Lib.hid hb1
  clear hb1
  go_wp2_with fail
  go_ret2
  exact ⟨rfl, HB.out⟩
set_option maxRecDepth 100000 in
set_option maxHeartbeats 4000000 in
theorem Find_neg (S : ByteArray) (rs : List Int) (ln : Nat) (col : Int) (w : World) (h : Text S rs) (hl : rs.length ≤ 4398046511104) (hln : ln ≤ nl rs rs.length) (hcol : col < 0) (hg : Bars w) :
    Calls Tryd.prog 67 #[.string S, .int .i64 ln, .int .i64 col] w fun e w' => e = .returned (.tuple #[.int .i64 0, .int .i64 12]) ∧ Below w.heap.size w w' := by
  have hsz := h.size
  have hnl := nl_le rs rs.length
  have HT := Lib.hid h
  have HG := Lib.hid hg
  clear h hg
  go_enter Tryd.func67, Tryd.ntmps67
  go_wp2_with fail
  refine (check_at S rs.length 0 0 _ (by unfold maxLen; omega) HG.out HT.out.chk).mono ?_
  rintro e w1 ⟨rfl, hb1⟩
  have HB1 := Lib.hid hb1
  clear hb1
  obtain ⟨c, w2, hcv, hcap, hb2, hcl⟩ := conv_to_runes S rs HT.out (by omega) w1
  have HB2 := Lib.hid (HB1.out.trans (hb2.mono HB1.out.size))
  have HC := Lib.hid hcl
  clear hb2 hcl
  go_wp2_with fail
  refine (lines_any _ c rs _ HC.out hl).mono ?_
  rintro e w3 ⟨v, rfl, hown, hb3⟩
  have HB3 := Lib.hid (HB2.out.trans (hb3.mono HB2.out.size))
  obtain ⟨A, c3, rfl, hcap3, hcs⟩ := own_ints hown
  rw [lines_len] at hcap3 ⊢
  clear hb3 hown hcs hcv
  go_wp2_with fail
  go_ret2
  exact ⟨rfl, HB3.out⟩
theorem Find_is (S : ByteArray) (rs : List Int) (t : List UInt8) (ln col x e : Int) (w : World) (h : Halves S rs t) (hs : S.size ≤ 1048576) (hl0 : -9223372036854775808 ≤ ln) (hl1 : ln ≤ 9223372036854775807) (hc0 : -9223372036854775808 ≤ col) (hc1 : col ≤ 9223372036854775807) (hp : FindIs rs t ln col x e) (hg : Bars w) :
    Calls Tryd.prog 67 #[.string S, .int .i64 ln, .int .i64 col] w fun e' w' => e' = .returned (.tuple #[.int .i64 x, .int .i64 e]) ∧ Below w.heap.size w w' := by
  have hlen := (len_bound h hs).1
  cases hp with
  | fault f ht hf => exact Find_fault S rs t ln col _ w h hs ht hf hg
  | out ht h1 =>
    subst ht
    exact Find_out S rs ln col w (h.text (by omega)) (by omega) h1 hl0 hl1 hg
  | neg l ht hl h1 hc =>
    subst ht hl
    exact Find_neg S rs l col w (h.text (by omega)) (by omega) h1 hc hg
  | ok l k p d r ht hl h1 hc hL hr =>
    subst ht hl hc
    have := hL.le
    exact Find_in S rs l k p d _ w (h.text (by omega)) (by omega) h1 hL.l0 hL.l1 (by omega) (by omega) (by omega) (by omega) hc1 (by omega) hg

set_option maxRecDepth 100000 in
set_option maxHeartbeats 4000000 in
theorem Step_none (S : ByteArray) (a how f : Int) (w : World) (b : (f != 0) = true)
    (hP : Calls Tryd.prog 31 #[.string S, .int .i64 a] w fun e' w' => e' = .returned (.tuple #[.int .i64 0, .int .i64 f]) ∧ Below w.heap.size w w') :
    Calls Tryd.prog 69 #[.string S, .int .i64 a, .int .i64 how] w fun e' w' => e' = .returned (.tuple #[.int .i64 0, .int .i64 f]) ∧ Below w.heap.size w w' := by
  have HP := Lib.hid hP
  clear hP
  go_enter Tryd.func69, Tryd.ntmps69
  go_wp2_with fail
  refine HP.out.mono ?_
  rintro e w1 ⟨rfl, hb1⟩
  have HB := Lib.hid hb1
  clear hb1
  go_wp2_with fail
  go_ret2
  exact ⟨rfl, HB.out⟩
set_option maxRecDepth 100000 in
set_option maxHeartbeats 4000000 in
theorem Step_bad (S : ByteArray) (rs : List Int) (k : Nat) (how : Int) (w : World) (h : Text S rs) (hk : k ≤ rs.length) (hh : how < 1 ∨ 10 < how) (hg : Bars w) :
    Calls Tryd.prog 69 #[.string S, .int .i64 k, .int .i64 how] w fun e' w' => e' = .returned (.tuple #[.int .i64 0, .int .i64 16]) ∧ Below w.heap.size w w' := by
  have HP := Lib.hid (place_in S rs k w h hk hg)
  clear h hg
  rcases hh with hh | hh
  · go_enter Tryd.func69, Tryd.ntmps69
    go_wp2_with fail
    refine HP.out.mono ?_
    rintro e w1 ⟨rfl, hb1⟩
    have HB := Lib.hid hb1
    clear hb1
    go_wp2_with fail
    go_ret2
    exact ⟨rfl, HB.out⟩
  · have h1 : ¬ how < 1 := by omega
    have h2 : 11 ≤ how := by omega
    clear hh
    go_enter Tryd.func69, Tryd.ntmps69
    go_wp2_with fail
    refine HP.out.mono ?_
    rintro e w1 ⟨rfl, hb1⟩
    have HB := Lib.hid hb1
    clear hb1
    go_wp2_with fail
    go_ret2
    exact ⟨rfl, HB.out⟩

theorem Step_is (S : ByteArray) (rs : List Int) (t : List UInt8) (a how x e : Int) (w : World) (h : Halves S rs t) (hs : S.size ≤ 1048576) (ha0 : -9223372036854775808 ≤ a) (ha1 : a ≤ 9223372036854775807) (hp : StepIs rs t a how x e) (hg : Bars w) (hw : Walks w) :
    Calls Tryd.prog 69 #[.string S, .int .i64 a, .int .i64 how] w fun e' w' => e' = .returned (.tuple #[.int .i64 x, .int .i64 e]) ∧ Below w.heap.size w w' := by
  have hlen := (len_bound h hs).1
  cases hp with
  | fault f ht hf => exact Step_none S a how e w (fault_ne hf) (Place_is S rs t a 0 e w h hs ha0 ha1 (.fault e ht hf) hg)
  | out ht ha => exact Step_none S a how 12 w rfl (Place_is S rs t a 0 12 w h hs ha0 ha1 (.out ht ha) hg)
  | bad k ht ha hk hh =>
    subst ht ha
    exact Step_bad S rs k how w (h.text (by omega)) hk hh hg
  | ok k r ht ha hk hG =>
    subst ht ha
    have hT := h.text (by omega)
    cases hG with
    | s1a h => exact Step_1 S rs k _ w hT (by omega) hk hg hw (fun A c w _ _ => stay_below (left_any A c rs.length k _ w (by omega) (.inl ⟨h, rfl⟩)))
    | s1b m h => exact Step_1 S rs k _ w hT (by omega) hk hg hw (fun A c w _ _ => stay_below (left_any A c rs.length k _ w (by omega) (.inr ⟨by omega, by omega⟩)))
    | s2a h => exact Step_2 S rs k _ w hT (by omega) hk hg hw (fun A c w _ _ => stay_below (right_any A c rs.length k _ w (by omega) hk (.inl ⟨h, by omega⟩)))
    | s2b h => exact Step_2 S rs k _ w hT (by omega) hk hg hw (fun A c w _ _ => stay_below (right_any A c rs.length k _ w (by omega) hk (.inr ⟨h, by omega⟩)))
    | s3 p d hL hp => subst hp; exact Step_3 S rs k _ w hT (by omega) hk hg hw (fun A c w hc hcap => stay_below (uhome_any A c k rs w hc (by omega) hcap hk))
    | s4 p d e hL hp he => subst hp; exact Step_4 S rs k _ w hT (by omega) hk hg hw (fun A c w hc hcap => stay_below (lineEnd_any A c k rs w hc (by omega) hk))
    | s5a h => exact Step_5 S rs k _ w hT (by omega) hk hg hw (fun A c w hc hcap => up_first A c k rs w hc (by omega) hcap hk h)
    | s5b m p d q r h hL hq hr =>
      have := hL.le
      have := homeP_le rs k
      exact Step_5 S rs k _ w hT (by omega) hk hg hw (fun A c w hc hcap => up_more A c k m p d q _ rs w hc (by omega) hcap hk h hq hL.l0 hL.l1 (by omega) (by omega) (by omega) (by omega) (by omega) (by omega))
    | s6a h => exact Step_6 S rs k _ w hT (by omega) hk hg hw (fun A c w hc hcap => down_last A c k rs w hc (by omega) hcap hk h)
    | s6b m p d q r h hm hL hq hr =>
      have := hL.le
      have := homeP_le rs k
      exact Step_6 S rs k _ w hT (by omega) hk hg hw (fun A c w hc hcap => down_more A c k m p d q _ rs w hc (by omega) hcap hk h hm hq hL.l0 hL.l1 (by omega) (by omega) (by omega) (by omega) (by omega) (by omega))
    | s7 r hr => subst hr; exact Step_7 S rs k _ w hT (by omega) hk hg hw (fun A c w hc hcap => stay_below (wordLeft_any A c k rs w hc (by omega) hk))
    | s8 r hr => subst hr; exact Step_8 S rs k _ w hT (by omega) hk hg hw (fun A c w hc hcap => stay_below (wordRight_any A c k rs w hc (by omega) hk))
    | s9 => exact Step_9 S rs k _ w hT (by omega) hk hg hw (fun A c w hc hcap => stay_below (top_any A c rs.length k w))
    | s10 => exact Step_10 S rs k _ w hT (by omega) hk hg hw (fun A c w hc hcap => stay_below (bottom_any A c rs.length k w))
end Go.Proofs.YtfgekdefnbohbaaDoor.U
