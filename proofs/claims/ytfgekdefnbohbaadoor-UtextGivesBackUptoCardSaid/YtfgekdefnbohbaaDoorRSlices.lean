/- Slice: the program's answer is the reference's; the plays of Place, Index and Slice. -/
import Derived.Test.YtfgekdefnbohbaaDoorRPlaces
import Derived.Laws.Strings2
namespace Go.Proofs.YtfgekdefnbohbaaDoor.U
open Go.RowKit Go.Proofs.YtfgekdefnbohbaaDoor.Txt
set_option linter.unusedVariables false
set_option linter.unusedSimpArgs false
attribute [local go_sem] frozen?_alloc_cells

/-- The runes from lo to hi. -/
def cutR (rs : List Int) (lo hi : Nat) : List Int := (rs.take hi).drop lo
theorem cutR_len (rs : List Int) (lo hi : Nat) (h : hi ≤ rs.length) : (cutR rs lo hi).length = hi - lo := by unfold cutR; rw [List.length_drop, List.length_take]; omega
theorem cutR_ok {rs : List Int} (h : ∀ r ∈ rs, TxtRune r) (lo hi : Nat) : ∀ r ∈ cutR rs lo hi, TxtRune r := fun r hr => h r (List.mem_of_mem_take (List.mem_of_mem_drop hr))
theorem cutR_get (rs : List Int) (lo hi j : Nat) (h : hi ≤ rs.length) (hj : j < hi - lo) : (cutR rs lo hi).getD j 0 = rs.getD (lo + j) 0 := by
  unfold cutR
  simp [List.getD, List.getElem?_drop, List.getElem?_take, show lo + j < hi by omega]
theorem enc_cutR (rs : List Int) (lo hi : Nat) (h : lo ≤ hi) : ((enc rs).take (psz rs hi)).drop (psz rs lo) = enc (cutR rs lo hi) := by
  rw [enc_take]
  unfold cutR
  have e1 : psz rs lo = psz (rs.take hi) lo := by unfold psz; rw [List.take_take, Nat.min_eq_left h]
  rw [e1, enc_drop]
theorem extract_list (S : ByteArray) (a b : Nat) (h : a ≤ b) : (S.extract a b).data.toList = (S.data.toList.take b).drop a := by
  have e : S = ⟨S.data.toList.toArray⟩ := by simp
  conv => lhs; rw [e]
  rw [ByteArray.extract_mk]
  show (S.data.toList.drop a).take (b - a) = _
  rw [List.drop_take]
/-- What Slice answers. -/
inductive SliceIs (rs : List Int) (t : List UInt8) (a b : Int) : ByteArray → Int → Prop where
  | fault (f : Int) (ht : t ≠ []) (hf : (fault t : Int) = f) : SliceIs rs t a b ⟨#[]⟩ f
  | out (ht : t = []) (h : a < 0 ∨ b < a ∨ rs.length < b) : SliceIs rs t a b ⟨#[]⟩ 12
  | ok (lo hi : Nat) (ht : t = []) (ha : a = lo) (hb : b = hi) (h1 : lo ≤ hi) (h2 : hi ≤ rs.length) : SliceIs rs t a b (Str (cutR rs lo hi)) 0
theorem slice_is (rs : List Int) (t : List UInt8) (a b : Int) : ∃ x e, SliceIs rs t a b x e := by
  by_cases ht : t = []
  · by_cases h : a < 0 ∨ b < a ∨ rs.length < b
    · exact ⟨_, _, .out ht h⟩
    · exact ⟨_, _, .ok a.toNat b.toNat ht (by omega) (by omega) (by omega) (by omega)⟩
  · exact ⟨_, _, .fault _ ht rfl⟩
set_option maxRecDepth 100000 in
set_option maxHeartbeats 4000000 in
theorem Slice_is (S : ByteArray) (rs : List Int) (t : List UInt8) (a b : Int) (x : ByteArray) (e : Int) (w : World) (h : Halves S rs t) (hs : S.size ≤ 4194304) (hp : SliceIs rs t a b x e) (hg : Bars w) :
    Calls Tryd.prog 18 #[.string S, .int .i64 a, .int .i64 b] w fun e' w' => e' = .returned (.tuple #[.string x, .int .i64 e]) ∧ Below w.heap.size w w' := by
  have hC := Check_halves S rs t w h (by omega) hg
  have hlen := (len_bound h hs).1
  cases hp with
  | fault f ht hf =>
    rw [chkN_fault ht hf] at hC
    have b := fault_ne hf
    obtain ⟨p, hp⟩ : ∃ p : Int, ((enc rs).length : Int) = p := ⟨_, rfl⟩
    rw [hp] at hC
    have HC := Lib.hid hC
    clear hC hp hf ht h hg
    go_enter Tryd.func18, Tryd.ntmps18
    go_wp2_with fail
    refine HC.out.mono ?_
    rintro e w1 ⟨rfl, hb1⟩
    have HB := Lib.hid hb1
    clear hb1
    go_wp2_with fail
    go_ret2
    exact ⟨rfl, HB.out⟩
  | out ht ha =>
    subst ht
    rw [chkN_text] at hC
    obtain ⟨n, hn⟩ : ∃ n, rs.length = n := ⟨_, rfl⟩
    rw [hn] at hC ha hlen
    have HC := Lib.hid hC
    clear hC hn h hg
    go_enter Tryd.func18, Tryd.ntmps18
    go_wp2_with fail
    refine HC.out.mono ?_
    rintro e w1 ⟨rfl, hb1⟩
    have HB := Lib.hid hb1
    clear hb1
    by_cases h1 : a < 0
    · clear ha
      go_wp2_with fail
      go_ret2
      exact ⟨rfl, HB.out⟩
    · by_cases h2 : b < a
      · clear ha
        go_wp2_with fail
        go_ret2
        exact ⟨rfl, HB.out⟩
      · have h3 : (n : Int) < b := by omega
        clear ha
        go_wp2_with fail
        go_ret2
        exact ⟨rfl, HB.out⟩
  | ok lo hi ht ha hb h1 h2 =>
    subst ht ha hb
    rw [chkN_text] at hC
    have HT := Lib.hid (h.text (by omega))
    have HG := Lib.hid hg
    have hp1 : psz rs lo ≤ psz rs hi := by
      rcases Nat.eq_or_lt_of_le h1 with rfl | h3
      · exact Nat.le_refl _
      · exact Nat.le_of_lt (psz_mono rs lo hi h3 h2)
    have hp2 : psz rs hi ≤ S.size := by have := psz_le rs hi; rw [HT.out.len]; exact this
    have hE := extract_list S (psz rs lo) (psz rs hi) hp1
    rw [HT.out.eq, enc_cutR rs lo hi h1] at hE
    have HE := Lib.hid (show S.extract (psz rs lo) (psz rs hi) = Str (cutR rs lo hi) by
      apply ByteArray.ext
      rw [← Array.toList_inj, hE, str_list])
    have HP1 := Lib.hid (fun w => place_in S rs lo w HT.out (by omega))
    have HP2 := Lib.hid (fun w => place_in S rs hi w HT.out h2)
    obtain ⟨n, hn⟩ : ∃ n, rs.length = n := ⟨_, rfl⟩
    rw [hn] at hC h2
    have HC := Lib.hid hC
    have hsb : S.size ≤ 4194304 := hs
    obtain ⟨p, hp⟩ : ∃ p, psz rs lo = p := ⟨_, rfl⟩
    obtain ⟨q, hq⟩ : ∃ q, psz rs hi = q := ⟨_, rfl⟩
    rw [hp, hq] at hp1 HE
    rw [hq] at hp2 HP2
    rw [hp] at HP1
    have z1 : ¬ (lo : Int) < 0 := by omega
    have z2 : ¬ hi < lo := by omega
    have z3 : ¬ n < hi := by omega
    have hrun : ∀ W : World, (Instr.slice 9 (.string S) (some (.int .i64 p)) (some (.int .i64 q)) none).run Tryd.prog W = .ok (.string (Str (cutR rs lo hi))) W := fun W => by
      rw [run_slice_string W 9 S .i64 .i64 p q Tryd.underlying9 (by omega) (by omega) (by omega), show ((p : Int)).toNat = p by omega, show ((q : Int)).toNat = q by omega, HE.out]
    obtain ⟨X, hX⟩ : ∃ X, Str (cutR rs lo hi) = X := ⟨_, rfl⟩
    rw [hX] at hrun ⊢
    clear hC hn h hg hE hp hq hX
    go_enter Tryd.func18, Tryd.ntmps18
    go_wp2_with fail
    refine HC.out.mono ?_
    rintro e w1 ⟨rfl, hb1⟩
    have HB := Lib.hid hb1
    clear hb1
    go_wp2_with fail
    refine (HP1.out _ (HG.out.below HB.out)).mono ?_
    rintro e w2 ⟨rfl, hb2⟩
    have HB2 := Lib.hid (HB.out.trans (hb2.mono HB.out.size))
    clear hb2
    go_wp2_with fail
    refine (HP2.out _ (HG.out.below HB2.out)).mono ?_
    rintro e w3 ⟨rfl, hb3⟩
    have HB3 := Lib.hid (HB2.out.trans (hb3.mono HB2.out.size))
    clear hb3
    go_wp2_with fail
    go_ret2
    exact ⟨rfl, HB3.out⟩

/-! ### The reference's Slice -/
theorem cOne64 : Tryd.prog.cellsOf 3 = 1 := by kernel_rfl
theorem Cells64.cut {w : World} {A : Option Addr} {rs : List Int} (h : Cells64 w A rs) (lo hi c : Nat) (h1 : lo ≤ hi) (h2 : hi ≤ rs.length) (h3 : rs.length ≤ c) : Cells64 w (if c = lo then A else A.map (·.add (lo * 1))) (cutR rs lo hi) := by
  intro h0
  rw [cutR_len rs lo hi h2] at h0
  obtain ⟨ad, rfl, hc⟩ := h (by omega)
  rw [if_neg (by omega), Nat.mul_one]
  refine ⟨ad.add lo, rfl, fun j hj => ?_⟩
  rw [cutR_len rs lo hi h2] at hj
  rw [Addr.add_add, cutR_get rs lo hi j h2 hj]
  exact hc _ (by omega)
theorem slice64 (A : Option Addr) (n c lo hi : Nat) (h1 : lo ≤ hi) (h3 : hi ≤ c) (W : World) : (Instr.slice 94 (.slice A n c) (some (.int .i64 lo)) (some (.int .i64 hi)) none).run Tryd.prog W = .ok (.slice (if c = lo then A else A.map (·.add (lo * 1))) (hi - lo) (c - lo)) W := by
  rw [run_slice_lh W 94 A n c (by kernel_rfl) .i64 .i64 lo hi (by omega) (by omega) (by omega)]
  kernel_rfl

set_option maxRecDepth 100000 in
set_option maxHeartbeats 4000000 in
theorem RefSlice_is (S : ByteArray) (rs : List Int) (t : List UInt8) (a b : Int) (x : ByteArray) (e : Int) (w : World) (h : Halves S rs t) (hs : S.size ≤ 1048576) (hp : SliceIs rs t a b x e) :
    Calls Tryd.prog 42 #[.string S, .int .i64 a, .int .i64 b] w fun e' w' => e' = .returned (.tuple #[.string x, .int .i64 e]) ∧ Below w.heap.size w w' := by
  have H := Lib.hid h
  have HS := Lib.hid (show S.size ≤ 4398046511104 by omega)
  have hlen := (len_bound h hs).1
  clear h hs
  cases hp with
  | fault f ht hf =>
    have b := fault_ne hf
    have HF := Lib.hid hf
    have HT := Lib.hid ht
    clear hf ht
    go_enter Tryd.func42, Tryd.ntmps42
    go_wp2_with fail
    refine (Runes_any S rs t _ H.out HS.out).mono ?_
    rintro e w1 ⟨hp, hb1⟩
    have HB := Lib.hid hb1
    clear hb1
    rcases hp with ⟨ht2, _⟩ | ⟨_, rfl⟩
    · exact absurd ht2 HT.out
    rw [HF.out]
    go_wp2_with fail
    go_ret2
    exact ⟨rfl, HB.out⟩
  | out ht ha =>
    subst ht
    obtain ⟨n, hn⟩ : ∃ n, rs.length = n := ⟨_, rfl⟩
    rw [hn] at hlen ha
    have HN := Lib.hid hn
    clear hn
    by_cases h1 : a < 0
    · clear ha
      go_enter Tryd.func42, Tryd.ntmps42
      go_wp2_with fail
      refine (Runes_any S rs [] _ H.out HS.out).mono ?_
      rintro e w1 ⟨hp, hb1⟩
      have HB := Lib.hid hb1
      clear hb1
      rcases hp with ⟨_, v, rfl, hown⟩ | ⟨ht2, _⟩
      case inr => exact absurd rfl ht2
      obtain ⟨A, c, rfl, hcap, hcell⟩ := own_ints hown
      have HCE := Lib.hid hcell
      have HCAP := Lib.hid hcap
      rw [HN.out]
      clear hown hcap hcell
      go_wp2_with fail
      go_ret2
      exact ⟨rfl, HB.out⟩
    · by_cases h2 : b < a
      · clear ha
        go_enter Tryd.func42, Tryd.ntmps42
        go_wp2_with fail
        refine (Runes_any S rs [] _ H.out HS.out).mono ?_
        rintro e w1 ⟨hp, hb1⟩
        have HB := Lib.hid hb1
        clear hb1
        rcases hp with ⟨_, v, rfl, hown⟩ | ⟨ht2, _⟩
        case inr => exact absurd rfl ht2
        obtain ⟨A, c, rfl, hcap, hcell⟩ := own_ints hown
        have HCE := Lib.hid hcell
        have HCAP := Lib.hid hcap
        rw [HN.out]
        clear hown hcap hcell
        go_wp2_with fail
        go_ret2
        exact ⟨rfl, HB.out⟩
      · have h3 : (n : Int) < b := by omega
        clear ha
        go_enter Tryd.func42, Tryd.ntmps42
        go_wp2_with fail
        refine (Runes_any S rs [] _ H.out HS.out).mono ?_
        rintro e w1 ⟨hp, hb1⟩
        have HB := Lib.hid hb1
        clear hb1
        rcases hp with ⟨_, v, rfl, hown⟩ | ⟨ht2, _⟩
        case inr => exact absurd rfl ht2
        obtain ⟨A, c, rfl, hcap, hcell⟩ := own_ints hown
        have HCE := Lib.hid hcell
        have HCAP := Lib.hid hcap
        rw [HN.out]
        clear hown hcap hcell
        go_wp2_with fail
        go_ret2
        exact ⟨rfl, HB.out⟩
  | ok lo hi ht ha hb h1 h2 =>
    subst ht ha hb
    have HOK := Lib.hid (cutR_ok H.out.ok lo hi)
    have HCL := Lib.hid (cutR_len rs lo hi h2)
    have HH := Lib.hid (And.intro h1 h2)
    obtain ⟨n, hn⟩ : ∃ n, rs.length = n := ⟨_, rfl⟩
    rw [hn] at hlen h2
    have HN := Lib.hid hn
    have z1 : ¬ (lo : Int) < 0 := by omega
    have z2 : ¬ hi < lo := by omega
    have z3 : ¬ n < hi := by omega
    clear hn
    go_enter Tryd.func42, Tryd.ntmps42
    go_wp2_with fail
    refine (Runes_any S rs [] _ H.out HS.out).mono ?_
    rintro e w1 ⟨hp, hb1⟩
    have HB := Lib.hid hb1
    clear hb1
    rcases hp with ⟨_, v, rfl, hown⟩ | ⟨ht2, _⟩
    case inr => exact absurd rfl ht2
    obtain ⟨A, c, rfl, hcap, hcell⟩ := own_ints hown
    have HCE := Lib.hid hcell
    have HCAP := Lib.hid hcap
    rw [HN.out]
    clear hown hcap hcell
    have hrun := slice64 A n c lo hi h1 (by have := HCAP.out; have := HN.out; omega)
    have hcu := HCE.out.cut lo hi c h1 HH.out.2 (by have := HCAP.out; have := HN.out; omega)
    obtain ⟨V, hV⟩ : ∃ V, (if c = lo then A else A.map (·.add (lo * 1))) = V := ⟨_, rfl⟩
    rw [hV] at hrun hcu
    obtain ⟨k, hk⟩ : ∃ k, hi - lo = k := ⟨_, rfl⟩
    rw [hk] at hrun HCL
    have hS := String_runes V (c - lo) (cutR rs lo hi) w1 hcu HOK.out (by rw [HCL.out]; omega)
    rw [HCL.out] at hS
    have HSS := Lib.hid hS
    obtain ⟨X, hX⟩ : ∃ X, Str (cutR rs lo hi) = X := ⟨_, rfl⟩
    rw [hX] at HSS
    have HX := Lib.hid hX
    clear hV hk hcu hS hX
    go_wp2_with fail
    refine HSS.out.mono ?_
    rintro e w2 ⟨rfl, hb2⟩
    have HB2 := Lib.hid (HB.out.trans (hb2.mono HB.out.size))
    clear hb2
    go_wp2_with fail
    go_ret2
    exact ⟨by rw [HX.out]; rfl, HB2.out⟩
end Go.Proofs.YtfgekdefnbohbaaDoor.U
