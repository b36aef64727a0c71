/- Splice: the program's answer is the reference's, at every two strings and all numbers. Splice: the reference's answer; the play of Splice. Diff: the program's answer is the reference's, at every two strings. The plays of Splice and Diff, and UtextSplices. -/
import Derived.Test.YtfgekdefnbohbaaDoorUAll14
import Derived.Deep.QuietTactic
import Derived.BigQuiet
import Derived.Deep.RegionHeld3
import Derived.Test.YtfgekdefnbohbaaDoorUAll9
import Derived.Deep.DeepCutAuto
import Derived.Deep.CutBlock
namespace Go.Proofs.YtfgekdefnbohbaaDoor.U
open Go.RowKit Go.Proofs.YtfgekdefnbohbaaDoor.Txt
set_option linter.unusedVariables false
set_option linter.unusedSimpArgs false
attribute [local go_sem] frozen?_alloc_cells

/-- What Splice answers. -/
inductive SpliceIs (rs : List Int) (t : List UInt8) (ri : List Int) (ti : List UInt8) (a b : Int) : ByteArray → Int → Prop where
  | fault (f : Int) (ht : t ≠ []) (hf : (fault t : Int) = f) : SpliceIs rs t ri ti a b ⟨#[]⟩ f
  | fault2 (f : Int) (ht : t = []) (hti : ti ≠ []) (hf : (fault ti : Int) = f) : SpliceIs rs t ri ti a b ⟨#[]⟩ f
  | out (ht : t = []) (hti : ti = []) (h : a < 0 ∨ b < 0 ∨ rs.length < a ∨ rs.length - a < b) : SpliceIs rs t ri ti a b ⟨#[]⟩ 12
  | ok (at_ del : Nat) (ht : t = []) (hti : ti = []) (ha : a = at_) (hb : b = del) (h2 : at_ + del ≤ rs.length) : SpliceIs rs t ri ti a b (Str (rs.take at_ ++ ri ++ rs.drop (at_ + del))) 0
theorem splice_is (rs : List Int) (t : List UInt8) (ri : List Int) (ti : List UInt8) (a b : Int) : ∃ x e, SpliceIs rs t ri ti a b x e := by
  by_cases ht : t = []
  · by_cases hti : ti = []
    · by_cases h : a < 0 ∨ b < 0 ∨ rs.length < a ∨ rs.length - a < b
      · exact ⟨_, _, .out ht hti h⟩
      · exact ⟨_, _, .ok a.toNat b.toNat ht hti (by omega) (by omega) (by omega)⟩
    · exact ⟨_, _, .fault2 _ ht hti rfl⟩
  · exact ⟨_, _, .fault _ ht rfl⟩
theorem str_app (a b : List Int) : Str (a ++ b) = Str a ++ Str b := by
  apply ByteArray.ext
  rw [← Array.toList_inj, str_list, app_list, str_list, str_list, enc_append]
theorem Text.isStr {S : ByteArray} {rs : List Int} (h : Text S rs) : S = Str rs := by
  apply ByteArray.ext
  rw [← Array.toList_inj, str_list, h.eq]
theorem head_str {S : ByteArray} {rs : List Int} (h : Text S rs) (k : Nat) (hk : k ≤ rs.length) : S.extract 0 (psz rs k) = Str (rs.take k) := by
  apply ByteArray.ext
  rw [← Array.toList_inj, str_list, extract_list S 0 _ (Nat.zero_le _), h.eq, enc_take]
  rfl
theorem tail_str {S : ByteArray} {rs : List Int} (h : Text S rs) (k : Nat) (hk : k ≤ rs.length) : S.extract (psz rs k) S.size = Str (rs.drop k) := by
  apply ByteArray.ext
  have h1 : psz rs k ≤ S.size := by rw [h.len]; exact psz_le rs k
  rw [← Array.toList_inj, str_list, extract_list S _ _ h1, h.eq, h.len, List.take_length, enc_drop]

set_option maxRecDepth 100000 in
set_option maxHeartbeats 4000000 in
theorem Splice_is (S T : ByteArray) (rs : List Int) (t : List UInt8) (ri : List Int) (ti : List UInt8) (a b : Int) (x : ByteArray) (e : Int) (w : World) (h : Halves S rs t) (hi : Halves T ri ti) (hs : S.size ≤ 1048576) (hss : T.size ≤ 1048576)
    (ha0 : -9223372036854775808 ≤ a) (ha1 : a ≤ 9223372036854775807) (hp : SpliceIs rs t ri ti a b x e) (hg : Bars w) :
    Calls Tryd.prog 20 #[.string S, .int .i64 a, .int .i64 b, .string T] w fun e' w' => e' = .returned (.tuple #[.string x, .int .i64 e]) ∧ Below w.heap.size w w' := by
  have hC := Check_halves S rs t w h (by omega) hg
  have HC2 := Lib.hid (fun W hW => Check_halves T ri ti W hi (by omega) hW)
  have HG := Lib.hid hg
  have hlen := (len_bound h hs).1
  have hlen2 := (len_bound hi hss).2
  cases hp with
  | fault f ht hf =>
    rw [chkN_fault ht hf] at hC
    have b0 := fault_ne hf
    obtain ⟨p, hp⟩ : ∃ p : Int, ((enc rs).length : Int) = p := ⟨_, rfl⟩
    rw [hp] at hC
    have HC := Lib.hid hC
    clear hC hp hf ht h hg hi
    go_enter Tryd.func20, Tryd.ntmps20
    go_wp2_with fail
    refine HC.out.mono ?_
    rintro e w1 ⟨rfl, hb1⟩
    have HB := Lib.hid hb1
    clear hb1
    go_wp2_with fail
    go_ret2
    exact ⟨rfl, HB.out⟩
  | fault2 f ht hti hf =>
    subst ht
    rw [chkN_text] at hC
    have hC2 := HC2.out
    rw [chkN_fault hti hf] at hC2
    have b0 := fault_ne hf
    obtain ⟨p, hp⟩ : ∃ p : Int, ((enc ri).length : Int) = p := ⟨_, rfl⟩
    rw [hp] at hC2
    obtain ⟨n, hn⟩ : ∃ n, rs.length = n := ⟨_, rfl⟩
    rw [hn] at hC
    have HC := Lib.hid hC
    have HC3 := Lib.hid hC2
    clear hC hC2 HC2 hp hf hn hti h hg hi
    go_enter Tryd.func20, Tryd.ntmps20
    go_wp2_with fail
    refine HC.out.mono ?_
    rintro e w1 ⟨rfl, hb1⟩
    have HB := Lib.hid hb1
    clear hb1
    go_wp2_with fail
    refine (HC3.out _ (HG.out.below HB.out)).mono ?_
    rintro e w2 ⟨rfl, hb2⟩
    have HB2 := Lib.hid (HB.out.trans (hb2.mono HB.out.size))
    clear hb2
    go_wp2_with fail
    go_ret2
    exact ⟨rfl, HB2.out⟩
  | out ht hti ha =>
    subst ht hti
    rw [chkN_text] at hC
    have hC2 := HC2.out
    rw [chkN_text] at hC2
    obtain ⟨n2, hn2⟩ : ∃ n, ri.length = n := ⟨_, rfl⟩
    rw [hn2] at hC2
    obtain ⟨n, hn⟩ : ∃ n, rs.length = n := ⟨_, rfl⟩
    rw [hn] at hC ha hlen
    have HC := Lib.hid hC
    have HC3 := Lib.hid hC2
    clear hC hC2 HC2 hn hn2 h hg hi
    by_cases h1 : a < 0
    · clear ha
      go_enter Tryd.func20, Tryd.ntmps20
      go_wp2_with fail
      refine HC.out.mono ?_
      rintro e w1 ⟨rfl, hb1⟩
      have HB := Lib.hid hb1
      clear hb1
      go_wp2_with fail
      refine (HC3.out _ (HG.out.below HB.out)).mono ?_
      rintro e w2 ⟨rfl, hb2⟩
      have HB2 := Lib.hid (HB.out.trans (hb2.mono HB.out.size))
      clear hb2
      go_wp2_with fail
      go_ret2
      exact ⟨rfl, HB2.out⟩
    · by_cases h2 : b < 0
      · clear ha
        go_enter Tryd.func20, Tryd.ntmps20
        go_wp2_with fail
        refine HC.out.mono ?_
        rintro e w1 ⟨rfl, hb1⟩
        have HB := Lib.hid hb1
        clear hb1
        go_wp2_with fail
        refine (HC3.out _ (HG.out.below HB.out)).mono ?_
        rintro e w2 ⟨rfl, hb2⟩
        have HB2 := Lib.hid (HB.out.trans (hb2.mono HB.out.size))
        clear hb2
        go_wp2_with fail
        go_ret2
        exact ⟨rfl, HB2.out⟩
      · by_cases h3 : (n : Int) < a
        · clear ha
          go_enter Tryd.func20, Tryd.ntmps20
          go_wp2_with fail
          refine HC.out.mono ?_
          rintro e w1 ⟨rfl, hb1⟩
          have HB := Lib.hid hb1
          clear hb1
          go_wp2_with fail
          refine (HC3.out _ (HG.out.below HB.out)).mono ?_
          rintro e w2 ⟨rfl, hb2⟩
          have HB2 := Lib.hid (HB.out.trans (hb2.mono HB.out.size))
          clear hb2
          go_wp2_with fail
          go_ret2
          exact ⟨rfl, HB2.out⟩
        · have h4 : (n : Int) - a < b := by omega
          have e0 : IntKind.i64.wrap ((n : Int) - a) = (n : Int) - a := IntWalk.i64_in _ (by omega)
          clear ha
          go_enter Tryd.func20, Tryd.ntmps20
          go_wp2_with fail
          refine HC.out.mono ?_
          rintro e w1 ⟨rfl, hb1⟩
          have HB := Lib.hid hb1
          clear hb1
          go_wp2_with fail
          refine (HC3.out _ (HG.out.below HB.out)).mono ?_
          rintro e w2 ⟨rfl, hb2⟩
          have HB2 := Lib.hid (HB.out.trans (hb2.mono HB.out.size))
          clear hb2
          go_wp2_with fail
          go_ret2
          exact ⟨rfl, HB2.out⟩
  | ok at_ del ht hti ha hb h2 =>
    subst ht hti
    rw [chkN_text] at hC
    have hC2 := HC2.out
    rw [chkN_text] at hC2
    obtain ⟨n2, hn2⟩ : ∃ n, ri.length = n := ⟨_, rfl⟩
    rw [hn2] at hC2
    subst ha hb
    have HT := Lib.hid (h.text (by omega))
    have HTI := Lib.hid (hi.text (by omega))
    have HR := Lib.hid (show Str (rs.take at_) ++ T ++ Str (rs.drop (at_ + del)) = Str (rs.take at_ ++ ri ++ rs.drop (at_ + del)) by rw [str_app, str_app, HTI.out.isStr])
    have HP1 := Lib.hid (fun w => place_in S rs at_ w HT.out (by omega))
    have HP2 := Lib.hid (fun w => place_in S rs (at_ + del) w HT.out h2)
    have HS1 := Lib.hid (head_str HT.out at_ (by omega))
    have HS2 := Lib.hid (tail_str HT.out (at_ + del) h2)
    have hp1 : psz rs at_ ≤ S.size := by have := psz_le rs at_; rw [HT.out.len]; exact this
    have hp2 : psz rs (at_ + del) ≤ S.size := by have := psz_le rs (at_ + del); rw [HT.out.len]; exact this
    obtain ⟨n, hn⟩ : ∃ n, rs.length = n := ⟨_, rfl⟩
    rw [hn] at hC h2 hlen
    have HC := Lib.hid hC
    have HC3 := Lib.hid hC2
    obtain ⟨p, hp⟩ : ∃ p, psz rs at_ = p := ⟨_, rfl⟩
    obtain ⟨q, hq⟩ : ∃ q, psz rs (at_ + del) = q := ⟨_, rfl⟩
    rw [hp] at hp1 HP1 HS1
    rw [hq] at hp2 HP2 HS2
    have hx1 : (Str (rs.take at_)).size ≤ 1048576 := by rw [← HS1.out]; simp; omega
    have hx2 : (Str (rs.drop (at_ + del))).size ≤ 1048576 := by rw [← HS2.out]; simp; omega
    obtain ⟨X1, hX1⟩ : ∃ X, Str (rs.take at_) = X := ⟨_, rfl⟩
    obtain ⟨X2, hX2⟩ : ∃ X, Str (rs.drop (at_ + del)) = X := ⟨_, rfl⟩
    obtain ⟨X, hX⟩ : ∃ X, Str (rs.take at_ ++ ri ++ rs.drop (at_ + del)) = X := ⟨_, rfl⟩
    rw [hX1] at HS1 HR hx1
    rw [hX2] at HS2 HR hx2
    rw [hX] at HR ⊢
    have r1 : ∀ W : World, (Instr.slice 9 (.string S) none (some (.int .i64 p)) none).run Tryd.prog W = .ok (.string X1) W := fun W => by
      rw [run_slice_string_h W 9 S Tryd.underlying9 .i64 p (by omega) (by omega), show ((p : Int)).toNat = p by omega, HS1.out]
    have r2 : ∀ W : World, (Instr.slice 9 (.string S) (some (.int .i64 q)) none none).run Tryd.prog W = .ok (.string X2) W := fun W => by
      rw [run_slice_string_l W 9 S Tryd.underlying9 .i64 q (by omega) (by omega), show ((q : Int)).toNat = q by omega, HS2.out]
    have z1 : ¬ (at_ : Int) < 0 := by omega
    have z2 : ¬ (del : Int) < 0 := by omega
    have z3 : ¬ n < at_ := by omega
    have e0 : IntKind.i64.wrap ((n : Int) - (at_ : Int)) = ((n - at_ : Nat) : Int) := by rw [show (n : Int) - at_ = ((n - at_ : Nat) : Int) by omega]; exact IntWalk.i64_in _ (by omega)
    have z4 : ¬ n - at_ < del := by omega
    have e1 : IntKind.i64.wrap ((at_ : Int) + (del : Int)) = ((at_ + del : Nat) : Int) := by rw [show (at_ : Int) + del = ((at_ + del : Nat) : Int) by omega]; exact IntWalk.i64_in _ (by omega)
    obtain ⟨ad, had⟩ : ∃ ad, at_ + del = ad := ⟨_, rfl⟩
    rw [had] at e1 HP2
    obtain ⟨nd, hnd⟩ : ∃ nd, n - at_ = nd := ⟨_, rfl⟩
    rw [hnd] at e0 z4
    clear hC hC2 HC2 hn hn2 h hg hi hp hq hX1 hX2 hX had hnd
    go_enter Tryd.func20, Tryd.ntmps20
    go_wp2_with fail
    refine HC.out.mono ?_
    rintro e w1 ⟨rfl, hb1⟩
    have HB := Lib.hid hb1
    clear hb1
    go_wp2_with fail
    refine (HC3.out _ (HG.out.below HB.out)).mono ?_
    rintro e w2 ⟨rfl, hb2⟩
    have HB2 := Lib.hid (HB.out.trans (hb2.mono HB.out.size))
    clear hb2
    go_wp2_with fail
    refine (HP1.out _ ((HG.out.below HB2.out))).mono ?_
    rintro e w3 ⟨rfl, hb3⟩
    have HB3 := Lib.hid (HB2.out.trans (hb3.mono HB2.out.size))
    clear hb3
    go_wp2_with fail
    refine (HP2.out _ ((HG.out.below HB3.out))).mono ?_
    rintro e w4 ⟨rfl, hb4⟩
    have HB4 := Lib.hid (HB3.out.trans (hb4.mono HB3.out.size))
    clear hb4 e0 e1
    go_wp2_with fail
    go_quiet (fail)
    go_wp2_with fail
    go_ret2
    exact ⟨by rw [← HR.out]; rfl, pw_below HB4.out _⟩
end Go.Proofs.YtfgekdefnbohbaaDoor.U

namespace Go.Proofs.YtfgekdefnbohbaaDoor.U
open Go.RowKit Go.Proofs.YtfgekdefnbohbaaDoor.Txt
set_option linter.unusedVariables false
set_option linter.unusedSimpArgs false
attribute [local go_sem] frozen?_alloc_cells

theorem slice64_h (A : Option Addr) (n c hi : Nat) (h3 : hi ≤ c) (W : World) : (Instr.slice 94 (.slice A n c) none (some (.int .i64 hi)) none).run Tryd.prog W = .ok (.slice A hi c) W := by
  have e : (if c = 0 then A else A.map (·.add (0 * 1))) = A := by
    cases A with
    | none => split <;> rfl
    | some a => split <;> simp [Addr.add]
  rw [run_slice_h W 94 A n c (by kernel_rfl) .i64 hi (by omega) (by omega), ← e]
  have : ∀ B : Option Addr, ((Sem.run Tryd.prog (sizeOf (Tryd.prog.elem 94)) W).andThen fun s w => Result.ok (sliced B 0 ((hi : Int)).toNat c s) w) = Result.ok (.slice (if c = 0 then B else B.map (·.add (0 * 1))) hi c) W := fun B => by kernel_rfl
  rw [this]
  rw [e, e]
theorem slice64_l (A : Option Addr) (n c lo : Nat) (h1 : lo ≤ n) (W : World) : (Instr.slice 94 (.slice A n c) (some (.int .i64 lo)) none none).run Tryd.prog W = .ok (.slice (if c = lo then A else A.map (·.add (lo * 1))) (n - lo) (c - lo)) W := by
  rw [run_slice_l W 94 A n c (by kernel_rfl) .i64 lo (by omega) (by omega)]
  kernel_rfl
theorem Cells64.head {w : World} {A : Option Addr} {rs : List Int} (h : Cells64 w A rs) (k : Nat) : Cells64 w A (rs.take k) := fun h0 => by
  rw [List.length_take] at h0
  obtain ⟨ad, e, hc⟩ := h (by omega)
  refine ⟨ad, e, fun j hj => ?_⟩
  rw [List.length_take] at hj
  rw [hc j (by omega)]
  simp [List.getD, List.getElem?_take, show j < k by omega]
theorem Cells64.below {w w' : World} {A : Option Addr} {xs : List Int} (h : Cells64 w A xs) (hb : Below w.heap.size w w') : Cells64 w' A xs := fun h0 => by
  obtain ⟨ad, e, hc⟩ := h h0
  exact ⟨ad, e, fun j hj => cell_below hb (hc j hj)⟩
set_option maxRecDepth 100000 in
set_option maxHeartbeats 8000000 in
theorem RefSplice_is (S T : ByteArray) (rs : List Int) (t : List UInt8) (ri : List Int) (ti : List UInt8) (a b : Int) (x : ByteArray) (e : Int) (w : World) (h : Halves S rs t) (hi : Halves T ri ti) (hs : S.size ≤ 1048576) (hss : T.size ≤ 1048576)
    (ha0 : -9223372036854775808 ≤ a) (ha1 : a ≤ 9223372036854775807) (hp : SpliceIs rs t ri ti a b x e) :
    Calls Tryd.prog 59 #[.string S, .int .i64 a, .int .i64 b, .string T] w fun e' w' => e' = .returned (.tuple #[.string x, .int .i64 e]) ∧ Below w.heap.size w w' := by
  have H := Lib.hid h
  have HI := Lib.hid hi
  have HS := Lib.hid (show S.size ≤ 4398046511104 by omega)
  have HS2 := Lib.hid (show T.size ≤ 4398046511104 by omega)
  have hlen := (len_bound h hs).1
  have hlen2 := (len_bound hi hss).1
  clear h hi
  cases hp with
  | fault f ht hf =>
    have b0 := fault_ne hf
    have HF := Lib.hid hf
    have HT := Lib.hid ht
    clear hf ht
    go_enter Tryd.func59, Tryd.ntmps59
    go_wp2_with fail
    refine (Runes_any S rs t _ H.out HS.out).mono ?_
    rintro e w1 ⟨hp, hb1⟩
    have HB := Lib.hid hb1
    clear hb1
    rcases hp with ⟨ht2, _⟩ | ⟨_, rfl⟩
    · exact absurd ht2 HT.out
    rw [HF.out]
    go_wp2_with fail
    go_ret2
    exact ⟨rfl, HB.out⟩
  | fault2 f ht hti hf =>
    subst ht
    have b0 := fault_ne hf
    have HF := Lib.hid hf
    have HT := Lib.hid hti
    obtain ⟨n, hn⟩ : ∃ n, rs.length = n := ⟨_, rfl⟩
    have HN := Lib.hid hn
    clear hf hti hn
    go_enter Tryd.func59, Tryd.ntmps59
    go_wp2_with fail
    refine (Runes_any S rs [] _ H.out HS.out).mono ?_
    rintro e w1 ⟨hp, hb1⟩
    have HB := Lib.hid hb1
    clear hb1
    rcases hp with ⟨_, v, rfl, hown⟩ | ⟨ht2, _⟩
    case inr => exact absurd rfl ht2
    obtain ⟨A, c, rfl, hcap, hcell⟩ := own_ints hown
    have HCE := Lib.hid hcell
    have HCAP := Lib.hid hcap
    rw [HN.out]
    clear hown hcap hcell
    go_wp2_with fail
    refine (Runes_any T ri ti _ HI.out HS2.out).mono ?_
    rintro e w2 ⟨hp, hb2⟩
    have HB2 := Lib.hid (HB.out.trans (hb2.mono HB.out.size))
    clear hb2
    rcases hp with ⟨ht2, _⟩ | ⟨_, rfl⟩
    · exact absurd ht2 HT.out
    rw [HF.out]
    go_wp2_with fail
    go_ret2
    exact ⟨rfl, HB2.out⟩
  | out ht hti ha =>
    subst ht hti
    obtain ⟨n, hn⟩ : ∃ n, rs.length = n := ⟨_, rfl⟩
    rw [hn] at hlen ha
    have HN := Lib.hid hn
    obtain ⟨n2, hn2⟩ : ∃ n, ri.length = n := ⟨_, rfl⟩
    have HN2 := Lib.hid hn2
    clear hn hn2
    by_cases h1 : a < 0
    · clear ha
      go_enter Tryd.func59, Tryd.ntmps59
      go_wp2_with fail
      refine (Runes_any S rs [] _ H.out HS.out).mono ?_
      rintro e w1 ⟨hp, hb1⟩
      have HB := Lib.hid hb1
      clear hb1
      rcases hp with ⟨_, v, rfl, hown⟩ | ⟨ht2, _⟩
      case inr => exact absurd rfl ht2
      obtain ⟨A, c, rfl, hcap, hcell⟩ := own_ints hown
      have HCE := Lib.hid hcell
      have HCAP := Lib.hid hcap
      rw [HN.out]
      clear hown hcap hcell
      go_wp2_with fail
      refine (Runes_any T ri [] _ HI.out HS2.out).mono ?_
      rintro e w2 ⟨hp, hb2⟩
      have HB2 := Lib.hid (HB.out.trans (hb2.mono HB.out.size))
      rcases hp with ⟨_, v2, rfl, hown2⟩ | ⟨ht2, _⟩
      case inr => exact absurd rfl ht2
      obtain ⟨A2, c2, rfl, hcap2, hcell2⟩ := own_ints hown2
      have HCE2 := Lib.hid (HCE.out.below hb2)
      have HCI := Lib.hid hcell2
      rw [HN2.out]
      clear hown2 hcap2 hcell2 hb2
      go_wp2_with fail
      go_ret2
      exact ⟨rfl, HB2.out⟩
    · by_cases h2 : b < 0
      · clear ha
        go_enter Tryd.func59, Tryd.ntmps59
        go_wp2_with fail
        refine (Runes_any S rs [] _ H.out HS.out).mono ?_
        rintro e w1 ⟨hp, hb1⟩
        have HB := Lib.hid hb1
        clear hb1
        rcases hp with ⟨_, v, rfl, hown⟩ | ⟨ht2, _⟩
        case inr => exact absurd rfl ht2
        obtain ⟨A, c, rfl, hcap, hcell⟩ := own_ints hown
        have HCE := Lib.hid hcell
        have HCAP := Lib.hid hcap
        rw [HN.out]
        clear hown hcap hcell
        go_wp2_with fail
        refine (Runes_any T ri [] _ HI.out HS2.out).mono ?_
        rintro e w2 ⟨hp, hb2⟩
        have HB2 := Lib.hid (HB.out.trans (hb2.mono HB.out.size))
        rcases hp with ⟨_, v2, rfl, hown2⟩ | ⟨ht2, _⟩
        case inr => exact absurd rfl ht2
        obtain ⟨A2, c2, rfl, hcap2, hcell2⟩ := own_ints hown2
        have HCE2 := Lib.hid (HCE.out.below hb2)
        have HCI := Lib.hid hcell2
        rw [HN2.out]
        clear hown2 hcap2 hcell2 hb2
        go_wp2_with fail
        go_ret2
        exact ⟨rfl, HB2.out⟩
      · by_cases h3 : (n : Int) < a
        · clear ha
          go_enter Tryd.func59, Tryd.ntmps59
          go_wp2_with fail
          refine (Runes_any S rs [] _ H.out HS.out).mono ?_
          rintro e w1 ⟨hp, hb1⟩
          have HB := Lib.hid hb1
          clear hb1
          rcases hp with ⟨_, v, rfl, hown⟩ | ⟨ht2, _⟩
          case inr => exact absurd rfl ht2
          obtain ⟨A, c, rfl, hcap, hcell⟩ := own_ints hown
          have HCE := Lib.hid hcell
          have HCAP := Lib.hid hcap
          rw [HN.out]
          clear hown hcap hcell
          go_wp2_with fail
          refine (Runes_any T ri [] _ HI.out HS2.out).mono ?_
          rintro e w2 ⟨hp, hb2⟩
          have HB2 := Lib.hid (HB.out.trans (hb2.mono HB.out.size))
          rcases hp with ⟨_, v2, rfl, hown2⟩ | ⟨ht2, _⟩
          case inr => exact absurd rfl ht2
          obtain ⟨A2, c2, rfl, hcap2, hcell2⟩ := own_ints hown2
          have HCE2 := Lib.hid (HCE.out.below hb2)
          have HCI := Lib.hid hcell2
          rw [HN2.out]
          clear hown2 hcap2 hcell2 hb2
          go_wp2_with fail
          go_ret2
          exact ⟨rfl, HB2.out⟩
        · have h4 : (n : Int) - a < b := by omega
          have e0 : IntKind.i64.wrap ((n : Int) - a) = (n : Int) - a := IntWalk.i64_in _ (by omega)
          clear ha
          go_enter Tryd.func59, Tryd.ntmps59
          go_wp2_with fail
          refine (Runes_any S rs [] _ H.out HS.out).mono ?_
          rintro e w1 ⟨hp, hb1⟩
          have HB := Lib.hid hb1
          clear hb1
          rcases hp with ⟨_, v, rfl, hown⟩ | ⟨ht2, _⟩
          case inr => exact absurd rfl ht2
          obtain ⟨A, c, rfl, hcap, hcell⟩ := own_ints hown
          have HCE := Lib.hid hcell
          have HCAP := Lib.hid hcap
          rw [HN.out]
          clear hown hcap hcell
          go_wp2_with fail
          refine (Runes_any T ri [] _ HI.out HS2.out).mono ?_
          rintro e w2 ⟨hp, hb2⟩
          have HB2 := Lib.hid (HB.out.trans (hb2.mono HB.out.size))
          rcases hp with ⟨_, v2, rfl, hown2⟩ | ⟨ht2, _⟩
          case inr => exact absurd rfl ht2
          obtain ⟨A2, c2, rfl, hcap2, hcell2⟩ := own_ints hown2
          have HCE2 := Lib.hid (HCE.out.below hb2)
          have HCI := Lib.hid hcell2
          rw [HN2.out]
          clear hown2 hcap2 hcell2 hb2
          go_wp2_with fail
          go_ret2
          exact ⟨rfl, HB2.out⟩
  | ok at_ del ht hti ha hb h2 =>
    subst ht hti ha hb
    have HR := Lib.hid (show Str (rs.take at_) ++ Str ri ++ Str (rs.drop (at_ + del)) = Str (rs.take at_ ++ ri ++ rs.drop (at_ + del)) by rw [str_app, str_app])
    have hz : ∀ xs : List Int, xs.length ≤ 1048576 → (Str xs).size ≤ 4194304 := fun xs hx => by rw [str_size]; have := enc_len_le xs; omega
    have hx1 := hz (rs.take at_) (by rw [List.length_take]; omega)
    have hx2 := hz (rs.drop (at_ + del)) (by rw [List.length_drop]; omega)
    have hx3 := hz ri hlen2
    have HO1 := Lib.hid (show ∀ r ∈ rs.take at_, TxtRune r from fun r hr => H.out.ok r (List.mem_of_mem_take hr))
    have HO2 := Lib.hid (show ∀ r ∈ rs.drop (at_ + del), TxtRune r from fun r hr => H.out.ok r (List.mem_of_mem_drop hr))
    have HL1 := Lib.hid (show (rs.take at_).length = at_ by rw [List.length_take]; omega)
    have HCD := Lib.hid (show cutR rs (at_ + del) rs.length = rs.drop (at_ + del) by unfold cutR; rw [List.take_length])
    have HH2 := Lib.hid h2
    obtain ⟨n, hn⟩ : ∃ n, rs.length = n := ⟨_, rfl⟩
    have HN := Lib.hid hn
    have HL2 := Lib.hid (show (rs.drop (at_ + del)).length = n - (at_ + del) by rw [List.length_drop, hn])
    obtain ⟨n2, hn2⟩ : ∃ n, ri.length = n := ⟨_, rfl⟩
    have HN2 := Lib.hid hn2
    rw [hn] at hlen h2
    rw [hn2] at hlen2
    obtain ⟨ad, had⟩ : ∃ ad, at_ + del = ad := ⟨_, rfl⟩
    obtain ⟨X1, hX1⟩ : ∃ X, Str (rs.take at_) = X := ⟨_, rfl⟩
    obtain ⟨X2, hX2⟩ : ∃ X, Str (rs.drop (at_ + del)) = X := ⟨_, rfl⟩
    obtain ⟨X3, hX3⟩ : ∃ X, Str ri = X := ⟨_, rfl⟩
    obtain ⟨X, hX⟩ : ∃ X, Str (rs.take at_ ++ ri ++ rs.drop (at_ + del)) = X := ⟨_, rfl⟩
    have HX1 := Lib.hid hX1
    have HX2 := Lib.hid hX2
    have HX3 := Lib.hid hX3
    rw [had] at HO2 HL2 HX2
    rw [hX1, hX2, hX3, hX] at HR
    rw [hX1] at hx1
    rw [hX2] at hx2
    rw [hX3] at hx3
    rw [hX]
    have HAD := Lib.hid had
    have z1 : ¬ (at_ : Int) < 0 := by omega
    have z2 : ¬ (del : Int) < 0 := by omega
    have z3 : ¬ n < at_ := by omega
    have e0 : IntKind.i64.wrap ((n : Int) - (at_ : Int)) = ((n - at_ : Nat) : Int) := by rw [show (n : Int) - at_ = ((n - at_ : Nat) : Int) by omega]; exact IntWalk.i64_in _ (by omega)
    have z4 : ¬ n - at_ < del := by omega
    have e1 : IntKind.i64.wrap ((at_ : Int) + (del : Int)) = (ad : Int) := by rw [show (at_ : Int) + del = (ad : Int) by omega]; exact IntWalk.i64_in _ (by omega)
    obtain ⟨nd, hnd⟩ : ∃ nd, n - at_ = nd := ⟨_, rfl⟩
    rw [hnd] at e0 z4
    clear hz hn hn2 hX1 hX2 hX3 hX had hnd
    go_enter Tryd.func59, Tryd.ntmps59
    go_wp2_with fail
    refine (Runes_any S rs [] _ H.out HS.out).mono ?_
    rintro e w1 ⟨hp, hb1⟩
    have HB := Lib.hid hb1
    clear hb1
    rcases hp with ⟨_, v, rfl, hown⟩ | ⟨ht2, _⟩
    case inr => exact absurd rfl ht2
    obtain ⟨A, c, rfl, hcap, hcell⟩ := own_ints hown
    have HCE := Lib.hid hcell
    have HCAP := Lib.hid hcap
    rw [HN.out]
    clear hown hcap hcell
    go_wp2_with fail
    refine (Runes_any T ri [] _ HI.out HS2.out).mono ?_
    rintro e w2 ⟨hp, hb2⟩
    have HB2 := Lib.hid (HB.out.trans (hb2.mono HB.out.size))
    rcases hp with ⟨_, v2, rfl, hown2⟩ | ⟨ht2, _⟩
    case inr => exact absurd rfl ht2
    obtain ⟨A2, c2, rfl, hcap2, hcell2⟩ := own_ints hown2
    have HCE2 := Lib.hid (HCE.out.below hb2)
    have HCI := Lib.hid hcell2
    rw [HN2.out]
    clear hown2 hcap2 hcell2 hb2
    have r1 := slice64_h A n c at_ (by have := HCAP.out; have := HN.out; omega)
    have r2 := slice64_l A n c ad (by have := HAD.out; omega)
    have hcu := HCE2.out.cut (at_ + del) rs.length c HH2.out (Nat.le_refl _) HCAP.out
    rw [HCD.out, HAD.out] at hcu
    obtain ⟨V, hV⟩ : ∃ V, (if c = ad then A else A.map (·.add (ad * 1))) = V := ⟨_, rfl⟩
    rw [hV] at r2 hcu
    have C1 := Lib.hid (show ∀ W, Below w2.heap.size w2 W → Calls Tryd.prog 58 #[.slice A at_ c] W fun e w' => e = .returned (.string X1) ∧ Below w2.heap.size w2 w' from fun W hW => by
      have := String_runes A c (rs.take at_) W ((HCE2.out.head at_).below hW) HO1.out (by rw [HL1.out]; omega)
      rw [HL1.out, HX1.out] at this
      exact this.mono fun e w' ⟨h1, h2⟩ => ⟨h1, hW.trans (h2.mono hW.size)⟩)
    have C2 := Lib.hid (show ∀ W, Below w2.heap.size w2 W → Calls Tryd.prog 58 #[.slice V (n - ad) (c - ad)] W fun e w' => e = .returned (.string X2) ∧ Below w2.heap.size w2 w' from fun W hW => by
      have := String_runes V (c - ad) (rs.drop ad) W (hcu.below hW) HO2.out (by rw [HL2.out]; omega)
      rw [HL2.out, HX2.out] at this
      exact this.mono fun e w' ⟨h1, h2⟩ => ⟨h1, hW.trans (h2.mono hW.size)⟩)
    have C3 := Lib.hid (show ∀ W, Below w2.heap.size w2 W → Calls Tryd.prog 58 #[.slice A2 n2 c2] W fun e w' => e = .returned (.string X3) ∧ Below w2.heap.size w2 w' from fun W hW => by
      have := String_runes A2 c2 ri W (HCI.out.below hW) HI.out.ok (by rw [HN2.out]; omega)
      rw [HN2.out, HX3.out] at this
      exact this.mono fun e w' ⟨h1, h2⟩ => ⟨h1, hW.trans (h2.mono hW.size)⟩)
    obtain ⟨nn, hnn⟩ : ∃ nn, n - ad = nn := ⟨_, rfl⟩
    rw [hnn] at r2 C2
    obtain ⟨cc, hcc⟩ : ∃ cc, c - ad = cc := ⟨_, rfl⟩
    rw [hcc] at r2 C2
    clear hcu hV hnn hcc
    go_upto_region 9 with fail
    clear e0 z1 z2 z3 z4
    go_cut [8, 9] (fun x e wx => x = .string X ∧ e = .int .i64 0 ∧ Below w2.heap.size w2 wx)
    case first =>
      go_region_with (first
        | ((with_reducible refine (C1.out _ (by first | exact Below.refl _ _ | exact (Below.refl _ _).drew | assumption | exact Below.drew (by assumption))).mono ?_); rintro e w5 ⟨rfl, hb5⟩)
        | ((with_reducible refine (C2.out _ (by first | exact Below.refl _ _ | exact (Below.refl _ _).drew | assumption | exact Below.drew (by assumption))).mono ?_); rintro e w5 ⟨rfl, hb5⟩)
        | ((with_reducible refine (C3.out _ (by first | exact Below.refl _ _ | exact (Below.refl _ _).drew | assumption | exact Below.drew (by assumption))).mono ?_); rintro e w5 ⟨rfl, hb5⟩))
      all_goals (go_wp2_with fail)
      all_goals
        go_meet
        exact ⟨by first | (rw [← HR.out]; done) | (rw [← HR.out]; rfl), rfl, by assumption⟩
    case rest =>
      obtain ⟨rfl, rfl, hbx⟩ := hcut
      have HBX := Lib.hid (HB2.out.trans (hbx.mono HB2.out.size))
      clear hbx r1 r2
      go_wp2_with fail
      go_ret2
      exact ⟨rfl, HBX.out⟩
end Go.Proofs.YtfgekdefnbohbaaDoor.U

namespace Go.Proofs.YtfgekdefnbohbaaDoor.U
open Go.RowKit Go.Proofs.YtfgekdefnbohbaaDoor.Txt
set_option linter.unusedVariables false
set_option linter.unusedSimpArgs false
attribute [local go_sem] frozen?_alloc_cells

theorem Meets.uniq {a b : List Int} {h t h' t' : Nat} (m : Meets a b h t) (m' : Meets a b h' t') : h = h' ∧ t = t' := by
  have hh : h = h' := by
    rcases Nat.lt_trichotomy h h' with h1 | h1 | h1
    · exact absurd (m'.pre h h1) (m.stop (by have := m'.la; omega) (by have := m'.lb; omega))
    · exact h1
    · exact absurd (m.pre h' h1) (m'.stop (by have := m.la; omega) (by have := m.lb; omega))
  subst hh
  refine ⟨rfl, ?_⟩
  rcases Nat.lt_trichotomy t t' with h1 | h1 | h1
  · exact absurd (m'.suf t h1) (m.stop2 (by have := m'.la; omega) (by have := m'.lb; omega))
  · exact h1
  · exact absurd (m.suf t' h1) (m'.stop2 (by have := m.la; omega) (by have := m.lb; omega))
/-- What Diff answers. -/
inductive DiffPost (rs : List Int) (t : List UInt8) (ri : List Int) (ti : List UInt8) : Ending → Prop where
  | fault (ht : t ≠ []) : DiffPost rs t ri ti (.returned (.tuple #[.int .i64 0, .int .i64 0, .string ⟨#[]⟩, .int .i64 (fault t)]))
  | fault2 (ht : t = []) (hti : ti ≠ []) : DiffPost rs t ri ti (.returned (.tuple #[.int .i64 0, .int .i64 0, .string ⟨#[]⟩, .int .i64 (fault ti)]))
  | ok (h s : Nat) (ht : t = []) (hti : ti = []) (m : Meets rs ri h s) : DiffPost rs t ri ti (.returned (.tuple #[.int .i64 h, .int .i64 (rs.length - h - s : Int), .string (Str (midB ri h s)), .int .i64 0]))
theorem diff_pair {rs : List Int} {t : List UInt8} {ri : List Int} {ti : List UInt8} {e : Ending} (h : DiffPost rs t ri ti e) : ∃ x1 x2 x3 x4, e = .returned (.tuple #[.int .i64 x1, .int .i64 x2, .string x3, .int .i64 x4]) ∧ ∀ e', DiffPost rs t ri ti e' → e' = .returned (.tuple #[.int .i64 x1, .int .i64 x2, .string x3, .int .i64 x4]) := by
  cases h with
  | fault ht =>
    refine ⟨_, _, _, _, rfl, fun e' h' => ?_⟩
    cases h' with
    | fault => rfl
    | fault2 h1 => exact absurd h1 ht
    | ok _ _ h1 => exact absurd h1 ht
  | fault2 ht hti =>
    refine ⟨_, _, _, _, rfl, fun e' h' => ?_⟩
    cases h' with
    | fault h1 => exact absurd ht h1
    | fault2 => rfl
    | ok _ _ _ h1 => exact absurd h1 hti
  | ok h s ht hti m =>
    refine ⟨_, _, _, _, rfl, fun e' h' => ?_⟩
    cases h' with
    | fault h1 => exact absurd ht h1
    | fault2 _ h1 => exact absurd hti h1
    | ok h' s' _ _ m' => obtain ⟨rfl, rfl⟩ := m.uniq m'; rfl

set_option maxRecDepth 100000 in
set_option maxHeartbeats 4000000 in
theorem Diff_is (S T : ByteArray) (rs : List Int) (t : List UInt8) (ri : List Int) (ti : List UInt8) (w : World) (h : Halves S rs t) (hi : Halves T ri ti) (hs : S.size ≤ 1048576) (hss : T.size ≤ 1048576) (hg : Bars w) :
    Calls Tryd.prog 19 #[.string S, .string T] w fun e' w' => DiffPost rs t ri ti e' ∧ Below w.heap.size w w' := by
  have hlen := (len_bound h hs).1
  have hlen2 := (len_bound hi hss).1
  by_cases ht : t = []
  · subst ht
    by_cases hti : ti = []
    · subst hti
      refine (Diff_any S T rs ri w (h.text (by omega)) (hi.text (by omega)) (by omega) (by omega) hg).mono ?_
      rintro e w' ⟨a, s, m, rfl, hb⟩
      exact ⟨.ok a s rfl rfl m, hb⟩
    · have hC := Check_halves S rs [] w h (by omega) hg
      rw [chkN_text] at hC
      have hC2 := fun W hW => Check_halves T ri ti W hi (by omega) hW
      obtain ⟨f, hf⟩ : ∃ f : Int, (fault ti : Int) = f := ⟨_, rfl⟩
      rw [chkN_fault hti hf] at hC2
      have b0 := fault_ne hf
      obtain ⟨p, hp⟩ : ∃ p : Int, ((enc ri).length : Int) = p := ⟨_, rfl⟩
      rw [hp] at hC2
      obtain ⟨n, hn⟩ : ∃ n, rs.length = n := ⟨_, rfl⟩
      rw [hn] at hC
      have HC := Lib.hid (fun W hW => Check_halves S rs [] W h (by omega) hW)
      have HC3 := Lib.hid hC2
      have HG := Lib.hid hg
      have HP := Lib.hid (show DiffPost rs [] ri ti (.returned (.tuple #[.int .i64 0, .int .i64 0, .string ⟨#[]⟩, .int .i64 f])) by rw [← hf]; exact .fault2 rfl hti)
      have HCT := Lib.hid (chkN_text rs)
      rw [hn] at HCT
      clear hC hC2 hp hf hn hti h hi hg
      have x0 : ∀ w : World, (Instr.index 65 (.agg #[.string S, .string T]) (.int .i64 0)).run Tryd.prog w = .ok (.string S) w := fun _ => by kernel_rfl
      have x1 : ∀ w : World, (Instr.index 65 (.agg #[.string S, .string T]) (.int .i64 1)).run Tryd.prog w = .ok (.string T) w := fun _ => by kernel_rfl
      go_enter Tryd.func19, Tryd.ntmps19
      go_wp2_with fail
      go_loopw [4, 7, 16] (fun at0 e i wr => ∃ j : Nat, j ≤ 1 ∧ i = .int .i64 j ∧ e = .int .i64 0 ∧ at0 = .int .i64 0 ∧ Below w.heap.size w wr) (fun _ _ i _ => 1 - (intOf i).toNat)
      case atStart => exact ⟨0, Nat.zero_le _, rfl, rfl, rfl, Below.refl _ _⟩
      case round =>
        obtain ⟨j, hj, rfl, rfl, rfl, hb⟩ := hrel
        have HB := Lib.hid hb
        clear hb
        have hj2 : j = 0 ∨ j = 1 := by omega
        rcases hj2 with rfl | rfl
        · go_wp2_with fail
          refine (HC.out _ (HG.out.below HB.out)).mono ?_
          rintro e w1 ⟨rfl, hb1⟩
          rw [HCT.out]
          have HB1 := Lib.hid (HB.out.trans (hb1.mono HB.out.size))
          clear hb1
          go_wp2_with fail
          go_roundw
          case rel => exact ⟨1, by omega, rfl, rfl, rfl, HB1.out⟩
          case measure => simp [intOf]
        · go_wp2_with fail
          refine (HC3.out _ (HG.out.below HB.out)).mono ?_
          rintro e w1 ⟨rfl, hb1⟩
          have HB1 := Lib.hid (HB.out.trans (hb1.mono HB.out.size))
          clear hb1
          go_wp2_with fail
          refine bodyPost_ret (results_tmp4 rfl _ _ _) rfl ?_
          exact ⟨HP.out, HB1.out⟩
  · have hC := Check_halves S rs t w h (by omega) hg
    obtain ⟨f, hf⟩ : ∃ f : Int, (fault t : Int) = f := ⟨_, rfl⟩
    rw [chkN_fault ht hf] at hC
    have b0 := fault_ne hf
    obtain ⟨p, hp⟩ : ∃ p : Int, ((enc rs).length : Int) = p := ⟨_, rfl⟩
    have HP := Lib.hid (show DiffPost rs t ri ti (.returned (.tuple #[.int .i64 0, .int .i64 0, .string ⟨#[]⟩, .int .i64 f])) by rw [← hf]; exact .fault ht)
    have HC := Lib.hid (fun W hW => Check_halves S rs t W h (by omega) hW)
    have HCT := Lib.hid (show chkN rs t = (0, p, f) by rw [chkN_fault ht hf, hp])
    have HG := Lib.hid hg
    have x0 : ∀ w : World, (Instr.index 65 (.agg #[.string S, .string T]) (.int .i64 0)).run Tryd.prog w = .ok (.string S) w := fun _ => by kernel_rfl
    clear hC hp hf ht h hi hg
    go_enter Tryd.func19, Tryd.ntmps19
    go_wp2_with fail
    go_loopw [4, 7, 16] (fun at0 e i wr => i = .int .i64 0 ∧ e = .int .i64 0 ∧ at0 = .int .i64 0 ∧ Below w.heap.size w wr) (fun _ _ i _ => 0)
    case atStart => exact ⟨rfl, rfl, rfl, Below.refl _ _⟩
    case round =>
      obtain ⟨rfl, rfl, rfl, hb⟩ := hrel
      have HB := Lib.hid hb
      clear hb
      go_wp2_with fail
      refine (HC.out _ (HG.out.below HB.out)).mono ?_
      rintro e w1 ⟨rfl, hb1⟩
      rw [HCT.out]
      have HB1 := Lib.hid (HB.out.trans (hb1.mono HB.out.size))
      clear hb1
      go_wp2_with fail
      refine bodyPost_ret (results_tmp4 rfl _ _ _) rfl ?_
      exact ⟨HP.out, HB1.out⟩

set_option maxRecDepth 100000 in
set_option maxHeartbeats 8000000 in
theorem RefDiff_is (S T : ByteArray) (rs : List Int) (t : List UInt8) (ri : List Int) (ti : List UInt8) (w : World) (h : Halves S rs t) (hi : Halves T ri ti) (hs : S.size ≤ 1048576) (hss : T.size ≤ 1048576) :
    Calls Tryd.prog 60 #[.string S, .string T] w fun e' w' => DiffPost rs t ri ti e' ∧ Below w.heap.size w w' := by
  have H := Lib.hid h
  have HI := Lib.hid hi
  have HS := Lib.hid (show S.size ≤ 4398046511104 by omega)
  have HS2 := Lib.hid (show T.size ≤ 4398046511104 by omega)
  have hlen := (len_bound h hs).1
  have hlen2 := (len_bound hi hss).1
  clear h hi
  by_cases ht : t = []
  case neg =>
    obtain ⟨f, hf⟩ : ∃ f : Int, (fault t : Int) = f := ⟨_, rfl⟩
    have b0 := fault_ne hf
    have HF := Lib.hid hf
    have HT := Lib.hid ht
    have HP := Lib.hid (show DiffPost rs t ri ti (.returned (.tuple #[.int .i64 0, .int .i64 0, .string ⟨#[]⟩, .int .i64 f])) by rw [← hf]; exact .fault ht)
    clear hf ht
    go_enter Tryd.func60, Tryd.ntmps60
    go_wp2_with fail
    refine (Runes_any S rs t _ H.out HS.out).mono ?_
    rintro e w1 ⟨hp, hb1⟩
    have HB := Lib.hid hb1
    clear hb1
    rcases hp with ⟨ht2, _⟩ | ⟨_, rfl⟩
    · exact absurd ht2 HT.out
    rw [HF.out]
    go_wp2_with fail
    refine bodyPost_ret (results_tmp4 rfl _ _ _) rfl ?_
    exact ⟨HP.out, HB.out⟩
  subst ht
  obtain ⟨n, hn⟩ : ∃ n, rs.length = n := ⟨_, rfl⟩
  have HN := Lib.hid hn
  rw [hn] at hlen
  obtain ⟨n2, hn2⟩ : ∃ n, ri.length = n := ⟨_, rfl⟩
  have HN2 := Lib.hid hn2
  rw [hn2] at hlen2
  clear hn hn2
  by_cases hti : ti = []
  case neg =>
    obtain ⟨f, hf⟩ : ∃ f : Int, (fault ti : Int) = f := ⟨_, rfl⟩
    have b0 := fault_ne hf
    have HF := Lib.hid hf
    have HT := Lib.hid hti
    have HP := Lib.hid (show DiffPost rs [] ri ti (.returned (.tuple #[.int .i64 0, .int .i64 0, .string ⟨#[]⟩, .int .i64 f])) by rw [← hf]; exact .fault2 rfl hti)
    clear hf hti
    go_enter Tryd.func60, Tryd.ntmps60
    go_wp2_with fail
    refine (Runes_any S rs [] _ H.out HS.out).mono ?_
    rintro e w1 ⟨hp, hb1⟩
    have HB := Lib.hid hb1
    clear hb1
    rcases hp with ⟨_, v, rfl, hown⟩ | ⟨ht2, _⟩
    case inr => exact absurd rfl ht2
    obtain ⟨A, c, rfl, hcap, hcell⟩ := own_ints hown
    have HCE := Lib.hid hcell
    have HCAP := Lib.hid hcap
    rw [HN.out]
    clear hown hcap hcell
    go_wp2_with fail
    refine (Runes_any T ri ti _ HI.out HS2.out).mono ?_
    rintro e w2 ⟨hp, hb2⟩
    have HB2 := Lib.hid (HB.out.trans (hb2.mono HB.out.size))
    clear hb2
    rcases hp with ⟨ht2, _⟩ | ⟨_, rfl⟩
    · exact absurd ht2 HT.out
    rw [HF.out]
    go_wp2_with fail
    refine bodyPost_ret (results_tmp4 rfl _ _ _) rfl ?_
    exact ⟨HP.out, HB2.out⟩
  subst hti
  go_enter Tryd.func60, Tryd.ntmps60
  go_wp2_with fail
  refine (Runes_any S rs [] _ H.out HS.out).mono ?_
  rintro e w1 ⟨hp, hb1⟩
  have HB := Lib.hid hb1
  clear hb1
  rcases hp with ⟨_, v, rfl, hown⟩ | ⟨ht2, _⟩
  case inr => exact absurd rfl ht2
  obtain ⟨A, c, rfl, hcap, hcell⟩ := own_ints hown
  have HCE := Lib.hid hcell
  have HCAP := Lib.hid hcap
  rw [HN.out]
  clear hown hcap hcell
  go_wp2_with fail
  refine (Runes_any T ri [] _ HI.out HS2.out).mono ?_
  rintro e w2 ⟨hp, hb2⟩
  have HB2 := Lib.hid (HB.out.trans (hb2.mono HB.out.size))
  rcases hp with ⟨_, v2, rfl, hown2⟩ | ⟨ht2, _⟩
  case inr => exact absurd rfl ht2
  obtain ⟨A2, c2, rfl, hcap2, hcell2⟩ := own_ints hown2
  have HC1 := Lib.hid (HCE.out.below hb2)
  have HC2 := Lib.hid hcell2
  have HCAP2 := Lib.hid hcap2
  rw [HN2.out]
  clear hown2 hcap2 hcell2 hb2
  go_upto_block 0 with fail
  go_cut [14] (fun i wx => ∃ j : Nat, i = .int .i64 j ∧ j ≤ n ∧ j ≤ n2 ∧ (∀ i, i < j → rs.getD i 0 = ri.getD i 0) ∧ (j < n → j < n2 → rs.getD j 0 ≠ ri.getD j 0) ∧ Below w2.heap.size w2 wx)
  case first =>
    go_wp2_with fail
    go_loopw [14] (fun i wr => ∃ j : Nat, i = .int .i64 j ∧ j ≤ n ∧ j ≤ n2 ∧ (∀ i, i < j → rs.getD i 0 = ri.getD i 0) ∧ Below w2.heap.size w2 wr) (fun i _ => n - (intOf i).toNat)
    case atStart => exact ⟨0, rfl, Nat.zero_le _, Nat.zero_le _, fun i h => by omega, Below.refl _ _⟩
    case round =>
      obtain ⟨j, rfl, hj1, hj2, hpre, hb3⟩ := hrel
      have HP := Lib.hid hpre
      have HB3 := Lib.hid hb3
      clear hpre hb3
      by_cases g1 : j < n
      case neg =>
        have d1 : decide (j < n) = false := by simp; omega
        have HG1 := Lib.hid g1
        clear g1
        go_wp2_with fail
        go_quiet (fail)
        go_wp2_with fail
        go_meet
        exact ⟨j, rfl, hj1, hj2, HP.out, fun h => absurd h HG1.out, pw_below HB3.out _⟩
      by_cases g2 : j < n2
      case neg =>
        have d2 : decide (j < n2) = false := by simp; omega
        have i1 : (j : Int) < ↑n := by omega
        have HG2 := Lib.hid g2
        clear g2
        go_wp2_with fail
        go_quiet (fail)
        go_wp2_with fail
        go_meet
        exact ⟨j, rfl, hj1, hj2, HP.out, fun _ h => absurd h HG2.out, pw_below HB3.out _⟩
      have i1 : (j : Int) < ↑n := by omega
      have i2 : (j : Int) < ↑n2 := by omega
      have i3 : (0 : Int) ≤ j := by omega
      obtain ⟨ad1, rfl, hcs1⟩ := (HC1.out.below HB3.out) (by have := HN.out; omega)
      obtain ⟨ad2, rfl, hcs2⟩ := (HC2.out.below HB3.out) (by have := HN2.out; omega)
      have y1 := hcs1 j (by have := HN.out; omega)
      have y2 := hcs2 j (by have := HN2.out; omega)
      have HG := Lib.hid (And.intro g1 g2)
      clear hcs1 hcs2
      by_cases g3 : rs.getD j 0 = ri.getD j 0
      · rw [← g3] at y2
        have G3 := Lib.hid g3
        obtain ⟨x, hx⟩ : ∃ x, rs.getD j 0 = x := ⟨_, rfl⟩
        rw [hx] at y1 y2
        clear g3 hx
        go_wp2_with fail
        go_quiet (fail)
        go_wp2_with fail
        go_roundw
        case rel => exact ⟨j + 1, by go_num, HG.out.1, HG.out.2, fun i h => by (rcases Nat.lt_succ_iff_lt_or_eq.1 h with h | rfl); exact HP.out i h; exact G3.out, pw_below HB3.out _⟩
        case measure => have := HG.out.1; simp [intOf]; omega
      · have G3 := Lib.hid g3
        obtain ⟨x, hx⟩ : ∃ x, rs.getD j 0 = x := ⟨_, rfl⟩
        obtain ⟨y, hy⟩ : ∃ y, ri.getD j 0 = y := ⟨_, rfl⟩
        rw [hx] at y1 g3
        rw [hy] at y2 g3
        have g4 : (x == y) = false := by simpa using g3
        clear g3 hx hy
        go_wp2_with fail
        go_quiet (fail)
        go_wp2_with fail
        go_meet
        exact ⟨j, rfl, hj1, hj2, HP.out, fun _ _ => G3.out, pw_below HB3.out _⟩
  case rest =>
    obtain ⟨j, rfl, hj1, hj2, hpre, hstop, hb3⟩ := hcut
    have HP := Lib.hid hpre
    have HST := Lib.hid hstop
    have HB3 := Lib.hid hb3
    clear hpre hstop hb3
    go_upto_block 2 with fail
    go_cut [15] (fun i wx => ∃ s : Nat, i = .int .i64 s ∧ j + s ≤ n ∧ j + s ≤ n2 ∧ (∀ i, i < s → rs.getD (n - 1 - i) 0 = ri.getD (n2 - 1 - i) 0) ∧ (j + s < n → j + s < n2 → rs.getD (n - 1 - s) 0 ≠ ri.getD (n2 - 1 - s) 0) ∧ Below w2.heap.size w2 wx)
    case first =>
      go_wp2_with fail
      go_loopw [15] (fun i wr => ∃ s : Nat, i = .int .i64 s ∧ j + s ≤ n ∧ j + s ≤ n2 ∧ (∀ i, i < s → rs.getD (n - 1 - i) 0 = ri.getD (n2 - 1 - i) 0) ∧ Below w2.heap.size w2 wr) (fun i _ => n - (intOf i).toNat)
      case atStart => exact ⟨0, rfl, by omega, by omega, fun i h => by omega, HB3.out⟩
      case round =>
        obtain ⟨s, rfl, hs1, hs2, hsuf, hb4⟩ := hrel
        have HU := Lib.hid hsuf
        have HB4 := Lib.hid hb4
        clear hsuf hb4
        have w1 : IntKind.i64.wrap (↑j + ↑s) = ((j + s : Nat) : Int) := by rw [show (j : Int) + s = ((j + s : Nat) : Int) by omega]; exact IntWalk.i64_in _ (by omega)
        obtain ⟨js, hjs⟩ : ∃ js, j + s = js := ⟨_, rfl⟩
        rw [hjs] at w1
        have HJS := Lib.hid hjs
        by_cases g1 : js < n
        case neg =>
          have d1 : decide (js < n) = false := by simp; omega
          have HG1 := Lib.hid g1
          clear g1 hjs
          go_wp2_with fail
          go_quiet (fail)
          go_wp2_with fail
          go_meet
          exact ⟨s, rfl, hs1, hs2, HU.out, fun h => absurd h (by rw [HJS.out]; exact HG1.out), pw_below HB4.out _⟩
        by_cases g2 : js < n2
        case neg =>
          have d2 : decide (js < n2) = false := by simp; omega
          have i1 : (js : Int) < ↑n := by omega
          have HG2 := Lib.hid g2
          clear g2 hjs
          go_wp2_with fail
          go_quiet (fail)
          go_wp2_with fail
          go_meet
          exact ⟨s, rfl, hs1, hs2, HU.out, fun _ h => absurd h (by rw [HJS.out]; exact HG2.out), pw_below HB4.out _⟩
        have i1 : (js : Int) < ↑n := by omega
        have i2 : (js : Int) < ↑n2 := by omega
        obtain ⟨ad1, rfl, hcs1⟩ := (HC1.out.below HB4.out) (by have := HN.out; omega)
        obtain ⟨ad2, rfl, hcs2⟩ := (HC2.out.below HB4.out) (by have := HN2.out; omega)
        have y1 := hcs1 (n - 1 - s) (by have := HN.out; omega)
        have y2 := hcs2 (n2 - 1 - s) (by have := HN2.out; omega)
        have v1 : IntKind.i64.wrap (↑n - 1) = ↑n - 1 := IntWalk.i64_in _ (by omega)
        have v2 : IntKind.i64.wrap (↑n2 - 1) = ↑n2 - 1 := IntWalk.i64_in _ (by omega)
        have v3 : IntKind.i64.wrap (↑n - 1 - ↑s) = ↑(n - 1 - s) := by rw [IntWalk.i64_in _ (by omega)]; omega
        have v4 : IntKind.i64.wrap (↑n2 - 1 - ↑s) = ↑(n2 - 1 - s) := by rw [IntWalk.i64_in _ (by omega)]; omega
        have p1 : (n - 1 - s) < n := by omega
        have p2 : (n2 - 1 - s) < n2 := by omega
        have HG := Lib.hid (show j + s < n ∧ j + s < n2 by omega)
        have HQ := Lib.hid (show ∀ q3 q4, n - 1 - s = q3 → n2 - 1 - s = q4 → rs.getD (n - 1 - s) 0 = rs.getD q3 0 ∧ ri.getD (n2 - 1 - s) 0 = ri.getD q4 0 from fun q3 q4 h1 h2 => by subst h1 h2; exact ⟨rfl, rfl⟩)
        clear hcs1 hcs2 hjs
        by_cases g3 : rs.getD (n - 1 - s) 0 = ri.getD (n2 - 1 - s) 0
        · rw [← g3] at y2
          have G3 := Lib.hid g3
          clear g3
          generalize hx : rs.getD (n - 1 - s) 0 = x at y1 y2
          clear hx
          generalize n - 1 - s = q3 at y1 v3 p1
          generalize n2 - 1 - s = q4 at y2 v4 p2
          go_wp2_with fail
          go_quiet (fail)
          go_wp2_with fail
          go_roundw
          case rel => exact ⟨s + 1, by go_num, by have := HG.out; omega, by have := HG.out; omega, fun i h => by (rcases Nat.lt_succ_iff_lt_or_eq.1 h with h | rfl); exact HU.out i h; exact G3.out, pw_below HB4.out _⟩
          case measure => have := HG.out; simp [intOf]; omega
        · have G3 := Lib.hid g3
          generalize hx : rs.getD (n - 1 - s) 0 = x at y1 g3
          generalize hy : ri.getD (n2 - 1 - s) 0 = y at y2 g3
          have g4 : (x == y) = false := by simpa using g3
          clear g3 hx hy
          generalize n - 1 - s = q3 at y1 v3 p1
          generalize n2 - 1 - s = q4 at y2 v4 p2
          go_wp2_with fail
          go_quiet (fail)
          go_wp2_with fail
          go_meet
          exact ⟨s, rfl, hs1, hs2, HU.out, fun _ _ => G3.out, pw_below HB4.out _⟩
    case rest =>
      obtain ⟨s, rfl, hs1, hs2, hsuf, hstop2, hb4⟩ := hcut
      have HB4 := Lib.hid hb4
      have HM := Lib.hid (show Meets rs ri j s from ⟨by rw [HN.out]; exact hs1, by rw [HN2.out]; exact hs2, HP.out, fun h1 h2 => HST.out (by rw [← HN.out]; exact h1) (by rw [← HN2.out]; exact h2), fun i h => by rw [HN.out, HN2.out]; exact hsuf i h, fun h1 h2 => by rw [HN.out, HN2.out]; exact hstop2 (by rw [← HN.out]; exact h1) (by rw [← HN2.out]; exact h2)⟩)
      have f1 : IntKind.i64.wrap (↑n - ↑j) = ↑n - ↑j := IntWalk.i64_in _ (by omega)
      have f2 : IntKind.i64.wrap (↑n - ↑j - ↑s) = ↑n - ↑j - ↑s := IntWalk.i64_in _ (by omega)
      have f3 : IntKind.i64.wrap (↑n2 - ↑s) = ((n2 - s : Nat) : Int) := by rw [IntWalk.i64_in _ (by omega)]; omega
      have HMID := Lib.hid (show cutR ri j (n2 - s) = midB ri j s by unfold cutR midB; rw [HN2.out])
      have HOK := Lib.hid (cutR_ok HI.out.ok j (n2 - s))
      have HCL := Lib.hid (cutR_len ri j (n2 - s) (by rw [HN2.out]; omega))
      have hcu := (HC2.out.below HB4.out).cut j (n2 - s) c2 (by omega) (by rw [HN2.out]; omega) HCAP2.out
      have hrun := slice64 A2 n2 c2 j (n2 - s) (by omega) (by have := HCAP2.out; have := HN2.out; omega)
      have hms : n2 - s ≤ 1048576 := by omega
      obtain ⟨m, hm⟩ : ∃ m, n2 - s = m := ⟨_, rfl⟩
      rw [hm] at f3 HMID HOK HCL hcu hrun hms
      obtain ⟨V, hV⟩ : ∃ V, (if c2 = j then A2 else A2.map (·.add (j * 1))) = V := ⟨_, rfl⟩
      rw [hV] at hrun hcu
      obtain ⟨k, hk⟩ : ∃ k, m - j = k := ⟨_, rfl⟩
      rw [hk] at hrun HCL
      have hS := String_runes V (c2 - j) (cutR ri j m) wc hcu HOK.out (by rw [HCL.out]; omega)
      rw [HCL.out, HMID.out] at hS
      have HSS := Lib.hid hS
      clear hsuf hstop2 hb4 hcu hm hV hk hS
      go_wp2_with fail
      refine HSS.out.mono ?_
      rintro e w5 ⟨rfl, hb5⟩
      have HB5 := Lib.hid (HB2.out.trans ((HB4.out.trans (hb5.mono HB4.out.size)).mono HB2.out.size))
      clear hb5
      go_wp2_with fail
      refine bodyPost_ret (results_tmp4 rfl _ _ _) rfl ?_
      have := DiffPost.ok (t := []) (ti := []) j s rfl rfl HM.out
      rw [HN.out] at this
      exact ⟨this, HB5.out⟩
end Go.Proofs.YtfgekdefnbohbaaDoor.U

namespace Go.Proofs.YtfgekdefnbohbaaDoor.U
open Go.RowKit Go.Proofs.YtfgekdefnbohbaaDoor.Txt
set_option linter.unusedVariables false
set_option linter.unusedSimpArgs false
attribute [local go_sem] frozen?_alloc_cells

set_option maxRecDepth 100000 in
set_option maxHeartbeats 4000000 in
theorem cuts_splice (o : OpV) (ho : o.Small) (hk : o.kind = 5) (w : World) (hE : EnvU w) : Calls Tryd.prog 43 #[.agg #[.int .i64 o.kind, .string o.s, .string o.t, .int .i64 o.a, .int .i64 o.b]] w fun e w' => e = .returned (.bool true) ∧ Below w.heap.size w w' := by
  obtain ⟨k, S, T, a, b⟩ := o
  obtain rfl : k = 5 := hk
  simp only
  have hs : S.size ≤ 1048576 := ho.s
  have htt : T.size ≤ 1048576 := ho.t
  have ha0 : -9223372036854775808 ≤ a := ho.a0
  have ha1 : a ≤ 9223372036854775807 := ho.a1
  have hb0 : -9223372036854775808 ≤ b := ho.b0
  have hb1 : b ≤ 9223372036854775807 := ho.b1
  obtain ⟨rs, t, h⟩ := halves S
  obtain ⟨ri, ti, hi⟩ := halves T
  have H := Lib.hid h
  have HI := Lib.hid hi
  clear h hi
  obtain ⟨x, e, hp⟩ := splice_is rs t ri ti a b
  have HP := Lib.hid hp
  clear hp
  have HE := Lib.hid hE
  clear hE ho
  have HB0 := Lib.hid (show Below w.heap.size w (w.alloc (.cells #[.int .i64 5, .string S, .string T, .int .i64 a, .int .i64 b] 67)) from (Below.refl _ _).alloc (Nat.le_refl _) _)
  have hz := heap_alloc_new w (.cells #[.int .i64 5, .string S, .string T, .int .i64 a, .int .i64 b] 67)
  have d1 : (w.alloc (.cells #[.int .i64 5, .string S, .string T, .int .i64 a, .int .i64 b] 67)).cell? ⟨w.heap.size, 1, none⟩ = some (.string S) := by rw [Lib.cell_of_heap hz]; rfl
  have d2 : (w.alloc (.cells #[.int .i64 5, .string S, .string T, .int .i64 a, .int .i64 b] 67)).cell? ⟨w.heap.size, 2, none⟩ = some (.string T) := by rw [Lib.cell_of_heap hz]; rfl
  have d3 : (w.alloc (.cells #[.int .i64 5, .string S, .string T, .int .i64 a, .int .i64 b] 67)).cell? ⟨w.heap.size, 3, none⟩ = some (.int .i64 a) := by rw [Lib.cell_of_heap hz]; rfl
  have d4 : (w.alloc (.cells #[.int .i64 5, .string S, .string T, .int .i64 a, .int .i64 b] 67)).cell? ⟨w.heap.size, 4, none⟩ = some (.int .i64 b) := by rw [Lib.cell_of_heap hz]; rfl
  have HD := Lib.hid (And.intro d1 (And.intro d2 (And.intro d3 d4)))
  clear hz d1 d2 d3 d4
  go_enter Tryd.func43, Tryd.ntmps43
  go_wp2_with fail
  refine (Splice_is S T rs t ri ti a b x e _ H.out HI.out hs htt ha0 ha1 HP.out (HE.out.below HB0.out).bars).mono ?_
  rintro e' w1 ⟨rfl, hw1⟩
  have HB1 := Lib.hid (HB0.out.trans (hw1.mono HB0.out.size))
  have d1 := cell_below hw1 HD.out.1
  have d2 := cell_below hw1 HD.out.2.1
  have d3 := cell_below hw1 HD.out.2.2.1
  have d4 := cell_below hw1 HD.out.2.2.2
  clear hw1
  go_wp2_with fail
  refine (RefSplice_is S T rs t ri ti a b x e _ H.out HI.out hs htt ha0 ha1 HP.out).mono ?_
  rintro e' w2 ⟨rfl, hw2⟩
  have HB2 := Lib.hid (HB1.out.trans (hw2.mono HB1.out.size))
  clear hw2 d1 d2 d3 d4
  go_wp2_with fail
  go_ret
  exact ⟨rfl, HB2.out⟩

set_option maxRecDepth 100000 in
set_option maxHeartbeats 4000000 in
theorem cuts_diff (o : OpV) (ho : o.Small) (hk : o.kind = 6) (w : World) (hE : EnvU w) : Calls Tryd.prog 43 #[.agg #[.int .i64 o.kind, .string o.s, .string o.t, .int .i64 o.a, .int .i64 o.b]] w fun e w' => e = .returned (.bool true) ∧ Below w.heap.size w w' := by
  obtain ⟨k, S, T, a, b⟩ := o
  obtain rfl : k = 6 := hk
  simp only
  have hs : S.size ≤ 1048576 := ho.s
  have htt : T.size ≤ 1048576 := ho.t
  have ha0 : -9223372036854775808 ≤ a := ho.a0
  have ha1 : a ≤ 9223372036854775807 := ho.a1
  have hb0 : -9223372036854775808 ≤ b := ho.b0
  have hb1 : b ≤ 9223372036854775807 := ho.b1
  obtain ⟨rs, t, h⟩ := halves S
  obtain ⟨ri, ti, hi⟩ := halves T
  have H := Lib.hid h
  have HI := Lib.hid hi
  clear h hi
  have HE := Lib.hid hE
  clear hE ho
  have HB0 := Lib.hid (show Below w.heap.size w (w.alloc (.cells #[.int .i64 6, .string S, .string T, .int .i64 a, .int .i64 b] 67)) from (Below.refl _ _).alloc (Nat.le_refl _) _)
  have hz := heap_alloc_new w (.cells #[.int .i64 6, .string S, .string T, .int .i64 a, .int .i64 b] 67)
  have d1 : (w.alloc (.cells #[.int .i64 6, .string S, .string T, .int .i64 a, .int .i64 b] 67)).cell? ⟨w.heap.size, 1, none⟩ = some (.string S) := by rw [Lib.cell_of_heap hz]; rfl
  have d2 : (w.alloc (.cells #[.int .i64 6, .string S, .string T, .int .i64 a, .int .i64 b] 67)).cell? ⟨w.heap.size, 2, none⟩ = some (.string T) := by rw [Lib.cell_of_heap hz]; rfl
  have d3 : (w.alloc (.cells #[.int .i64 6, .string S, .string T, .int .i64 a, .int .i64 b] 67)).cell? ⟨w.heap.size, 3, none⟩ = some (.int .i64 a) := by rw [Lib.cell_of_heap hz]; rfl
  have d4 : (w.alloc (.cells #[.int .i64 6, .string S, .string T, .int .i64 a, .int .i64 b] 67)).cell? ⟨w.heap.size, 4, none⟩ = some (.int .i64 b) := by rw [Lib.cell_of_heap hz]; rfl
  have HD := Lib.hid (And.intro d1 (And.intro d2 (And.intro d3 d4)))
  clear hz d1 d2 d3 d4
  go_enter Tryd.func43, Tryd.ntmps43
  go_wp2_with fail
  refine (Diff_is S T rs t ri ti _ H.out HI.out hs htt (HE.out.below HB0.out).bars).mono ?_
  rintro e' w1 ⟨hp, hw1⟩
  obtain ⟨x1, x2, x3, x4, rfl, hu⟩ := diff_pair hp
  have HU := Lib.hid hu
  clear hp hu
  have HB1 := Lib.hid (HB0.out.trans (hw1.mono HB0.out.size))
  have d1 := cell_below hw1 HD.out.1
  have d2 := cell_below hw1 HD.out.2.1
  have d3 := cell_below hw1 HD.out.2.2.1
  have d4 := cell_below hw1 HD.out.2.2.2
  clear hw1
  go_wp2_with fail
  refine (RefDiff_is S T rs t ri ti _ H.out HI.out hs htt).mono ?_
  rintro e' w2 ⟨hp2, hw2⟩
  obtain rfl := HU.out _ hp2
  clear hp2
  have HB2 := Lib.hid (HB1.out.trans (hw2.mono HB1.out.size))
  clear hw2 d1 d2 d3 d4
  go_wp2_with fail
  go_ret
  exact ⟨rfl, HB2.out⟩

set_option maxRecDepth 100000 in
set_option maxHeartbeats 4000000 in
theorem plays_splice (o : OpV) (ho : o.Small) (hk : o.kind = 5) : PlaysWell o := by
  intro w hE
  have HI := Lib.hid (fun W hW => cuts_splice o ho hk W hW)
  obtain ⟨k, S, T, a, b⟩ := o
  obtain rfl : k = 5 := hk
  simp only at HI ⊢
  have HE := Lib.hid hE
  clear hE ho
  have HB0 := Lib.hid (show Below w.heap.size w (w.alloc (.cells #[.int .i64 5, .string S, .string T, .int .i64 a, .int .i64 b] 67)) from (Below.refl _ _).alloc (Nat.le_refl _) _)
  go_enter Tryd.func32, Tryd.ntmps32
  go_wp2_with fail
  refine (HI.out _ (HE.out.below HB0.out)).mono ?_
  rintro e' w1 ⟨rfl, hw1⟩
  have HB1 := Lib.hid (HB0.out.trans (hw1.mono HB0.out.size))
  clear hw1
  go_wp2_with fail
  go_ret
  exact ⟨rfl, HB1.out⟩

set_option maxRecDepth 100000 in
set_option maxHeartbeats 4000000 in
theorem plays_diff (o : OpV) (ho : o.Small) (hk : o.kind = 6) : PlaysWell o := by
  intro w hE
  have HI := Lib.hid (fun W hW => cuts_diff o ho hk W hW)
  obtain ⟨k, S, T, a, b⟩ := o
  obtain rfl : k = 6 := hk
  simp only at HI ⊢
  have HE := Lib.hid hE
  clear hE ho
  have HB0 := Lib.hid (show Below w.heap.size w (w.alloc (.cells #[.int .i64 6, .string S, .string T, .int .i64 a, .int .i64 b] 67)) from (Below.refl _ _).alloc (Nat.le_refl _) _)
  go_enter Tryd.func32, Tryd.ntmps32
  go_wp2_with fail
  refine (HI.out _ (HE.out.below HB0.out)).mono ?_
  rintro e' w1 ⟨rfl, hw1⟩
  have HB1 := Lib.hid (HB0.out.trans (hw1.mono HB0.out.size))
  clear hw1
  go_wp2_with fail
  go_ret
  exact ⟨rfl, HB1.out⟩

theorem splices_walk (w : World) (A : Option Addr) (c : Nat) (os : List OpV) (hS : Script w A os) (hn : os.length ≤ 1048576) (hsm : ∀ o ∈ os, o.Small) (hE : EnvU w) :
    Calls Tryd.prog 8 #[.slice A os.length c] w fun e w' => e = .returned (.bool true) ∧ Below w.heap.size w w' := by
  have HK := Lib.hid (kinds_any A c os 5 6 w hS hn hE fun o ho h1 h2 => by
    have hs := hsm o ho
    have : o.kind = 5 ∨ o.kind = 6 := by omega
    rcases this with h | h
    · exact plays_splice o hs h
    · exact plays_diff o hs h)
  clear hS hsm hE
  go_enter Tryd.func8, Tryd.ntmps8
  go_wp2_with fail
  refine HK.out.mono ?_
  rintro e w1 ⟨rfl, hb⟩
  have HB := Lib.hid hb
  clear hb
  go_wp2_with fail
  go_ret
  exact ⟨rfl, HB.out⟩
end Go.Proofs.YtfgekdefnbohbaaDoor.U
