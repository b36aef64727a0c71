/- Splice: the program's answer is the reference's, at every two strings and all numbers. -/
import Derived.Test.YtfgekdefnbohbaaDoorRSlices
import Derived.Deep.QuietTactic
import Derived.BigQuiet
import Derived.Deep.RegionHeld3
namespace Go.Proofs.YtfgekdefnbohbaaDoor.U
open Go.RowKit Go.Proofs.YtfgekdefnbohbaaDoor.Txt
set_option linter.unusedVariables false
set_option linter.unusedSimpArgs false
attribute [local go_sem] frozen?_alloc_cells

/-- What Splice answers. -/
inductive SpliceIs (rs : List Int) (t : List UInt8) (ri : List Int) (ti : List UInt8) (a b : Int) : ByteArray → Int → Prop where
  | fault (f : Int) (ht : t ≠ []) (hf : (fault t : Int) = f) : SpliceIs rs t ri ti a b ⟨#[]⟩ f
  | fault2 (f : Int) (ht : t = []) (hti : ti ≠ []) (hf : (fault ti : Int) = f) : SpliceIs rs t ri ti a b ⟨#[]⟩ f
  | out (ht : t = []) (hti : ti = []) (h : a < 0 ∨ b < 0 ∨ rs.length < a ∨ rs.length - a < b) : SpliceIs rs t ri ti a b ⟨#[]⟩ 12
  | ok (at_ del : Nat) (ht : t = []) (hti : ti = []) (ha : a = at_) (hb : b = del) (h2 : at_ + del ≤ rs.length) : SpliceIs rs t ri ti a b (Str (rs.take at_ ++ ri ++ rs.drop (at_ + del))) 0
theorem splice_is (rs : List Int) (t : List UInt8) (ri : List Int) (ti : List UInt8) (a b : Int) : ∃ x e, SpliceIs rs t ri ti a b x e := by
  by_cases ht : t = []
  · by_cases hti : ti = []
    · by_cases h : a < 0 ∨ b < 0 ∨ rs.length < a ∨ rs.length - a < b
      · exact ⟨_, _, .out ht hti h⟩
      · exact ⟨_, _, .ok a.toNat b.toNat ht hti (by omega) (by omega) (by omega)⟩
    · exact ⟨_, _, .fault2 _ ht hti rfl⟩
  · exact ⟨_, _, .fault _ ht rfl⟩
theorem str_app (a b : List Int) : Str (a ++ b) = Str a ++ Str b := by
  apply ByteArray.ext
  rw [← Array.toList_inj, str_list, app_list, str_list, str_list, enc_append]
theorem Text.isStr {S : ByteArray} {rs : List Int} (h : Text S rs) : S = Str rs := by
  apply ByteArray.ext
  rw [← Array.toList_inj, str_list, h.eq]
theorem head_str {S : ByteArray} {rs : List Int} (h : Text S rs) (k : Nat) (hk : k ≤ rs.length) : S.extract 0 (psz rs k) = Str (rs.take k) := by
  apply ByteArray.ext
  rw [← Array.toList_inj, str_list, extract_list S 0 _ (Nat.zero_le _), h.eq, enc_take]
  rfl
theorem tail_str {S : ByteArray} {rs : List Int} (h : Text S rs) (k : Nat) (hk : k ≤ rs.length) : S.extract (psz rs k) S.size = Str (rs.drop k) := by
  apply ByteArray.ext
  have h1 : psz rs k ≤ S.size := by rw [h.len]; exact psz_le rs k
  rw [← Array.toList_inj, str_list, extract_list S _ _ h1, h.eq, h.len, List.take_length, enc_drop]

set_option maxRecDepth 100000 in
set_option maxHeartbeats 4000000 in
theorem Splice_is (S T : ByteArray) (rs : List Int) (t : List UInt8) (ri : List Int) (ti : List UInt8) (a b : Int) (x : ByteArray) (e : Int) (w : World) (h : Halves S rs t) (hi : Halves T ri ti) (hs : S.size ≤ 4194304) (hss : T.size ≤ 4194304)
    (ha0 : -9223372036854775808 ≤ a) (ha1 : a ≤ 9223372036854775807) (hp : SpliceIs rs t ri ti a b x e) (hg : Bars w) :
    Calls Tryd.prog 20 #[.string S, .int .i64 a, .int .i64 b, .string T] w fun e' w' => e' = .returned (.tuple #[.string x, .int .i64 e]) ∧ Below w.heap.size w w' := by
  have hC := Check_halves S rs t w h (by omega) hg
  have HC2 := Lib.hid (fun W hW => Check_halves T ri ti W hi (by omega) hW)
  have HG := Lib.hid hg
  have hlen := (len_bound h hs).1
  have hlen2 := (len_bound hi hss).2
  cases hp with
  | fault f ht hf =>
    rw [chkN_fault ht hf] at hC
    have b0 := fault_ne hf
    obtain ⟨p, hp⟩ : ∃ p : Int, ((enc rs).length : Int) = p := ⟨_, rfl⟩
    rw [hp] at hC
    have HC := Lib.hid hC
    clear hC hp hf ht h hg hi
    go_enter Tryd.func20, Tryd.ntmps20
    go_wp2_with fail
    refine HC.out.mono ?_
    rintro e w1 ⟨rfl, hb1⟩
    have HB := Lib.hid hb1
    clear hb1
    go_wp2_with fail
    go_ret2
    exact ⟨rfl, HB.out⟩
  | fault2 f ht hti hf =>
    subst ht
    rw [chkN_text] at hC
    have hC2 := HC2.out
    rw [chkN_fault hti hf] at hC2
    have b0 := fault_ne hf
    obtain ⟨p, hp⟩ : ∃ p : Int, ((enc ri).length : Int) = p := ⟨_, rfl⟩
    rw [hp] at hC2
    obtain ⟨n, hn⟩ : ∃ n, rs.length = n := ⟨_, rfl⟩
    rw [hn] at hC
    have HC := Lib.hid hC
    have HC3 := Lib.hid hC2
    clear hC hC2 HC2 hp hf hn hti h hg hi
    go_enter Tryd.func20, Tryd.ntmps20
    go_wp2_with fail
    refine HC.out.mono ?_
    rintro e w1 ⟨rfl, hb1⟩
    have HB := Lib.hid hb1
    clear hb1
    go_wp2_with fail
    refine (HC3.out _ (HG.out.below HB.out)).mono ?_
    rintro e w2 ⟨rfl, hb2⟩
    have HB2 := Lib.hid (HB.out.trans (hb2.mono HB.out.size))
    clear hb2
    go_wp2_with fail
    go_ret2
    exact ⟨rfl, HB2.out⟩
  | out ht hti ha =>
    subst ht hti
    rw [chkN_text] at hC
    have hC2 := HC2.out
    rw [chkN_text] at hC2
    obtain ⟨n2, hn2⟩ : ∃ n, ri.length = n := ⟨_, rfl⟩
    rw [hn2] at hC2
    obtain ⟨n, hn⟩ : ∃ n, rs.length = n := ⟨_, rfl⟩
    rw [hn] at hC ha hlen
    have HC := Lib.hid hC
    have HC3 := Lib.hid hC2
    clear hC hC2 HC2 hn hn2 h hg hi
    by_cases h1 : a < 0
    · clear ha
      go_enter Tryd.func20, Tryd.ntmps20
      go_wp2_with fail
      refine HC.out.mono ?_
      rintro e w1 ⟨rfl, hb1⟩
      have HB := Lib.hid hb1
      clear hb1
      go_wp2_with fail
      refine (HC3.out _ (HG.out.below HB.out)).mono ?_
      rintro e w2 ⟨rfl, hb2⟩
      have HB2 := Lib.hid (HB.out.trans (hb2.mono HB.out.size))
      clear hb2
      go_wp2_with fail
      go_ret2
      exact ⟨rfl, HB2.out⟩
    · by_cases h2 : b < 0
      · clear ha
        go_enter Tryd.func20, Tryd.ntmps20
        go_wp2_with fail
        refine HC.out.mono ?_
        rintro e w1 ⟨rfl, hb1⟩
        have HB := Lib.hid hb1
        clear hb1
        go_wp2_with fail
        refine (HC3.out _ (HG.out.below HB.out)).mono ?_
        rintro e w2 ⟨rfl, hb2⟩
        have HB2 := Lib.hid (HB.out.trans (hb2.mono HB.out.size))
        clear hb2
        go_wp2_with fail
        go_ret2
        exact ⟨rfl, HB2.out⟩
      · by_cases h3 : (n : Int) < a
        · clear ha
          go_enter Tryd.func20, Tryd.ntmps20
          go_wp2_with fail
          refine HC.out.mono ?_
          rintro e w1 ⟨rfl, hb1⟩
          have HB := Lib.hid hb1
          clear hb1
          go_wp2_with fail
          refine (HC3.out _ (HG.out.below HB.out)).mono ?_
          rintro e w2 ⟨rfl, hb2⟩
          have HB2 := Lib.hid (HB.out.trans (hb2.mono HB.out.size))
          clear hb2
          go_wp2_with fail
          go_ret2
          exact ⟨rfl, HB2.out⟩
        · have h4 : (n : Int) - a < b := by omega
          have e0 : IntKind.i64.wrap ((n : Int) - a) = (n : Int) - a := IntWalk.i64_in _ (by omega)
          clear ha
          go_enter Tryd.func20, Tryd.ntmps20
          go_wp2_with fail
          refine HC.out.mono ?_
          rintro e w1 ⟨rfl, hb1⟩
          have HB := Lib.hid hb1
          clear hb1
          go_wp2_with fail
          refine (HC3.out _ (HG.out.below HB.out)).mono ?_
          rintro e w2 ⟨rfl, hb2⟩
          have HB2 := Lib.hid (HB.out.trans (hb2.mono HB.out.size))
          clear hb2
          go_wp2_with fail
          go_ret2
          exact ⟨rfl, HB2.out⟩
  | ok at_ del ht hti ha hb h2 =>
    subst ht hti
    rw [chkN_text] at hC
    have hC2 := HC2.out
    rw [chkN_text] at hC2
    obtain ⟨n2, hn2⟩ : ∃ n, ri.length = n := ⟨_, rfl⟩
    rw [hn2] at hC2
    subst ha hb
    have HT := Lib.hid (h.text (by omega))
    have HTI := Lib.hid (hi.text (by omega))
    have HR := Lib.hid (show Str (rs.take at_) ++ T ++ Str (rs.drop (at_ + del)) = Str (rs.take at_ ++ ri ++ rs.drop (at_ + del)) by rw [str_app, str_app, HTI.out.isStr])
    have HP1 := Lib.hid (fun w => place_in S rs at_ w HT.out (by omega))
    have HP2 := Lib.hid (fun w => place_in S rs (at_ + del) w HT.out h2)
    have HS1 := Lib.hid (head_str HT.out at_ (by omega))
    have HS2 := Lib.hid (tail_str HT.out (at_ + del) h2)
    have hp1 : psz rs at_ ≤ S.size := by have := psz_le rs at_; rw [HT.out.len]; exact this
    have hp2 : psz rs (at_ + del) ≤ S.size := by have := psz_le rs (at_ + del); rw [HT.out.len]; exact this
    obtain ⟨n, hn⟩ : ∃ n, rs.length = n := ⟨_, rfl⟩
    rw [hn] at hC h2 hlen
    have HC := Lib.hid hC
    have HC3 := Lib.hid hC2
    obtain ⟨p, hp⟩ : ∃ p, psz rs at_ = p := ⟨_, rfl⟩
    obtain ⟨q, hq⟩ : ∃ q, psz rs (at_ + del) = q := ⟨_, rfl⟩
    rw [hp] at hp1 HP1 HS1
    rw [hq] at hp2 HP2 HS2
    have hx1 : (Str (rs.take at_)).size ≤ 4194304 := by rw [← HS1.out]; simp; omega
    have hx2 : (Str (rs.drop (at_ + del))).size ≤ 4194304 := by rw [← HS2.out]; simp; omega
    obtain ⟨X1, hX1⟩ : ∃ X, Str (rs.take at_) = X := ⟨_, rfl⟩
    obtain ⟨X2, hX2⟩ : ∃ X, Str (rs.drop (at_ + del)) = X := ⟨_, rfl⟩
    obtain ⟨X, hX⟩ : ∃ X, Str (rs.take at_ ++ ri ++ rs.drop (at_ + del)) = X := ⟨_, rfl⟩
    rw [hX1] at HS1 HR hx1
    rw [hX2] at HS2 HR hx2
    rw [hX] at HR ⊢
    have r1 : ∀ W : World, (Instr.slice 9 (.string S) none (some (.int .i64 p)) none).run Tryd.prog W = .ok (.string X1) W := fun W => by
      rw [run_slice_string_h W 9 S Tryd.underlying9 .i64 p (by omega) (by omega), show ((p : Int)).toNat = p by omega, HS1.out]
    have r2 : ∀ W : World, (Instr.slice 9 (.string S) (some (.int .i64 q)) none none).run Tryd.prog W = .ok (.string X2) W := fun W => by
      rw [run_slice_string_l W 9 S Tryd.underlying9 .i64 q (by omega) (by omega), show ((q : Int)).toNat = q by omega, HS2.out]
    have z1 : ¬ (at_ : Int) < 0 := by omega
    have z2 : ¬ (del : Int) < 0 := by omega
    have z3 : ¬ n < at_ := by omega
    have e0 : IntKind.i64.wrap ((n : Int) - (at_ : Int)) = ((n - at_ : Nat) : Int) := by rw [show (n : Int) - at_ = ((n - at_ : Nat) : Int) by omega]; exact IntWalk.i64_in _ (by omega)
    have z4 : ¬ n - at_ < del := by omega
    have e1 : IntKind.i64.wrap ((at_ : Int) + (del : Int)) = ((at_ + del : Nat) : Int) := by rw [show (at_ : Int) + del = ((at_ + del : Nat) : Int) by omega]; exact IntWalk.i64_in _ (by omega)
    obtain ⟨ad, had⟩ : ∃ ad, at_ + del = ad := ⟨_, rfl⟩
    rw [had] at e1 HP2
    obtain ⟨nd, hnd⟩ : ∃ nd, n - at_ = nd := ⟨_, rfl⟩
    rw [hnd] at e0 z4
    clear hC hC2 HC2 hn hn2 h hg hi hp hq hX1 hX2 hX had hnd
    go_enter Tryd.func20, Tryd.ntmps20
    go_wp2_with fail
    refine HC.out.mono ?_
    rintro e w1 ⟨rfl, hb1⟩
    have HB := Lib.hid hb1
    clear hb1
    go_wp2_with fail
    refine (HC3.out _ (HG.out.below HB.out)).mono ?_
    rintro e w2 ⟨rfl, hb2⟩
    have HB2 := Lib.hid (HB.out.trans (hb2.mono HB.out.size))
    clear hb2
    go_wp2_with fail
    refine (HP1.out _ ((HG.out.below HB2.out))).mono ?_
    rintro e w3 ⟨rfl, hb3⟩
    have HB3 := Lib.hid (HB2.out.trans (hb3.mono HB2.out.size))
    clear hb3
    go_wp2_with fail
    refine (HP2.out _ ((HG.out.below HB3.out))).mono ?_
    rintro e w4 ⟨rfl, hb4⟩
    have HB4 := Lib.hid (HB3.out.trans (hb4.mono HB3.out.size))
    clear hb4 e0 e1
    go_wp2_with fail
    go_quiet (fail)
    go_wp2_with fail
    go_ret2
    exact ⟨by rw [← HR.out]; rfl, pw_below HB4.out _⟩
end Go.Proofs.YtfgekdefnbohbaaDoor.U
