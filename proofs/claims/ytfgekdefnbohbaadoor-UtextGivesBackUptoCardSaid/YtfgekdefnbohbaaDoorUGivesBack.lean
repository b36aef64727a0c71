/- UtextGivesBack walked. -/
import Derived.Test.YtfgekdefnbohbaaDoorUUnq
import Derived.Test.YtfgekdefnbohbaaDoorUTwo
import Derived.Test.YtfgekdefnbohbaaDoorRSplices
import Derived.Test.YtfgekdefnbohbaaDoorUDiff
import Derived.Test.YtfgekdefnbohbaaDoorUOtherP
import Derived.Test.YtfgekdefnbohbaaDoorUPick
import Derived.Deep.RegionHeld3
import Derived.Deep.DeepCutAuto
import Derived.Deep.DrawnRows
namespace Go.Proofs.YtfgekdefnbohbaaDoor.U
open Go.RowKit Go.Proofs.YtfgekdefnbohbaaDoor.Txt
set_option linter.unusedVariables false
set_option linter.unusedSimpArgs false
attribute [local go_sem ↓] Go.wp_at_zero Go.wp_at_succ

theorem meets_back {L M : List Int} {h t : Nat} (m : Meets L M h t) : L.take h ++ midB M h t ++ L.drop (L.length - t) = M := by
  have la := m.la
  have lb := m.lb
  have e1 : L.take h = M.take h := by
    apply List.ext_getElem
    · simp; omega
    · intro i h1 h2
      simp at h1 h2
      have := m.pre i (by omega)
      simpa [List.getD, show i < L.length by omega, show i < M.length by omega] using this
  have e2 : L.drop (L.length - t) = M.drop (M.length - t) := by
    apply List.ext_getElem
    · simp; omega
    · intro i h1 h2
      simp at h1 h2
      have := m.suf (t - 1 - i) (by omega)
      rw [show L.length - 1 - (t - 1 - i) = L.length - t + i by omega, show M.length - 1 - (t - 1 - i) = M.length - t + i by omega] at this
      simpa [List.getD, show L.length - t + i < L.length by omega, show M.length - t + i < M.length by omega] using this
  rw [e1, e2]
  unfold midB
  have e3 : M.take h = (M.take (M.length - t)).take h := by rw [List.take_take, Nat.min_eq_left (by omega)]
  rw [e3, List.take_append_drop, List.take_append_drop]
theorem Text.halves {S : ByteArray} {rs : List Int} (h : Text S rs) : Halves S rs [] := ⟨by rw [h.eq, List.append_nil], h.ok, .inl rfl⟩
theorem Text.part {rs : List Int} (h : ∀ r ∈ rs, TxtRune r) (hl : rs.length ≤ 35184372087808) : Text (Str rs) rs :=
  ⟨str_list _, h, by rw [str_size]; have := enc_len_le rs; omega⟩
theorem let_str (A : Option Addr) (n c : Nat) (xs : List Int) (w : World) (hn : n ≤ 1048576) (hr : Reads32 w A n xs) :
    Calls Tryd.prog 15 #[.slice A n c] w fun e w' => ∃ B m d, e = .returned (.slice B m d) ∧ Below w.heap.size w w' ∧ (convert 22 9 (.slice B m d)).run Tryd.prog w' = .ok (.string (Str (xs.map letR))) w' := by
  refine (let_any A n c xs w hr).mono ?_
  rintro e w' ⟨v2, rfl, hown, hb⟩
  have h2 : xs.length = (xs.map letR).length := (List.length_map _).symm
  rw [h2] at hown
  obtain ⟨B, d, rfl, hd, hc⟩ := own_runes hown
  exact ⟨B, _, d, rfl, hb, conv_runes hc⟩
/-- What stands behind the making of the two strings. -/
structure GbOut (w1 w : World) (n : Nat) (S : ByteArray) (m : List Int) (s x y : Value) : Prop where
  below : Below w1.heap.size w1 w
  s : ∃ A c, s = .slice A n c
  x : x = .string S
  y : y = .string (Str m)
set_option maxRecDepth 100000 in
set_option maxHeartbeats 8000000 in
theorem givesBack_walk (W : World) (v : Value) (A1 : Option Addr) (n1 c1 : Nat) (xs1 : List Int) (A2 : Option Addr) (n2 c2 : Nat) (xs2 : List Int) (k : Int) (raw : ByteArray) (b : Int) (hv : TwoIn W v A1 n1 c1 xs1 A2 n2 c2 xs2 k raw b) (hsm : n1 + n2 + raw.size ≤ 1048576) (hg : Bars W) (hE : EnvQ W) :
    Calls Tryd.prog 5 #[v] W fun e w' => e = .returned (.bool true) ∧ Below W.heap.size W w' := by
  have hs1 : n1 ≤ 1048576 := by omega
  have hs2 : n2 ≤ 1048576 := by omega
  have hs3 : raw.size ≤ 1048576 := by omega
  obtain ⟨rfl, r1, r2, hk0, hk1, hraw, _, _⟩ := hv
  have hl1 := r1.1
  have hl2 := r2.1
  have L0 := Live.new hg #[.slice A1 n1 c1, .slice A2 n2 c2, .int .i64 k, .string raw, .int .u8 b] 24
  have HG := Lib.hid hg
  have HE := Lib.hid hE
  have HR1 := Lib.hid r1
  have HR2 := Lib.hid r2
  have HL0 := Lib.hid L0
  clear hg hE r1 r2 L0 hsm
  go_enter Tryd.func5, Tryd.ntmps5
  go_wp2_with fail
  refine (let_any A1 n1 c1 xs1 _ (HR1.out.below HL0.out.below)).mono ?_
  rintro e w1 ⟨v1, rfl, hown, hb1⟩
  have hlm : xs1.length = (xs1.map letR).length := (List.length_map _).symm
  rw [hlm] at hown
  have ht := Text.str xs1 (by omega)
  have hL : (xs1.map letR).length = xs1.length := by simp
  generalize xs1.map letR = l at hown hlm ht hL
  have hln : l.length ≤ 1048576 := by omega
  obtain ⟨A, c, rfl, hcc, hcl⟩ := own_runes hown
  have hcv := conv_runes (c := c) hcl
  have HC1 := Lib.hid hcl
  have HL1 := Lib.hid (HL0.out.step hb1)
  have hsz := ht.len
  have hsz2 := enc_len_le l
  generalize hSS : Str l = S at hcv ht hsz
  have HSS := Lib.hid hSS
  have HT := Lib.hid ht
  have x1 := HL1.out.cell 1 rfl
  have hS : S.size ≤ 4194304 := by omega
  clear hown hb1 hcl ht HR1 HL0 hlm hSS hsz hsz2 hL
  have CL : Hid (∀ Wx, Below w1.heap.size w1 Wx → Calls Tryd.prog 15 #[.slice A2 n2 c2] Wx fun e w' => ∃ B m d, e = .returned (.slice B m d) ∧ Below w1.heap.size w1 w' ∧ (convert 22 9 (.slice B m d)).run Tryd.prog w' = .ok (.string (Str (xs2.map letR))) w' ∧ (convert 22 9 (.slice A l.length c)).run Tryd.prog w' = .ok (.string S) w') := Lib.hid fun Wx hb => by
    refine (let_str A2 n2 c2 xs2 Wx hs2 (HR2.out.below (HL1.out.below.trans (hb.mono HL1.out.below.size)))).mono ?_
    rintro e w' ⟨B, m, d, rfl, hb', hcv'⟩
    refine ⟨B, m, d, rfl, hb.trans (hb'.mono hb.size), hcv', ?_⟩
    rw [← HSS.out]; exact conv_runes (HC1.out.below (hb.trans (hb'.mono hb.size)))
  have hcvd : (convert 22 9 (.slice A l.length c)).run Tryd.prog w1.drew = .ok (.string S) w1.drew := by
    rw [← HSS.out]; exact conv_runes (W := w1.drew) HC1.out
  go_upto_region 2 with fail
  go_cut [3, 4, 5] (fun s x y wx => GbOut w1 wx l.length S (xs2.map letR) s x y)
  case first =>
    go_region_with ((with_reducible refine (CL.out _ (by first | exact Below.refl _ _ | exact (Below.refl _ _).drew | assumption | exact Below.drew (by assumption))).mono ?_); rintro e w' ⟨B2, m2, d2, rfl, hb2, hcv2, hcv3⟩)
    all_goals (go_wp2_with fail)
    all_goals
      go_meet
      exact ⟨by assumption, ⟨_, _, rfl⟩, rfl, rfl⟩
  case rest =>
    obtain ⟨hbx, ⟨A', c', rfl⟩, rfl, rfl⟩ := hcut
    have HL2 := Lib.hid (HL1.out.step hbx)
    have ht2 := Text.part (lets_good xs2) (by simp; omega)
    have hM : (xs2.map letR).length ≤ 1048576 := by simp; omega
    generalize xs2.map letR = M at ht2 hM
    have hT2 : (Str M).size ≤ 4194304 := by rw [ht2.len]; have := enc_len_le M; omega
    generalize hTT : Str M = T at ht2 hT2
    have HTT := Lib.hid hTT
    have HT2 := Lib.hid ht2
    clear hbx hcvd hcv x1 hTT ht2 CL HC1
    go_wp2_with fail
    refine (check_at S l.length 0 0 _ (by unfold maxLen; omega) HL2.out.bars HT.out.chk).mono ?_
    rintro e w3 ⟨rfl, hb3⟩
    have HL3 := Lib.hid (HL2.out.step hb3)
    clear hb3
    have x2 := HL3.out.cell 2 rfl
    have hk2 := Int.emod_nonneg k (show ((l.length : Int) + 1) ≠ 0 by omega)
    have hk3 := Int.emod_lt_of_pos k (show 0 < ((l.length : Int) + 1) by omega)
    go_wp2_with fail
    refine (pick_any k (l.length + 1) _ (by omega) (by omega) hk0 hk1).mono ?_
    rintro e w' ⟨rfl, rfl⟩
    obtain ⟨K, hK⟩ : ∃ K : Nat, k % ((l.length : Int) + 1) = K := ⟨_, (Int.toNat_of_nonneg hk2).symm⟩
    rw [hK]
    have hKl : K ≤ l.length := by omega
    clear hK hk2 hk3 x2
    go_wp2_with fail
    refine (Slice_is S l [] 0 K _ 0 _ HT.out.halves hS (.ok 0 K rfl rfl rfl (by omega) hKl) HL3.out.bars).mono ?_
    rintro e w4 ⟨rfl, hb4⟩
    have HL4 := Lib.hid (HL3.out.step hb4)
    clear hb4
    go_wp2_with fail
    refine (Slice_is S l [] K l.length _ 0 _ HT.out.halves hS (.ok K l.length rfl rfl rfl hKl (Nat.le_refl _)) HL4.out.bars).mono ?_
    rintro e w5 ⟨rfl, hb5⟩
    have HL5 := Lib.hid (HL4.out.step hb5)
    clear hb5
    have c0 : cutR l 0 K = l.take K := rfl
    have c1 : cutR l K l.length = l.drop K := by unfold cutR; rw [List.take_length]
    rw [c0, c1]
    have hcat : Str (l.take K) ++ Str (l.drop K) = S := by rw [← str_app, List.take_append_drop, HSS.out]
    have ta := Text.part (rs := l.take K) (fun r hr => HT.out.ok r (List.mem_of_mem_take hr)) (by simp; omega)
    have tb := Text.part (rs := l.drop K) (fun r hr => HT.out.ok r (List.mem_of_mem_drop hr)) (by simp; omega)
    have la : (l.take K).length = K := by simp; omega
    have ka : (Str (l.take K)).size ≤ 4194304 := by rw [ta.len]; have := enc_len_le (l.take K); omega
    have kb : (Str (l.drop K)).size ≤ 4194304 := by rw [tb.len]; have := enc_len_le (l.drop K); simp at this; omega
    have hca := ta.chk
    rw [la] at hca
    generalize Str (l.take K) = SA at hcat ka hca
    generalize Str (l.drop K) = SB at hcat kb
    have HCA := Lib.hid hca
    clear c0 c1 ta tb la hca
    go_wp2_with fail
    refine (check_at SA K 0 0 _ (by unfold maxLen; omega) HL5.out.bars HCA.out).mono ?_
    rintro e w6 ⟨rfl, hb6⟩
    have HL6 := Lib.hid (HL5.out.step hb6)
    clear hb6 hcat
    go_wp2_with fail
    refine (Diff_any S T l M _ HT.out HT2.out (by omega) (by omega) HL6.out.bars).mono ?_
    rintro e w7 ⟨h, t, hm, rfl, hb7⟩
    have HL7 := Lib.hid (HL6.out.step hb7)
    clear hb7
    obtain ⟨d, hd⟩ : ∃ d : Nat, l.length = h + t + d := ⟨l.length - h - t, by have := hm.la; omega⟩
    have hd' : (l.length : Int) - h - t = d := by omega
    rw [hd']
    have hback := meets_back hm
    rw [show l.length - t = h + d by omega] at hback
    have hI : (midB M h t).length ≤ 1048576 := by unfold midB; simp; omega
    have tI := Text.part (rs := midB M h t) (fun r hr => HT2.out.ok r (by unfold midB at hr; exact List.mem_of_mem_take (List.mem_of_mem_drop hr))) (by omega)
    have kI : (Str (midB M h t)).size ≤ 4194304 := by rw [tI.len]; have := enc_len_le (midB M h t); omega
    have hsp : SpliceIs l [] (midB M h t) [] h d T 0 := by
      have := SpliceIs.ok (rs := l) (t := []) (ri := midB M h t) (ti := []) h d rfl rfl rfl rfl (by omega)
      rwa [hback, HTT.out] at this
    have HSP := Lib.hid hsp
    have HI := Lib.hid tI.halves
    have hh1 : (h : Int) ≤ 9223372036854775807 := by omega
    clear hm hback hsp tI hd' hd
    generalize midB M h t = mid at HSP HI kI
    go_wp2_with fail
    refine (Splice_is S (Str mid) l [] mid [] h d T 0 _ HT.out.halves HI.out hS kI (by omega) hh1 HSP.out HL7.out.bars).mono ?_
    rintro e w8 ⟨rfl, hb8⟩
    have HL8 := Lib.hid (HL7.out.step hb8)
    clear hb8
    have x3 := HL8.out.cell 3 rfl
    go_wp2_with fail
    refine (Quote_any raw _ (by omega) (HE.out.below HL8.out.below).tz).mono ?_
    rintro e w9 ⟨rfl, hb9⟩
    have HL9 := Lib.hid (HL8.out.step hb9)
    clear hb9 x3
    obtain ⟨r, hr⟩ : ∃ r, raw.data.toList = r := ⟨_, rfl⟩
    have hrl : r.length = raw.size := by rw [← hr]; rfl
    have hre : (⟨r.toArray⟩ : ByteArray) = raw := by rw [← hr]
    rw [hr]
    obtain ⟨Q, hQ⟩ : ∃ Q : ByteArray, Q = ⟨(quoteL r).toArray⟩ := ⟨_, rfl⟩
    rw [← hQ]
    have hQl : Q.data.toList = quoteL r := by rw [hQ]
    have hq := qS_le r.length r
    have hQs : Q.size = (quoteL r).length := by rw [← size_toList, hQl]
    have hq2 := quoteL_len r
    have q2 : 2 ≤ Q.size := by omega
    have qm : Q.size ≤ 10485762 := by omega
    have e1 : (Q ++ T).data.toList = quoteL r ++ enc M := by rw [app_list, hQl, HT2.out.eq]
    have E1 := Lib.hid e1
    have HQs := Lib.hid hQs
    have HRE := Lib.hid hre
    clear hQ hQl hq hQs hq2 hr hrl e1 hre
    go_wp2_with fail
    refine (Unquote_any _ _ (by rw [ByteArray.size_append]; omega) (HE.out.below HL9.out.below)).mono ?_
    rintro e w10 ⟨hr2, hb10⟩
    rw [E1.out, unq_quote, ← HQs.out] at hr2
    obtain rfl := hr2
    rw [HRE.out]
    have HL10 := Lib.hid (HL9.out.step hb10)
    clear hb10
    have x4 := HL10.out.cell 3 rfl
    have q3 : decide (2 ≤ (Q.size : Int)) = true := by simp; omega
    go_wp2_with fail
    go_ret
    exact ⟨rfl, HL10.out.below⟩
end Go.Proofs.YtfgekdefnbohbaaDoor.U
