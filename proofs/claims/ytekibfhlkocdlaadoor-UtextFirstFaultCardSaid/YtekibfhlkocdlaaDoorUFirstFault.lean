/- The walk of UtextFirstFault: for every input it answers true. -/
import Derived.Test.YtekibfhlkocdlaaDoorUTwo
import Derived.Test.YtekibfhlkocdlaaDoorUOps
namespace Go.Proofs.YtekibfhlkocdlaaDoor.U
open Go.RowKit Go.Proofs.YtekibfhlkocdlaaDoor.Txt
set_option linter.unusedVariables false
set_option linter.unusedSimpArgs false

/-- What Check says of E ahead of R, of R, of what is ahead of R's fault, and of E with a spoilt byte behind: a text's length l, runes k. -/
structure FF (E R : List UInt8) (l k o f : Int) : Prop where
  a : ((chk (E ++ R)).1 : Int) = (if f = 0 then l + k else 0) ∧ ((chk (E ++ R)).2.1 : Int) = (if f = 0 then 0 else E.length + o) ∧ ((chk (E ++ R)).2.2 : Int) = f
  b : ((chk R).1 : Int) = k ∧ ((chk R).2.1 : Int) = o ∧ ((chk R).2.2 : Int) = f
  c : f ≠ 0 → 0 ≤ o ∧ o < R.length ∧ ∃ m : Int, ((chk (R.take o.toNat)).1 : Int) = m ∧ ((chk (R.take o.toNat)).2.1 : Int) = 0 ∧ ((chk (R.take o.toNat)).2.2 : Int) = 0
  d : ((chk (E ++ [255] ++ R)).1 : Int) = 0 ∧ ((chk (E ++ [255] ++ R)).2.1 : Int) = E.length ∧ ((chk (E ++ [255] ++ R)).2.2 : Int) = 10
  e : ((chk (E ++ [0] ++ R)).1 : Int) = 0 ∧ ((chk (E ++ [0] ++ R)).2.1 : Int) = E.length ∧ ((chk (E ++ [0] ++ R)).2.2 : Int) = 11
  k0 : 0 ≤ k ∧ k ≤ R.length
  f0 : f = 0 ∧ o = 0 ∨ k = 0 ∧ (f = 10 ∨ f = 11)

theorem seq_ff (t : List UInt8) : seq (255 :: t) = none := by
  have h : decL (255 :: t) = (65533, 1) := by simp [decL]
  unfold seq
  rw [h]
  simp
theorem seq_00 (t : List UInt8) : seq (0 :: t) = some 0 := by
  have h : decL (0 :: t) = (0, 1) := by simp [decL]
  unfold seq
  rw [h]
  simp
theorem ff_all (xs : List Int) (hx : ∀ r ∈ xs, TxtRune r) (R : List UInt8) : ∃ k o f, FF (enc xs) R xs.length k o f := by
  obtain ⟨rs, t, h1, rfl, h3⟩ := split_text R.length R (Nat.le_refl _)
  have hd : chk (enc xs ++ [255] ++ (enc rs ++ t)) = (0, (enc xs).length, 10) := by
    rw [List.append_assoc]
    rw [chk_fault xs hx _ (by simp) (.inl (by rw [List.cons_append]; exact seq_ff _))]
    simp [fault, seq_ff]
  have he : chk (enc xs ++ [0] ++ (enc rs ++ t)) = (0, (enc xs).length, 11) := by
    rw [List.append_assoc]
    rw [chk_fault xs hx _ (by simp) (.inr ⟨0, by rw [List.cons_append]; exact seq_00 _, rfl⟩)]
    simp [fault, seq_00]
  have hboth : ∀ r ∈ xs ++ rs, TxtRune r := fun r hr => (List.mem_append.1 hr).elim (hx r) (h1 r)
  rcases h3 with rfl | ⟨ht, hf⟩
  · refine ⟨rs.length, 0, 0, ?_, ?_, ?_, ?_, ?_, ?_, ?_⟩
    · rw [List.append_nil, ← enc_append, chk_text _ hboth]
      refine ⟨?_, rfl, rfl⟩
      simp
    · rw [List.append_nil, chk_text _ h1]; exact ⟨rfl, rfl, rfl⟩
    · intro h; exact absurd rfl h
    · rw [hd]; exact ⟨rfl, rfl, rfl⟩
    · rw [he]; exact ⟨rfl, rfl, rfl⟩
    · rw [List.append_nil]; have := enc_len_ge rs; omega
    · exact .inl ⟨rfl, rfl⟩
  · have hfv : fault t = 10 ∨ fault t = 11 := by unfold fault; split <;> simp
    have hne : (fault t : Int) ≠ 0 := by omega
    refine ⟨0, (enc rs).length, fault t, ?_, ?_, ?_, ?_, ?_, ?_, ?_⟩
    · rw [← List.append_assoc, ← enc_append, chk_fault _ hboth t ht hf, if_neg hne, if_neg hne]
      refine ⟨rfl, ?_, rfl⟩
      rw [enc_append, List.length_append]; simp
    · rw [chk_fault _ h1 t ht hf]; exact ⟨rfl, rfl, rfl⟩
    · intro _
      have := List.length_pos_iff.2 ht
      refine ⟨by omega, by rw [List.length_append]; omega, rs.length, ?_⟩
      rw [Int.toNat_natCast, List.take_left, chk_text _ h1]
      exact ⟨rfl, rfl, rfl⟩
    · rw [hd]; exact ⟨rfl, rfl, rfl⟩
    · rw [he]; exact ⟨rfl, rfl, rfl⟩
    · omega
    · exact .inr ⟨rfl, by omega⟩

theorem runes32 (n : Nat) (h : n * 4 ≤ 140737488351232) : n ≤ 35184372087808 := by omega
set_option maxRecDepth 100000 in
set_option maxHeartbeats 8000000 in
theorem firstFault_walk (W : World) (v : Value) (A1 : Option Addr) (n1 c1 : Nat) (xs1 : List Int) (A2 : Option Addr) (n2 c2 : Nat) (xs2 : List Int) (k : Int) (raw : ByteArray) (b : Int) (hv : TwoIn W v A1 n1 c1 xs1 A2 n2 c2 xs2 k raw b) (hg : Bars W) :
    Calls Tryd.prog 3 #[v] W fun e w' => e = .returned (.bool true) ∧ Below W.heap.size W w' := by
  obtain ⟨rfl, r1, _, _, _, hraw, _, _⟩ := hv
  have hn1 := r1.2.1
  have hl1 := r1.1
  have HG := Lib.hid hg
  have HR := Lib.hid r1
  clear hg r1
  have L0 := Live.new HG.out #[.slice A1 n1 c1, .slice A2 n2 c2, .int .i64 k, .string raw, .int .u8 b] 24
  have HL0 := Lib.hid L0
  clear L0
  go_enter Tryd.func3, Tryd.ntmps3
  go_wp2_with fail
  refine (let_any A1 n1 c1 xs1 _ (HR.out.below ((Below.refl _ _).alloc (Nat.le_refl _) _))).mono ?_
  rintro e w1 ⟨v1, rfl, hown, hb1⟩
  have HL1 := Lib.hid (HL0.out.step hb1)
  have hlm : xs1.length = (xs1.map letR).length := (List.length_map _).symm
  rw [hlm] at hown
  have hgd := lets_good xs1
  have hch := str_chk xs1
  rw [hlm] at hch
  generalize xs1.map letR = l at hown hgd hlm hch
  have hln : l.length ≤ 35184372087808 := by omega
  obtain ⟨A, c, rfl, hcl⟩ := own_runes hown
  have hcv := conv_runes (c := c) hcl
  have hs := str_list l
  have hss := str_size l
  have hle := enc_len_le l
  generalize Str l = S at hcv hs hss hch
  obtain ⟨k1, o1, f1, F⟩ := ff_all l hgd raw.data.toList
  rw [← hs] at F
  have hSz : S.size ≤ 140737488351232 := by omega
  obtain ⟨Fa, Fb, Fc, Fd, Fe, Fk, Ff⟩ := F
  rw [size_toList] at Fa Fc Fd Fe Fk
  have HFa := Lib.hid Fa
  have HFb := Lib.hid Fb
  have HFc := Lib.hid Fc
  have HFd := Lib.hid Fd
  have HFe := Lib.hid Fe
  obtain ⟨hk0, hk1⟩ := Fk
  have x1 := HL1.out.cell 3 rfl
  clear Fa Fb Fc Fd Fe hs hown hb1 hcl hgd hss hle hlm hch HR HL0
  rcases Ff with ⟨rfl, rfl⟩ | ⟨rfl, hf⟩
  · go_wp2_with fail
    refine (check_at _ (l.length + k1) 0 0 _ (by rw [ByteArray.size_append]; unfold maxLen; omega) HL1.out.bars (by rw [app_list]; exact HFa.out)).mono ?_
    rintro e w2 ⟨rfl, hb2⟩
    have HL2 := Lib.hid (HL1.out.step hb2)
    have x2 := HL2.out.cell 3 rfl
    clear hb2 x1 hcv
    go_wp2_with fail
    refine (check_at _ k1 0 0 _ (by unfold maxLen; omega) HL2.out.bars HFb.out).mono ?_
    rintro e w3 ⟨rfl, hb3⟩
    have HL3 := Lib.hid (HL2.out.step hb3)
    have x3 := HL3.out.cell 3 rfl
    clear hb3 x2
    go_wp2_with fail
    refine (check_at _ 0 S.size 10 _ (by rw [ByteArray.size_append, ByteArray.size_append]; show S.size + 1 + raw.size ≤ _; unfold maxLen; omega) HL3.out.bars (by rw [app_list, app_list]; exact HFd.out)).mono ?_
    rintro e w4 ⟨rfl, hb4⟩
    have HL4 := Lib.hid (HL3.out.step hb4)
    have x4 := HL4.out.cell 3 rfl
    clear hb4 x3
    go_wp2_with fail
    refine (check_at _ 0 S.size 11 _ (by rw [ByteArray.size_append, ByteArray.size_append]; show S.size + 1 + raw.size ≤ _; unfold maxLen; omega) HL4.out.bars (by rw [app_list, app_list]; exact HFe.out)).mono ?_
    rintro e w5 ⟨rfl, hb5⟩
    have HL5 := Lib.hid (HL4.out.step hb5)
    clear hb5 x4
    go_wp2_with fail
    go_ret
    exact ⟨rfl, HL5.out.below⟩
  · have hf0 : f1 ≠ 0 := by omega
    obtain ⟨ho0, ho1, m, hm⟩ := HFc.out hf0
    have HM := Lib.hid hm
    have HA : ((chk (S.data.toList ++ raw.data.toList)).1 : Int) = 0 ∧ ((chk (S.data.toList ++ raw.data.toList)).2.1 : Int) = S.size + o1 ∧ ((chk (S.data.toList ++ raw.data.toList)).2.2 : Int) = f1 := by
      have := HFa.out; rw [if_neg hf0, if_neg hf0] at this; exact this
    have HFA := Lib.hid HA
    clear hm HA HFa HFc
    rcases hf with rfl | rfl
    all_goals
      go_wp2_with fail
      refine (check_at _ 0 (S.size + o1) _ _ (by rw [ByteArray.size_append]; unfold maxLen; omega) HL1.out.bars (by rw [app_list]; exact HFA.out)).mono ?_
      rintro e w2 ⟨rfl, hb2⟩
      have HL2 := Lib.hid (HL1.out.step hb2)
      have x2 := HL2.out.cell 3 rfl
      clear hb2 x1 hcv
      go_wp2_with fail
      refine (check_at _ 0 o1 _ _ (by unfold maxLen; omega) HL2.out.bars HFb.out).mono ?_
      rintro e w3 ⟨rfl, hb3⟩
      have HL3 := Lib.hid (HL2.out.step hb3)
      have x3 := HL3.out.cell 3 rfl
      clear hb3 x2
      go_wp2_with fail
      refine (check_at _ m 0 0 _ (by rw [ByteArray.size_extract]; unfold maxLen; omega) HL3.out.bars (by rw [take_list]; exact HM.out)).mono ?_
      rintro e w4 ⟨rfl, hb4⟩
      have HL4 := Lib.hid (HL3.out.step hb4)
      have x4 := HL4.out.cell 3 rfl
      clear hb4 x3
      go_wp2_with fail
      refine (check_at _ 0 S.size 10 _ (by rw [ByteArray.size_append, ByteArray.size_append]; show S.size + 1 + raw.size ≤ _; unfold maxLen; omega) HL4.out.bars (by rw [app_list, app_list]; exact HFd.out)).mono ?_
      rintro e w5 ⟨rfl, hb5⟩
      have HL5 := Lib.hid (HL4.out.step hb5)
      have x5 := HL5.out.cell 3 rfl
      clear hb5 x4
      go_wp2_with fail
      refine (check_at _ 0 S.size 11 _ (by rw [ByteArray.size_append, ByteArray.size_append]; show S.size + 1 + raw.size ≤ _; unfold maxLen; omega) HL5.out.bars (by rw [app_list, app_list]; exact HFe.out)).mono ?_
      rintro e w6 ⟨rfl, hb6⟩
      have HL6 := Lib.hid (HL5.out.step hb6)
      clear hb6 x5
      go_wp2_with fail
      go_ret
      exact ⟨rfl, HL6.out.below⟩
end Go.Proofs.YtekibfhlkocdlaaDoor.U
