/- Splice: the reference's answer; the play of Splice. -/
import Derived.Test.YtfgekdefnbohbaaDoorRSplices
namespace Go.Proofs.YtfgekdefnbohbaaDoor.U
open Go.RowKit Go.Proofs.YtfgekdefnbohbaaDoor.Txt
set_option linter.unusedVariables false
set_option linter.unusedSimpArgs false
attribute [local go_sem] frozen?_alloc_cells

theorem slice64_h (A : Option Addr) (n c hi : Nat) (h3 : hi ≤ c) (W : World) : (Instr.slice 94 (.slice A n c) none (some (.int .i64 hi)) none).run Tryd.prog W = .ok (.slice A hi c) W := by
  have e : (if c = 0 then A else A.map (·.add (0 * 1))) = A := by
    cases A with
    | none => split <;> rfl
    | some a => split <;> simp [Addr.add]
  rw [run_slice_h W 94 A n c (by kernel_rfl) .i64 hi (by omega) (by omega), ← e]
  have : ∀ B : Option Addr, ((Sem.run Tryd.prog (sizeOf (Tryd.prog.elem 94)) W).andThen fun s w => Result.ok (sliced B 0 ((hi : Int)).toNat c s) w) = Result.ok (.slice (if c = 0 then B else B.map (·.add (0 * 1))) hi c) W := fun B => by kernel_rfl
  rw [this]
  rw [e, e]
theorem slice64_l (A : Option Addr) (n c lo : Nat) (h1 : lo ≤ n) (W : World) : (Instr.slice 94 (.slice A n c) (some (.int .i64 lo)) none none).run Tryd.prog W = .ok (.slice (if c = lo then A else A.map (·.add (lo * 1))) (n - lo) (c - lo)) W := by
  rw [run_slice_l W 94 A n c (by kernel_rfl) .i64 lo (by omega) (by omega)]
  kernel_rfl
theorem Cells64.head {w : World} {A : Option Addr} {rs : List Int} (h : Cells64 w A rs) (k : Nat) : Cells64 w A (rs.take k) := fun h0 => by
  rw [List.length_take] at h0
  obtain ⟨ad, e, hc⟩ := h (by omega)
  refine ⟨ad, e, fun j hj => ?_⟩
  rw [List.length_take] at hj
  rw [hc j (by omega)]
  simp [List.getD, List.getElem?_take, show j < k by omega]
theorem Cells64.below {w w' : World} {A : Option Addr} {xs : List Int} (h : Cells64 w A xs) (hb : Below w.heap.size w w') : Cells64 w' A xs := fun h0 => by
  obtain ⟨ad, e, hc⟩ := h h0
  exact ⟨ad, e, fun j hj => cell_below hb (hc j hj)⟩
set_option maxRecDepth 100000 in
set_option maxHeartbeats 8000000 in
theorem RefSplice_is (S T : ByteArray) (rs : List Int) (t : List UInt8) (ri : List Int) (ti : List UInt8) (a b : Int) (x : ByteArray) (e : Int) (w : World) (h : Halves S rs t) (hi : Halves T ri ti) (hs : S.size ≤ 1048576) (hss : T.size ≤ 1048576)
    (ha0 : -9223372036854775808 ≤ a) (ha1 : a ≤ 9223372036854775807) (hp : SpliceIs rs t ri ti a b x e) :
    Calls Tryd.prog 59 #[.string S, .int .i64 a, .int .i64 b, .string T] w fun e' w' => e' = .returned (.tuple #[.string x, .int .i64 e]) ∧ Below w.heap.size w w' := by
  have H := Lib.hid h
  have HI := Lib.hid hi
  have HS := Lib.hid (show S.size ≤ 4398046511104 by omega)
  have HS2 := Lib.hid (show T.size ≤ 4398046511104 by omega)
  have hlen := (len_bound h hs).1
  have hlen2 := (len_bound hi hss).1
  clear h hi
  cases hp with
  | fault f ht hf =>
    have b0 := fault_ne hf
    have HF := Lib.hid hf
    have HT := Lib.hid ht
    clear hf ht
    go_enter Tryd.func59, Tryd.ntmps59
    go_wp2_with fail
    refine (Runes_any S rs t _ H.out HS.out).mono ?_
    rintro e w1 ⟨hp, hb1⟩
    have HB := Lib.hid hb1
    clear hb1
    rcases hp with ⟨ht2, _⟩ | ⟨_, rfl⟩
    · exact absurd ht2 HT.out
    rw [HF.out]
    go_wp2_with fail
    go_ret2
    exact ⟨rfl, HB.out⟩
  | fault2 f ht hti hf =>
    subst ht
    have b0 := fault_ne hf
    have HF := Lib.hid hf
    have HT := Lib.hid hti
    obtain ⟨n, hn⟩ : ∃ n, rs.length = n := ⟨_, rfl⟩
    have HN := Lib.hid hn
    clear hf hti hn
    go_enter Tryd.func59, Tryd.ntmps59
    go_wp2_with fail
    refine (Runes_any S rs [] _ H.out HS.out).mono ?_
    rintro e w1 ⟨hp, hb1⟩
    have HB := Lib.hid hb1
    clear hb1
    rcases hp with ⟨_, v, rfl, hown⟩ | ⟨ht2, _⟩
    case inr => exact absurd rfl ht2
    obtain ⟨A, c, rfl, hcap, hcell⟩ := own_ints hown
    have HCE := Lib.hid hcell
    have HCAP := Lib.hid hcap
    rw [HN.out]
    clear hown hcap hcell
    go_wp2_with fail
    refine (Runes_any T ri ti _ HI.out HS2.out).mono ?_
    rintro e w2 ⟨hp, hb2⟩
    have HB2 := Lib.hid (HB.out.trans (hb2.mono HB.out.size))
    clear hb2
    rcases hp with ⟨ht2, _⟩ | ⟨_, rfl⟩
    · exact absurd ht2 HT.out
    rw [HF.out]
    go_wp2_with fail
    go_ret2
    exact ⟨rfl, HB2.out⟩
  | out ht hti ha =>
    subst ht hti
    obtain ⟨n, hn⟩ : ∃ n, rs.length = n := ⟨_, rfl⟩
    rw [hn] at hlen ha
    have HN := Lib.hid hn
    obtain ⟨n2, hn2⟩ : ∃ n, ri.length = n := ⟨_, rfl⟩
    have HN2 := Lib.hid hn2
    clear hn hn2
    by_cases h1 : a < 0
    · clear ha
      go_enter Tryd.func59, Tryd.ntmps59
      go_wp2_with fail
      refine (Runes_any S rs [] _ H.out HS.out).mono ?_
      rintro e w1 ⟨hp, hb1⟩
      have HB := Lib.hid hb1
      clear hb1
      rcases hp with ⟨_, v, rfl, hown⟩ | ⟨ht2, _⟩
      case inr => exact absurd rfl ht2
      obtain ⟨A, c, rfl, hcap, hcell⟩ := own_ints hown
      have HCE := Lib.hid hcell
      have HCAP := Lib.hid hcap
      rw [HN.out]
      clear hown hcap hcell
      go_wp2_with fail
      refine (Runes_any T ri [] _ HI.out HS2.out).mono ?_
      rintro e w2 ⟨hp, hb2⟩
      have HB2 := Lib.hid (HB.out.trans (hb2.mono HB.out.size))
      rcases hp with ⟨_, v2, rfl, hown2⟩ | ⟨ht2, _⟩
      case inr => exact absurd rfl ht2
      obtain ⟨A2, c2, rfl, hcap2, hcell2⟩ := own_ints hown2
      have HCE2 := Lib.hid (HCE.out.below hb2)
      have HCI := Lib.hid hcell2
      rw [HN2.out]
      clear hown2 hcap2 hcell2 hb2
      go_wp2_with fail
      go_ret2
      exact ⟨rfl, HB2.out⟩
    · by_cases h2 : b < 0
      · clear ha
        go_enter Tryd.func59, Tryd.ntmps59
        go_wp2_with fail
        refine (Runes_any S rs [] _ H.out HS.out).mono ?_
        rintro e w1 ⟨hp, hb1⟩
        have HB := Lib.hid hb1
        clear hb1
        rcases hp with ⟨_, v, rfl, hown⟩ | ⟨ht2, _⟩
        case inr => exact absurd rfl ht2
        obtain ⟨A, c, rfl, hcap, hcell⟩ := own_ints hown
        have HCE := Lib.hid hcell
        have HCAP := Lib.hid hcap
        rw [HN.out]
        clear hown hcap hcell
        go_wp2_with fail
        refine (Runes_any T ri [] _ HI.out HS2.out).mono ?_
        rintro e w2 ⟨hp, hb2⟩
        have HB2 := Lib.hid (HB.out.trans (hb2.mono HB.out.size))
        rcases hp with ⟨_, v2, rfl, hown2⟩ | ⟨ht2, _⟩
        case inr => exact absurd rfl ht2
        obtain ⟨A2, c2, rfl, hcap2, hcell2⟩ := own_ints hown2
        have HCE2 := Lib.hid (HCE.out.below hb2)
        have HCI := Lib.hid hcell2
        rw [HN2.out]
        clear hown2 hcap2 hcell2 hb2
        go_wp2_with fail
        go_ret2
        exact ⟨rfl, HB2.out⟩
      · by_cases h3 : (n : Int) < a
        · clear ha
          go_enter Tryd.func59, Tryd.ntmps59
          go_wp2_with fail
          refine (Runes_any S rs [] _ H.out HS.out).mono ?_
          rintro e w1 ⟨hp, hb1⟩
          have HB := Lib.hid hb1
          clear hb1
          rcases hp with ⟨_, v, rfl, hown⟩ | ⟨ht2, _⟩
          case inr => exact absurd rfl ht2
          obtain ⟨A, c, rfl, hcap, hcell⟩ := own_ints hown
          have HCE := Lib.hid hcell
          have HCAP := Lib.hid hcap
          rw [HN.out]
          clear hown hcap hcell
          go_wp2_with fail
          refine (Runes_any T ri [] _ HI.out HS2.out).mono ?_
          rintro e w2 ⟨hp, hb2⟩
          have HB2 := Lib.hid (HB.out.trans (hb2.mono HB.out.size))
          rcases hp with ⟨_, v2, rfl, hown2⟩ | ⟨ht2, _⟩
          case inr => exact absurd rfl ht2
          obtain ⟨A2, c2, rfl, hcap2, hcell2⟩ := own_ints hown2
          have HCE2 := Lib.hid (HCE.out.below hb2)
          have HCI := Lib.hid hcell2
          rw [HN2.out]
          clear hown2 hcap2 hcell2 hb2
          go_wp2_with fail
          go_ret2
          exact ⟨rfl, HB2.out⟩
        · have h4 : (n : Int) - a < b := by omega
          have e0 : IntKind.i64.wrap ((n : Int) - a) = (n : Int) - a := IntWalk.i64_in _ (by omega)
          clear ha
          go_enter Tryd.func59, Tryd.ntmps59
          go_wp2_with fail
          refine (Runes_any S rs [] _ H.out HS.out).mono ?_
          rintro e w1 ⟨hp, hb1⟩
          have HB := Lib.hid hb1
          clear hb1
          rcases hp with ⟨_, v, rfl, hown⟩ | ⟨ht2, _⟩
          case inr => exact absurd rfl ht2
          obtain ⟨A, c, rfl, hcap, hcell⟩ := own_ints hown
          have HCE := Lib.hid hcell
          have HCAP := Lib.hid hcap
          rw [HN.out]
          clear hown hcap hcell
          go_wp2_with fail
          refine (Runes_any T ri [] _ HI.out HS2.out).mono ?_
          rintro e w2 ⟨hp, hb2⟩
          have HB2 := Lib.hid (HB.out.trans (hb2.mono HB.out.size))
          rcases hp with ⟨_, v2, rfl, hown2⟩ | ⟨ht2, _⟩
          case inr => exact absurd rfl ht2
          obtain ⟨A2, c2, rfl, hcap2, hcell2⟩ := own_ints hown2
          have HCE2 := Lib.hid (HCE.out.below hb2)
          have HCI := Lib.hid hcell2
          rw [HN2.out]
          clear hown2 hcap2 hcell2 hb2
          go_wp2_with fail
          go_ret2
          exact ⟨rfl, HB2.out⟩
  | ok at_ del ht hti ha hb h2 =>
    subst ht hti ha hb
    have HR := Lib.hid (show Str (rs.take at_) ++ Str ri ++ Str (rs.drop (at_ + del)) = Str (rs.take at_ ++ ri ++ rs.drop (at_ + del)) by rw [str_app, str_app])
    have hz : ∀ xs : List Int, xs.length ≤ 1048576 → (Str xs).size ≤ 4194304 := fun xs hx => by rw [str_size]; have := enc_len_le xs; omega
    have hx1 := hz (rs.take at_) (by rw [List.length_take]; omega)
    have hx2 := hz (rs.drop (at_ + del)) (by rw [List.length_drop]; omega)
    have hx3 := hz ri hlen2
    have HO1 := Lib.hid (show ∀ r ∈ rs.take at_, TxtRune r from fun r hr => H.out.ok r (List.mem_of_mem_take hr))
    have HO2 := Lib.hid (show ∀ r ∈ rs.drop (at_ + del), TxtRune r from fun r hr => H.out.ok r (List.mem_of_mem_drop hr))
    have HL1 := Lib.hid (show (rs.take at_).length = at_ by rw [List.length_take]; omega)
    have HCD := Lib.hid (show cutR rs (at_ + del) rs.length = rs.drop (at_ + del) by unfold cutR; rw [List.take_length])
    have HH2 := Lib.hid h2
    obtain ⟨n, hn⟩ : ∃ n, rs.length = n := ⟨_, rfl⟩
    have HN := Lib.hid hn
    have HL2 := Lib.hid (show (rs.drop (at_ + del)).length = n - (at_ + del) by rw [List.length_drop, hn])
    obtain ⟨n2, hn2⟩ : ∃ n, ri.length = n := ⟨_, rfl⟩
    have HN2 := Lib.hid hn2
    rw [hn] at hlen h2
    rw [hn2] at hlen2
    obtain ⟨ad, had⟩ : ∃ ad, at_ + del = ad := ⟨_, rfl⟩
    obtain ⟨X1, hX1⟩ : ∃ X, Str (rs.take at_) = X := ⟨_, rfl⟩
    obtain ⟨X2, hX2⟩ : ∃ X, Str (rs.drop (at_ + del)) = X := ⟨_, rfl⟩
    obtain ⟨X3, hX3⟩ : ∃ X, Str ri = X := ⟨_, rfl⟩
    obtain ⟨X, hX⟩ : ∃ X, Str (rs.take at_ ++ ri ++ rs.drop (at_ + del)) = X := ⟨_, rfl⟩
    have HX1 := Lib.hid hX1
    have HX2 := Lib.hid hX2
    have HX3 := Lib.hid hX3
    rw [had] at HO2 HL2 HX2
    rw [hX1, hX2, hX3, hX] at HR
    rw [hX1] at hx1
    rw [hX2] at hx2
    rw [hX3] at hx3
    rw [hX]
    have HAD := Lib.hid had
    have z1 : ¬ (at_ : Int) < 0 := by omega
    have z2 : ¬ (del : Int) < 0 := by omega
    have z3 : ¬ n < at_ := by omega
    have e0 : IntKind.i64.wrap ((n : Int) - (at_ : Int)) = ((n - at_ : Nat) : Int) := by rw [show (n : Int) - at_ = ((n - at_ : Nat) : Int) by omega]; exact IntWalk.i64_in _ (by omega)
    have z4 : ¬ n - at_ < del := by omega
    have e1 : IntKind.i64.wrap ((at_ : Int) + (del : Int)) = (ad : Int) := by rw [show (at_ : Int) + del = (ad : Int) by omega]; exact IntWalk.i64_in _ (by omega)
    obtain ⟨nd, hnd⟩ : ∃ nd, n - at_ = nd := ⟨_, rfl⟩
    rw [hnd] at e0 z4
    clear hz hn hn2 hX1 hX2 hX3 hX had hnd
    go_enter Tryd.func59, Tryd.ntmps59
    go_wp2_with fail
    refine (Runes_any S rs [] _ H.out HS.out).mono ?_
    rintro e w1 ⟨hp, hb1⟩
    have HB := Lib.hid hb1
    clear hb1
    rcases hp with ⟨_, v, rfl, hown⟩ | ⟨ht2, _⟩
    case inr => exact absurd rfl ht2
    obtain ⟨A, c, rfl, hcap, hcell⟩ := own_ints hown
    have HCE := Lib.hid hcell
    have HCAP := Lib.hid hcap
    rw [HN.out]
    clear hown hcap hcell
    go_wp2_with fail
    refine (Runes_any T ri [] _ HI.out HS2.out).mono ?_
    rintro e w2 ⟨hp, hb2⟩
    have HB2 := Lib.hid (HB.out.trans (hb2.mono HB.out.size))
    rcases hp with ⟨_, v2, rfl, hown2⟩ | ⟨ht2, _⟩
    case inr => exact absurd rfl ht2
    obtain ⟨A2, c2, rfl, hcap2, hcell2⟩ := own_ints hown2
    have HCE2 := Lib.hid (HCE.out.below hb2)
    have HCI := Lib.hid hcell2
    rw [HN2.out]
    clear hown2 hcap2 hcell2 hb2
    have r1 := slice64_h A n c at_ (by have := HCAP.out; have := HN.out; omega)
    have r2 := slice64_l A n c ad (by have := HAD.out; omega)
    have hcu := HCE2.out.cut (at_ + del) rs.length c HH2.out (Nat.le_refl _) HCAP.out
    rw [HCD.out, HAD.out] at hcu
    obtain ⟨V, hV⟩ : ∃ V, (if c = ad then A else A.map (·.add (ad * 1))) = V := ⟨_, rfl⟩
    rw [hV] at r2 hcu
    have C1 := Lib.hid (show ∀ W, Below w2.heap.size w2 W → Calls Tryd.prog 58 #[.slice A at_ c] W fun e w' => e = .returned (.string X1) ∧ Below w2.heap.size w2 w' from fun W hW => by
      have := String_runes A c (rs.take at_) W ((HCE2.out.head at_).below hW) HO1.out (by rw [HL1.out]; omega)
      rw [HL1.out, HX1.out] at this
      exact this.mono fun e w' ⟨h1, h2⟩ => ⟨h1, hW.trans (h2.mono hW.size)⟩)
    have C2 := Lib.hid (show ∀ W, Below w2.heap.size w2 W → Calls Tryd.prog 58 #[.slice V (n - ad) (c - ad)] W fun e w' => e = .returned (.string X2) ∧ Below w2.heap.size w2 w' from fun W hW => by
      have := String_runes V (c - ad) (rs.drop ad) W (hcu.below hW) HO2.out (by rw [HL2.out]; omega)
      rw [HL2.out, HX2.out] at this
      exact this.mono fun e w' ⟨h1, h2⟩ => ⟨h1, hW.trans (h2.mono hW.size)⟩)
    have C3 := Lib.hid (show ∀ W, Below w2.heap.size w2 W → Calls Tryd.prog 58 #[.slice A2 n2 c2] W fun e w' => e = .returned (.string X3) ∧ Below w2.heap.size w2 w' from fun W hW => by
      have := String_runes A2 c2 ri W (HCI.out.below hW) HI.out.ok (by rw [HN2.out]; omega)
      rw [HN2.out, HX3.out] at this
      exact this.mono fun e w' ⟨h1, h2⟩ => ⟨h1, hW.trans (h2.mono hW.size)⟩)
    obtain ⟨nn, hnn⟩ : ∃ nn, n - ad = nn := ⟨_, rfl⟩
    rw [hnn] at r2 C2
    obtain ⟨cc, hcc⟩ : ∃ cc, c - ad = cc := ⟨_, rfl⟩
    rw [hcc] at r2 C2
    clear hcu hV hnn hcc
    go_upto_region 9 with fail
    clear e0 z1 z2 z3 z4
    go_cut [8, 9] (fun x e wx => x = .string X ∧ e = .int .i64 0 ∧ Below w2.heap.size w2 wx)
    case first =>
      go_region_with (first
        | ((with_reducible refine (C1.out _ (by first | exact Below.refl _ _ | exact (Below.refl _ _).drew | assumption | exact Below.drew (by assumption))).mono ?_); rintro e w5 ⟨rfl, hb5⟩)
        | ((with_reducible refine (C2.out _ (by first | exact Below.refl _ _ | exact (Below.refl _ _).drew | assumption | exact Below.drew (by assumption))).mono ?_); rintro e w5 ⟨rfl, hb5⟩)
        | ((with_reducible refine (C3.out _ (by first | exact Below.refl _ _ | exact (Below.refl _ _).drew | assumption | exact Below.drew (by assumption))).mono ?_); rintro e w5 ⟨rfl, hb5⟩))
      all_goals (go_wp2_with fail)
      all_goals
        go_meet
        exact ⟨by first | (rw [← HR.out]; done) | (rw [← HR.out]; rfl), rfl, by assumption⟩
    case rest =>
      obtain ⟨rfl, rfl, hbx⟩ := hcut
      have HBX := Lib.hid (HB2.out.trans (hbx.mono HB2.out.size))
      clear hbx r1 r2
      go_wp2_with fail
      go_ret2
      exact ⟨rfl, HBX.out⟩
end Go.Proofs.YtfgekdefnbohbaaDoor.U
