/- The law's look at a string's bars: how many, and the string without its first one and without blanks at its end. -/
import Derived.Test.YtkidcleffllhbaaDoorPgRune
import Derived.Test.YtkidcleffllhbaaDoorPgMade2
import Derived.Test.YtkidcleffllhbaaDoorDtRes
import Derived.Deep.QuietTactic
import Derived.BigQuiet
namespace Go.Proofs.YtkidcleffllhbaaDoor.Pg
open Go.RowKit Go.Proofs Go.Joins Go.Proofs.YtkidcleffllhbaaDoor.U Go.Proofs.YtkidcleffllhbaaDoor.Txt
set_option linter.unusedVariables false
set_option linter.unusedSimpArgs false
attribute [local go_sem] frozen?_alloc_cells

theorem str_size (xs : List Int) : (Str xs).size = (enc xs).length := by rw [← str_list]; rfl
/-- Where the law's first loop stands. -/
structure BAt (B : Nat) (I : Nat) (xs : List Int) (k : Nat) (v : Value) (ys : List Int) (wr : World) : Prop where
  it : wr.heap[I]? = some (.stringIter (Str xs) (psz xs k))
  own : wr.ownsRow B 21 1 v ys.length (i32s ys)
  eq : ys = (xs.take k).erase 124
  ge : B ≤ I
theorem BAt.iterAt {B I : Nat} {xs : List Int} {k : Nat} {v : Value} {ys : List Int} {w : World} (h : BAt B I xs k v ys w) (pos' : Nat) : (w.iterAt I (Str xs) pos').ownsRow B 21 1 v ys.length (i32s ys) ∧ (w.iterAt I (Str xs) pos').heap[I]? = some (.stringIter (Str xs) pos') := by
  refine ⟨⟨h.own.1, ?_⟩, Lib.iterAt_heap w I (Str xs) _ pos' h.it⟩
  rcases h.own.2 with hn | ⟨g, cap, cur, hv, hbg, hg, rest⟩
  · exact .inl hn
  · refine .inr ⟨g, cap, cur, hv, hbg, (Lib.iterAt_other w I g (Str xs) pos' ?_).trans hg, rest⟩
    intro e
    subst e
    rw [h.it] at hg
    cases hg
theorem own_not_iter {w : World} {B e n : Nat} {v : Value} {xs : List Value} {I : Nat} {S : ByteArray} {p : Nat} (h : w.ownsRow B e 1 v n xs) (hI : w.heap[I]? = some (.stringIter S p)) : v.ownBlock ≠ some I := by
  intro e
  rcases h.2 with ⟨rfl, _⟩ | ⟨g, cap, cur, rfl, _, hg, _⟩
  · simp [Value.ownBlock] at e
  · simp only [Value.ownBlock, Option.some.injEq] at e
    subst e
    rw [hI] at hg
    cases hg
theorem take_snoc {xs : List Int} {k : Nat} (h : k < xs.length) : xs.take (k + 1) = xs.take k ++ [xs.getD k 0] := by
  rw [List.take_add_one]; simp [List.getD, List.getElem?_eq_getElem h]
theorem trim_take {ys : List Int} {m : Nat} (h : m < ys.length) (h2 : ys.getD m 0 = 32) : trimL 32 (ys.take (m + 1)) = trimL 32 (ys.take m) := by
  rw [take_snoc h, trimL_snoc, if_pos h2]
theorem trim_take_ne {ys : List Int} {m : Nat} (h : m < ys.length) (h2 : ys.getD m 0 ≠ 32) : trimL 32 (ys.take (m + 1)) = ys.take (m + 1) := by
  rw [take_snoc h, trimL_snoc, if_neg h2]

theorem ret_pair {a b : Int} {c d : ByteArray} (h : a = b) (h2 : c = d) : Ending.returned (.tuple #[.int .i64 a, .string c]) = .returned (.tuple #[.int .i64 b, .string d]) := by rw [h, h2]
set_option maxRecDepth 100000 in
set_option maxHeartbeats 4000000 in
theorem bars_any (xs : List Int) (w : World) (hg : ∀ r ∈ xs, TxtRune r) (hl : xs.length ≤ 1000000) : Calls Tryd.prog 21 #[.string (Str xs)] w fun e w' => e = .returned (.tuple #[.int .i64 (xs.count 124), .string (Str (trimL 32 (xs.erase 124)))]) ∧ Below w.heap.size w w' := by
  have HG := Lib.hid hg
  have HL := Lib.hid hl
  have HS := Lib.hid (str_list xs)
  obtain ⟨S, hS⟩ : ∃ S, Str xs = S := ⟨_, rfl⟩
  have HSS := Lib.hid hS
  rw [hS] at HS ⊢
  obtain ⟨i0, hi0, hz0, hz1, hz2⟩ := info_parts infoRune
  have HI := Lib.hid (And.intro hi0 (And.intro hz0 (And.intro hz1 hz2)))
  clear hg hl hS hi0 hz0 hz1 hz2
  go_enter Tryd.func21, Tryd.ntmps21
  go_wp2_with fail
  obtain ⟨I, hI⟩ : ∃ I, w.heap.size = I := ⟨_, rfl⟩
  have HA0 := Lib.hid (show BAt I I xs 0 (.slice none 0 0) [] (w.alloc (.stringIter S 0)) from ⟨by rw [HSS.out, ← hI]; rw [psz_zero]; exact heap_alloc_new w _, ⟨rfl, .inl ⟨rfl, rfl⟩⟩, rfl, Nat.le_refl _⟩)
  have HB0 := Lib.hid (show Below I w (w.alloc (.stringIter S 0)) by rw [← hI]; exact (Below.refl _ _).alloc (Nat.le_refl _) _)
  rw [hI]
  have HII := Lib.hid hI
  clear hI
  go_loopw [4, 5] (fun n v wr => ∃ (k : Nat) (ys : List Int), k ≤ xs.length ∧ n = .int .i64 ((xs.take k).count 124 : Nat) ∧ BAt I I xs k v ys wr ∧ Below I w wr) (fun _ _ wr => S.size - wr.iterPos I)
  case atStart => exact ⟨0, [], Nat.zero_le _, rfl, HA0.out, HB0.out⟩
  case round =>
    obtain ⟨k, ys, hk, rfl, hA, hb⟩ := hrel
    have HA := Lib.hid hA
    have HB := Lib.hid hb
    clear hA hb HA0 HB0
    by_cases hlt : k < xs.length
    · have hlt2 : psz xs k < S.size := by
        have := psz_lt xs k hlt
        rw [← HSS.out, str_size]
        exact this
      have hdec : Utf8.decode S (psz xs k) = ((xs.getD k 0).toNat, (encB (xs.getD k 0)).length) := by rw [dec_eq, HS.out]; exact dec_psz xs HG.out k hlt
      have hnn : (((xs.getD k 0).toNat : Nat) : Int) = xs.getD k 0 := getD_nonneg xs HG.out k hlt
      have hps := psz_succ xs k hlt
      have hit := HA.out.it
      have hX := HA.out.iterAt (psz xs (k + 1))
      rw [HSS.out] at hit hX
      have hnx := fun ty => Lib.run_next_any_at (P := Tryd.prog) wr I S (psz xs k) ty hit hlt2
      rw [hdec] at hnx
      simp only [hnn] at hnx
      rw [← hps] at hnx
      have hb7 : Below I w (wr.iterAt I S (psz xs (k + 1))) := Lib.below_iterAt HB.out HA.out.ge S _
      have HSN := Lib.hid (take_snoc hlt)
      have hcs := count_snoc (xs.take k) (xs.getD k 0)
      have hes := erase_snoc (xs.take k) (xs.getD k 0)
      rw [← HA.out.eq, ← HSN.out] at hes
      rw [← HSN.out] at hcs
      have hcl : (xs.take k).count 124 ≤ k := by
        have h1 := List.count_le_length (a := (124 : Int)) (l := xs.take k)
        have h2 := List.length_take_le k xs
        omega
      have hyl : ys.length ≤ k := by
        rw [HA.out.eq]
        have h1 := (List.erase_sublist (a := (124 : Int)) (l := xs.take k)).length_le
        have h2 := List.length_take_le k xs
        omega
      have hkl : k ≤ 1000000 := by have := HL.out; omega
      obtain ⟨r, hr⟩ : ∃ r, xs.getD k 0 = r := ⟨_, rfl⟩
      obtain ⟨ct, hct⟩ : ∃ ct, (xs.take k).count 124 = ct := ⟨_, rfl⟩
      obtain ⟨cs, hcs2⟩ : ∃ cs, (xs.take (k + 1)).count 124 = cs := ⟨_, rfl⟩
      obtain ⟨es, hes2⟩ : ∃ es, (xs.take (k + 1)).erase 124 = es := ⟨_, rfl⟩
      rw [hr] at hnx hcs hes
      rw [hct] at hcs hes hcl ⊢
      rw [hcs2] at hcs
      rw [hes2] at hes
      have HCS := Lib.hid hcs
      have HES := Lib.hid hes
      have HC2 := Lib.hid hcs2
      have HE2 := Lib.hid hes2
      have HLT := Lib.hid hlt
      have HPS := Lib.hid (psz_mono xs k (k + 1) (Nat.lt_succ_self k) hlt)
      have HIT := Lib.hid hit
      obtain ⟨w7, hw7⟩ : ∃ w7, wr.iterAt I S (psz xs (k + 1)) = w7 := ⟨_, rfl⟩
      rw [hw7] at hnx hX hb7
      have HX := Lib.hid hX
      have HB7 := Lib.hid hb7
      have hI7 : I < w7.heap.size := (Array.getElem?_eq_some_iff.1 hX.2).1
      have HI7 := Lib.hid hI7
      have HYL := Lib.hid hyl
      have hctb : ct ≤ 1000000 := by omega
      clear hdec hnn hps hit hX hb7 hcs hes hr hct hcs2 hes2 hw7 hI7 hyl hcl hlt hlt2 hk
      by_cases hc : r = 124
      · have b1 : (r == 124) = true := by simp [hc]
        have H1 := Lib.hid hc
        clear hc
        by_cases hz : ct = 0
        · have HZ := Lib.hid hz
          have b2 : ((ct : Int) + 1 == 1) = true := by simp [hz]
          have e1 : cs = ct + 1 := by rw [HCS.out, if_pos H1.out]
          have e2 : es = ys := by rw [HES.out, if_pos ⟨H1.out, hz⟩]
          have HE := Lib.hid (And.intro e1 e2)
          clear hz e1 e2
          go_wp2_with fail
          go_roundw
          case rel => exact ⟨k + 1, ys, HLT.out, by rw [HC2.out, HE.out.1]; go_num, ⟨by rw [HSS.out]; exact HX.out.2, HX.out.1, by rw [HE2.out, HE.out.2], HA.out.ge⟩, HB7.out⟩
          case measure =>
            rw [iterPos_of HX.out.2, iterPos_of HIT.out]
            have h1 := HPS.out
            have h2 := psz_lt xs k HLT.out
            have h4 : S.size = (enc xs).length := by rw [← HS.out]; rfl
            omega
        · have HZ := Lib.hid hz
          have b2 : ((ct : Int) + 1 == 1) = false := by simp; omega
          have e1 : cs = ct + 1 := by rw [HCS.out, if_pos H1.out]
          have e2 : es = ys ++ [r] := by rw [HES.out, if_neg (fun h => hz h.2)]
          have HE := Lib.hid (And.intro e1 e2)
          clear hz e1 e2
          go_wp2_with (at_builtin; refine wpList_append_lies _ rfl (.tmp 19) (.tmp 21) 22 rfl I 21 i0 (.int .i32 0) 1 4 Tryd.underlying22 HI.out.1 HI.out.2.1 HI.out.2.2.1 HI.out.2.2.2 rfl (by decide) _ ys.length (i32s ys) rfl (own_below HX.out.1 (below_alloc1 _ _)) _ 1 1 [.int .i32 r] rfl rfl (fun j u hj => news_alloc _ _ _ j u hj) (by intro u hu; simp at hu; subst hu; rfl) (by decide) (by have h1 := HYL.out; unfold maxLen; omega) (by have h1 := HYL.out; omega) (by have := HI7.out; simp; omega) _ rfl ?_; intro g cap w9 hown hgrow hat hgl; have HO9 := Lib.hid hown; have HGR := Lib.hid hgrow; clear hown hgrow hat hgl)
          have HI9 := Lib.hid (show w9.heap[I]? = some (.stringIter S (psz xs (k + 1))) by
            rw [HGR.out.block I (by have := HI7.out; simp; omega) (fun e => own_not_iter HX.out.1 HX.out.2 e.symm), Lib.alloc_old w7 _ I HI7.out]
            exact HX.out.2)
          go_roundw
          case rel => exact ⟨k + 1, ys ++ [r], HLT.out, by rw [HC2.out, HE.out.1]; go_num, ⟨by rw [HSS.out]; exact HI9.out, by have := HO9.out; rw [List.length_append, show i32s (ys ++ [r]) = i32s ys ++ [.int .i32 r] by simp [i32s]]; exact this, by rw [HE2.out, HE.out.2], HA.out.ge⟩, (HB7.out.alloc (Nat.le_of_lt HI7.out) _).grown HGR.out (by have := HI7.out; simp; omega) (fun k hk => (HX.out.1.lt k hk).1)⟩
          case measure =>
            rw [iterPos_of HI9.out, iterPos_of HIT.out]
            have h1 := HPS.out
            have h2 := psz_lt xs k HLT.out
            have h4 : S.size = (enc xs).length := by rw [← HS.out]; rfl
            omega
      · have b1 : (r == 124) = false := by simp [hc]
        have e1 : cs = ct := by rw [HCS.out, if_neg hc]; rfl
        have e2 : es = ys ++ [r] := by rw [HES.out, if_neg (fun h => hc h.1)]
        have HE := Lib.hid (And.intro e1 e2)
        clear hc e1 e2
        go_wp2_with (at_builtin; refine wpList_append_lies _ rfl (.tmp 19) (.tmp 21) 22 rfl I 21 i0 (.int .i32 0) 1 4 Tryd.underlying22 HI.out.1 HI.out.2.1 HI.out.2.2.1 HI.out.2.2.2 rfl (by decide) _ ys.length (i32s ys) rfl (own_below HX.out.1 (below_alloc1 _ _)) _ 1 1 [.int .i32 r] rfl rfl (fun j u hj => news_alloc _ _ _ j u hj) (by intro u hu; simp at hu; subst hu; rfl) (by decide) (by have h1 := HYL.out; unfold maxLen; omega) (by have h1 := HYL.out; omega) (by have := HI7.out; simp; omega) _ rfl ?_; intro g cap w9 hown hgrow hat hgl; have HO9 := Lib.hid hown; have HGR := Lib.hid hgrow; clear hown hgrow hat hgl)
        have HI9 := Lib.hid (show w9.heap[I]? = some (.stringIter S (psz xs (k + 1))) by
          rw [HGR.out.block I (by have := HI7.out; simp; omega) (fun e => own_not_iter HX.out.1 HX.out.2 e.symm), Lib.alloc_old w7 _ I HI7.out]
          exact HX.out.2)
        go_roundw
        case rel => exact ⟨k + 1, ys ++ [r], HLT.out, by rw [HC2.out, HE.out.1], ⟨by rw [HSS.out]; exact HI9.out, by have := HO9.out; rw [List.length_append, show i32s (ys ++ [r]) = i32s ys ++ [.int .i32 r] by simp [i32s]]; exact this, by rw [HE2.out, HE.out.2], HA.out.ge⟩, (HB7.out.alloc (Nat.le_of_lt HI7.out) _).grown HGR.out (by have := HI7.out; simp; omega) (fun k hk => (HX.out.1.lt k hk).1)⟩
        case measure =>
          rw [iterPos_of HI9.out, iterPos_of HIT.out]
          have h1 := HPS.out
          have h2 := psz_lt xs k HLT.out
          have h4 : S.size = (enc xs).length := by rw [← HS.out]; rfl
          omega
    · obtain rfl : k = xs.length := by omega
      have hend : ¬ psz xs xs.length < S.size := by
        rw [psz_all, ← HSS.out, str_size]
        exact Nat.lt_irrefl _
      have hit := HA.out.it
      rw [HSS.out] at hit
      have hnx := fun ty => Lib.run_next_end_at (P := Tryd.prog) wr I S (psz xs xs.length) ty hit hend
      obtain ⟨A, c, rfl, hc, hA0, hcells⟩ := Dt.own_tin HA.out.own
      have HEQ := Lib.hid (show ys = xs.erase 124 by have := HA.out.eq; rwa [List.take_length] at this)
      have HEC := Lib.hid (show xs.take xs.length = xs from List.take_length)
      have HYL := Lib.hid (show ys.length ≤ 1000000 by
        rw [HEQ.out]
        have h1 := (List.erase_sublist (a := (124 : Int)) (l := xs)).length_le
        have := HL.out
        omega)
      obtain ⟨ct, hct⟩ : ∃ ct, (xs.take xs.length).count 124 = ct := ⟨_, rfl⟩
      rw [hct]
      have HCT := Lib.hid hct
      have HST := Lib.hid (show ys.length ≤ ys.length ∧ ys.length ≤ c ∧ (A = none → ys.length = 0 ∧ c = 0) ∧ Cells32 wr A (ys.take ys.length) ∧ trimL 32 (ys.take ys.length) = trimL 32 ys from ⟨Nat.le_refl _, hc, hA0, by rw [List.take_length]; exact hcells, by rw [List.take_length]⟩)
      obtain ⟨n0, hn0⟩ : ∃ n0, ys.length = n0 := ⟨_, rfl⟩
      rw [hn0] at HST HYL ⊢
      have HN0 := Lib.hid hn0
      clear hend hit hc hA0 hcells hct hn0 hk hlt
      go_wp2_with fail
      clear hnx
      go_loop [5] (fun v => ∃ (m : Nat) (A : Option Addr) (c : Nat), v = .slice A m c ∧ m ≤ n0 ∧ m ≤ c ∧ (A = none → m = 0 ∧ c = 0) ∧ Cells32 wr A (ys.take m) ∧ trimL 32 (ys.take m) = trimL 32 ys) (fun v => (match v with | .slice _ m _ => m | _ => 0))
      case atStart => exact ⟨n0, A, c, rfl, HST.out⟩
      case round =>
        obtain ⟨m, A, c, rfl, hm, hmc, hA0, hcells, htr⟩ := hrel
        have hm2 : m ≤ 1000000 := by have := HYL.out; omega
        cases m with
        | zero =>
          have HTR := Lib.hid htr
          clear hm hmc hA0 htr
          have hconv : ∀ N, (convert 22 9 (.slice A 0 c)).run Tryd.prog (wr.drewN N) = .ok (.string (Str [])) (wr.drewN N) := fun N => conv_runes (xs := []) (fun h => by cases h)
          go_wp2_with fail
          go_quiet (fail)
          go_wp2_with fail
          go_ret2
          refine ⟨ret_pair (by rw [← HCT.out, HEC.out]) ?_, by rw [HII.out]; exact below_drewN HB.out _⟩
          rw [← HEQ.out, ← HTR.out]; rfl
        | succ m =>
          have hmy : m < ys.length := by have := HN0.out; omega
          obtain ⟨ad, rfl, hcs⟩ := hcells (by rw [List.length_take]; omega)
          have d1 := hcs m (by rw [List.length_take]; omega)
          rw [show (ys.take (m + 1)).getD m 0 = ys.getD m 0 by simp [List.getD, List.getElem?_take]] at d1
          have z1 : ((m + 1 : Nat) : Int) - 1 = (m : Int) := by omega
          have e1 : IntKind.i64.wrap (((m + 1 : Nat) : Int) - 1) = (m : Int) := by rw [z1]; exact IntWalk.i64_in _ (by omega)
          obtain ⟨A', hsl, hA', hcm⟩ := Dt.slice_head (some ad) (m + 1) c m (by omega) hmc hA0
          have HCM := Lib.hid (And.intro hA' (hcm wr (ys.take (m + 1)) (by rw [List.length_take]; omega) hcells))
          obtain ⟨r, hr⟩ : ∃ r, ys.getD m 0 = r := ⟨_, rfl⟩
          rw [hr] at d1
          have HR := Lib.hid hr
          have HMY := Lib.hid hmy
          have HMC := Lib.hid hmc
          have HTR := Lib.hid htr
          have HCL := Lib.hid hcells
          obtain ⟨m1, hm1⟩ : ∃ m1, m + 1 = m1 := ⟨_, rfl⟩
          have hlt1 : (m : Int) < (m1 : Int) := by omega
          have hp1 : 0 < m1 := by omega
          rw [hm1] at e1 hsl ⊢
          have HM1 := Lib.hid hm1
          clear hcs hcells hmy hr hmc htr hm hA0 hA' hcm z1 hm1
          by_cases hc : r = 32
          · have b1 : (r == 32) = true := by simp [hc]
            have HC := Lib.hid hc
            clear hc
            go_wp2_with fail
            go_round
            case rel => exact ⟨m, A', c, rfl, by have := HMY.out; have := HN0.out; omega, by have := HMC.out; omega, HCM.out.1, by have := HCM.out.2; rwa [List.take_take, show min m (m + 1) = m by omega] at this, by rw [← HTR.out, trim_take HMY.out (by rw [HR.out, HC.out])]⟩
            case measure => show m < m1; have := HM1.out; omega
          · have b1 : (r == 32) = false := by simp [hc]
            have HC := Lib.hid hc
            clear hc
            have hconv : ∀ N, (convert 22 9 (.slice (some ad) m1 c)).run Tryd.prog (wr.drewN N) = .ok (.string (Str (ys.take (m + 1)))) (wr.drewN N) := fun N => by
              have h1 := conv_runes (W := wr.drewN N) (A := some ad) (c := c) (xs := ys.take (m + 1)) (fun h0 => HCL.out h0)
              rwa [List.length_take, show min (m + 1) ys.length = m1 by have := HMY.out; have := HM1.out; omega] at h1
            obtain ⟨Z, hZ⟩ : ∃ Z, Str (ys.take (m + 1)) = Z := ⟨_, rfl⟩
            rw [hZ] at hconv
            have HZ := Lib.hid hZ
            clear hZ
            go_wp2_with fail
            go_quiet (fail)
            go_wp2_with fail
            go_ret2
            refine ⟨ret_pair (by rw [← HCT.out, HEC.out]) ?_, by rw [HII.out]; exact below_drewN HB.out _⟩
            rw [← HEQ.out, ← HTR.out, trim_take_ne HMY.out (by rw [HR.out]; exact HC.out), HZ.out]
end Go.Proofs.YtkidcleffllhbaaDoor.Pg
