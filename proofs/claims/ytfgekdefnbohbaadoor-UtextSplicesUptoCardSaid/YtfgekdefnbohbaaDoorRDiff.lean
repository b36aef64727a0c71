/- Diff: the program's answer is the reference's, at every two strings. -/
import Derived.Test.YtfgekdefnbohbaaDoorRSplices2
import Derived.Test.YtfgekdefnbohbaaDoorUDiff
import Derived.Deep.DeepCutAuto
import Derived.Deep.CutBlock
namespace Go.Proofs.YtfgekdefnbohbaaDoor.U
open Go.RowKit Go.Proofs.YtfgekdefnbohbaaDoor.Txt
set_option linter.unusedVariables false
set_option linter.unusedSimpArgs false
attribute [local go_sem] frozen?_alloc_cells

theorem Meets.uniq {a b : List Int} {h t h' t' : Nat} (m : Meets a b h t) (m' : Meets a b h' t') : h = h' ∧ t = t' := by
  have hh : h = h' := by
    rcases Nat.lt_trichotomy h h' with h1 | h1 | h1
    · exact absurd (m'.pre h h1) (m.stop (by have := m'.la; omega) (by have := m'.lb; omega))
    · exact h1
    · exact absurd (m.pre h' h1) (m'.stop (by have := m.la; omega) (by have := m.lb; omega))
  subst hh
  refine ⟨rfl, ?_⟩
  rcases Nat.lt_trichotomy t t' with h1 | h1 | h1
  · exact absurd (m'.suf t h1) (m.stop2 (by have := m'.la; omega) (by have := m'.lb; omega))
  · exact h1
  · exact absurd (m.suf t' h1) (m'.stop2 (by have := m.la; omega) (by have := m.lb; omega))
/-- What Diff answers. -/
inductive DiffPost (rs : List Int) (t : List UInt8) (ri : List Int) (ti : List UInt8) : Ending → Prop where
  | fault (ht : t ≠ []) : DiffPost rs t ri ti (.returned (.tuple #[.int .i64 0, .int .i64 0, .string ⟨#[]⟩, .int .i64 (fault t)]))
  | fault2 (ht : t = []) (hti : ti ≠ []) : DiffPost rs t ri ti (.returned (.tuple #[.int .i64 0, .int .i64 0, .string ⟨#[]⟩, .int .i64 (fault ti)]))
  | ok (h s : Nat) (ht : t = []) (hti : ti = []) (m : Meets rs ri h s) : DiffPost rs t ri ti (.returned (.tuple #[.int .i64 h, .int .i64 (rs.length - h - s : Int), .string (Str (midB ri h s)), .int .i64 0]))
theorem diff_pair {rs : List Int} {t : List UInt8} {ri : List Int} {ti : List UInt8} {e : Ending} (h : DiffPost rs t ri ti e) : ∃ x1 x2 x3 x4, e = .returned (.tuple #[.int .i64 x1, .int .i64 x2, .string x3, .int .i64 x4]) ∧ ∀ e', DiffPost rs t ri ti e' → e' = .returned (.tuple #[.int .i64 x1, .int .i64 x2, .string x3, .int .i64 x4]) := by
  cases h with
  | fault ht =>
    refine ⟨_, _, _, _, rfl, fun e' h' => ?_⟩
    cases h' with
    | fault => rfl
    | fault2 h1 => exact absurd h1 ht
    | ok _ _ h1 => exact absurd h1 ht
  | fault2 ht hti =>
    refine ⟨_, _, _, _, rfl, fun e' h' => ?_⟩
    cases h' with
    | fault h1 => exact absurd ht h1
    | fault2 => rfl
    | ok _ _ _ h1 => exact absurd h1 hti
  | ok h s ht hti m =>
    refine ⟨_, _, _, _, rfl, fun e' h' => ?_⟩
    cases h' with
    | fault h1 => exact absurd ht h1
    | fault2 _ h1 => exact absurd hti h1
    | ok h' s' _ _ m' => obtain ⟨rfl, rfl⟩ := m.uniq m'; rfl

set_option maxRecDepth 100000 in
set_option maxHeartbeats 4000000 in
theorem Diff_is (S T : ByteArray) (rs : List Int) (t : List UInt8) (ri : List Int) (ti : List UInt8) (w : World) (h : Halves S rs t) (hi : Halves T ri ti) (hs : S.size ≤ 1048576) (hss : T.size ≤ 1048576) (hg : Bars w) :
    Calls Tryd.prog 19 #[.string S, .string T] w fun e' w' => DiffPost rs t ri ti e' ∧ Below w.heap.size w w' := by
  have hlen := (len_bound h hs).1
  have hlen2 := (len_bound hi hss).1
  by_cases ht : t = []
  · subst ht
    by_cases hti : ti = []
    · subst hti
      refine (Diff_any S T rs ri w (h.text (by omega)) (hi.text (by omega)) (by omega) (by omega) hg).mono ?_
      rintro e w' ⟨a, s, m, rfl, hb⟩
      exact ⟨.ok a s rfl rfl m, hb⟩
    · have hC := Check_halves S rs [] w h (by omega) hg
      rw [chkN_text] at hC
      have hC2 := fun W hW => Check_halves T ri ti W hi (by omega) hW
      obtain ⟨f, hf⟩ : ∃ f : Int, (fault ti : Int) = f := ⟨_, rfl⟩
      rw [chkN_fault hti hf] at hC2
      have b0 := fault_ne hf
      obtain ⟨p, hp⟩ : ∃ p : Int, ((enc ri).length : Int) = p := ⟨_, rfl⟩
      rw [hp] at hC2
      obtain ⟨n, hn⟩ : ∃ n, rs.length = n := ⟨_, rfl⟩
      rw [hn] at hC
      have HC := Lib.hid (fun W hW => Check_halves S rs [] W h (by omega) hW)
      have HC3 := Lib.hid hC2
      have HG := Lib.hid hg
      have HP := Lib.hid (show DiffPost rs [] ri ti (.returned (.tuple #[.int .i64 0, .int .i64 0, .string ⟨#[]⟩, .int .i64 f])) by rw [← hf]; exact .fault2 rfl hti)
      have HCT := Lib.hid (chkN_text rs)
      rw [hn] at HCT
      clear hC hC2 hp hf hn hti h hi hg
      have x0 : ∀ w : World, (Instr.index 65 (.agg #[.string S, .string T]) (.int .i64 0)).run Tryd.prog w = .ok (.string S) w := fun _ => by kernel_rfl
      have x1 : ∀ w : World, (Instr.index 65 (.agg #[.string S, .string T]) (.int .i64 1)).run Tryd.prog w = .ok (.string T) w := fun _ => by kernel_rfl
      go_enter Tryd.func19, Tryd.ntmps19
      go_wp2_with fail
      go_loopw [4, 7, 16] (fun at0 e i wr => ∃ j : Nat, j ≤ 1 ∧ i = .int .i64 j ∧ e = .int .i64 0 ∧ at0 = .int .i64 0 ∧ Below w.heap.size w wr) (fun _ _ i _ => 1 - (intOf i).toNat)
      case atStart => exact ⟨0, Nat.zero_le _, rfl, rfl, rfl, Below.refl _ _⟩
      case round =>
        obtain ⟨j, hj, rfl, rfl, rfl, hb⟩ := hrel
        have HB := Lib.hid hb
        clear hb
        have hj2 : j = 0 ∨ j = 1 := by omega
        rcases hj2 with rfl | rfl
        · go_wp2_with fail
          refine (HC.out _ (HG.out.below HB.out)).mono ?_
          rintro e w1 ⟨rfl, hb1⟩
          rw [HCT.out]
          have HB1 := Lib.hid (HB.out.trans (hb1.mono HB.out.size))
          clear hb1
          go_wp2_with fail
          go_roundw
          case rel => exact ⟨1, by omega, rfl, rfl, rfl, HB1.out⟩
          case measure => simp [intOf]
        · go_wp2_with fail
          refine (HC3.out _ (HG.out.below HB.out)).mono ?_
          rintro e w1 ⟨rfl, hb1⟩
          have HB1 := Lib.hid (HB.out.trans (hb1.mono HB.out.size))
          clear hb1
          go_wp2_with fail
          refine bodyPost_ret (results_tmp4 rfl _ _ _) rfl ?_
          exact ⟨HP.out, HB1.out⟩
  · have hC := Check_halves S rs t w h (by omega) hg
    obtain ⟨f, hf⟩ : ∃ f : Int, (fault t : Int) = f := ⟨_, rfl⟩
    rw [chkN_fault ht hf] at hC
    have b0 := fault_ne hf
    obtain ⟨p, hp⟩ : ∃ p : Int, ((enc rs).length : Int) = p := ⟨_, rfl⟩
    have HP := Lib.hid (show DiffPost rs t ri ti (.returned (.tuple #[.int .i64 0, .int .i64 0, .string ⟨#[]⟩, .int .i64 f])) by rw [← hf]; exact .fault ht)
    have HC := Lib.hid (fun W hW => Check_halves S rs t W h (by omega) hW)
    have HCT := Lib.hid (show chkN rs t = (0, p, f) by rw [chkN_fault ht hf, hp])
    have HG := Lib.hid hg
    have x0 : ∀ w : World, (Instr.index 65 (.agg #[.string S, .string T]) (.int .i64 0)).run Tryd.prog w = .ok (.string S) w := fun _ => by kernel_rfl
    clear hC hp hf ht h hi hg
    go_enter Tryd.func19, Tryd.ntmps19
    go_wp2_with fail
    go_loopw [4, 7, 16] (fun at0 e i wr => i = .int .i64 0 ∧ e = .int .i64 0 ∧ at0 = .int .i64 0 ∧ Below w.heap.size w wr) (fun _ _ i _ => 0)
    case atStart => exact ⟨rfl, rfl, rfl, Below.refl _ _⟩
    case round =>
      obtain ⟨rfl, rfl, rfl, hb⟩ := hrel
      have HB := Lib.hid hb
      clear hb
      go_wp2_with fail
      refine (HC.out _ (HG.out.below HB.out)).mono ?_
      rintro e w1 ⟨rfl, hb1⟩
      rw [HCT.out]
      have HB1 := Lib.hid (HB.out.trans (hb1.mono HB.out.size))
      clear hb1
      go_wp2_with fail
      refine bodyPost_ret (results_tmp4 rfl _ _ _) rfl ?_
      exact ⟨HP.out, HB1.out⟩

set_option maxRecDepth 100000 in
set_option maxHeartbeats 8000000 in
theorem RefDiff_is (S T : ByteArray) (rs : List Int) (t : List UInt8) (ri : List Int) (ti : List UInt8) (w : World) (h : Halves S rs t) (hi : Halves T ri ti) (hs : S.size ≤ 1048576) (hss : T.size ≤ 1048576) :
    Calls Tryd.prog 60 #[.string S, .string T] w fun e' w' => DiffPost rs t ri ti e' ∧ Below w.heap.size w w' := by
  have H := Lib.hid h
  have HI := Lib.hid hi
  have HS := Lib.hid (show S.size ≤ 4398046511104 by omega)
  have HS2 := Lib.hid (show T.size ≤ 4398046511104 by omega)
  have hlen := (len_bound h hs).1
  have hlen2 := (len_bound hi hss).1
  clear h hi
  by_cases ht : t = []
  case neg =>
    obtain ⟨f, hf⟩ : ∃ f : Int, (fault t : Int) = f := ⟨_, rfl⟩
    have b0 := fault_ne hf
    have HF := Lib.hid hf
    have HT := Lib.hid ht
    have HP := Lib.hid (show DiffPost rs t ri ti (.returned (.tuple #[.int .i64 0, .int .i64 0, .string ⟨#[]⟩, .int .i64 f])) by rw [← hf]; exact .fault ht)
    clear hf ht
    go_enter Tryd.func60, Tryd.ntmps60
    go_wp2_with fail
    refine (Runes_any S rs t _ H.out HS.out).mono ?_
    rintro e w1 ⟨hp, hb1⟩
    have HB := Lib.hid hb1
    clear hb1
    rcases hp with ⟨ht2, _⟩ | ⟨_, rfl⟩
    · exact absurd ht2 HT.out
    rw [HF.out]
    go_wp2_with fail
    refine bodyPost_ret (results_tmp4 rfl _ _ _) rfl ?_
    exact ⟨HP.out, HB.out⟩
  subst ht
  obtain ⟨n, hn⟩ : ∃ n, rs.length = n := ⟨_, rfl⟩
  have HN := Lib.hid hn
  rw [hn] at hlen
  obtain ⟨n2, hn2⟩ : ∃ n, ri.length = n := ⟨_, rfl⟩
  have HN2 := Lib.hid hn2
  rw [hn2] at hlen2
  clear hn hn2
  by_cases hti : ti = []
  case neg =>
    obtain ⟨f, hf⟩ : ∃ f : Int, (fault ti : Int) = f := ⟨_, rfl⟩
    have b0 := fault_ne hf
    have HF := Lib.hid hf
    have HT := Lib.hid hti
    have HP := Lib.hid (show DiffPost rs [] ri ti (.returned (.tuple #[.int .i64 0, .int .i64 0, .string ⟨#[]⟩, .int .i64 f])) by rw [← hf]; exact .fault2 rfl hti)
    clear hf hti
    go_enter Tryd.func60, Tryd.ntmps60
    go_wp2_with fail
    refine (Runes_any S rs [] _ H.out HS.out).mono ?_
    rintro e w1 ⟨hp, hb1⟩
    have HB := Lib.hid hb1
    clear hb1
    rcases hp with ⟨_, v, rfl, hown⟩ | ⟨ht2, _⟩
    case inr => exact absurd rfl ht2
    obtain ⟨A, c, rfl, hcap, hcell⟩ := own_ints hown
    have HCE := Lib.hid hcell
    have HCAP := Lib.hid hcap
    rw [HN.out]
    clear hown hcap hcell
    go_wp2_with fail
    refine (Runes_any T ri ti _ HI.out HS2.out).mono ?_
    rintro e w2 ⟨hp, hb2⟩
    have HB2 := Lib.hid (HB.out.trans (hb2.mono HB.out.size))
    clear hb2
    rcases hp with ⟨ht2, _⟩ | ⟨_, rfl⟩
    · exact absurd ht2 HT.out
    rw [HF.out]
    go_wp2_with fail
    refine bodyPost_ret (results_tmp4 rfl _ _ _) rfl ?_
    exact ⟨HP.out, HB2.out⟩
  subst hti
  go_enter Tryd.func60, Tryd.ntmps60
  go_wp2_with fail
  refine (Runes_any S rs [] _ H.out HS.out).mono ?_
  rintro e w1 ⟨hp, hb1⟩
  have HB := Lib.hid hb1
  clear hb1
  rcases hp with ⟨_, v, rfl, hown⟩ | ⟨ht2, _⟩
  case inr => exact absurd rfl ht2
  obtain ⟨A, c, rfl, hcap, hcell⟩ := own_ints hown
  have HCE := Lib.hid hcell
  have HCAP := Lib.hid hcap
  rw [HN.out]
  clear hown hcap hcell
  go_wp2_with fail
  refine (Runes_any T ri [] _ HI.out HS2.out).mono ?_
  rintro e w2 ⟨hp, hb2⟩
  have HB2 := Lib.hid (HB.out.trans (hb2.mono HB.out.size))
  rcases hp with ⟨_, v2, rfl, hown2⟩ | ⟨ht2, _⟩
  case inr => exact absurd rfl ht2
  obtain ⟨A2, c2, rfl, hcap2, hcell2⟩ := own_ints hown2
  have HC1 := Lib.hid (HCE.out.below hb2)
  have HC2 := Lib.hid hcell2
  have HCAP2 := Lib.hid hcap2
  rw [HN2.out]
  clear hown2 hcap2 hcell2 hb2
  go_upto_block 0 with fail
  go_cut [14] (fun i wx => ∃ j : Nat, i = .int .i64 j ∧ j ≤ n ∧ j ≤ n2 ∧ (∀ i, i < j → rs.getD i 0 = ri.getD i 0) ∧ (j < n → j < n2 → rs.getD j 0 ≠ ri.getD j 0) ∧ Below w2.heap.size w2 wx)
  case first =>
    go_wp2_with fail
    go_loopw [14] (fun i wr => ∃ j : Nat, i = .int .i64 j ∧ j ≤ n ∧ j ≤ n2 ∧ (∀ i, i < j → rs.getD i 0 = ri.getD i 0) ∧ Below w2.heap.size w2 wr) (fun i _ => n - (intOf i).toNat)
    case atStart => exact ⟨0, rfl, Nat.zero_le _, Nat.zero_le _, fun i h => by omega, Below.refl _ _⟩
    case round =>
      obtain ⟨j, rfl, hj1, hj2, hpre, hb3⟩ := hrel
      have HP := Lib.hid hpre
      have HB3 := Lib.hid hb3
      clear hpre hb3
      by_cases g1 : j < n
      case neg =>
        have d1 : decide (j < n) = false := by simp; omega
        have HG1 := Lib.hid g1
        clear g1
        go_wp2_with fail
        go_quiet (fail)
        go_wp2_with fail
        go_meet
        exact ⟨j, rfl, hj1, hj2, HP.out, fun h => absurd h HG1.out, pw_below HB3.out _⟩
      by_cases g2 : j < n2
      case neg =>
        have d2 : decide (j < n2) = false := by simp; omega
        have i1 : (j : Int) < ↑n := by omega
        have HG2 := Lib.hid g2
        clear g2
        go_wp2_with fail
        go_quiet (fail)
        go_wp2_with fail
        go_meet
        exact ⟨j, rfl, hj1, hj2, HP.out, fun _ h => absurd h HG2.out, pw_below HB3.out _⟩
      have i1 : (j : Int) < ↑n := by omega
      have i2 : (j : Int) < ↑n2 := by omega
      have i3 : (0 : Int) ≤ j := by omega
      obtain ⟨ad1, rfl, hcs1⟩ := (HC1.out.below HB3.out) (by have := HN.out; omega)
      obtain ⟨ad2, rfl, hcs2⟩ := (HC2.out.below HB3.out) (by have := HN2.out; omega)
      have y1 := hcs1 j (by have := HN.out; omega)
      have y2 := hcs2 j (by have := HN2.out; omega)
      have HG := Lib.hid (And.intro g1 g2)
      clear hcs1 hcs2
      by_cases g3 : rs.getD j 0 = ri.getD j 0
      · rw [← g3] at y2
        have G3 := Lib.hid g3
        obtain ⟨x, hx⟩ : ∃ x, rs.getD j 0 = x := ⟨_, rfl⟩
        rw [hx] at y1 y2
        clear g3 hx
        go_wp2_with fail
        go_quiet (fail)
        go_wp2_with fail
        go_roundw
        case rel => exact ⟨j + 1, by go_num, HG.out.1, HG.out.2, fun i h => by (rcases Nat.lt_succ_iff_lt_or_eq.1 h with h | rfl); exact HP.out i h; exact G3.out, pw_below HB3.out _⟩
        case measure => have := HG.out.1; simp [intOf]; omega
      · have G3 := Lib.hid g3
        obtain ⟨x, hx⟩ : ∃ x, rs.getD j 0 = x := ⟨_, rfl⟩
        obtain ⟨y, hy⟩ : ∃ y, ri.getD j 0 = y := ⟨_, rfl⟩
        rw [hx] at y1 g3
        rw [hy] at y2 g3
        have g4 : (x == y) = false := by simpa using g3
        clear g3 hx hy
        go_wp2_with fail
        go_quiet (fail)
        go_wp2_with fail
        go_meet
        exact ⟨j, rfl, hj1, hj2, HP.out, fun _ _ => G3.out, pw_below HB3.out _⟩
  case rest =>
    obtain ⟨j, rfl, hj1, hj2, hpre, hstop, hb3⟩ := hcut
    have HP := Lib.hid hpre
    have HST := Lib.hid hstop
    have HB3 := Lib.hid hb3
    clear hpre hstop hb3
    go_upto_block 2 with fail
    go_cut [15] (fun i wx => ∃ s : Nat, i = .int .i64 s ∧ j + s ≤ n ∧ j + s ≤ n2 ∧ (∀ i, i < s → rs.getD (n - 1 - i) 0 = ri.getD (n2 - 1 - i) 0) ∧ (j + s < n → j + s < n2 → rs.getD (n - 1 - s) 0 ≠ ri.getD (n2 - 1 - s) 0) ∧ Below w2.heap.size w2 wx)
    case first =>
      go_wp2_with fail
      go_loopw [15] (fun i wr => ∃ s : Nat, i = .int .i64 s ∧ j + s ≤ n ∧ j + s ≤ n2 ∧ (∀ i, i < s → rs.getD (n - 1 - i) 0 = ri.getD (n2 - 1 - i) 0) ∧ Below w2.heap.size w2 wr) (fun i _ => n - (intOf i).toNat)
      case atStart => exact ⟨0, rfl, by omega, by omega, fun i h => by omega, HB3.out⟩
      case round =>
        obtain ⟨s, rfl, hs1, hs2, hsuf, hb4⟩ := hrel
        have HU := Lib.hid hsuf
        have HB4 := Lib.hid hb4
        clear hsuf hb4
        have w1 : IntKind.i64.wrap (↑j + ↑s) = ((j + s : Nat) : Int) := by rw [show (j : Int) + s = ((j + s : Nat) : Int) by omega]; exact IntWalk.i64_in _ (by omega)
        obtain ⟨js, hjs⟩ : ∃ js, j + s = js := ⟨_, rfl⟩
        rw [hjs] at w1
        have HJS := Lib.hid hjs
        by_cases g1 : js < n
        case neg =>
          have d1 : decide (js < n) = false := by simp; omega
          have HG1 := Lib.hid g1
          clear g1 hjs
          go_wp2_with fail
          go_quiet (fail)
          go_wp2_with fail
          go_meet
          exact ⟨s, rfl, hs1, hs2, HU.out, fun h => absurd h (by rw [HJS.out]; exact HG1.out), pw_below HB4.out _⟩
        by_cases g2 : js < n2
        case neg =>
          have d2 : decide (js < n2) = false := by simp; omega
          have i1 : (js : Int) < ↑n := by omega
          have HG2 := Lib.hid g2
          clear g2 hjs
          go_wp2_with fail
          go_quiet (fail)
          go_wp2_with fail
          go_meet
          exact ⟨s, rfl, hs1, hs2, HU.out, fun _ h => absurd h (by rw [HJS.out]; exact HG2.out), pw_below HB4.out _⟩
        have i1 : (js : Int) < ↑n := by omega
        have i2 : (js : Int) < ↑n2 := by omega
        obtain ⟨ad1, rfl, hcs1⟩ := (HC1.out.below HB4.out) (by have := HN.out; omega)
        obtain ⟨ad2, rfl, hcs2⟩ := (HC2.out.below HB4.out) (by have := HN2.out; omega)
        have y1 := hcs1 (n - 1 - s) (by have := HN.out; omega)
        have y2 := hcs2 (n2 - 1 - s) (by have := HN2.out; omega)
        have v1 : IntKind.i64.wrap (↑n - 1) = ↑n - 1 := IntWalk.i64_in _ (by omega)
        have v2 : IntKind.i64.wrap (↑n2 - 1) = ↑n2 - 1 := IntWalk.i64_in _ (by omega)
        have v3 : IntKind.i64.wrap (↑n - 1 - ↑s) = ↑(n - 1 - s) := by rw [IntWalk.i64_in _ (by omega)]; omega
        have v4 : IntKind.i64.wrap (↑n2 - 1 - ↑s) = ↑(n2 - 1 - s) := by rw [IntWalk.i64_in _ (by omega)]; omega
        have p1 : (n - 1 - s) < n := by omega
        have p2 : (n2 - 1 - s) < n2 := by omega
        have HG := Lib.hid (show j + s < n ∧ j + s < n2 by omega)
        have HQ := Lib.hid (show ∀ q3 q4, n - 1 - s = q3 → n2 - 1 - s = q4 → rs.getD (n - 1 - s) 0 = rs.getD q3 0 ∧ ri.getD (n2 - 1 - s) 0 = ri.getD q4 0 from fun q3 q4 h1 h2 => by subst h1 h2; exact ⟨rfl, rfl⟩)
        clear hcs1 hcs2 hjs
        by_cases g3 : rs.getD (n - 1 - s) 0 = ri.getD (n2 - 1 - s) 0
        · rw [← g3] at y2
          have G3 := Lib.hid g3
          clear g3
          generalize hx : rs.getD (n - 1 - s) 0 = x at y1 y2
          clear hx
          generalize n - 1 - s = q3 at y1 v3 p1
          generalize n2 - 1 - s = q4 at y2 v4 p2
          go_wp2_with fail
          go_quiet (fail)
          go_wp2_with fail
          go_roundw
          case rel => exact ⟨s + 1, by go_num, by have := HG.out; omega, by have := HG.out; omega, fun i h => by (rcases Nat.lt_succ_iff_lt_or_eq.1 h with h | rfl); exact HU.out i h; exact G3.out, pw_below HB4.out _⟩
          case measure => have := HG.out; simp [intOf]; omega
        · have G3 := Lib.hid g3
          generalize hx : rs.getD (n - 1 - s) 0 = x at y1 g3
          generalize hy : ri.getD (n2 - 1 - s) 0 = y at y2 g3
          have g4 : (x == y) = false := by simpa using g3
          clear g3 hx hy
          generalize n - 1 - s = q3 at y1 v3 p1
          generalize n2 - 1 - s = q4 at y2 v4 p2
          go_wp2_with fail
          go_quiet (fail)
          go_wp2_with fail
          go_meet
          exact ⟨s, rfl, hs1, hs2, HU.out, fun _ _ => G3.out, pw_below HB4.out _⟩
    case rest =>
      obtain ⟨s, rfl, hs1, hs2, hsuf, hstop2, hb4⟩ := hcut
      have HB4 := Lib.hid hb4
      have HM := Lib.hid (show Meets rs ri j s from ⟨by rw [HN.out]; exact hs1, by rw [HN2.out]; exact hs2, HP.out, fun h1 h2 => HST.out (by rw [← HN.out]; exact h1) (by rw [← HN2.out]; exact h2), fun i h => by rw [HN.out, HN2.out]; exact hsuf i h, fun h1 h2 => by rw [HN.out, HN2.out]; exact hstop2 (by rw [← HN.out]; exact h1) (by rw [← HN2.out]; exact h2)⟩)
      have f1 : IntKind.i64.wrap (↑n - ↑j) = ↑n - ↑j := IntWalk.i64_in _ (by omega)
      have f2 : IntKind.i64.wrap (↑n - ↑j - ↑s) = ↑n - ↑j - ↑s := IntWalk.i64_in _ (by omega)
      have f3 : IntKind.i64.wrap (↑n2 - ↑s) = ((n2 - s : Nat) : Int) := by rw [IntWalk.i64_in _ (by omega)]; omega
      have HMID := Lib.hid (show cutR ri j (n2 - s) = midB ri j s by unfold cutR midB; rw [HN2.out])
      have HOK := Lib.hid (cutR_ok HI.out.ok j (n2 - s))
      have HCL := Lib.hid (cutR_len ri j (n2 - s) (by rw [HN2.out]; omega))
      have hcu := (HC2.out.below HB4.out).cut j (n2 - s) c2 (by omega) (by rw [HN2.out]; omega) HCAP2.out
      have hrun := slice64 A2 n2 c2 j (n2 - s) (by omega) (by have := HCAP2.out; have := HN2.out; omega)
      have hms : n2 - s ≤ 1048576 := by omega
      obtain ⟨m, hm⟩ : ∃ m, n2 - s = m := ⟨_, rfl⟩
      rw [hm] at f3 HMID HOK HCL hcu hrun hms
      obtain ⟨V, hV⟩ : ∃ V, (if c2 = j then A2 else A2.map (·.add (j * 1))) = V := ⟨_, rfl⟩
      rw [hV] at hrun hcu
      obtain ⟨k, hk⟩ : ∃ k, m - j = k := ⟨_, rfl⟩
      rw [hk] at hrun HCL
      have hS := String_runes V (c2 - j) (cutR ri j m) wc hcu HOK.out (by rw [HCL.out]; omega)
      rw [HCL.out, HMID.out] at hS
      have HSS := Lib.hid hS
      clear hsuf hstop2 hb4 hcu hm hV hk hS
      go_wp2_with fail
      refine HSS.out.mono ?_
      rintro e w5 ⟨rfl, hb5⟩
      have HB5 := Lib.hid (HB2.out.trans ((HB4.out.trans (hb5.mono HB4.out.size)).mono HB2.out.size))
      clear hb5
      go_wp2_with fail
      refine bodyPost_ret (results_tmp4 rfl _ _ _) rfl ?_
      have := DiffPost.ok (t := []) (ti := []) j s rfl rfl HM.out
      rw [HN.out] at this
      exact ⟨this, HB5.out⟩
end Go.Proofs.YtfgekdefnbohbaaDoor.U
