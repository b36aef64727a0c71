/- The program's Unquote. -/
import Derived.Test.YtnippaaiopgnaaaDoorUEsc2
namespace Go.Proofs.YtnippaaiopgnaaaDoor.U
open Go.RowKit Go.Proofs.YtnippaaiopgnaaaDoor.Txt
set_option linter.unusedVariables false
set_option linter.unusedSimpArgs false

set_option maxHeartbeats 4000000 in
theorem escape_nil (s : ByteArray) (w : World) (hL : s.data.toList = []) :
    Calls Tryd.prog 61 #[.string s] w fun e w' => EscRes s.data.toList e ∧ Below w.heap.size w w' := by
  have HE := Lib.hid (show escL s.data.toList = ([], 0) by rw [hL]; rfl)
  obtain rfl : s = ⟨#[]⟩ := by
    apply ByteArray.ext
    rw [← Array.toList_inj, hL]
  go_enter Tryd.func61, Tryd.ntmps61
  go_wp2
  go_ret2
  exact ⟨.none HE.out, Below.refl _ _⟩
theorem escape_any (s : ByteArray) (w : World) (hE : EnvQ w) (hs : s.size ≤ 1000000000000) :
    Calls Tryd.prog 61 #[.string s] w fun e w' => EscRes s.data.toList e ∧ Below w.heap.size w w' := by
  cases hL : s.data.toList with
  | nil => have := escape_nil s w hL; rw [hL] at this; exact this
  | cons h t =>
    rw [← hL]
    by_cases hx : h = 120
    · subst hx; exact escape_x s w t hL hE
    by_cases hu : h = 117
    · subst hu; exact escape_u s w t hL hE hs
    exact escape_plain s w h t hL hx hu
theorem escL_four (l : List UInt8) : (escL l).1.length ≤ 4 := by
  have e4 : ∀ n : Int, (encB n).length ≤ 4 := fun n => (encB_len n).2
  generalize hE : encB = E at e4
  unfold escL
  rw [hE]
  split
  · simp
  · repeat' split
    all_goals first | exact e4 _ | simp
theorem endT_two : ∀ (k : Bool) (l : List UInt8) (i : Nat), endT k l i ≠ 0 → i + 1 ≤ endT k l i
  | k, [], i, h => by cases k <;> exact absurd rfl h
  | true, _ :: t, i, h => by have := endT_two false t (i + 1) h; show i + 1 ≤ endT false t (i + 1); omega
  | false, c :: t, i, h => by
    have h1 := endT_two true t (i + 1)
    have h2 := endT_two false t (i + 1)
    simp only [endT] at h ⊢
    split
    · exact Nat.le_refl _
    · split
      · rename_i a b; rw [if_neg a, if_pos b] at h; have := h1 h; omega
      · rename_i a b; rw [if_neg a, if_neg b] at h; have := h2 h; omega
theorem endL_two (l : List UInt8) (h : endL l ≠ 0) : 2 ≤ endL l := by
  cases l with
  | nil => exact absurd rfl h
  | cons c t =>
    simp only [endL] at h ⊢
    by_cases hc : c = 34
    · rw [if_pos hc] at h ⊢; exact endT_two false t 1 h
    · rw [if_neg hc] at h; exact absurd rfl h

/-- What Unquote hands back. -/
def UnqRes (o : Option (List UInt8 × Nat)) (e : Ending) : Prop := match o with
  | none => e = .returned (.tuple #[.string ⟨#[]⟩, .int .i64 0, .int .i64 13])
  | some (x, n) => e = .returned (.tuple #[.string ⟨x.toArray⟩, .int .i64 n, .int .i64 0])
/-- Where Unquote's loop stands. -/
structure UAt (W : World) (l : List UInt8) (n : Nat) (wr : World) (j : Nat) (acc : List UInt8) : Prop where
  lo : 1 ≤ j
  hi : j + 1 ≤ n
  bld : Bld W.heap.size W.heap.size (Lib.byteCells acc) wr
  below : Below W.heap.size W wr
  len : acc.length ≤ 4 * j
  eq : bodyL ((l.take (n - 1)).drop 1) = (bodyF (n - 1 - j) ((l.take (n - 1)).drop j)).map (acc ++ ·)

set_option maxRecDepth 100000 in
set_option maxHeartbeats 8000000 in
theorem Unquote_any (s : ByteArray) (w : World) (hs : s.size ≤ 1000000000000) (hE : EnvQ w) :
    Calls Tryd.prog 48 #[.string s] w fun e w' => UnqRes (unqL s.data.toList) e ∧ Below w.heap.size w w' := by
  obtain ⟨l, hl⟩ : ∃ l, s.data.toList = l := ⟨_, rfl⟩
  have hlen : s.size = l.length := by rw [← hl]; rfl
  have HEN := Lib.hid (ending_any s w hs)
  rw [hl] at HEN ⊢
  have HE := Lib.hid hE
  have HL := Lib.hid hl
  have hend := endL_le l
  rw [← hlen] at hend
  clear hE hl
  by_cases h0 : endL l = 0
  · have HU := Lib.hid (show unqL l = none by unfold unqL; rw [if_pos h0])
    rw [h0] at HEN
    clear h0 hend hlen
    go_enter Tryd.func48, Tryd.ntmps48
    go_wp2_with fail
    refine HEN.out.mono ?_
    rintro e w1 ⟨rfl, rfl⟩
    go_wp2_with fail
    go_ret3
    exact ⟨by rw [HU.out]; exact rfl, Below.refl _ _⟩
  have h2 := endL_two l h0
  have hu : unqL l = match bodyL ((l.take (endL l - 1)).drop 1) with
      | none => none
      | some x => if quoteL x = l.take (endL l) then some (x, endL l) else none := by unfold unqL; rw [if_neg h0]; rfl
  obtain ⟨n, hn⟩ : ∃ n, endL l = n := ⟨_, rfl⟩
  rw [hn] at HEN hend h2 hu
  have HU := Lib.hid hu
  have b0 : ((n : Int) == 0) = false := by simp; omega
  have HLN := Lib.hid hlen
  clear h0 hu hn hlen
  go_enter Tryd.func48, Tryd.ntmps48
  go_wp2_with fail
  refine HEN.out.mono ?_
  rintro e w1 ⟨rfl, rfl⟩
  go_wp2_with fail
  clear b0
  go_loopw [7] (fun v wr => ∃ (j : Nat) (acc : List UInt8), v = .int .i64 j ∧ UAt w l n wr j acc) (fun v _ => n - (intOf v).toNat)
  case atStart =>
    refine ⟨1, [], rfl, Nat.le_refl _, h2, Bld.new w, (Below.refl _ _).alloc (Nat.le_refl _) _, Nat.zero_le _, ?_⟩
    have : ((l.take (n - 1)).drop 1).length = n - 1 - 1 := by rw [List.length_drop, List.length_take]; have := HLN.out; omega
    unfold bodyL
    rw [this]
    cases bodyF (n - 1 - 1) ((l.take (n - 1)).drop 1) <;> rfl
  case round =>
    obtain ⟨j, acc, rfl, hq⟩ := hrel
    have HQ := Lib.hid hq
    have hj1 := hq.lo
    have hj2 := hq.hi
    clear hq
    by_cases hlt : j < n - 1
    case neg =>
      have hjn : (n : Int) - 1 = j := by omega
      have hbody : bodyL ((l.take (n - 1)).drop 1) = some acc := by
        have := HQ.out.eq
        rw [show n - 1 - j = 0 by omega] at this
        rw [this]
        simp [bodyF]
      have hu := HU.out
      rw [hbody] at hu
      simp only at hu
      have hal := HQ.out.len
      obtain ⟨x, hx⟩ : ∃ x : ByteArray, x = ⟨acc.toArray⟩ := ⟨_, rfl⟩
      have hxl : x.data.toList = acc := by rw [hx]
      have hxs : x.size ≤ 14073748835000 := by rw [← size_toList, hxl]; omega
      have HS := Lib.hid (String_any w.heap.size w.heap.size acc wr HQ.out.bld HQ.out.below.size)
      rw [← hx] at HS
      obtain ⟨Q, hQ⟩ : ∃ Q : ByteArray, Q = ⟨(quoteL acc).toArray⟩ := ⟨_, rfl⟩
      have C1 := Lib.hid (show ∀ w2, Below w.heap.size w w2 → ∀ W, Below w2.heap.size w2 W → Calls Tryd.prog 29 #[.string x] W fun e w' => e = .returned (.string Q) ∧ Below w2.heap.size w2 w' from fun w2 hw2 W hW => by
        have := Quote_any x W hxs ((HE.out.below (hw2.trans (hW.mono hw2.size))).tz)
        rw [hxl, ← hQ] at this
        exact this.mono fun e w' ⟨h1, h2⟩ => ⟨h1, hW.trans (h2.mono hW.size)⟩)
      obtain ⟨P, hP⟩ : ∃ P, s.extract 0 n = P := ⟨_, rfl⟩
      have hsl : ∀ W : World, (Instr.slice 9 (.string s) none (some (.int .i64 n)) none).run Tryd.prog W = .ok (.string P) W := fun W => by
        rw [run_slice_string_h W 9 s Tryd.underlying9 .i64 n (by omega) (by omega), show ((n : Int)).toNat = n by omega, hP]
      have hPl : P.data.toList = l.take n := by rw [← hP, take_list, HL.out]
      by_cases hqp : Q = P
      case pos =>
        have hun : unqL l = some (acc, n) := by
          rw [hu, if_pos]
          rw [← hPl, ← hqp, hQ]
        have HUN := Lib.hid hun
        have HX := Lib.hid hx
        subst hqp
        clear hu hbody hxl hxs hx hQ hP hPl hun hal
        go_wp2_with fail
        refine HS.out.mono ?_
        rintro e w2 ⟨rfl, hb2⟩
        have HB2 := Lib.hid (HQ.out.below.trans hb2)
        clear hb2
        go_upto_region 16 with fail
        go_cut [53] (fun v wx => v = .bool false ∧ Below w2.heap.size w2 wx)
        case first =>
          go_region_with ((with_reducible refine (C1.out _ HB2.out _ (by first | exact Below.refl _ _ | exact (Below.refl _ _).drew | assumption | exact Below.drew (by assumption))).mono ?_); rintro e w5 ⟨rfl, hb5⟩)
          all_goals (go_wp2_with fail)
          all_goals
            go_meet
            exact ⟨rfl, by assumption⟩
        case rest =>
          obtain ⟨rfl, hbx⟩ := hcut
          have HBX := Lib.hid (HB2.out.trans (hbx.mono HB2.out.size))
          clear hbx
          go_wp2_with fail
          go_ret3
          exact ⟨by rw [HUN.out, HX.out]; exact rfl, HBX.out⟩
      case neg =>
        have hun : unqL l = none := by
          rw [hu, if_neg]
          intro he
          apply hqp
          rw [hQ, he, ← hPl]
        have HUN := Lib.hid hun
        have g0 : ¬ Q.toList = P.toList := fun he => hqp (by
          apply ByteArray.ext
          rw [← Array.toList_inj, ← toList_eq, ← toList_eq, he])
        have g1 : (Q.toList == P.toList) = false := by simpa using g0
        clear hu hbody hxl hxs hx hQ hP hPl hun hal
        go_wp2_with fail
        refine HS.out.mono ?_
        rintro e w2 ⟨rfl, hb2⟩
        have HB2 := Lib.hid (HQ.out.below.trans hb2)
        clear hb2
        go_upto_region 16 with fail
        go_cut [53] (fun v wx => v = .bool true ∧ Below w2.heap.size w2 wx)
        case first =>
          go_region_with ((with_reducible refine (C1.out _ HB2.out _ (by first | exact Below.refl _ _ | exact (Below.refl _ _).drew | assumption | exact Below.drew (by assumption))).mono ?_); rintro e w5 ⟨rfl, hb5⟩)
          all_goals (go_wp2_with fail)
          all_goals
            go_meet
            exact ⟨by first | rfl | (simp [g0]; done) | (simp [g1]; done), by assumption⟩
        case rest =>
          obtain ⟨rfl, hbx⟩ := hcut
          have HBX := Lib.hid (HB2.out.trans (hbx.mono HB2.out.size))
          clear hbx
          go_wp2_with fail
          go_ret3
          exact ⟨by rw [HUN.out]; exact rfl, HBX.out⟩
    case pos =>
      obtain ⟨c, u, hcu⟩ : ∃ c u, l.drop j = c :: u := by
        cases h : l.drop j with
        | nil => exact absurd (congrArg List.length h) (by rw [List.length_drop, ← HLN.out]; simp; omega)
        | cons c u => exact ⟨c, u, rfl⟩
      obtain ⟨m, hm⟩ : ∃ m, n - 1 - j = m + 1 := ⟨n - 1 - j - 1, by omega⟩
      have hBj : (l.take (n - 1)).drop j = c :: u.take m := by rw [List.drop_take, hcu, hm]; rfl
      have hBj1 : (l.take (n - 1)).drop (j + 1) = u.take m := by rw [← List.drop_drop, hBj]; rfl
      have hi := byte_at s j c u (by rw [HL.out, hcu])
      have heq := HQ.out.eq
      rw [hm, hBj] at heq
      have hal := HQ.out.len
      have hul : (u.take m).length = m := by
        rw [← hBj1, List.length_drop, List.length_take, ← HLN.out]; omega
      by_cases hc : c = 92
      case neg =>
        have hcn : ¬ c.toNat = 92 := fun e => hc (UInt8.toNat_inj.1 e)
        have b92 : ((c.toNat : Int) != 92) = true := by simp; omega
        have HN := Lib.hid (show bodyL ((l.take (n - 1)).drop 1) = (bodyF (n - 1 - (j + 1)) ((l.take (n - 1)).drop (j + 1))).map ((acc ++ [c]) ++ ·) by
          rw [heq, hBj1, show n - 1 - (j + 1) = m by omega]
          simp only [bodyF]
          rw [if_pos hc]
          cases bodyF m (u.take m) with
          | none => rfl
          | some y => simp)
        have hlt2 : (j : Int) < (n : Int) - 1 := by omega
        clear heq hBj hBj1 hul hc hcn hcu
        go_wp2_with fail
        refine (WByte _ _ acc c _ HQ.out.bld (by omega) HQ.out.below.size).mono ?_
        rintro e w2 ⟨rfl, hb, hl, hk⟩
        have HB := Lib.hid hb
        have HLB := Lib.hid (HQ.out.below.trans hl)
        clear hb hl hk
        go_wp2_with fail
        go_roundw
        case rel => exact ⟨j + 1, acc ++ [c], by go_num, by omega, by omega, HB.out, HLB.out, by simp; omega, HN.out⟩
        case measure => simp [intOf]; omega
      case pos =>
        subst hc
        have hi92 : ∀ w, (Instr.index 9 (.string s) (.int .i64 j)).run Tryd.prog w = .ok (.int .u8 92) w := fun w => (hi w).trans (by rfl)
        obtain ⟨E, hE⟩ : ∃ E, s.extract (j + 1) (n - 1) = E := ⟨_, rfl⟩
        have hEl : E.data.toList = u.take m := by rw [← hE, extract_list s (j + 1) (n - 1) (by omega), HL.out, hBj1]
        have hsl : ∀ W : World, (Instr.slice 9 (.string s) (some (.int .i64 ((j : Int) + 1))) (some (.int .i64 ((n : Int) - 1))) none).run Tryd.prog W = .ok (.string E) W := fun W => by
          rw [run_slice_string W 9 s .i64 .i64 ((j : Int) + 1) ((n : Int) - 1) Tryd.underlying9 (by omega) (by omega) (by omega), show ((j : Int) + 1).toNat = j + 1 by omega, show ((n : Int) - 1).toNat = n - 1 by omega, hE]
        have hEs : E.size ≤ 1000000000000 := by rw [← size_toList, hEl, hul]; omega
        have HX := Lib.hid (escape_any E wr (HE.out.below HQ.out.below) hEs)
        rw [hEl] at HX
        have hkl := escL_le (u.take m)
        have hfour := escL_four (u.take m)
        simp only [bodyF] at heq
        rw [if_neg (by simp)] at heq
        rw [hul] at hkl
        obtain ⟨k, hk⟩ : ∃ k, (escL (u.take m)).2 = k := ⟨_, rfl⟩
        have hlt2 : (j : Int) < (n : Int) - 1 := by omega
        rw [hk] at heq hkl
        have HK := Lib.hid hk
        clear hi
        by_cases hk0 : k = 0
        · rw [if_pos hk0] at heq
          have hun : unqL l = none := by
            rw [HU.out, heq]; rfl
          have HUN := Lib.hid hun
          have HK0 := Lib.hid (hk.trans hk0)
          clear heq hBj hBj1 hul hcu hE hEl hk hk0 hkl hfour hun HK
          go_wp2_with fail
          refine HX.out.mono ?_
          rintro e w2 ⟨⟨Wb, rfl, hW⟩, hb⟩
          have HB := Lib.hid (HQ.out.below.trans (hb.mono HQ.out.below.size))
          rw [HK0.out]
          clear hb hW
          go_wp2_with fail
          go_ret3
          exact ⟨by rw [HUN.out]; exact rfl, HB.out⟩
        · rw [if_neg hk0] at heq
          have b0 : ((k : Int) == 0) = false := by simp; omega
          have HN := Lib.hid (show ∀ Wl : List UInt8, Wl = (escL (u.take m)).1 → bodyL ((l.take (n - 1)).drop 1) = (bodyF (n - 1 - (j + 1 + k)) ((l.take (n - 1)).drop (j + 1 + k))).map ((acc ++ Wl) ++ ·) from fun Wl hWl => by
            rw [heq, ← List.drop_drop, hBj1, hWl]
            have hf := bodyF_fuel m (n - 1 - (j + 1 + k)) ((u.take m).drop k) (by rw [List.length_drop, hul]; omega) (by rw [List.length_drop, hul]; omega)
            rw [hf]
            cases bodyF (n - 1 - (j + 1 + k)) ((u.take m).drop k) with
            | none => rfl
            | some y => simp)
          clear heq hBj hBj1 hul hcu hE hEl hk hk0
          go_wp2_with fail
          refine HX.out.mono ?_
          rintro e w2 ⟨⟨Wb, rfl, hW⟩, hb⟩
          have HB0 := Lib.hid (HQ.out.bld.below (hb))
          have HBL := Lib.hid (HQ.out.below.trans (hb.mono HQ.out.below.size))
          have hWs : Wb.size ≤ 4 := by rw [← size_toList, hW]; exact hfour
          have HWE := Lib.hid (HN.out _ hW)
          rw [HK.out]
          clear hb hW hfour
          go_wp2_with fail
          refine (WString _ _ acc Wb _ HB0.out (by omega) HBL.out.size).mono ?_
          rintro e w3 ⟨rfl, hb, hl, hk⟩
          have HB := Lib.hid hb
          have HLB := Lib.hid (HBL.out.trans hl)
          clear hb hl hk
          go_wp2_with fail
          go_roundw
          case rel => exact ⟨j + 1 + k, acc ++ Wb.data.toList, by go_num, by omega, by omega, HB.out, HLB.out, by rw [List.length_append, size_toList]; omega, HWE.out⟩
          case measure => simp [intOf]; omega
end Go.Proofs.YtnippaaiopgnaaaDoor.U
