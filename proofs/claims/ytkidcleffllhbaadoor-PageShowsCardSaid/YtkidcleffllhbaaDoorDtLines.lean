/- delta.lines, and slices.Equal on lists of strings. -/
import Derived.Test.YtkidcleffllhbaaDoorDtTexts
import Derived.Test.YtkidcleffllhbaaDoorDtShelf
namespace Go.Proofs.YtkidcleffllhbaaDoor.Dt
open Go.RowKit Go.Proofs Go.Proofs.YtkidcleffllhbaaDoor.U Go.Proofs.YtkidcleffllhbaaDoor.Txt
set_option linter.unusedVariables false
set_option linter.unusedSimpArgs false

/-- The longest needle that the search takes at once (a number that start-up lays). -/
def MaxIn (w : World) : Prop := ∃ m, w.cell? ⟨5, 0, none⟩ = some (.int .i64 m)
theorem MaxIn.below {w w' : World} (h : MaxIn w) (hb : Below w.heap.size w w') : MaxIn w' := by
  obtain ⟨m, hm⟩ := h
  exact ⟨m, cell_below hb hm⟩
/-- The lines of a string. -/
def linesB (s : ByteArray) : List ByteArray := Lib.splitB ⟨#[10]⟩ 0 (Lib.countB s ⟨#[10]⟩) s
theorem lines_any (s : ByteArray) (w : World) (hs : s.size < 4294967281) (hm : MaxIn w) (hl : (linesB s).length = Lib.countB s ⟨#[10]⟩ + 1) :
    Calls Tryd.prog 32 #[.string s] w fun e w' => ∃ A c, e = .returned (.slice A (linesB s).length c) ∧ (linesB s).length ≤ c ∧ A ≠ none ∧ CellsS w' A (linesB s) ∧ Below w.heap.size w w' := by
  obtain ⟨m, hm⟩ := hm
  have HS := Lib.hid (Tryd.strings_Split s ⟨#[10]⟩ m w hs hm (by decide))
  have HL := Lib.hid hl
  clear hl
  go_enter Tryd.func32, Tryd.ntmps32
  go_wp2_with fail
  refine HS.out.mono ?_
  rintro e w1 ⟨rfl, rfl⟩
  go_wp2_with fail
  go_ret
  refine ⟨some ⟨w.heap.size, 0, none⟩, (linesB s).length, by rw [HL.out]; rfl, Nat.le_refl _, by simp, ?_, (Below.refl _ _).alloc (Nat.le_refl _) _⟩
  intro h0
  refine ⟨_, rfl, fun j hj => ?_⟩
  refine news_alloc w _ _ j _ ?_
  show ((linesB s).map Value.string)[j]? = _
  rw [List.getElem?_map, List.getElem?_eq_getElem hj]
  simp [List.getD, List.getElem?_eq_getElem hj]
set_option maxRecDepth 100000 in
set_option maxHeartbeats 4000000 in
theorem EqualS_any (A B : Option Addr) (c d : Nat) (x y : List ByteArray) (w : World) (hx : CellsS w A x) (hy : CellsS w B y) (hl : x.length ≤ 1000000) (hl2 : y.length ≤ 1000000) :
    Calls Tryd.prog 60 #[.slice A x.length c, .slice B y.length d] w fun e w' => e = .returned (.bool (decide (x = y))) ∧ Below w.heap.size w w' := by
  have HX := Lib.hid hx
  have HY := Lib.hid hy
  clear hx hy
  by_cases hlen : x.length = y.length
  · obtain ⟨n, hn⟩ : ∃ n, x.length = n := ⟨_, rfl⟩
    have HNX := Lib.hid hn
    have HNY := Lib.hid (hlen.symm.trans hn)
    rw [hn] at hl ⊢
    rw [← hlen, hn]
    clear hn hlen hl2
    go_enter Tryd.func60, Tryd.ntmps60
    go_wp2_with fail
    go_loopw [13] (fun i wr => ∃ k : Nat, i = .int .i64 k ∧ k ≤ n ∧ (∀ j, j < k → x[j]? = y[j]?) ∧ Below w.heap.size w wr) (fun i _ => n - (intOf i).toNat)
    case atStart => exact ⟨0, rfl, Nat.zero_le _, fun j hj => by omega, Below.refl _ _⟩
    case round =>
      obtain ⟨k, rfl, hk, heq, hb⟩ := hrel
      have HE := Lib.hid heq
      have HB := Lib.hid hb
      clear heq hb
      by_cases hlt : k < n
      · have hkx : k < x.length := by rw [HNX.out]; exact hlt
        have hky : k < y.length := by rw [HNY.out]; exact hlt
        obtain ⟨ad1, rfl, hcs1⟩ := (HX.out.below HB.out) (by omega)
        obtain ⟨ad2, rfl, hcs2⟩ := (HY.out.below HB.out) (by omega)
        have y1 := hcs1 k hkx
        have y2 := hcs2 k hky
        rw [List.getD_eq_getElem?_getD, List.getElem?_eq_getElem hkx, Option.getD_some] at y1
        rw [List.getD_eq_getElem?_getD, List.getElem?_eq_getElem hky, Option.getD_some] at y2
        have HXK := Lib.hid (List.getElem?_eq_getElem hkx)
        have HYK := Lib.hid (List.getElem?_eq_getElem hky)
        generalize x[k] = a at y1 HXK
        generalize y[k] = b at y2 HYK
        clear hcs1 hcs2 hkx hky
        by_cases hab : a.toList = b.toList
        · have hbb : (a.toList == b.toList) = true := by simp [hab]
          have HAB := Lib.hid (show a = b from ByteArray.ext (Array.toList_inj.1 (by rw [toList_eq, toList_eq] at hab; exact hab)))
          clear hab
          go_wp2_with fail
          go_quiet (fail)
          go_wp2_with fail
          go_roundw
          case rel => exact ⟨k + 1, by go_num, by omega, fun j hj => by
            rcases Nat.lt_succ_iff_lt_or_eq.1 hj with h | rfl
            · exact HE.out j h
            · rw [HXK.out, HYK.out, HAB.out], pw_below HB.out _⟩
          case measure => simp [intOf]; omega
        · have hbb : (a.toList == b.toList) = false := by simp [hab]
          have HNE := Lib.hid (show ¬ x = y from fun e => hab (by have := HXK.out; rw [e, HYK.out] at this; rw [Option.some.inj this]))
          clear hab
          go_wp2_with fail
          go_quiet (fail)
          go_wp2_with fail
          go_ret
          exact ⟨ret_bool (decide_eq_false HNE.out).symm, pw_below HB.out _⟩
      · obtain rfl : k = n := by omega
        have hxy : x = y := List.ext_getElem? fun j => by
          by_cases hj : j < k
          · exact HE.out j hj
          · rw [List.getElem?_eq_none (by rw [HNX.out]; omega), List.getElem?_eq_none (by rw [HNY.out]; omega)]
        go_wp2_with fail
        go_ret
        exact ⟨ret_bool (decide_eq_true hxy).symm, HB.out⟩
  · have hne : ¬ (x.length : Int) = y.length := by omega
    have hnb : ((x.length : Int) != y.length) = true := by simp; omega
    go_enter Tryd.func60, Tryd.ntmps60
    go_wp2_with fail
    go_ret
    exact ⟨ret_bool (decide_eq_false (fun e => hlen (by rw [e]))).symm, Below.refl _ _⟩
end Go.Proofs.YtkidcleffllhbaaDoor.Dt
