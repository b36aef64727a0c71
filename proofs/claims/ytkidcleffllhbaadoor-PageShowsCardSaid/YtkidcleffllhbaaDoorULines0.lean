/- Walks: utext.where, utext.lines, utext.Where, utext.Find on a text; []rune(s) of a text. -/
import Derived.Test.YtkidcleffllhbaaDoorULinesP
import Derived.Test.YtkidcleffllhbaaDoorUPlace
import Derived.Laws.IdiomStrings
import Derived.Deep.QuietTactic
import Derived.BigQuiet
import Derived.IntWalk
namespace Go.Proofs.YtkidcleffllhbaaDoor.U
open Go.RowKit Go.Proofs.YtkidcleffllhbaaDoor.Txt
set_option linter.unusedVariables false
set_option linter.unusedSimpArgs false

/-! ### []rune(s) -/
theorem runesFrom_text (S : ByteArray) (rs : List Int) (h : Text S rs) : ∀ (m k : Nat) (acc : Array Value), rs.length - k ≤ m → k ≤ rs.length → Conv.runesFrom S m (psz rs k) acc = acc ++ (i32s (rs.drop k)).toArray := by
  intro m
  induction m with
  | zero =>
    intro k acc hm hk
    have : k = rs.length := by omega
    subst this
    simp [Conv.runesFrom, i32s]
  | succ m ih =>
    intro k acc hm hk
    unfold Conv.runesFrom
    by_cases hlt : k < rs.length
    · have h1 : psz rs k < S.size := by rw [h.len]; exact psz_lt rs k hlt
      have h2 := h.dec k hlt
      rw [if_pos h1, h2]
      simp only []
      rw [← psz_succ rs k hlt, ih (k + 1) _ (by omega) (by omega), List.drop_eq_getElem_cons hlt]
      have e : rs.getD k 0 = rs[k] := by simp [List.getD, hlt]
      have e2 := getD_nonneg rs h.ok k hlt
      rw [e] at e2
      rw [e, show Int.ofNat rs[k].toNat = rs[k] from e2, ← Array.toList_inj]
      clear e2 e h2 ih
      generalize rs[k] = x
      generalize List.drop (k + 1) rs = t
      simp [i32s]
    · have : k = rs.length := by omega
      subst this
      rw [if_neg (by rw [h.len, psz_all]; omega)]
      simp [i32s]
/-- A fresh row of a text's runes. -/
theorem conv_to_runes (S : ByteArray) (rs : List Int) (h : Text S rs) (hl : rs.length ≤ 35184372087808) (w : World) :
    ∃ (c : Nat) (w' : World), (convert 9 22 (.string S)).run Tryd.prog w = .ok (.slice (some ⟨w.heap.size, 0, none⟩) rs.length c) w' ∧ rs.length ≤ c ∧ Below w.heap.size w w' ∧ Cells32 w' (some ⟨w.heap.size, 0, none⟩) rs := by
  have hr : Conv.runesFrom S S.size 0 #[] = (i32s rs).toArray := by
    have := runesFrom_text S rs h S.size 0 #[] (by have := h.le; omega) (Nat.zero_le _)
    rw [psz_zero] at this
    rw [this]
    simp
  have hz : (i32s rs).toArray.size = rs.length := by simp [i32s]
  have hrun := run_runes_of_string (P := Tryd.prog) w 9 22 21 S Tryd.underlying9 Tryd.underlying22 Tryd.underlying21 (by rw [hr, hz]; omega)
  rw [hr, hz] at hrun
  have hc := grownCap_ge w rs.length 0 21
  refine ⟨_, _, hrun, by omega, (Below.refl _ _).drew.alloc (Nat.le_refl _) _, fun _ => ⟨_, rfl, fun j hj => ?_⟩⟩
  have e : (⟨w.heap.size, 0, none⟩ : Addr).add j = ⟨w.heap.size, j, none⟩ := by unfold Addr.add; split <;> simp_all
  rw [e]
  refine (World.cell?_alloc_at _ _ _ _ rfl).trans ?_
  rw [Array.getElem?_append_left (by rw [hz]; exact hj)]
  simp [i32s, List.getElem?_eq_getElem hj, List.getD, hj]

/-! ### where -/
set_option maxRecDepth 100000 in
set_option maxHeartbeats 2000000 in
theorem where_any (A : Option Addr) (c a : Nat) (rs : List Int) (w : World) (hc : Cells32 w A rs) (hl : rs.length ≤ 35184372087808) (hcap : rs.length ≤ c) (ha : a ≤ rs.length) :
    Calls Tryd.prog 169 #[.slice A rs.length c, .int .i64 a] w fun e w' => e = .returned (.tuple #[.int .i64 (nl rs a), .int .i64 ((a : Int) - homeP rs a)]) ∧ w = w' := by
  have hac : a ≤ c := by omega
  go_enter Tryd.func169, Tryd.ntmps169
  go_wp2_with fail
  go_loop [4, 5, 12] (fun ln cl i => ∃ j : Nat, j ≤ a ∧ i = .int .i64 j ∧ ln = .int .i64 (nl rs j) ∧ cl = .int .i64 ((j : Int) - homeP rs j)) (fun _ _ i => a - (intOf i).toNat)
  case atStart => exact ⟨0, Nat.zero_le _, rfl, rfl, rfl⟩
  case round =>
    obtain ⟨j, hj, rfl, rfl, rfl⟩ := hrel
    have h1 := nl_le rs j
    have h2 := homeP_le rs j
    by_cases hlt : j < a
    · obtain ⟨ad, rfl, hcs⟩ := hc (by omega)
      have hcell := hcs j (by omega)
      have hn : nl rs (j + 1) = if rs.getD j 0 = 10 then nl rs j + 1 else nl rs j := rfl
      have hh : homeP rs (j + 1) = if rs.getD j 0 = 10 then j + 1 else homeP rs j := rfl
      generalize rs.getD j 0 = r at hcell hn hh
      by_cases hr : r = 10
      · subst hr
        rw [if_pos rfl] at hn hh
        have HN := Lib.hid hn
        have HH := Lib.hid hh
        clear hn hh hcs
        go_wp2_with fail
        go_round
        case rel => exact ⟨j + 1, by omega, by go_num, by rw [HN.out]; go_num, by rw [HH.out]; congr 1; omega⟩
        case measure => simp [intOf]; omega
      · rw [if_neg hr] at hn hh
        have hrb : (r == 10) = false := by simpa using hr
        have HN := Lib.hid hn
        have HH := Lib.hid hh
        clear hn hh hcs hr
        go_wp2_with fail
        go_round
        case rel => exact ⟨j + 1, by omega, by go_num, by rw [HN.out], by rw [HH.out]; congr 1; omega⟩
        case measure => simp [intOf]; omega
    · obtain rfl : j = a := by omega
      go_wp2_with fail
      go_ret2
      exact ⟨rfl, rfl⟩

/-! ### lines -/
def i64s (xs : List Int) : List Value := xs.map (Value.int .i64)
theorem info64 : (Tryd.prog.info? 3).map (fun i => (i.zero, i.size, i.bytes)) = some (some (.int .i64 0), 1, 8) := by kernel_rfl
theorem own_one (w : World) (x : Int) (T : TypeId) : (w.alloc (.cells #[.int .i64 x] T)).ownsRow w.heap.size T 1 (.slice (some ⟨w.heap.size, 0, none⟩) 1 1) 1 (i64s [x]) :=
  ⟨rfl, .inr ⟨w.heap.size, 1, _, rfl, Nat.le_refl _, heap_alloc_new w _, Nat.le_refl _, by unfold maxLen; omega, rfl, rfl⟩⟩
theorem starts_step_own {w1 : World} {B e n m : Nat} {v : Value} {rs : List Int} {k : Nat} {y : Int} (h : w1.ownsRow B e 1 v n (i64s (starts rs k) ++ [.int .i64 y])) (hr : rs.getD k 0 = 10) (hy : y = (k : Int) + 1) (hn : n = nl rs k + 2) (hm : m = nl rs (k + 1) + 1) : w1.ownsRow B e 1 v m (i64s (starts rs (k + 1))) := by
  have h1 : starts rs (k + 1) = starts rs k ++ [((k + 1 : Nat) : Int)] := by simp only [starts]; rw [if_pos hr]
  have h2 : nl rs (k + 1) = nl rs k + 1 := by simp only [nl]; rw [if_pos hr]
  rw [h1]
  obtain rfl : n = m := by omega
  subst hy
  simpa [i64s] using h
theorem round_below' {w wr w1 : World} {e k sz : Nat} {v : Value} {xs : List Value} {o : Obj} (hb : Below w.heap.size w wr) (ho : wr.ownsRow w.heap.size e sz v k xs) (hg : (wr.alloc o).grownBy w1 v.ownBlock) : Below w.heap.size w w1 :=
  (hb.alloc hb.size o).grown hg (by have := hb.size; simp; omega) fun j hj => (ho.lt j hj).1

set_option maxRecDepth 100000 in
set_option maxHeartbeats 4000000 in
theorem lines_any (A : Option Addr) (c : Nat) (rs : List Int) (w : World) (hc : Cells32 w A rs) (hl : rs.length ≤ 4398046511104) :
    Calls Tryd.prog 170 #[.slice A rs.length c] w fun e w' => ∃ v, e = .returned v ∧ w'.ownsRow w.heap.size 3 1 v (linesP rs).length (i64s (linesP rs)) ∧ Below w.heap.size w w' := by
  obtain ⟨i0, hi, hz0, hz1, hz2⟩ := info_parts info64
  have hsl := Tryd.underlying46
  have hn := lines_len rs
  have HLN := Lib.hid hn
  have HC := Lib.hid hc
  clear hn hc
  go_enter Tryd.func170, Tryd.ntmps170
  go_wp2_with fail
  go_loopw [3, 9] (fun v i wr => ∃ k : Nat, k ≤ rs.length ∧ i = .int .i64 k ∧ wr.ownsRow w.heap.size 3 1 v (nl rs k + 1) (i64s (starts rs k)) ∧ Below w.heap.size w wr) (fun _ i _ => rs.length - (intOf i).toNat)
  case atStart => exact ⟨0, Nat.zero_le _, rfl, own_one w 0 _, (Below.refl _ _).alloc (Nat.le_refl _) _⟩
  case round =>
    obtain ⟨k, hk, rfl, hown, hb⟩ := hrel
    have h1 := nl_le rs k
    have h63 : nl rs k + 1 + 1 ≤ maxLen := by unfold maxLen; omega
    have hby : (nl rs k + 1 + 1) * 8 ≤ 140737488355328 := by omega
    have hbase : ∀ o, w.heap.size ≤ (wr.alloc o).heap.size := fun o => by have := hb.size; simp; omega
    have HBASE := Lib.hid hbase
    have H63 := Lib.hid h63
    have HBY := Lib.hid hby
    have HO := Lib.hid hown
    have HB := Lib.hid hb
    clear hbase h63 hby hown hb
    by_cases hlt : k < rs.length
    · obtain ⟨ad, rfl, hcs⟩ := (HC.out.below HB.out) (by omega)
      have hcell := hcs k hlt
      generalize hr : rs.getD k 0 = r at hcell
      have HR := Lib.hid hr
      clear hr hcs
      by_cases hr : r = 10
      · subst hr
        go_wp2_with (at_builtin; refine wpList_append_own _ rfl (.tmp 16) (.tmp 19) 46 rfl w.heap.size 3 i0 (.int .i64 0) 1 8 hsl hi hz0 hz1 hz2 rfl (by decide) _ _ _ rfl (HO.out.alloc _) ⟨wr.heap.size, 0, none⟩ 1 1 [_] rfl rfl (cell_one_new _ _ _) (by simp [Value.oneCell']) H63.out HBY.out (HBASE.out _) ?_; intro v' w1 hown1 hgrow1 _; have HO1 := Lib.hid hown1; have HG1 := Lib.hid hgrow1; clear hown1 hgrow1)
        go_roundw
        case rel => exact ⟨k + 1, by omega, by go_num, starts_step_own HO1.out HR.out rfl rfl rfl, round_below' HB.out HO.out HG1.out⟩
        case measure => simp [intOf]; omega
      · have hrb : (r == 10) = false := by simpa using hr
        go_wp2_with fail
        go_roundw
        case rel =>
          have e1 : nl rs (k + 1) = nl rs k := by simp only [nl]; rw [HR.out, if_neg hr]
          have e2 : starts rs (k + 1) = starts rs k := by simp only [starts]; rw [HR.out, if_neg hr]
          exact ⟨k + 1, by omega, by go_num, by rw [e1, e2]; exact HO.out, HB.out⟩
        case measure => simp [intOf]; omega
    · obtain rfl : k = rs.length := by omega
      go_wp2_with (at_builtin; refine wpList_append_own _ rfl (.tmp 22) (.tmp 26) 46 rfl w.heap.size 3 i0 (.int .i64 0) 1 8 hsl hi hz0 hz1 hz2 rfl (by decide) _ _ _ rfl (HO.out.alloc _) ⟨wr.heap.size, 0, none⟩ 1 1 [_] rfl rfl (cell_one_new _ _ _) (by simp [Value.oneCell']) H63.out HBY.out (HBASE.out _) ?_; intro v' w1 hown1 hgrow1 _; have HO1 := Lib.hid hown1; have HG1 := Lib.hid hgrow1; clear hown1 hgrow1)
      go_ret
      refine ⟨_, rfl, ?_, round_below' HB.out HO.out HG1.out⟩
      have := HO1.out
      rw [HLN.out]
      simpa [linesP, i64s] using this

/-! ### Where, Find -/
theorem pw_below {B : Nat} {w W : World} (h : Below B w W) (n : Nat) : Below B w (W.drewN n) := ⟨h.os, h.tape, h.output, h.size, h.block⟩
/-- A slice of ints whose cells are these numbers. -/
def Cells64 (w : World) (A : Option Addr) (xs : List Int) : Prop := 0 < xs.length → ∃ ad, A = some ad ∧ ∀ j, j < xs.length → w.cell? (ad.add j) = some (.int .i64 (xs.getD j 0))
theorem own_ints {W : World} {base e : Nat} {v : Value} {xs : List Int} (h : W.ownsRow base e 1 v xs.length (i64s xs)) : ∃ A c, v = .slice A xs.length c ∧ xs.length ≤ c ∧ Cells64 W A xs := by
  rcases h.2 with ⟨rfl, h0⟩ | ⟨g, cap, cur, rfl, _, _, hcap, _⟩
  · exact ⟨none, 0, by rw [h0], by omega, fun hp => by omega⟩
  · refine ⟨_, cap, rfl, hcap, fun _ => ⟨_, rfl, fun j hj => h.cells (g := g) rfl j _ ?_⟩⟩
    simp [i64s, List.getElem?_eq_getElem (show j < xs.length by omega), List.getD_eq_getElem?_getD]
/-- A negative column. -/
theorem end_of (rs : List Int) (k : Nat) (hk : k ≤ rs.length) : (linesP rs).getD (nl rs k) 0 = homeP rs k ∧ (linesP rs).getD (nl rs k + 1) 0 = (homeP rs k : Int) + ((endP rs k : Int) - homeP rs k) + 1 ∧ nl rs k ≤ nl rs rs.length :=
  ⟨lines_home rs k hk, by rw [lines_end rs k hk]; omega, nl_mono rs k _ hk⟩
end Go.Proofs.YtkidcleffllhbaaDoor.U
