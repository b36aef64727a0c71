/- Walks: utext.where, utext.lines, utext.Where, utext.Find on a text; []rune(s) of a text. Walks: the walks of a caret, by the table of them, and utext.Step on a text. The walk of utext.Diff on two texts. -/
import Derived.Test.YtfgekdefnbohbaaDoorUAll0
import Derived.Test.YtfgekdefnbohbaaDoorUAll7
import Derived.Laws.IdiomStrings
import Derived.Deep.QuietTactic
import Derived.BigQuiet
import Derived.IntWalk
namespace Go.Proofs.YtfgekdefnbohbaaDoor.U
open Go.RowKit Go.Proofs.YtfgekdefnbohbaaDoor.Txt
set_option linter.unusedVariables false
set_option linter.unusedSimpArgs false

/-! ### []rune(s) -/
theorem runesFrom_text (S : ByteArray) (rs : List Int) (h : Text S rs) : ∀ (m k : Nat) (acc : Array Value), rs.length - k ≤ m → k ≤ rs.length → Conv.runesFrom S m (psz rs k) acc = acc ++ (i32s (rs.drop k)).toArray := by
  intro m
  induction m with
  | zero =>
    intro k acc hm hk
    have : k = rs.length := by omega
    subst this
    simp [Conv.runesFrom, i32s]
  | succ m ih =>
    intro k acc hm hk
    unfold Conv.runesFrom
    by_cases hlt : k < rs.length
    · have h1 : psz rs k < S.size := by rw [h.len]; exact psz_lt rs k hlt
      have h2 := h.dec k hlt
      rw [if_pos h1, h2]
      simp only []
      rw [← psz_succ rs k hlt, ih (k + 1) _ (by omega) (by omega), List.drop_eq_getElem_cons hlt]
      have e : rs.getD k 0 = rs[k] := by simp [List.getD, hlt]
      have e2 := getD_nonneg rs h.ok k hlt
      rw [e] at e2
      rw [e, show Int.ofNat rs[k].toNat = rs[k] from e2, ← Array.toList_inj]
      clear e2 e h2 ih
      generalize rs[k] = x
      generalize List.drop (k + 1) rs = t
      simp [i32s]
    · have : k = rs.length := by omega
      subst this
      rw [if_neg (by rw [h.len, psz_all]; omega)]
      simp [i32s]
/-- A fresh row of a text's runes. -/
theorem conv_to_runes (S : ByteArray) (rs : List Int) (h : Text S rs) (hl : rs.length ≤ 35184372087808) (w : World) :
    ∃ (c : Nat) (w' : World), (convert 9 22 (.string S)).run Tryd.prog w = .ok (.slice (some ⟨w.heap.size, 0, none⟩) rs.length c) w' ∧ rs.length ≤ c ∧ Below w.heap.size w w' ∧ Cells32 w' (some ⟨w.heap.size, 0, none⟩) rs := by
  have hr : Conv.runesFrom S S.size 0 #[] = (i32s rs).toArray := by
    have := runesFrom_text S rs h S.size 0 #[] (by have := h.le; omega) (Nat.zero_le _)
    rw [psz_zero] at this
    rw [this]
    simp
  have hz : (i32s rs).toArray.size = rs.length := by simp [i32s]
  have hrun := run_runes_of_string (P := Tryd.prog) w 9 22 21 S Tryd.underlying9 Tryd.underlying22 Tryd.underlying21 (by rw [hr, hz]; omega)
  rw [hr, hz] at hrun
  have hc := grownCap_ge w rs.length 0 21
  refine ⟨_, _, hrun, by omega, (Below.refl _ _).drew.alloc (Nat.le_refl _) _, fun _ => ⟨_, rfl, fun j hj => ?_⟩⟩
  have e : (⟨w.heap.size, 0, none⟩ : Addr).add j = ⟨w.heap.size, j, none⟩ := by unfold Addr.add; split <;> simp_all
  rw [e]
  refine (World.cell?_alloc_at _ _ _ _ rfl).trans ?_
  rw [Array.getElem?_append_left (by rw [hz]; exact hj)]
  simp [i32s, List.getElem?_eq_getElem hj, List.getD, hj]

/-! ### where -/
set_option maxRecDepth 100000 in
set_option maxHeartbeats 2000000 in
theorem where_any (A : Option Addr) (c a : Nat) (rs : List Int) (w : World) (hc : Cells32 w A rs) (hl : rs.length ≤ 35184372087808) (hcap : rs.length ≤ c) (ha : a ≤ rs.length) :
    Calls Tryd.prog 85 #[.slice A rs.length c, .int .i64 a] w fun e w' => e = .returned (.tuple #[.int .i64 (nl rs a), .int .i64 ((a : Int) - homeP rs a)]) ∧ w = w' := by
  have hac : a ≤ c := by omega
  go_enter Tryd.func85, Tryd.ntmps85
  go_wp2_with fail
  go_loop [4, 5, 12] (fun ln cl i => ∃ j : Nat, j ≤ a ∧ i = .int .i64 j ∧ ln = .int .i64 (nl rs j) ∧ cl = .int .i64 ((j : Int) - homeP rs j)) (fun _ _ i => a - (intOf i).toNat)
  case atStart => exact ⟨0, Nat.zero_le _, rfl, rfl, rfl⟩
  case round =>
    obtain ⟨j, hj, rfl, rfl, rfl⟩ := hrel
    have h1 := nl_le rs j
    have h2 := homeP_le rs j
    by_cases hlt : j < a
    · obtain ⟨ad, rfl, hcs⟩ := hc (by omega)
      have hcell := hcs j (by omega)
      have hn : nl rs (j + 1) = if rs.getD j 0 = 10 then nl rs j + 1 else nl rs j := rfl
      have hh : homeP rs (j + 1) = if rs.getD j 0 = 10 then j + 1 else homeP rs j := rfl
      generalize rs.getD j 0 = r at hcell hn hh
      by_cases hr : r = 10
      · subst hr
        rw [if_pos rfl] at hn hh
        have HN := Lib.hid hn
        have HH := Lib.hid hh
        clear hn hh hcs
        go_wp2_with fail
        go_round
        case rel => exact ⟨j + 1, by omega, by go_num, by rw [HN.out]; go_num, by rw [HH.out]; congr 1; omega⟩
        case measure => simp [intOf]; omega
      · rw [if_neg hr] at hn hh
        have hrb : (r == 10) = false := by simpa using hr
        have HN := Lib.hid hn
        have HH := Lib.hid hh
        clear hn hh hcs hr
        go_wp2_with fail
        go_round
        case rel => exact ⟨j + 1, by omega, by go_num, by rw [HN.out], by rw [HH.out]; congr 1; omega⟩
        case measure => simp [intOf]; omega
    · obtain rfl : j = a := by omega
      go_wp2_with fail
      go_ret2
      exact ⟨rfl, rfl⟩

/-! ### lines -/
def i64s (xs : List Int) : List Value := xs.map (Value.int .i64)
theorem info64 : (Tryd.prog.info? 3).map (fun i => (i.zero, i.size, i.bytes)) = some (some (.int .i64 0), 1, 8) := by kernel_rfl
theorem own_one (w : World) (x : Int) (T : TypeId) : (w.alloc (.cells #[.int .i64 x] T)).ownsRow w.heap.size T 1 (.slice (some ⟨w.heap.size, 0, none⟩) 1 1) 1 (i64s [x]) :=
  ⟨rfl, .inr ⟨w.heap.size, 1, _, rfl, Nat.le_refl _, heap_alloc_new w _, Nat.le_refl _, by unfold maxLen; omega, rfl, rfl⟩⟩
theorem starts_step_own {w1 : World} {B e n m : Nat} {v : Value} {rs : List Int} {k : Nat} {y : Int} (h : w1.ownsRow B e 1 v n (i64s (starts rs k) ++ [.int .i64 y])) (hr : rs.getD k 0 = 10) (hy : y = (k : Int) + 1) (hn : n = nl rs k + 2) (hm : m = nl rs (k + 1) + 1) : w1.ownsRow B e 1 v m (i64s (starts rs (k + 1))) := by
  have h1 : starts rs (k + 1) = starts rs k ++ [((k + 1 : Nat) : Int)] := by simp only [starts]; rw [if_pos hr]
  have h2 : nl rs (k + 1) = nl rs k + 1 := by simp only [nl]; rw [if_pos hr]
  rw [h1]
  obtain rfl : n = m := by omega
  subst hy
  simpa [i64s] using h
theorem round_below' {w wr w1 : World} {e k sz : Nat} {v : Value} {xs : List Value} {o : Obj} (hb : Below w.heap.size w wr) (ho : wr.ownsRow w.heap.size e sz v k xs) (hg : (wr.alloc o).grownBy w1 v.ownBlock) : Below w.heap.size w w1 :=
  (hb.alloc hb.size o).grown hg (by have := hb.size; simp; omega) fun j hj => (ho.lt j hj).1

set_option maxRecDepth 100000 in
set_option maxHeartbeats 4000000 in
theorem lines_any (A : Option Addr) (c : Nat) (rs : List Int) (w : World) (hc : Cells32 w A rs) (hl : rs.length ≤ 4398046511104) :
    Calls Tryd.prog 87 #[.slice A rs.length c] w fun e w' => ∃ v, e = .returned v ∧ w'.ownsRow w.heap.size 3 1 v (linesP rs).length (i64s (linesP rs)) ∧ Below w.heap.size w w' := by
  obtain ⟨i0, hi, hz0, hz1, hz2⟩ := info_parts info64
  have hsl := Tryd.underlying94
  have hn := lines_len rs
  have HLN := Lib.hid hn
  have HC := Lib.hid hc
  clear hn hc
  go_enter Tryd.func87, Tryd.ntmps87
  go_wp2_with fail
  go_loopw [3, 9] (fun v i wr => ∃ k : Nat, k ≤ rs.length ∧ i = .int .i64 k ∧ wr.ownsRow w.heap.size 3 1 v (nl rs k + 1) (i64s (starts rs k)) ∧ Below w.heap.size w wr) (fun _ i _ => rs.length - (intOf i).toNat)
  case atStart => exact ⟨0, Nat.zero_le _, rfl, own_one w 0 _, (Below.refl _ _).alloc (Nat.le_refl _) _⟩
  case round =>
    obtain ⟨k, hk, rfl, hown, hb⟩ := hrel
    have h1 := nl_le rs k
    have h63 : nl rs k + 1 + 1 ≤ maxLen := by unfold maxLen; omega
    have hby : (nl rs k + 1 + 1) * 8 ≤ 140737488355328 := by omega
    have hbase : ∀ o, w.heap.size ≤ (wr.alloc o).heap.size := fun o => by have := hb.size; simp; omega
    have HBASE := Lib.hid hbase
    have H63 := Lib.hid h63
    have HBY := Lib.hid hby
    have HO := Lib.hid hown
    have HB := Lib.hid hb
    clear hbase h63 hby hown hb
    by_cases hlt : k < rs.length
    · obtain ⟨ad, rfl, hcs⟩ := (HC.out.below HB.out) (by omega)
      have hcell := hcs k hlt
      generalize hr : rs.getD k 0 = r at hcell
      have HR := Lib.hid hr
      clear hr hcs
      by_cases hr : r = 10
      · subst hr
        go_wp2_with (at_builtin; refine wpList_append_own _ rfl (.tmp 16) (.tmp 19) 94 rfl w.heap.size 3 i0 (.int .i64 0) 1 8 hsl hi hz0 hz1 hz2 rfl (by decide) _ _ _ rfl (HO.out.alloc _) ⟨wr.heap.size, 0, none⟩ 1 1 [_] rfl rfl (cell_one_new _ _ _) (by simp [Value.oneCell']) H63.out HBY.out (HBASE.out _) ?_; intro v' w1 hown1 hgrow1 _; have HO1 := Lib.hid hown1; have HG1 := Lib.hid hgrow1; clear hown1 hgrow1)
        go_roundw
        case rel => exact ⟨k + 1, by omega, by go_num, starts_step_own HO1.out HR.out rfl rfl rfl, round_below' HB.out HO.out HG1.out⟩
        case measure => simp [intOf]; omega
      · have hrb : (r == 10) = false := by simpa using hr
        go_wp2_with fail
        go_roundw
        case rel =>
          have e1 : nl rs (k + 1) = nl rs k := by simp only [nl]; rw [HR.out, if_neg hr]
          have e2 : starts rs (k + 1) = starts rs k := by simp only [starts]; rw [HR.out, if_neg hr]
          exact ⟨k + 1, by omega, by go_num, by rw [e1, e2]; exact HO.out, HB.out⟩
        case measure => simp [intOf]; omega
    · obtain rfl : k = rs.length := by omega
      go_wp2_with (at_builtin; refine wpList_append_own _ rfl (.tmp 22) (.tmp 26) 94 rfl w.heap.size 3 i0 (.int .i64 0) 1 8 hsl hi hz0 hz1 hz2 rfl (by decide) _ _ _ rfl (HO.out.alloc _) ⟨wr.heap.size, 0, none⟩ 1 1 [_] rfl rfl (cell_one_new _ _ _) (by simp [Value.oneCell']) H63.out HBY.out (HBASE.out _) ?_; intro v' w1 hown1 hgrow1 _; have HO1 := Lib.hid hown1; have HG1 := Lib.hid hgrow1; clear hown1 hgrow1)
      go_ret
      refine ⟨_, rfl, ?_, round_below' HB.out HO.out HG1.out⟩
      have := HO1.out
      rw [HLN.out]
      simpa [linesP, i64s] using this

/-! ### Where, Find -/
theorem pw_below {B : Nat} {w W : World} (h : Below B w W) (n : Nat) : Below B w (W.drewN n) := ⟨h.os, h.tape, h.output, h.size, h.block⟩
/-- A slice of ints whose cells are these numbers. -/
def Cells64 (w : World) (A : Option Addr) (xs : List Int) : Prop := 0 < xs.length → ∃ ad, A = some ad ∧ ∀ j, j < xs.length → w.cell? (ad.add j) = some (.int .i64 (xs.getD j 0))
theorem own_ints {W : World} {base e : Nat} {v : Value} {xs : List Int} (h : W.ownsRow base e 1 v xs.length (i64s xs)) : ∃ A c, v = .slice A xs.length c ∧ xs.length ≤ c ∧ Cells64 W A xs := by
  rcases h.2 with ⟨rfl, h0⟩ | ⟨g, cap, cur, rfl, _, _, hcap, _⟩
  · exact ⟨none, 0, by rw [h0], by omega, fun hp => by omega⟩
  · refine ⟨_, cap, rfl, hcap, fun _ => ⟨_, rfl, fun j hj => h.cells (g := g) rfl j _ ?_⟩⟩
    simp [i64s, List.getElem?_eq_getElem (show j < xs.length by omega), List.getD_eq_getElem?_getD]
/-- A negative column. -/
theorem end_of (rs : List Int) (k : Nat) (hk : k ≤ rs.length) : (linesP rs).getD (nl rs k) 0 = homeP rs k ∧ (linesP rs).getD (nl rs k + 1) 0 = (homeP rs k : Int) + ((endP rs k : Int) - homeP rs k) + 1 ∧ nl rs k ≤ nl rs rs.length :=
  ⟨lines_home rs k hk, by rw [lines_end rs k hk]; omega, nl_mono rs k _ hk⟩
end Go.Proofs.YtfgekdefnbohbaaDoor.U

namespace Go.Proofs.YtfgekdefnbohbaaDoor.U
open Go.RowKit Go.Proofs.YtfgekdefnbohbaaDoor.Txt
set_option linter.unusedVariables false
set_option linter.unusedSimpArgs false

/-- The table of walks: its cells 1 to 10. -/
structure Walks (w : World) : Prop where
  c1 : w.cell? ⟨2, 1, none⟩ = some (.func (.func 118) #[] #[])
  c2 : w.cell? ⟨2, 2, none⟩ = some (.func (.func 119) #[] #[])
  c3 : w.cell? ⟨2, 3, none⟩ = some (.func (.func 120) #[] #[])
  c4 : w.cell? ⟨2, 4, none⟩ = some (.func (.func 121) #[] #[])
  c5 : w.cell? ⟨2, 5, none⟩ = some (.func (.func 122) #[] #[])
  c6 : w.cell? ⟨2, 6, none⟩ = some (.func (.func 123) #[] #[])
  c7 : w.cell? ⟨2, 7, none⟩ = some (.func (.func 124) #[] #[])
  c8 : w.cell? ⟨2, 8, none⟩ = some (.func (.func 125) #[] #[])
  c9 : w.cell? ⟨2, 9, none⟩ = some (.func (.func 126) #[] #[])
  c10 : w.cell? ⟨2, 10, none⟩ = some (.func (.func 127) #[] #[])
theorem Walks.below {w w' : World} (h : Walks w) (hb : Below w.heap.size w w') : Walks w' := ⟨cell_below hb h.c1, cell_below hb h.c2, cell_below hb h.c3, cell_below hb h.c4, cell_below hb h.c5, cell_below hb h.c6, cell_below hb h.c7, cell_below hb h.c8, cell_below hb h.c9, cell_below hb h.c10⟩

theorem left_any (A : Option Addr) (c n a : Nat) (r : Int) (w : World) (ha : a ≤ 35184372087808) (hr : a = 0 ∧ r = 0 ∨ 0 < a ∧ r = (a : Int) - 1) :
    Calls Tryd.prog 118 #[.slice A n c, .int .i64 a] w fun e w' => e = .returned (.int .i64 r) ∧ w = w' := by
  rcases hr with ⟨h, rfl⟩ | ⟨h, rfl⟩
  · subst h
    go_enter Tryd.func118, Tryd.ntmps118
    go_wp2
    all_goals (go_ret; exact ⟨rfl, rfl⟩)
  · go_enter Tryd.func118, Tryd.ntmps118
    go_wp2
    all_goals (go_ret; exact ⟨ret_int (by first | rfl | omega), rfl⟩)
theorem right_any (A : Option Addr) (c n a : Nat) (r : Int) (w : World) (hn : n ≤ 35184372087808) (ha : a ≤ n) (hr : a = n ∧ r = n ∨ a < n ∧ r = (a : Int) + 1) :
    Calls Tryd.prog 119 #[.slice A n c, .int .i64 a] w fun e w' => e = .returned (.int .i64 r) ∧ w = w' := by
  rcases hr with ⟨h, rfl⟩ | ⟨h, rfl⟩
  · subst h
    go_enter Tryd.func119, Tryd.ntmps119
    go_wp2
    all_goals (go_ret; exact ⟨ret_int (by first | rfl | omega), rfl⟩)
  · go_enter Tryd.func119, Tryd.ntmps119
    go_wp2
    all_goals (go_ret; exact ⟨ret_int (by first | rfl | omega), rfl⟩)
theorem top_any (A : Option Addr) (c n a : Nat) (w : World) :
    Calls Tryd.prog 126 #[.slice A n c, .int .i64 a] w fun e w' => e = .returned (.int .i64 0) ∧ w = w' := by
  go_enter Tryd.func126, Tryd.ntmps126
  go_wp2
  go_ret
  exact ⟨rfl, rfl⟩
theorem bottom_any (A : Option Addr) (c n a : Nat) (w : World) :
    Calls Tryd.prog 127 #[.slice A n c, .int .i64 a] w fun e w' => e = .returned (.int .i64 n) ∧ w = w' := by
  go_enter Tryd.func127, Tryd.ntmps127
  go_wp2
  go_ret
  exact ⟨rfl, rfl⟩
set_option maxRecDepth 100000 in
theorem uhome_any (A : Option Addr) (c a : Nat) (rs : List Int) (w : World) (hc : Cells32 w A rs) (hl : rs.length ≤ 35184372087808) (hcap : rs.length ≤ c) (ha : a ≤ rs.length) :
    Calls Tryd.prog 120 #[.slice A rs.length c, .int .i64 a] w fun e w' => e = .returned (.int .i64 (homeP rs a)) ∧ w = w' := by
  have hh := homeP_le rs a
  have hw := where_any A c a rs w hc hl hcap ha
  have HW := Lib.hid hw
  clear hw hc
  generalize homeP rs a = q at *
  go_enter Tryd.func120, Tryd.ntmps120
  go_wp2_with fail
  refine HW.out.mono ?_
  rintro e w' ⟨rfl, rfl⟩
  go_wp2_with fail
  go_ret
  exact ⟨ret_int (by omega), rfl⟩
set_option maxRecDepth 100000 in
theorem lineEnd_any (A : Option Addr) (c k : Nat) (rs : List Int) (w : World) (hc : Cells32 w A rs) (hl : rs.length ≤ 35184372087808) (hk : k ≤ rs.length) :
    Calls Tryd.prog 121 #[.slice A rs.length c, .int .i64 k] w fun e w' => e = .returned (.int .i64 (endP rs k)) ∧ w = w' := by
  go_enter Tryd.func121, Tryd.ntmps121
  go_wp2_with fail
  go_loop [1] (fun v => ∃ j : Nat, j ≤ rs.length ∧ v = .int .i64 j ∧ endP rs j = endP rs k) (fun v => rs.length - (intOf v).toNat)
  case atStart => exact ⟨k, hk, rfl, rfl⟩
  case round =>
    obtain ⟨j, hj, rfl, hh⟩ := hrel
    have HH := Lib.hid hh
    clear hh
    by_cases hlt : j < rs.length
    · obtain ⟨ad, rfl, hcs⟩ := hc (by omega)
      have hcell := hcs j hlt
      have hd := endP_step rs j hlt
      generalize rs.getD j 0 = r at hcell hd
      by_cases hr : r = 10
      · subst hr
        rw [if_pos rfl] at hd
        have HD := Lib.hid hd
        clear hd hcs
        go_wp2_with fail
        go_ret
        exact ⟨ret_int (by rw [← HH.out, HD.out]), rfl⟩
      · rw [if_neg hr] at hd
        have hrb : (r != 10) = true := by simpa using hr
        have HD := Lib.hid hd
        clear hd hcs hr
        go_wp2_with fail
        go_round
        case rel => exact ⟨j + 1, by omega, by go_num, by rw [← HH.out, HD.out]⟩
        case measure => simp [intOf]; omega
    · obtain rfl : j = rs.length := by omega
      have he : endP rs rs.length = rs.length := by unfold endP; rw [Nat.sub_self]; rfl
      have HE := Lib.hid he
      clear he
      go_wp2_with fail
      go_ret
      exact ⟨ret_int (by rw [← HH.out, HE.out]), rfl⟩

/-! ### up, down -/
set_option maxRecDepth 100000 in
set_option maxHeartbeats 4000000 in
theorem up_first (A : Option Addr) (c a : Nat) (rs : List Int) (w : World) (hc : Cells32 w A rs) (hl : rs.length ≤ 4398046511104) (hcap : rs.length ≤ c) (ha : a ≤ rs.length) (h0 : nl rs a = 0) :
    Calls Tryd.prog 122 #[.slice A rs.length c, .int .i64 a] w fun e w' => e = .returned (.int .i64 0) ∧ Below w.heap.size w w' := by
  have hw := where_any A c a rs w hc (by omega) hcap ha
  rw [h0] at hw
  have HW := Lib.hid hw
  clear hw hc h0
  go_enter Tryd.func122, Tryd.ntmps122
  go_wp2_with fail
  refine HW.out.mono ?_
  rintro e w' ⟨rfl, rfl⟩
  go_wp2_with fail
  go_ret
  exact ⟨rfl, Below.refl _ _⟩
set_option maxRecDepth 100000 in
set_option maxHeartbeats 4000000 in
/-- p: where the line above begins; d: how long it is; q: the column; r: the answer. -/
theorem up_more (A : Option Addr) (c a m : Nat) (p d q r : Int) (rs : List Int) (w : World) (hc : Cells32 w A rs) (hl : rs.length ≤ 4398046511104) (hcap : rs.length ≤ c) (ha : a ≤ rs.length) (h0 : nl rs a = m + 1) (hq : (a : Int) - homeP rs a = q)
    (hp : (linesP rs).getD m 0 = p) (hd : (linesP rs).getD (m + 1) 0 = p + d + 1) (hp0 : 0 ≤ p) (hd0 : 0 ≤ d) (hpd : p + d ≤ rs.length) (hq0 : 0 ≤ q) (hq1 : q ≤ rs.length) (hr : d < q ∧ r = p + d ∨ q ≤ d ∧ r = p + q) :
    Calls Tryd.prog 122 #[.slice A rs.length c, .int .i64 a] w fun e w' => e = .returned (.int .i64 r) ∧ Below w.heap.size w w' := by
  have hw := where_any A c a rs w hc (by omega) hcap ha
  have hnm := nl_mono rs a rs.length ha
  have hnl := nl_le rs rs.length
  rw [h0, hq] at hw
  rw [h0] at hnm
  have HW := Lib.hid hw
  have HC := Lib.hid hc
  have HP := Lib.hid hp
  have HQ := Lib.hid hd
  have HRR := Lib.hid hr
  clear hw hc h0 hq hp hd hr
  go_enter Tryd.func122, Tryd.ntmps122
  go_wp2_with fail
  refine HW.out.mono ?_
  rintro e w' ⟨rfl, rfl⟩
  go_wp2_with fail
  refine (lines_any _ c rs _ HC.out hl).mono ?_
  rintro e w3 ⟨v, rfl, hown, hb3⟩
  have HB3 := Lib.hid hb3
  obtain ⟨A3, c3, rfl, hcap3, hcs⟩ := own_ints hown
  have hll := lines_len rs
  obtain ⟨ad, rfl, hcs2⟩ := hcs (by omega)
  rw [hll] at hcap3 hcs2 ⊢
  have x1 := hcs2 m (by omega)
  have x2 := hcs2 (m + 1) (by omega)
  rw [HP.out] at x1
  rw [HQ.out, Addr.add, if_neg (by omega)] at x2
  clear hb3 hown hcs hcs2 hll
  go_wp2_with fail
  have e1 : IntKind.i64.wrap (((m : Int) + 1) - 1) = m := by rw [IntWalk.i64_in _ (by omega)]; omega
  have e1' : IntKind.i64.wrap (m : Int) = m := IntWalk.i64_in _ (by omega)
  have e2 : IntKind.i64.wrap (p + d + 1 - 1) = p + d := by rw [IntWalk.i64_in _ (by omega)]; omega
  have e2' : IntKind.i64.wrap (p + d) = p + d := IntWalk.i64_in _ (by omega)
  have e3 : IntKind.i64.wrap (p + d - p) = d := by rw [IntWalk.i64_in _ (by omega)]; omega
  have e3' : IntKind.i64.wrap d = d := IntWalk.i64_in _ (by omega)
  have n1 : (0 : Int) ≤ (m : Int) + 1 := by omega
  have n2 : ((m : Int) + 1).toNat = m + 1 := by omega
  have b1 : (m : Int) < ↑(nl rs rs.length) + 2 := by omega
  have b2 : (m : Int) + 1 < ↑(nl rs rs.length) + 2 := by omega
  have b3 : m < nl rs rs.length + 2 := by omega
  have b4 : m + 1 < nl rs rs.length + 2 := by omega
  have b5 : (0 : Int) ≤ m := by omega
  rcases HRR.out with ⟨hm, hr⟩ | ⟨hm, hr⟩
  · have HRE := Lib.hid hr
    clear hr
    go_quiet (fail)
    go_wp2_with fail
    go_ret
    exact ⟨ret_int HRE.out.symm, pw_below HB3.out _⟩
  · have HRE := Lib.hid hr
    have hm' : ¬ d < q := by omega
    have e4 : IntKind.i64.wrap (p + q) = p + q := IntWalk.i64_in _ (by omega)
    clear hr hm
    go_quiet (fail)
    go_wp2_with fail
    go_ret
    exact ⟨ret_int HRE.out.symm, pw_below HB3.out _⟩
set_option maxRecDepth 100000 in
set_option maxHeartbeats 4000000 in
theorem down_last (A : Option Addr) (c a : Nat) (rs : List Int) (w : World) (hc : Cells32 w A rs) (hl : rs.length ≤ 4398046511104) (hcap : rs.length ≤ c) (ha : a ≤ rs.length) (h0 : nl rs a = nl rs rs.length) :
    Calls Tryd.prog 123 #[.slice A rs.length c, .int .i64 a] w fun e w' => e = .returned (.int .i64 rs.length) ∧ Below w.heap.size w w' := by
  have hw := where_any A c a rs w hc (by omega) hcap ha
  have hnl := nl_le rs rs.length
  rw [h0] at hw
  have HW := Lib.hid hw
  have HC := Lib.hid hc
  clear hw hc h0
  go_enter Tryd.func123, Tryd.ntmps123
  go_wp2_with fail
  refine HW.out.mono ?_
  rintro e w' ⟨rfl, rfl⟩
  go_wp2_with fail
  refine (lines_any _ c rs _ HC.out hl).mono ?_
  rintro e w3 ⟨v, rfl, hown, hb3⟩
  have HB3 := Lib.hid hb3
  obtain ⟨A3, c3, rfl, hcap3, hcs⟩ := own_ints hown
  rw [lines_len] at hcap3 ⊢
  clear hb3 hown hcs
  go_wp2_with fail
  go_ret
  exact ⟨rfl, HB3.out⟩
set_option maxRecDepth 100000 in
set_option maxHeartbeats 4000000 in
/-- p: where the line below begins; d: how long it is; q: the column; r: the answer. -/
theorem down_more (A : Option Addr) (c a m : Nat) (p d q r : Int) (rs : List Int) (w : World) (hc : Cells32 w A rs) (hl : rs.length ≤ 4398046511104) (hcap : rs.length ≤ c) (ha : a ≤ rs.length) (h0 : nl rs a = m) (h1 : m < nl rs rs.length) (hq : (a : Int) - homeP rs a = q)
    (hp : (linesP rs).getD (m + 1) 0 = p) (hd : (linesP rs).getD (m + 1 + 1) 0 = p + d + 1) (hp0 : 0 ≤ p) (hd0 : 0 ≤ d) (hpd : p + d ≤ rs.length) (hq0 : 0 ≤ q) (hq1 : q ≤ rs.length) (hr : d < q ∧ r = p + d ∨ q ≤ d ∧ r = p + q) :
    Calls Tryd.prog 123 #[.slice A rs.length c, .int .i64 a] w fun e w' => e = .returned (.int .i64 r) ∧ Below w.heap.size w w' := by
  have hw := where_any A c a rs w hc (by omega) hcap ha
  have hnl := nl_le rs rs.length
  rw [h0, hq] at hw
  have HW := Lib.hid hw
  have HC := Lib.hid hc
  have HP := Lib.hid hp
  have HQ := Lib.hid hd
  have HRR := Lib.hid hr
  clear hw hc h0 hq hp hd hr
  go_enter Tryd.func123, Tryd.ntmps123
  go_wp2_with fail
  refine HW.out.mono ?_
  rintro e w' ⟨rfl, rfl⟩
  go_wp2_with fail
  refine (lines_any _ c rs _ HC.out hl).mono ?_
  rintro e w3 ⟨v, rfl, hown, hb3⟩
  have HB3 := Lib.hid hb3
  obtain ⟨A3, c3, rfl, hcap3, hcs⟩ := own_ints hown
  have hll := lines_len rs
  obtain ⟨ad, rfl, hcs2⟩ := hcs (by omega)
  rw [hll] at hcap3 hcs2 ⊢
  have x1 := hcs2 (m + 1) (by omega)
  have x2 := hcs2 (m + 1 + 1) (by omega)
  rw [HP.out, Addr.add, if_neg (by omega)] at x1
  rw [HQ.out, Addr.add, if_neg (by omega)] at x2
  clear hb3 hown hcs hcs2 hll
  go_wp2_with fail
  have e1 : IntKind.i64.wrap ((m : Int) + 1) = (m : Int) + 1 := IntWalk.i64_in _ (by omega)
  have e1' : IntKind.i64.wrap ((m : Int) + 2) = (m : Int) + 2 := IntWalk.i64_in _ (by omega)
  have e2 : IntKind.i64.wrap (p + d + 1 - 1) = p + d := by rw [IntWalk.i64_in _ (by omega)]; omega
  have e2' : IntKind.i64.wrap (p + d) = p + d := IntWalk.i64_in _ (by omega)
  have e3 : IntKind.i64.wrap (p + d - p) = d := by rw [IntWalk.i64_in _ (by omega)]; omega
  have e3' : IntKind.i64.wrap d = d := IntWalk.i64_in _ (by omega)
  have n1 : (0 : Int) ≤ (m : Int) + 1 := by omega
  have n1' : (0 : Int) ≤ (m : Int) + 2 := by omega
  have n2 : ((m : Int) + 1).toNat = m + 1 := by omega
  have n2' : ((m : Int) + 2).toNat = m + 2 := by omega
  have b1 : (m : Int) + 2 < ↑(nl rs rs.length) + 2 := by omega
  have b2 : (m : Int) + 1 < ↑(nl rs rs.length) + 2 := by omega
  have b3 : m + 2 < nl rs rs.length + 2 := by omega
  have b4 : m + 1 < nl rs rs.length + 2 := by omega
  rcases HRR.out with ⟨hm, hr⟩ | ⟨hm, hr⟩
  · have HRE := Lib.hid hr
    clear hr
    go_quiet (fail)
    go_wp2_with fail
    go_ret
    exact ⟨ret_int HRE.out.symm, pw_below HB3.out _⟩
  · have HRE := Lib.hid hr
    have hm' : ¬ d < q := by omega
    have e4 : IntKind.i64.wrap (p + q) = p + q := IntWalk.i64_in _ (by omega)
    clear hr hm
    go_quiet (fail)
    go_wp2_with fail
    go_ret
    exact ⟨ret_int HRE.out.symm, pw_below HB3.out _⟩

set_option maxRecDepth 100000 in
set_option maxHeartbeats 2000000 in
theorem Step_1 (S : ByteArray) (rs : List Int) (a : Nat) (r : Int) (w : World) (h : Text S rs) (hl : rs.length ≤ 35184372087808) (ha : a ≤ rs.length) (hg : Bars w) (hw : Walks w)
    (hf : ∀ (A : Option Addr) (c : Nat) (w : World), Cells32 w A rs → rs.length ≤ c → Calls Tryd.prog 118 #[.slice A rs.length c, .int .i64 a] w fun e w' => e = .returned (.int .i64 r) ∧ Below w.heap.size w w') :
    Calls Tryd.prog 69 #[.string S, .int .i64 a, .int .i64 1] w fun e w' => e = .returned (.tuple #[.int .i64 r, .int .i64 0]) ∧ Below w.heap.size w w' := by
  have HT := Lib.hid h
  have HG := Lib.hid hg
  have HW := Lib.hid hw
  have HF := Lib.hid hf
  clear h hg hw hf
  go_enter Tryd.func69, Tryd.ntmps69
  go_wp2_with fail
  refine (place_in S rs a _ HT.out ha HG.out).mono ?_
  rintro e w1 ⟨rfl, hb1⟩
  have HB1 := Lib.hid hb1
  have hcell := (HW.out.below hb1).c1
  clear hb1
  obtain ⟨c, w2, hcv, hcap, hb2, hcl⟩ := conv_to_runes S rs HT.out hl w1
  have HB2 := Lib.hid (HB1.out.trans (hb2.mono HB1.out.size))
  have HC := Lib.hid hcl
  clear hb2 hcl
  go_wp2_with fail
  refine (HF.out _ c _ HC.out hcap).mono ?_
  rintro e w3 ⟨rfl, hb3⟩
  have HB3 := Lib.hid (HB2.out.trans (hb3.mono HB2.out.size))
  clear hb3 hcv hcell
  go_wp2_with fail
  go_ret2
  exact ⟨rfl, HB3.out⟩

set_option maxRecDepth 100000 in
set_option maxHeartbeats 2000000 in
theorem Step_2 (S : ByteArray) (rs : List Int) (a : Nat) (r : Int) (w : World) (h : Text S rs) (hl : rs.length ≤ 35184372087808) (ha : a ≤ rs.length) (hg : Bars w) (hw : Walks w)
    (hf : ∀ (A : Option Addr) (c : Nat) (w : World), Cells32 w A rs → rs.length ≤ c → Calls Tryd.prog 119 #[.slice A rs.length c, .int .i64 a] w fun e w' => e = .returned (.int .i64 r) ∧ Below w.heap.size w w') :
    Calls Tryd.prog 69 #[.string S, .int .i64 a, .int .i64 2] w fun e w' => e = .returned (.tuple #[.int .i64 r, .int .i64 0]) ∧ Below w.heap.size w w' := by
  have HT := Lib.hid h
  have HG := Lib.hid hg
  have HW := Lib.hid hw
  have HF := Lib.hid hf
  clear h hg hw hf
  go_enter Tryd.func69, Tryd.ntmps69
  go_wp2_with fail
  refine (place_in S rs a _ HT.out ha HG.out).mono ?_
  rintro e w1 ⟨rfl, hb1⟩
  have HB1 := Lib.hid hb1
  have hcell := (HW.out.below hb1).c2
  clear hb1
  obtain ⟨c, w2, hcv, hcap, hb2, hcl⟩ := conv_to_runes S rs HT.out hl w1
  have HB2 := Lib.hid (HB1.out.trans (hb2.mono HB1.out.size))
  have HC := Lib.hid hcl
  clear hb2 hcl
  go_wp2_with fail
  refine (HF.out _ c _ HC.out hcap).mono ?_
  rintro e w3 ⟨rfl, hb3⟩
  have HB3 := Lib.hid (HB2.out.trans (hb3.mono HB2.out.size))
  clear hb3 hcv hcell
  go_wp2_with fail
  go_ret2
  exact ⟨rfl, HB3.out⟩

set_option maxRecDepth 100000 in
set_option maxHeartbeats 2000000 in
theorem Step_3 (S : ByteArray) (rs : List Int) (a : Nat) (r : Int) (w : World) (h : Text S rs) (hl : rs.length ≤ 35184372087808) (ha : a ≤ rs.length) (hg : Bars w) (hw : Walks w)
    (hf : ∀ (A : Option Addr) (c : Nat) (w : World), Cells32 w A rs → rs.length ≤ c → Calls Tryd.prog 120 #[.slice A rs.length c, .int .i64 a] w fun e w' => e = .returned (.int .i64 r) ∧ Below w.heap.size w w') :
    Calls Tryd.prog 69 #[.string S, .int .i64 a, .int .i64 3] w fun e w' => e = .returned (.tuple #[.int .i64 r, .int .i64 0]) ∧ Below w.heap.size w w' := by
  have HT := Lib.hid h
  have HG := Lib.hid hg
  have HW := Lib.hid hw
  have HF := Lib.hid hf
  clear h hg hw hf
  go_enter Tryd.func69, Tryd.ntmps69
  go_wp2_with fail
  refine (place_in S rs a _ HT.out ha HG.out).mono ?_
  rintro e w1 ⟨rfl, hb1⟩
  have HB1 := Lib.hid hb1
  have hcell := (HW.out.below hb1).c3
  clear hb1
  obtain ⟨c, w2, hcv, hcap, hb2, hcl⟩ := conv_to_runes S rs HT.out hl w1
  have HB2 := Lib.hid (HB1.out.trans (hb2.mono HB1.out.size))
  have HC := Lib.hid hcl
  clear hb2 hcl
  go_wp2_with fail
  refine (HF.out _ c _ HC.out hcap).mono ?_
  rintro e w3 ⟨rfl, hb3⟩
  have HB3 := Lib.hid (HB2.out.trans (hb3.mono HB2.out.size))
  clear hb3 hcv hcell
  go_wp2_with fail
  go_ret2
  exact ⟨rfl, HB3.out⟩

set_option maxRecDepth 100000 in
set_option maxHeartbeats 2000000 in
theorem Step_4 (S : ByteArray) (rs : List Int) (a : Nat) (r : Int) (w : World) (h : Text S rs) (hl : rs.length ≤ 35184372087808) (ha : a ≤ rs.length) (hg : Bars w) (hw : Walks w)
    (hf : ∀ (A : Option Addr) (c : Nat) (w : World), Cells32 w A rs → rs.length ≤ c → Calls Tryd.prog 121 #[.slice A rs.length c, .int .i64 a] w fun e w' => e = .returned (.int .i64 r) ∧ Below w.heap.size w w') :
    Calls Tryd.prog 69 #[.string S, .int .i64 a, .int .i64 4] w fun e w' => e = .returned (.tuple #[.int .i64 r, .int .i64 0]) ∧ Below w.heap.size w w' := by
  have HT := Lib.hid h
  have HG := Lib.hid hg
  have HW := Lib.hid hw
  have HF := Lib.hid hf
  clear h hg hw hf
  go_enter Tryd.func69, Tryd.ntmps69
  go_wp2_with fail
  refine (place_in S rs a _ HT.out ha HG.out).mono ?_
  rintro e w1 ⟨rfl, hb1⟩
  have HB1 := Lib.hid hb1
  have hcell := (HW.out.below hb1).c4
  clear hb1
  obtain ⟨c, w2, hcv, hcap, hb2, hcl⟩ := conv_to_runes S rs HT.out hl w1
  have HB2 := Lib.hid (HB1.out.trans (hb2.mono HB1.out.size))
  have HC := Lib.hid hcl
  clear hb2 hcl
  go_wp2_with fail
  refine (HF.out _ c _ HC.out hcap).mono ?_
  rintro e w3 ⟨rfl, hb3⟩
  have HB3 := Lib.hid (HB2.out.trans (hb3.mono HB2.out.size))
  clear hb3 hcv hcell
  go_wp2_with fail
  go_ret2
  exact ⟨rfl, HB3.out⟩

set_option maxRecDepth 100000 in
set_option maxHeartbeats 2000000 in
theorem Step_5 (S : ByteArray) (rs : List Int) (a : Nat) (r : Int) (w : World) (h : Text S rs) (hl : rs.length ≤ 35184372087808) (ha : a ≤ rs.length) (hg : Bars w) (hw : Walks w)
    (hf : ∀ (A : Option Addr) (c : Nat) (w : World), Cells32 w A rs → rs.length ≤ c → Calls Tryd.prog 122 #[.slice A rs.length c, .int .i64 a] w fun e w' => e = .returned (.int .i64 r) ∧ Below w.heap.size w w') :
    Calls Tryd.prog 69 #[.string S, .int .i64 a, .int .i64 5] w fun e w' => e = .returned (.tuple #[.int .i64 r, .int .i64 0]) ∧ Below w.heap.size w w' := by
  have HT := Lib.hid h
  have HG := Lib.hid hg
  have HW := Lib.hid hw
  have HF := Lib.hid hf
  clear h hg hw hf
  go_enter Tryd.func69, Tryd.ntmps69
  go_wp2_with fail
  refine (place_in S rs a _ HT.out ha HG.out).mono ?_
  rintro e w1 ⟨rfl, hb1⟩
  have HB1 := Lib.hid hb1
  have hcell := (HW.out.below hb1).c5
  clear hb1
  obtain ⟨c, w2, hcv, hcap, hb2, hcl⟩ := conv_to_runes S rs HT.out hl w1
  have HB2 := Lib.hid (HB1.out.trans (hb2.mono HB1.out.size))
  have HC := Lib.hid hcl
  clear hb2 hcl
  go_wp2_with fail
  refine (HF.out _ c _ HC.out hcap).mono ?_
  rintro e w3 ⟨rfl, hb3⟩
  have HB3 := Lib.hid (HB2.out.trans (hb3.mono HB2.out.size))
  clear hb3 hcv hcell
  go_wp2_with fail
  go_ret2
  exact ⟨rfl, HB3.out⟩

set_option maxRecDepth 100000 in
set_option maxHeartbeats 2000000 in
theorem Step_6 (S : ByteArray) (rs : List Int) (a : Nat) (r : Int) (w : World) (h : Text S rs) (hl : rs.length ≤ 35184372087808) (ha : a ≤ rs.length) (hg : Bars w) (hw : Walks w)
    (hf : ∀ (A : Option Addr) (c : Nat) (w : World), Cells32 w A rs → rs.length ≤ c → Calls Tryd.prog 123 #[.slice A rs.length c, .int .i64 a] w fun e w' => e = .returned (.int .i64 r) ∧ Below w.heap.size w w') :
    Calls Tryd.prog 69 #[.string S, .int .i64 a, .int .i64 6] w fun e w' => e = .returned (.tuple #[.int .i64 r, .int .i64 0]) ∧ Below w.heap.size w w' := by
  have HT := Lib.hid h
  have HG := Lib.hid hg
  have HW := Lib.hid hw
  have HF := Lib.hid hf
  clear h hg hw hf
  go_enter Tryd.func69, Tryd.ntmps69
  go_wp2_with fail
  refine (place_in S rs a _ HT.out ha HG.out).mono ?_
  rintro e w1 ⟨rfl, hb1⟩
  have HB1 := Lib.hid hb1
  have hcell := (HW.out.below hb1).c6
  clear hb1
  obtain ⟨c, w2, hcv, hcap, hb2, hcl⟩ := conv_to_runes S rs HT.out hl w1
  have HB2 := Lib.hid (HB1.out.trans (hb2.mono HB1.out.size))
  have HC := Lib.hid hcl
  clear hb2 hcl
  go_wp2_with fail
  refine (HF.out _ c _ HC.out hcap).mono ?_
  rintro e w3 ⟨rfl, hb3⟩
  have HB3 := Lib.hid (HB2.out.trans (hb3.mono HB2.out.size))
  clear hb3 hcv hcell
  go_wp2_with fail
  go_ret2
  exact ⟨rfl, HB3.out⟩

set_option maxRecDepth 100000 in
set_option maxHeartbeats 2000000 in
theorem Step_7 (S : ByteArray) (rs : List Int) (a : Nat) (r : Int) (w : World) (h : Text S rs) (hl : rs.length ≤ 35184372087808) (ha : a ≤ rs.length) (hg : Bars w) (hw : Walks w)
    (hf : ∀ (A : Option Addr) (c : Nat) (w : World), Cells32 w A rs → rs.length ≤ c → Calls Tryd.prog 124 #[.slice A rs.length c, .int .i64 a] w fun e w' => e = .returned (.int .i64 r) ∧ Below w.heap.size w w') :
    Calls Tryd.prog 69 #[.string S, .int .i64 a, .int .i64 7] w fun e w' => e = .returned (.tuple #[.int .i64 r, .int .i64 0]) ∧ Below w.heap.size w w' := by
  have HT := Lib.hid h
  have HG := Lib.hid hg
  have HW := Lib.hid hw
  have HF := Lib.hid hf
  clear h hg hw hf
  go_enter Tryd.func69, Tryd.ntmps69
  go_wp2_with fail
  refine (place_in S rs a _ HT.out ha HG.out).mono ?_
  rintro e w1 ⟨rfl, hb1⟩
  have HB1 := Lib.hid hb1
  have hcell := (HW.out.below hb1).c7
  clear hb1
  obtain ⟨c, w2, hcv, hcap, hb2, hcl⟩ := conv_to_runes S rs HT.out hl w1
  have HB2 := Lib.hid (HB1.out.trans (hb2.mono HB1.out.size))
  have HC := Lib.hid hcl
  clear hb2 hcl
  go_wp2_with fail
  refine (HF.out _ c _ HC.out hcap).mono ?_
  rintro e w3 ⟨rfl, hb3⟩
  have HB3 := Lib.hid (HB2.out.trans (hb3.mono HB2.out.size))
  clear hb3 hcv hcell
  go_wp2_with fail
  go_ret2
  exact ⟨rfl, HB3.out⟩

set_option maxRecDepth 100000 in
set_option maxHeartbeats 2000000 in
theorem Step_8 (S : ByteArray) (rs : List Int) (a : Nat) (r : Int) (w : World) (h : Text S rs) (hl : rs.length ≤ 35184372087808) (ha : a ≤ rs.length) (hg : Bars w) (hw : Walks w)
    (hf : ∀ (A : Option Addr) (c : Nat) (w : World), Cells32 w A rs → rs.length ≤ c → Calls Tryd.prog 125 #[.slice A rs.length c, .int .i64 a] w fun e w' => e = .returned (.int .i64 r) ∧ Below w.heap.size w w') :
    Calls Tryd.prog 69 #[.string S, .int .i64 a, .int .i64 8] w fun e w' => e = .returned (.tuple #[.int .i64 r, .int .i64 0]) ∧ Below w.heap.size w w' := by
  have HT := Lib.hid h
  have HG := Lib.hid hg
  have HW := Lib.hid hw
  have HF := Lib.hid hf
  clear h hg hw hf
  go_enter Tryd.func69, Tryd.ntmps69
  go_wp2_with fail
  refine (place_in S rs a _ HT.out ha HG.out).mono ?_
  rintro e w1 ⟨rfl, hb1⟩
  have HB1 := Lib.hid hb1
  have hcell := (HW.out.below hb1).c8
  clear hb1
  obtain ⟨c, w2, hcv, hcap, hb2, hcl⟩ := conv_to_runes S rs HT.out hl w1
  have HB2 := Lib.hid (HB1.out.trans (hb2.mono HB1.out.size))
  have HC := Lib.hid hcl
  clear hb2 hcl
  go_wp2_with fail
  refine (HF.out _ c _ HC.out hcap).mono ?_
  rintro e w3 ⟨rfl, hb3⟩
  have HB3 := Lib.hid (HB2.out.trans (hb3.mono HB2.out.size))
  clear hb3 hcv hcell
  go_wp2_with fail
  go_ret2
  exact ⟨rfl, HB3.out⟩

set_option maxRecDepth 100000 in
set_option maxHeartbeats 2000000 in
theorem Step_9 (S : ByteArray) (rs : List Int) (a : Nat) (r : Int) (w : World) (h : Text S rs) (hl : rs.length ≤ 35184372087808) (ha : a ≤ rs.length) (hg : Bars w) (hw : Walks w)
    (hf : ∀ (A : Option Addr) (c : Nat) (w : World), Cells32 w A rs → rs.length ≤ c → Calls Tryd.prog 126 #[.slice A rs.length c, .int .i64 a] w fun e w' => e = .returned (.int .i64 r) ∧ Below w.heap.size w w') :
    Calls Tryd.prog 69 #[.string S, .int .i64 a, .int .i64 9] w fun e w' => e = .returned (.tuple #[.int .i64 r, .int .i64 0]) ∧ Below w.heap.size w w' := by
  have HT := Lib.hid h
  have HG := Lib.hid hg
  have HW := Lib.hid hw
  have HF := Lib.hid hf
  clear h hg hw hf
  go_enter Tryd.func69, Tryd.ntmps69
  go_wp2_with fail
  refine (place_in S rs a _ HT.out ha HG.out).mono ?_
  rintro e w1 ⟨rfl, hb1⟩
  have HB1 := Lib.hid hb1
  have hcell := (HW.out.below hb1).c9
  clear hb1
  obtain ⟨c, w2, hcv, hcap, hb2, hcl⟩ := conv_to_runes S rs HT.out hl w1
  have HB2 := Lib.hid (HB1.out.trans (hb2.mono HB1.out.size))
  have HC := Lib.hid hcl
  clear hb2 hcl
  go_wp2_with fail
  refine (HF.out _ c _ HC.out hcap).mono ?_
  rintro e w3 ⟨rfl, hb3⟩
  have HB3 := Lib.hid (HB2.out.trans (hb3.mono HB2.out.size))
  clear hb3 hcv hcell
  go_wp2_with fail
  go_ret2
  exact ⟨rfl, HB3.out⟩

set_option maxRecDepth 100000 in
set_option maxHeartbeats 2000000 in
theorem Step_10 (S : ByteArray) (rs : List Int) (a : Nat) (r : Int) (w : World) (h : Text S rs) (hl : rs.length ≤ 35184372087808) (ha : a ≤ rs.length) (hg : Bars w) (hw : Walks w)
    (hf : ∀ (A : Option Addr) (c : Nat) (w : World), Cells32 w A rs → rs.length ≤ c → Calls Tryd.prog 127 #[.slice A rs.length c, .int .i64 a] w fun e w' => e = .returned (.int .i64 r) ∧ Below w.heap.size w w') :
    Calls Tryd.prog 69 #[.string S, .int .i64 a, .int .i64 10] w fun e w' => e = .returned (.tuple #[.int .i64 r, .int .i64 0]) ∧ Below w.heap.size w w' := by
  have HT := Lib.hid h
  have HG := Lib.hid hg
  have HW := Lib.hid hw
  have HF := Lib.hid hf
  clear h hg hw hf
  go_enter Tryd.func69, Tryd.ntmps69
  go_wp2_with fail
  refine (place_in S rs a _ HT.out ha HG.out).mono ?_
  rintro e w1 ⟨rfl, hb1⟩
  have HB1 := Lib.hid hb1
  have hcell := (HW.out.below hb1).c10
  clear hb1
  obtain ⟨c, w2, hcv, hcap, hb2, hcl⟩ := conv_to_runes S rs HT.out hl w1
  have HB2 := Lib.hid (HB1.out.trans (hb2.mono HB1.out.size))
  have HC := Lib.hid hcl
  clear hb2 hcl
  go_wp2_with fail
  refine (HF.out _ c _ HC.out hcap).mono ?_
  rintro e w3 ⟨rfl, hb3⟩
  have HB3 := Lib.hid (HB2.out.trans (hb3.mono HB2.out.size))
  clear hb3 hcv hcell
  go_wp2_with fail
  go_ret2
  exact ⟨rfl, HB3.out⟩
end Go.Proofs.YtfgekdefnbohbaaDoor.U

namespace Go.Proofs.YtfgekdefnbohbaaDoor.U
open Go.RowKit Go.Proofs.YtfgekdefnbohbaaDoor.Txt
set_option linter.unusedVariables false
set_option linter.unusedSimpArgs false

/-- h: how long the common head is; t: how long the common tail of what stands behind. -/
structure Meets (a b : List Int) (h t : Nat) : Prop where
  la : h + t ≤ a.length
  lb : h + t ≤ b.length
  pre : ∀ i, i < h → a.getD i 0 = b.getD i 0
  stop : h < a.length → h < b.length → a.getD h 0 ≠ b.getD h 0
  suf : ∀ i, i < t → a.getD (a.length - 1 - i) 0 = b.getD (b.length - 1 - i) 0
  stop2 : h + t < a.length → h + t < b.length → a.getD (a.length - 1 - t) 0 ≠ b.getD (b.length - 1 - t) 0
/-- What stands between. -/
def midB (b : List Int) (h t : Nat) : List Int := (b.take (b.length - t)).drop h

theorem Cells32.mid {w : World} {ad : Addr} {b : List Int} (h : Cells32 w (some ad) b) (j m : Nat) : Cells32 w (some (ad.add j)) ((b.take m).drop j) := fun h0 => by
  simp only [List.length_drop, List.length_take] at h0
  obtain ⟨ad', e, hc⟩ := h (by omega)
  cases e
  refine ⟨_, rfl, fun i hi => ?_⟩
  simp only [List.length_drop, List.length_take] at hi
  rw [Addr.add_add, hc (j + i) (by omega)]
  simp [List.getD, List.getElem?_drop, List.getElem?_take, show j + i < m by omega]
theorem conv_mid {W : World} {ad : Addr} {c j m : Nat} {b : List Int} (h : Cells32 W (some ad) b) (hm : m ≤ b.length) : (convert 22 9 (.slice (some (ad.add j)) (m - j) c)).run Tryd.prog W = .ok (.string (Str ((b.take m).drop j))) W := by
  have := conv_runes (c := c) (h.mid j m)
  rwa [List.length_drop, List.length_take, Nat.min_eq_left hm] at this

theorem results_tmp4 {fn : Func} {t u v x : Tmp} (h : fn.results = #[.tmp t, .tmp u, .tmp v, .tmp x]) (tmps : Array Value) (P : Program) (w : World) :
    (results fn tmps).run P w = .ok (.tuple #[tmps.getD t undef, tmps.getD u undef, tmps.getD v undef, tmps.getD x undef]) w := by
  simp [results, h]
theorem slice_mid (ad : Addr) (b : List Int) (c j m : Nat) (h1 : j ≤ m) (h2 : m ≤ b.length) (h3 : m ≤ c) : ∃ V, (∀ W : World, (Instr.slice 22 (.slice (some ad) b.length c) (some (.int .i64 j)) (some (.int .i64 m)) none).run Tryd.prog W = .ok V W) ∧ ∀ W : World, Cells32 W (some ad) b → (convert 22 9 V).run Tryd.prog W = .ok (.string (Str ((b.take m).drop j))) W := by
  refine ⟨sliced (some ad) j m c 1, fun W => ?_, fun W h => ?_⟩
  · rw [run_slice_lh W 22 (some ad) b.length c (by kernel_rfl) .i64 .i64 j m (by omega) (by omega) (by omega)]
    kernel_rfl
  · unfold sliced
    split
    · have : (b.take m).drop j = [] := by apply List.length_eq_zero_iff.1; simp; omega
      rw [this, show m - j = 0 by omega]
      exact conv_runes (xs := []) fun h0 => by simp at h0
    · rw [Nat.mul_one]
      exact conv_mid h h2

set_option maxRecDepth 100000 in
set_option maxHeartbeats 8000000 in
theorem Diff_any (S1 S2 : ByteArray) (a b : List Int) (w : World) (t1 : Text S1 a) (t2 : Text S2 b) (hl1 : a.length ≤ 35184372087808) (hl2 : b.length ≤ 35184372087808) (hg : Bars w) :
    Calls Tryd.prog 19 #[.string S1, .string S2] w fun e w' => ∃ h t, Meets a b h t ∧ e = .returned (.tuple #[.int .i64 h, .int .i64 (a.length - h - t : Int), .string (Str (midB b h t)), .int .i64 0]) ∧ Below w.heap.size w w' := by
  have HT1 := Lib.hid t1
  have HT2 := Lib.hid t2
  have HG := Lib.hid hg
  clear t1 t2 hg
  have x0 : ∀ w : World, (Instr.index 65 (.agg #[.string S1, .string S2]) (.int .i64 0)).run Tryd.prog w = .ok (.string S1) w := fun _ => by kernel_rfl
  have x1 : ∀ w : World, (Instr.index 65 (.agg #[.string S1, .string S2]) (.int .i64 1)).run Tryd.prog w = .ok (.string S2) w := fun _ => by kernel_rfl
  go_enter Tryd.func19, Tryd.ntmps19
  go_wp2_with fail
  go_loopw [4, 7, 16] (fun at0 e i wr => ∃ j : Nat, j ≤ 2 ∧ i = .int .i64 j ∧ e = .int .i64 0 ∧ at0 = .int .i64 0 ∧ Below w.heap.size w wr) (fun _ _ i _ => 2 - (intOf i).toNat)
  case atStart => exact ⟨0, Nat.zero_le _, rfl, rfl, rfl, Below.refl _ _⟩
  case round =>
    obtain ⟨j, hj, rfl, rfl, rfl, hb⟩ := hrel
    have HB := Lib.hid hb
    clear hb
    have hj2 : j = 0 ∨ j = 1 ∨ j = 2 := by omega
    rcases hj2 with rfl | rfl | rfl
    · go_wp2_with fail
      refine (check_at S1 a.length 0 0 _ (by have := HT1.out.size; unfold maxLen; omega) (HG.out.below HB.out) HT1.out.chk).mono ?_
      rintro e w1 ⟨rfl, hb1⟩
      have HB1 := Lib.hid (HB.out.trans (hb1.mono HB.out.size))
      clear hb1
      go_wp2_with fail
      go_roundw
      case rel => exact ⟨1, by omega, rfl, rfl, rfl, HB1.out⟩
      case measure => simp [intOf]
    · go_wp2_with fail
      refine (check_at S2 b.length 0 0 _ (by have := HT2.out.size; unfold maxLen; omega) (HG.out.below HB.out) HT2.out.chk).mono ?_
      rintro e w1 ⟨rfl, hb1⟩
      have HB1 := Lib.hid (HB.out.trans (hb1.mono HB.out.size))
      clear hb1
      go_wp2_with fail
      go_roundw
      case rel => exact ⟨2, by omega, rfl, rfl, rfl, HB1.out⟩
      case measure => simp [intOf]
    · obtain ⟨c1, w1, hcv1, hcap1, hb1, hcl1⟩ := conv_to_runes S1 a HT1.out hl1 wr
      have HB1 := Lib.hid (HB.out.trans (hb1.mono HB.out.size))
      obtain ⟨c2, w2, hcv2, hcap2, hb2, hcl2⟩ := conv_to_runes S2 b HT2.out hl2 w1
      have HB2 := Lib.hid (HB1.out.trans (hb2.mono HB1.out.size))
      have HC1 := Lib.hid (hcl1.below hb2)
      have HC2 := Lib.hid hcl2
      clear hb1 hb2 hcl1 hcl2
      generalize (⟨wr.heap.size, 0, none⟩ : Addr) = q1 at hcv1 HC1
      generalize (⟨w1.heap.size, 0, none⟩ : Addr) = q2 at hcv2 HC2
      clear hj HB HB1
      go_wp2_with fail
      go_loopw [4] (fun i wr => ∃ j : Nat, i = .int .i64 j ∧ j ≤ a.length ∧ j ≤ b.length ∧ (∀ i, i < j → a.getD i 0 = b.getD i 0) ∧ Below w2.heap.size w2 wr) (fun i _ => a.length - (intOf i).toNat)
      case atStart => exact ⟨0, rfl, Nat.zero_le _, Nat.zero_le _, fun i h => by omega, Below.refl _ _⟩
      case round =>
        obtain ⟨j, rfl, hj1, hj2, hpre, hb3⟩ := hrel
        have HP := Lib.hid hpre
        have HB3 := Lib.hid hb3
        clear hpre hb3
        have HW : (j < a.length ∧ j < b.length ∧ a.getD j 0 = b.getD j 0) ∨ (j = a.length ∨ (j < a.length ∧ j = b.length) ∨ (j < a.length ∧ j < b.length ∧ a.getD j 0 ≠ b.getD j 0)) := by omega
        rcases HW with ⟨g1, g2, g3⟩ | HW
        · have i1 : (j : Int) < ↑a.length := by omega
          have i2 : (j : Int) < ↑b.length := by omega
          have i3 : (0 : Int) ≤ j := by omega
          obtain ⟨ad1, e1, hcs1⟩ := (HC1.out.below HB3.out) (by omega)
          obtain ⟨ad2, e2, hcs2⟩ := (HC2.out.below HB3.out) (by omega)
          cases e1
          cases e2
          have y1 := hcs1 j g1
          have y2 := hcs2 j g2
          clear hcs1 hcs2
          rw [← g3] at y2
          generalize hx : a.getD j 0 = x at y1 y2
          have HX := Lib.hid hx
          have G3 := Lib.hid g3
          clear hx g3
          go_wp2_with fail
          go_quiet (fail)
          go_wp2_with fail
          go_roundw
          case rel => exact ⟨j + 1, by go_num, by omega, by omega, fun i h => by (rcases Nat.lt_succ_iff_lt_or_eq.1 h with h | rfl); exact HP.out i h; exact G3.out, pw_below HB3.out _⟩
          case measure => simp [intOf]; omega
        · have hstop : j < a.length → j < b.length → a.getD j 0 ≠ b.getD j 0 := by omega
          have HS := Lib.hid hstop
          clear hstop
          rcases HW with g1 | ⟨g1, g2⟩ | ⟨g1, g2, g3⟩
          case' inr.inl =>
            have d1 : decide (j < a.length) = false := by simp; omega
            have d1' : ¬ j < a.length := by omega
            clear g1
          case' inr.inr.inl =>
            have i1 : (j : Int) < ↑a.length := by omega
            have d2 : decide (j < b.length) = false := by simp; omega
            have d2' : ¬ j < b.length := by omega
            clear g1 g2
          case' inr.inr.inr =>
            have i1 : (j : Int) < ↑a.length := by omega
            have i2 : (j : Int) < ↑b.length := by omega
            have i3 : (0 : Int) ≤ j := by omega
            obtain ⟨ad1, e1, hcs1⟩ := (HC1.out.below HB3.out) (by omega)
            obtain ⟨ad2, e2, hcs2⟩ := (HC2.out.below HB3.out) (by omega)
            cases e1
            cases e2
            have y1 := hcs1 j g1
            have y2 := hcs2 j g2
            clear hcs1 hcs2
            generalize a.getD j 0 = x at y1 g3
            generalize b.getD j 0 = y at y2 g3
            have g4 : (x == y) = false := by simpa using g3
            clear g1 g2 g3
          all_goals
            go_wp2_with fail
            go_quiet (fail)
            go_wp2_with fail
            go_loopw [12] (fun i wr => ∃ t : Nat, i = .int .i64 t ∧ j + t ≤ a.length ∧ j + t ≤ b.length ∧ (∀ i, i < t → a.getD (a.length - 1 - i) 0 = b.getD (b.length - 1 - i) 0) ∧ Below w2.heap.size w2 wr) (fun i _ => a.length - (intOf i).toNat)
            case atStart => exact ⟨0, rfl, by omega, by omega, fun i h => by omega, pw_below HB3.out _⟩
            case round =>
              clear HB3
              try clear d1 d1'
              try clear d2 d2'
              try clear y1 y2 g4
              obtain ⟨t, rfl, ht1, ht2, hsuf, hb4⟩ := hrel
              have HU := Lib.hid hsuf
              have HB4 := Lib.hid hb4
              clear hsuf hb4
              have w1 : IntKind.i64.wrap (↑j + ↑t) = ↑j + ↑t := IntWalk.i64_in _ (by omega)
              have HW : (j + t < a.length ∧ j + t < b.length ∧ a.getD (a.length - 1 - t) 0 = b.getD (b.length - 1 - t) 0) ∨ (j + t = a.length ∨ (j + t < a.length ∧ j + t = b.length) ∨ (j + t < a.length ∧ j + t < b.length ∧ a.getD (a.length - 1 - t) 0 ≠ b.getD (b.length - 1 - t) 0)) := by omega
              rcases HW with ⟨g1, g2, g3⟩ | HW
              · have i1 : (j : Int) + ↑t < ↑a.length := by omega
                have i2 : (j : Int) + ↑t < ↑b.length := by omega
                obtain ⟨ad1, e1, hcs1⟩ := (HC1.out.below HB4.out) (by omega)
                obtain ⟨ad2, e2, hcs2⟩ := (HC2.out.below HB4.out) (by omega)
                cases e1
                cases e2
                have y1 := hcs1 (a.length - 1 - t) (by omega)
                have y2 := hcs2 (b.length - 1 - t) (by omega)
                clear hcs1 hcs2
                rw [← g3] at y2
                have G3 := Lib.hid g3
                clear g3
                generalize hx : a.getD (a.length - 1 - t) 0 = x at y1 y2
                have HX := Lib.hid hx
                clear hx
                have v1 : IntKind.i64.wrap (↑a.length - 1) = ↑a.length - 1 := IntWalk.i64_in _ (by omega)
                have v2 : IntKind.i64.wrap (↑b.length - 1) = ↑b.length - 1 := IntWalk.i64_in _ (by omega)
                have v3 : IntKind.i64.wrap (↑a.length - 1 - ↑t) = ↑(a.length - 1 - t) := by rw [IntWalk.i64_in _ (by omega)]; omega
                have v4 : IntKind.i64.wrap (↑b.length - 1 - ↑t) = ↑(b.length - 1 - t) := by rw [IntWalk.i64_in _ (by omega)]; omega
                have p1 : (a.length - 1 - t) < a.length := by omega
                have p2 : (b.length - 1 - t) < b.length := by omega
                generalize a.length - 1 - t = q3 at y1 v3 p1
                generalize b.length - 1 - t = q4 at y2 v4 p2
                go_wp2_with fail
                go_quiet (fail)
                go_wp2_with fail
                go_roundw
                case rel => exact ⟨t + 1, by go_num, by omega, by omega, fun i h => by (rcases Nat.lt_succ_iff_lt_or_eq.1 h with h | rfl); exact HU.out i h; exact G3.out, pw_below HB4.out _⟩
                case measure => simp [intOf]; omega
              · have hstop2 : j + t < a.length → j + t < b.length → a.getD (a.length - 1 - t) 0 ≠ b.getD (b.length - 1 - t) 0 := by omega
                have HS2 := Lib.hid hstop2
                clear hstop2
                have g0 : True := trivial
                have v1 : IntKind.i64.wrap (↑a.length - 1) = ↑a.length - 1 := IntWalk.i64_in _ (by omega)
                have v2 : IntKind.i64.wrap (↑b.length - 1) = ↑b.length - 1 := IntWalk.i64_in _ (by omega)
                rcases HW with g1 | ⟨g1, g2⟩ | ⟨g1, g2, g3⟩
                · have e1 : (j : Int) + ↑t = ↑a.length := by omega
                  have e2 : decide ((j : Int) + ↑t < ↑a.length) = false := by simp; omega
                  have e3 : ¬ (j : Int) + ↑t < ↑a.length := by omega
                  have f1 : IntKind.i64.wrap (↑a.length - ↑j) = ↑a.length - ↑j := IntWalk.i64_in _ (by omega)
                  have f2 : IntKind.i64.wrap (↑a.length - ↑j - ↑t) = ↑a.length - ↑j - ↑t := IntWalk.i64_in _ (by omega)
                  obtain ⟨m, hm⟩ : ∃ m : Nat, b.length = m + t := ⟨b.length - t, by omega⟩
                  have f3 : IntKind.i64.wrap (↑b.length - ↑t) = ↑m := by rw [IntWalk.i64_in _ (by omega)]; omega
                  have f4 : j ≤ m := by omega
                  have f5 : m ≤ c2 := by omega
                  have f6 : j ≤ c2 := by omega
                  obtain ⟨V, hV1, hV2⟩ := slice_mid q2 b c2 j m f4 (by omega) f5
                  have f7 : midB b j t = (b.take m).drop j := by unfold midB; rw [hm, Nat.add_sub_cancel]
                  have F7 := Lib.hid f7
                  have HV2 := Lib.hid hV2
                  clear hV2 f7 hm
                  go_wp2_with fail
                  go_quiet (fail)
                  go_wp2_with fail
                  clear w1 v1 v2
                  have hcv3 : ∀ n, (convert 22 9 V).run Tryd.prog (wr.drewN n) = .ok (.string (Str ((b.take m).drop j))) (wr.drewN n) := fun n => HV2.out _ (HC2.out.below (pw_below HB4.out n))
                  have hcv4 : ∀ n, (convert 22 9 V).run Tryd.prog ((wr.drewN nq).drewN n) = .ok (.string (Str ((b.take m).drop j))) ((wr.drewN nq).drewN n) := fun n => HV2.out _ (HC2.out.below (pw_below (pw_below HB4.out nq) n))
                  go_quiet (fail)
                  go_wp2_with fail
                  (try simp only [Exit.inBlock, Exit.then])
                  refine bodyPost_ret (results_tmp4 rfl _ _ _) rfl ?_
                  exact ⟨j, t, ⟨ht1, ht2, HP.out, HS.out, HU.out, HS2.out⟩, by rw [F7.out]; rfl, HB2.out.trans ((pw_below (pw_below HB4.out _) _).mono HB2.out.size)⟩
                · have i1 : (j : Int) + ↑t < ↑a.length := by omega
                  have e2 : decide ((j : Int) + ↑t < ↑b.length) = false := by simp; omega
                  have e3 : ¬ (j : Int) + ↑t < ↑b.length := by omega
                  have f1 : IntKind.i64.wrap (↑a.length - ↑j) = ↑a.length - ↑j := IntWalk.i64_in _ (by omega)
                  have f2 : IntKind.i64.wrap (↑a.length - ↑j - ↑t) = ↑a.length - ↑j - ↑t := IntWalk.i64_in _ (by omega)
                  obtain ⟨m, hm⟩ : ∃ m : Nat, b.length = m + t := ⟨b.length - t, by omega⟩
                  have f3 : IntKind.i64.wrap (↑b.length - ↑t) = ↑m := by rw [IntWalk.i64_in _ (by omega)]; omega
                  have f4 : j ≤ m := by omega
                  have f5 : m ≤ c2 := by omega
                  have f6 : j ≤ c2 := by omega
                  obtain ⟨V, hV1, hV2⟩ := slice_mid q2 b c2 j m f4 (by omega) f5
                  have f7 : midB b j t = (b.take m).drop j := by unfold midB; rw [hm, Nat.add_sub_cancel]
                  have F7 := Lib.hid f7
                  have HV2 := Lib.hid hV2
                  clear hV2 f7 hm
                  go_wp2_with fail
                  go_quiet (fail)
                  go_wp2_with fail
                  clear w1 v1 v2
                  have hcv3 : ∀ n, (convert 22 9 V).run Tryd.prog (wr.drewN n) = .ok (.string (Str ((b.take m).drop j))) (wr.drewN n) := fun n => HV2.out _ (HC2.out.below (pw_below HB4.out n))
                  have hcv4 : ∀ n, (convert 22 9 V).run Tryd.prog ((wr.drewN nq).drewN n) = .ok (.string (Str ((b.take m).drop j))) ((wr.drewN nq).drewN n) := fun n => HV2.out _ (HC2.out.below (pw_below (pw_below HB4.out nq) n))
                  go_quiet (fail)
                  go_wp2_with fail
                  (try simp only [Exit.inBlock, Exit.then])
                  refine bodyPost_ret (results_tmp4 rfl _ _ _) rfl ?_
                  exact ⟨j, t, ⟨ht1, ht2, HP.out, HS.out, HU.out, HS2.out⟩, by rw [F7.out]; rfl, HB2.out.trans ((pw_below (pw_below HB4.out _) _).mono HB2.out.size)⟩
                · have i1 : (j : Int) + ↑t < ↑a.length := by omega
                  have i2 : (j : Int) + ↑t < ↑b.length := by omega
                  obtain ⟨ad1, e1, hcs1⟩ := (HC1.out.below HB4.out) (by omega)
                  obtain ⟨ad2, e2, hcs2⟩ := (HC2.out.below HB4.out) (by omega)
                  cases e1
                  cases e2
                  have y1 := hcs1 (a.length - 1 - t) (by omega)
                  have y2 := hcs2 (b.length - 1 - t) (by omega)
                  clear hcs1 hcs2
                  generalize a.getD (a.length - 1 - t) 0 = x at y1 g3
                  generalize b.getD (b.length - 1 - t) 0 = y at y2 g3
                  have g4 : (x == y) = false := by simpa using g3
                  have v3 : IntKind.i64.wrap (↑a.length - 1 - ↑t) = ↑(a.length - 1 - t) := by rw [IntWalk.i64_in _ (by omega)]; omega
                  have v4 : IntKind.i64.wrap (↑b.length - 1 - ↑t) = ↑(b.length - 1 - t) := by rw [IntWalk.i64_in _ (by omega)]; omega
                  have p1 : (a.length - 1 - t) < a.length := by omega
                  have p2 : (b.length - 1 - t) < b.length := by omega
                  generalize a.length - 1 - t = q3 at y1 v3 p1
                  generalize b.length - 1 - t = q4 at y2 v4 p2
                  have f1 : IntKind.i64.wrap (↑a.length - ↑j) = ↑a.length - ↑j := IntWalk.i64_in _ (by omega)
                  have f2 : IntKind.i64.wrap (↑a.length - ↑j - ↑t) = ↑a.length - ↑j - ↑t := IntWalk.i64_in _ (by omega)
                  obtain ⟨m, hm⟩ : ∃ m : Nat, b.length = m + t := ⟨b.length - t, by omega⟩
                  have f3 : IntKind.i64.wrap (↑b.length - ↑t) = ↑m := by rw [IntWalk.i64_in _ (by omega)]; omega
                  have f4 : j ≤ m := by omega
                  have f5 : m ≤ c2 := by omega
                  have f6 : j ≤ c2 := by omega
                  obtain ⟨V, hV1, hV2⟩ := slice_mid q2 b c2 j m f4 (by omega) f5
                  have f7 : midB b j t = (b.take m).drop j := by unfold midB; rw [hm, Nat.add_sub_cancel]
                  have F7 := Lib.hid f7
                  have HV2 := Lib.hid hV2
                  clear hV2 f7 hm
                  go_wp2_with fail
                  go_quiet (fail)
                  go_wp2_with fail
                  clear w1 v1 v2
                  have hcv3 : ∀ n, (convert 22 9 V).run Tryd.prog (wr.drewN n) = .ok (.string (Str ((b.take m).drop j))) (wr.drewN n) := fun n => HV2.out _ (HC2.out.below (pw_below HB4.out n))
                  have hcv4 : ∀ n, (convert 22 9 V).run Tryd.prog ((wr.drewN nq).drewN n) = .ok (.string (Str ((b.take m).drop j))) ((wr.drewN nq).drewN n) := fun n => HV2.out _ (HC2.out.below (pw_below (pw_below HB4.out nq) n))
                  go_quiet (fail)
                  go_wp2_with fail
                  (try simp only [Exit.inBlock, Exit.then])
                  refine bodyPost_ret (results_tmp4 rfl _ _ _) rfl ?_
                  exact ⟨j, t, ⟨ht1, ht2, HP.out, HS.out, HU.out, HS2.out⟩, by rw [F7.out]; rfl, HB2.out.trans ((pw_below (pw_below HB4.out _) _).mono HB2.out.size)⟩
end Go.Proofs.YtfgekdefnbohbaaDoor.U
