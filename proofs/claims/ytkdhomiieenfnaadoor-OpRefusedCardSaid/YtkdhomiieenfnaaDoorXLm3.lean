/- Strings of runes that the statements make themselves: string(l) of a list of runes that the call owns; its bytes; Check of it. redraftlaw04.letters. A string that is a text: its runes. -/
import Derived.Test.YtkdhomiieenfnaaDoorUBase
import Derived.Deep.AppendLies
import Derived.OwnWalk
import Derived.Laws.Cover4
namespace Go.Proofs.YtkdhomiieenfnaaDoor.U
open Go.RowKit Go.Proofs.YtkdhomiieenfnaaDoor.Txt
set_option linter.unusedVariables false
set_option linter.unusedSimpArgs false

/-- The string of a list of runes. -/
def Str (xs : List Int) : ByteArray := runesBytes xs
theorem foldl_enc (xs : List Int) : ∀ s : ByteArray, (xs.foldl (fun r n => r ++ Utf8.encode n) s).data.toList = s.data.toList ++ enc xs := by
  induction xs with
  | nil => intro s; simp [enc]
  | cons x xs ih =>
    intro s
    rw [List.foldl_cons, ih, enc_cons]
    simp [encB]
theorem str_list (xs : List Int) : (Str xs).data.toList = enc xs := by
  unfold Str runesBytes
  rw [foldl_enc]
  simp
theorem str_size (xs : List Int) : (Str xs).size = (enc xs).length := by rw [← size_toList, str_list]
theorem app_list (a b : ByteArray) : (a ++ b).data.toList = a.data.toList ++ b.data.toList := by simp
theorem take_list (a : ByteArray) (n : Nat) : (a.extract 0 n).data.toList = a.data.toList.take n := by
  simp [ByteArray.data_extract, Array.toList_extract]

/-- A slice of int32 whose cells are these numbers (nil, if there are none and it is nil). -/
def Cells32 (w : World) (A : Option Addr) (xs : List Int) : Prop := 0 < xs.length → ∃ ad, A = some ad ∧ ∀ j, j < xs.length → w.cell? (ad.add j) = some (.int .i32 (xs.getD j 0))
theorem own_runes {W : World} {base e : Nat} {v : Value} {xs : List Int} (h : W.ownsRow base e 1 v xs.length (i32s xs)) : ∃ A c, v = .slice A xs.length c ∧ xs.length ≤ c ∧ Cells32 W A xs := by
  rcases h.2 with ⟨rfl, h0⟩ | ⟨g, cap, cur, rfl, _, _, hcap, _⟩
  · exact ⟨none, 0, by rw [h0], by omega, fun hp => by omega⟩
  · refine ⟨_, cap, rfl, hcap, fun _ => ⟨_, rfl, fun j hj => h.cells (g := g) rfl j _ ?_⟩⟩
    simp [i32s, List.getElem?_eq_getElem (show j < xs.length by omega), List.getD_eq_getElem?_getD]
theorem conv_runes {W : World} {A : Option Addr} {c : Nat} {xs : List Int} (h : Cells32 W A xs) : (convert 34 9 (.slice A xs.length c)).run Tryd.prog W = .ok (.string (Str xs)) W := by
  rcases Nat.eq_zero_or_pos xs.length with h0 | h0
  · obtain rfl : xs = [] := List.length_eq_zero_iff.1 h0
    rw [run_convert_runes_string W _ _ _ _ _ _ Tryd.underlying34 Tryd.underlying21 Tryd.underlying9]
    cases A with
    | none => rfl
    | some a => exact run_runesToString W a 0 c [] (by rw [run_loadCells W a 0 (fun _ => .int .i32 0) (fun j hj => by omega)]; rfl)
  · obtain ⟨ad, rfl, hc⟩ := h h0
    have := run_convert_runes W 34 9 21 ad xs.length c xs (Nat.le_refl _) Tryd.underlying34 Tryd.underlying21 Tryd.underlying9 hc
    rwa [List.take_length] at this
theorem Reads32.below {w w' : World} {A : Option Addr} {n : Nat} {xs : List Int} (h : Reads32 w A n xs) (hb : Below w.heap.size w w') : Reads32 w' A n xs :=
  ⟨h.1, h.2.1, fun h0 => by
    obtain ⟨ad, e, hlt, hc⟩ := h.2.2 h0
    exact ⟨ad, e, Nat.lt_of_lt_of_le hlt hb.size, fun j hj => by rw [hb.cell (by rw [add_block]; exact hlt)]; exact hc j hj⟩⟩
/-- A list of runes that let hands back: its string is a text of so many runes. -/
theorem str_chk (xs : List Int) : chk (Str (xs.map letR)).data.toList = (xs.length, 0, 0) := by
  rw [str_list, chk_text _ (lets_good xs), List.length_map]
theorem cell_below {w w1 : World} (h : Below w.heap.size w w1) {a : Addr} {v : Value} (hc : w.cell? a = some v) : w1.cell? a = some v := (h.cell (World.block_lt_of_cell? w a hc)).trans hc
theorem Cells32.below {w w' : World} {A : Option Addr} {xs : List Int} (h : Cells32 w A xs) (hb : Below w.heap.size w w') : Cells32 w' A xs := fun h0 => by
  obtain ⟨ad, e, hc⟩ := h h0
  exact ⟨ad, e, fun j hj => cell_below hb (hc j hj)⟩
theorem Cells32.take {w : World} {A : Option Addr} {xs : List Int} (h : Cells32 w A xs) (k : Nat) : Cells32 w A (xs.take k) := fun h0 => by
  rw [List.length_take] at h0
  obtain ⟨ad, e, hc⟩ := h (by omega)
  refine ⟨ad, e, fun j hj => ?_⟩
  rw [List.length_take] at hj
  rw [hc j (by omega)]
  simp [List.getD, List.getElem?_take, show j < k by omega]
/-- string(l[:k]). -/
theorem conv_take {W : World} {A : Option Addr} {c k : Nat} {xs : List Int} (h : Cells32 W A xs) (hk : k ≤ xs.length) : (convert 34 9 (.slice A k c)).run Tryd.prog W = .ok (.string (Str (xs.take k))) W := by
  have := conv_runes (c := c) (h.take k)
  rwa [List.length_take, Nat.min_eq_left hk] at this
end Go.Proofs.YtkdhomiieenfnaaDoor.U

namespace Go.Proofs.YtkdhomiieenfnaaDoor.O
open Go.RowKit Go.Proofs.YtkdhomiieenfnaaDoor.Txt Go.Proofs.YtkdhomiieenfnaaDoor.U
set_option linter.unusedVariables false
set_option linter.unusedSimpArgs false

theorem i32s_snoc (l : List Int) (y : Int) : i32s l ++ [.int .i32 y] = i32s (l ++ [y]) := by simp [i32s]
theorem txt_plain {r : Int} (h : r = 10 ∨ (32 ≤ r ∧ r ≤ 126) ∨ (161 ≤ r ∧ r ≤ 55295)) : TxtRune r := by
  have := txt_letR r
  unfold letR at this
  rwa [if_pos (by omega)] at this
theorem txt_snoc {l : List Int} {y : Int} (h : ∀ r ∈ l, TxtRune r) (hy : TxtRune y) : ∀ r ∈ l ++ [y], TxtRune r := fun r hr => by
  rcases List.mem_append.1 hr with h1 | h1
  · exact h r h1
  · rw [List.mem_singleton.1 h1]; exact hy
/-- What letters hands back. -/
def LettersRes (w : World) (e : Ending) (w' : World) : Prop :=
  ∃ v l, e = .returned v ∧ w'.ownsRow w.heap.size 21 1 v l.length (i32s l) ∧ 1 ≤ l.length ∧ l.length ≤ 256 ∧ (∀ r ∈ l, TxtRune r) ∧ Below w.heap.size w w'
set_option maxRecDepth 100000 in
set_option maxHeartbeats 4000000 in
theorem letters_any (A : Option Addr) (n c : Nat) (xs : List Int) (w : World) (hr : Reads32 w A n xs) :
    Calls Tryd.prog 12 #[.slice A n c] w (LettersRes w) := by
  obtain ⟨hl, hn, hr⟩ := hr
  obtain ⟨i0, hi, hz0, hz1, hz2⟩ := info_parts info32
  have hsl := Tryd.underlying34
  have HHR := Lib.hid hr
  clear hr
  go_enter Tryd.func12, Tryd.ntmps12
  go_wp2_with fail
  go_loopw [3, 4] (fun v i wr => ∃ (k : Nat) (l : List Int), k ≤ n ∧ k ≤ 256 ∧ i = .int .i64 k ∧ l.length = k ∧ wr.ownsRow w.heap.size 21 1 v k (i32s l) ∧ (∀ r ∈ l, TxtRune r) ∧ Below w.heap.size w wr) (fun _ i _ => n - (intOf i).toNat)
  case atStart => exact ⟨0, [], Nat.zero_le _, by omega, rfl, rfl, ⟨rfl, .inl ⟨rfl, rfl⟩⟩, (fun r hr => by cases hr), Below.refl _ _⟩
  case round =>
    obtain ⟨k, l, hk, hk2, rfl, hlk, hown, htx, hb⟩ := hrel
    have HO := Lib.hid hown
    have HB := Lib.hid hb
    have HT := Lib.hid htx
    have HLK := Lib.hid hlk
    have hbase : ∀ o, w.heap.size ≤ (wr.alloc o).heap.size := fun o => by have := HB.out.size; simp; omega
    have HBASE := Lib.hid hbase
    have H63 := Lib.hid (show k + 1 ≤ maxLen by unfold maxLen; omega)
    have HBY := Lib.hid (show (k + 1) * 4 ≤ 140737488355328 by omega)
    clear hown hb htx hlk hbase
    by_cases hlt : k < n
    · by_cases h256 : k < 256
      · have h256' : decide ((k : Int) < 256) = true := by simp; omega
        obtain ⟨ad, rfl, hbl, hcs⟩ := HHR.out (by omega)
        have hcell := hcs k hlt
        rw [← HB.out.cell (by rw [add_block]; exact hbl)] at hcell
        generalize xs.getD k 0 = x at hcell
        clear hcs
        have HC : x = 10 ∨ (x < 10 ∨ (10 < x ∧ x < 32)) ∨ (32 ≤ x ∧ x ≤ 126) ∨ (126 < x ∧ x < 161) ∨ (161 ≤ x ∧ x ≤ 55295) ∨ 55295 < x := by omega
        rcases HC with rfl | h | h | h | h | h
        case inl =>
          go_wp2_with (at_builtin; refine wpList_append_own _ rfl (.tmp 38) (.tmp 40) 34 rfl w.heap.size 21 i0 (.int .i32 0) 1 4 hsl hi hz0 hz1 hz2 rfl (by decide) _ _ _ rfl (HO.out.alloc _) ⟨wr.heap.size, 0, none⟩ 1 1 [_] rfl rfl (cell_one_new _ _ _) (by simp [Value.oneCell']) H63.out HBY.out (HBASE.out _) ?_; intro v' w1 hown1 hgrow1 _; have HO1 := Lib.hid hown1; have HG1 := Lib.hid hgrow1; clear hown1 hgrow1)
          go_roundw
          case rel => exact ⟨k + 1, l ++ [10], by omega, by omega, by go_num, by rw [List.length_append, HLK.out]; rfl, by have := HO1.out; rwa [i32s_snoc] at this, txt_snoc HT.out (txt_plain (.inl rfl)), round_below HB.out HO.out HG1.out⟩
          case measure => simp [intOf]; omega
        all_goals
          have b10 : (x != 10) = true := by simp; omega
          go_wp2_with (at_builtin; refine wpList_append_own _ rfl (.tmp 38) (.tmp 40) 34 rfl w.heap.size 21 i0 (.int .i32 0) 1 4 hsl hi hz0 hz1 hz2 rfl (by decide) _ _ _ rfl (HO.out.alloc _) ⟨wr.heap.size, 0, none⟩ 1 1 [_] rfl rfl (cell_one_new _ _ _) (by simp [Value.oneCell']) H63.out HBY.out (HBASE.out _) ?_; intro v' w1 hown1 hgrow1 _; have HO1 := Lib.hid hown1; have HG1 := Lib.hid hgrow1; clear hown1 hgrow1)
          go_roundw
          case rel => exact ⟨k + 1, l ++ [_], by omega, by omega, by go_num, by rw [List.length_append, HLK.out]; rfl, by have := HO1.out; rwa [i32s_snoc] at this, txt_snoc HT.out (txt_plain (by omega)), round_below HB.out HO.out HG1.out⟩
          case measure => simp [intOf]; omega
      · have h256' : decide ((k : Int) < 256) = false := by simp; omega
        have hk0 : ¬ (k : Int) = 0 := by omega
        have hk1 : ((k : Int) == 0) = false := by simp; omega
        obtain ⟨A', cap, rfl⟩ : ∃ A' cap, u3 = .slice A' k cap := by
          rcases HO.out.2 with ⟨h, h0⟩ | ⟨g, cap, cur, hv, _⟩
          · exact ⟨_, _, by rw [h, h0]⟩
          · exact ⟨_, cap, hv⟩
        go_wp2_with fail
        go_ret
        exact ⟨_, l, rfl, by rw [HLK.out]; exact HO.out, by have := HLK.out; omega, by have := HLK.out; omega, HT.out, HB.out⟩
    · have hkn : decide (k < n) = false := by simp; omega
      obtain ⟨A', cap, hu⟩ : ∃ A' cap, u3 = .slice A' k cap := by
        rcases HO.out.2 with ⟨h, h0⟩ | ⟨g, cap, cur, hv, _⟩
        · exact ⟨_, _, by rw [h, h0]⟩
        · exact ⟨_, cap, hv⟩
      subst hu
      by_cases h0 : k = 0
      · subst h0
        obtain rfl : l = [] := List.length_eq_zero_iff.1 HLK.out
        go_wp2_with (at_builtin; refine wpList_append_own _ rfl (.tmp 45) (.tmp 46) 34 rfl w.heap.size 21 i0 (.int .i32 0) 1 4 hsl hi hz0 hz1 hz2 rfl (by decide) _ _ _ rfl (HO.out.alloc _) ⟨wr.heap.size, 0, none⟩ 1 1 [_] rfl rfl (cell_one_new _ _ _) (by simp [Value.oneCell']) H63.out HBY.out (HBASE.out _) ?_; intro v' w1 hown1 hgrow1 _; have HO1 := Lib.hid hown1; have HG1 := Lib.hid hgrow1; clear hown1 hgrow1)
        go_ret
        exact ⟨_, [120], rfl, HO1.out, by decide, by decide, (fun r hr => by rw [List.mem_singleton.1 hr]; exact txt_plain (by omega)), round_below HB.out HO.out HG1.out⟩
      · have hk1 : ((k : Int) == 0) = false := by simp; omega
        have hk2' : ¬ (k : Int) = 0 := by omega
        go_wp2_with fail
        go_ret
        exact ⟨_, l, rfl, by rw [HLK.out]; exact HO.out, by have := HLK.out; omega, by have := HLK.out; omega, HT.out, HB.out⟩
end Go.Proofs.YtkdhomiieenfnaaDoor.O

namespace Go.Proofs.YtkdhomiieenfnaaDoor.U
open Go.RowKit Go.Proofs.YtkdhomiieenfnaaDoor.Txt
set_option linter.unusedVariables false
set_option linter.unusedSimpArgs false

/-- A string that is a text: its runes. -/
structure Text (S : ByteArray) (rs : List Int) : Prop where
  eq : S.data.toList = enc rs
  ok : ∀ r ∈ rs, TxtRune r
  size : S.size ≤ 1152921504606846976
theorem Text.len {S : ByteArray} {rs : List Int} (h : Text S rs) : S.size = (enc rs).length := by rw [← size_toList, h.eq]
theorem Text.le {S : ByteArray} {rs : List Int} (h : Text S rs) : rs.length ≤ S.size := by rw [h.len]; exact enc_len_ge rs
theorem Text.chk {S : ByteArray} {rs : List Int} (h : Text S rs) : ((chk S.data.toList).1 : Int) = rs.length ∧ ((chk S.data.toList).2.1 : Int) = 0 ∧ ((chk S.data.toList).2.2 : Int) = 0 := by
  rw [h.eq, chk_text rs h.ok]; exact ⟨rfl, rfl, rfl⟩
theorem Text.dec {S : ByteArray} {rs : List Int} (h : Text S rs) (k : Nat) (hk : k < rs.length) : Utf8.decode S (psz rs k) = ((rs.getD k 0).toNat, (encB (rs.getD k 0)).length) := by
  rw [dec_eq, h.eq]; exact dec_psz rs h.ok k hk
theorem Text.str (xs : List Int) (hl : xs.length ≤ 35184372087808) : Text (Str (xs.map letR)) (xs.map letR) :=
  ⟨str_list _, lets_good xs, by rw [str_size]; have := enc_len_le (xs.map letR); rw [List.length_map] at this; omega⟩

theorem ret_ii {a b c d : Int} (h : a = c) (h' : b = d) : Ending.returned (.tuple #[.int .i64 a, .int .i64 b]) = .returned (.tuple #[.int .i64 c, .int .i64 d]) := by rw [h, h']
/-- Where a loop over a text's runes stands. -/
def AtRune (S : ByteArray) (rs : List Int) (w : World) (k : Nat) (wr : World) : Prop := wr = w.iter S (psz rs k)

end Go.Proofs.YtkdhomiieenfnaaDoor.U
