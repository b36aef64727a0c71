/- Strings of runes that the statements make themselves: string(l) of a list of runes that the call owns; its bytes; Check of it. Walks: utext.Place and utext.Index on a text: the byte at which a rune begins, and back. utext.Index on a text. -/
import Derived.Test.YtfgekdefnbohbaaDoorUBase
import Derived.Deep.AppendLies
namespace Go.Proofs.YtfgekdefnbohbaaDoor.U
open Go.RowKit Go.Proofs.YtfgekdefnbohbaaDoor.Txt
set_option linter.unusedVariables false
set_option linter.unusedSimpArgs false

/-- The string of a list of runes. -/
def Str (xs : List Int) : ByteArray := runesBytes xs
theorem foldl_enc (xs : List Int) : ∀ s : ByteArray, (xs.foldl (fun r n => r ++ Utf8.encode n) s).data.toList = s.data.toList ++ enc xs := by
  induction xs with
  | nil => intro s; simp [enc]
  | cons x xs ih =>
    intro s
    rw [List.foldl_cons, ih, enc_cons]
    simp [encB]
theorem str_list (xs : List Int) : (Str xs).data.toList = enc xs := by
  unfold Str runesBytes
  rw [foldl_enc]
  simp
theorem str_size (xs : List Int) : (Str xs).size = (enc xs).length := by rw [← size_toList, str_list]
theorem app_list (a b : ByteArray) : (a ++ b).data.toList = a.data.toList ++ b.data.toList := by simp
theorem take_list (a : ByteArray) (n : Nat) : (a.extract 0 n).data.toList = a.data.toList.take n := by
  simp [ByteArray.data_extract, Array.toList_extract]

/-- A slice of int32 whose cells are these numbers (nil, if there are none and it is nil). -/
def Cells32 (w : World) (A : Option Addr) (xs : List Int) : Prop := 0 < xs.length → ∃ ad, A = some ad ∧ ∀ j, j < xs.length → w.cell? (ad.add j) = some (.int .i32 (xs.getD j 0))
theorem own_runes {W : World} {base e : Nat} {v : Value} {xs : List Int} (h : W.ownsRow base e 1 v xs.length (i32s xs)) : ∃ A c, v = .slice A xs.length c ∧ xs.length ≤ c ∧ Cells32 W A xs := by
  rcases h.2 with ⟨rfl, h0⟩ | ⟨g, cap, cur, rfl, _, _, hcap, _⟩
  · exact ⟨none, 0, by rw [h0], by omega, fun hp => by omega⟩
  · refine ⟨_, cap, rfl, hcap, fun _ => ⟨_, rfl, fun j hj => h.cells (g := g) rfl j _ ?_⟩⟩
    simp [i32s, List.getElem?_eq_getElem (show j < xs.length by omega), List.getD_eq_getElem?_getD]
theorem conv_runes {W : World} {A : Option Addr} {c : Nat} {xs : List Int} (h : Cells32 W A xs) : (convert 22 9 (.slice A xs.length c)).run Tryd.prog W = .ok (.string (Str xs)) W := by
  rcases Nat.eq_zero_or_pos xs.length with h0 | h0
  · obtain rfl : xs = [] := List.length_eq_zero_iff.1 h0
    rw [run_convert_runes_string W _ _ _ _ _ _ Tryd.underlying22 Tryd.underlying21 Tryd.underlying9]
    cases A with
    | none => rfl
    | some a => exact run_runesToString W a 0 c [] (by rw [run_loadCells W a 0 (fun _ => .int .i32 0) (fun j hj => by omega)]; rfl)
  · obtain ⟨ad, rfl, hc⟩ := h h0
    have := run_convert_runes W 22 9 21 ad xs.length c xs (Nat.le_refl _) Tryd.underlying22 Tryd.underlying21 Tryd.underlying9 hc
    rwa [List.take_length] at this
theorem Reads32.below {w w' : World} {A : Option Addr} {n : Nat} {xs : List Int} (h : Reads32 w A n xs) (hb : Below w.heap.size w w') : Reads32 w' A n xs :=
  ⟨h.1, h.2.1, fun h0 => by
    obtain ⟨ad, e, hlt, hc⟩ := h.2.2 h0
    exact ⟨ad, e, Nat.lt_of_lt_of_le hlt hb.size, fun j hj => by rw [hb.cell (by rw [add_block]; exact hlt)]; exact hc j hj⟩⟩
/-- A list of runes that let hands back: its string is a text of so many runes. -/
theorem str_chk (xs : List Int) : chk (Str (xs.map letR)).data.toList = (xs.length, 0, 0) := by
  rw [str_list, chk_text _ (lets_good xs), List.length_map]
theorem cell_below {w w1 : World} (h : Below w.heap.size w w1) {a : Addr} {v : Value} (hc : w.cell? a = some v) : w1.cell? a = some v := (h.cell (World.block_lt_of_cell? w a hc)).trans hc
theorem Cells32.below {w w' : World} {A : Option Addr} {xs : List Int} (h : Cells32 w A xs) (hb : Below w.heap.size w w') : Cells32 w' A xs := fun h0 => by
  obtain ⟨ad, e, hc⟩ := h h0
  exact ⟨ad, e, fun j hj => cell_below hb (hc j hj)⟩
theorem Cells32.take {w : World} {A : Option Addr} {xs : List Int} (h : Cells32 w A xs) (k : Nat) : Cells32 w A (xs.take k) := fun h0 => by
  rw [List.length_take] at h0
  obtain ⟨ad, e, hc⟩ := h (by omega)
  refine ⟨ad, e, fun j hj => ?_⟩
  rw [List.length_take] at hj
  rw [hc j (by omega)]
  simp [List.getD, List.getElem?_take, show j < k by omega]
/-- string(l[:k]). -/
theorem conv_take {W : World} {A : Option Addr} {c k : Nat} {xs : List Int} (h : Cells32 W A xs) (hk : k ≤ xs.length) : (convert 22 9 (.slice A k c)).run Tryd.prog W = .ok (.string (Str (xs.take k))) W := by
  have := conv_runes (c := c) (h.take k)
  rwa [List.length_take, Nat.min_eq_left hk] at this
end Go.Proofs.YtfgekdefnbohbaaDoor.U

namespace Go.Proofs.YtfgekdefnbohbaaDoor.U
open Go.RowKit Go.Proofs.YtfgekdefnbohbaaDoor.Txt
set_option linter.unusedVariables false
set_option linter.unusedSimpArgs false

/-- A string that is a text: its runes. -/
structure Text (S : ByteArray) (rs : List Int) : Prop where
  eq : S.data.toList = enc rs
  ok : ∀ r ∈ rs, TxtRune r
  size : S.size ≤ 1152921504606846976
theorem Text.len {S : ByteArray} {rs : List Int} (h : Text S rs) : S.size = (enc rs).length := by rw [← size_toList, h.eq]
theorem Text.le {S : ByteArray} {rs : List Int} (h : Text S rs) : rs.length ≤ S.size := by rw [h.len]; exact enc_len_ge rs
theorem Text.chk {S : ByteArray} {rs : List Int} (h : Text S rs) : ((chk S.data.toList).1 : Int) = rs.length ∧ ((chk S.data.toList).2.1 : Int) = 0 ∧ ((chk S.data.toList).2.2 : Int) = 0 := by
  rw [h.eq, chk_text rs h.ok]; exact ⟨rfl, rfl, rfl⟩
theorem Text.dec {S : ByteArray} {rs : List Int} (h : Text S rs) (k : Nat) (hk : k < rs.length) : Utf8.decode S (psz rs k) = ((rs.getD k 0).toNat, (encB (rs.getD k 0)).length) := by
  rw [dec_eq, h.eq]; exact dec_psz rs h.ok k hk
theorem Text.str (xs : List Int) (hl : xs.length ≤ 35184372087808) : Text (Str (xs.map letR)) (xs.map letR) :=
  ⟨str_list _, lets_good xs, by rw [str_size]; have := enc_len_le (xs.map letR); rw [List.length_map] at this; omega⟩

theorem ret_ii {a b c d : Int} (h : a = c) (h' : b = d) : Ending.returned (.tuple #[.int .i64 a, .int .i64 b]) = .returned (.tuple #[.int .i64 c, .int .i64 d]) := by rw [h, h']
/-- Where a loop over a text's runes stands. -/
def AtRune (S : ByteArray) (rs : List Int) (w : World) (k : Nat) (wr : World) : Prop := wr = w.iter S (psz rs k)

set_option maxRecDepth 100000 in
set_option maxHeartbeats 2000000 in
theorem place_in (S : ByteArray) (rs : List Int) (a : Nat) (w : World) (h : Text S rs) (ha : a ≤ rs.length) (hg : Bars w) :
    Calls Tryd.prog 31 #[.string S, .int .i64 a] w fun e w' => e = .returned (.tuple #[.int .i64 (psz rs a), .int .i64 0]) ∧ Below w.heap.size w w' := by
  have hsz := h.size
  have hle := h.le
  have HT := Lib.hid h
  have HG := Lib.hid hg
  clear h hg
  go_enter Tryd.func31, Tryd.ntmps31
  go_wp2_with fail
  refine (check_at S rs.length 0 0 _ (by unfold maxLen; omega) HG.out HT.out.chk).mono ?_
  rintro e w1 ⟨rfl, hb1⟩
  have HB1 := Lib.hid hb1
  clear hb1
  go_wp2_with fail
  go_loopw [9] (fun n wr => ∃ k : Nat, n = .int .i64 k ∧ k ≤ a ∧ AtRune S rs w1 k wr) (fun _ wr => S.size - wr.iterPos w1.heap.size)
  case atStart => exact ⟨0, rfl, Nat.zero_le _, by unfold AtRune; rw [psz_zero]⟩
  case round =>
    obtain ⟨k, rfl, hk, rfl⟩ := hrel
    by_cases hkn : k < rs.length
    · have hlt : psz rs k < S.size := by rw [HT.out.len]; exact psz_lt rs k hkn
      have hnx := fun ty => run_next_any (P := Tryd.prog) w1 S (psz rs k) ty hlt
      simp only [HT.out.dec k hkn] at hnx
      have hps := psz_succ rs k hkn
      have hwd := (encB_len (rs.getD k 0)).1
      generalize rs.getD k 0 = r at hnx hps hwd
      have HPS := Lib.hid hps
      have HWD := Lib.hid hwd
      clear hps hwd
      by_cases hka : k = a
      · subst hka
        go_wp2_with fail
        go_ret2
        exact ⟨rfl, HB1.out.trans ((Below.refl _ _).alloc HB1.out.size _)⟩
      · have hke : ((k : Int) == a) = false := by simp; omega
        go_wp2_with fail
        go_roundw
        case rel => exact ⟨k + 1, by go_num, by omega, by unfold AtRune; rw [HPS.out]⟩
        case measure =>
          rw [World.iterPos_iter, World.iterPos_iter]
          have := HWD.out
          omega
    · have hkn' : k = rs.length := by omega
      have hlt : ¬ psz rs k < S.size := by rw [HT.out.len, hkn', psz_all]; omega
      have hnx := fun ty => run_next_end (P := Tryd.prog) w1 S (psz rs k) ty hlt
      have he : S.size = psz rs a := by rw [HT.out.len, show a = rs.length by omega, psz_all]
      have HE := Lib.hid he
      clear he hkn'
      go_wp2_with fail
      go_ret2
      exact ⟨ret_ii (by rw [HE.out]) rfl, HB1.out.trans ((Below.refl _ _).alloc HB1.out.size _)⟩

theorem place_out (S : ByteArray) (rs : List Int) (a : Int) (w : World) (h : Text S rs) (ha : a < 0 ∨ rs.length < a) (h0 : -9223372036854775808 ≤ a) (h1 : a ≤ 9223372036854775807) (hg : Bars w) :
    Calls Tryd.prog 31 #[.string S, .int .i64 a] w fun e w' => e = .returned (.tuple #[.int .i64 0, .int .i64 12]) ∧ Below w.heap.size w w' := by
  have hsz := h.size
  have hle := h.le
  have HT := Lib.hid h
  have HG := Lib.hid hg
  clear h hg
  rcases ha with ha | ha
  all_goals
    go_enter Tryd.func31, Tryd.ntmps31
    go_wp2_with fail
    refine (check_at S rs.length 0 0 _ (by unfold maxLen; omega) HG.out HT.out.chk).mono ?_
    rintro e w1 ⟨rfl, hb1⟩
    have HB1 := Lib.hid hb1
    clear hb1
    go_wp2_with fail
    go_ret2
    exact ⟨rfl, HB1.out⟩
end Go.Proofs.YtfgekdefnbohbaaDoor.U

namespace Go.Proofs.YtfgekdefnbohbaaDoor.U
open Go.RowKit Go.Proofs.YtfgekdefnbohbaaDoor.Txt
set_option linter.unusedVariables false
set_option linter.unusedSimpArgs false

set_option maxRecDepth 100000 in
set_option maxHeartbeats 2000000 in
theorem index_at (S : ByteArray) (rs : List Int) (a : Nat) (w : World) (h : Text S rs) (ha : a ≤ rs.length) (hg : Bars w) :
    Calls Tryd.prog 40 #[.string S, .int .i64 (psz rs a)] w fun e w' => e = .returned (.tuple #[.int .i64 a, .int .i64 0]) ∧ Below w.heap.size w w' := by
  have hsz := h.size
  have hle := h.le
  have hpa := psz_le rs a
  rw [← h.len] at hpa
  have HT := Lib.hid h
  have HG := Lib.hid hg
  clear h hg
  by_cases hae : a = rs.length
  · have he : ((psz rs a : Nat) : Int) = S.size := by rw [HT.out.len, hae, psz_all]
    generalize ((psz rs a : Nat) : Int) = p at he ⊢
    subst he
    go_enter Tryd.func40, Tryd.ntmps40
    go_wp2_with fail
    refine (check_at S rs.length 0 0 _ (by unfold maxLen; omega) HG.out HT.out.chk).mono ?_
    rintro e w1 ⟨rfl, hb1⟩
    have HB1 := Lib.hid hb1
    clear hb1
    go_wp2_with fail
    go_ret2
    subst hae
    exact ⟨rfl, HB1.out⟩
  · have hlt0 : psz rs a < S.size := by rw [HT.out.len]; exact psz_lt rs a (by omega)
    have hne : (((psz rs a : Nat) : Int) == (S.size : Int)) = false := by simp; omega
    go_enter Tryd.func40, Tryd.ntmps40
    go_wp2_with fail
    refine (check_at S rs.length 0 0 _ (by unfold maxLen; omega) HG.out HT.out.chk).mono ?_
    rintro e w1 ⟨rfl, hb1⟩
    have HB1 := Lib.hid hb1
    clear hb1
    go_wp2_with fail
    go_loopw [9] (fun n wr => ∃ k : Nat, n = .int .i64 k ∧ k ≤ a ∧ AtRune S rs w1 k wr) (fun _ wr => S.size - wr.iterPos w1.heap.size)
    case atStart => exact ⟨0, rfl, Nat.zero_le _, by unfold AtRune; rw [psz_zero]⟩
    case round =>
      obtain ⟨k, rfl, hk, rfl⟩ := hrel
      have hkn : k < rs.length := by omega
      have hlt : psz rs k < S.size := by rw [HT.out.len]; exact psz_lt rs k hkn
      have hnx := fun ty => run_next_any (P := Tryd.prog) w1 S (psz rs k) ty hlt
      simp only [HT.out.dec k hkn] at hnx
      have hps := psz_succ rs k hkn
      have hwd := (encB_len (rs.getD k 0)).1
      generalize rs.getD k 0 = r at hnx hps hwd
      have HPS := Lib.hid hps
      have HWD := Lib.hid hwd
      clear hps hwd
      by_cases hka : k = a
      · subst hka
        go_wp2_with fail
        go_ret2
        exact ⟨rfl, HB1.out.trans ((Below.refl _ _).alloc HB1.out.size _)⟩
      · have hm := psz_mono rs k a (by omega) (by omega)
        have hke : (((psz rs k : Nat) : Int) == ((psz rs a : Nat) : Int)) = false := by simp; omega
        go_wp2_with fail
        go_roundw
        case rel => exact ⟨k + 1, by go_num, by omega, by unfold AtRune; rw [HPS.out]⟩
        case measure =>
          rw [World.iterPos_iter, World.iterPos_iter]
          have := HWD.out
          omega

/-- No rune begins there. -/
theorem index_out (S : ByteArray) (rs : List Int) (a : Int) (w : World) (h : Text S rs) (ha : ∀ k, k ≤ rs.length → ((psz rs k : Nat) : Int) ≠ a) (h0 : -9223372036854775808 ≤ a) (h1 : a ≤ 9223372036854775807) (hg : Bars w) :
    Calls Tryd.prog 40 #[.string S, .int .i64 a] w fun e w' => e = .returned (.tuple #[.int .i64 0, .int .i64 12]) ∧ Below w.heap.size w w' := by
  have hsz := h.size
  have hle := h.le
  have hne : (a == (S.size : Int)) = false := by
    have := ha rs.length (Nat.le_refl _)
    rw [psz_all, ← h.len] at this
    simp; omega
  have HA := Lib.hid ha
  have HT := Lib.hid h
  have HG := Lib.hid hg
  clear h hg ha
  go_enter Tryd.func40, Tryd.ntmps40
  go_wp2_with fail
  refine (check_at S rs.length 0 0 _ (by unfold maxLen; omega) HG.out HT.out.chk).mono ?_
  rintro e w1 ⟨rfl, hb1⟩
  have HB1 := Lib.hid hb1
  clear hb1
  go_wp2_with fail
  go_loopw [9] (fun n wr => ∃ k : Nat, n = .int .i64 k ∧ k ≤ rs.length ∧ AtRune S rs w1 k wr) (fun _ wr => S.size - wr.iterPos w1.heap.size)
  case atStart => exact ⟨0, rfl, Nat.zero_le _, by unfold AtRune; rw [psz_zero]⟩
  case round =>
    obtain ⟨k, rfl, hk, rfl⟩ := hrel
    by_cases hkn : k < rs.length
    · have hlt : psz rs k < S.size := by rw [HT.out.len]; exact psz_lt rs k hkn
      have hnx := fun ty => run_next_any (P := Tryd.prog) w1 S (psz rs k) ty hlt
      simp only [HT.out.dec k hkn] at hnx
      have hps := psz_succ rs k hkn
      have hwd := (encB_len (rs.getD k 0)).1
      generalize rs.getD k 0 = r at hnx hps hwd
      have HPS := Lib.hid hps
      have HWD := Lib.hid hwd
      clear hps hwd
      have hke : (((psz rs k : Nat) : Int) == a) = false := by have := HA.out k (by omega); simp; omega
      go_wp2_with fail
      go_roundw
      case rel => exact ⟨k + 1, by go_num, by omega, by unfold AtRune; rw [HPS.out]⟩
      case measure =>
        rw [World.iterPos_iter, World.iterPos_iter]
        have := HWD.out
        omega
    · have hlt : ¬ psz rs k < S.size := by rw [HT.out.len, show k = rs.length by omega, psz_all]; omega
      have hnx := fun ty => run_next_end (P := Tryd.prog) w1 S (psz rs k) ty hlt
      go_wp2_with fail
      go_ret2
      exact ⟨rfl, HB1.out.trans ((Below.refl _ _).alloc HB1.out.size _)⟩
end Go.Proofs.YtfgekdefnbohbaaDoor.U
