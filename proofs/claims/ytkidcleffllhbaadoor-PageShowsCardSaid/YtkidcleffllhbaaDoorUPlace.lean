/- Walks: utext.Place and utext.Index on a text: the byte at which a rune begins, and back. -/
import Derived.Test.YtkidcleffllhbaaDoorUOps
namespace Go.Proofs.YtkidcleffllhbaaDoor.U
open Go.RowKit Go.Proofs.YtkidcleffllhbaaDoor.Txt
set_option linter.unusedVariables false
set_option linter.unusedSimpArgs false

/-- A string that is a text: its runes. -/
structure Text (S : ByteArray) (rs : List Int) : Prop where
  eq : S.data.toList = enc rs
  ok : ∀ r ∈ rs, TxtRune r
  size : S.size ≤ 1152921504606846976
theorem Text.len {S : ByteArray} {rs : List Int} (h : Text S rs) : S.size = (enc rs).length := by rw [← size_toList, h.eq]
theorem Text.le {S : ByteArray} {rs : List Int} (h : Text S rs) : rs.length ≤ S.size := by rw [h.len]; exact enc_len_ge rs
theorem Text.chk {S : ByteArray} {rs : List Int} (h : Text S rs) : ((chk S.data.toList).1 : Int) = rs.length ∧ ((chk S.data.toList).2.1 : Int) = 0 ∧ ((chk S.data.toList).2.2 : Int) = 0 := by
  rw [h.eq, chk_text rs h.ok]; exact ⟨rfl, rfl, rfl⟩
theorem Text.dec {S : ByteArray} {rs : List Int} (h : Text S rs) (k : Nat) (hk : k < rs.length) : Utf8.decode S (psz rs k) = ((rs.getD k 0).toNat, (encB (rs.getD k 0)).length) := by
  rw [dec_eq, h.eq]; exact dec_psz rs h.ok k hk
theorem Text.str (xs : List Int) (hl : xs.length ≤ 35184372087808) : Text (Str (xs.map letR)) (xs.map letR) :=
  ⟨str_list _, lets_good xs, by rw [str_size]; have := enc_len_le (xs.map letR); rw [List.length_map] at this; omega⟩

theorem ret_ii {a b c d : Int} (h : a = c) (h' : b = d) : Ending.returned (.tuple #[.int .i64 a, .int .i64 b]) = .returned (.tuple #[.int .i64 c, .int .i64 d]) := by rw [h, h']
/-- Where a loop over a text's runes stands. -/
def AtRune (S : ByteArray) (rs : List Int) (w : World) (k : Nat) (wr : World) : Prop := wr = w.iter S (psz rs k)

set_option maxRecDepth 100000 in
set_option maxHeartbeats 2000000 in
theorem place_in (S : ByteArray) (rs : List Int) (a : Nat) (w : World) (h : Text S rs) (ha : a ≤ rs.length) (hg : Bars w) :
    Calls Tryd.prog 99 #[.string S, .int .i64 a] w fun e w' => e = .returned (.tuple #[.int .i64 (psz rs a), .int .i64 0]) ∧ Below w.heap.size w w' := by
  have hsz := h.size
  have hle := h.le
  have HT := Lib.hid h
  have HG := Lib.hid hg
  clear h hg
  go_enter Tryd.func99, Tryd.ntmps99
  go_wp2_with fail
  refine (check_at S rs.length 0 0 _ (by unfold maxLen; omega) HG.out HT.out.chk).mono ?_
  rintro e w1 ⟨rfl, hb1⟩
  have HB1 := Lib.hid hb1
  clear hb1
  go_wp2_with fail
  go_loopw [9] (fun n wr => ∃ k : Nat, n = .int .i64 k ∧ k ≤ a ∧ AtRune S rs w1 k wr) (fun _ wr => S.size - wr.iterPos w1.heap.size)
  case atStart => exact ⟨0, rfl, Nat.zero_le _, by unfold AtRune; rw [psz_zero]⟩
  case round =>
    obtain ⟨k, rfl, hk, rfl⟩ := hrel
    by_cases hkn : k < rs.length
    · have hlt : psz rs k < S.size := by rw [HT.out.len]; exact psz_lt rs k hkn
      have hnx := fun ty => run_next_any (P := Tryd.prog) w1 S (psz rs k) ty hlt
      simp only [HT.out.dec k hkn] at hnx
      have hps := psz_succ rs k hkn
      have hwd := (encB_len (rs.getD k 0)).1
      generalize rs.getD k 0 = r at hnx hps hwd
      have HPS := Lib.hid hps
      have HWD := Lib.hid hwd
      clear hps hwd
      by_cases hka : k = a
      · subst hka
        go_wp2_with fail
        go_ret2
        exact ⟨rfl, HB1.out.trans ((Below.refl _ _).alloc HB1.out.size _)⟩
      · have hke : ((k : Int) == a) = false := by simp; omega
        go_wp2_with fail
        go_roundw
        case rel => exact ⟨k + 1, by go_num, by omega, by unfold AtRune; rw [HPS.out]⟩
        case measure =>
          rw [World.iterPos_iter, World.iterPos_iter]
          have := HWD.out
          omega
    · have hkn' : k = rs.length := by omega
      have hlt : ¬ psz rs k < S.size := by rw [HT.out.len, hkn', psz_all]; omega
      have hnx := fun ty => run_next_end (P := Tryd.prog) w1 S (psz rs k) ty hlt
      have he : S.size = psz rs a := by rw [HT.out.len, show a = rs.length by omega, psz_all]
      have HE := Lib.hid he
      clear he hkn'
      go_wp2_with fail
      go_ret2
      exact ⟨ret_ii (by rw [HE.out]) rfl, HB1.out.trans ((Below.refl _ _).alloc HB1.out.size _)⟩

theorem place_out (S : ByteArray) (rs : List Int) (a : Int) (w : World) (h : Text S rs) (ha : a < 0 ∨ rs.length < a) (h0 : -9223372036854775808 ≤ a) (h1 : a ≤ 9223372036854775807) (hg : Bars w) :
    Calls Tryd.prog 99 #[.string S, .int .i64 a] w fun e w' => e = .returned (.tuple #[.int .i64 0, .int .i64 12]) ∧ Below w.heap.size w w' := by
  have hsz := h.size
  have hle := h.le
  have HT := Lib.hid h
  have HG := Lib.hid hg
  clear h hg
  rcases ha with ha | ha
  all_goals
    go_enter Tryd.func99, Tryd.ntmps99
    go_wp2_with fail
    refine (check_at S rs.length 0 0 _ (by unfold maxLen; omega) HG.out HT.out.chk).mono ?_
    rintro e w1 ⟨rfl, hb1⟩
    have HB1 := Lib.hid hb1
    clear hb1
    go_wp2_with fail
    go_ret2
    exact ⟨rfl, HB1.out⟩
end Go.Proofs.YtkidcleffllhbaaDoor.U
