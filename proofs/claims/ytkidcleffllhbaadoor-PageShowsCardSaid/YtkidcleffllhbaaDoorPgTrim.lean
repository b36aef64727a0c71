/- strings.TrimRight with one blank as the cutset. -/
import Derived.Test.YtkidcleffllhbaaDoorPgSeek
import Derived.Test.YtkidcleffllhbaaDoorUConv
import Derived.Test.YtkidcleffllhbaaDoorPgDrawP
namespace Go.Proofs.YtkidcleffllhbaaDoor.Pg
open Go.RowKit Go.Proofs Go.Joins Go.Proofs.YtkidcleffllhbaaDoor.U Go.Proofs.YtkidcleffllhbaaDoor.Txt
set_option linter.unusedVariables false
set_option linter.unusedSimpArgs false

set_option maxRecDepth 100000 in
set_option maxHeartbeats 4000000 in
theorem trimByte_any (S : ByteArray) (w : World) (hs : S.size ≤ 140737488355328) :
    Calls Tryd.prog 91 #[.string S, .int .u8 32] w fun e w' => e = .returned (.string ⟨(trimL 32 S.data.toList).toArray⟩) ∧ w' = w := by
  go_enter Tryd.func91, Tryd.ntmps91
  go_wp2_with fail
  go_loopw [0] (fun v wr => wr = w ∧ ∃ T : ByteArray, v = .string T ∧ T.size ≤ 140737488355328 ∧ trimL 32 T.data.toList = trimL 32 S.data.toList) (fun v _ => (match v with | .string T => T.size | _ => 0))
  case atStart => exact ⟨rfl, S, rfl, hs, rfl⟩
  case round =>
    obtain ⟨rfl, T, rfl, hT, htr⟩ := hrel
    rcases List.eq_nil_or_concat T.data.toList with h0 | ⟨ys, x, hx⟩
    · have hz : T = ⟨#[]⟩ := by apply ByteArray.ext; rw [← Array.toList_inj]; exact h0
      subst hz
      go_wp2_with fail
      go_ret
      exact ⟨by rw [← htr]; rfl, rfl⟩
    · rw [List.concat_eq_append] at hx
      have hsz : T.size = ys.length + 1 := by rw [← size_toList, hx, List.length_append]; rfl
      obtain ⟨n, hn⟩ : ∃ n, ys.length = n := ⟨_, rfl⟩
      rw [hn] at hsz
      have z1 : (T.size : Int) = n + 1 := by omega
      have z2 : IntKind.i64.wrap ((T.size : Int) - 1) = n := by rw [IntWalk.i64_in _ (by omega)]; omega
      have z3 : (0 : Int) < T.size := by omega
      have hix : ∀ W : World, (Instr.index 9 (.string T) (.int .i64 n)).run Tryd.prog W = .ok (.int .u8 x.toNat) W := fun W => by
        rw [run_index_string W 9 T .i64 n Tryd.underlying9, dif_pos ⟨by omega, by omega⟩]
        have h1 : T.data.toList[n]? = some x := by rw [hx, ← hn]; simp
        have h2 : T[((n : Int)).toNat]'(by omega) = x := by
          have h3 : n < T.data.toList.length := by rw [hx]; simp; omega
          rw [List.getElem?_eq_getElem h3] at h1
          simp at h1
          exact h1
        rw [h2]
      have hsl : ∀ W : World, (Instr.slice 9 (.string T) none (some (.int .i64 n)) none).run Tryd.prog W = .ok (.string ⟨ys.toArray⟩) W := fun W => by
        rw [run_slice_string_h W 9 T Tryd.underlying9 .i64 n (by omega) (by omega), show ((n : Int)).toNat = n by omega]
        congr 2
        apply ByteArray.ext
        rw [← Array.toList_inj, extract_list T 0 n (Nat.zero_le _), hx, ← hn, List.take_left]; rfl
      rw [hx, trimL_snoc] at htr
      by_cases hc : x = 32
      · subst hc
        rw [if_pos rfl] at htr
        go_wp2_with fail
        go_roundw
        case rel => exact ⟨by trivial, _, rfl, by show ys.length ≤ _; omega, htr⟩
        case measure => show ys.length < T.size; omega
      · rw [if_neg hc, ← hx] at htr
        have hne : ((x.toNat : Int) == 32) = false := by
          simp only [beq_eq_false_iff_ne]
          exact fun h => hc (UInt8.toNat_inj.1 (by show x.toNat = 32; omega))
        go_wp2_with fail
        go_ret
        exact ⟨by rw [← htr]; simp, rfl⟩
set_option maxRecDepth 100000 in
set_option maxHeartbeats 4000000 in
theorem trim_any (S : ByteArray) (w : World) (hs : S.size ≤ 140737488355328) :
    Calls Tryd.prog 71 #[.string S, .string ⟨#[32]⟩] w fun e w' => e = .returned (.string ⟨(trimL 32 S.data.toList).toArray⟩) ∧ w' = w := by
  have HT := Lib.hid (trimByte_any S w hs)
  by_cases h0 : S = ⟨#[]⟩
  · subst h0
    clear HT
    go_enter Tryd.func71, Tryd.ntmps71
    go_wp2_with fail
    go_ret
    exact ⟨rfl, rfl⟩
  · have hz : 0 < S.size := by
      rcases Nat.eq_zero_or_pos S.size with h | h
      · exact absurd (ByteArray.ext (Array.size_eq_zero_iff.1 h)) h0
      · exact h
    have hn : (S.toList == []) = false := by
      simp only [beq_eq_false_iff_ne]
      intro h
      have h2 : S.data.toList = [] := by rw [← toList_eq]; exact h
      have h3 : S.data.toList.length = S.size := by simp
      rw [h2] at h3
      simp at h3; omega
    have hn2 : S.toList.isEmpty = false := by
      cases h : S.toList with
      | nil => rw [h] at hn; exact absurd hn (by simp)
      | cons a l => rfl
    have hn3 : ¬ S.toList = [] := by simpa using hn
    go_enter Tryd.func71, Tryd.ntmps71
    go_wp2_with fail
    refine HT.out.mono ?_
    rintro e w1 ⟨rfl, rfl⟩
    go_wp2_with fail
    go_ret
    exact ⟨rfl, rfl⟩
end Go.Proofs.YtkidcleffllhbaaDoor.Pg
