/- UtextOneForm walked. -/
import Derived.Test.YtfgekdefnbohbaaDoorUUnq
import Derived.Test.YtfgekdefnbohbaaDoorUFixed
namespace Go.Proofs.YtfgekdefnbohbaaDoor.U
open Go.RowKit Go.Proofs.YtfgekdefnbohbaaDoor.Txt
set_option linter.unusedVariables false
set_option linter.unusedSimpArgs false

theorem qR_ge (r : Int) : (encB r).length ≤ (qR r).length := by
  have h4 : (encB r).length ≤ 4 := (encB_len r).2
  have one : ∀ n : Int, n = 34 ∨ n = 92 ∨ n = 10 ∨ n = 9 → (encB n).length = 1 := fun n hn => by
    rcases hn with rfl | rfl | rfl | rfl <;> decide +kernel
  unfold qR
  split
  · rename_i h; rw [one r (.inl h)]; decide
  · split
    · rename_i h; rw [one r (.inr (.inl h))]; decide
    · split
      · rename_i h; rw [one r (.inr (.inr (.inl h)))]; decide
      · split
        · rename_i h; rw [one r (.inr (.inr (.inr h)))]; decide
        · split
          · exact Nat.le_refl _
          · have := hexL_pos r.toNat
            simp only [List.length_append, List.length_cons, List.length_nil]
            omega
theorem qS_ge : ∀ (f : Nat) (l : List UInt8), l.length ≤ f → l.length ≤ (qS f l).length
  | 0, l, h => by omega
  | f + 1, l, h => by
    by_cases hl : l = []
    · subst hl; exact Nat.zero_le _
    cases hs : seq l with
    | none =>
      rw [qS_none (by omega) hl hs, seq_none_len hl hs]
      have := qS_ge f (l.drop 1) (by rw [List.length_drop]; omega)
      rw [List.length_append, show (qX (l.headD 0)).length = 4 from rfl, Nat.add_sub_cancel]
      rw [List.length_drop] at this
      omega
    | some r =>
      rw [qS_some (by omega) hl hs]
      have h1 := (encB_len r).1
      have := qS_ge f (l.drop (encB r).length) (by rw [List.length_drop]; omega)
      have h2 := qR_ge r
      rw [List.length_append, Nat.add_sub_cancel]
      rw [List.length_drop] at this
      omega
theorem unq_a : unqL (⟨#[34, 97, 34]⟩ : ByteArray).data.toList = some ([97], 3) := by
  have e : quoteL [97] = [34, 97, 34] := by decide +kernel
  have := unq_quote [97] []
  rw [List.append_nil, e] at this
  exact this

set_option maxRecDepth 100000 in
set_option maxHeartbeats 4000000 in
theorem oneForm_walk (s : ByteArray) (w : World) (hs : s.size ≤ 1048576) (hE : EnvQ w) :
    Calls Tryd.prog 4 #[.string s] w fun e w' => e = .returned (.bool true) ∧ Below w.heap.size w w' := by
  have HE := Lib.hid hE
  clear hE
  go_enter Tryd.func4, Tryd.ntmps4
  go_wp2_with fail
  refine (fixed_any _ HE.out.bars HE.out.tz).mono ?_
  rintro e w1 ⟨rfl, hb1⟩
  have HB1 := Lib.hid hb1
  clear hb1
  go_wp2_with fail
  refine (Unquote_any _ _ (by decide) (HE.out.below HB1.out)).mono ?_
  rintro e w2 ⟨hr, hb2⟩
  rw [unq_a] at hr
  obtain rfl := hr
  have HB2 := Lib.hid (HB1.out.trans (hb2.mono HB1.out.size))
  clear hb2
  go_wp2_with fail
  refine (Unquote_any s _ hs (HE.out.below HB2.out)).mono ?_
  rintro e w3 ⟨hr, hb3⟩
  have HB3 := Lib.hid (HB2.out.trans (hb3.mono HB2.out.size))
  clear hb3
  cases hu : unqL s.data.toList with
  | none =>
    rw [hu] at hr
    obtain rfl := hr
    clear hu
    go_wp2_with fail
    go_ret
    exact ⟨rfl, HB3.out⟩
  | some p =>
    obtain ⟨x, n⟩ := p
    rw [hu] at hr
    obtain rfl := hr
    obtain ⟨t, ht, hn⟩ := unq_sound hu
    have hq2 := quoteL_len x
    have hlen : s.size = (quoteL x).length + t.length := by rw [← size_toList, ht, List.length_append]
    have hxl : x.length ≤ 1048576 := by
      have h1 := unq_quote x t
      have : x.length ≤ (quoteL x).length := by
        rw [hq2]
        have := qS_ge x.length x (Nat.le_refl _)
        omega
      omega
    obtain ⟨X, hX⟩ : ∃ X : ByteArray, X = ⟨x.toArray⟩ := ⟨_, rfl⟩
    have hXl : X.data.toList = x := by rw [hX]
    have hXs : X.size ≤ 14073748835000 := by rw [← size_toList, hXl]; omega
    have HQ := Lib.hid (Quote_any X w3 hXs (HE.out.below HB3.out).tz)
    rw [hXl] at HQ
    obtain ⟨Q, hQ⟩ : ∃ Q : ByteArray, Q = ⟨(quoteL x).toArray⟩ := ⟨_, rfl⟩
    rw [← hQ] at HQ
    have hsl : ∀ W : World, (Instr.slice 9 (.string s) none (some (.int .i64 n)) none).run Tryd.prog W = .ok (.string Q) W := fun W => by
      rw [run_slice_string_h W 9 s Tryd.underlying9 .i64 n (by omega) (by omega), show ((n : Int)).toNat = n by omega]
      congr 2
      apply ByteArray.ext
      rw [← Array.toList_inj, take_list, ht, hn, List.take_left, hQ]
    have n2 : 2 ≤ n := by omega
    have nl : n ≤ s.size := by omega
    rw [← hX]
    clear hu ht hn hq2 hlen hxl hX hXl hXs hQ
    go_wp2_with fail
    refine HQ.out.mono ?_
    rintro e w4 ⟨rfl, hb4⟩
    have HB4 := Lib.hid (HB3.out.trans (hb4.mono HB3.out.size))
    clear hb4
    go_wp2_with fail
    go_ret
    exact ⟨rfl, HB4.out⟩
end Go.Proofs.YtfgekdefnbohbaaDoor.U
