/- []rune(s) of a text. Other forms in plain Lean: a form with a rune more ahead is read; the same bytes written otherwise are no form. -/
import Derived.Test.YtkdhomiieenfnaaGreatDoorLt2
import Derived.Laws.IdiomStrings
import Derived.Test.YtkdhomiieenfnaaGreatDoorLt1
namespace Go.Proofs.YtkdhomiieenfnaaGreatDoor.U
open Go.RowKit Go.Proofs.YtkdhomiieenfnaaGreatDoor.Txt
set_option linter.unusedVariables false
set_option linter.unusedSimpArgs false

/-! ### []rune(s) -/
theorem runesFrom_text (S : ByteArray) (rs : List Int) (h : Text S rs) : ∀ (m k : Nat) (acc : Array Value), rs.length - k ≤ m → k ≤ rs.length → Conv.runesFrom S m (psz rs k) acc = acc ++ (i32s (rs.drop k)).toArray := by
  intro m
  induction m with
  | zero =>
    intro k acc hm hk
    have : k = rs.length := by omega
    subst this
    simp [Conv.runesFrom, i32s]
  | succ m ih =>
    intro k acc hm hk
    unfold Conv.runesFrom
    by_cases hlt : k < rs.length
    · have h1 : psz rs k < S.size := by rw [h.len]; exact psz_lt rs k hlt
      have h2 := h.dec k hlt
      rw [if_pos h1, h2]
      simp only []
      rw [← psz_succ rs k hlt, ih (k + 1) _ (by omega) (by omega), List.drop_eq_getElem_cons hlt]
      have e : rs.getD k 0 = rs[k] := by simp [List.getD, hlt]
      have e2 := getD_nonneg rs h.ok k hlt
      rw [e] at e2
      rw [e, show Int.ofNat rs[k].toNat = rs[k] from e2, ← Array.toList_inj]
      clear e2 e h2 ih
      generalize rs[k] = x
      generalize List.drop (k + 1) rs = t
      simp [i32s]
    · have : k = rs.length := by omega
      subst this
      rw [if_neg (by rw [h.len, psz_all]; omega)]
      simp [i32s]
/-- A fresh row of a text's runes. -/
theorem conv_to_runes (S : ByteArray) (rs : List Int) (h : Text S rs) (hl : rs.length ≤ 35184372087808) (w : World) :
    ∃ (c : Nat) (w' : World), (convert 9 49 (.string S)).run Tryz.prog w = .ok (.slice (some ⟨w.heap.size, 0, none⟩) rs.length c) w' ∧ rs.length ≤ c ∧ Below w.heap.size w w' ∧ Cells32 w' (some ⟨w.heap.size, 0, none⟩) rs := by
  have hr : Conv.runesFrom S S.size 0 #[] = (i32s rs).toArray := by
    have := runesFrom_text S rs h S.size 0 #[] (by have := h.le; omega) (Nat.zero_le _)
    rw [psz_zero] at this
    rw [this]
    simp
  have hz : (i32s rs).toArray.size = rs.length := by simp [i32s]
  have hrun := run_runes_of_string (P := Tryz.prog) w 9 49 21 S Tryz.underlying9 Tryz.underlying49 Tryz.underlying21 (by rw [hr, hz]; omega)
  rw [hr, hz] at hrun
  have hc := grownCap_ge w rs.length 0 21
  refine ⟨_, _, hrun, by omega, (Below.refl _ _).drew.alloc (Nat.le_refl _) _, fun _ => ⟨_, rfl, fun j hj => ?_⟩⟩
  have e : (⟨w.heap.size, 0, none⟩ : Addr).add j = ⟨w.heap.size, j, none⟩ := by unfold Addr.add; split <;> simp_all
  rw [e]
  refine (World.cell?_alloc_at _ _ _ _ rfl).trans ?_
  rw [Array.getElem?_append_left (by rw [hz]; exact hj)]
  simp [i32s, List.getElem?_eq_getElem hj, List.getD, hj]

end Go.Proofs.YtkdhomiieenfnaaGreatDoor.U

namespace Go.Proofs.YtkdhomiieenfnaaGreatDoor.U
open Go Go.Proofs.YtkdhomiieenfnaaGreatDoor.Txt
set_option linter.unusedVariables false
set_option linter.unusedSimpArgs false

theorem dig_inj {m n : Nat} (hm : m < 16) (hn : n < 16) (h : dig m = dig n) : m = n := by
  have := congrArg hexV h
  rw [hexV_dig m hm, hexV_dig n hn] at this
  exact Option.some.inj this
theorem encB_ascii (n : Nat) (hn : n < 128) : encB (n : Int) = [UInt8.ofNat n] := by
  rcases encB_cases (n : Int) ((valid_iff _).2 (by omega)) with ⟨_, e⟩ | ⟨h, _⟩ | ⟨h, _⟩ | ⟨h, _⟩
  · rw [e]; simp
  all_goals omega
theorem seq_ascii (b : UInt8) (hb : b.toNat < 128) (t : List UInt8) : seq (b :: t) = some (b.toNat : Int) := by
  have h := seq_enc (b.toNat : Int) ((valid_iff _).2 (by omega)) t
  rw [encB_ascii _ hb] at h
  have e : UInt8.ofNat b.toNat = b := u8_eq b _ rfl
  rwa [e] at h
theorem quote_more (r : Int) (hv : Utf8.valid r = true) (l : List UInt8) : quoteL (encB r ++ l) = 34 :: (qR r ++ (qS l.length l ++ [34])) := by
  unfold quoteL
  have h1 := (encB_len r).1
  rw [qS_some (by rw [List.length_append]; omega) (encB_ne r l) (seq_enc r hv l), List.drop_left, qS_fuel _ l.length l (by rw [List.length_append]; omega) (Nat.le_refl _), List.append_assoc]
/-- How a form begins. -/
theorem form_cases (x : List UInt8) : quoteL x = [34, 34] ∨ (∃ b y, x = b :: y ∧ seq x = none ∧ quoteL x = 34 :: (qX b ++ (qS y.length y ++ [34]))) ∨ (∃ r y, Utf8.valid r = true ∧ x = encB r ++ y ∧ quoteL x = 34 :: (qR r ++ (qS y.length y ++ [34]))) := by
  by_cases hx : x = []
  · subst hx; exact .inl rfl
  cases hs : seq x with
  | none =>
    obtain ⟨b, y, rfl⟩ : ∃ b t, x = b :: t := by cases x with | nil => exact absurd rfl hx | cons b t => exact ⟨b, t, rfl⟩
    refine .inr (.inl ⟨b, y, rfl, rfl, ?_⟩)
    unfold quoteL
    rw [qS_none (by simp) hx hs, seq_none_len hx hs]
    simp
  | some r =>
    obtain ⟨hv, y, rfl⟩ := seq_some hx hs
    exact .inr (.inr ⟨r, y, hv, rfl, quote_more r hv y⟩)
/-- The forms of runes have no \x. -/
theorem qR_no_x (r : Int) (t u : List UInt8) (h : qR r ++ t = 92 :: 120 :: u) (hv : Utf8.valid r = true) : False := by
  have hr := (valid_iff r).1 hv
  unfold qR at h
  split at h
  · simp at h
  split at h
  · simp at h
  split at h
  · simp at h
  split at h
  · simp at h
  split at h
  · rename_i n1 n2 n3 n4 h5
    obtain ⟨n, rfl⟩ : ∃ n : Nat, r = (n : Int) := ⟨r.toNat, by omega⟩
    rw [encB_ascii n (by omega)] at h
    have h6 := congrArg UInt8.toNat (List.cons.inj h).1
    rw [ofNat_toNat n (by omega)] at h6
    simp at h6
    omega
  · simp at h
/-- A rune's form that begins with \u{ is the one of its digits. -/
theorem qR_u (r : Int) (t u : List UInt8) (h : qR r ++ t = 92 :: 117 :: 123 :: u) (hv : Utf8.valid r = true) : u = hexL r.toNat ++ 125 :: t := by
  have hr := (valid_iff r).1 hv
  unfold qR at h
  split at h
  · simp at h
  split at h
  · simp at h
  split at h
  · simp at h
  split at h
  · simp at h
  split at h
  · rename_i n1 n2 n3 n4 h5
    obtain ⟨n, rfl⟩ : ∃ n : Nat, r = (n : Int) := ⟨r.toNat, by omega⟩
    rw [encB_ascii n (by omega)] at h
    have h6 := congrArg UInt8.toNat (List.cons.inj h).1
    rw [ofNat_toNat n (by omega)] at h6
    simp at h6
    omega
  · simp at h
    rw [← h]
theorem hexL_head (n : Nat) : n = 0 ∨ ∃ m t, 1 ≤ m ∧ m < 16 ∧ hexL n = dig m :: t := by
  induction n using Nat.strongRecOn with
  | ind n ih =>
    by_cases h : n < 16
    · by_cases h0 : n = 0
      · exact .inl h0
      · exact .inr ⟨n, [], by omega, h, by rw [hexL, if_pos h]⟩
    · rcases ih (n / 16) (by omega) with h1 | ⟨m, t, h1, h2, e⟩
      · omega
      · exact .inr ⟨m, t ++ [dig (n % 16)], h1, h2, by rw [hexL, if_neg h, e]; rfl⟩
theorem hex_e9 : hexL 233 = [101, 57] := by decide +kernel
theorem enc_e9 : encB 233 = [195, 169] := by decide +kernel
theorem read_more (l : List UInt8) : unqL (34 :: 92 :: 117 :: 123 :: 101 :: 57 :: 125 :: (qS l.length l ++ [34])) = some (195 :: 169 :: l, (quoteL l).length + 6) := by
  have h := quote_more 233 (by decide +kernel) l
  have e : qR 233 = [92, 117, 123, 101, 57, 125] := by
    unfold qR
    rw [if_neg (by decide), if_neg (by decide), if_neg (by decide), if_neg (by decide), if_neg (by decide), show (233 : Int).toNat = 233 from rfl, hex_e9]
    rfl
  rw [e, enc_e9] at h
  have := unq_quote (195 :: 169 :: l) []
  rw [List.append_nil] at this
  have h2 : quoteL (195 :: 169 :: l) = 34 :: 92 :: 117 :: 123 :: 101 :: 57 :: 125 :: (qS l.length l ++ [34]) := h
  rw [h2] at this
  rw [this]
  simp [quoteL]
theorem no_x (a b : Nat) (ha : a < 8) (hb : b < 16) (t : List UInt8) : unqL (34 :: 92 :: 120 :: dig a :: dig b :: t) = none := by
  apply unq_none'
  intro x u h
  rcases form_cases x with e | ⟨c, y, rfl, hs, e⟩ | ⟨r, y, hv, rfl, e⟩
  · rw [e] at h; simp at h
  · rw [e] at h
    simp [qX] at h
    obtain ⟨h1, h2, _⟩ := h
    have hc := c.toNat_lt
    have h1 := dig_inj (by omega) (by omega) h1
    have h2 := dig_inj (by omega) (by omega) h2
    rw [seq_ascii c (by omega)] at hs
    cases hs
  · rw [e, List.cons_append, List.append_assoc] at h
    exact qR_no_x r _ _ (List.cons.inj h).2.symm hv
theorem no_0 (a b : Nat) (ha : a < 16) (hb : b < 16) (t : List UInt8) : unqL (34 :: 92 :: 117 :: 123 :: 48 :: dig a :: dig b :: 125 :: t) = none := by
  apply unq_none'
  intro x u h
  rcases form_cases x with e | ⟨c, y, rfl, hs, e⟩ | ⟨r, y, hv, rfl, e⟩
  · rw [e] at h; simp at h
  · rw [e] at h
    simp [qX] at h
  · rw [e, List.cons_append, List.append_assoc] at h
    have h1 := qR_u r _ _ (List.cons.inj h).2.symm hv
    rcases hexL_head r.toNat with h0 | ⟨m, s, hm, hm', he⟩
    · rw [h0, show hexL 0 = [48] by decide +kernel] at h1
      simp at h1
      exact (dig_ne a ha).1 h1.1
    · rw [he] at h1
      simp at h1
      have := dig_inj (m := 0) (by omega) hm' (by rw [← h1.1]; decide +kernel)
      omega
theorem no_E9 (t : List UInt8) : unqL (34 :: 92 :: 117 :: 123 :: 69 :: t) = none := by
  apply unq_none'
  intro x u h
  rcases form_cases x with e | ⟨c, y, rfl, hs, e⟩ | ⟨r, y, hv, rfl, e⟩
  · rw [e] at h; simp at h
  · rw [e] at h
    simp [qX] at h
  · rw [e, List.cons_append, List.append_assoc] at h
    have h1 := qR_u r _ _ (List.cons.inj h).2.symm hv
    have hp := hexL_pos r.toNat
    have hd := hexL_digs r.toNat
    cases hx : hexL r.toNat with
    | nil => rw [hx] at hp; simp at hp
    | cons c s =>
      rw [hx] at h1 hd
      obtain ⟨m, hm, e2⟩ := hd c (by simp)
      simp at h1
      have := dig_val m hm
      rw [← e2, ← h1.1] at this
      simp at this
      split at this <;> omega
theorem no_bytes (t : List UInt8) : unqL (34 :: 92 :: 120 :: 99 :: 51 :: 92 :: 120 :: 97 :: 57 :: t) = none := by
  apply unq_none'
  intro x u h
  rcases form_cases x with e | ⟨c, y, rfl, hs, e⟩ | ⟨r, y, hv, rfl, e⟩
  · rw [e] at h; simp at h
  · rw [e] at h
    simp [qX] at h
    obtain ⟨h1, h2, h3⟩ := h
    have hc := c.toNat_lt
    have g1 := dig_inj (m := 12) (n := c.toNat / 16) (by omega) (by omega) (by rw [← h1]; decide +kernel)
    have g2 := dig_inj (m := 3) (n := c.toNat % 16) (by omega) (by omega) (by rw [← h2]; decide +kernel)
    have hc' : c = 195 := by rw [← UInt8.toNat_inj]; simp; omega
    rcases form_cases y with e' | ⟨d, z, rfl, hs', e'⟩ | ⟨r, z, hv, rfl, e'⟩
    · have e2 : qS y.length y ++ [34] = [34] := (List.cons.inj e').2
      rw [show qS y.length y ++ 34 :: u = (qS y.length y ++ [34]) ++ u by simp, e2] at h3
      simp at h3
    · have e2 := (List.cons.inj e').2
      rw [show ∀ z, qS z.length z ++ 34 :: u = (qS z.length z ++ [34]) ++ u from fun z => by simp, e2] at h3
      simp [qX] at h3
      obtain ⟨h4, h5, _⟩ := h3
      have hd := d.toNat_lt
      have g3 := dig_inj (m := 10) (n := d.toNat / 16) (by omega) (by omega) (by rw [← h4]; decide +kernel)
      have g4 := dig_inj (m := 9) (n := d.toNat % 16) (by omega) (by omega) (by rw [← h5]; decide +kernel)
      have hd' : d = 169 := by rw [← UInt8.toNat_inj]; simp; omega
      have hq := seq_enc 233 (by decide +kernel) z
      rw [enc_e9] at hq
      rw [hc', hd'] at hs
      have hs2 : seq ([195, 169] ++ z) = none := hs
      rw [hq] at hs2
      cases hs2
    · have e2 := (List.cons.inj e').2
      rw [show ∀ z, qS z.length z ++ 34 :: u = (qS z.length z ++ [34]) ++ u from fun z => by simp, e2, List.append_assoc] at h3
      exact qR_no_x r _ _ h3.symm hv
  · rw [e, List.cons_append, List.append_assoc] at h
    exact qR_no_x r _ _ (List.cons.inj h).2.symm hv
theorem no_end (l : List UInt8) : unqL (34 :: qS l.length l) = none := by
  apply unq_none'
  intro x u h
  have h1 : quoteL l ++ [] = quoteL x ++ (u ++ [34]) := by
    rw [List.append_nil, ← List.append_assoc, ← h]; rfl
  have := (quote_uniq h1).2
  simp at this
theorem qS_le : ∀ (f : Nat) (l : List UInt8), (qS f l).length ≤ 10 * l.length
  | 0, l => by simp [qS]
  | f + 1, l => by
    by_cases hl : l = []
    · subst hl; simp [qS]
    cases hs : seq l with
    | none =>
      rw [qS_none (by omega) hl hs, seq_none_len hl hs]
      have := qS_le f (l.drop 1)
      have h0 := List.length_pos_iff.2 hl
      rw [List.length_append, show (qX (l.headD 0)).length = 4 from rfl, Nat.add_sub_cancel]
      rw [List.length_drop] at this
      omega
    | some r =>
      obtain ⟨hv, t, rfl⟩ := seq_some hl hs
      have hr := (valid_iff r).1 hv
      rw [qS_some (by omega) hl hs, List.drop_left]
      have h1 := (encB_len r).1
      have := qS_le f t
      have h2 := qR_le r (by omega)
      rw [List.length_append, List.length_append, Nat.add_sub_cancel]
      omega
theorem qR_ge (r : Int) : (encB r).length ≤ (qR r).length := by
  have h4 : (encB r).length ≤ 4 := (encB_len r).2
  have one : ∀ n : Int, n = 34 ∨ n = 92 ∨ n = 10 ∨ n = 9 → (encB n).length = 1 := fun n hn => by
    rcases hn with rfl | rfl | rfl | rfl <;> decide +kernel
  unfold qR
  split
  · rename_i h; rw [one r (.inl h)]; decide
  · split
    · rename_i h; rw [one r (.inr (.inl h))]; decide
    · split
      · rename_i h; rw [one r (.inr (.inr (.inl h)))]; decide
      · split
        · rename_i h; rw [one r (.inr (.inr (.inr h)))]; decide
        · split
          · exact Nat.le_refl _
          · have := hexL_pos r.toNat
            simp only [List.length_append, List.length_cons, List.length_nil]
            omega
theorem qS_ge : ∀ (f : Nat) (l : List UInt8), l.length ≤ f → l.length ≤ (qS f l).length
  | 0, l, h => by omega
  | f + 1, l, h => by
    by_cases hl : l = []
    · subst hl; exact Nat.zero_le _
    cases hs : seq l with
    | none =>
      rw [qS_none (by omega) hl hs, seq_none_len hl hs]
      have := qS_ge f (l.drop 1) (by rw [List.length_drop]; omega)
      rw [List.length_append, show (qX (l.headD 0)).length = 4 from rfl, Nat.add_sub_cancel]
      rw [List.length_drop] at this
      omega
    | some r =>
      rw [qS_some (by omega) hl hs]
      have h1 := (encB_len r).1
      have := qS_ge f (l.drop (encB r).length) (by rw [List.length_drop]; omega)
      have h2 := qR_ge r
      rw [List.length_append, Nat.add_sub_cancel]
      rw [List.length_drop] at this
      omega
/-- What Unquote reads is no longer than the form. -/
theorem unq_len {l x : List UInt8} {n : Nat} (h : unqL l = some (x, n)) : x.length ≤ l.length := by
  obtain ⟨t, rfl, _⟩ := unq_sound h
  have := qS_ge x.length x (Nat.le_refl _)
  rw [List.length_append, quoteL_len]
  omega
end Go.Proofs.YtkdhomiieenfnaaGreatDoor.U
