/- Plain facts about UTF-8 as the model decodes it, over lists of bytes: what a text is, its first fault, and how encoded runes are read back. No program in sight. What a sequence of bytes is, by the numbers of its bytes: the decoder's answer in the words of the document's reference. -/
import Derived.Laws.RangeAny
import Derived.Laws.Runes
import Derived.Laws.Cover4
namespace Go.Proofs.YtkdhomiieenfnaaDoor.Txt
open Go

/-- The bytes of a rune. -/
def encB (r : Int) : List UInt8 := (Utf8.encode r).data.toList
/-- The bytes of runes, one behind the other. -/
def enc (rs : List Int) : List UInt8 := rs.flatMap encB
/-- The model's decoder over a list of bytes. -/
def decL (l : List UInt8) : Nat × Nat :=
  let at' (k : Nat) : Nat := (l.getD k 0).toNat
  let cont (k : Nat) : Bool := k < l.length && at' k / 64 == 2
  let b0 := at' 0
  if b0 < 0x80 then (b0, 1)
  else if b0 / 32 == 6 && cont 1 then
    let c := (b0 % 32) * 64 + at' 1 % 64
    if c ≥ 0x80 then (c, 2) else (65533, 1)
  else if b0 / 16 == 14 && cont 1 && cont 2 then
    let c := (b0 % 16) * 4096 + (at' 1 % 64) * 64 + at' 2 % 64
    if c ≥ 0x800 && Utf8.valid c then (c, 3) else (65533, 1)
  else if b0 / 8 == 30 && cont 1 && cont 2 && cont 3 then
    let c := (b0 % 8) * 262144 + (at' 1 % 64) * 4096 + (at' 2 % 64) * 64 + at' 3 % 64
    if c ≥ 0x10000 && Utf8.valid c then (c, 4) else (65533, 1)
  else (65533, 1)

theorem get_drop (s : ByteArray) (pos k : Nat) : s.get! (pos + k) = (s.data.toList.drop pos).getD k 0 := by
  show s.data[pos + k]! = _
  rw [List.getD_eq_getElem?_getD, List.getElem?_drop, Array.getElem?_toList]
  by_cases h : pos + k < s.data.size
  · rw [getElem!_pos s.data (pos + k) h, Array.getElem?_eq_getElem h]; rfl
  · rw [getElem!_neg s.data (pos + k) h, Array.getElem?_eq_none (by omega)]; rfl

theorem size_toList (s : ByteArray) : s.data.toList.length = s.size := rfl

theorem dec_eq (s : ByteArray) (pos : Nat) : Utf8.decode s pos = decL (s.data.toList.drop pos) := by
  have hl : ∀ k, (decide (pos + k < s.size)) = decide (k < (s.data.toList.drop pos).length) := by
    intro k
    rw [List.length_drop, size_toList, decide_eq_decide]
    omega
  simp only [Utf8.decode, decL, get_drop, hl, Utf8.runeError]

theorem valid_iff (r : Int) : Utf8.valid r = true ↔ (0 ≤ r ∧ r < 55296) ∨ (57343 < r ∧ r ≤ 1114111) := by
  rw [validRune_eq]; simp [validRune]

/-- A rune's bytes, by its size. -/
theorem encB_cases (r : Int) (h : Utf8.valid r = true) :
    (r < 128 ∧ encB r = [UInt8.ofNat r.toNat]) ∨
    (128 ≤ r ∧ r < 2048 ∧ encB r = [UInt8.ofNat (192 + r.toNat / 64), UInt8.ofNat (128 + r.toNat % 64)]) ∨
    (2048 ≤ r ∧ r < 65536 ∧ encB r = [UInt8.ofNat (224 + r.toNat / 4096), UInt8.ofNat (128 + r.toNat / 64 % 64), UInt8.ofNat (128 + r.toNat % 64)]) ∨
    (65536 ≤ r ∧ r ≤ 1114111 ∧ encB r = [UInt8.ofNat (240 + r.toNat / 262144), UInt8.ofNat (128 + r.toNat / 4096 % 64), UInt8.ofNat (128 + r.toNat / 64 % 64), UInt8.ofNat (128 + r.toNat % 64)]) := by
  have hv := (valid_iff r).1 h
  unfold encB Utf8.encode
  simp only [h, if_true]
  by_cases h1 : r.toNat < 128
  · rw [if_pos h1]; exact .inl ⟨by omega, rfl⟩
  · rw [if_neg h1]
    by_cases h2 : r.toNat < 2048
    · rw [if_pos h2]; exact .inr (.inl ⟨by omega, by omega, rfl⟩)
    · rw [if_neg h2]
      by_cases h3 : r.toNat < 65536
      · rw [if_pos h3]; exact .inr (.inr (.inl ⟨by omega, by omega, rfl⟩))
      · rw [if_neg h3]; exact .inr (.inr (.inr ⟨by omega, by omega, rfl⟩))

theorem ofNat_toNat (n : Nat) (h : n < 256) : (UInt8.ofNat n).toNat = n := by simp [UInt8.toNat_ofNat']; omega

/-- Decoding what was encoded. -/
theorem dec_enc (r : Int) (h : Utf8.valid r = true) (t : List UInt8) : decL (encB r ++ t) = (r.toNat, (encB r).length) := by
  have hv := (valid_iff r).1 h
  rcases encB_cases r h with ⟨h1, e⟩ | ⟨h1, h2, e⟩ | ⟨h1, h2, e⟩ | ⟨h1, h2, e⟩
  · rw [e]
    have b0 := ofNat_toNat r.toNat (by omega)
    simp only [decL, List.cons_append, List.nil_append, List.getD_cons_zero, b0, List.length_cons, List.length_nil]
    rw [if_pos (by omega)]
  · rw [e]
    have b0 := ofNat_toNat (192 + r.toNat / 64) (by omega)
    have b1 := ofNat_toNat (128 + r.toNat % 64) (by omega)
    simp only [decL, List.cons_append, List.nil_append, List.getD_cons_zero, List.getD_cons_succ, b0, b1, List.length_cons, List.length_nil]
    rw [if_neg (by omega), if_pos (by simp; omega), if_pos (by omega)]
    congr 1; omega
  · rw [e]
    have b0 := ofNat_toNat (224 + r.toNat / 4096) (by omega)
    have b1 := ofNat_toNat (128 + r.toNat / 64 % 64) (by omega)
    have b2 := ofNat_toNat (128 + r.toNat % 64) (by omega)
    have ec : (224 + r.toNat / 4096) % 16 * 4096 + (128 + r.toNat / 64 % 64) % 64 * 64 + (128 + r.toNat % 64) % 64 = r.toNat := by omega
    simp only [decL, List.cons_append, List.nil_append, List.getD_cons_zero, List.getD_cons_succ, b0, b1, b2, List.length_cons, List.length_nil, ec]
    have er : ((r.toNat : Nat) : Int) = r := by omega
    rw [if_neg (by omega), if_neg (by simp; omega), if_pos (by simp; omega), if_pos (by rw [er, h]; simp; omega)]
  · rw [e]
    have b0 := ofNat_toNat (240 + r.toNat / 262144) (by omega)
    have b1 := ofNat_toNat (128 + r.toNat / 4096 % 64) (by omega)
    have b2 := ofNat_toNat (128 + r.toNat / 64 % 64) (by omega)
    have b3 := ofNat_toNat (128 + r.toNat % 64) (by omega)
    have ec : (240 + r.toNat / 262144) % 8 * 262144 + (128 + r.toNat / 4096 % 64) % 64 * 4096 + (128 + r.toNat / 64 % 64) % 64 * 64 + (128 + r.toNat % 64) % 64 = r.toNat := by omega
    simp only [decL, List.cons_append, List.nil_append, List.getD_cons_zero, List.getD_cons_succ, b0, b1, b2, b3, List.length_cons, List.length_nil, ec]
    have er : ((r.toNat : Nat) : Int) = r := by omega
    rw [if_neg (by omega), if_neg (by simp; omega), if_neg (by simp; omega), if_pos (by simp; omega), if_pos (by rw [er, h]; simp; omega)]

theorem encB_len (r : Int) : 1 ≤ (encB r).length ∧ (encB r).length ≤ 4 := by
  unfold encB Utf8.encode
  simp only
  repeat' split
  all_goals simp

theorem u8_eq (b : UInt8) (n : Nat) (h : n = b.toNat) : UInt8.ofNat n = b := by subst h; simp

/-- What was decoded well is what was encoded. -/
theorem dec_other (l : List UInt8) (hl : l ≠ []) (hg : (decL l).1 ≠ 65533) : Utf8.valid (decL l).1 = true ∧ l = encB (decL l).1 ++ l.drop (decL l).2 ∧ (decL l).2 = (encB (decL l).1).length := by
  suffices H : ∀ c w, decL l = (c, w) → c ≠ 65533 → Utf8.valid c = true ∧ l = encB c ++ l.drop w ∧ w = (encB c).length from H _ _ rfl hg
  clear hg
  intro c w h hc
  rcases l with _ | ⟨b0, l⟩
  · exact absurd rfl hl
  have r0 := b0.toNat_lt
  simp only [decL, List.getD_cons_zero, List.getD_cons_succ] at h
  split at h
  · rename_i h0
    obtain ⟨rfl, rfl⟩ := Prod.mk.inj h
    have hv : Utf8.valid (b0.toNat : Int) = true := (valid_iff _).2 (by omega)
    rcases encB_cases _ hv with ⟨_, e⟩ | ⟨h1, _⟩ | ⟨h1, _⟩ | ⟨h1, _⟩
    · rw [e]; exact ⟨hv, by simp, rfl⟩
    all_goals omega
  · rename_i h0
    split at h
    · rename_i h1
      rcases l with _ | ⟨b1, l⟩
      · simp at h1
      have r1 := b1.toNat_lt
      simp only [List.getD_cons_zero, Bool.and_eq_true, beq_iff_eq, decide_eq_true_eq] at h h1
      split at h
      · rename_i h2
        obtain ⟨rfl, rfl⟩ := Prod.mk.inj h
        have hv : Utf8.valid ((b0.toNat % 32 * 64 + b1.toNat % 64 : Nat) : Int) = true := (valid_iff _).2 (by omega)
        rcases encB_cases _ hv with ⟨h1, e⟩ | ⟨_, _, e⟩ | ⟨h1, _⟩ | ⟨h1, _⟩
        · omega
        · rw [e, Int.toNat_natCast]
          refine ⟨hv, ?_, rfl⟩
          rw [u8_eq b0 _ (by omega), u8_eq b1 _ (by omega)]; rfl
        all_goals omega
      · obtain ⟨rfl, _⟩ := Prod.mk.inj h; exact absurd rfl hc
    · split at h
      · rename_i h1
        rcases l with _ | ⟨b1, _ | ⟨b2, l⟩⟩
        · simp at h1
        · simp at h1
        have r1 := b1.toNat_lt
        have r2 := b2.toNat_lt
        simp only [List.getD_cons_zero, List.getD_cons_succ, Bool.and_eq_true, beq_iff_eq, decide_eq_true_eq] at h h1
        split at h
        · rename_i h2
          obtain ⟨rfl, rfl⟩ := Prod.mk.inj h
          obtain ⟨h2, hv⟩ := h2
          have hv' := (valid_iff _).1 hv
          rcases encB_cases _ hv with ⟨h1, e⟩ | ⟨_, h1, e⟩ | ⟨_, _, e⟩ | ⟨h1, _⟩
          · omega
          · omega
          · rw [e, Int.toNat_natCast]
            refine ⟨hv, ?_, rfl⟩
            rw [u8_eq b0 _ (by omega), u8_eq b1 _ (by omega), u8_eq b2 _ (by omega)]; rfl
          · omega
        · obtain ⟨rfl, _⟩ := Prod.mk.inj h; exact absurd rfl hc
      · split at h
        · rename_i h1
          rcases l with _ | ⟨b1, _ | ⟨b2, _ | ⟨b3, l⟩⟩⟩
          · simp at h1
          · simp at h1
          · simp at h1
          have r1 := b1.toNat_lt
          have r2 := b2.toNat_lt
          have r3 := b3.toNat_lt
          simp only [List.getD_cons_zero, List.getD_cons_succ, Bool.and_eq_true, beq_iff_eq, decide_eq_true_eq] at h h1
          split at h
          · rename_i h2
            obtain ⟨rfl, rfl⟩ := Prod.mk.inj h
            obtain ⟨h2, hv⟩ := h2
            have hv' := (valid_iff _).1 hv
            rcases encB_cases _ hv with ⟨h1, e⟩ | ⟨_, h1, e⟩ | ⟨_, h1, e⟩ | ⟨_, _, e⟩
            · omega
            · omega
            · omega
            · rw [e, Int.toNat_natCast]
              refine ⟨hv, ?_, rfl⟩
              rw [u8_eq b0 _ (by omega), u8_eq b1 _ (by omega), u8_eq b2 _ (by omega), u8_eq b3 _ (by omega)]; rfl
          · obtain ⟨rfl, _⟩ := Prod.mk.inj h; exact absurd rfl hc
        · obtain ⟨rfl, _⟩ := Prod.mk.inj h; exact absurd rfl hc

theorem valid_fffd : Utf8.valid 65533 = true := rfl
theorem encB_fffd : encB 65533 = [239, 191, 189] := by decide +kernel

/-- Does a sequence begin here? Its rune. -/
def seq (l : List UInt8) : Option Int := if (decL l).1 ≠ 65533 ∨ [239, 191, 189] <+: l then some (decL l).1 else none

theorem seq_some {l : List UInt8} (hl : l ≠ []) {r : Int} (h : seq l = some r) : Utf8.valid r = true ∧ ∃ t, l = encB r ++ t := by
  unfold seq at h
  split at h
  · rename_i hg
    obtain rfl := Option.some.inj h
    rcases hg with hg | ⟨t, rfl⟩
    · obtain ⟨a, b, _⟩ := dec_other l hl hg
      exact ⟨a, _, b⟩
    · have e := dec_enc 65533 valid_fffd t
      rw [encB_fffd] at e
      rw [e]
      exact ⟨valid_fffd, t, by rw [show ((Int.toNat 65533 : Nat) : Int) = 65533 from rfl, encB_fffd]⟩
  · cases h

theorem seq_enc (r : Int) (h : Utf8.valid r = true) (t : List UInt8) : seq (encB r ++ t) = some r := by
  have hv := (valid_iff r).1 h
  unfold seq
  rw [dec_enc r h t]
  have er : ((r.toNat : Nat) : Int) = r := by omega
  by_cases e : r = 65533
  · subst e
    rw [if_pos (.inr (by rw [encB_fffd]; exact ⟨t, rfl⟩))]; rfl
  · rw [if_pos (.inl (by show r.toNat ≠ 65533; omega)), er]

theorem seq_width {l : List UInt8} (hl : l ≠ []) {r : Int} (h : seq l = some r) : decL l = (r.toNat, (encB r).length) := by
  obtain ⟨hv, t, e⟩ := seq_some hl h
  rw [e]; exact dec_enc r hv t

/-! ### Texts -/

/-- Is the rune let in? -/
def letInB (c : Int) : Bool := !(decide (0 ≤ c ∧ c ≤ 8) || decide (11 ≤ c ∧ c ≤ 31) || decide (127 ≤ c ∧ c ≤ 159) || decide (64976 ≤ c ∧ c ≤ 65007) || decide (65279 ≤ c ∧ c ≤ 65279)) && decide (c % 65536 < 65534)
/-- A rune of a text. -/
def TxtRune (r : Int) : Prop := Utf8.valid r = true ∧ letInB r = true
/-- Check's answer on bytes: runes, place, error. -/
def chkF : Nat → List UInt8 → Nat → Nat → Nat × Nat × Nat
  | 0, _, n, _ => (n, 0, 0)
  | f + 1, l, n, p =>
    if l = [] then (n, 0, 0) else
      match seq l with
      | none => (0, p, 10)
      | some r => if letInB r = true then chkF f (l.drop (encB r).length) (n + 1) (p + (encB r).length) else (0, p, 11)
def chk (l : List UInt8) : Nat × Nat × Nat := chkF l.length l 0 0

theorem enc_nil : enc [] = [] := rfl
theorem enc_cons (r : Int) (rs : List Int) : enc (r :: rs) = encB r ++ enc rs := rfl
theorem enc_append (a b : List Int) : enc (a ++ b) = enc a ++ enc b := by simp [enc]
theorem encB_ne (r : Int) (t : List UInt8) : encB r ++ t ≠ [] := by
  intro h
  have := (encB_len r).1
  have := congrArg List.length h
  simp at this
  simp_all
theorem enc_len_ge (rs : List Int) : rs.length ≤ (enc rs).length := by
  induction rs with
  | nil => simp
  | cons r rs ih => rw [enc_cons, List.length_append, List.length_cons]; have := (encB_len r).1; omega
theorem enc_len_le (rs : List Int) : (enc rs).length ≤ 4 * rs.length := by
  induction rs with
  | nil => simp [enc]
  | cons r rs ih => rw [enc_cons, List.length_append, List.length_cons]; have := (encB_len r).2; omega

theorem chkF_fuel : ∀ (f f' : Nat) (l : List UInt8) (n p : Nat), l.length ≤ f → l.length ≤ f' → chkF f l n p = chkF f' l n p := by
  intro f
  induction f with
  | zero =>
    intro f' l n p h _
    have : l = [] := by cases l; rfl; simp at h
    subst this
    cases f' <;> simp [chkF]
  | succ f ih =>
    intro f' l n p h h'
    by_cases e : l = []
    · subst e; cases f' <;> simp [chkF]
    · cases f' with
      | zero => exact absurd (List.length_eq_zero_iff.1 (by omega)) e
      | succ f' =>
        simp only [chkF]
        rw [if_neg e, if_neg e]
        cases hs : seq l with
        | none => rfl
        | some r =>
          simp only []
          by_cases hl : letInB r = true
          · rw [if_pos hl, if_pos hl]
            have := (encB_len r).1
            exact ih f' _ _ _ (by rw [List.length_drop]; omega) (by rw [List.length_drop]; omega)
          · rw [if_neg hl, if_neg hl]

theorem chkF_enc (rs : List Int) (hg : ∀ r ∈ rs, TxtRune r) : ∀ (f : Nat) (t : List UInt8) (n p : Nat), (enc rs ++ t).length ≤ f → chkF f (enc rs ++ t) n p = chkF f t (n + rs.length) (p + (enc rs).length) := by
  induction rs with
  | nil => intro f t n p _; simp [enc]
  | cons r rs ih =>
    intro f t n p hf
    have h1 := hg r (by simp)
    rw [enc_cons, List.append_assoc] at hf ⊢
    have hl := (encB_len r).1
    rw [List.length_append] at hf
    cases f with
    | zero => omega
    | succ f =>
      rw [chkF, if_neg (encB_ne _ _), seq_enc r h1.1]
      simp only []
      rw [if_pos h1.2, List.drop_left, ih (fun x hx => hg x (by simp [hx])) f t _ _ (by omega)]
      rw [chkF_fuel f (f + 1) t _ _ (by rw [List.length_append] at hf; omega) (by rw [List.length_append] at hf; omega), List.length_cons, List.length_append]
      congr 1 <;> omega

/-- Every string is a text, or one and its first fault. -/
theorem split_text : ∀ (m : Nat) (l : List UInt8), l.length ≤ m → ∃ rs t, (∀ r ∈ rs, TxtRune r) ∧ l = enc rs ++ t ∧ (t = [] ∨ t ≠ [] ∧ (seq t = none ∨ ∃ r, seq t = some r ∧ letInB r = false)) := by
  intro m
  induction m with
  | zero =>
    intro l h
    have : l = [] := by cases l; rfl; simp at h
    exact ⟨[], [], by simp, by simp [this, enc], .inl rfl⟩
  | succ m ih =>
    intro l h
    by_cases e : l = []
    · exact ⟨[], [], by simp, by simp [e, enc], .inl rfl⟩
    · cases hs : seq l with
      | none => exact ⟨[], l, by simp, rfl, .inr ⟨e, .inl hs⟩⟩
      | some r =>
        by_cases hl : letInB r = true
        · obtain ⟨hv, t, rfl⟩ := seq_some e hs
          have := (encB_len r).1
          rw [List.length_append] at h
          obtain ⟨rs, t', h1, h2, h3⟩ := ih t (by omega)
          refine ⟨r :: rs, t', ?_, by rw [enc_cons, List.append_assoc, ← h2], h3⟩
          intro x hx
          rcases List.mem_cons.1 hx with rfl | hx
          · exact ⟨hv, hl⟩
          · exact h1 x hx
        · exact ⟨[], l, by simp, rfl, .inr ⟨e, .inr ⟨r, hs, by simpa using hl⟩⟩⟩

/-- The first fault's error. -/
def fault (t : List UInt8) : Nat := if (seq t).isNone then 10 else 11

theorem chk_text (rs : List Int) (hg : ∀ r ∈ rs, TxtRune r) : chk (enc rs) = (rs.length, 0, 0) := by
  have := chkF_enc rs hg (enc rs).length [] 0 0 (by simp)
  rw [List.append_nil] at this
  unfold chk
  rw [this]
  cases (enc rs).length <;> simp [chkF]

theorem chk_fault (rs : List Int) (hg : ∀ r ∈ rs, TxtRune r) (t : List UInt8) (ht : t ≠ []) (hf : seq t = none ∨ ∃ r, seq t = some r ∧ letInB r = false) : chk (enc rs ++ t) = (0, (enc rs).length, fault t) := by
  unfold chk
  rw [chkF_enc rs hg _ t 0 0 (Nat.le_refl _)]
  have hl : 0 < (enc rs ++ t).length := by rw [List.length_append]; have := List.length_pos_iff.2 ht; omega
  obtain ⟨f, hf'⟩ : ∃ f, (enc rs ++ t).length = f + 1 := ⟨_, (Nat.sub_add_cancel hl).symm⟩
  rw [hf', chkF, if_neg ht]
  rcases hf with h | ⟨r, h, hr⟩
  · simp [h, fault]
  · simp [h, hr, fault]

/-! ### Places -/

/-- The byte at which rune number k begins. -/
def psz (rs : List Int) (k : Nat) : Nat := (enc (rs.take k)).length
theorem psz_zero (rs : List Int) : psz rs 0 = 0 := by simp [psz, enc]
theorem psz_all (rs : List Int) : psz rs rs.length = (enc rs).length := by simp [psz]
theorem enc_split (rs : List Int) (k : Nat) : enc rs = enc (rs.take k) ++ enc (rs.drop k) := by rw [← enc_append, List.take_append_drop]
theorem enc_drop (rs : List Int) (k : Nat) : (enc rs).drop (psz rs k) = enc (rs.drop k) := by
  conv => lhs; rw [enc_split rs k]
  exact List.drop_left
theorem enc_take (rs : List Int) (k : Nat) : (enc rs).take (psz rs k) = enc (rs.take k) := by
  conv => lhs; rw [enc_split rs k]
  exact List.take_left
theorem psz_succ (rs : List Int) (k : Nat) (h : k < rs.length) : psz rs (k + 1) = psz rs k + (encB (rs.getD k 0)).length := by
  unfold psz
  rw [List.take_add_one, List.getElem?_eq_getElem h, enc_append, List.length_append]
  simp [enc, List.getD, h]
theorem psz_le (rs : List Int) (k : Nat) : psz rs k ≤ (enc rs).length := by
  conv => rhs; rw [enc_split rs k, List.length_append]
  exact Nat.le_add_right _ _
theorem psz_lt (rs : List Int) (k : Nat) (h : k < rs.length) : psz rs k < (enc rs).length := by
  have := psz_le rs (k + 1)
  rw [psz_succ rs k h] at this
  have := (encB_len (rs.getD k 0)).1
  omega
theorem psz_mono (rs : List Int) : ∀ (j k : Nat), j < k → k ≤ rs.length → psz rs j < psz rs k := by
  intro j k h hk
  induction k with
  | zero => omega
  | succ k ih =>
    rw [psz_succ rs k (by omega)]
    have := (encB_len (rs.getD k 0)).1
    by_cases e : j = k
    · subst e; omega
    · have := ih (by omega) (by omega); omega
/-- What the decoder gives at a rune of a text. -/
theorem dec_psz (rs : List Int) (hg : ∀ r ∈ rs, TxtRune r) (k : Nat) (h : k < rs.length) : decL ((enc rs).drop (psz rs k)) = ((rs.getD k 0).toNat, (encB (rs.getD k 0)).length) := by
  rw [enc_drop, List.drop_eq_getElem_cons h, enc_cons]
  have : rs.getD k 0 = rs[k] := by simp [List.getD, h]
  rw [this]
  exact dec_enc _ (hg _ (List.getElem_mem h)).1 _
theorem getD_nonneg (rs : List Int) (hg : ∀ r ∈ rs, TxtRune r) (k : Nat) (h : k < rs.length) : (((rs.getD k 0).toNat : Nat) : Int) = rs.getD k 0 := by
  have : rs.getD k 0 = rs[k] := by simp [List.getD, h]
  rw [this]
  have := (valid_iff _).1 (hg _ (List.getElem_mem h)).1
  omega

end Go.Proofs.YtkdhomiieenfnaaDoor.Txt

namespace Go.Proofs.YtkdhomiieenfnaaDoor.Txt
open Go
set_option linter.unusedVariables false

/-- The number of byte k. -/
def bAt (l : List UInt8) (k : Nat) : Nat := (l.getD k 0).toNat
theorem bAt_lt (l : List UInt8) (k : Nat) : bAt l k < 256 := UInt8.toNat_lt _
/-- Is byte k there, and does it go on with a sequence? -/
def goesOn (l : List UInt8) (k : Nat) : Prop := k < l.length ∧ bAt l k / 64 = 2
instance (l : List UInt8) (k : Nat) : Decidable (goesOn l k) := by unfold goesOn; infer_instance
def r2 (l : List UInt8) : Nat := bAt l 0 % 32 * 64 + bAt l 1 % 64
def r3 (l : List UInt8) : Nat := (bAt l 0 % 16 * 64 + bAt l 1 % 64) * 64 + bAt l 2 % 64
def r4 (l : List UInt8) : Nat := ((bAt l 0 % 8 * 64 + bAt l 1 % 64) * 64 + bAt l 2 % 64) * 64 + bAt l 3 % 64
/-- A number that a sequence may be of. -/
def runeOk (least r : Nat) : Prop := least ≤ r ∧ r ≤ 1114111 ∧ ¬ (55296 ≤ r ∧ r ≤ 57343)
instance (a r : Nat) : Decidable (runeOk a r) := by unfold runeOk; infer_instance
theorem pre_iff (l : List UInt8) : [239, 191, 189] <+: l ↔ 2 < l.length ∧ bAt l 0 = 239 ∧ bAt l 1 = 191 ∧ bAt l 2 = 189 := by
  constructor
  · rintro ⟨t, rfl⟩
    simp [bAt]
  · rintro ⟨h, h0, h1, h2⟩
    match l, h with
    | a :: b :: c :: t, _ =>
      simp only [bAt, List.getD_cons_zero, List.getD_cons_succ] at h0 h1 h2
      have e0 : a = 239 := UInt8.toNat.inj h0
      have e1 : b = 191 := UInt8.toNat.inj h1
      have e2 : c = 189 := UInt8.toNat.inj h2
      subst e0 e1 e2
      exact ⟨t, rfl⟩
theorem valid_nat (n : Nat) : Utf8.valid (n : Int) = true ↔ n < 55296 ∨ (57343 < n ∧ n ≤ 1114111) := by rw [valid_iff]; omega
theorem decL_form (l : List UInt8) : decL l =
    if bAt l 0 < 128 then (bAt l 0, 1)
    else if bAt l 0 / 32 = 6 ∧ goesOn l 1 then (if 128 ≤ r2 l then (r2 l, 2) else (65533, 1))
    else if bAt l 0 / 16 = 14 ∧ goesOn l 1 ∧ goesOn l 2 then (if 2048 ≤ r3 l ∧ Utf8.valid (r3 l) = true then (r3 l, 3) else (65533, 1))
    else if bAt l 0 / 8 = 30 ∧ goesOn l 1 ∧ goesOn l 2 ∧ goesOn l 3 then (if 65536 ≤ r4 l ∧ Utf8.valid (r4 l) = true then (r4 l, 4) else (65533, 1))
    else (65533, 1) := by
  have e3 : r3 l = bAt l 0 % 16 * 4096 + bAt l 1 % 64 * 64 + bAt l 2 % 64 := by unfold r3; omega
  have e4 : r4 l = bAt l 0 % 8 * 262144 + bAt l 1 % 64 * 4096 + bAt l 2 % 64 * 64 + bAt l 3 % 64 := by unfold r4; omega
  rw [e3, e4]
  unfold decL goesOn r2 bAt
  simp only [Bool.and_eq_true, beq_iff_eq, decide_eq_true_eq, ge_iff_le, and_assoc]
/-- The rune of the sequence that begins here, by the document's words. -/
def seqR (l : List UInt8) : Option Nat :=
  if bAt l 0 < 128 then some (bAt l 0)
  else if bAt l 0 / 32 = 6 then (if goesOn l 1 ∧ runeOk 128 (r2 l) then some (r2 l) else none)
  else if bAt l 0 / 16 = 14 then (if goesOn l 1 ∧ goesOn l 2 ∧ runeOk 2048 (r3 l) then some (r3 l) else none)
  else if bAt l 0 / 8 = 30 then (if goesOn l 1 ∧ goesOn l 2 ∧ goesOn l 3 ∧ runeOk 65536 (r4 l) then some (r4 l) else none)
  else none
theorem seq_ref (l : List UInt8) (hl : l ≠ []) : seq l = (seqR l).map Int.ofNat := by
  have b0 := bAt_lt l 0
  have b1 := bAt_lt l 1
  have b2 := bAt_lt l 2
  have b3 := bAt_lt l 3
  have hd : seq l = if (decL l).1 ≠ 65533 ∨ (2 < l.length ∧ bAt l 0 = 239 ∧ bAt l 1 = 191 ∧ bAt l 2 = 189) then some ((decL l).1 : Int) else none := by
    unfold seq
    simp only [pre_iff]
  have yes : ∀ c k, decL l = (c, k) → c ≠ 65533 ∨ (2 < l.length ∧ bAt l 0 = 239 ∧ bAt l 1 = 191 ∧ bAt l 2 = 189) → seq l = some (c : Int) := fun c k h hc => by
    rw [hd, h, if_pos hc]
  have no : ∀ k, decL l = (65533, k) → ¬ (2 < l.length ∧ bAt l 0 = 239 ∧ bAt l 1 = 191 ∧ bAt l 2 = 189) → seq l = none := fun k h hp => by
    rw [hd, h, if_neg (by rintro (h1 | h1); exact h1 rfl; exact hp h1)]
  have e := decL_form l
  unfold seqR
  by_cases h0 : bAt l 0 < 128
  · rw [if_pos h0] at e ⊢
    rw [yes _ _ e (.inl (by omega))]; rfl
  · rw [if_neg h0] at e ⊢
    by_cases h2 : bAt l 0 / 32 = 6
    · have hp : ¬ (2 < l.length ∧ bAt l 0 = 239 ∧ bAt l 1 = 191 ∧ bAt l 2 = 189) := by rintro ⟨_, a, _⟩; rw [a] at h2; exact absurd h2 (by decide)
      rw [if_pos h2]
      by_cases g1 : goesOn l 1
      · have hr : r2 l < 2048 := by unfold r2; omega
        rw [if_pos ⟨h2, g1⟩] at e
        by_cases hk : 128 ≤ r2 l
        · rw [if_pos hk] at e
          rw [yes _ _ e (.inl (by omega)), if_pos ⟨g1, hk, by omega, by omega⟩]; rfl
        · rw [if_neg hk] at e
          rw [no _ e hp, if_neg (fun h => hk h.2.1)]; rfl
      · rw [if_neg (fun h => g1 h.2), if_neg (by omega), if_neg (by omega)] at e
        rw [no _ e hp, if_neg (fun h => g1 h.1)]; rfl
    · rw [if_neg (fun h => h2 h.1)] at e
      rw [if_neg h2]
      by_cases h3 : bAt l 0 / 16 = 14
      · rw [if_pos h3]
        by_cases g : goesOn l 1 ∧ goesOn l 2
        · rw [if_pos ⟨h3, g⟩] at e
          have hv := valid_nat (r3 l)
          have hb : r3 l < 65536 := by unfold r3; omega
          by_cases hk : 2048 ≤ r3 l ∧ Utf8.valid (r3 l) = true
          · have hk2 := hv.1 hk.2
            rw [if_pos hk] at e
            rw [if_pos ⟨g.1, g.2, hk.1, by omega, by omega⟩]
            by_cases hf : r3 l = 65533
            · have hq : 2 < l.length ∧ bAt l 0 = 239 ∧ bAt l 1 = 191 ∧ bAt l 2 = 189 := by
                have k1 := g.1.2
                have k2 := g.2.2
                unfold r3 at hf
                exact ⟨g.2.1, by omega, by omega, by omega⟩
              rw [yes _ _ e (.inr hq)]; rfl
            · rw [yes _ _ e (.inl hf)]; rfl
          · have hn : ¬ runeOk 2048 (r3 l) := fun h => hk ⟨h.1, hv.2 (by have := h.2; omega)⟩
            have hp : ¬ (2 < l.length ∧ bAt l 0 = 239 ∧ bAt l 1 = 191 ∧ bAt l 2 = 189) := by
              rintro ⟨_, a, b, c⟩
              have : r3 l = 65533 := by unfold r3; rw [a, b, c]
              exact hn (by rw [this]; decide)
            rw [if_neg hk] at e
            rw [no _ e hp, if_neg (fun h => hn h.2.2)]; rfl
        · have hp : ¬ (2 < l.length ∧ bAt l 0 = 239 ∧ bAt l 1 = 191 ∧ bAt l 2 = 189) := by
            rintro ⟨a, _, b, c⟩
            exact g ⟨⟨by omega, by rw [b]⟩, ⟨a, by rw [c]⟩⟩
          rw [if_neg (fun h => g h.2), if_neg (by omega)] at e
          rw [no _ e hp, if_neg (fun h => g ⟨h.1, h.2.1⟩)]; rfl
      · rw [if_neg (fun h => h3 h.1)] at e
        rw [if_neg h3]
        have hp : ¬ (2 < l.length ∧ bAt l 0 = 239 ∧ bAt l 1 = 191 ∧ bAt l 2 = 189) := by
          rintro ⟨_, a, _⟩
          rw [a] at h3
          exact h3 rfl
        by_cases h4 : bAt l 0 / 8 = 30
        · rw [if_pos h4]
          by_cases g : goesOn l 1 ∧ goesOn l 2 ∧ goesOn l 3
          · rw [if_pos ⟨h4, g⟩] at e
            have hv := valid_nat (r4 l)
            by_cases hk : 65536 ≤ r4 l ∧ Utf8.valid (r4 l) = true
            · have hk2 := hv.1 hk.2
              rw [if_pos hk] at e
              rw [yes _ _ e (.inl (by omega)), if_pos ⟨g.1, g.2.1, g.2.2, hk.1, by omega, by omega⟩]; rfl
            · have hn : ¬ runeOk 65536 (r4 l) := fun h => hk ⟨h.1, hv.2 (by have := h.2; omega)⟩
              rw [if_neg hk] at e
              rw [no _ e hp, if_neg (fun h => hn h.2.2.2)]; rfl
          · rw [if_neg (fun h => g h.2)] at e
            rw [no _ e hp, if_neg (fun h => g ⟨h.1, h.2.1, h.2.2.1⟩)]; rfl
        · rw [if_neg (fun h => h4 h.1)] at e
          rw [no _ e hp, if_neg h4]; rfl
end Go.Proofs.YtkdhomiieenfnaaDoor.Txt
