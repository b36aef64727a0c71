/- Plain facts about UTF-8 as the model decodes it, over lists of bytes: what a text is, its first fault, and how encoded runes are read back. No program in sight. Walks: utext.letIn, utext.begins, utext.Check: what they answer, for every string, in every world that holds the table bars. -/
import Derived.Laws.RangeAny
import Derived.Laws.Runes
import Derived.Laws.Cover4
import Derived.Test.YtkdhomiieenfnaaGreatDoorProg
import Derived.WalkKit
import Derived.WalkSpells
import Derived.WalkLawsBesides
import Derived.Outline
import Derived.KernelRfl
import Derived.Lib.Hide
import Derived.Lib.OthersKept
import Derived.WalkSmall
namespace Go.Proofs.YtkdhomiieenfnaaGreatDoor.Txt
open Go

/-- The bytes of a rune. -/
def encB (r : Int) : List UInt8 := (Utf8.encode r).data.toList
/-- The bytes of runes, one behind the other. -/
def enc (rs : List Int) : List UInt8 := rs.flatMap encB
/-- The model's decoder over a list of bytes. -/
def decL (l : List UInt8) : Nat × Nat :=
  let at' (k : Nat) : Nat := (l.getD k 0).toNat
  let cont (k : Nat) : Bool := k < l.length && at' k / 64 == 2
  let b0 := at' 0
  if b0 < 0x80 then (b0, 1)
  else if b0 / 32 == 6 && cont 1 then
    let c := (b0 % 32) * 64 + at' 1 % 64
    if c ≥ 0x80 then (c, 2) else (65533, 1)
  else if b0 / 16 == 14 && cont 1 && cont 2 then
    let c := (b0 % 16) * 4096 + (at' 1 % 64) * 64 + at' 2 % 64
    if c ≥ 0x800 && Utf8.valid c then (c, 3) else (65533, 1)
  else if b0 / 8 == 30 && cont 1 && cont 2 && cont 3 then
    let c := (b0 % 8) * 262144 + (at' 1 % 64) * 4096 + (at' 2 % 64) * 64 + at' 3 % 64
    if c ≥ 0x10000 && Utf8.valid c then (c, 4) else (65533, 1)
  else (65533, 1)

theorem get_drop (s : ByteArray) (pos k : Nat) : s.get! (pos + k) = (s.data.toList.drop pos).getD k 0 := by
  show s.data[pos + k]! = _
  rw [List.getD_eq_getElem?_getD, List.getElem?_drop, Array.getElem?_toList]
  by_cases h : pos + k < s.data.size
  · rw [getElem!_pos s.data (pos + k) h, Array.getElem?_eq_getElem h]; rfl
  · rw [getElem!_neg s.data (pos + k) h, Array.getElem?_eq_none (by omega)]; rfl

theorem size_toList (s : ByteArray) : s.data.toList.length = s.size := rfl

theorem dec_eq (s : ByteArray) (pos : Nat) : Utf8.decode s pos = decL (s.data.toList.drop pos) := by
  have hl : ∀ k, (decide (pos + k < s.size)) = decide (k < (s.data.toList.drop pos).length) := by
    intro k
    rw [List.length_drop, size_toList, decide_eq_decide]
    omega
  simp only [Utf8.decode, decL, get_drop, hl, Utf8.runeError]

theorem valid_iff (r : Int) : Utf8.valid r = true ↔ (0 ≤ r ∧ r < 55296) ∨ (57343 < r ∧ r ≤ 1114111) := by
  rw [validRune_eq]; simp [validRune]

/-- A rune's bytes, by its size. -/
theorem encB_cases (r : Int) (h : Utf8.valid r = true) :
    (r < 128 ∧ encB r = [UInt8.ofNat r.toNat]) ∨
    (128 ≤ r ∧ r < 2048 ∧ encB r = [UInt8.ofNat (192 + r.toNat / 64), UInt8.ofNat (128 + r.toNat % 64)]) ∨
    (2048 ≤ r ∧ r < 65536 ∧ encB r = [UInt8.ofNat (224 + r.toNat / 4096), UInt8.ofNat (128 + r.toNat / 64 % 64), UInt8.ofNat (128 + r.toNat % 64)]) ∨
    (65536 ≤ r ∧ r ≤ 1114111 ∧ encB r = [UInt8.ofNat (240 + r.toNat / 262144), UInt8.ofNat (128 + r.toNat / 4096 % 64), UInt8.ofNat (128 + r.toNat / 64 % 64), UInt8.ofNat (128 + r.toNat % 64)]) := by
  have hv := (valid_iff r).1 h
  unfold encB Utf8.encode
  simp only [h, if_true]
  by_cases h1 : r.toNat < 128
  · rw [if_pos h1]; exact .inl ⟨by omega, rfl⟩
  · rw [if_neg h1]
    by_cases h2 : r.toNat < 2048
    · rw [if_pos h2]; exact .inr (.inl ⟨by omega, by omega, rfl⟩)
    · rw [if_neg h2]
      by_cases h3 : r.toNat < 65536
      · rw [if_pos h3]; exact .inr (.inr (.inl ⟨by omega, by omega, rfl⟩))
      · rw [if_neg h3]; exact .inr (.inr (.inr ⟨by omega, by omega, rfl⟩))

theorem ofNat_toNat (n : Nat) (h : n < 256) : (UInt8.ofNat n).toNat = n := by simp [UInt8.toNat_ofNat']; omega

/-- Decoding what was encoded. -/
theorem dec_enc (r : Int) (h : Utf8.valid r = true) (t : List UInt8) : decL (encB r ++ t) = (r.toNat, (encB r).length) := by
  have hv := (valid_iff r).1 h
  rcases encB_cases r h with ⟨h1, e⟩ | ⟨h1, h2, e⟩ | ⟨h1, h2, e⟩ | ⟨h1, h2, e⟩
  · rw [e]
    have b0 := ofNat_toNat r.toNat (by omega)
    simp only [decL, List.cons_append, List.nil_append, List.getD_cons_zero, b0, List.length_cons, List.length_nil]
    rw [if_pos (by omega)]
  · rw [e]
    have b0 := ofNat_toNat (192 + r.toNat / 64) (by omega)
    have b1 := ofNat_toNat (128 + r.toNat % 64) (by omega)
    simp only [decL, List.cons_append, List.nil_append, List.getD_cons_zero, List.getD_cons_succ, b0, b1, List.length_cons, List.length_nil]
    rw [if_neg (by omega), if_pos (by simp; omega), if_pos (by omega)]
    congr 1; omega
  · rw [e]
    have b0 := ofNat_toNat (224 + r.toNat / 4096) (by omega)
    have b1 := ofNat_toNat (128 + r.toNat / 64 % 64) (by omega)
    have b2 := ofNat_toNat (128 + r.toNat % 64) (by omega)
    have ec : (224 + r.toNat / 4096) % 16 * 4096 + (128 + r.toNat / 64 % 64) % 64 * 64 + (128 + r.toNat % 64) % 64 = r.toNat := by omega
    simp only [decL, List.cons_append, List.nil_append, List.getD_cons_zero, List.getD_cons_succ, b0, b1, b2, List.length_cons, List.length_nil, ec]
    have er : ((r.toNat : Nat) : Int) = r := by omega
    rw [if_neg (by omega), if_neg (by simp; omega), if_pos (by simp; omega), if_pos (by rw [er, h]; simp; omega)]
  · rw [e]
    have b0 := ofNat_toNat (240 + r.toNat / 262144) (by omega)
    have b1 := ofNat_toNat (128 + r.toNat / 4096 % 64) (by omega)
    have b2 := ofNat_toNat (128 + r.toNat / 64 % 64) (by omega)
    have b3 := ofNat_toNat (128 + r.toNat % 64) (by omega)
    have ec : (240 + r.toNat / 262144) % 8 * 262144 + (128 + r.toNat / 4096 % 64) % 64 * 4096 + (128 + r.toNat / 64 % 64) % 64 * 64 + (128 + r.toNat % 64) % 64 = r.toNat := by omega
    simp only [decL, List.cons_append, List.nil_append, List.getD_cons_zero, List.getD_cons_succ, b0, b1, b2, b3, List.length_cons, List.length_nil, ec]
    have er : ((r.toNat : Nat) : Int) = r := by omega
    rw [if_neg (by omega), if_neg (by simp; omega), if_neg (by simp; omega), if_pos (by simp; omega), if_pos (by rw [er, h]; simp; omega)]

theorem encB_len (r : Int) : 1 ≤ (encB r).length ∧ (encB r).length ≤ 4 := by
  unfold encB Utf8.encode
  simp only
  repeat' split
  all_goals simp

theorem u8_eq (b : UInt8) (n : Nat) (h : n = b.toNat) : UInt8.ofNat n = b := by subst h; simp

/-- What was decoded well is what was encoded. -/
theorem dec_other (l : List UInt8) (hl : l ≠ []) (hg : (decL l).1 ≠ 65533) : Utf8.valid (decL l).1 = true ∧ l = encB (decL l).1 ++ l.drop (decL l).2 ∧ (decL l).2 = (encB (decL l).1).length := by
  suffices H : ∀ c w, decL l = (c, w) → c ≠ 65533 → Utf8.valid c = true ∧ l = encB c ++ l.drop w ∧ w = (encB c).length from H _ _ rfl hg
  clear hg
  intro c w h hc
  rcases l with _ | ⟨b0, l⟩
  · exact absurd rfl hl
  have r0 := b0.toNat_lt
  simp only [decL, List.getD_cons_zero, List.getD_cons_succ] at h
  split at h
  · rename_i h0
    obtain ⟨rfl, rfl⟩ := Prod.mk.inj h
    have hv : Utf8.valid (b0.toNat : Int) = true := (valid_iff _).2 (by omega)
    rcases encB_cases _ hv with ⟨_, e⟩ | ⟨h1, _⟩ | ⟨h1, _⟩ | ⟨h1, _⟩
    · rw [e]; exact ⟨hv, by simp, rfl⟩
    all_goals omega
  · rename_i h0
    split at h
    · rename_i h1
      rcases l with _ | ⟨b1, l⟩
      · simp at h1
      have r1 := b1.toNat_lt
      simp only [List.getD_cons_zero, Bool.and_eq_true, beq_iff_eq, decide_eq_true_eq] at h h1
      split at h
      · rename_i h2
        obtain ⟨rfl, rfl⟩ := Prod.mk.inj h
        have hv : Utf8.valid ((b0.toNat % 32 * 64 + b1.toNat % 64 : Nat) : Int) = true := (valid_iff _).2 (by omega)
        rcases encB_cases _ hv with ⟨h1, e⟩ | ⟨_, _, e⟩ | ⟨h1, _⟩ | ⟨h1, _⟩
        · omega
        · rw [e, Int.toNat_natCast]
          refine ⟨hv, ?_, rfl⟩
          rw [u8_eq b0 _ (by omega), u8_eq b1 _ (by omega)]; rfl
        all_goals omega
      · obtain ⟨rfl, _⟩ := Prod.mk.inj h; exact absurd rfl hc
    · split at h
      · rename_i h1
        rcases l with _ | ⟨b1, _ | ⟨b2, l⟩⟩
        · simp at h1
        · simp at h1
        have r1 := b1.toNat_lt
        have r2 := b2.toNat_lt
        simp only [List.getD_cons_zero, List.getD_cons_succ, Bool.and_eq_true, beq_iff_eq, decide_eq_true_eq] at h h1
        split at h
        · rename_i h2
          obtain ⟨rfl, rfl⟩ := Prod.mk.inj h
          obtain ⟨h2, hv⟩ := h2
          have hv' := (valid_iff _).1 hv
          rcases encB_cases _ hv with ⟨h1, e⟩ | ⟨_, h1, e⟩ | ⟨_, _, e⟩ | ⟨h1, _⟩
          · omega
          · omega
          · rw [e, Int.toNat_natCast]
            refine ⟨hv, ?_, rfl⟩
            rw [u8_eq b0 _ (by omega), u8_eq b1 _ (by omega), u8_eq b2 _ (by omega)]; rfl
          · omega
        · obtain ⟨rfl, _⟩ := Prod.mk.inj h; exact absurd rfl hc
      · split at h
        · rename_i h1
          rcases l with _ | ⟨b1, _ | ⟨b2, _ | ⟨b3, l⟩⟩⟩
          · simp at h1
          · simp at h1
          · simp at h1
          have r1 := b1.toNat_lt
          have r2 := b2.toNat_lt
          have r3 := b3.toNat_lt
          simp only [List.getD_cons_zero, List.getD_cons_succ, Bool.and_eq_true, beq_iff_eq, decide_eq_true_eq] at h h1
          split at h
          · rename_i h2
            obtain ⟨rfl, rfl⟩ := Prod.mk.inj h
            obtain ⟨h2, hv⟩ := h2
            have hv' := (valid_iff _).1 hv
            rcases encB_cases _ hv with ⟨h1, e⟩ | ⟨_, h1, e⟩ | ⟨_, h1, e⟩ | ⟨_, _, e⟩
            · omega
            · omega
            · omega
            · rw [e, Int.toNat_natCast]
              refine ⟨hv, ?_, rfl⟩
              rw [u8_eq b0 _ (by omega), u8_eq b1 _ (by omega), u8_eq b2 _ (by omega), u8_eq b3 _ (by omega)]; rfl
          · obtain ⟨rfl, _⟩ := Prod.mk.inj h; exact absurd rfl hc
        · obtain ⟨rfl, _⟩ := Prod.mk.inj h; exact absurd rfl hc

theorem valid_fffd : Utf8.valid 65533 = true := rfl
theorem encB_fffd : encB 65533 = [239, 191, 189] := by decide +kernel

/-- Does a sequence begin here? Its rune. -/
def seq (l : List UInt8) : Option Int := if (decL l).1 ≠ 65533 ∨ [239, 191, 189] <+: l then some (decL l).1 else none

theorem seq_some {l : List UInt8} (hl : l ≠ []) {r : Int} (h : seq l = some r) : Utf8.valid r = true ∧ ∃ t, l = encB r ++ t := by
  unfold seq at h
  split at h
  · rename_i hg
    obtain rfl := Option.some.inj h
    rcases hg with hg | ⟨t, rfl⟩
    · obtain ⟨a, b, _⟩ := dec_other l hl hg
      exact ⟨a, _, b⟩
    · have e := dec_enc 65533 valid_fffd t
      rw [encB_fffd] at e
      rw [e]
      exact ⟨valid_fffd, t, by rw [show ((Int.toNat 65533 : Nat) : Int) = 65533 from rfl, encB_fffd]⟩
  · cases h

theorem seq_enc (r : Int) (h : Utf8.valid r = true) (t : List UInt8) : seq (encB r ++ t) = some r := by
  have hv := (valid_iff r).1 h
  unfold seq
  rw [dec_enc r h t]
  have er : ((r.toNat : Nat) : Int) = r := by omega
  by_cases e : r = 65533
  · subst e
    rw [if_pos (.inr (by rw [encB_fffd]; exact ⟨t, rfl⟩))]; rfl
  · rw [if_pos (.inl (by show r.toNat ≠ 65533; omega)), er]

theorem seq_width {l : List UInt8} (hl : l ≠ []) {r : Int} (h : seq l = some r) : decL l = (r.toNat, (encB r).length) := by
  obtain ⟨hv, t, e⟩ := seq_some hl h
  rw [e]; exact dec_enc r hv t

/-! ### Texts -/

/-- Is the rune let in? -/
def letInB (c : Int) : Bool := !(decide (0 ≤ c ∧ c ≤ 8) || decide (11 ≤ c ∧ c ≤ 31) || decide (127 ≤ c ∧ c ≤ 159) || decide (64976 ≤ c ∧ c ≤ 65007) || decide (65279 ≤ c ∧ c ≤ 65279)) && decide (c % 65536 < 65534)
/-- A rune of a text. -/
def TxtRune (r : Int) : Prop := Utf8.valid r = true ∧ letInB r = true
/-- Check's answer on bytes: runes, place, error. -/
def chkF : Nat → List UInt8 → Nat → Nat → Nat × Nat × Nat
  | 0, _, n, _ => (n, 0, 0)
  | f + 1, l, n, p =>
    if l = [] then (n, 0, 0) else
      match seq l with
      | none => (0, p, 10)
      | some r => if letInB r = true then chkF f (l.drop (encB r).length) (n + 1) (p + (encB r).length) else (0, p, 11)
def chk (l : List UInt8) : Nat × Nat × Nat := chkF l.length l 0 0

theorem enc_nil : enc [] = [] := rfl
theorem enc_cons (r : Int) (rs : List Int) : enc (r :: rs) = encB r ++ enc rs := rfl
theorem enc_append (a b : List Int) : enc (a ++ b) = enc a ++ enc b := by simp [enc]
theorem encB_ne (r : Int) (t : List UInt8) : encB r ++ t ≠ [] := by
  intro h
  have := (encB_len r).1
  have := congrArg List.length h
  simp at this
  simp_all
theorem enc_len_ge (rs : List Int) : rs.length ≤ (enc rs).length := by
  induction rs with
  | nil => simp
  | cons r rs ih => rw [enc_cons, List.length_append, List.length_cons]; have := (encB_len r).1; omega
theorem enc_len_le (rs : List Int) : (enc rs).length ≤ 4 * rs.length := by
  induction rs with
  | nil => simp [enc]
  | cons r rs ih => rw [enc_cons, List.length_append, List.length_cons]; have := (encB_len r).2; omega

theorem chkF_fuel : ∀ (f f' : Nat) (l : List UInt8) (n p : Nat), l.length ≤ f → l.length ≤ f' → chkF f l n p = chkF f' l n p := by
  intro f
  induction f with
  | zero =>
    intro f' l n p h _
    have : l = [] := by cases l; rfl; simp at h
    subst this
    cases f' <;> simp [chkF]
  | succ f ih =>
    intro f' l n p h h'
    by_cases e : l = []
    · subst e; cases f' <;> simp [chkF]
    · cases f' with
      | zero => exact absurd (List.length_eq_zero_iff.1 (by omega)) e
      | succ f' =>
        simp only [chkF]
        rw [if_neg e, if_neg e]
        cases hs : seq l with
        | none => rfl
        | some r =>
          simp only []
          by_cases hl : letInB r = true
          · rw [if_pos hl, if_pos hl]
            have := (encB_len r).1
            exact ih f' _ _ _ (by rw [List.length_drop]; omega) (by rw [List.length_drop]; omega)
          · rw [if_neg hl, if_neg hl]

theorem chkF_enc (rs : List Int) (hg : ∀ r ∈ rs, TxtRune r) : ∀ (f : Nat) (t : List UInt8) (n p : Nat), (enc rs ++ t).length ≤ f → chkF f (enc rs ++ t) n p = chkF f t (n + rs.length) (p + (enc rs).length) := by
  induction rs with
  | nil => intro f t n p _; simp [enc]
  | cons r rs ih =>
    intro f t n p hf
    have h1 := hg r (by simp)
    rw [enc_cons, List.append_assoc] at hf ⊢
    have hl := (encB_len r).1
    rw [List.length_append] at hf
    cases f with
    | zero => omega
    | succ f =>
      rw [chkF, if_neg (encB_ne _ _), seq_enc r h1.1]
      simp only []
      rw [if_pos h1.2, List.drop_left, ih (fun x hx => hg x (by simp [hx])) f t _ _ (by omega)]
      rw [chkF_fuel f (f + 1) t _ _ (by rw [List.length_append] at hf; omega) (by rw [List.length_append] at hf; omega), List.length_cons, List.length_append]
      congr 1 <;> omega

/-- Every string is a text, or one and its first fault. -/
theorem split_text : ∀ (m : Nat) (l : List UInt8), l.length ≤ m → ∃ rs t, (∀ r ∈ rs, TxtRune r) ∧ l = enc rs ++ t ∧ (t = [] ∨ t ≠ [] ∧ (seq t = none ∨ ∃ r, seq t = some r ∧ letInB r = false)) := by
  intro m
  induction m with
  | zero =>
    intro l h
    have : l = [] := by cases l; rfl; simp at h
    exact ⟨[], [], by simp, by simp [this, enc], .inl rfl⟩
  | succ m ih =>
    intro l h
    by_cases e : l = []
    · exact ⟨[], [], by simp, by simp [e, enc], .inl rfl⟩
    · cases hs : seq l with
      | none => exact ⟨[], l, by simp, rfl, .inr ⟨e, .inl hs⟩⟩
      | some r =>
        by_cases hl : letInB r = true
        · obtain ⟨hv, t, rfl⟩ := seq_some e hs
          have := (encB_len r).1
          rw [List.length_append] at h
          obtain ⟨rs, t', h1, h2, h3⟩ := ih t (by omega)
          refine ⟨r :: rs, t', ?_, by rw [enc_cons, List.append_assoc, ← h2], h3⟩
          intro x hx
          rcases List.mem_cons.1 hx with rfl | hx
          · exact ⟨hv, hl⟩
          · exact h1 x hx
        · exact ⟨[], l, by simp, rfl, .inr ⟨e, .inr ⟨r, hs, by simpa using hl⟩⟩⟩

/-- The first fault's error. -/
def fault (t : List UInt8) : Nat := if (seq t).isNone then 10 else 11

theorem chk_text (rs : List Int) (hg : ∀ r ∈ rs, TxtRune r) : chk (enc rs) = (rs.length, 0, 0) := by
  have := chkF_enc rs hg (enc rs).length [] 0 0 (by simp)
  rw [List.append_nil] at this
  unfold chk
  rw [this]
  cases (enc rs).length <;> simp [chkF]

theorem chk_fault (rs : List Int) (hg : ∀ r ∈ rs, TxtRune r) (t : List UInt8) (ht : t ≠ []) (hf : seq t = none ∨ ∃ r, seq t = some r ∧ letInB r = false) : chk (enc rs ++ t) = (0, (enc rs).length, fault t) := by
  unfold chk
  rw [chkF_enc rs hg _ t 0 0 (Nat.le_refl _)]
  have hl : 0 < (enc rs ++ t).length := by rw [List.length_append]; have := List.length_pos_iff.2 ht; omega
  obtain ⟨f, hf'⟩ : ∃ f, (enc rs ++ t).length = f + 1 := ⟨_, (Nat.sub_add_cancel hl).symm⟩
  rw [hf', chkF, if_neg ht]
  rcases hf with h | ⟨r, h, hr⟩
  · simp [h, fault]
  · simp [h, hr, fault]

/-! ### Places -/

/-- The byte at which rune number k begins. -/
def psz (rs : List Int) (k : Nat) : Nat := (enc (rs.take k)).length
theorem psz_zero (rs : List Int) : psz rs 0 = 0 := by simp [psz, enc]
theorem psz_all (rs : List Int) : psz rs rs.length = (enc rs).length := by simp [psz]
theorem enc_split (rs : List Int) (k : Nat) : enc rs = enc (rs.take k) ++ enc (rs.drop k) := by rw [← enc_append, List.take_append_drop]
theorem enc_drop (rs : List Int) (k : Nat) : (enc rs).drop (psz rs k) = enc (rs.drop k) := by
  conv => lhs; rw [enc_split rs k]
  exact List.drop_left
theorem enc_take (rs : List Int) (k : Nat) : (enc rs).take (psz rs k) = enc (rs.take k) := by
  conv => lhs; rw [enc_split rs k]
  exact List.take_left
theorem psz_succ (rs : List Int) (k : Nat) (h : k < rs.length) : psz rs (k + 1) = psz rs k + (encB (rs.getD k 0)).length := by
  unfold psz
  rw [List.take_add_one, List.getElem?_eq_getElem h, enc_append, List.length_append]
  simp [enc, List.getD, h]
theorem psz_le (rs : List Int) (k : Nat) : psz rs k ≤ (enc rs).length := by
  conv => rhs; rw [enc_split rs k, List.length_append]
  exact Nat.le_add_right _ _
theorem psz_lt (rs : List Int) (k : Nat) (h : k < rs.length) : psz rs k < (enc rs).length := by
  have := psz_le rs (k + 1)
  rw [psz_succ rs k h] at this
  have := (encB_len (rs.getD k 0)).1
  omega
theorem psz_mono (rs : List Int) : ∀ (j k : Nat), j < k → k ≤ rs.length → psz rs j < psz rs k := by
  intro j k h hk
  induction k with
  | zero => omega
  | succ k ih =>
    rw [psz_succ rs k (by omega)]
    have := (encB_len (rs.getD k 0)).1
    by_cases e : j = k
    · subst e; omega
    · have := ih (by omega) (by omega); omega
/-- What the decoder gives at a rune of a text. -/
theorem dec_psz (rs : List Int) (hg : ∀ r ∈ rs, TxtRune r) (k : Nat) (h : k < rs.length) : decL ((enc rs).drop (psz rs k)) = ((rs.getD k 0).toNat, (encB (rs.getD k 0)).length) := by
  rw [enc_drop, List.drop_eq_getElem_cons h, enc_cons]
  have : rs.getD k 0 = rs[k] := by simp [List.getD, h]
  rw [this]
  exact dec_enc _ (hg _ (List.getElem_mem h)).1 _
theorem getD_nonneg (rs : List Int) (hg : ∀ r ∈ rs, TxtRune r) (k : Nat) (h : k < rs.length) : (((rs.getD k 0).toNat : Nat) : Int) = rs.getD k 0 := by
  have : rs.getD k 0 = rs[k] := by simp [List.getD, h]
  rw [this]
  have := (valid_iff _).1 (hg _ (List.getElem_mem h)).1
  omega

end Go.Proofs.YtkdhomiieenfnaaGreatDoor.Txt

namespace Go.Proofs.YtkdhomiieenfnaaGreatDoor.U
set_option linter.unusedVariables false
set_option linter.unusedSimpArgs false
open Go.RowKit Go.Proofs.YtkdhomiieenfnaaGreatDoor.Txt

abbrev barsCells : Array Value := #[.int .i32 0, .int .i32 8, .int .i32 11, .int .i32 31, .int .i32 127, .int .i32 159, .int .i32 64976, .int .i32 65007, .int .i32 65279, .int .i32 65279]
/-- The table of runes that are not let in lies where start-up code lays it. -/
def Bars (w : World) : Prop := ∃ t fr, w.heap[0]? = some (.cells barsCells t fr)
theorem Bars.below {w w' : World} (h : Bars w) (hb : Below w.heap.size w w') : Bars w' := by
  obtain ⟨t, fr, h⟩ := h
  exact ⟨t, fr, by rw [hb.block _ (Array.getElem?_eq_some_iff.1 h).1]; exact h⟩
theorem ret_bool {a b : Bool} (h : a = b) : Ending.returned (.bool a) = Ending.returned (.bool b) := by rw [h]
theorem ret_int {k : IntKind} {a b : Int} (h : a = b) : Ending.returned (.int k a) = .returned (.int k b) := by rw [h]

theorem idx0 : ∀ w, (Instr.index 161 (.agg barsCells) (.int .i64 0)).run Tryz.prog w = .ok (.agg #[.int .i32 0, .int .i32 8]) w := fun _ => by kernel_rfl
theorem idx1 : ∀ w, (Instr.index 161 (.agg barsCells) (.int .i64 1)).run Tryz.prog w = .ok (.agg #[.int .i32 11, .int .i32 31]) w := fun _ => by kernel_rfl
theorem idx2 : ∀ w, (Instr.index 161 (.agg barsCells) (.int .i64 2)).run Tryz.prog w = .ok (.agg #[.int .i32 127, .int .i32 159]) w := fun _ => by kernel_rfl
theorem idx3 : ∀ w, (Instr.index 161 (.agg barsCells) (.int .i64 3)).run Tryz.prog w = .ok (.agg #[.int .i32 64976, .int .i32 65007]) w := fun _ => by kernel_rfl
theorem idx4 : ∀ w, (Instr.index 161 (.agg barsCells) (.int .i64 4)).run Tryz.prog w = .ok (.agg #[.int .i32 65279, .int .i32 65279]) w := fun _ => by kernel_rfl
def barLo (k : Nat) : Int := [0, 11, 127, 64976, 65279].getD k 0
def barHi (k : Nat) : Int := [8, 31, 159, 65007, 65279].getD k 0
def Out (c : Int) (k : Nat) : Prop := ∀ j, j < k → ¬ (barLo j ≤ c ∧ c ≤ barHi j)
theorem Out.zero (c : Int) : Out c 0 := fun _ hj => absurd hj (Nat.not_lt_zero _)
theorem Out.step {c : Int} {k : Nat} (h : Out c k) (h' : ¬ (barLo k ≤ c ∧ c ≤ barHi k)) : Out c (k + 1) := by
  intro j hj
  by_cases e : j = k
  · subst e; exact h'
  · exact h j (by omega)
theorem Out.in_ {c : Int} {k : Nat} (hk : k < 5) (h' : barLo k ≤ c ∧ c ≤ barHi k) : letInB c = false := by
  obtain rfl | rfl | rfl | rfl | rfl : k = 0 ∨ k = 1 ∨ k = 2 ∨ k = 3 ∨ k = 4 := by omega
  all_goals (simp only [barLo, barHi, List.getD_cons_zero, List.getD_cons_succ] at h'; simp [letInB]; omega)
theorem bits_low (c : Int) (h0 : 0 ≤ c) (h1 : c ≤ 2147483647) : bits BinOp.and IntKind.i32 c 65535 = c % 65536 :=
  bits_mask .i32 31 (by decide) wraps_i32 16 (by decide) c h0 (by omega)
theorem Out.out {c : Int} (h0 : 0 ≤ c) (h1 : c ≤ 2147483647) (h : Out c 5) : decide (bits BinOp.and IntKind.i32 c 65535 < 65534) = letInB c := by
  have a0 := h 0 (by omega); have a1 := h 1 (by omega); have a2 := h 2 (by omega); have a3 := h 3 (by omega); have a4 := h 4 (by omega)
  simp only [barLo, barHi, List.getD_cons_zero, List.getD_cons_succ] at a0 a1 a2 a3 a4
  rw [bits_low c h0 h1]
  simp only [letInB, a0, a1, a2, a3, a4, decide_false, Bool.or_false, Bool.not_false, Bool.true_and]

set_option maxHeartbeats 400000 in
theorem letIn_any (c : Int) (w : World) (h0 : 0 ≤ c) (h1 : c ≤ 2147483647) (hg : Bars w) :
    Calls Tryz.prog 65 #[.int .i32 c] w fun e w' => e = .returned (.bool (letInB c)) ∧ Below w.heap.size w w' := by
  obtain ⟨tb, fr, hg⟩ := hg
  have i0 := idx0
  have i1 := idx1
  have i2 := idx2
  have i3 := idx3
  have i4 := idx4
  go_enter Tryz.func65, Tryz.ntmps65
  go_wp2_with (refine wpList_load_row rfl 161 _ rfl 0 rfl tb barsCells fr _ hg Tryz.underlying161 rfl (by kernel_rfl) ?_)
  go_loopw [6] (fun i wr => ∃ k : Nat, k ≤ 5 ∧ i = .int .i64 k ∧ Below w.heap.size w wr ∧ Out c k) (fun i _ => 5 - (intOf i).toNat)
  case atStart => exact ⟨0, by omega, rfl, Below.refl _ _, Out.zero c⟩
  case round =>
    obtain ⟨k, hk, rfl, hb, hn⟩ := hrel
    have HN := Lib.hid hn
    have HB := Lib.hid hb
    have hsz := hb.size
    clear hn hb
    obtain rfl | rfl | rfl | rfl | rfl | rfl : k = 0 ∨ k = 1 ∨ k = 2 ∨ k = 3 ∨ k = 4 ∨ k = 5 := by omega
    rotate_right
    · go_wp2
      go_ret
      exact ⟨ret_bool (Out.out h0 h1 HN.out), HB.out⟩
    all_goals
      go_wp2
      all_goals first
        | (go_ret; exact ⟨ret_bool (Out.in_ (k := 0) (by omega) ⟨by show (0 : Int) ≤ c; omega, by show c ≤ 8; omega⟩).symm, HB.out.alloc hsz _⟩)
        | (go_ret; exact ⟨ret_bool (Out.in_ (k := 1) (by omega) ⟨by show (11 : Int) ≤ c; omega, by show c ≤ 31; omega⟩).symm, HB.out.alloc hsz _⟩)
        | (go_ret; exact ⟨ret_bool (Out.in_ (k := 2) (by omega) ⟨by show (127 : Int) ≤ c; omega, by show c ≤ 159; omega⟩).symm, HB.out.alloc hsz _⟩)
        | (go_ret; exact ⟨ret_bool (Out.in_ (k := 3) (by omega) ⟨by show (64976 : Int) ≤ c; omega, by show c ≤ 65007; omega⟩).symm, HB.out.alloc hsz _⟩)
        | (go_ret; exact ⟨ret_bool (Out.in_ (k := 4) (by omega) ⟨by show (65279 : Int) ≤ c; omega, by show c ≤ 65279; omega⟩).symm, HB.out.alloc hsz _⟩)
        | (go_roundw
           case rel => first
             | exact ⟨1, by decide, rfl, HB.out.alloc hsz _, HN.out.step (by simp only [barLo, barHi, List.getD_cons_zero, List.getD_cons_succ]; omega)⟩
             | exact ⟨2, by decide, rfl, HB.out.alloc hsz _, HN.out.step (by simp only [barLo, barHi, List.getD_cons_zero, List.getD_cons_succ]; omega)⟩
             | exact ⟨3, by decide, rfl, HB.out.alloc hsz _, HN.out.step (by simp only [barLo, barHi, List.getD_cons_zero, List.getD_cons_succ]; omega)⟩
             | exact ⟨4, by decide, rfl, HB.out.alloc hsz _, HN.out.step (by simp only [barLo, barHi, List.getD_cons_zero, List.getD_cons_succ]; omega)⟩
             | exact ⟨5, by decide, rfl, HB.out.alloc hsz _, HN.out.step (by simp only [barLo, barHi, List.getD_cons_zero, List.getD_cons_succ]; omega)⟩
           case measure => simp [intOf])

/-- Does a sequence begin where the decoder gave that rune? -/
def begB (s : ByteArray) (pos : Nat) (c : Int) : Bool := c != 65533 || decide ([239, 191, 189] <+: s.data.toList.drop pos)
theorem begB_seq (s : ByteArray) (pos : Nat) : begB s pos (Utf8.decode s pos).1 = (seq (s.data.toList.drop pos)).isSome := by
  unfold begB seq
  rw [dec_eq]
  by_cases h1 : (decL (s.data.toList.drop pos)).1 = 65533
  · rw [h1]
    by_cases h2 : [239, 191, 189] <+: s.data.toList.drop pos
    · simp [h2]
    · simp [h2]
  · rw [if_pos (.inl h1)]
    have : ((decL (s.data.toList.drop pos)).1 : Int) != 65533 := by rw [bne_iff_ne]; omega
    simp [this]

theorem toList_eq (s : ByteArray) : s.toList = s.data.toList := ByteArray.toList_eq s
theorem begB_yes (s : ByteArray) (pos : Nat) : (((s.extract pos s.size).extract 0 3).toList == [239, 191, 189]) = begB s pos 65533 := by
  have e : ((s.extract pos s.size).extract 0 3).toList = (s.data.toList.drop pos).take 3 := by
    rw [toList_eq]
    simp only [ByteArray.data_extract, Array.toList_extract, List.drop_zero, List.extract_eq_take_drop]
    rw [List.take_of_length_le (l := s.data.toList.drop pos) (by rw [List.length_drop, size_toList]; omega)]
  rw [e, Bool.eq_iff_iff]
  simp only [begB, bne_self_eq_false, Bool.false_or, decide_eq_true_eq, beq_iff_eq]
  constructor
  · intro h; rw [← h]; exact List.take_prefix _ _
  · intro ⟨t, h⟩; rw [← h]; rfl
theorem begB_no (s : ByteArray) (pos : Nat) (h : ((s.size - pos : Nat) : Int) < 3) : false = begB s pos 65533 := by
  symm
  simp only [begB, bne_self_eq_false, Bool.false_or, decide_eq_false_iff_not]
  intro ⟨t, e⟩
  have := congrArg List.length e
  rw [List.length_drop, size_toList] at this
  simp at this
  omega
set_option maxHeartbeats 400000 in
theorem begins_any (s : ByteArray) (pos : Nat) (c : Int) (w : World) (hp : pos ≤ s.size) :
    Calls Tryz.prog 64 #[.string s, .int .i64 pos, .int .i32 c] w fun e w' => e = .returned (.bool (begB s pos c)) ∧ w = w' := by
  by_cases h1 : c = 65533
  · subst h1
    go_enter Tryz.func64, Tryz.ntmps64
    go_wp2
    · go_ret
      exact ⟨ret_bool (begB_yes s pos), rfl⟩
    · rename_i hlt
      go_ret
      exact ⟨ret_bool (begB_no s pos hlt), rfl⟩
  · have h2 : (c != 65533) = true := by simp [h1]
    go_enter Tryz.func64, Tryz.ntmps64
    go_wp2
    go_ret
    exact ⟨ret_bool (by simp [begB, h1]), rfl⟩

theorem chkF_none {m : Nat} {l : List UInt8} (hm : 0 < m) (hl : l ≠ []) (h : seq l = none) (k p : Nat) : chkF m l k p = (0, p, 10) := by
  obtain ⟨m, rfl⟩ : ∃ j, m = j + 1 := ⟨m - 1, by omega⟩
  rw [chkF, if_neg hl, h]
theorem chkF_bad {m : Nat} {l : List UInt8} (hm : 0 < m) (hl : l ≠ []) {r : Int} (h : seq l = some r) (hr : letInB r = false) (k p : Nat) : chkF m l k p = (0, p, 11) := by
  obtain ⟨m, rfl⟩ : ∃ j, m = j + 1 := ⟨m - 1, by omega⟩
  rw [chkF, if_neg hl, h]
  simp [hr]
theorem chkF_good {m : Nat} {l : List UInt8} (hm : l.length ≤ m) (hl : l ≠ []) {r : Int} (h : seq l = some r) (hr : letInB r = true) (k p : Nat) :
    chkF m l k p = chkF (m - (encB r).length) (l.drop (encB r).length) (k + 1) (p + (encB r).length) := by
  have h0 := List.length_pos_iff.2 hl
  have h1 := (encB_len r).1
  obtain ⟨_, t, e⟩ := seq_some hl h
  have h2 := congrArg List.length e
  rw [List.length_append] at h2
  obtain ⟨m, rfl⟩ : ∃ j, m = j + 1 := ⟨m - 1, by omega⟩
  rw [chkF, if_neg hl, h]
  simp only []
  rw [if_pos hr]
  exact chkF_fuel _ _ _ _ _ (by rw [List.length_drop]; omega) (by rw [List.length_drop]; omega)
def chkOut (s : ByteArray) : Value := .tuple #[.int .i64 (chk s.data.toList).1, .int .i64 (chk s.data.toList).2.1, .int .i64 (chk s.data.toList).2.2]
/-- Where the loop of Check stands: k runes are behind it. -/
def At (s : ByteArray) (w : World) (n : Value) (wr : World) : Prop :=
  ∃ pos k : Nat, n = .int .i64 k ∧ k ≤ pos ∧ pos ≤ s.size ∧ Below w.heap.size w wr ∧ wr.heap[w.heap.size]? = some (.stringIter s pos) ∧ chk s.data.toList = chkF (s.size - pos) (s.data.toList.drop pos) k pos
set_option maxHeartbeats 1000000 in
theorem check_any (s : ByteArray) (w : World) (hs : s.size ≤ maxLen) (hg : Bars w) :
    Calls Tryz.prog 25 #[.string s] w fun e w' => e = .returned (chkOut s) ∧ Below w.heap.size w w' := by
  unfold maxLen at hs
  have HG := Lib.hid hg
  clear hg
  go_enter Tryz.func25, Tryz.ntmps25
  go_wp2_with fail
  go_loopw [5] (fun n wr => At s w n wr) (fun _ wr => s.size - wr.iterPos w.heap.size)
  case atStart => exact ⟨0, 0, rfl, Nat.le_refl _, Nat.zero_le _, (Below.refl _ _).alloc (Nat.le_refl _) _, World.iter_heap _ _ _, rfl⟩
  case round =>
    obtain ⟨pos, k, rfl, hk, hp, hb, hi, hc⟩ := hrel
    have HB := Lib.hid hb
    have HI := Lib.hid hi
    have HC := Lib.hid hc
    clear hb hi hc
    by_cases hlt : pos < s.size
    · have hnx := fun ty => Lib.run_next_any_at (P := Tryz.prog) wr w.heap.size s pos ty HI.out hlt
      have hd := decode_le s pos
      go_wp2_with fail
      refine (begins_any s pos _ _ (by omega)).mono ?_
      rintro e w' ⟨rfl, rfl⟩
      rw [begB_seq]
      have HB2 := Lib.hid (Lib.below_iterAt HB.out (Nat.le_refl w.heap.size) s (pos + (Utf8.decode s pos).2))
      have HI2 := Lib.hid (Lib.iterAt_heap wr w.heap.size s pos (pos + (Utf8.decode s pos).2) HI.out)
      have hne : s.data.toList.drop pos ≠ [] := by
        intro e; have := congrArg List.length e; rw [List.length_drop, size_toList] at this; simp at this; omega
      have hln : (s.data.toList.drop pos).length = s.size - pos := by rw [List.length_drop, size_toList]
      have HN := Lib.hid hne
      have HL := Lib.hid hln
      clear hne hln hnx
      cases hq : seq (s.data.toList.drop pos) with
      | none =>
        have HQ := Lib.hid hq
        clear hq
        simp only [Option.isSome_none]
        go_wp2_with fail
        go_ret3
        refine ⟨?_, HB2.out⟩
        rw [chkOut, HC.out, chkF_none (by omega) HN.out HQ.out]
        rfl
      | some r =>
        have hw := seq_width HN.out hq
        rw [← dec_eq] at hw
        have hv := (valid_iff r).1 (seq_some HN.out hq).1
        have hr : ((Utf8.decode s pos).1 : Int) = r := by rw [hw]; show ((r.toNat : Nat) : Int) = r; omega
        have hwd : (Utf8.decode s pos).2 = (encB r).length := by rw [hw]
        have hle : (encB r).length ≤ s.size - pos := by
          obtain ⟨_, t, e⟩ := seq_some HN.out hq
          have := congrArg List.length e
          rw [HL.out, List.length_append] at this
          omega
        have h1 := (encB_len r).1
        have HQ := Lib.hid hq
        have HR := Lib.hid hr
        have HW := Lib.hid hwd
        clear hq hw hr hwd
        simp only [Option.isSome_some]
        go_wp2_with fail
        refine (letIn_any _ _ (by omega) (by omega) (HG.out.below HB2.out)).mono ?_
        rintro e w1 ⟨rfl, hb1⟩
        rw [HR.out]
        have hb3 : Below w.heap.size w w1 := HB2.out.trans (hb1.mono (by rw [Lib.iterAt_size]; exact HB.out.size))
        have hi3 : w1.heap[w.heap.size]? = some (.stringIter s (pos + (Utf8.decode s pos).2)) := by
          rw [hb1.block _ (Array.getElem?_eq_some_iff.1 HI2.out).1]; exact HI2.out
        have HB3 := Lib.hid hb3
        have HI3 := Lib.hid hi3
        clear hb1 hb3 hi3
        cases hlr : letInB r with
        | false =>
          have HLR := Lib.hid hlr
          clear hlr
          go_wp2_with fail
          go_ret3
          refine ⟨?_, HB3.out⟩
          rw [chkOut, HC.out, chkF_bad (by omega) HN.out HQ.out HLR.out]
          rfl
        | true =>
          have HLR := Lib.hid hlr
          clear hlr
          go_wp2_with fail
          go_roundw
          case rel =>
            have hi := HI3.out
            rw [HW.out] at hi
            refine ⟨pos + (encB r).length, k + 1, by go_num, by omega, by omega, HB3.out, hi, ?_⟩
            rw [HC.out, chkF_good (by rw [HL.out]; omega) HN.out HQ.out HLR.out, List.drop_drop]
            congr 1; omega
          case measure =>
            rw [iterPos_of HI3.out, iterPos_of HI.out, HW.out]
            omega
    · have hnx := fun ty => Lib.run_next_end_at (P := Tryz.prog) wr w.heap.size s pos ty HI.out hlt
      go_wp2_with fail
      have e : s.size - pos = 0 := by omega
      have hc := HC.out
      rw [e, chkF] at hc
      go_ret3
      refine ⟨?_, HB.out⟩
      rw [chkOut, hc]
      rfl
end Go.Proofs.YtkdhomiieenfnaaGreatDoor.U
