/- The reference's Unquote in plain Lean: the same answer. -/
import Derived.Test.YtfgekdefnbohbaaDoorUUnqP
namespace Go.Proofs.YtfgekdefnbohbaaDoor.U
open Go Go.Proofs.YtfgekdefnbohbaaDoor.Txt
set_option linter.unusedVariables false
set_option linter.unusedSimpArgs false

/-- The number of a digit; small letters alone. -/
def hexW (c : UInt8) : Option Nat := if 48 ≤ c.toNat ∧ c.toNat ≤ 57 then some (c.toNat - 48) else if 97 ≤ c.toNat ∧ c.toNat ≤ 102 then some (c.toNat - 87) else none
/-- The bytes of a number, as a rune is written. -/
def bytesR (r : Nat) : List UInt8 :=
  if r < 128 then [UInt8.ofNat r] else if r < 2048 then [UInt8.ofNat (192 + r / 64), UInt8.ofNat (128 + r % 64)]
  else if r < 65536 then [UInt8.ofNat (224 + r / 4096), UInt8.ofNat (128 + r / 64 % 64), UInt8.ofNat (128 + r % 64)]
  else [UInt8.ofNat (240 + r / 262144), UInt8.ofNat (128 + r / 4096 % 64), UInt8.ofNat (128 + r / 64 % 64), UInt8.ofNat (128 + r % 64)]
theorem bytesR_enc (r : Int) (h : Utf8.valid r = true) : bytesR r.toNat = encB r := by
  unfold bytesR
  rcases encB_cases r h with ⟨h1, e⟩ | ⟨h1, h2, e⟩ | ⟨h1, h2, e⟩ | ⟨h1, h2, e⟩
  · rw [e, if_pos (by omega)]
  · rw [e, if_neg (by omega), if_pos (by omega)]
  · rw [e, if_neg (by omega), if_neg (by omega), if_pos (by omega)]
  · rw [e, if_neg (by omega), if_neg (by omega), if_neg (by omega)]
/-- Digits up to a closing brace: rounds left, the number so far, what is left, how many were read. -/
def uF : Nat → Nat → List UInt8 → Nat → Option (Nat × Nat)
  | 0, _, _, _ => none
  | _ + 1, _, [], _ => none
  | f + 1, r, c :: t, k => if c = 125 then (if k = 0 ∨ 1114111 < r then none else some (r, k)) else match hexW c with | none => none | some d => uF f (16 * r + d) t (k + 1)
/-- A piece of a form: its bytes and how long it is; 0: there is none. -/
def pieceL (l : List UInt8) : List UInt8 × Nat :=
  match l with
  | [] => ([], 0)
  | [c] => if c ≠ 92 then ([c], 1) else ([], 0)
  | c :: d :: t =>
    if c ≠ 92 then ([c], 1)
    else if d = 34 ∨ d = 92 then ([d], 2)
    else if d = 110 then ([10], 2)
    else if d = 116 then ([9], 2)
    else if d = 120 then
      (match t with
        | a :: b :: _ => (match hexW a, hexW b with | some x, some y => ([UInt8.ofNat (16 * x + y)], 4) | _, _ => ([], 0))
        | _ => ([], 0))
    else if d = 117 then
      (match t with
        | [] => ([], 0)
        | o :: t' => if o = 123 then (match uF 7 0 t' 0 with | none => ([], 0) | some (r, k) => (bytesR r, k + 4)) else ([], 0))
    else ([], 0)
/-- The pieces up to the closing mark: the bytes, and where the mark stands. -/
def rbF : Nat → List UInt8 → List UInt8 → Nat → Option (List UInt8 × Nat)
  | 0, _, _, _ => none
  | _ + 1, [], _, _ => none
  | f + 1, c :: t, acc, i => if c = 34 then some (acc, i) else if (pieceL (c :: t)).2 = 0 then none else rbF f ((c :: t).drop (pieceL (c :: t)).2) (acc ++ (pieceL (c :: t)).1) (i + (pieceL (c :: t)).2)
def refU (l : List UInt8) : Option (List UInt8 × Nat) :=
  match l with
  | [] => none
  | c :: t => if c = 34 then (match rbF (t.length + 1) t [] 1 with | none => none | some (x, i) => if quoteL x = l.take (i + 1) then some (x, i + 1) else none) else none

theorem hexW_dig (n : Nat) (h : n < 16) : hexW (dig n) = some n := by
  unfold hexW
  rw [dig_val n h]
  by_cases h1 : n < 10
  · rw [if_pos h1, if_pos (by omega)]; congr 1; omega
  · rw [if_neg h1, if_neg (by omega), if_pos (by omega)]; congr 1; omega
/-- Digits read on: what uF has behind the digits of a number. -/
theorem uF_digits : ∀ (a : List UInt8) (f r k : Nat) (t : List UInt8), (∀ c ∈ a, ∃ m, m < 16 ∧ c = dig m) → a.length ≤ f → uF f r (a ++ t) k = uF (f - a.length) (a.foldl (fun r c => 16 * r + (hexW c).getD 0) r) t (k + a.length)
  | [], f, r, k, t, _, _ => rfl
  | c :: a, f, r, k, t, h, hf => by
    obtain ⟨m, hm, rfl⟩ := h c (by simp)
    obtain ⟨f, rfl⟩ : ∃ g, f = g + 1 := ⟨f - 1, by simp at hf; omega⟩
    simp only [List.length_cons] at hf ⊢
    rw [List.cons_append, uF, if_neg (dig_ne m hm).1, hexW_dig m hm]
    simp only []
    rw [uF_digits a f _ (k + 1) t (fun c hc => h c (by simp [hc])) (by omega)]
    rw [List.foldl_cons, hexW_dig m hm, show f + 1 - (a.length + 1) = f - a.length by omega, show k + 1 + a.length = k + (a.length + 1) by omega]
    rfl
theorem hex_fold (n : Nat) : (hexL n).foldl (fun r c => 16 * r + (hexW c).getD 0) 0 = n := by
  induction n using Nat.strongRecOn with
  | ind n ih =>
    rw [hexL]
    split
    · rename_i h; simp [hexW_dig n h]
    · rename_i h
      rw [List.foldl_append, ih (n / 16) (by omega)]
      simp [hexW_dig (n % 16) (by omega)]
      omega
/-- A piece as the reference takes it. -/
structure RPiece (p x : List UInt8) : Prop where
  take : ∀ t, pieceL (p ++ t) = (x, p.length)
  ne : p ≠ []
  open_ : p.head? ≠ some 34
theorem rpiece_x (b : UInt8) : RPiece (qX b) [b] := by
  have hb := b.toNat_lt
  refine ⟨fun t => ?_, by simp [qX], by simp [qX]⟩
  simp only [qX, List.cons_append, List.nil_append, pieceL]
  rw [if_neg (by simp), if_neg (by decide), if_neg (by decide), if_neg (by decide), if_pos trivial, hexW_dig _ (by omega), hexW_dig _ (by omega)]
  simp only [List.length_cons, List.length_nil]
  rw [show 16 * (b.toNat / 16) + b.toNat % 16 = b.toNat by omega]
  simp
theorem rpiece_r (r : Int) (hv : Utf8.valid r = true) : RPiece (qR r) (encB r) := by
  have hr := (valid_iff r).1 hv
  have one : ∀ n : Nat, n < 128 → encB (n : Int) = [UInt8.ofNat n] := fun n hn => by
    rcases encB_cases (n : Int) ((valid_iff _).2 (by omega)) with ⟨_, e⟩ | ⟨h, _⟩ | ⟨h, _⟩ | ⟨h, _⟩
    · rw [e]; simp
    all_goals omega
  unfold qR
  split
  · rename_i h; subst h
    rw [show encB 34 = [34] from one 34 (by decide)]
    exact ⟨fun t => by simp [pieceL], by simp, by simp⟩
  split
  · rename_i h; subst h
    rw [show encB 92 = [92] from one 92 (by decide)]
    exact ⟨fun t => by simp [pieceL], by simp, by simp⟩
  split
  · rename_i h; subst h
    rw [show encB 10 = [10] from one 10 (by decide)]
    exact ⟨fun t => by simp [pieceL], by simp, by simp⟩
  split
  · rename_i h; subst h
    rw [show encB 9 = [9] from one 9 (by decide)]
    exact ⟨fun t => by simp [pieceL], by simp, by simp⟩
  split
  · rename_i n1 n2 n3 n4 h
    obtain ⟨n, rfl⟩ : ∃ n : Nat, r = (n : Int) := ⟨r.toNat, by omega⟩
    rw [one n (by omega)]
    have hn : ∀ m, m < 128 → n ≠ m → UInt8.ofNat n ≠ UInt8.ofNat m := fun m hm hne e => by
      have := congrArg UInt8.toNat e
      rw [ofNat_toNat n (by omega), ofNat_toNat m (by omega)] at this
      exact hne this
    have h92 : UInt8.ofNat n ≠ 92 := hn 92 (by decide) (by omega)
    have h34 : UInt8.ofNat n ≠ 34 := hn 34 (by decide) (by omega)
    refine ⟨fun t => ?_, by simp, by simpa using h34⟩
    cases t with
    | nil => simp [pieceL, h92]
    | cons d t => simp [pieceL, h92]
  · have hl := hexL_le r.toNat (by omega)
    have hp := hexL_pos r.toNat
    refine ⟨fun t => ?_, by simp, by simp⟩
    have hu := uF_digits (hexL r.toNat) 7 0 0 (125 :: t) (hexL_digs r.toNat) (by omega)
    rw [hex_fold] at hu
    obtain ⟨f, hf⟩ : ∃ f, 7 - (hexL r.toNat).length = f + 1 := ⟨7 - (hexL r.toNat).length - 1, by omega⟩
    rw [hf, uF, if_pos rfl, if_neg (by omega)] at hu
    have e : [92, 117, 123] ++ hexL r.toNat ++ [125] ++ t = 92 :: 117 :: 123 :: (hexL r.toNat ++ 125 :: t) := by simp
    rw [e]
    simp only [pieceL]
    rw [if_neg (by simp), if_neg (by decide), if_neg (by decide), if_neg (by decide), if_neg (by decide), if_pos trivial, if_pos trivial, hu]
    simp only []
    rw [bytesR_enc r hv]
    simp
inductive RPieces : List UInt8 → List UInt8 → Prop where
  | nil : RPieces [] []
  | cons {p x q y : List UInt8} (h : RPiece p x) (t : RPieces q y) : RPieces (p ++ q) (x ++ y)
theorem rpieces_q : ∀ (f : Nat) (l : List UInt8), l.length ≤ f → RPieces (qS f l) l
  | 0, l, h => by
    obtain rfl : l = [] := List.length_eq_zero_iff.1 (by omega)
    exact .nil
  | f + 1, l, h => by
    by_cases hl : l = []
    · subst hl; exact .nil
    · cases hs : seq l with
      | none =>
        rw [qS_none (by omega) hl hs, seq_none_len hl hs]
        obtain ⟨b, t, rfl⟩ : ∃ b t, l = b :: t := by cases l with | nil => exact absurd rfl hl | cons b t => exact ⟨b, t, rfl⟩
        exact RPieces.cons (x := [b]) (rpiece_x b) (rpieces_q f t (by simp at h; omega))
      | some r =>
        obtain ⟨hv, t, rfl⟩ := seq_some hl hs
        rw [qS_some (by omega) hl hs, List.drop_left]
        have := (encB_len r).1
        exact RPieces.cons (rpiece_r r hv) (rpieces_q f t (by rw [List.length_append] at h; omega))
theorem RPieces.all {p x : List UInt8} (h : RPieces p x) : ∀ (f : Nat) (acc t : List UInt8) (i : Nat), p.length < f → rbF f (p ++ 34 :: t) acc i = some (acc ++ x, i + p.length) := by
  induction h with
  | nil =>
    intro f acc t i hf
    obtain ⟨f, rfl⟩ : ∃ g, f = g + 1 := ⟨f - 1, by simp at hf; omega⟩
    simp [rbF]
  | @cons p x q y h _ ih =>
    intro f acc t i hf
    rw [List.length_append] at hf
    obtain ⟨f, rfl⟩ : ∃ g, f = g + 1 := ⟨f - 1, by omega⟩
    obtain ⟨c, p', rfl⟩ : ∃ c p', p = c :: p' := by cases p with | nil => exact absurd rfl h.ne | cons c p' => exact ⟨c, p', rfl⟩
    have hc : c ≠ 34 := by have := h.open_; simpa using this
    have ht := h.take (q ++ 34 :: t)
    rw [List.append_assoc]
    rw [List.cons_append] at ht ⊢
    rw [rbF, if_neg hc, ht, if_neg (by simp)]
    simp only []
    rw [← List.cons_append, List.drop_left, ih f _ t _ (by simp only [List.length_cons] at hf; omega), List.append_assoc, List.length_append]
    congr 2; omega
theorem ref_quote (x t : List UInt8) : refU (quoteL x ++ t) = some (x, (quoteL x).length) := by
  have hp := rpieces_q x.length x (Nat.le_refl _)
  have e : quoteL x ++ t = 34 :: (qS x.length x ++ 34 :: t) := by simp [quoteL]
  have hb := hp.all ((qS x.length x ++ 34 :: t).length + 1) [] t 1 (by simp; omega)
  have hq := List.take_left (l₁ := quoteL x) (l₂ := t)
  rw [quoteL_len] at hq ⊢
  rw [e] at hq ⊢
  unfold refU
  simp only []
  rw [if_pos trivial, hb]
  simp only [List.nil_append]
  rw [show 1 + (qS x.length x).length + 1 = (qS x.length x).length + 2 by omega, hq, if_pos rfl]
theorem ref_sound {l x : List UInt8} {n : Nat} (h : refU l = some (x, n)) : ∃ t, l = quoteL x ++ t := by
  unfold refU at h
  split at h
  · cases h
  · split at h
    · split at h
      · cases h
      · split at h
        · rename_i hq
          obtain ⟨rfl, rfl⟩ := Prod.mk.inj (Option.some.inj h)
          exact ⟨_, by rw [hq]; exact (List.take_append_drop _ _).symm⟩
        · cases h
    · cases h
theorem ref_unq (l : List UInt8) : refU l = unqL l := by
  cases h : refU l with
  | some p =>
    obtain ⟨x, n⟩ := p
    obtain ⟨t, rfl⟩ := ref_sound h
    rw [ref_quote] at h
    rw [unq_quote, h]
  | none =>
    refine (unq_none' fun x t e => ?_).symm
    rw [e, ref_quote] at h
    cases h
end Go.Proofs.YtfgekdefnbohbaaDoor.U
