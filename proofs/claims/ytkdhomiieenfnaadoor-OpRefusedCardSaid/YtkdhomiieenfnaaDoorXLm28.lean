/- Quote in plain Lean: the quoted form of bytes. Unquote in plain Lean: what the program makes of a quoted form, and that it reads back what Quote writes. Other forms in plain Lean: a form with a rune more ahead is read; the same bytes written otherwise are no form. -/
import Derived.Test.YtkdhomiieenfnaaDoorXLm0
import Derived.Test.YtkdhomiieenfnaaDoorXLm4
namespace Go.Proofs.YtkdhomiieenfnaaDoor.U
open Go Go.Proofs.YtkdhomiieenfnaaDoor.Txt
set_option linter.unusedVariables false
set_option linter.unusedSimpArgs false

/-- The form of a rune. -/
def qR (r : Int) : List UInt8 :=
  if r = 34 then [92, 34] else if r = 92 then [92, 92] else if r = 10 then [92, 110] else if r = 9 then [92, 116]
  else if 32 ≤ r ∧ r ≤ 126 then encB r else [92, 117, 123] ++ hexL r.toNat ++ [125]
/-- The form of a byte at which no sequence begins. -/
def qX (x : UInt8) : List UInt8 := [92, 120, dig (x.toNat / 16), dig (x.toNat % 16)]
/-- The forms of all that stands in l. -/
def qS : Nat → List UInt8 → List UInt8
  | 0, _ => []
  | f + 1, l => if l = [] then [] else
      match seq l with
      | none => qX (l.headD 0) ++ qS f (l.drop (decL l).2)
      | some r => qR r ++ qS f (l.drop (encB r).length)
def quoteL (l : List UInt8) : List UInt8 := 34 :: (qS l.length l ++ [34])

theorem hexL_le (n : Nat) (h : n < 16777216) : (hexL n).length ≤ 6 := by
  have H : ∀ k n, n < 16 ^ (k + 1) → (hexL n).length ≤ k + 1 := by
    intro k
    induction k with
    | zero => intro n h; rw [hexL, if_pos (by omega)]; simp
    | succ k ih =>
      intro n h
      rw [hexL]
      split
      · simp
      · have := ih (n / 16) (by rw [Nat.pow_succ] at h; omega)
        simp; omega
  exact H 5 n (by omega)
theorem qR_le (r : Int) (h : r ≤ 1114111) : (qR r).length ≤ 10 := by
  unfold qR
  have h1 := hexL_le r.toNat (by omega)
  have h2 := (encB_len r).2
  repeat' split
  all_goals simp
  all_goals omega
theorem decL_pos (l : List UInt8) (h : l ≠ []) : 1 ≤ (decL l).2 := by
  unfold decL
  rcases l with _ | ⟨b, l⟩
  · exact absurd rfl h
  · simp only []
    repeat' split
    all_goals simp
theorem decL_le (l : List UInt8) (h : l ≠ []) : (decL l).2 ≤ l.length := by
  unfold decL
  rcases l with _ | ⟨b, l⟩
  · exact absurd rfl h
  · simp only []
    repeat' split
    all_goals simp_all
    all_goals omega
theorem qS_none {f : Nat} {l : List UInt8} (hf : 0 < f) (hl : l ≠ []) (h : seq l = none) : qS f l = qX (l.headD 0) ++ qS (f - 1) (l.drop (decL l).2) := by
  obtain ⟨f, rfl⟩ : ∃ j, f = j + 1 := ⟨f - 1, by omega⟩
  rw [qS, if_neg hl, h]
  rfl
theorem qS_some {f : Nat} {l : List UInt8} (hf : 0 < f) (hl : l ≠ []) {r : Int} (h : seq l = some r) : qS f l = qR r ++ qS (f - 1) (l.drop (encB r).length) := by
  obtain ⟨f, rfl⟩ : ∃ j, f = j + 1 := ⟨f - 1, by omega⟩
  rw [qS, if_neg hl, h]
  rfl
theorem qS_fuel : ∀ (f f' : Nat) (l : List UInt8), l.length ≤ f → l.length ≤ f' → qS f l = qS f' l := by
  intro f
  induction f with
  | zero =>
    intro f' l h h'
    have : l = [] := List.length_eq_zero_iff.1 (by omega)
    subst this
    cases f' <;> rfl
  | succ f ih =>
    intro f' l h h'
    by_cases hl : l = []
    · subst hl; cases f' <;> rfl
    · have h0 := List.length_pos_iff.2 hl
      cases hq : seq l with
      | none =>
        have := decL_pos l hl
        rw [qS_none (by omega) hl hq, qS_none (by omega) hl hq]
        congr 1
        exact ih _ _ (by rw [List.length_drop]; omega) (by rw [List.length_drop]; omega)
      | some r =>
        have := (encB_len r).1
        rw [qS_some (by omega) hl hq, qS_some (by omega) hl hq]
        congr 1
        exact ih _ _ (by rw [List.length_drop]; omega) (by rw [List.length_drop]; omega)
end Go.Proofs.YtkdhomiieenfnaaDoor.U

namespace Go.Proofs.YtkdhomiieenfnaaDoor.U
open Go Go.Proofs.YtkdhomiieenfnaaDoor.Txt
set_option linter.unusedVariables false
set_option linter.unusedSimpArgs false

/-- Where the form ends: behind the first mark that no \ stands ahead of (k: is this byte gone over unseen?); 0: nowhere. -/
def endT : Bool → List UInt8 → Nat → Nat
  | _, [], _ => 0
  | true, _ :: t, i => endT false t (i + 1)
  | false, c :: t, i => if c = 34 then i + 1 else if c = 92 then endT true t (i + 1) else endT false t (i + 1)
def endL : List UInt8 → Nat
  | [] => 0
  | c :: t => if c = 34 then endT false t 1 else 0
theorem endT_le : ∀ (k : Bool) (l : List UInt8) (i : Nat), endT k l i ≤ i + l.length
  | k, [], i => by cases k <;> simp [endT]
  | true, c :: t, i => by have := endT_le false t (i + 1); simp only [endT, List.length_cons]; omega
  | false, c :: t, i => by
    have h1 := endT_le false t (i + 1)
    have h2 := endT_le true t (i + 1)
    simp only [endT, List.length_cons]
    split
    · omega
    · split <;> omega
theorem endL_le : ∀ l : List UInt8, endL l ≤ l.length
  | [] => Nat.le_refl _
  | c :: t => by
    have h := endT_le false t 1
    show (if c = 34 then endT false t 1 else 0) ≤ (c :: t).length
    simp only [List.length_cons]
    split <;> omega
/-- The number of a digit, a small or a capital letter. -/
def hexV (c : UInt8) : Option Nat :=
  if 48 ≤ c.toNat ∧ c.toNat ≤ 57 then some (c.toNat - 48) else if 97 ≤ c.toNat ∧ c.toNat ≤ 102 then some (c.toNat - 87) else if 65 ≤ c.toNat ∧ c.toNat ≤ 70 then some (c.toNat - 55) else none
/-- The number of digits, behind one that is known. -/
def parseF : Nat → List UInt8 → Option Nat
  | a, [] => some a
  | a, c :: t => match hexV c with | none => none | some d => parseF (a * 16 + d) t
def parseH (l : List UInt8) : Option Nat := parseF 0 l
/-- Where a byte stands first. -/
def idxL (c : UInt8) : List UInt8 → Option Nat
  | [] => none
  | x :: t => if x = c then some 0 else (idxL c t).map (· + 1)
/-- What stands behind a \: its bytes, and how many it took; 0: nothing. -/
def escL (l : List UInt8) : List UInt8 × Nat :=
  match l with
  | [] => ([], 0)
  | h :: t =>
    if h = 34 ∨ h = 92 then ([h], 1)
    else if h = 110 then ([10], 1)
    else if h = 116 then ([9], 1)
    else if h = 120 then (if l.length < 3 then ([], 0) else match parseH (t.take 2) with | none => ([], 0) | some n => ([UInt8.ofNat n], 3))
    else if h = 117 then
      match idxL 125 l with
      | none => ([], 0)
      | some e => if e < 3 ∨ 8 < e ∨ l.getD 1 0 ≠ 123 then ([], 0) else
        match parseH ((l.take e).drop 2) with
        | none => ([], 0)
        | some n => if 1114111 < n then ([], 0) else (encB n, e + 1)
    else ([], 0)
theorem escL_le (l : List UInt8) : (escL l).2 ≤ l.length := by
  have hidx : ∀ (l : List UInt8) e, idxL 125 l = some e → e < l.length := by
    intro l
    induction l with
    | nil => intro e h; cases h
    | cons x t ih =>
      intro e h
      unfold idxL at h
      split at h
      · cases h; simp
      · cases hi : idxL 125 t with
        | none => rw [hi] at h; cases h
        | some k => rw [hi] at h; cases h; have := ih k hi; simp; omega
  unfold escL
  split
  · simp
  · rename_i h t
    repeat' split
    all_goals simp_all
    all_goals (have := hidx _ _ ‹_›; simp at this; omega)
/-- The bytes that the pieces of a form mean. -/
def bodyF : Nat → List UInt8 → Option (List UInt8)
  | 0, _ => some []
  | _ + 1, [] => some []
  | f + 1, c :: t => if c ≠ 92 then (bodyF f t).map (c :: ·) else if (escL t).2 = 0 then none else (bodyF f (t.drop (escL t).2)).map ((escL t).1 ++ ·)
def bodyL (l : List UInt8) : Option (List UInt8) := bodyF l.length l
/-- Unquote: the bytes and how many it took. -/
def unqL (l : List UInt8) : Option (List UInt8 × Nat) :=
  if endL l = 0 then none else
    match bodyL ((l.take (endL l - 1)).drop 1) with
    | none => none
    | some x => if quoteL x = l.take (endL l) then some (x, endL l) else none

/-! ### Digits read back -/
theorem dig_val (n : Nat) (h : n < 16) : (dig n).toNat = if n < 10 then 48 + n else 87 + n := by
  unfold dig
  split <;> simp <;> omega
theorem hexV_dig (n : Nat) (h : n < 16) : hexV (dig n) = some n := by
  unfold hexV
  rw [dig_val n h]
  by_cases h1 : n < 10
  · rw [if_pos h1, if_pos (by omega)]; congr 1; omega
  · rw [if_neg h1, if_neg (by omega), if_pos (by omega)]; congr 1; omega
theorem parseF_append : ∀ (a b : List UInt8) (n : Nat), parseF n (a ++ b) = (parseF n a).bind fun m => parseF m b
  | [], b, n => rfl
  | c :: t, b, n => by
    simp only [List.cons_append, parseF]
    cases hexV c with
    | none => rfl
    | some d => exact parseF_append t b _
theorem parse_hex (n : Nat) : parseH (hexL n) = some n := by
  induction n using Nat.strongRecOn with
  | ind n ih =>
    rw [hexL]
    split
    · rename_i h
      simp [parseH, parseF, hexV_dig n h]
    · rename_i h
      have := ih (n / 16) (by omega)
      unfold parseH at this ⊢
      rw [parseF_append, this]
      simp only [Option.bind_some, parseF, hexV_dig (n % 16) (by omega)]
      congr 1; omega
theorem dig_ne (n : Nat) (h : n < 16) : dig n ≠ 125 ∧ dig n ≠ 34 ∧ dig n ≠ 92 := by
  have := dig_val n h
  refine ⟨fun e => ?_, fun e => ?_, fun e => ?_⟩
  all_goals
    rw [e] at this
    simp at this
    split at this <;> omega
theorem hexL_digs (n : Nat) : ∀ c ∈ hexL n, ∃ m, m < 16 ∧ c = dig m := by
  induction n using Nat.strongRecOn with
  | ind n ih =>
    intro c hc
    rw [hexL] at hc
    split at hc
    · rename_i h
      exact ⟨n, h, List.mem_singleton.1 hc⟩
    · rename_i h
      rcases List.mem_append.1 hc with h1 | h1
      · exact ih (n / 16) (by omega) c h1
      · exact ⟨n % 16, by omega, List.mem_singleton.1 h1⟩
theorem idxL_skip (c : UInt8) : ∀ (a b : List UInt8), (∀ x ∈ a, x ≠ c) → idxL c (a ++ c :: b) = some a.length
  | [], b, _ => by simp [idxL]
  | x :: a, b, h => by
    have := idxL_skip c a b (fun y hy => h y (by simp [hy]))
    simp [idxL, this, h x (by simp)]

/-! ### A form's pieces -/
/-- A piece of a form: how it is gone over, and what it means. -/
structure Piece (p x : List UInt8) : Prop where
  go : ∀ (t : List UInt8) (i : Nat), endT false (p ++ t) i = endT false t (i + p.length)
  mean : ∀ (t : List UInt8) (f : Nat), p.length ≤ f → bodyF f (p ++ t) = (bodyF (f - 1) t).map (x ++ ·) ∨ p = []
  pos : p ≠ []
theorem piece_char (c : UInt8) (h1 : c ≠ 34) (h2 : c ≠ 92) : Piece [c] [c] := by
  refine ⟨fun t i => by simp [endT, h1, h2], fun t f hf => .inl ?_, by simp⟩
  obtain ⟨f, rfl⟩ : ∃ g, f = g + 1 := ⟨f - 1, by simp at hf; omega⟩
  simp [bodyF, h2]
theorem endT_digits : ∀ (a t : List UInt8) (i : Nat), (∀ x ∈ a, x ≠ 34 ∧ x ≠ 92) → endT false (a ++ t) i = endT false t (i + a.length)
  | [], t, i, _ => rfl
  | x :: a, t, i, h => by
    have h1 := h x (by simp)
    simp only [List.cons_append, endT]
    rw [if_neg h1.1, if_neg h1.2, endT_digits a t (i + 1) (fun y hy => h y (by simp [hy])), List.length_cons]
    congr 1; omega
/-- A piece that begins with a \. -/
theorem piece_esc (c : UInt8) (p x : List UInt8) (h : ∀ y ∈ p, y ≠ 34 ∧ y ≠ 92) (he : ∀ t, escL (c :: (p ++ t)) = (x, p.length + 1)) : Piece (92 :: c :: p) x := by
  refine ⟨fun t i => ?_, fun t f hf => .inl ?_, by simp⟩
  · have : endT false (92 :: c :: p ++ t) i = endT false (p ++ t) (i + 2) := by simp [endT]
    rw [this, endT_digits p t (i + 2) h]
    congr 1
    simp only [List.length_cons]; omega
  · obtain ⟨f, rfl⟩ : ∃ g, f = g + 1 := ⟨f - 1, by simp at hf; omega⟩
    rw [List.cons_append, bodyF, if_neg (by simp), List.cons_append, he t]
    simp
theorem piece_x (b : UInt8) : Piece (qX b) [b] := by
  have hb := b.toNat_lt
  refine piece_esc 120 [dig (b.toNat / 16), dig (b.toNat % 16)] [b] ?_ ?_
  · intro y hy
    simp at hy
    rcases hy with rfl | rfl
    · exact (dig_ne _ (by omega)).2
    · exact (dig_ne _ (by omega)).2
  · intro t
    have hp : parseH [dig (b.toNat / 16), dig (b.toNat % 16)] = some b.toNat := by
      simp only [parseH, parseF, hexV_dig _ (show b.toNat / 16 < 16 by omega), hexV_dig _ (show b.toNat % 16 < 16 by omega)]
      congr 1; omega
    simp [escL, hp]
theorem piece_r (r : Int) (hv : Utf8.valid r = true) : Piece (qR r) (encB r) := by
  have hr := (valid_iff r).1 hv
  have one : ∀ n : Nat, n < 128 → encB (n : Int) = [UInt8.ofNat n] := fun n hn => by
    rcases encB_cases (n : Int) ((valid_iff _).2 (by omega)) with ⟨_, e⟩ | ⟨h, _⟩ | ⟨h, _⟩ | ⟨h, _⟩
    · rw [e]; simp
    all_goals omega
  unfold qR
  split
  · rename_i h; subst h
    rw [show encB 34 = [34] from one 34 (by decide)]
    exact piece_esc 34 [] [34] (by simp) (fun t => by simp [escL])
  split
  · rename_i h; subst h
    rw [show encB 92 = [92] from one 92 (by decide)]
    exact piece_esc 92 [] [92] (by simp) (fun t => by simp [escL])
  split
  · rename_i h; subst h
    rw [show encB 10 = [10] from one 10 (by decide)]
    exact piece_esc 110 [] [10] (by simp) (fun t => by simp [escL])
  split
  · rename_i h; subst h
    rw [show encB 9 = [9] from one 9 (by decide)]
    exact piece_esc 116 [] [9] (by simp) (fun t => by simp [escL])
  split
  · rename_i n1 n2 n3 n4 h
    obtain ⟨n, rfl⟩ : ∃ n : Nat, r = (n : Int) := ⟨r.toNat, by omega⟩
    rw [one n (by omega)]
    refine piece_char _ (fun e => ?_) (fun e => ?_)
    · have := congrArg UInt8.toNat e
      rw [ofNat_toNat n (by omega)] at this
      simp at this; omega
    · have := congrArg UInt8.toNat e
      rw [ofNat_toNat n (by omega)] at this
      simp at this; omega
  · have hl := hexL_le r.toNat (by omega)
    have hp := hexL_pos r.toNat
    have hd := hexL_digs r.toNat
    have hne : ∀ y ∈ hexL r.toNat, y ≠ 125 ∧ y ≠ 34 ∧ y ≠ 92 := fun y hy => by
      obtain ⟨m, h1, rfl⟩ := hd y hy
      exact dig_ne m h1
    rw [show [92, 117, 123] ++ hexL r.toNat ++ [125] = 92 :: 117 :: ([123] ++ hexL r.toNat ++ [125]) by simp]
    refine piece_esc 117 _ (encB r) ?_ ?_
    · intro y hy
      simp at hy
      rcases hy with rfl | hy | rfl
      · decide
      · exact (hne y hy).2
      · decide
    · intro t
      have hi : idxL 125 (117 :: ([123] ++ hexL r.toNat ++ [125] ++ t)) = some (hexL r.toNat).length.succ.succ := by
        have := idxL_skip 125 (117 :: 123 :: hexL r.toNat) t (by
          intro x hx
          rcases List.mem_cons.1 hx with rfl | hx
          · decide
          rcases List.mem_cons.1 hx with rfl | hx
          · decide
          · exact (hne x hx).1)
        simpa using this
      have ht : ((117 :: ([123] ++ hexL r.toNat ++ [125] ++ t)).take (hexL r.toNat).length.succ.succ).drop 2 = hexL r.toNat := by simp
      simp only [escL]
      rw [if_neg (by decide), if_neg (by decide), if_neg (by decide), if_neg (by decide), if_pos trivial, hi]
      simp only []
      rw [if_neg (by simp; omega), ht, parse_hex]
      simp only []
      rw [if_neg (by omega), show ((r.toNat : Nat) : Int) = r by omega]
      simp
/-- What Quote writes of l, as pieces. -/
inductive Pieces : List UInt8 → List UInt8 → Prop where
  | nil : Pieces [] []
  | cons {p x q y : List UInt8} (h : Piece p x) (t : Pieces q y) : Pieces (p ++ q) (x ++ y)
theorem seq_none_len {l : List UInt8} (hl : l ≠ []) (h : seq l = none) : (decL l).2 = 1 := by
  have hf := decL_form l
  have hs := seq_ref l hl
  rw [h] at hs
  have hs : seqR l = none := by cases h2 : seqR l with | none => rfl | some n => rw [h2] at hs; cases hs
  unfold seqR at hs
  rw [hf]
  by_cases h0 : bAt l 0 < 128
  · rw [if_pos h0] at hs; cases hs
  rw [if_neg h0] at hs ⊢
  by_cases h2 : bAt l 0 / 32 = 6
  · rw [if_pos h2] at hs
    by_cases g : goesOn l 1 ∧ runeOk 128 (r2 l)
    · rw [if_pos g] at hs; cases hs
    · by_cases g1 : goesOn l 1
      · have hr : r2 l < 2048 := by unfold r2; have := bAt_lt l 0; omega
        rw [if_pos ⟨h2, g1⟩, if_neg (fun h => g ⟨g1, h, by omega, by omega⟩)]
      · rw [if_neg (fun h => g1 h.2), if_neg (by omega), if_neg (by omega)]
  rw [if_neg h2] at hs
  rw [if_neg (fun h => h2 h.1)]
  by_cases h3 : bAt l 0 / 16 = 14
  · rw [if_pos h3] at hs
    by_cases g : goesOn l 1 ∧ goesOn l 2
    · rw [if_pos ⟨h3, g⟩]
      by_cases hk : runeOk 2048 (r3 l)
      · rw [if_pos ⟨g.1, g.2, hk⟩] at hs; cases hs
      · rw [if_neg (fun h => hk ⟨h.1, by have := (valid_nat _).1 h.2; omega, by have := (valid_nat _).1 h.2; omega⟩)]
    · rw [if_neg (fun h => g h.2), if_neg (by omega)]
  rw [if_neg h3] at hs
  rw [if_neg (fun h => h3 h.1)]
  by_cases h4 : bAt l 0 / 8 = 30
  · rw [if_pos h4] at hs
    by_cases g : goesOn l 1 ∧ goesOn l 2 ∧ goesOn l 3
    · rw [if_pos ⟨h4, g⟩]
      by_cases hk : runeOk 65536 (r4 l)
      · rw [if_pos ⟨g.1, g.2.1, g.2.2, hk⟩] at hs; cases hs
      · rw [if_neg (fun h => hk ⟨h.1, by have := (valid_nat _).1 h.2; omega, by have := (valid_nat _).1 h.2; omega⟩)]
    · rw [if_neg (fun h => g h.2)]
  · rw [if_neg (fun h => h4 h.1)]
theorem pieces_q : ∀ (f : Nat) (l : List UInt8), l.length ≤ f → Pieces (qS f l) l
  | 0, l, h => by
    obtain rfl : l = [] := List.length_eq_zero_iff.1 (by omega)
    exact .nil
  | f + 1, l, h => by
    by_cases hl : l = []
    · subst hl; exact .nil
    · cases hs : seq l with
      | none =>
        rw [qS_none (by omega) hl hs, seq_none_len hl hs]
        obtain ⟨b, t, rfl⟩ : ∃ b t, l = b :: t := by cases l with | nil => exact absurd rfl hl | cons b t => exact ⟨b, t, rfl⟩
        exact Pieces.cons (x := [b]) (piece_x b) (pieces_q f t (by simp at h; omega))
      | some r =>
        obtain ⟨hv, t, rfl⟩ := seq_some hl hs
        rw [qS_some (by omega) hl hs, List.drop_left]
        have := (encB_len r).1
        exact Pieces.cons (piece_r r hv) (pieces_q f t (by rw [List.length_append] at h; omega))
theorem Pieces.go {p x : List UInt8} (h : Pieces p x) : ∀ (t : List UInt8) (i : Nat), endT false (p ++ t) i = endT false t (i + p.length) := by
  induction h with
  | nil => intro t i; rfl
  | cons h _ ih => intro t i; rw [List.append_assoc, h.go, ih, List.length_append]; congr 1; omega
theorem bodyF_fuel : ∀ (f g : Nat) (l : List UInt8), l.length ≤ f → l.length ≤ g → bodyF f l = bodyF g l
  | 0, g, l, h, _ => by
    obtain rfl : l = [] := List.length_eq_zero_iff.1 (by omega)
    cases g <;> rfl
  | f + 1, 0, l, _, h => by
    obtain rfl : l = [] := List.length_eq_zero_iff.1 (by omega)
    rfl
  | f + 1, g + 1, [], _, _ => rfl
  | f + 1, g + 1, c :: t, h, h' => by
    simp only [List.length_cons] at h h'
    simp only [bodyF]
    rw [bodyF_fuel f g t (by omega) (by omega), bodyF_fuel f g (t.drop (escL t).2) (by rw [List.length_drop]; omega) (by rw [List.length_drop]; omega)]
theorem Pieces.mean {p x : List UInt8} (h : Pieces p x) : ∀ (f : Nat), p.length ≤ f → bodyF f p = some x := by
  induction h with
  | nil => intro f hf; cases f <;> rfl
  | @cons p x q y h t ih =>
    intro f hf
    rw [List.length_append] at hf
    rcases h.mean q f (by omega) with e | e
    · rw [e]
      have hp : 0 < p.length := List.length_pos_iff.2 h.pos
      rw [ih (f - 1) (by omega)]
      rfl
    · exact absurd e h.pos
theorem quoteL_len (x : List UInt8) : (quoteL x).length = (qS x.length x).length + 2 := by simp [quoteL]
theorem unq_quote (x t : List UInt8) : unqL (quoteL x ++ t) = some (x, (quoteL x).length) := by
  have hp := pieces_q x.length x (Nat.le_refl _)
  have he : endL (quoteL x ++ t) = (quoteL x).length := by
    rw [quoteL_len]
    unfold quoteL
    rw [List.cons_append, List.append_assoc]
    show (if (34 : UInt8) = 34 then endT false (qS x.length x ++ ([34] ++ t)) 1 else 0) = _
    rw [if_pos rfl, hp.go]
    show (if (34 : UInt8) = 34 then 1 + (qS x.length x).length + 1 else _) = _
    rw [if_pos rfl]
    omega
  unfold unqL
  rw [he, if_neg (by rw [quoteL_len]; omega)]
  have hb : (((quoteL x ++ t).take ((quoteL x).length - 1)).drop 1) = qS x.length x := by
    rw [quoteL_len, List.take_append_of_le_length (by rw [quoteL_len]; omega)]
    unfold quoteL
    rw [show (qS x.length x).length + 2 - 1 = (qS x.length x).length + 1 by omega, List.take_succ_cons, List.take_left, List.drop_succ_cons, List.drop_zero]
  rw [hb]
  unfold bodyL
  rw [hp.mean _ (Nat.le_refl _)]
  simp only []
  rw [if_pos (by rw [List.take_left])]
theorem unq_sound {l x : List UInt8} {n : Nat} (h : unqL l = some (x, n)) : ∃ t, l = quoteL x ++ t ∧ n = (quoteL x).length := by
  unfold unqL at h
  split at h
  · cases h
  · split at h
    · cases h
    · split at h
      · rename_i hq
        obtain ⟨rfl, rfl⟩ := Prod.mk.inj (Option.some.inj h)
        refine ⟨l.drop (endL l), by rw [hq, List.take_append_drop], ?_⟩
        have hle := endL_le l
        rw [hq, List.length_take]
        omega
      · cases h
theorem quote_uniq {x y t u : List UInt8} (h : quoteL x ++ t = quoteL y ++ u) : x = y ∧ t = u := by
  have h1 := unq_quote x t
  rw [h, unq_quote y u] at h1
  obtain ⟨rfl, _⟩ := Prod.mk.inj (Option.some.inj h1)
  exact ⟨rfl, List.append_cancel_left h⟩
theorem unq_none {l : List UInt8} (h : unqL l = none) : ∀ x t, l ≠ quoteL x ++ t := fun x t e => by
  rw [e, unq_quote] at h; cases h
theorem unq_none' {l : List UInt8} (h : ∀ x t, l ≠ quoteL x ++ t) : unqL l = none := by
  cases hu : unqL l with
  | none => rfl
  | some p => obtain ⟨x, n⟩ := p; obtain ⟨t, e, _⟩ := unq_sound hu; exact absurd e (h x t)
end Go.Proofs.YtkdhomiieenfnaaDoor.U

namespace Go.Proofs.YtkdhomiieenfnaaDoor.U
open Go Go.Proofs.YtkdhomiieenfnaaDoor.Txt
set_option linter.unusedVariables false
set_option linter.unusedSimpArgs false

theorem dig_inj {m n : Nat} (hm : m < 16) (hn : n < 16) (h : dig m = dig n) : m = n := by
  have := congrArg hexV h
  rw [hexV_dig m hm, hexV_dig n hn] at this
  exact Option.some.inj this
theorem encB_ascii (n : Nat) (hn : n < 128) : encB (n : Int) = [UInt8.ofNat n] := by
  rcases encB_cases (n : Int) ((valid_iff _).2 (by omega)) with ⟨_, e⟩ | ⟨h, _⟩ | ⟨h, _⟩ | ⟨h, _⟩
  · rw [e]; simp
  all_goals omega
theorem seq_ascii (b : UInt8) (hb : b.toNat < 128) (t : List UInt8) : seq (b :: t) = some (b.toNat : Int) := by
  have h := seq_enc (b.toNat : Int) ((valid_iff _).2 (by omega)) t
  rw [encB_ascii _ hb] at h
  have e : UInt8.ofNat b.toNat = b := u8_eq b _ rfl
  rwa [e] at h
theorem quote_more (r : Int) (hv : Utf8.valid r = true) (l : List UInt8) : quoteL (encB r ++ l) = 34 :: (qR r ++ (qS l.length l ++ [34])) := by
  unfold quoteL
  have h1 := (encB_len r).1
  rw [qS_some (by rw [List.length_append]; omega) (encB_ne r l) (seq_enc r hv l), List.drop_left, qS_fuel _ l.length l (by rw [List.length_append]; omega) (Nat.le_refl _), List.append_assoc]
/-- How a form begins. -/
theorem form_cases (x : List UInt8) : quoteL x = [34, 34] ∨ (∃ b y, x = b :: y ∧ seq x = none ∧ quoteL x = 34 :: (qX b ++ (qS y.length y ++ [34]))) ∨ (∃ r y, Utf8.valid r = true ∧ x = encB r ++ y ∧ quoteL x = 34 :: (qR r ++ (qS y.length y ++ [34]))) := by
  by_cases hx : x = []
  · subst hx; exact .inl rfl
  cases hs : seq x with
  | none =>
    obtain ⟨b, y, rfl⟩ : ∃ b t, x = b :: t := by cases x with | nil => exact absurd rfl hx | cons b t => exact ⟨b, t, rfl⟩
    refine .inr (.inl ⟨b, y, rfl, rfl, ?_⟩)
    unfold quoteL
    rw [qS_none (by simp) hx hs, seq_none_len hx hs]
    simp
  | some r =>
    obtain ⟨hv, y, rfl⟩ := seq_some hx hs
    exact .inr (.inr ⟨r, y, hv, rfl, quote_more r hv y⟩)
/-- The forms of runes have no \x. -/
theorem qR_no_x (r : Int) (t u : List UInt8) (h : qR r ++ t = 92 :: 120 :: u) (hv : Utf8.valid r = true) : False := by
  have hr := (valid_iff r).1 hv
  unfold qR at h
  split at h
  · simp at h
  split at h
  · simp at h
  split at h
  · simp at h
  split at h
  · simp at h
  split at h
  · rename_i n1 n2 n3 n4 h5
    obtain ⟨n, rfl⟩ : ∃ n : Nat, r = (n : Int) := ⟨r.toNat, by omega⟩
    rw [encB_ascii n (by omega)] at h
    have h6 := congrArg UInt8.toNat (List.cons.inj h).1
    rw [ofNat_toNat n (by omega)] at h6
    simp at h6
    omega
  · simp at h
/-- A rune's form that begins with \u{ is the one of its digits. -/
theorem qR_u (r : Int) (t u : List UInt8) (h : qR r ++ t = 92 :: 117 :: 123 :: u) (hv : Utf8.valid r = true) : u = hexL r.toNat ++ 125 :: t := by
  have hr := (valid_iff r).1 hv
  unfold qR at h
  split at h
  · simp at h
  split at h
  · simp at h
  split at h
  · simp at h
  split at h
  · simp at h
  split at h
  · rename_i n1 n2 n3 n4 h5
    obtain ⟨n, rfl⟩ : ∃ n : Nat, r = (n : Int) := ⟨r.toNat, by omega⟩
    rw [encB_ascii n (by omega)] at h
    have h6 := congrArg UInt8.toNat (List.cons.inj h).1
    rw [ofNat_toNat n (by omega)] at h6
    simp at h6
    omega
  · simp at h
    rw [← h]
theorem hexL_head (n : Nat) : n = 0 ∨ ∃ m t, 1 ≤ m ∧ m < 16 ∧ hexL n = dig m :: t := by
  induction n using Nat.strongRecOn with
  | ind n ih =>
    by_cases h : n < 16
    · by_cases h0 : n = 0
      · exact .inl h0
      · exact .inr ⟨n, [], by omega, h, by rw [hexL, if_pos h]⟩
    · rcases ih (n / 16) (by omega) with h1 | ⟨m, t, h1, h2, e⟩
      · omega
      · exact .inr ⟨m, t ++ [dig (n % 16)], h1, h2, by rw [hexL, if_neg h, e]; rfl⟩
theorem hex_e9 : hexL 233 = [101, 57] := by decide +kernel
theorem enc_e9 : encB 233 = [195, 169] := by decide +kernel
theorem read_more (l : List UInt8) : unqL (34 :: 92 :: 117 :: 123 :: 101 :: 57 :: 125 :: (qS l.length l ++ [34])) = some (195 :: 169 :: l, (quoteL l).length + 6) := by
  have h := quote_more 233 (by decide +kernel) l
  have e : qR 233 = [92, 117, 123, 101, 57, 125] := by
    unfold qR
    rw [if_neg (by decide), if_neg (by decide), if_neg (by decide), if_neg (by decide), if_neg (by decide), show (233 : Int).toNat = 233 from rfl, hex_e9]
    rfl
  rw [e, enc_e9] at h
  have := unq_quote (195 :: 169 :: l) []
  rw [List.append_nil] at this
  have h2 : quoteL (195 :: 169 :: l) = 34 :: 92 :: 117 :: 123 :: 101 :: 57 :: 125 :: (qS l.length l ++ [34]) := h
  rw [h2] at this
  rw [this]
  simp [quoteL]
theorem no_x (a b : Nat) (ha : a < 8) (hb : b < 16) (t : List UInt8) : unqL (34 :: 92 :: 120 :: dig a :: dig b :: t) = none := by
  apply unq_none'
  intro x u h
  rcases form_cases x with e | ⟨c, y, rfl, hs, e⟩ | ⟨r, y, hv, rfl, e⟩
  · rw [e] at h; simp at h
  · rw [e] at h
    simp [qX] at h
    obtain ⟨h1, h2, _⟩ := h
    have hc := c.toNat_lt
    have h1 := dig_inj (by omega) (by omega) h1
    have h2 := dig_inj (by omega) (by omega) h2
    rw [seq_ascii c (by omega)] at hs
    cases hs
  · rw [e, List.cons_append, List.append_assoc] at h
    exact qR_no_x r _ _ (List.cons.inj h).2.symm hv
theorem no_0 (a b : Nat) (ha : a < 16) (hb : b < 16) (t : List UInt8) : unqL (34 :: 92 :: 117 :: 123 :: 48 :: dig a :: dig b :: 125 :: t) = none := by
  apply unq_none'
  intro x u h
  rcases form_cases x with e | ⟨c, y, rfl, hs, e⟩ | ⟨r, y, hv, rfl, e⟩
  · rw [e] at h; simp at h
  · rw [e] at h
    simp [qX] at h
  · rw [e, List.cons_append, List.append_assoc] at h
    have h1 := qR_u r _ _ (List.cons.inj h).2.symm hv
    rcases hexL_head r.toNat with h0 | ⟨m, s, hm, hm', he⟩
    · rw [h0, show hexL 0 = [48] by decide +kernel] at h1
      simp at h1
      exact (dig_ne a ha).1 h1.1
    · rw [he] at h1
      simp at h1
      have := dig_inj (m := 0) (by omega) hm' (by rw [← h1.1]; decide +kernel)
      omega
theorem no_E9 (t : List UInt8) : unqL (34 :: 92 :: 117 :: 123 :: 69 :: t) = none := by
  apply unq_none'
  intro x u h
  rcases form_cases x with e | ⟨c, y, rfl, hs, e⟩ | ⟨r, y, hv, rfl, e⟩
  · rw [e] at h; simp at h
  · rw [e] at h
    simp [qX] at h
  · rw [e, List.cons_append, List.append_assoc] at h
    have h1 := qR_u r _ _ (List.cons.inj h).2.symm hv
    have hp := hexL_pos r.toNat
    have hd := hexL_digs r.toNat
    cases hx : hexL r.toNat with
    | nil => rw [hx] at hp; simp at hp
    | cons c s =>
      rw [hx] at h1 hd
      obtain ⟨m, hm, e2⟩ := hd c (by simp)
      simp at h1
      have := dig_val m hm
      rw [← e2, ← h1.1] at this
      simp at this
      split at this <;> omega
theorem no_bytes (t : List UInt8) : unqL (34 :: 92 :: 120 :: 99 :: 51 :: 92 :: 120 :: 97 :: 57 :: t) = none := by
  apply unq_none'
  intro x u h
  rcases form_cases x with e | ⟨c, y, rfl, hs, e⟩ | ⟨r, y, hv, rfl, e⟩
  · rw [e] at h; simp at h
  · rw [e] at h
    simp [qX] at h
    obtain ⟨h1, h2, h3⟩ := h
    have hc := c.toNat_lt
    have g1 := dig_inj (m := 12) (n := c.toNat / 16) (by omega) (by omega) (by rw [← h1]; decide +kernel)
    have g2 := dig_inj (m := 3) (n := c.toNat % 16) (by omega) (by omega) (by rw [← h2]; decide +kernel)
    have hc' : c = 195 := by rw [← UInt8.toNat_inj]; simp; omega
    rcases form_cases y with e' | ⟨d, z, rfl, hs', e'⟩ | ⟨r, z, hv, rfl, e'⟩
    · have e2 : qS y.length y ++ [34] = [34] := (List.cons.inj e').2
      rw [show qS y.length y ++ 34 :: u = (qS y.length y ++ [34]) ++ u by simp, e2] at h3
      simp at h3
    · have e2 := (List.cons.inj e').2
      rw [show ∀ z, qS z.length z ++ 34 :: u = (qS z.length z ++ [34]) ++ u from fun z => by simp, e2] at h3
      simp [qX] at h3
      obtain ⟨h4, h5, _⟩ := h3
      have hd := d.toNat_lt
      have g3 := dig_inj (m := 10) (n := d.toNat / 16) (by omega) (by omega) (by rw [← h4]; decide +kernel)
      have g4 := dig_inj (m := 9) (n := d.toNat % 16) (by omega) (by omega) (by rw [← h5]; decide +kernel)
      have hd' : d = 169 := by rw [← UInt8.toNat_inj]; simp; omega
      have hq := seq_enc 233 (by decide +kernel) z
      rw [enc_e9] at hq
      rw [hc', hd'] at hs
      have hs2 : seq ([195, 169] ++ z) = none := hs
      rw [hq] at hs2
      cases hs2
    · have e2 := (List.cons.inj e').2
      rw [show ∀ z, qS z.length z ++ 34 :: u = (qS z.length z ++ [34]) ++ u from fun z => by simp, e2, List.append_assoc] at h3
      exact qR_no_x r _ _ h3.symm hv
  · rw [e, List.cons_append, List.append_assoc] at h
    exact qR_no_x r _ _ (List.cons.inj h).2.symm hv
theorem no_end (l : List UInt8) : unqL (34 :: qS l.length l) = none := by
  apply unq_none'
  intro x u h
  have h1 : quoteL l ++ [] = quoteL x ++ (u ++ [34]) := by
    rw [List.append_nil, ← List.append_assoc, ← h]; rfl
  have := (quote_uniq h1).2
  simp at this
theorem qS_le : ∀ (f : Nat) (l : List UInt8), (qS f l).length ≤ 10 * l.length
  | 0, l => by simp [qS]
  | f + 1, l => by
    by_cases hl : l = []
    · subst hl; simp [qS]
    cases hs : seq l with
    | none =>
      rw [qS_none (by omega) hl hs, seq_none_len hl hs]
      have := qS_le f (l.drop 1)
      have h0 := List.length_pos_iff.2 hl
      rw [List.length_append, show (qX (l.headD 0)).length = 4 from rfl, Nat.add_sub_cancel]
      rw [List.length_drop] at this
      omega
    | some r =>
      obtain ⟨hv, t, rfl⟩ := seq_some hl hs
      have hr := (valid_iff r).1 hv
      rw [qS_some (by omega) hl hs, List.drop_left]
      have h1 := (encB_len r).1
      have := qS_le f t
      have h2 := qR_le r (by omega)
      rw [List.length_append, List.length_append, Nat.add_sub_cancel]
      omega
theorem qR_ge (r : Int) : (encB r).length ≤ (qR r).length := by
  have h4 : (encB r).length ≤ 4 := (encB_len r).2
  have one : ∀ n : Int, n = 34 ∨ n = 92 ∨ n = 10 ∨ n = 9 → (encB n).length = 1 := fun n hn => by
    rcases hn with rfl | rfl | rfl | rfl <;> decide +kernel
  unfold qR
  split
  · rename_i h; rw [one r (.inl h)]; decide
  · split
    · rename_i h; rw [one r (.inr (.inl h))]; decide
    · split
      · rename_i h; rw [one r (.inr (.inr (.inl h)))]; decide
      · split
        · rename_i h; rw [one r (.inr (.inr (.inr h)))]; decide
        · split
          · exact Nat.le_refl _
          · have := hexL_pos r.toNat
            simp only [List.length_append, List.length_cons, List.length_nil]
            omega
theorem qS_ge : ∀ (f : Nat) (l : List UInt8), l.length ≤ f → l.length ≤ (qS f l).length
  | 0, l, h => by omega
  | f + 1, l, h => by
    by_cases hl : l = []
    · subst hl; exact Nat.zero_le _
    cases hs : seq l with
    | none =>
      rw [qS_none (by omega) hl hs, seq_none_len hl hs]
      have := qS_ge f (l.drop 1) (by rw [List.length_drop]; omega)
      rw [List.length_append, show (qX (l.headD 0)).length = 4 from rfl, Nat.add_sub_cancel]
      rw [List.length_drop] at this
      omega
    | some r =>
      rw [qS_some (by omega) hl hs]
      have h1 := (encB_len r).1
      have := qS_ge f (l.drop (encB r).length) (by rw [List.length_drop]; omega)
      have h2 := qR_ge r
      rw [List.length_append, Nat.add_sub_cancel]
      rw [List.length_drop] at this
      omega
/-- What Unquote reads is no longer than the form. -/
theorem unq_len {l x : List UInt8} {n : Nat} (h : unqL l = some (x, n)) : x.length ≤ l.length := by
  obtain ⟨t, rfl, _⟩ := unq_sound h
  have := qS_ge x.length x (Nat.le_refl _)
  rw [List.length_append, quoteL_len]
  omega
end Go.Proofs.YtkdhomiieenfnaaDoor.U
