/- Quote in plain Lean: the quoted form of bytes. Unquote in plain Lean: what the program makes of a quoted form, and that it reads back what Quote writes. The reference's Unquote in plain Lean: the same answer. -/
import Derived.Test.YtfgekdefnbohbaaDoorUAll0
import Derived.Test.YtfgekdefnbohbaaDoorUHexP
namespace Go.Proofs.YtfgekdefnbohbaaDoor.U
open Go Go.Proofs.YtfgekdefnbohbaaDoor.Txt
set_option linter.unusedVariables false
set_option linter.unusedSimpArgs false

/-- The form of a rune. -/
def qR (r : Int) : List UInt8 :=
  if r = 34 then [92, 34] else if r = 92 then [92, 92] else if r = 10 then [92, 110] else if r = 9 then [92, 116]
  else if 32 ≤ r ∧ r ≤ 126 then encB r else [92, 117, 123] ++ hexL r.toNat ++ [125]
/-- The form of a byte at which no sequence begins. -/
def qX (x : UInt8) : List UInt8 := [92, 120, dig (x.toNat / 16), dig (x.toNat % 16)]
/-- The forms of all that stands in l. -/
def qS : Nat → List UInt8 → List UInt8
  | 0, _ => []
  | f + 1, l => if l = [] then [] else
      match seq l with
      | none => qX (l.headD 0) ++ qS f (l.drop (decL l).2)
      | some r => qR r ++ qS f (l.drop (encB r).length)
def quoteL (l : List UInt8) : List UInt8 := 34 :: (qS l.length l ++ [34])

theorem hexL_le (n : Nat) (h : n < 16777216) : (hexL n).length ≤ 6 := by
  have H : ∀ k n, n < 16 ^ (k + 1) → (hexL n).length ≤ k + 1 := by
    intro k
    induction k with
    | zero => intro n h; rw [hexL, if_pos (by omega)]; simp
    | succ k ih =>
      intro n h
      rw [hexL]
      split
      · simp
      · have := ih (n / 16) (by rw [Nat.pow_succ] at h; omega)
        simp; omega
  exact H 5 n (by omega)
theorem qR_le (r : Int) (h : r ≤ 1114111) : (qR r).length ≤ 10 := by
  unfold qR
  have h1 := hexL_le r.toNat (by omega)
  have h2 := (encB_len r).2
  repeat' split
  all_goals simp
  all_goals omega
theorem decL_pos (l : List UInt8) (h : l ≠ []) : 1 ≤ (decL l).2 := by
  unfold decL
  rcases l with _ | ⟨b, l⟩
  · exact absurd rfl h
  · simp only []
    repeat' split
    all_goals simp
theorem decL_le (l : List UInt8) (h : l ≠ []) : (decL l).2 ≤ l.length := by
  unfold decL
  rcases l with _ | ⟨b, l⟩
  · exact absurd rfl h
  · simp only []
    repeat' split
    all_goals simp_all
    all_goals omega
theorem qS_none {f : Nat} {l : List UInt8} (hf : 0 < f) (hl : l ≠ []) (h : seq l = none) : qS f l = qX (l.headD 0) ++ qS (f - 1) (l.drop (decL l).2) := by
  obtain ⟨f, rfl⟩ : ∃ j, f = j + 1 := ⟨f - 1, by omega⟩
  rw [qS, if_neg hl, h]
  rfl
theorem qS_some {f : Nat} {l : List UInt8} (hf : 0 < f) (hl : l ≠ []) {r : Int} (h : seq l = some r) : qS f l = qR r ++ qS (f - 1) (l.drop (encB r).length) := by
  obtain ⟨f, rfl⟩ : ∃ j, f = j + 1 := ⟨f - 1, by omega⟩
  rw [qS, if_neg hl, h]
  rfl
theorem qS_fuel : ∀ (f f' : Nat) (l : List UInt8), l.length ≤ f → l.length ≤ f' → qS f l = qS f' l := by
  intro f
  induction f with
  | zero =>
    intro f' l h h'
    have : l = [] := List.length_eq_zero_iff.1 (by omega)
    subst this
    cases f' <;> rfl
  | succ f ih =>
    intro f' l h h'
    by_cases hl : l = []
    · subst hl; cases f' <;> rfl
    · have h0 := List.length_pos_iff.2 hl
      cases hq : seq l with
      | none =>
        have := decL_pos l hl
        rw [qS_none (by omega) hl hq, qS_none (by omega) hl hq]
        congr 1
        exact ih _ _ (by rw [List.length_drop]; omega) (by rw [List.length_drop]; omega)
      | some r =>
        have := (encB_len r).1
        rw [qS_some (by omega) hl hq, qS_some (by omega) hl hq]
        congr 1
        exact ih _ _ (by rw [List.length_drop]; omega) (by rw [List.length_drop]; omega)
end Go.Proofs.YtfgekdefnbohbaaDoor.U

namespace Go.Proofs.YtfgekdefnbohbaaDoor.U
open Go Go.Proofs.YtfgekdefnbohbaaDoor.Txt
set_option linter.unusedVariables false
set_option linter.unusedSimpArgs false

/-- Where the form ends: behind the first mark that no \ stands ahead of (k: is this byte gone over unseen?); 0: nowhere. -/
def endT : Bool → List UInt8 → Nat → Nat
  | _, [], _ => 0
  | true, _ :: t, i => endT false t (i + 1)
  | false, c :: t, i => if c = 34 then i + 1 else if c = 92 then endT true t (i + 1) else endT false t (i + 1)
def endL : List UInt8 → Nat
  | [] => 0
  | c :: t => if c = 34 then endT false t 1 else 0
theorem endT_le : ∀ (k : Bool) (l : List UInt8) (i : Nat), endT k l i ≤ i + l.length
  | k, [], i => by cases k <;> simp [endT]
  | true, c :: t, i => by have := endT_le false t (i + 1); simp only [endT, List.length_cons]; omega
  | false, c :: t, i => by
    have h1 := endT_le false t (i + 1)
    have h2 := endT_le true t (i + 1)
    simp only [endT, List.length_cons]
    split
    · omega
    · split <;> omega
theorem endL_le : ∀ l : List UInt8, endL l ≤ l.length
  | [] => Nat.le_refl _
  | c :: t => by
    have h := endT_le false t 1
    show (if c = 34 then endT false t 1 else 0) ≤ (c :: t).length
    simp only [List.length_cons]
    split <;> omega
/-- The number of a digit, a small or a capital letter. -/
def hexV (c : UInt8) : Option Nat :=
  if 48 ≤ c.toNat ∧ c.toNat ≤ 57 then some (c.toNat - 48) else if 97 ≤ c.toNat ∧ c.toNat ≤ 102 then some (c.toNat - 87) else if 65 ≤ c.toNat ∧ c.toNat ≤ 70 then some (c.toNat - 55) else none
/-- The number of digits, behind one that is known. -/
def parseF : Nat → List UInt8 → Option Nat
  | a, [] => some a
  | a, c :: t => match hexV c with | none => none | some d => parseF (a * 16 + d) t
def parseH (l : List UInt8) : Option Nat := parseF 0 l
/-- Where a byte stands first. -/
def idxL (c : UInt8) : List UInt8 → Option Nat
  | [] => none
  | x :: t => if x = c then some 0 else (idxL c t).map (· + 1)
/-- What stands behind a \: its bytes, and how many it took; 0: nothing. -/
def escL (l : List UInt8) : List UInt8 × Nat :=
  match l with
  | [] => ([], 0)
  | h :: t =>
    if h = 34 ∨ h = 92 then ([h], 1)
    else if h = 110 then ([10], 1)
    else if h = 116 then ([9], 1)
    else if h = 120 then (if l.length < 3 then ([], 0) else match parseH (t.take 2) with | none => ([], 0) | some n => ([UInt8.ofNat n], 3))
    else if h = 117 then
      match idxL 125 l with
      | none => ([], 0)
      | some e => if e < 3 ∨ 8 < e ∨ l.getD 1 0 ≠ 123 then ([], 0) else
        match parseH ((l.take e).drop 2) with
        | none => ([], 0)
        | some n => if 1114111 < n then ([], 0) else (encB n, e + 1)
    else ([], 0)
theorem escL_le (l : List UInt8) : (escL l).2 ≤ l.length := by
  have hidx : ∀ (l : List UInt8) e, idxL 125 l = some e → e < l.length := by
    intro l
    induction l with
    | nil => intro e h; cases h
    | cons x t ih =>
      intro e h
      unfold idxL at h
      split at h
      · cases h; simp
      · cases hi : idxL 125 t with
        | none => rw [hi] at h; cases h
        | some k => rw [hi] at h; cases h; have := ih k hi; simp; omega
  unfold escL
  split
  · simp
  · rename_i h t
    repeat' split
    all_goals simp_all
    all_goals (have := hidx _ _ ‹_›; simp at this; omega)
/-- The bytes that the pieces of a form mean. -/
def bodyF : Nat → List UInt8 → Option (List UInt8)
  | 0, _ => some []
  | _ + 1, [] => some []
  | f + 1, c :: t => if c ≠ 92 then (bodyF f t).map (c :: ·) else if (escL t).2 = 0 then none else (bodyF f (t.drop (escL t).2)).map ((escL t).1 ++ ·)
def bodyL (l : List UInt8) : Option (List UInt8) := bodyF l.length l
/-- Unquote: the bytes and how many it took. -/
def unqL (l : List UInt8) : Option (List UInt8 × Nat) :=
  if endL l = 0 then none else
    match bodyL ((l.take (endL l - 1)).drop 1) with
    | none => none
    | some x => if quoteL x = l.take (endL l) then some (x, endL l) else none

/-! ### Digits read back -/
theorem dig_val (n : Nat) (h : n < 16) : (dig n).toNat = if n < 10 then 48 + n else 87 + n := by
  unfold dig
  split <;> simp <;> omega
theorem hexV_dig (n : Nat) (h : n < 16) : hexV (dig n) = some n := by
  unfold hexV
  rw [dig_val n h]
  by_cases h1 : n < 10
  · rw [if_pos h1, if_pos (by omega)]; congr 1; omega
  · rw [if_neg h1, if_neg (by omega), if_pos (by omega)]; congr 1; omega
theorem parseF_append : ∀ (a b : List UInt8) (n : Nat), parseF n (a ++ b) = (parseF n a).bind fun m => parseF m b
  | [], b, n => rfl
  | c :: t, b, n => by
    simp only [List.cons_append, parseF]
    cases hexV c with
    | none => rfl
    | some d => exact parseF_append t b _
theorem parse_hex (n : Nat) : parseH (hexL n) = some n := by
  induction n using Nat.strongRecOn with
  | ind n ih =>
    rw [hexL]
    split
    · rename_i h
      simp [parseH, parseF, hexV_dig n h]
    · rename_i h
      have := ih (n / 16) (by omega)
      unfold parseH at this ⊢
      rw [parseF_append, this]
      simp only [Option.bind_some, parseF, hexV_dig (n % 16) (by omega)]
      congr 1; omega
theorem dig_ne (n : Nat) (h : n < 16) : dig n ≠ 125 ∧ dig n ≠ 34 ∧ dig n ≠ 92 := by
  have := dig_val n h
  refine ⟨fun e => ?_, fun e => ?_, fun e => ?_⟩
  all_goals
    rw [e] at this
    simp at this
    split at this <;> omega
theorem hexL_digs (n : Nat) : ∀ c ∈ hexL n, ∃ m, m < 16 ∧ c = dig m := by
  induction n using Nat.strongRecOn with
  | ind n ih =>
    intro c hc
    rw [hexL] at hc
    split at hc
    · rename_i h
      exact ⟨n, h, List.mem_singleton.1 hc⟩
    · rename_i h
      rcases List.mem_append.1 hc with h1 | h1
      · exact ih (n / 16) (by omega) c h1
      · exact ⟨n % 16, by omega, List.mem_singleton.1 h1⟩
theorem idxL_skip (c : UInt8) : ∀ (a b : List UInt8), (∀ x ∈ a, x ≠ c) → idxL c (a ++ c :: b) = some a.length
  | [], b, _ => by simp [idxL]
  | x :: a, b, h => by
    have := idxL_skip c a b (fun y hy => h y (by simp [hy]))
    simp [idxL, this, h x (by simp)]

/-! ### A form's pieces -/
/-- A piece of a form: how it is gone over, and what it means. -/
structure Piece (p x : List UInt8) : Prop where
  go : ∀ (t : List UInt8) (i : Nat), endT false (p ++ t) i = endT false t (i + p.length)
  mean : ∀ (t : List UInt8) (f : Nat), p.length ≤ f → bodyF f (p ++ t) = (bodyF (f - 1) t).map (x ++ ·) ∨ p = []
  pos : p ≠ []
theorem piece_char (c : UInt8) (h1 : c ≠ 34) (h2 : c ≠ 92) : Piece [c] [c] := by
  refine ⟨fun t i => by simp [endT, h1, h2], fun t f hf => .inl ?_, by simp⟩
  obtain ⟨f, rfl⟩ : ∃ g, f = g + 1 := ⟨f - 1, by simp at hf; omega⟩
  simp [bodyF, h2]
theorem endT_digits : ∀ (a t : List UInt8) (i : Nat), (∀ x ∈ a, x ≠ 34 ∧ x ≠ 92) → endT false (a ++ t) i = endT false t (i + a.length)
  | [], t, i, _ => rfl
  | x :: a, t, i, h => by
    have h1 := h x (by simp)
    simp only [List.cons_append, endT]
    rw [if_neg h1.1, if_neg h1.2, endT_digits a t (i + 1) (fun y hy => h y (by simp [hy])), List.length_cons]
    congr 1; omega
/-- A piece that begins with a \. -/
theorem piece_esc (c : UInt8) (p x : List UInt8) (h : ∀ y ∈ p, y ≠ 34 ∧ y ≠ 92) (he : ∀ t, escL (c :: (p ++ t)) = (x, p.length + 1)) : Piece (92 :: c :: p) x := by
  refine ⟨fun t i => ?_, fun t f hf => .inl ?_, by simp⟩
  · have : endT false (92 :: c :: p ++ t) i = endT false (p ++ t) (i + 2) := by simp [endT]
    rw [this, endT_digits p t (i + 2) h]
    congr 1
    simp only [List.length_cons]; omega
  · obtain ⟨f, rfl⟩ : ∃ g, f = g + 1 := ⟨f - 1, by simp at hf; omega⟩
    rw [List.cons_append, bodyF, if_neg (by simp), List.cons_append, he t]
    simp
theorem piece_x (b : UInt8) : Piece (qX b) [b] := by
  have hb := b.toNat_lt
  refine piece_esc 120 [dig (b.toNat / 16), dig (b.toNat % 16)] [b] ?_ ?_
  · intro y hy
    simp at hy
    rcases hy with rfl | rfl
    · exact (dig_ne _ (by omega)).2
    · exact (dig_ne _ (by omega)).2
  · intro t
    have hp : parseH [dig (b.toNat / 16), dig (b.toNat % 16)] = some b.toNat := by
      simp only [parseH, parseF, hexV_dig _ (show b.toNat / 16 < 16 by omega), hexV_dig _ (show b.toNat % 16 < 16 by omega)]
      congr 1; omega
    simp [escL, hp]
theorem piece_r (r : Int) (hv : Utf8.valid r = true) : Piece (qR r) (encB r) := by
  have hr := (valid_iff r).1 hv
  have one : ∀ n : Nat, n < 128 → encB (n : Int) = [UInt8.ofNat n] := fun n hn => by
    rcases encB_cases (n : Int) ((valid_iff _).2 (by omega)) with ⟨_, e⟩ | ⟨h, _⟩ | ⟨h, _⟩ | ⟨h, _⟩
    · rw [e]; simp
    all_goals omega
  unfold qR
  split
  · rename_i h; subst h
    rw [show encB 34 = [34] from one 34 (by decide)]
    exact piece_esc 34 [] [34] (by simp) (fun t => by simp [escL])
  split
  · rename_i h; subst h
    rw [show encB 92 = [92] from one 92 (by decide)]
    exact piece_esc 92 [] [92] (by simp) (fun t => by simp [escL])
  split
  · rename_i h; subst h
    rw [show encB 10 = [10] from one 10 (by decide)]
    exact piece_esc 110 [] [10] (by simp) (fun t => by simp [escL])
  split
  · rename_i h; subst h
    rw [show encB 9 = [9] from one 9 (by decide)]
    exact piece_esc 116 [] [9] (by simp) (fun t => by simp [escL])
  split
  · rename_i n1 n2 n3 n4 h
    obtain ⟨n, rfl⟩ : ∃ n : Nat, r = (n : Int) := ⟨r.toNat, by omega⟩
    rw [one n (by omega)]
    refine piece_char _ (fun e => ?_) (fun e => ?_)
    · have := congrArg UInt8.toNat e
      rw [ofNat_toNat n (by omega)] at this
      simp at this; omega
    · have := congrArg UInt8.toNat e
      rw [ofNat_toNat n (by omega)] at this
      simp at this; omega
  · have hl := hexL_le r.toNat (by omega)
    have hp := hexL_pos r.toNat
    have hd := hexL_digs r.toNat
    have hne : ∀ y ∈ hexL r.toNat, y ≠ 125 ∧ y ≠ 34 ∧ y ≠ 92 := fun y hy => by
      obtain ⟨m, h1, rfl⟩ := hd y hy
      exact dig_ne m h1
    rw [show [92, 117, 123] ++ hexL r.toNat ++ [125] = 92 :: 117 :: ([123] ++ hexL r.toNat ++ [125]) by simp]
    refine piece_esc 117 _ (encB r) ?_ ?_
    · intro y hy
      simp at hy
      rcases hy with rfl | hy | rfl
      · decide
      · exact (hne y hy).2
      · decide
    · intro t
      have hi : idxL 125 (117 :: ([123] ++ hexL r.toNat ++ [125] ++ t)) = some (hexL r.toNat).length.succ.succ := by
        have := idxL_skip 125 (117 :: 123 :: hexL r.toNat) t (by
          intro x hx
          rcases List.mem_cons.1 hx with rfl | hx
          · decide
          rcases List.mem_cons.1 hx with rfl | hx
          · decide
          · exact (hne x hx).1)
        simpa using this
      have ht : ((117 :: ([123] ++ hexL r.toNat ++ [125] ++ t)).take (hexL r.toNat).length.succ.succ).drop 2 = hexL r.toNat := by simp
      simp only [escL]
      rw [if_neg (by decide), if_neg (by decide), if_neg (by decide), if_neg (by decide), if_pos trivial, hi]
      simp only []
      rw [if_neg (by simp; omega), ht, parse_hex]
      simp only []
      rw [if_neg (by omega), show ((r.toNat : Nat) : Int) = r by omega]
      simp
/-- What Quote writes of l, as pieces. -/
inductive Pieces : List UInt8 → List UInt8 → Prop where
  | nil : Pieces [] []
  | cons {p x q y : List UInt8} (h : Piece p x) (t : Pieces q y) : Pieces (p ++ q) (x ++ y)
theorem seq_none_len {l : List UInt8} (hl : l ≠ []) (h : seq l = none) : (decL l).2 = 1 := by
  have hf := decL_form l
  have hs := seq_ref l hl
  rw [h] at hs
  have hs : seqR l = none := by cases h2 : seqR l with | none => rfl | some n => rw [h2] at hs; cases hs
  unfold seqR at hs
  rw [hf]
  by_cases h0 : bAt l 0 < 128
  · rw [if_pos h0] at hs; cases hs
  rw [if_neg h0] at hs ⊢
  by_cases h2 : bAt l 0 / 32 = 6
  · rw [if_pos h2] at hs
    by_cases g : goesOn l 1 ∧ runeOk 128 (r2 l)
    · rw [if_pos g] at hs; cases hs
    · by_cases g1 : goesOn l 1
      · have hr : r2 l < 2048 := by unfold r2; have := bAt_lt l 0; omega
        rw [if_pos ⟨h2, g1⟩, if_neg (fun h => g ⟨g1, h, by omega, by omega⟩)]
      · rw [if_neg (fun h => g1 h.2), if_neg (by omega), if_neg (by omega)]
  rw [if_neg h2] at hs
  rw [if_neg (fun h => h2 h.1)]
  by_cases h3 : bAt l 0 / 16 = 14
  · rw [if_pos h3] at hs
    by_cases g : goesOn l 1 ∧ goesOn l 2
    · rw [if_pos ⟨h3, g⟩]
      by_cases hk : runeOk 2048 (r3 l)
      · rw [if_pos ⟨g.1, g.2, hk⟩] at hs; cases hs
      · rw [if_neg (fun h => hk ⟨h.1, by have := (valid_nat _).1 h.2; omega, by have := (valid_nat _).1 h.2; omega⟩)]
    · rw [if_neg (fun h => g h.2), if_neg (by omega)]
  rw [if_neg h3] at hs
  rw [if_neg (fun h => h3 h.1)]
  by_cases h4 : bAt l 0 / 8 = 30
  · rw [if_pos h4] at hs
    by_cases g : goesOn l 1 ∧ goesOn l 2 ∧ goesOn l 3
    · rw [if_pos ⟨h4, g⟩]
      by_cases hk : runeOk 65536 (r4 l)
      · rw [if_pos ⟨g.1, g.2.1, g.2.2, hk⟩] at hs; cases hs
      · rw [if_neg (fun h => hk ⟨h.1, by have := (valid_nat _).1 h.2; omega, by have := (valid_nat _).1 h.2; omega⟩)]
    · rw [if_neg (fun h => g h.2)]
  · rw [if_neg (fun h => h4 h.1)]
theorem pieces_q : ∀ (f : Nat) (l : List UInt8), l.length ≤ f → Pieces (qS f l) l
  | 0, l, h => by
    obtain rfl : l = [] := List.length_eq_zero_iff.1 (by omega)
    exact .nil
  | f + 1, l, h => by
    by_cases hl : l = []
    · subst hl; exact .nil
    · cases hs : seq l with
      | none =>
        rw [qS_none (by omega) hl hs, seq_none_len hl hs]
        obtain ⟨b, t, rfl⟩ : ∃ b t, l = b :: t := by cases l with | nil => exact absurd rfl hl | cons b t => exact ⟨b, t, rfl⟩
        exact Pieces.cons (x := [b]) (piece_x b) (pieces_q f t (by simp at h; omega))
      | some r =>
        obtain ⟨hv, t, rfl⟩ := seq_some hl hs
        rw [qS_some (by omega) hl hs, List.drop_left]
        have := (encB_len r).1
        exact Pieces.cons (piece_r r hv) (pieces_q f t (by rw [List.length_append] at h; omega))
theorem Pieces.go {p x : List UInt8} (h : Pieces p x) : ∀ (t : List UInt8) (i : Nat), endT false (p ++ t) i = endT false t (i + p.length) := by
  induction h with
  | nil => intro t i; rfl
  | cons h _ ih => intro t i; rw [List.append_assoc, h.go, ih, List.length_append]; congr 1; omega
theorem bodyF_fuel : ∀ (f g : Nat) (l : List UInt8), l.length ≤ f → l.length ≤ g → bodyF f l = bodyF g l
  | 0, g, l, h, _ => by
    obtain rfl : l = [] := List.length_eq_zero_iff.1 (by omega)
    cases g <;> rfl
  | f + 1, 0, l, _, h => by
    obtain rfl : l = [] := List.length_eq_zero_iff.1 (by omega)
    rfl
  | f + 1, g + 1, [], _, _ => rfl
  | f + 1, g + 1, c :: t, h, h' => by
    simp only [List.length_cons] at h h'
    simp only [bodyF]
    rw [bodyF_fuel f g t (by omega) (by omega), bodyF_fuel f g (t.drop (escL t).2) (by rw [List.length_drop]; omega) (by rw [List.length_drop]; omega)]
theorem Pieces.mean {p x : List UInt8} (h : Pieces p x) : ∀ (f : Nat), p.length ≤ f → bodyF f p = some x := by
  induction h with
  | nil => intro f hf; cases f <;> rfl
  | @cons p x q y h t ih =>
    intro f hf
    rw [List.length_append] at hf
    rcases h.mean q f (by omega) with e | e
    · rw [e]
      have hp : 0 < p.length := List.length_pos_iff.2 h.pos
      rw [ih (f - 1) (by omega)]
      rfl
    · exact absurd e h.pos
theorem quoteL_len (x : List UInt8) : (quoteL x).length = (qS x.length x).length + 2 := by simp [quoteL]
theorem unq_quote (x t : List UInt8) : unqL (quoteL x ++ t) = some (x, (quoteL x).length) := by
  have hp := pieces_q x.length x (Nat.le_refl _)
  have he : endL (quoteL x ++ t) = (quoteL x).length := by
    rw [quoteL_len]
    unfold quoteL
    rw [List.cons_append, List.append_assoc]
    show (if (34 : UInt8) = 34 then endT false (qS x.length x ++ ([34] ++ t)) 1 else 0) = _
    rw [if_pos rfl, hp.go]
    show (if (34 : UInt8) = 34 then 1 + (qS x.length x).length + 1 else _) = _
    rw [if_pos rfl]
    omega
  unfold unqL
  rw [he, if_neg (by rw [quoteL_len]; omega)]
  have hb : (((quoteL x ++ t).take ((quoteL x).length - 1)).drop 1) = qS x.length x := by
    rw [quoteL_len, List.take_append_of_le_length (by rw [quoteL_len]; omega)]
    unfold quoteL
    rw [show (qS x.length x).length + 2 - 1 = (qS x.length x).length + 1 by omega, List.take_succ_cons, List.take_left, List.drop_succ_cons, List.drop_zero]
  rw [hb]
  unfold bodyL
  rw [hp.mean _ (Nat.le_refl _)]
  simp only []
  rw [if_pos (by rw [List.take_left])]
theorem unq_sound {l x : List UInt8} {n : Nat} (h : unqL l = some (x, n)) : ∃ t, l = quoteL x ++ t ∧ n = (quoteL x).length := by
  unfold unqL at h
  split at h
  · cases h
  · split at h
    · cases h
    · split at h
      · rename_i hq
        obtain ⟨rfl, rfl⟩ := Prod.mk.inj (Option.some.inj h)
        refine ⟨l.drop (endL l), by rw [hq, List.take_append_drop], ?_⟩
        have hle := endL_le l
        rw [hq, List.length_take]
        omega
      · cases h
theorem quote_uniq {x y t u : List UInt8} (h : quoteL x ++ t = quoteL y ++ u) : x = y ∧ t = u := by
  have h1 := unq_quote x t
  rw [h, unq_quote y u] at h1
  obtain ⟨rfl, _⟩ := Prod.mk.inj (Option.some.inj h1)
  exact ⟨rfl, List.append_cancel_left h⟩
theorem unq_none {l : List UInt8} (h : unqL l = none) : ∀ x t, l ≠ quoteL x ++ t := fun x t e => by
  rw [e, unq_quote] at h; cases h
theorem unq_none' {l : List UInt8} (h : ∀ x t, l ≠ quoteL x ++ t) : unqL l = none := by
  cases hu : unqL l with
  | none => rfl
  | some p => obtain ⟨x, n⟩ := p; obtain ⟨t, e, _⟩ := unq_sound hu; exact absurd e (h x t)
end Go.Proofs.YtfgekdefnbohbaaDoor.U

namespace Go.Proofs.YtfgekdefnbohbaaDoor.U
open Go Go.Proofs.YtfgekdefnbohbaaDoor.Txt
set_option linter.unusedVariables false
set_option linter.unusedSimpArgs false

/-- The number of a digit; small letters alone. -/
def hexW (c : UInt8) : Option Nat := if 48 ≤ c.toNat ∧ c.toNat ≤ 57 then some (c.toNat - 48) else if 97 ≤ c.toNat ∧ c.toNat ≤ 102 then some (c.toNat - 87) else none
/-- The bytes of a number, as a rune is written. -/
def bytesR (r : Nat) : List UInt8 :=
  if r < 128 then [UInt8.ofNat r] else if r < 2048 then [UInt8.ofNat (192 + r / 64), UInt8.ofNat (128 + r % 64)]
  else if r < 65536 then [UInt8.ofNat (224 + r / 4096), UInt8.ofNat (128 + r / 64 % 64), UInt8.ofNat (128 + r % 64)]
  else [UInt8.ofNat (240 + r / 262144), UInt8.ofNat (128 + r / 4096 % 64), UInt8.ofNat (128 + r / 64 % 64), UInt8.ofNat (128 + r % 64)]
theorem bytesR_enc (r : Int) (h : Utf8.valid r = true) : bytesR r.toNat = encB r := by
  unfold bytesR
  rcases encB_cases r h with ⟨h1, e⟩ | ⟨h1, h2, e⟩ | ⟨h1, h2, e⟩ | ⟨h1, h2, e⟩
  · rw [e, if_pos (by omega)]
  · rw [e, if_neg (by omega), if_pos (by omega)]
  · rw [e, if_neg (by omega), if_neg (by omega), if_pos (by omega)]
  · rw [e, if_neg (by omega), if_neg (by omega), if_neg (by omega)]
/-- Digits up to a closing brace: rounds left, the number so far, what is left, how many were read. -/
def uF : Nat → Nat → List UInt8 → Nat → Option (Nat × Nat)
  | 0, _, _, _ => none
  | _ + 1, _, [], _ => none
  | f + 1, r, c :: t, k => if c = 125 then (if k = 0 ∨ 1114111 < r then none else some (r, k)) else match hexW c with | none => none | some d => uF f (16 * r + d) t (k + 1)
/-- A piece of a form: its bytes and how long it is; 0: there is none. -/
def pieceL (l : List UInt8) : List UInt8 × Nat :=
  match l with
  | [] => ([], 0)
  | [c] => if c ≠ 92 then ([c], 1) else ([], 0)
  | c :: d :: t =>
    if c ≠ 92 then ([c], 1)
    else if d = 34 ∨ d = 92 then ([d], 2)
    else if d = 110 then ([10], 2)
    else if d = 116 then ([9], 2)
    else if d = 120 then
      (match t with
        | a :: b :: _ => (match hexW a, hexW b with | some x, some y => ([UInt8.ofNat (16 * x + y)], 4) | _, _ => ([], 0))
        | _ => ([], 0))
    else if d = 117 then
      (match t with
        | [] => ([], 0)
        | o :: t' => if o = 123 then (match uF 7 0 t' 0 with | none => ([], 0) | some (r, k) => (bytesR r, k + 4)) else ([], 0))
    else ([], 0)
/-- The pieces up to the closing mark: the bytes, and where the mark stands. -/
def rbF : Nat → List UInt8 → List UInt8 → Nat → Option (List UInt8 × Nat)
  | 0, _, _, _ => none
  | _ + 1, [], _, _ => none
  | f + 1, c :: t, acc, i => if c = 34 then some (acc, i) else if (pieceL (c :: t)).2 = 0 then none else rbF f ((c :: t).drop (pieceL (c :: t)).2) (acc ++ (pieceL (c :: t)).1) (i + (pieceL (c :: t)).2)
def refU (l : List UInt8) : Option (List UInt8 × Nat) :=
  match l with
  | [] => none
  | c :: t => if c = 34 then (match rbF (t.length + 1) t [] 1 with | none => none | some (x, i) => if quoteL x = l.take (i + 1) then some (x, i + 1) else none) else none

theorem hexW_dig (n : Nat) (h : n < 16) : hexW (dig n) = some n := by
  unfold hexW
  rw [dig_val n h]
  by_cases h1 : n < 10
  · rw [if_pos h1, if_pos (by omega)]; congr 1; omega
  · rw [if_neg h1, if_neg (by omega), if_pos (by omega)]; congr 1; omega
/-- Digits read on: what uF has behind the digits of a number. -/
theorem uF_digits : ∀ (a : List UInt8) (f r k : Nat) (t : List UInt8), (∀ c ∈ a, ∃ m, m < 16 ∧ c = dig m) → a.length ≤ f → uF f r (a ++ t) k = uF (f - a.length) (a.foldl (fun r c => 16 * r + (hexW c).getD 0) r) t (k + a.length)
  | [], f, r, k, t, _, _ => rfl
  | c :: a, f, r, k, t, h, hf => by
    obtain ⟨m, hm, rfl⟩ := h c (by simp)
    obtain ⟨f, rfl⟩ : ∃ g, f = g + 1 := ⟨f - 1, by simp at hf; omega⟩
    simp only [List.length_cons] at hf ⊢
    rw [List.cons_append, uF, if_neg (dig_ne m hm).1, hexW_dig m hm]
    simp only []
    rw [uF_digits a f _ (k + 1) t (fun c hc => h c (by simp [hc])) (by omega)]
    rw [List.foldl_cons, hexW_dig m hm, show f + 1 - (a.length + 1) = f - a.length by omega, show k + 1 + a.length = k + (a.length + 1) by omega]
    rfl
theorem hex_fold (n : Nat) : (hexL n).foldl (fun r c => 16 * r + (hexW c).getD 0) 0 = n := by
  induction n using Nat.strongRecOn with
  | ind n ih =>
    rw [hexL]
    split
    · rename_i h; simp [hexW_dig n h]
    · rename_i h
      rw [List.foldl_append, ih (n / 16) (by omega)]
      simp [hexW_dig (n % 16) (by omega)]
      omega
/-- A piece as the reference takes it. -/
structure RPiece (p x : List UInt8) : Prop where
  take : ∀ t, pieceL (p ++ t) = (x, p.length)
  ne : p ≠ []
  open_ : p.head? ≠ some 34
theorem rpiece_x (b : UInt8) : RPiece (qX b) [b] := by
  have hb := b.toNat_lt
  refine ⟨fun t => ?_, by simp [qX], by simp [qX]⟩
  simp only [qX, List.cons_append, List.nil_append, pieceL]
  rw [if_neg (by simp), if_neg (by decide), if_neg (by decide), if_neg (by decide), if_pos trivial, hexW_dig _ (by omega), hexW_dig _ (by omega)]
  simp only [List.length_cons, List.length_nil]
  rw [show 16 * (b.toNat / 16) + b.toNat % 16 = b.toNat by omega]
  simp
theorem rpiece_r (r : Int) (hv : Utf8.valid r = true) : RPiece (qR r) (encB r) := by
  have hr := (valid_iff r).1 hv
  have one : ∀ n : Nat, n < 128 → encB (n : Int) = [UInt8.ofNat n] := fun n hn => by
    rcases encB_cases (n : Int) ((valid_iff _).2 (by omega)) with ⟨_, e⟩ | ⟨h, _⟩ | ⟨h, _⟩ | ⟨h, _⟩
    · rw [e]; simp
    all_goals omega
  unfold qR
  split
  · rename_i h; subst h
    rw [show encB 34 = [34] from one 34 (by decide)]
    exact ⟨fun t => by simp [pieceL], by simp, by simp⟩
  split
  · rename_i h; subst h
    rw [show encB 92 = [92] from one 92 (by decide)]
    exact ⟨fun t => by simp [pieceL], by simp, by simp⟩
  split
  · rename_i h; subst h
    rw [show encB 10 = [10] from one 10 (by decide)]
    exact ⟨fun t => by simp [pieceL], by simp, by simp⟩
  split
  · rename_i h; subst h
    rw [show encB 9 = [9] from one 9 (by decide)]
    exact ⟨fun t => by simp [pieceL], by simp, by simp⟩
  split
  · rename_i n1 n2 n3 n4 h
    obtain ⟨n, rfl⟩ : ∃ n : Nat, r = (n : Int) := ⟨r.toNat, by omega⟩
    rw [one n (by omega)]
    have hn : ∀ m, m < 128 → n ≠ m → UInt8.ofNat n ≠ UInt8.ofNat m := fun m hm hne e => by
      have := congrArg UInt8.toNat e
      rw [ofNat_toNat n (by omega), ofNat_toNat m (by omega)] at this
      exact hne this
    have h92 : UInt8.ofNat n ≠ 92 := hn 92 (by decide) (by omega)
    have h34 : UInt8.ofNat n ≠ 34 := hn 34 (by decide) (by omega)
    refine ⟨fun t => ?_, by simp, by simpa using h34⟩
    cases t with
    | nil => simp [pieceL, h92]
    | cons d t => simp [pieceL, h92]
  · have hl := hexL_le r.toNat (by omega)
    have hp := hexL_pos r.toNat
    refine ⟨fun t => ?_, by simp, by simp⟩
    have hu := uF_digits (hexL r.toNat) 7 0 0 (125 :: t) (hexL_digs r.toNat) (by omega)
    rw [hex_fold] at hu
    obtain ⟨f, hf⟩ : ∃ f, 7 - (hexL r.toNat).length = f + 1 := ⟨7 - (hexL r.toNat).length - 1, by omega⟩
    rw [hf, uF, if_pos rfl, if_neg (by omega)] at hu
    have e : [92, 117, 123] ++ hexL r.toNat ++ [125] ++ t = 92 :: 117 :: 123 :: (hexL r.toNat ++ 125 :: t) := by simp
    rw [e]
    simp only [pieceL]
    rw [if_neg (by simp), if_neg (by decide), if_neg (by decide), if_neg (by decide), if_neg (by decide), if_pos trivial, if_pos trivial, hu]
    simp only []
    rw [bytesR_enc r hv]
    simp
inductive RPieces : List UInt8 → List UInt8 → Prop where
  | nil : RPieces [] []
  | cons {p x q y : List UInt8} (h : RPiece p x) (t : RPieces q y) : RPieces (p ++ q) (x ++ y)
theorem rpieces_q : ∀ (f : Nat) (l : List UInt8), l.length ≤ f → RPieces (qS f l) l
  | 0, l, h => by
    obtain rfl : l = [] := List.length_eq_zero_iff.1 (by omega)
    exact .nil
  | f + 1, l, h => by
    by_cases hl : l = []
    · subst hl; exact .nil
    · cases hs : seq l with
      | none =>
        rw [qS_none (by omega) hl hs, seq_none_len hl hs]
        obtain ⟨b, t, rfl⟩ : ∃ b t, l = b :: t := by cases l with | nil => exact absurd rfl hl | cons b t => exact ⟨b, t, rfl⟩
        exact RPieces.cons (x := [b]) (rpiece_x b) (rpieces_q f t (by simp at h; omega))
      | some r =>
        obtain ⟨hv, t, rfl⟩ := seq_some hl hs
        rw [qS_some (by omega) hl hs, List.drop_left]
        have := (encB_len r).1
        exact RPieces.cons (rpiece_r r hv) (rpieces_q f t (by rw [List.length_append] at h; omega))
theorem RPieces.all {p x : List UInt8} (h : RPieces p x) : ∀ (f : Nat) (acc t : List UInt8) (i : Nat), p.length < f → rbF f (p ++ 34 :: t) acc i = some (acc ++ x, i + p.length) := by
  induction h with
  | nil =>
    intro f acc t i hf
    obtain ⟨f, rfl⟩ : ∃ g, f = g + 1 := ⟨f - 1, by simp at hf; omega⟩
    simp [rbF]
  | @cons p x q y h _ ih =>
    intro f acc t i hf
    rw [List.length_append] at hf
    obtain ⟨f, rfl⟩ : ∃ g, f = g + 1 := ⟨f - 1, by omega⟩
    obtain ⟨c, p', rfl⟩ : ∃ c p', p = c :: p' := by cases p with | nil => exact absurd rfl h.ne | cons c p' => exact ⟨c, p', rfl⟩
    have hc : c ≠ 34 := by have := h.open_; simpa using this
    have ht := h.take (q ++ 34 :: t)
    rw [List.append_assoc]
    rw [List.cons_append] at ht ⊢
    rw [rbF, if_neg hc, ht, if_neg (by simp)]
    simp only []
    rw [← List.cons_append, List.drop_left, ih f _ t _ (by simp only [List.length_cons] at hf; omega), List.append_assoc, List.length_append]
    congr 2; omega
theorem ref_quote (x t : List UInt8) : refU (quoteL x ++ t) = some (x, (quoteL x).length) := by
  have hp := rpieces_q x.length x (Nat.le_refl _)
  have e : quoteL x ++ t = 34 :: (qS x.length x ++ 34 :: t) := by simp [quoteL]
  have hb := hp.all ((qS x.length x ++ 34 :: t).length + 1) [] t 1 (by simp; omega)
  have hq := List.take_left (l₁ := quoteL x) (l₂ := t)
  rw [quoteL_len] at hq ⊢
  rw [e] at hq ⊢
  unfold refU
  simp only []
  rw [if_pos trivial, hb]
  simp only [List.nil_append]
  rw [show 1 + (qS x.length x).length + 1 = (qS x.length x).length + 2 by omega, hq, if_pos rfl]
theorem ref_sound {l x : List UInt8} {n : Nat} (h : refU l = some (x, n)) : ∃ t, l = quoteL x ++ t := by
  unfold refU at h
  split at h
  · cases h
  · split at h
    · split at h
      · cases h
      · split at h
        · rename_i hq
          obtain ⟨rfl, rfl⟩ := Prod.mk.inj (Option.some.inj h)
          exact ⟨_, by rw [hq]; exact (List.take_append_drop _ _).symm⟩
        · cases h
    · cases h
theorem ref_unq (l : List UInt8) : refU l = unqL l := by
  cases h : refU l with
  | some p =>
    obtain ⟨x, n⟩ := p
    obtain ⟨t, rfl⟩ := ref_sound h
    rw [ref_quote] at h
    rw [unq_quote, h]
  | none =>
    refine (unq_none' fun x t e => ?_).symm
    rw [e, ref_quote] at h
    cases h
end Go.Proofs.YtfgekdefnbohbaaDoor.U
