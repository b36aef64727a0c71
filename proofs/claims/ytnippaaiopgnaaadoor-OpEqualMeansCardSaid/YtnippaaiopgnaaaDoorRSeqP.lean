/- What a sequence of bytes is, by the numbers of its bytes: the decoder's answer in the words of the document's reference. -/
import Derived.Test.YtnippaaiopgnaaaDoorUPure
namespace Go.Proofs.YtnippaaiopgnaaaDoor.Txt
open Go
set_option linter.unusedVariables false

/-- The number of byte k. -/
def bAt (l : List UInt8) (k : Nat) : Nat := (l.getD k 0).toNat
theorem bAt_lt (l : List UInt8) (k : Nat) : bAt l k < 256 := UInt8.toNat_lt _
/-- Is byte k there, and does it go on with a sequence? -/
def goesOn (l : List UInt8) (k : Nat) : Prop := k < l.length ∧ bAt l k / 64 = 2
instance (l : List UInt8) (k : Nat) : Decidable (goesOn l k) := by unfold goesOn; infer_instance
def r2 (l : List UInt8) : Nat := bAt l 0 % 32 * 64 + bAt l 1 % 64
def r3 (l : List UInt8) : Nat := (bAt l 0 % 16 * 64 + bAt l 1 % 64) * 64 + bAt l 2 % 64
def r4 (l : List UInt8) : Nat := ((bAt l 0 % 8 * 64 + bAt l 1 % 64) * 64 + bAt l 2 % 64) * 64 + bAt l 3 % 64
/-- A number that a sequence may be of. -/
def runeOk (least r : Nat) : Prop := least ≤ r ∧ r ≤ 1114111 ∧ ¬ (55296 ≤ r ∧ r ≤ 57343)
instance (a r : Nat) : Decidable (runeOk a r) := by unfold runeOk; infer_instance
theorem pre_iff (l : List UInt8) : [239, 191, 189] <+: l ↔ 2 < l.length ∧ bAt l 0 = 239 ∧ bAt l 1 = 191 ∧ bAt l 2 = 189 := by
  constructor
  · rintro ⟨t, rfl⟩
    simp [bAt]
  · rintro ⟨h, h0, h1, h2⟩
    match l, h with
    | a :: b :: c :: t, _ =>
      simp only [bAt, List.getD_cons_zero, List.getD_cons_succ] at h0 h1 h2
      have e0 : a = 239 := UInt8.toNat.inj h0
      have e1 : b = 191 := UInt8.toNat.inj h1
      have e2 : c = 189 := UInt8.toNat.inj h2
      subst e0 e1 e2
      exact ⟨t, rfl⟩
theorem valid_nat (n : Nat) : Utf8.valid (n : Int) = true ↔ n < 55296 ∨ (57343 < n ∧ n ≤ 1114111) := by rw [valid_iff]; omega
theorem decL_form (l : List UInt8) : decL l =
    if bAt l 0 < 128 then (bAt l 0, 1)
    else if bAt l 0 / 32 = 6 ∧ goesOn l 1 then (if 128 ≤ r2 l then (r2 l, 2) else (65533, 1))
    else if bAt l 0 / 16 = 14 ∧ goesOn l 1 ∧ goesOn l 2 then (if 2048 ≤ r3 l ∧ Utf8.valid (r3 l) = true then (r3 l, 3) else (65533, 1))
    else if bAt l 0 / 8 = 30 ∧ goesOn l 1 ∧ goesOn l 2 ∧ goesOn l 3 then (if 65536 ≤ r4 l ∧ Utf8.valid (r4 l) = true then (r4 l, 4) else (65533, 1))
    else (65533, 1) := by
  have e3 : r3 l = bAt l 0 % 16 * 4096 + bAt l 1 % 64 * 64 + bAt l 2 % 64 := by unfold r3; omega
  have e4 : r4 l = bAt l 0 % 8 * 262144 + bAt l 1 % 64 * 4096 + bAt l 2 % 64 * 64 + bAt l 3 % 64 := by unfold r4; omega
  rw [e3, e4]
  unfold decL goesOn r2 bAt
  simp only [Bool.and_eq_true, beq_iff_eq, decide_eq_true_eq, ge_iff_le, and_assoc]
/-- The rune of the sequence that begins here, by the document's words. -/
def seqR (l : List UInt8) : Option Nat :=
  if bAt l 0 < 128 then some (bAt l 0)
  else if bAt l 0 / 32 = 6 then (if goesOn l 1 ∧ runeOk 128 (r2 l) then some (r2 l) else none)
  else if bAt l 0 / 16 = 14 then (if goesOn l 1 ∧ goesOn l 2 ∧ runeOk 2048 (r3 l) then some (r3 l) else none)
  else if bAt l 0 / 8 = 30 then (if goesOn l 1 ∧ goesOn l 2 ∧ goesOn l 3 ∧ runeOk 65536 (r4 l) then some (r4 l) else none)
  else none
theorem seq_ref (l : List UInt8) (hl : l ≠ []) : seq l = (seqR l).map Int.ofNat := by
  have b0 := bAt_lt l 0
  have b1 := bAt_lt l 1
  have b2 := bAt_lt l 2
  have b3 := bAt_lt l 3
  have hd : seq l = if (decL l).1 ≠ 65533 ∨ (2 < l.length ∧ bAt l 0 = 239 ∧ bAt l 1 = 191 ∧ bAt l 2 = 189) then some ((decL l).1 : Int) else none := by
    unfold seq
    simp only [pre_iff]
  have yes : ∀ c k, decL l = (c, k) → c ≠ 65533 ∨ (2 < l.length ∧ bAt l 0 = 239 ∧ bAt l 1 = 191 ∧ bAt l 2 = 189) → seq l = some (c : Int) := fun c k h hc => by
    rw [hd, h, if_pos hc]
  have no : ∀ k, decL l = (65533, k) → ¬ (2 < l.length ∧ bAt l 0 = 239 ∧ bAt l 1 = 191 ∧ bAt l 2 = 189) → seq l = none := fun k h hp => by
    rw [hd, h, if_neg (by rintro (h1 | h1); exact h1 rfl; exact hp h1)]
  have e := decL_form l
  unfold seqR
  by_cases h0 : bAt l 0 < 128
  · rw [if_pos h0] at e ⊢
    rw [yes _ _ e (.inl (by omega))]; rfl
  · rw [if_neg h0] at e ⊢
    by_cases h2 : bAt l 0 / 32 = 6
    · have hp : ¬ (2 < l.length ∧ bAt l 0 = 239 ∧ bAt l 1 = 191 ∧ bAt l 2 = 189) := by rintro ⟨_, a, _⟩; rw [a] at h2; exact absurd h2 (by decide)
      rw [if_pos h2]
      by_cases g1 : goesOn l 1
      · have hr : r2 l < 2048 := by unfold r2; omega
        rw [if_pos ⟨h2, g1⟩] at e
        by_cases hk : 128 ≤ r2 l
        · rw [if_pos hk] at e
          rw [yes _ _ e (.inl (by omega)), if_pos ⟨g1, hk, by omega, by omega⟩]; rfl
        · rw [if_neg hk] at e
          rw [no _ e hp, if_neg (fun h => hk h.2.1)]; rfl
      · rw [if_neg (fun h => g1 h.2), if_neg (by omega), if_neg (by omega)] at e
        rw [no _ e hp, if_neg (fun h => g1 h.1)]; rfl
    · rw [if_neg (fun h => h2 h.1)] at e
      rw [if_neg h2]
      by_cases h3 : bAt l 0 / 16 = 14
      · rw [if_pos h3]
        by_cases g : goesOn l 1 ∧ goesOn l 2
        · rw [if_pos ⟨h3, g⟩] at e
          have hv := valid_nat (r3 l)
          have hb : r3 l < 65536 := by unfold r3; omega
          by_cases hk : 2048 ≤ r3 l ∧ Utf8.valid (r3 l) = true
          · have hk2 := hv.1 hk.2
            rw [if_pos hk] at e
            rw [if_pos ⟨g.1, g.2, hk.1, by omega, by omega⟩]
            by_cases hf : r3 l = 65533
            · have hq : 2 < l.length ∧ bAt l 0 = 239 ∧ bAt l 1 = 191 ∧ bAt l 2 = 189 := by
                have k1 := g.1.2
                have k2 := g.2.2
                unfold r3 at hf
                exact ⟨g.2.1, by omega, by omega, by omega⟩
              rw [yes _ _ e (.inr hq)]; rfl
            · rw [yes _ _ e (.inl hf)]; rfl
          · have hn : ¬ runeOk 2048 (r3 l) := fun h => hk ⟨h.1, hv.2 (by have := h.2; omega)⟩
            have hp : ¬ (2 < l.length ∧ bAt l 0 = 239 ∧ bAt l 1 = 191 ∧ bAt l 2 = 189) := by
              rintro ⟨_, a, b, c⟩
              have : r3 l = 65533 := by unfold r3; rw [a, b, c]
              exact hn (by rw [this]; decide)
            rw [if_neg hk] at e
            rw [no _ e hp, if_neg (fun h => hn h.2.2)]; rfl
        · have hp : ¬ (2 < l.length ∧ bAt l 0 = 239 ∧ bAt l 1 = 191 ∧ bAt l 2 = 189) := by
            rintro ⟨a, _, b, c⟩
            exact g ⟨⟨by omega, by rw [b]⟩, ⟨a, by rw [c]⟩⟩
          rw [if_neg (fun h => g h.2), if_neg (by omega)] at e
          rw [no _ e hp, if_neg (fun h => g ⟨h.1, h.2.1⟩)]; rfl
      · rw [if_neg (fun h => h3 h.1)] at e
        rw [if_neg h3]
        have hp : ¬ (2 < l.length ∧ bAt l 0 = 239 ∧ bAt l 1 = 191 ∧ bAt l 2 = 189) := by
          rintro ⟨_, a, _⟩
          rw [a] at h3
          exact h3 rfl
        by_cases h4 : bAt l 0 / 8 = 30
        · rw [if_pos h4]
          by_cases g : goesOn l 1 ∧ goesOn l 2 ∧ goesOn l 3
          · rw [if_pos ⟨h4, g⟩] at e
            have hv := valid_nat (r4 l)
            by_cases hk : 65536 ≤ r4 l ∧ Utf8.valid (r4 l) = true
            · have hk2 := hv.1 hk.2
              rw [if_pos hk] at e
              rw [yes _ _ e (.inl (by omega)), if_pos ⟨g.1, g.2.1, g.2.2, hk.1, by omega, by omega⟩]; rfl
            · have hn : ¬ runeOk 65536 (r4 l) := fun h => hk ⟨h.1, hv.2 (by have := h.2; omega)⟩
              rw [if_neg hk] at e
              rw [no _ e hp, if_neg (fun h => hn h.2.2.2)]; rfl
          · rw [if_neg (fun h => g h.2)] at e
            rw [no _ e hp, if_neg (fun h => g ⟨h.1, h.2.1, h.2.2.1⟩)]; rfl
        · rw [if_neg (fun h => h4 h.1)] at e
          rw [no _ e hp, if_neg h4]; rfl
end Go.Proofs.YtnippaaiopgnaaaDoor.Txt
