/- An operation's line in plain Lean: what Print writes, and that it is another line for another operation. -/
import Derived.Test.YtkdhomiieenfnaaDoorXLm28
import Derived.Lib.ItoaLen
import Derived.Lib.ItoaMem
namespace Go.Proofs.YtkdhomiieenfnaaDoor.O
open Go Go.Proofs.YtkdhomiieenfnaaDoor.Txt Go.Proofs.YtkdhomiieenfnaaDoor.U
set_option linter.unusedVariables false
set_option linter.unusedSimpArgs false

def idL (a b : Int) : List UInt8 := if a = 0 ∧ b = 0 then [45] else Lib.itoa a ++ 46 :: Lib.itoa b
def rgL (r : Int × Int) : List UInt8 := Lib.itoa r.1 ++ 45 :: Lib.itoa r.2
/-- What strings.Join makes of the ranges' words. -/
def rsL : List (Int × Int) → List UInt8
  | [] => []
  | [r] => rgL r
  | r :: s :: t => rgL r ++ 44 :: rsL (s :: t)
def wordL (kd : Int) (on : Bool) : List UInt8 := if kd = 1 then [32, 105, 110, 115, 32] else if kd = 2 then [32, 104, 105, 100, 101, 32] else if kd = 3 then [32, 115, 104, 111, 119, 32] else if on then [32, 111, 110, 32] else [32, 111, 102, 102, 32]
/-- An operation's line. -/
def lineL (i0 i1 kd a : Int) (tx : List UInt8) (rs : List (Int × Int)) (t0 t1 : Int) (on : Bool) : List UInt8 :=
  idL i0 i1 ++ (wordL kd on ++ (if kd = 1 then Lib.itoa a ++ 32 :: quoteL tx else if kd = 2 ∨ kd = 3 then rsL rs else idL t0 t1))

/-! ### Numbers -/
theorem dec_digit (n : Nat) : ∀ c ∈ Lib.decDigits n, 48 ≤ c.toNat ∧ c.toNat ≤ 57 := by
  induction n using Nat.strongRecOn with
  | ind n ih =>
    intro c hc
    rw [Lib.decDigits] at hc
    split at hc
    · rename_i h
      rw [List.mem_singleton.1 hc]
      simp; omega
    · rename_i h
      rcases List.mem_append.1 hc with h1 | h1
      · exact ih (n / 10) (by omega) c h1
      · rw [List.mem_singleton.1 h1]
        simp; omega
theorem dec_pos (n : Nat) : 0 < (Lib.decDigits n).length := by
  rw [Lib.decDigits]
  split <;> simp
theorem dec_inj (m n : Nat) (h : Lib.decDigits m = Lib.decDigits n) : m = n := by
  induction m using Nat.strongRecOn generalizing n with
  | ind m ih =>
    have one : ∀ k : Nat, k < 10 → (UInt8.ofNat (48 + k)).toNat = 48 + k := fun k hk => by rw [ofNat_toNat _ (by omega)]
    have e1 := h
    rw [Lib.decDigits] at e1
    by_cases hm : m < 10
    · rw [dif_pos hm] at e1
      rw [Lib.decDigits] at e1
      by_cases hn : n < 10
      · rw [dif_pos hn] at e1
        have := congrArg UInt8.toNat (List.cons.inj e1).1
        rw [one m hm, one n hn] at this
        omega
      · rw [dif_neg hn] at e1
        have := congrArg List.length e1
        have hp := dec_pos (n / 10)
        simp only [List.length_append, List.length_cons, List.length_nil] at this
        omega
    · rw [dif_neg hm] at e1
      conv at e1 => rhs; rw [Lib.decDigits]
      by_cases hn : n < 10
      · rw [dif_pos hn] at e1
        have := congrArg List.length e1
        have hp := dec_pos (m / 10)
        simp only [List.length_append, List.length_cons, List.length_nil] at this
        omega
      · rw [dif_neg hn] at e1
        have h2 := List.append_inj' e1 rfl
        have h3 := ih (m / 10) (by omega) (n / 10) h2.1
        have := congrArg UInt8.toNat (List.cons.inj h2.2).1
        rw [one (m % 10) (by omega), one (n % 10) (by omega)] at this
        omega
theorem itoa_chars (n : Int) : ∀ c ∈ Lib.itoa n, c = 45 ∨ (48 ≤ c.toNat ∧ c.toNat ≤ 57) := by
  intro c hc
  unfold Lib.itoa at hc
  split at hc
  · rcases List.mem_cons.1 hc with h | h
    · exact .inl h
    · exact .inr (dec_digit _ c h)
  · exact .inr (dec_digit _ c hc)
theorem itoa_digits (n : Int) (h : 0 ≤ n) : ∀ c ∈ Lib.itoa n, 48 ≤ c.toNat ∧ c.toNat ≤ 57 := by
  unfold Lib.itoa
  rw [if_neg (by omega)]
  exact dec_digit _
theorem itoa_inj {m n : Int} (hm : 0 ≤ m) (hn : 0 ≤ n) (h : Lib.itoa m = Lib.itoa n) : m = n := by
  unfold Lib.itoa at h
  rw [if_neg (by omega), if_neg (by omega)] at h
  have := dec_inj _ _ h
  omega
/-- Two lists with a mark behind a part that has none of it. -/
theorem split_mark (c : UInt8) : ∀ (a b x y : List UInt8), (∀ z ∈ a, z ≠ c) → (∀ z ∈ b, z ≠ c) → a ++ c :: x = b ++ c :: y → a = b ∧ x = y
  | [], [], x, y, _, _, h => ⟨rfl, (List.cons.inj h).2⟩
  | [], z :: b, x, y, _, hb, h => absurd (List.cons.inj h).1.symm (hb z (by simp))
  | z :: a, [], x, y, ha, _, h => absurd (List.cons.inj h).1 (ha z (by simp))
  | z :: a, u :: b, x, y, ha, hb, h => by
    obtain ⟨h1, h2⟩ := List.cons.inj h
    obtain ⟨h3, h4⟩ := split_mark c a b x y (fun w hw => ha w (by simp [hw])) (fun w hw => hb w (by simp [hw])) h2
    exact ⟨by rw [h1, h3], h4⟩
theorem no_mark (c : UInt8) (a b y : List UInt8) (ha : ∀ z ∈ a, z ≠ c) (h : a = b ++ c :: y) : False := ha c (by rw [h]; simp) rfl
theorem rg_no_comma (r : Int × Int) (h : 0 ≤ r.1) (h2 : 0 ≤ r.2) : ∀ z ∈ rgL r, z ≠ 44 := by
  intro z hz e
  subst e
  unfold rgL at hz
  rcases List.mem_append.1 hz with h1 | h1
  · have := itoa_digits _ h _ h1; simp at this
  · rcases List.mem_cons.1 h1 with h3 | h3
    · cases h3
    · have := itoa_digits _ h2 _ h3; simp at this
theorem digit_no (c : UInt8) (hc : c.toNat < 48) (n : Int) (h : 0 ≤ n) : ∀ z ∈ Lib.itoa n, z ≠ c := by
  intro z hz e
  subst e
  have := itoa_digits _ h _ hz
  omega
theorem rg_inj {r s : Int × Int} (h1 : 0 ≤ r.1) (h2 : 0 ≤ r.2) (h3 : 0 ≤ s.1) (h4 : 0 ≤ s.2) (h : rgL r = rgL s) : r = s := by
  unfold rgL at h
  obtain ⟨e1, e2⟩ := split_mark 45 _ _ _ _ (digit_no 45 (by decide) _ h1) (digit_no 45 (by decide) _ h3) h
  exact Prod.ext (itoa_inj h1 h3 e1) (itoa_inj h2 h4 e2)
theorem rg_ne (r : Int × Int) : rgL r ≠ [] := by unfold rgL; simp
theorem rs_inj : ∀ {a b : List (Int × Int)}, (∀ r ∈ a, 0 ≤ r.1 ∧ 0 ≤ r.2) → (∀ r ∈ b, 0 ≤ r.1 ∧ 0 ≤ r.2) → rsL a = rsL b → a = b
  | [], [], _, _, _ => rfl
  | [], [s], _, _, h => absurd h.symm (rg_ne s)
  | [], s :: t :: b, _, _, h => by
    have := congrArg List.length h
    simp [rsL] at this
  | [r], [], _, _, h => absurd h (rg_ne r)
  | r :: r' :: a, [], _, _, h => by
    have := congrArg List.length h
    simp [rsL] at this
  | [r], [s], ha, hb, h => by
    have h1 := ha r (by simp)
    have h2 := hb s (by simp)
    rw [rg_inj h1.1 h1.2 h2.1 h2.2 h]
  | [r], s :: t :: b, ha, hb, h => by
    have h1 := ha r (by simp)
    exact (no_mark 44 _ _ _ (rg_no_comma r h1.1 h1.2) h).elim
  | r :: r' :: a, [s], ha, hb, h => by
    have h1 := hb s (by simp)
    exact (no_mark 44 _ _ _ (rg_no_comma s h1.1 h1.2) h.symm).elim
  | r :: r' :: a, s :: t :: b, ha, hb, h => by
    have h1 := ha r (by simp)
    have h2 := hb s (by simp)
    obtain ⟨e1, e2⟩ := split_mark 44 _ _ _ _ (rg_no_comma r h1.1 h1.2) (rg_no_comma s h2.1 h2.2) h
    rw [rg_inj h1.1 h1.2 h2.1 h2.2 e1, rs_inj (fun x hx => ha x (List.mem_cons_of_mem _ hx)) (fun x hx => hb x (List.mem_cons_of_mem _ hx)) e2]
/-- Two right operations that are no Status, of one id, have one line just if they are one. -/
theorem line_inj {i0 i1 kd a kd' a' : Int} {tx tx' : List UInt8} {rs rs' : List (Int × Int)} {t0 t1 t0' t1' : Int} {on on' : Bool} (hk : kd = 1 ∨ kd = 2 ∨ kd = 3) (hk' : kd' = 1 ∨ kd' = 2 ∨ kd' = 3)
    (ha : 0 ≤ a) (ha' : 0 ≤ a') (hr : ∀ r ∈ rs, 0 ≤ r.1 ∧ 0 ≤ r.2) (hr' : ∀ r ∈ rs', 0 ≤ r.1 ∧ 0 ≤ r.2) (h : lineL i0 i1 kd a tx rs t0 t1 on = lineL i0 i1 kd' a' tx' rs' t0' t1' on') :
    kd = kd' ∧ (kd = 1 → a = a' ∧ tx = tx') ∧ (kd ≠ 1 → rs = rs') := by
  unfold lineL at h
  have h := List.append_cancel_left h
  have w1 : ∀ on, wordL 1 on = [32, 105, 110, 115, 32] := fun on => rfl
  have w2 : ∀ on, wordL 2 on = [32, 104, 105, 100, 101, 32] := fun on => rfl
  have w3 : ∀ on, wordL 3 on = [32, 115, 104, 111, 119, 32] := fun on => rfl
  rcases hk with rfl | rfl | rfl <;> rcases hk' with rfl | rfl | rfl
  all_goals simp [w1, w2, w3] at h
  · obtain ⟨e1, e2⟩ := split_mark 32 _ _ _ _ (digit_no 32 (by decide) _ ha) (digit_no 32 (by decide) _ ha') h
    have := (quote_uniq (t := []) (u := []) (by simpa using e2)).1
    exact ⟨rfl, fun _ => ⟨itoa_inj ha ha' e1, this⟩, fun h => absurd rfl h⟩
  · exact ⟨rfl, ⟨fun h => absurd h (by decide), fun _ => rs_inj hr hr' h⟩⟩
  · exact ⟨rfl, ⟨fun h => absurd h (by decide), fun _ => rs_inj hr hr' h⟩⟩
end Go.Proofs.YtkdhomiieenfnaaDoor.O
