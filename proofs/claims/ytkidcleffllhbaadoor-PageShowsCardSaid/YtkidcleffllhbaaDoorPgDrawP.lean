/- How a row is drawn, in plain Lean: its runes, blanks for a tab, a bar at the caret, no blanks at its end; and what is left of it without its bar. -/
import Derived.Test.YtkidcleffllhbaaDoorPgP
import Derived.Test.YtkidcleffllhbaaDoorUPure
namespace Go.Proofs.YtkidcleffllhbaaDoor.Pg
open Go.Proofs.YtkidcleffllhbaaDoor.Txt
set_option linter.unusedVariables false
set_option linter.unusedSimpArgs false

/-- A row without the equal things at its end. -/
def trimL {α : Type} [DecidableEq α] (c : α) (l : List α) : List α := (l.reverse.dropWhile (· == c)).reverse
theorem trimL_nil {α : Type} [DecidableEq α] (c : α) : trimL c [] = [] := rfl
theorem trimL_snoc {α : Type} [DecidableEq α] (c x : α) (l : List α) : trimL c (l ++ [x]) = if x = c then trimL c l else l ++ [x] := by
  unfold trimL
  rw [List.reverse_append, List.reverse_singleton, List.singleton_append, List.dropWhile_cons]
  by_cases h : x = c
  · rw [if_pos (by simpa using h), if_pos h]
  · rw [if_neg (by simpa using h), if_neg h]; simp
theorem snoc_ind {α : Type} {P : List α → Prop} (h0 : P []) (h1 : ∀ l x, P l → P (l ++ [x])) (l : List α) : P l := by
  have : ∀ n (l : List α), l.length ≤ n → P l := by
    intro n
    induction n with
    | zero => intro l h; obtain rfl : l = [] := List.length_eq_zero_iff.1 (by omega); exact h0
    | succ n ih =>
      intro l h
      rcases List.eq_nil_or_concat l with rfl | ⟨ys, x, rfl⟩
      · exact h0
      · rw [List.concat_eq_append] at h ⊢
        exact h1 _ _ (ih ys (by simp at h; omega))
  exact this _ l (Nat.le_refl _)
theorem trimL_app {α : Type} [DecidableEq α] (c : α) (a b : List α) : trimL c (a ++ trimL c b) = trimL c (a ++ b) := by
  induction b using snoc_ind with
  | h0 => simp [trimL_nil]
  | h1 l x ih =>
    rw [trimL_snoc]
    by_cases h : x = c
    · rw [if_pos h, ih, ← List.append_assoc, trimL_snoc, if_pos h]
    · rw [if_neg h]
theorem trimL_keep {α : Type} [DecidableEq α] (c d : α) (h : d ≠ c) (a b : List α) : trimL c (a ++ d :: b) = a ++ d :: trimL c b := by
  induction b using snoc_ind with
  | h0 => rw [trimL_nil, trimL_snoc, if_neg h]
  | h1 l x ih =>
    rw [trimL_snoc, ← List.cons_append, ← List.append_assoc, trimL_snoc]
    by_cases hx : x = c
    · rw [if_pos hx, if_pos hx, ih]
    · rw [if_neg hx, if_neg hx]; simp
theorem trimL_mem {α : Type} [DecidableEq α] {c x : α} {l : List α} (h : x ∈ trimL c l) : x ∈ l := by
  unfold trimL at h
  rw [List.mem_reverse] at h
  have := (List.dropWhile_sublist (· == c)).subset h
  simpa using this
theorem trimL_len {α : Type} [DecidableEq α] (c : α) (l : List α) : (trimL c l).length ≤ l.length := by
  unfold trimL
  rw [List.length_reverse]
  have := (List.dropWhile_sublist (l := l.reverse) (· == c)).length_le
  simpa using this
theorem encB_last (r : Int) (h : Utf8.valid r = true) (h2 : r ≠ 32) : ∃ l b, encB r = l ++ [b] ∧ b ≠ 32 := by
  have hv := (valid_iff r).1 h
  rcases encB_cases r h with ⟨h1, e⟩ | ⟨h1, h3, e⟩ | ⟨h1, h3, e⟩ | ⟨h1, h3, e⟩
  · refine ⟨[], _, e, fun hb => ?_⟩
    have := congrArg UInt8.toNat hb
    rw [ofNat_toNat _ (by omega)] at this
    have e2 : (32 : UInt8).toNat = 32 := rfl
    omega
  · refine ⟨[_], _, e, fun hb => ?_⟩
    have := congrArg UInt8.toNat hb
    rw [ofNat_toNat _ (by omega)] at this
    have e2 : (32 : UInt8).toNat = 32 := rfl
    omega
  · refine ⟨[_, _], _, e, fun hb => ?_⟩
    have := congrArg UInt8.toNat hb
    rw [ofNat_toNat _ (by omega)] at this
    have e2 : (32 : UInt8).toNat = 32 := rfl
    omega
  · refine ⟨[_, _, _], _, e, fun hb => ?_⟩
    have := congrArg UInt8.toNat hb
    rw [ofNat_toNat _ (by omega)] at this
    have e2 : (32 : UInt8).toNat = 32 := rfl
    omega
theorem encB_blank : encB 32 = [32] := by decide +kernel
theorem enc_one (r : Int) : enc [r] = encB r := by simp [enc]
theorem enc_trim (xs : List Int) (h : ∀ r ∈ xs, Utf8.valid r = true) : trimL 32 (enc xs) = enc (trimL 32 xs) := by
  induction xs using snoc_ind with
  | h0 => rfl
  | h1 l x ih =>
    have ih := ih (fun r hr => h r (by simp [hr]))
    rw [enc_append, enc_one, trimL_snoc]
    by_cases hx : x = 32
    · rw [if_pos hx, hx, encB_blank, trimL_snoc, if_pos rfl, ih]
    · rw [if_neg hx]
      obtain ⟨l2, b, e, hb⟩ := encB_last x (h x (by simp)) hx
      rw [e, ← List.append_assoc, trimL_snoc, if_neg hb, enc_append, enc_one, e, List.append_assoc]

/-- What a rune is drawn as: blanks for a tab. -/
def piece (r n : Int) : List Int := if r = 9 then List.replicate (colR r n).toNat 32 else [r]
/-- So many runes from lo on, drawn, with a bar ahead of the caret's. -/
def drawTo (rs : List Int) (lo : Nat) (car : Option Nat) : Nat → List Int
  | 0 => []
  | n + 1 => drawTo rs lo car n ++ (if car = some (lo + n) then [124] else []) ++ piece (rs.getD (lo + n) 0) (wid rs lo (lo + n))
def barAt (car : Option Nat) (k : Nat) : List Int := if car = some k then [124] else []
/-- A row drawn. -/
def drawn (rs : List Int) (lo hi : Nat) (car : Option Nat) : List Int := trimL 32 (drawTo rs lo car (hi - lo) ++ barAt car hi)
theorem drawTo_succ (rs : List Int) (lo : Nat) (car : Option Nat) (n : Nat) : drawTo rs lo car (n + 1) = drawTo rs lo car n ++ barAt car (lo + n) ++ piece (rs.getD (lo + n) 0) (wid rs lo (lo + n)) := rfl
theorem piece_len (r n : Int) : (piece r n).length ≤ 4 := by
  unfold piece
  split
  · rw [List.length_replicate]; have := colR_le r n; omega
  · simp
theorem drawTo_len (rs : List Int) (lo : Nat) (car : Option Nat) : ∀ n, (drawTo rs lo car n).length ≤ 5 * n
  | 0 => Nat.le_refl _
  | n + 1 => by
    have h1 := drawTo_len rs lo car n
    have h2 := piece_len (rs.getD (lo + n) 0) (wid rs lo (lo + n))
    rw [drawTo_succ, List.length_append, List.length_append]
    have h3 : (barAt car (lo + n)).length ≤ 1 := by unfold barAt; split <;> simp
    omega
theorem drawTo_mem (rs : List Int) (lo : Nat) (car : Option Nat) (P : Int → Prop) (h0 : P 32) (h1 : car ≠ none → P 124) : ∀ n, (∀ k, lo ≤ k → k < lo + n → P (rs.getD k 0)) → ∀ r ∈ drawTo rs lo car n, P r
  | 0, _, r, hr => by simp [drawTo] at hr
  | n + 1, hg, r, hr => by
    rw [drawTo_succ] at hr
    rcases List.mem_append.1 hr with h | h
    · rcases List.mem_append.1 h with h | h
      · exact drawTo_mem rs lo car P h0 h1 n (fun k a b => hg k a (by omega)) r h
      · unfold barAt at h
        split at h
        · rename_i hc; rw [List.mem_singleton.1 h]; exact h1 (by rw [hc]; simp)
        · simp at h
    · unfold piece at h
      split at h
      · rw [(List.mem_replicate.1 h).2]; exact h0
      · rw [List.mem_singleton.1 h]; exact hg _ (by omega) (by omega)
theorem drawTo_ahead (rs : List Int) (lo c : Nat) : ∀ n, lo + n ≤ c → drawTo rs lo (some c) n = drawTo rs lo none n
  | 0, _ => rfl
  | n + 1, h => by
    rw [drawTo_succ, drawTo_succ, drawTo_ahead rs lo c n (by omega)]
    have : barAt (some c) (lo + n) = barAt none (lo + n) := by unfold barAt; rw [if_neg (by simp; omega), if_neg (by simp)]
    rw [this]
/-- The bar lies between what it would be without it. -/
theorem drawTo_bar (rs : List Int) (lo c : Nat) (h : lo ≤ c) : ∀ n, c < lo + n → ∃ Y, drawTo rs lo (some c) n = drawTo rs lo none (c - lo) ++ 124 :: Y ∧ drawTo rs lo none n = drawTo rs lo none (c - lo) ++ Y ∧ ∀ P : Int → Prop, P 32 → (∀ k, lo ≤ k → k < lo + n → P (rs.getD k 0)) → ∀ r ∈ Y, P r
  | 0, hc => by omega
  | n + 1, hc => by
    have hp : ∀ P : Int → Prop, P 32 → P (rs.getD (lo + n) 0) → ∀ r ∈ piece (rs.getD (lo + n) 0) (wid rs lo (lo + n)), P r := fun P h0 hP r hr => by
      unfold piece at hr
      split at hr
      · rw [(List.mem_replicate.1 hr).2]; exact h0
      · rw [List.mem_singleton.1 hr]; exact hP
    have e0 : barAt none (lo + n) = [] := by unfold barAt; rw [if_neg (by simp)]
    rcases Nat.lt_or_ge c (lo + n) with h1 | h1
    · obtain ⟨Y, e1, e2, e3⟩ := drawTo_bar rs lo c h n h1
      have e4 : barAt (some c) (lo + n) = [] := by unfold barAt; rw [if_neg (by simp; omega)]
      refine ⟨Y ++ piece (rs.getD (lo + n) 0) (wid rs lo (lo + n)), ?_, ?_, fun P h0 hP r hr => ?_⟩
      · rw [drawTo_succ, e1, e4]; simp
      · rw [drawTo_succ, e2, e0]; simp
      · rcases List.mem_append.1 hr with hr | hr
        · exact e3 P h0 (fun k a b => hP k a (by omega)) r hr
        · exact hp P h0 (hP _ (by omega) (by omega)) r hr
    · obtain rfl : c = lo + n := by omega
      have e4 : barAt (some (lo + n)) (lo + n) = [124] := by unfold barAt; rw [if_pos rfl]
      refine ⟨piece (rs.getD (lo + n) 0) (wid rs lo (lo + n)), ?_, ?_, fun P h0 hP r hr => hp P h0 (hP _ (by omega) (by omega)) r hr⟩
      · rw [drawTo_succ, e4, drawTo_ahead rs lo _ n (Nat.le_refl _), show lo + n - lo = n by omega]; simp
      · rw [drawTo_succ, e0, show lo + n - lo = n by omega]; simp
theorem barAt_none (k : Nat) : barAt none k = [] := by unfold barAt; rw [if_neg (by simp)]
theorem drawn_none (rs : List Int) (lo hi : Nat) : drawn rs lo hi none = trimL 32 (drawTo rs lo none (hi - lo)) := by
  unfold drawn; rw [barAt_none, List.append_nil]
/-- A row with its bar has one, and is without it what it is without a caret. -/
theorem drawn_bar (rs : List Int) (lo hi c : Nat) (h1 : lo ≤ c) (h2 : c ≤ hi) (hg : ∀ k, lo ≤ k → k < hi → rs.getD k 0 ≠ 124) :
    (drawn rs lo hi (some c)).count 124 = 1 ∧ trimL 32 ((drawn rs lo hi (some c)).erase 124) = drawn rs lo hi none := by
  have key : ∃ X Y, drawTo rs lo (some c) (hi - lo) ++ barAt (some c) hi = X ++ 124 :: Y ∧ drawTo rs lo none (hi - lo) = X ++ Y ∧ (124 : Int) ∉ X ∧ (124 : Int) ∉ Y := by
    have hX : (124 : Int) ∉ drawTo rs lo none (c - lo) := fun hm => drawTo_mem rs lo none (fun r => r ≠ 124) (by decide) (by simp) (c - lo) (fun k a b => hg k a (by omega)) 124 hm rfl
    rcases Nat.lt_or_ge c hi with h3 | h3
    · obtain ⟨Y, e1, e2, e3⟩ := drawTo_bar rs lo c h1 (hi - lo) (by omega)
      refine ⟨_, Y, ?_, e2, hX, fun hm => e3 (fun r => r ≠ 124) (by decide) (fun k a b => hg k a (by omega)) 124 hm rfl⟩
      unfold barAt
      rw [e1, if_neg (by simp; omega), List.append_nil]
    · obtain rfl : c = hi := by omega
      refine ⟨_, [], ?_, by rw [List.append_nil], hX, by simp⟩
      unfold barAt
      rw [if_pos rfl, drawTo_ahead rs lo c _ (by omega)]
  obtain ⟨X, Y, e1, e2, hX, hY⟩ := key
  have hY2 : (124 : Int) ∉ trimL 32 Y := fun h => hY (trimL_mem h)
  rw [drawn_none]
  unfold drawn
  rw [e1, e2, trimL_keep 32 124 (by decide)]
  constructor
  · rw [List.count_append, List.count_cons_self, List.count_eq_zero_of_not_mem hX, List.count_eq_zero_of_not_mem hY2]
  · rw [List.erase_append_right _ hX, List.erase_cons_head, trimL_app]
theorem drawn_no (rs : List Int) (lo hi : Nat) (hg : ∀ k, lo ≤ k → k < hi → rs.getD k 0 ≠ 124) : (drawn rs lo hi none).count 124 = 0 := by
  rw [drawn_none]
  apply List.count_eq_zero_of_not_mem
  intro h
  exact drawTo_mem rs lo none (fun r => r ≠ 124) (by decide) (by simp) (hi - lo) (fun k a b => hg k a (by omega)) 124 (trimL_mem h) rfl
/-- What bars has put aside behind one rune more. -/
theorem erase_snoc (l : List Int) (c : Int) : (l ++ [c]).erase 124 = if c = 124 ∧ l.count 124 = 0 then l.erase 124 else l.erase 124 ++ [c] := by
  by_cases hm : (124 : Int) ∈ l
  · have hc : ¬ l.count 124 = 0 := by have := List.count_pos_iff.2 hm; omega
    rw [if_neg (fun h => hc h.2), List.erase_append_left _ hm]
  · rw [List.erase_append_right _ hm, List.erase_of_not_mem hm]
    by_cases h : c = 124
    · rw [if_pos ⟨h, List.count_eq_zero_of_not_mem hm⟩, h]; simp
    · rw [if_neg (fun e => h e.1), List.erase_of_not_mem (by simpa using fun e => h e.symm)]
theorem count_snoc (l : List Int) (c : Int) : (l ++ [c]).count 124 = l.count 124 + (if c = 124 then 1 else 0) := by
  rw [List.count_append]
  by_cases h : c = 124
  · rw [if_pos h, h]; simp
  · rw [if_neg h]; simp [List.count_cons, h]
end Go.Proofs.YtkidcleffllhbaaDoor.Pg
