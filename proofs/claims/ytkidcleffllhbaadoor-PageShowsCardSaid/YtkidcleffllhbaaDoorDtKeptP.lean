/- Which elements of a row are kept as which of another; merges; in plain Lean. -/
import Derived.Test.YtkidcleffllhbaaDoorDtP
namespace Go.Proofs.YtkidcleffllhbaaDoor.Dt
set_option linter.unusedVariables false
set_option linter.unusedSimpArgs false
set_option linter.unusedSectionVars false
section
variable {α : Type} [DecidableEq α]

/-- Between changes the two rows are alike: from i and j on. -/
def Segs (x y : List α) : Nat → Nat → List Chg → Nat → Nat → Prop
  | i, j, [], I, J => i ≤ I ∧ J = j + (I - i) ∧ ∀ k, k < I - i → x[i + k]? = y[j + k]?
  | i, j, c :: l, I, J => i ≤ c.at_ ∧ c.from_ = j + (c.at_ - i) ∧ (∀ k, k < c.at_ - i → x[i + k]? = y[j + k]?) ∧ Segs x y (c.at_ + c.del) (c.from_ + c.ins) l I J
theorem Segs.keep {x y : List α} : ∀ {l : List Chg} {i j I J : Nat}, Segs x y i j l I J → x[I]? = y[J]? → Segs x y i j l (I + 1) (J + 1)
  | [], i, j, I, J, h, he => by
    obtain ⟨h1, h2, h3⟩ := h
    refine ⟨by omega, by omega, fun k hk => ?_⟩
    by_cases hk' : k < I - i
    · exact h3 k hk'
    · obtain rfl : k = I - i := by omega
      rw [show i + (I - i) = I by omega, show j + (I - i) = J by omega]
      exact he
  | c :: l, i, j, I, J, h, he => ⟨h.1, h.2.1, h.2.2.1, Segs.keep h.2.2.2 he⟩
/-- A new change at the end. -/
theorem Segs.push {x y : List α} : ∀ {l : List Chg} {i j I J : Nat} (d s : Nat), Segs x y i j l I J → Segs x y i j (l ++ [⟨I, d, J, s⟩]) (I + d) (J + s)
  | [], i, j, I, J, d, s, h => by
    obtain ⟨h1, h2, h3⟩ := h
    exact ⟨h1, h2, h3, Nat.le_refl _, by simp, fun k hk => by simp at hk⟩
  | c :: l, i, j, I, J, d, s, h => ⟨h.1, h.2.1, h.2.2.1, Segs.push d s h.2.2.2⟩
/-- The last change grows. -/
theorem Segs.grow {x y : List α} : ∀ {l : List Chg} {i j I J : Nat} (c : Chg) (d s : Nat), Segs x y i j (l ++ [c]) I J → c.at_ + c.del = I → c.from_ + c.ins = J → Segs x y i j (l ++ [⟨c.at_, c.del + d, c.from_, c.ins + s⟩]) (I + d) (J + s)
  | [], i, j, I, J, c, d, s, h, e1, e2 => by
    obtain ⟨h1, h2, h3, h4, h5, h6⟩ := h
    refine ⟨h1, h2, h3, ?_, ?_, fun k hk => ?_⟩
    · show c.at_ + (c.del + d) ≤ I + d; omega
    · show J + s = c.from_ + (c.ins + s) + (I + d - (c.at_ + (c.del + d))); omega
    · have : I + d - (c.at_ + (c.del + d)) = 0 := by omega
      have hk' : k < I + d - (c.at_ + (c.del + d)) := hk
      omega
  | e :: l, i, j, I, J, c, d, s, h, e1, e2 => ⟨h.1, h.2.1, h.2.2.1, Segs.grow c d s h.2.2.2 e1 e2⟩
theorem Cut.segs {x y : List α} {out : List Chg} {I J : Nat} {o : Bool} (h : Cut x y out I J o) : Segs x y 0 0 out I J := by
  induction h with
  | nil => exact ⟨Nat.le_refl _, rfl, fun k hk => by simp at hk⟩
  | keep _ _ _ he ih => exact ih.keep he
  | @del out i j o hc _ ih =>
    cases o with
    | false => exact ih.push 1 0
    | true =>
      rcases snoc_cases out with rfl | ⟨ys, c, rfl⟩
      · exact absurd rfl (hc.apart.ne rfl)
      · rw [delL_snoc]
        have h2 := (hc.apart.last ys c rfl).2
        simp at h2
        exact ih.grow c 1 0 h2.1 h2.2
  | @ins out i j o hc _ ih =>
    cases o with
    | false => exact ih.push 0 1
    | true =>
      rcases snoc_cases out with rfl | ⟨ys, c, rfl⟩
      · exact absurd rfl (hc.apart.ne rfl)
      · rw [insL_snoc]
        have h2 := (hc.apart.last ys c rfl).2
        simp at h2
        exact ih.grow c 0 1 h2.1 h2.2

/-- n numbers from j on. -/
def upL : Nat → Int → List Int
  | 0, _ => []
  | n + 1, j => j :: upL n (j + 1)
theorem upL_len : ∀ (n : Nat) (j : Int), (upL n j).length = n
  | 0, _ => rfl
  | n + 1, j => by simp [upL, upL_len n]
theorem upL_get : ∀ (n : Nat) (j : Int) (k : Nat), k < n → (upL n j)[k]? = some (j + k)
  | n + 1, j, 0, _ => by simp [upL]
  | n + 1, j, k + 1, h => by simp only [upL, List.getElem?_cons_succ, upL_get n (j + 1) k (by omega)]; congr 1; omega
theorem upL_snoc : ∀ (n : Nat) (j : Int), upL (n + 1) j = upL n j ++ [j + n]
  | 0, j => by simp [upL]
  | n + 1, j => by
    have := upL_snoc n (j + 1)
    rw [upL, this]
    simp only [upL, List.cons_append]
    congr 3; omega
/-- What each element is kept as, from i and j on, up to I; -1: it is taken out. -/
def kfL : Nat → Nat → List Chg → Nat → List Int
  | i, j, [], I => upL (I - i) j
  | i, j, c :: l, I => upL (c.at_ - i) j ++ List.replicate c.del (-1) ++ kfL (c.at_ + c.del) (c.from_ + c.ins) l I
/-- The list with what lies behind the last. -/
def keptL (x y : List α) : List Int := kfL 0 0 (chL x y) x.length
/-- What is known of such a list. -/
structure KeptOK (x y : List α) (i j : Nat) (K : List Int) : Prop where
  len : i + K.length = x.length
  at_ : ∀ (k : Nat) (v : Int), K[k]? = some v → v = -1 ∨ ∃ n : Nat, v = n ∧ j ≤ n ∧ n < y.length ∧ x[i + k]? = y[n]?
  up : ∀ (k k' n n' : Nat), k < k' → K[k]? = some (n : Int) → K[k']? = some (n' : Int) → n < n'
theorem kept_app {x y : List α} {i j i' j' : Nat} {A B : List Int} (hi : i' = i + A.length) (hj : j ≤ j') (hA : ∀ (k : Nat) (v : Int), A[k]? = some v → v = -1 ∨ ∃ n : Nat, v = n ∧ j ≤ n ∧ n < j' ∧ n < y.length ∧ x[i + k]? = y[n]?) (hu : ∀ (k k' n n' : Nat), k < k' → A[k]? = some (n : Int) → A[k']? = some (n' : Int) → n < n') (hB : KeptOK x y i' j' B) : KeptOK x y i j (A ++ B) := by
  refine ⟨by rw [List.length_append]; have := hB.len; omega, fun k v hk => ?_, fun k k' n n' hkk h1 h2 => ?_⟩
  · by_cases hl : k < A.length
    · rw [List.getElem?_append_left hl] at hk
      rcases hA k v hk with h | ⟨n, h1, h2, h3, h4, h5⟩
      · exact .inl h
      · exact .inr ⟨n, h1, h2, h4, h5⟩
    · rw [List.getElem?_append_right (by omega)] at hk
      rcases hB.at_ _ v hk with h | ⟨n, h1, h2, h3, h4⟩
      · exact .inl h
      · exact .inr ⟨n, h1, by omega, h3, by rw [← h4, hi]; congr 1; omega⟩
  · by_cases hl : k < A.length
    · rw [List.getElem?_append_left hl] at h1
      by_cases hl' : k' < A.length
      · rw [List.getElem?_append_left hl'] at h2
        exact hu k k' n n' hkk h1 h2
      · rw [List.getElem?_append_right (by omega)] at h2
        rcases hA k n h1 with h | ⟨a, e1, _, e3, _⟩
        · omega
        · rcases hB.at_ _ _ h2 with h | ⟨b, f1, f2, _⟩
          · omega
          · omega
    · rw [List.getElem?_append_right (by omega)] at h1 h2
      exact hB.up _ _ n n' (by omega) h1 h2
theorem segs_le {x y : List α} : ∀ (l : List Chg) {i j : Nat}, Segs x y i j l x.length y.length → j ≤ y.length
  | [], i, j, h => by have := h.2.1; omega
  | c :: l, i, j, h => by have := segs_le l h.2.2.2; have := h.2.1; omega
theorem kf_ok {x y : List α} : ∀ (l : List Chg) (i j : Nat), Segs x y i j l x.length y.length → KeptOK x y i j (kfL i j l x.length)
  | [], i, j, h => by
    obtain ⟨h1, h2, h3⟩ := h
    refine ⟨by rw [kfL, upL_len]; omega, fun k v hk => ?_, fun k k' n n' hkk e1 e2 => ?_⟩
    · have hl := (List.getElem?_eq_some_iff.1 hk).1
      rw [kfL, upL_len] at hl
      rw [kfL, upL_get _ _ _ hl] at hk
      refine .inr ⟨j + k, by have := Option.some.inj hk; omega, by omega, by omega, h3 k hl⟩
    · have l1 := (List.getElem?_eq_some_iff.1 e1).1
      have l2 := (List.getElem?_eq_some_iff.1 e2).1
      rw [kfL, upL_len] at l1 l2
      rw [kfL, upL_get _ _ _ l1] at e1
      rw [kfL, upL_get _ _ _ l2] at e2
      have := Option.some.inj e1
      have := Option.some.inj e2
      omega
  | c :: l, i, j, h => by
    obtain ⟨h1, h2, h3, h4⟩ := h
    have ih := kf_ok l _ _ h4
    have hb : c.at_ + c.del ≤ x.length := by have := ih.len; omega
    have hjb : c.from_ + c.ins ≤ y.length := segs_le l h4
    rw [kfL]
    refine kept_app (j' := c.from_ + c.ins) (by rw [List.length_append, upL_len, List.length_replicate]; omega) (by omega) (fun k v hk => ?_) (fun k k' n n' hkk e1 e2 => ?_) ih
    · by_cases hl : k < c.at_ - i
      · rw [List.getElem?_append_left (by rw [upL_len]; exact hl), upL_get _ _ _ hl] at hk
        exact .inr ⟨j + k, by have := Option.some.inj hk; omega, by omega, by omega, by omega, h3 k hl⟩
      · rw [List.getElem?_append_right (by rw [upL_len]; omega), List.getElem?_replicate] at hk
        split at hk
        · exact .inl (Option.some.inj hk).symm
        · cases hk
    · have g : ∀ q (a : Nat), (upL (c.at_ - i) (j : Int) ++ List.replicate c.del (-1))[q]? = some (a : Int) → q < c.at_ - i ∧ a = j + q := fun q a hq => by
        by_cases hl : q < c.at_ - i
        · rw [List.getElem?_append_left (by rw [upL_len]; exact hl), upL_get _ _ _ hl] at hq
          exact ⟨hl, by have := Option.some.inj hq; omega⟩
        · rw [List.getElem?_append_right (by rw [upL_len]; omega), List.getElem?_replicate] at hq
          split at hq
          · have := Option.some.inj hq; omega
          · cases hq
      have := g k n e1
      have := g k' n' e2
      omega
theorem kept_ok (x y : List α) : KeptOK x y 0 0 (keptL x y) := by
  obtain ⟨⟨o', h⟩, _⟩ := chL_cut x y
  exact kf_ok _ 0 0 h.segs
theorem chF_self (x : List α) : ∀ (f i j : Nat) (o : Bool) (l : List α), chF f l l i j o [] = []
  | 0, _, _, _, _ => rfl
  | f + 1, i, j, o, [] => rfl
  | f + 1, i, j, o, a :: l => by simp only [chF, if_pos]; exact chF_self x f _ _ _ l
theorem kept_self (x : List α) : keptL x x = upL x.length 0 := by
  unfold keptL chL
  rw [chF_self x]
  rfl
end
end Go.Proofs.YtkidcleffllhbaaDoor.Dt
