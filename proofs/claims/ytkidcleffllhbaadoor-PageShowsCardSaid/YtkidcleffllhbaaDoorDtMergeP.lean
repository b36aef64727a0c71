/- Merges, in plain Lean. -/
import Derived.Test.YtkidcleffllhbaaDoorDtKeptP
namespace Go.Proofs.YtkidcleffllhbaaDoor.Dt
set_option linter.unusedVariables false
set_option linter.unusedSimpArgs false
set_option linter.unusedSectionVars false
section
variable {α : Type} [DecidableEq α] (q1 q2 q3 q4 : α)

def seg (l : List α) (a z : Nat) : List α := (l.take z).drop a
/-- What comes between two elements that stand fast, and whether it is a conflict. -/
def resL (b m t : List α) : List α × Bool :=
  if m = t ∨ t = b then (m, false) else if m = b then (t, false) else ([q1] ++ m ++ [q2] ++ b ++ [q3] ++ t ++ [q4], true)
/-- The loop of a merge. -/
def mgF (b m t : List α) (tM tT : List Int) : Nat → Nat → Nat → Nat → Nat → List α → Nat → List α × Nat
  | 0, _, _, _, _, out, n => (out, n)
  | f + 1, i, bi, mi, ti, out, n =>
    if tM.getD i 0 < 0 ∨ tT.getD i 0 < 0 then mgF b m t tM tT f (i + 1) bi mi ti out n
    else mgF b m t tM tT f (i + 1) (i + 1) ((tM.getD i 0).toNat + 1) ((tT.getD i 0).toNat + 1)
      (out ++ (resL q1 q2 q3 q4 (seg b bi i) (seg m mi (tM.getD i 0).toNat) (seg t ti (tT.getD i 0).toNat)).1 ++ b[i]?.toList)
      (n + if (resL q1 q2 q3 q4 (seg b bi i) (seg m mi (tM.getD i 0).toNat) (seg t ti (tT.getD i 0).toNat)).2 then 1 else 0)
/-- The list of what is kept, closed by the end. -/
def keptE (x y : List α) : List Int := keptL x y ++ [(y.length : Int)]
def mergeL (b m t : List α) : List α × Nat := mgF q1 q2 q3 q4 b m t (keptE b m) (keptE b t) (b.length + 1) 0 0 0 0 [] 0
theorem resL_sym (b m t : List α) : (resL q1 q2 q3 q4 b m t).2 = (resL q1 q2 q3 q4 b t m).2 ∧ ((resL q1 q2 q3 q4 b m t).2 = false → (resL q1 q2 q3 q4 b m t).1 = (resL q1 q2 q3 q4 b t m).1) := by
  unfold resL
  by_cases h1 : m = t
  · subst h1; simp
  · have h1' : ¬ t = m := fun e => h1 e.symm
    by_cases h2 : t = b
    · subst h2
      simp [h1, h1']
    · by_cases h3 : m = b
      · subst h3; simp [h1, h2]
      · simp [h1, h1', h2, h3]
theorem mg_sym (b m t : List α) (tM tT : List Int) : ∀ (f i bi mi ti : Nat) (out out' : List α) (n : Nat), (n = 0 → out = out') →
    (mgF q1 q2 q3 q4 b m t tM tT f i bi mi ti out n).2 = (mgF q1 q2 q3 q4 b t m tT tM f i bi ti mi out' n).2 ∧ ((mgF q1 q2 q3 q4 b m t tM tT f i bi mi ti out n).2 = 0 → (mgF q1 q2 q3 q4 b m t tM tT f i bi mi ti out n).1 = (mgF q1 q2 q3 q4 b t m tT tM f i bi ti mi out' n).1)
  | 0, i, bi, mi, ti, out, out', n, h => ⟨rfl, h⟩
  | f + 1, i, bi, mi, ti, out, out', n, h => by
    simp only [mgF]
    by_cases hc : tM.getD i 0 < 0 ∨ tT.getD i 0 < 0
    · rw [if_pos hc, if_pos hc.symm]
      exact mg_sym b m t tM tT f _ _ _ _ out out' n h
    · have hc' : ¬ (tT.getD i 0 < 0 ∨ tM.getD i 0 < 0) := fun e => hc e.symm
      rw [if_neg hc, if_neg hc']
      obtain ⟨s1, s2⟩ := resL_sym q1 q2 q3 q4 (seg b bi i) (seg m mi (tM.getD i 0).toNat) (seg t ti (tT.getD i 0).toNat)
      rw [s1]
      refine mg_sym b m t tM tT f _ _ _ _ _ _ _ fun h0 => ?_
      have hn : n = 0 := by omega
      have hb : (resL q1 q2 q3 q4 (seg b bi i) (seg t ti (tT.getD i 0).toNat) (seg m mi (tM.getD i 0).toNat)).2 = false := by
        cases hq : (resL q1 q2 q3 q4 (seg b bi i) (seg t ti (tT.getD i 0).toNat) (seg m mi (tM.getD i 0).toNat)).2 with
        | false => rfl
        | true => rw [hq] at h0; simp at h0
      rw [h hn, s2 (s1.trans hb)]
theorem merge_sym (b m t : List α) : (mergeL q1 q2 q3 q4 b m t).2 = (mergeL q1 q2 q3 q4 b t m).2 ∧ ((mergeL q1 q2 q3 q4 b m t).2 = 0 → (mergeL q1 q2 q3 q4 b m t).1 = (mergeL q1 q2 q3 q4 b t m).1) :=
  mg_sym q1 q2 q3 q4 b m t _ _ _ _ _ _ _ [] [] 0 fun _ => rfl
theorem take_seg (t : List α) (a z : Nat) (h : a ≤ z) : t.take a ++ seg t a z = t.take z := by
  unfold seg
  have : t.take a = (t.take z).take a := by rw [List.take_take, Nat.min_eq_left h]
  rw [this, List.take_append_drop]
/-- What is known of a closed list at a place. -/
theorem keptE_at (x y : List α) (i : Nat) (h : i ≤ x.length) : ((keptE x y).getD i 0 = -1 ∧ i < x.length) ∨ ∃ n : Nat, (keptE x y).getD i 0 = n ∧ n ≤ y.length ∧ (i < x.length → n < y.length ∧ x[i]? = y[n]?) ∧ (i = x.length → n = y.length) := by
  have hk := kept_ok x y
  have hl := hk.len
  unfold keptE
  by_cases hi : i < x.length
  · have h1 : i < (keptL x y).length := by omega
    have e : (keptL x y ++ [(y.length : Int)]).getD i 0 = (keptL x y)[i] := by simp [List.getD, List.getElem?_append_left h1, List.getElem?_eq_getElem h1]
    rw [e]
    rcases hk.at_ i _ (List.getElem?_eq_getElem h1) with h2 | ⟨n, h2, _, h3, h4⟩
    · exact .inl ⟨h2, hi⟩
    · exact .inr ⟨n, h2, by omega, fun _ => ⟨h3, by rw [← h4, Nat.zero_add]⟩, fun e => by omega⟩
  · have e : (keptL x y ++ [(y.length : Int)]).getD i 0 = (y.length : Int) := by
      have : i = (keptL x y).length := by omega
      subst this
      simp [List.getD]
    exact .inr ⟨y.length, e, Nat.le_refl _, fun h => absurd h hi, fun _ => rfl⟩
theorem keptE_up (x y : List α) (i k n n' : Nat) (h : i < k) (hk : k ≤ x.length) (h1 : (keptE x y).getD i 0 = (n : Int)) (h2 : (keptE x y).getD k 0 = (n' : Int)) : n < n' := by
  have ho := kept_ok x y
  have hl := ho.len
  have hi : i < (keptL x y).length := by omega
  have e : (keptE x y).getD i 0 = (keptL x y)[i] := by simp [keptE, List.getD, List.getElem?_append_left hi, List.getElem?_eq_getElem hi]
  rw [e] at h1
  by_cases hkx : k < x.length
  · have hk' : k < (keptL x y).length := by omega
    have e2 : (keptE x y).getD k 0 = (keptL x y)[k] := by simp [keptE, List.getD, List.getElem?_append_left hk', List.getElem?_eq_getElem hk']
    rw [e2] at h2
    exact ho.up i k n n' h (by rw [List.getElem?_eq_getElem hi, h1]) (by rw [List.getElem?_eq_getElem hk', h2])
  · rcases keptE_at x y k hk with ⟨_, h3⟩ | ⟨a, h3, _, _, h4⟩
    · omega
    · rw [h2] at h3
      have := h4 (by omega)
      rcases ho.at_ i _ (List.getElem?_eq_getElem hi) with h5 | ⟨b, h5, _, h6, _⟩
      · rw [h1] at h5; omega
      · rw [h1] at h5; omega
/-- Where what comes between is always the third's, the merge is the third. -/
theorem mg_copy (b m t : List α) (tM : List Int) (R : Nat → Nat → Nat → Prop)
    (hM : ∀ i, i ≤ b.length → 0 ≤ (keptE b t).getD i 0 → 0 ≤ tM.getD i 0)
    (hR : ∀ i bi mi ti (n : Nat), R bi mi ti → i ≤ b.length → (keptE b t).getD i 0 = (n : Int) → 0 ≤ tM.getD i 0 → resL q1 q2 q3 q4 (seg b bi i) (seg m mi (tM.getD i 0).toNat) (seg t ti n) = (seg t ti n, false) ∧ R (i + 1) ((tM.getD i 0).toNat + 1) (n + 1)) :
    ∀ (f i bi mi ti : Nat) (out : List α), i + f = b.length + 1 → 0 < f → R bi mi ti → out = t.take ti → (∀ (k n : Nat), i ≤ k → k ≤ b.length → (keptE b t).getD k 0 = (n : Int) → ti ≤ n) →
      mgF q1 q2 q3 q4 b m t tM (keptE b t) f i bi mi ti out 0 = (t, 0)
  | 0, _, _, _, _, _, _, h, _, _, _ => absurd h (Nat.lt_irrefl 0)
  | f + 1, i, bi, mi, ti, out, hf, _, hr, hout, hti => by
    simp only [mgF]
    rcases keptE_at b t i (by omega) with ⟨h1, h2⟩ | ⟨n, h1, h2, h3, h4⟩
    · rw [if_pos (.inr (by rw [h1]; decide))]
      exact mg_copy b m t tM R hM hR f (i + 1) bi mi ti out (by omega) (by omega) hr hout fun k n hk => hti k n (by omega)
    · have hm0 := hM i (by omega) (by rw [h1]; omega)
      rw [if_neg (by rw [h1]; omega)]
      obtain ⟨e1, e2⟩ := hR i bi mi ti n hr (by omega) h1 hm0
      have hin := hti i n (Nat.le_refl _) (by omega) h1
      rw [h1, Int.toNat_natCast, e1]
      simp only [Bool.false_eq_true, if_false, Nat.add_zero]
      rw [hout, take_seg t ti n hin]
      by_cases hib : i < b.length
      · obtain ⟨g1, g2⟩ := h3 hib
        have e3 : t.take n ++ b[i]?.toList = t.take (n + 1) := by
          rw [g2, List.take_add_one]
        rw [e3]
        exact mg_copy b m t tM R hM hR f (i + 1) (i + 1) _ (n + 1) _ (by omega) (by omega) e2 rfl fun k n' hk hkb hk2 => keptE_up b t i k n n' (by omega) hkb h1 hk2
      · have hn := h4 (by omega)
        obtain rfl : f = 0 := by omega
        subst hn
        simp [mgF, List.getElem?_eq_none (show b.length ≤ i by omega)]
theorem keptE_self (x : List α) (i : Nat) (h : i ≤ x.length) : (keptE x x).getD i 0 = (i : Int) := by
  unfold keptE
  rw [kept_self, ← upL_snoc' x.length]
  rw [List.getD_eq_getElem?_getD, upL_get _ _ _ (by omega)]
  simp
where upL_snoc' (n : Nat) : upL (n + 1) 0 = upL n 0 ++ [(n : Int)] := by rw [upL_snoc]; simp
theorem resL_left (b t : List α) : resL q1 q2 q3 q4 b b t = (t, false) := by
  unfold resL
  by_cases h : b = t
  · simp [h]
  · have : ¬ t = b := fun e => h e.symm
    simp [h, this]
theorem resL_same (b t : List α) : resL q1 q2 q3 q4 b t t = (t, false) := by simp [resL]
theorem merge_left (b t : List α) : mergeL q1 q2 q3 q4 b b t = (t, 0) := by
  refine mg_copy q1 q2 q3 q4 b b t (keptE b b) (fun bi mi _ => bi = mi) (fun i hi _ => by rw [keptE_self b i hi]; omega) (fun i bi mi ti n hr hi _ _ => ?_) _ 0 0 0 0 [] (by omega) (by omega) rfl rfl (fun _ _ _ _ _ => Nat.zero_le _)
  subst hr
  rw [keptE_self b i hi, Int.toNat_natCast]
  exact ⟨resL_left q1 q2 q3 q4 _ _, rfl⟩
theorem merge_both (b t : List α) : mergeL q1 q2 q3 q4 b t t = (t, 0) := by
  refine mg_copy q1 q2 q3 q4 b t t (keptE b t) (fun _ mi ti => mi = ti) (fun i hi h => h) (fun i bi mi ti n hr hi hn _ => ?_) _ 0 0 0 0 [] (by omega) (by omega) rfl rfl (fun _ _ _ _ _ => Nat.zero_le _)
  subst hr
  rw [hn, Int.toNat_natCast]
  exact ⟨resL_same q1 q2 q3 q4 _ _, rfl⟩
theorem merge_right (b m : List α) : mergeL q1 q2 q3 q4 b m b = (m, 0) := by
  have h1 := merge_left q1 q2 q3 q4 b m
  obtain ⟨h2, h3⟩ := merge_sym q1 q2 q3 q4 b m b
  rw [h1] at h2 h3
  exact Prod.ext (h3 h2) h2
end
end Go.Proofs.YtkidcleffllhbaaDoor.Dt
