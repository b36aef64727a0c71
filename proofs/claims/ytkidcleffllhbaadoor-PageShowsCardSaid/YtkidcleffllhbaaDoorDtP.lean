/- Rows that two rows have in common, and the way from one row to another, in plain Lean. -/
import Derived.Test.YtkidcleffllhbaaDoorUPure
namespace Go.Proofs.YtkidcleffllhbaaDoor.Dt
set_option linter.unusedVariables false
set_option linter.unusedSimpArgs false
set_option linter.unusedSectionVars false
section
variable {α : Type} [DecidableEq α]

/-- How long the longest common row is. -/
def com : List α → List α → Nat
  | [], _ => 0
  | _ :: _, [] => 0
  | a :: x, b :: y => if a = b then com x y + 1 else max (com x (b :: y)) (com (a :: x) y)
termination_by x y => x.length + y.length
theorem com_nil (y : List α) : com [] y = 0 := by simp [com]
theorem com_nil' (x : List α) : com x [] = 0 := by cases x <;> simp [com]
theorem com_eq (a : α) (x y : List α) : com (a :: x) (a :: y) = com x y + 1 := by rw [com, if_pos rfl]
theorem com_ne {a b : α} (h : a ≠ b) (x y : List α) : com (a :: x) (b :: y) = max (com x (b :: y)) (com (a :: x) y) := by rw [com, if_neg h]
theorem com_sub : ∀ (x y : List α), ∃ c, List.Sublist c x ∧ List.Sublist c y ∧ c.length = com x y
  | [], y => ⟨[], List.nil_sublist _, List.nil_sublist _, by simp [com_nil]⟩
  | a :: x, [] => ⟨[], List.nil_sublist _, List.nil_sublist _, by simp [com_nil']⟩
  | a :: x, b :: y => by
    by_cases h : a = b
    · subst h
      rw [com_eq]
      obtain ⟨c, h1, h2, h3⟩ := com_sub x y
      exact ⟨a :: c, h1.cons_cons a, h2.cons_cons a, by simp [h3]⟩
    · rw [com_ne h]
      obtain ⟨c, h1, h2, h3⟩ := com_sub x (b :: y)
      obtain ⟨d, g1, g2, g3⟩ := com_sub (a :: x) y
      by_cases hm : com x (b :: y) ≤ com (a :: x) y
      · exact ⟨d, g1, g2.cons b, by rw [Nat.max_eq_right hm]; exact g3⟩
      · exact ⟨c, h1.cons a, h2, by rw [Nat.max_eq_left (by omega)]; exact h3⟩
termination_by x y => x.length + y.length
theorem com_max : ∀ (x y c : List α), List.Sublist c x → List.Sublist c y → c.length ≤ com x y
  | [], y, c, h1, h2 => by have := h1.length_le; simp at this; simp [this]
  | a :: x, [], c, h1, h2 => by have := h2.length_le; simp at this; simp [this]
  | a :: x, b :: y, c, h1, h2 => by
    by_cases h : a = b
    · subst h
      rw [com_eq]
      cases c with
      | nil => simp
      | cons e c =>
        have := com_max x y c h1.tail h2.tail
        simp; omega
    · rw [com_ne h]
      cases h1 with
      | cons _ h1 =>
        have := com_max x (b :: y) c h1 h2
        have := Nat.le_max_left (com x (b :: y)) (com (a :: x) y)
        omega
      | cons_cons _ h1 =>
        cases h2 with
        | cons _ h2 =>
          have := com_max (a :: x) y _ (h1.cons_cons a) h2
          have := Nat.le_max_right (com x (b :: y)) (com (a :: x) y)
          omega
        | cons_cons _ h2 => exact absurd rfl h
termination_by x y => x.length + y.length
theorem com_comm (x y : List α) : com x y = com y x := by
  obtain ⟨c, h1, h2, h3⟩ := com_sub x y
  obtain ⟨d, g1, g2, g3⟩ := com_sub y x
  have := com_max y x c h2 h1
  have := com_max x y d g2 g1
  omega
theorem com_le (x y : List α) : com x y ≤ x.length ∧ com x y ≤ y.length := by
  obtain ⟨c, h1, h2, h3⟩ := com_sub x y
  have := h1.length_le
  have := h2.length_le
  omega
theorem both_sub : ∀ (y c d : List α), List.Sublist c y → List.Sublist d y → ∃ e, List.Sublist e c ∧ List.Sublist e d ∧ c.length + d.length ≤ e.length + y.length
  | [], c, d, h1, h2 => by
    have := h1.length_le
    have := h2.length_le
    exact ⟨[], List.nil_sublist _, List.nil_sublist _, by simp at *; simp [*]⟩
  | a :: y, c, d, h1, h2 => by
    cases h1 with
    | cons _ h1 =>
      cases h2 with
      | cons _ h2 =>
        obtain ⟨e, q1, q2, q3⟩ := both_sub y c d h1 h2
        exact ⟨e, q1, q2, by simp; omega⟩
      | cons_cons _ h2 =>
        obtain ⟨e, q1, q2, q3⟩ := both_sub y c _ h1 h2
        exact ⟨e, q1, q2.cons a, by simp; omega⟩
    | cons_cons _ h1 =>
      cases h2 with
      | cons _ h2 =>
        obtain ⟨e, q1, q2, q3⟩ := both_sub y _ d h1 h2
        exact ⟨e, q1.cons a, q2, by simp; omega⟩
      | cons_cons _ h2 =>
        obtain ⟨e, q1, q2, q3⟩ := both_sub y _ _ h1 h2
        exact ⟨a :: e, q1.cons_cons a, q2.cons_cons a, by simp; omega⟩
theorem com_tri (x y z : List α) : com x y + com y z ≤ com x z + y.length := by
  obtain ⟨c, h1, h2, h3⟩ := com_sub x y
  obtain ⟨d, g1, g2, g3⟩ := com_sub y z
  obtain ⟨e, q1, q2, q3⟩ := both_sub y c d h2 g1
  have := com_max x z e (q1.trans h1) (q2.trans g2)
  omega
theorem com_self (x : List α) : com x x = x.length := by
  have := com_max x x x (List.Sublist.refl _) (List.Sublist.refl _)
  have := com_le x x
  omega
theorem com_full {x y : List α} (h : x.length + y.length ≤ 2 * com x y) : x = y := by
  obtain ⟨c, h1, h2, h3⟩ := com_sub x y
  have := h1.length_le
  have := h2.length_le
  rw [← h1.eq_of_length (by omega), ← h2.eq_of_length (by omega)]

/-- How dear the way from x to y is. -/
def dist (x y : List α) : Nat := x.length + y.length - 2 * com x y
theorem dist_tri (x y z : List α) : dist x z ≤ dist x y + dist y z := by
  have := com_tri x y z
  have := com_le x y
  have := com_le y z
  have := com_le x z
  unfold dist; omega
theorem dist_comm (x y : List α) : dist x y = dist y x := by unfold dist; rw [com_comm]; omega
theorem dist_zero {x y : List α} : dist x y = 0 ↔ x = y := by
  constructor
  · intro h; have := com_le x y; unfold dist at h; exact com_full (by omega)
  · rintro rfl; unfold dist; rw [com_self]; omega
/-- A splice is no shorter a way than the shortest. -/
theorem dist_mid (p d i q : List α) : dist (p ++ d ++ q) (p ++ i ++ q) ≤ d.length + i.length := by
  have := com_max (p ++ d ++ q) (p ++ i ++ q) (p ++ q) (((List.sublist_append_left p d)).append (List.Sublist.refl q)) (((List.sublist_append_left p i)).append (List.Sublist.refl q))
  unfold dist
  simp at *
  omega

/-- A change: where it begins in the first row, how many go, where in the second, how many come. -/
structure Chg where
  at_ : Nat
  del : Nat
  from_ : Nat
  ins : Nat
/-- Behind a step that takes one out, or puts one in. -/
def delL (i j : Nat) (o : Bool) (out : List Chg) : List Chg :=
  if o then out.dropLast ++ (out.getLast?.map fun c => ⟨c.at_, c.del + 1, c.from_, c.ins⟩).toList else out ++ [⟨i, 1, j, 0⟩]
def insL (i j : Nat) (o : Bool) (out : List Chg) : List Chg :=
  if o then out.dropLast ++ (out.getLast?.map fun c => ⟨c.at_, c.del, c.from_, c.ins + 1⟩).toList else out ++ [⟨i, 0, j, 1⟩]
theorem delL_snoc (i j : Nat) (ys : List Chg) (c : Chg) : delL i j true (ys ++ [c]) = ys ++ [⟨c.at_, c.del + 1, c.from_, c.ins⟩] := by simp [delL]
theorem insL_snoc (i j : Nat) (ys : List Chg) (c : Chg) : insL i j true (ys ++ [c]) = ys ++ [⟨c.at_, c.del, c.from_, c.ins + 1⟩] := by simp [insL]
/-- The changes of the way from x to y: behind i and j elements, what was found so far being out. -/
def chF : Nat → List α → List α → Nat → Nat → Bool → List Chg → List Chg
  | 0, _, _, _, _, _, out => out
  | f + 1, [], [], i, j, o, out => out
  | f + 1, a :: x, [], i, j, o, out => chF f x [] (i + 1) j true (delL i j o out)
  | f + 1, [], b :: y, i, j, o, out => chF f [] y i (j + 1) true (insL i j o out)
  | f + 1, a :: x, b :: y, i, j, o, out =>
    if a = b then chF f x y (i + 1) (j + 1) false out
    else if com (a :: x) y ≤ com x (b :: y) then chF f x (b :: y) (i + 1) j true (delL i j o out)
    else chF f (a :: x) y i (j + 1) true (insL i j o out)
def chL (x y : List α) : List Chg := chF (x.length + y.length) x y 0 0 false []
theorem chF_nil (f : Nat) (i j : Nat) (o : Bool) (out : List Chg) : chF f ([] : List α) [] i j o out = out := by cases f <;> rfl

/-- What changes are made of: the way through the two rows. -/
inductive Cut (X Y : List α) : List Chg → Nat → Nat → Bool → Prop where
  | nil : Cut X Y [] 0 0 false
  | keep {out i j o} : Cut X Y out i j o → i < X.length → j < Y.length → X[i]? = Y[j]? → Cut X Y out (i + 1) (j + 1) false
  | del {out i j o} : Cut X Y out i j o → i < X.length → Cut X Y (delL i j o out) (i + 1) j true
  | ins {out i j o} : Cut X Y out i j o → j < Y.length → Cut X Y (insL i j o out) i (j + 1) true
def cost : List Chg → Nat
  | [] => 0
  | c :: r => c.del + c.ins + cost r
theorem cost_app (a b : List Chg) : cost (a ++ b) = cost a + cost b := by
  induction a with
  | nil => simp [cost]
  | cons c r ih => simp only [List.cons_append, cost, ih]; omega
/-- Changes apart from one another, the last one ending at i and j. -/
structure Apart (X Y : List α) (out : List Chg) (i j : Nat) (o : Bool) : Prop where
  le : i ≤ X.length ∧ j ≤ Y.length
  last : ∀ ys c, out = ys ++ [c] → 0 < c.del + c.ins ∧ (if o then c.at_ + c.del = i ∧ c.from_ + c.ins = j else c.at_ + c.del < i ∧ c.from_ + c.ins < j)
  ne : o = true → out ≠ []
  pair : ∀ ys c d zs, out = ys ++ c :: d :: zs → c.at_ + c.del < d.at_ ∧ c.from_ + c.ins < d.from_
  pos : ∀ c ∈ out, 0 < c.del + c.ins ∧ c.at_ + c.del ≤ i ∧ c.from_ + c.ins ≤ j
theorem snoc_cases (l : List Chg) : l = [] ∨ ∃ ys c, l = ys ++ [c] := by
  rcases List.eq_nil_or_concat l with h | ⟨ys, c, h⟩
  · exact .inl h
  · exact .inr ⟨ys, c, by rw [h, List.concat_eq_append]⟩
theorem pair_snoc {P : Chg → Chg → Prop} {l : List Chg} {e : Chg} (h : ∀ ys c d zs, l = ys ++ c :: d :: zs → P c d) (hl : ∀ ys c, l = ys ++ [c] → P c e) : ∀ ys c d zs, l ++ [e] = ys ++ c :: d :: zs → P c d := by
  intro ys c d zs he
  rcases snoc_cases zs with rfl | ⟨us, u, rfl⟩
  · have h1 : l ++ [e] = (ys ++ [c]) ++ [d] := by rw [he]; simp
    have h2 := List.append_inj' h1 rfl
    obtain rfl : e = d := by simpa using h2.2
    exact hl ys c h2.1
  · have h1 : l ++ [e] = (ys ++ c :: d :: us) ++ [u] := by rw [he]; simp
    have h2 := List.append_inj' h1 rfl
    exact h ys c d us h2.1
theorem snoc_inj {a b : List Chg} {c d : Chg} (h : a ++ [c] = b ++ [d]) : a = b ∧ c = d := by
  have := List.append_inj' h rfl
  exact ⟨this.1, by simpa using this.2⟩
theorem Apart.push {X Y : List α} {out : List Chg} {i j : Nat} {o : Bool} (h : Apart X Y out i j o) (e : Chg) {i' j' : Nat} (ho : o = false) (hi : i ≤ i') (hj : j ≤ j') (hl : i' ≤ X.length ∧ j' ≤ Y.length) (he : e.at_ = i ∧ e.from_ = j ∧ 0 < e.del + e.ins ∧ e.at_ + e.del = i' ∧ e.from_ + e.ins = j') : Apart X Y (out ++ [e]) i' j' true := by
  subst ho
  refine ⟨hl, ?_, fun _ => by simp, ?_, ?_⟩
  · intro ys c hq
    obtain ⟨rfl, rfl⟩ := snoc_inj hq
    exact ⟨he.2.2.1, he.2.2.2.1, he.2.2.2.2⟩
  · refine pair_snoc h.pair fun ys c hq => ?_
    have := (h.last ys c hq).2
    simp at this
    omega
  · intro c hc
    rcases List.mem_append.1 hc with hc | hc
    · have := h.pos c hc; exact ⟨this.1, by omega, by omega⟩
    · rw [List.mem_singleton.1 hc]; exact ⟨he.2.2.1, by omega, by omega⟩
theorem Apart.grow {X Y : List α} {ys : List Chg} {c : Chg} {i j : Nat} (h : Apart X Y (ys ++ [c]) i j true) (e : Chg) {i' j' : Nat} (hi : i ≤ i') (hj : j ≤ j') (hl : i' ≤ X.length ∧ j' ≤ Y.length) (he : e.at_ = c.at_ ∧ e.from_ = c.from_ ∧ 0 < e.del + e.ins ∧ e.at_ + e.del = i' ∧ e.from_ + e.ins = j') : Apart X Y (ys ++ [e]) i' j' true := by
  refine ⟨hl, ?_, fun _ => by simp, ?_, ?_⟩
  · intro zs d hq
    obtain ⟨rfl, rfl⟩ := snoc_inj hq
    exact ⟨he.2.2.1, he.2.2.2.1, he.2.2.2.2⟩
  · refine pair_snoc (fun us a b zs hq => h.pair us a b (zs ++ [c]) (by rw [hq]; simp)) fun us a hq => ?_
    have := h.pair us a c [] (by rw [hq]; simp)
    omega
  · intro d hd
    rcases List.mem_append.1 hd with hd | hd
    · have := h.pos d (List.mem_append.2 (.inl hd)); exact ⟨this.1, by omega, by omega⟩
    · rw [List.mem_singleton.1 hd]; exact ⟨he.2.2.1, by omega, by omega⟩
theorem Cut.apart {X Y : List α} {out : List Chg} {i j : Nat} {o : Bool} (h : Cut X Y out i j o) : Apart X Y out i j o := by
  induction h with
  | nil => exact ⟨⟨Nat.zero_le _, Nat.zero_le _⟩, fun ys c h => (by simp at h), fun h => (by cases h), fun ys c d zs h => (by simp at h), fun c h => (by cases h)⟩
  | @keep out i j o _ h1 h2 _ ih =>
    refine ⟨⟨h1, h2⟩, fun ys c hq => ?_, fun h => (by cases h), ih.pair, fun c hc => ?_⟩
    · have := ih.last ys c hq
      refine ⟨this.1, ?_⟩
      have h3 := this.2
      simp
      split at h3 <;> omega
    · have := ih.pos c hc; exact ⟨this.1, by omega, by omega⟩
  | @del out i j o _ h1 ih =>
    cases o with
    | false => exact ih.push ⟨i, 1, j, 0⟩ rfl (by omega) (Nat.le_refl _) ⟨h1, ih.le.2⟩ ⟨rfl, rfl, by simp, rfl, rfl⟩
    | true =>
      rcases snoc_cases out with rfl | ⟨ys, c, rfl⟩
      · exact absurd rfl (ih.ne rfl)
      · rw [delL_snoc]
        have := (ih.last ys c rfl).2
        simp at this
        exact ih.grow _ (by omega) (Nat.le_refl _) ⟨h1, ih.le.2⟩ ⟨rfl, rfl, by simp; omega, by simp; omega, by simp; omega⟩
  | @ins out i j o _ h1 ih =>
    cases o with
    | false => exact ih.push ⟨i, 0, j, 1⟩ rfl (Nat.le_refl _) (by omega) ⟨ih.le.1, h1⟩ ⟨rfl, rfl, by simp, rfl, rfl⟩
    | true =>
      rcases snoc_cases out with rfl | ⟨ys, c, rfl⟩
      · exact absurd rfl (ih.ne rfl)
      · rw [insL_snoc]
        have := (ih.last ys c rfl).2
        simp at this
        exact ih.grow _ (Nat.le_refl _) (by omega) ⟨ih.le.1, h1⟩ ⟨rfl, rfl, by simp; omega, by simp; omega, by simp; omega⟩
theorem cost_del {X Y : List α} {out : List Chg} {i j : Nat} {o : Bool} (h : Cut X Y out i j o) : cost (delL i j o out) = cost out + 1 ∧ cost (insL i j o out) = cost out + 1 := by
  cases o with
  | false => simp [delL, insL, cost_app, cost]
  | true =>
    rcases snoc_cases out with rfl | ⟨ys, c, rfl⟩
    · exact absurd rfl (h.apart.ne rfl)
    · rw [delL_snoc, insL_snoc, cost_app, cost_app, cost_app]
      simp [cost]; omega
theorem chF_cut (X Y : List α) : ∀ (f i j : Nat) (o : Bool) (out : List Chg), Cut X Y out i j o → i ≤ X.length → j ≤ Y.length → (X.length - i) + (Y.length - j) ≤ f →
    (∃ o', Cut X Y (chF f (X.drop i) (Y.drop j) i j o out) X.length Y.length o') ∧ cost (chF f (X.drop i) (Y.drop j) i j o out) = cost out + dist (X.drop i) (Y.drop j) := by
  intro f
  induction f with
  | zero =>
    intro i j o out h hi hj hf
    obtain rfl : i = X.length := by omega
    obtain rfl : j = Y.length := by omega
    refine ⟨⟨o, by simpa [chF] using h⟩, by simp [chF, dist, com_nil]⟩
  | succ f ih =>
    intro i j o out h hi hj hf
    have hx : ∀ k, k < X.length → X.drop k = X[k]?.toList ++ X.drop (k + 1) := fun k hk => by rw [List.drop_eq_getElem_cons hk, List.getElem?_eq_getElem hk]; rfl
    by_cases h1 : i < X.length
    · have ex := List.drop_eq_getElem_cons h1
      by_cases h2 : j < Y.length
      · have ey := List.drop_eq_getElem_cons h2
        generalize ha : X[i] = a at ex
        generalize hb : Y[j] = b at ey
        by_cases hab : a = b
        · subst hab
          have := ih (i + 1) (j + 1) false out (.keep h h1 h2 (by rw [List.getElem?_eq_getElem h1, List.getElem?_eq_getElem h2, ha, hb])) h1 h2 (by omega)
          rw [ex, ey]
          simp only [chF, if_pos]
          refine ⟨this.1, this.2.trans ?_⟩
          have h5 := com_le (X.drop (i + 1)) (Y.drop (j + 1))
          simp only [dist, com_eq, List.length_cons]; omega
        · by_cases hc : com (a :: X.drop (i + 1)) (Y.drop (j + 1)) ≤ com (X.drop (i + 1)) (b :: Y.drop (j + 1))
          · have := ih (i + 1) j true _ (.del h h1) h1 hj (by omega)
            rw [(cost_del h).1, ey] at this
            rw [ex, ey]
            simp only [chF, if_neg hab, if_pos hc]
            refine ⟨this.1, this.2.trans ?_⟩
            have h5 := com_le (X.drop (i + 1)) (b :: Y.drop (j + 1))
            simp only [dist, com_ne hab, Nat.max_eq_left hc, List.length_cons] at h5 ⊢; omega
          · have := ih i (j + 1) true _ (.ins h h2) hi h2 (by omega)
            rw [(cost_del h).2, ex] at this
            rw [ex, ey]
            simp only [chF, if_neg hab, if_neg hc]
            refine ⟨this.1, this.2.trans ?_⟩
            have h5 := com_le (a :: X.drop (i + 1)) (Y.drop (j + 1))
            simp only [dist, com_ne hab, Nat.max_eq_right (by omega : com (X.drop (i + 1)) (b :: Y.drop (j + 1)) ≤ com (a :: X.drop (i + 1)) (Y.drop (j + 1))), List.length_cons] at h5 ⊢; omega
      · obtain rfl : j = Y.length := by omega
        have := ih (i + 1) Y.length true _ (.del h h1) h1 hj (by omega)
        rw [(cost_del h).1] at this
        rw [List.drop_length] at this ⊢
        rw [ex]
        simp only [chF]
        refine ⟨this.1, this.2.trans ?_⟩
        simp only [dist, com_nil', List.length_cons]; simp; omega
    · obtain rfl : i = X.length := by omega
      by_cases h2 : j < Y.length
      · have ey := List.drop_eq_getElem_cons h2
        have := ih X.length (j + 1) true _ (.ins h h2) hi h2 (by omega)
        rw [(cost_del h).2] at this
        rw [List.drop_length] at this ⊢
        rw [ey]
        simp only [chF]
        refine ⟨this.1, this.2.trans ?_⟩
        simp only [dist, com_nil, List.length_cons]; simp; omega
      · obtain rfl : j = Y.length := by omega
        refine ⟨⟨o, by simpa [chF] using h⟩, by simp [chF, dist, com_nil]⟩
theorem chL_cut (X Y : List α) : (∃ o', Cut X Y (chL X Y) X.length Y.length o') ∧ cost (chL X Y) = dist X Y := by
  have := chF_cut X Y (X.length + Y.length) 0 0 false [] .nil (Nat.zero_le _) (Nat.zero_le _) (by omega)
  simpa [chL, cost] using this
end
end Go.Proofs.YtkidcleffllhbaaDoor.Dt
