/- Rows of runes: slices of them, appends of one to another. -/
import Derived.Test.YtkidcleffllhbaaDoorDtSpl
import Derived.Test.YtkidcleffllhbaaDoorDtLet
import Derived.Laws.AppendOwnNone
namespace Go.Proofs.YtkidcleffllhbaaDoor.Dt
open Go.RowKit Go.Proofs Go.Proofs.YtkidcleffllhbaaDoor.U Go.Proofs.YtkidcleffllhbaaDoor.Txt
set_option linter.unusedVariables false
set_option linter.unusedSimpArgs false

/-- A list of runes: what its slice holds. -/
def TIn (w : World) (v : Value) (rs : List Int) : Prop := ∃ A c, v = .slice A rs.length c ∧ rs.length ≤ c ∧ (A = none → rs.length = 0 ∧ c = 0) ∧ Cells32 w A rs
theorem own_tin {w : World} {B e : Nat} {v : Value} {rs : List Int} (h : w.ownsRow B e 1 v rs.length (i32s rs)) : TIn w v rs := by
  obtain ⟨A, c, rfl, h1, h2⟩ := own_runes h
  refine ⟨A, c, rfl, h1, fun hA => ?_, h2⟩
  rcases h.2 with ⟨hv, h0⟩ | ⟨g, cap, cur, hv, _⟩
  · have := Value.slice.inj hv; exact ⟨h0, this.2.2⟩
  · have := Value.slice.inj hv; rw [this.1] at hA; cases hA
theorem TIn.below {w w' : World} {v : Value} {rs : List Int} (h : TIn w v rs) (hb : Below w.heap.size w w') : TIn w' v rs := by
  obtain ⟨A, c, h1, h2, h3, h4⟩ := h
  exact ⟨A, c, h1, h2, h3, h4.below hb⟩
theorem slice_head (A : Option Addr) (n c m : Nat) (h1 : m ≤ n) (h2 : n ≤ c) (hA : A = none → n = 0 ∧ c = 0) : ∃ A', (∀ W : World, (Instr.slice 22 (.slice A n c) none (some (.int .i64 m)) none).run Tryd.prog W = .ok (.slice A' m c) W) ∧ (A' = none → m = 0 ∧ c = 0) ∧ ∀ (W : World) (rs : List Int), rs.length = n → Cells32 W A rs → Cells32 W A' (rs.take m) := by
  refine ⟨if c = 0 then A else A.map (·.add 0), fun W => ?_, fun h => ?_, fun W rs hn hc => ?_⟩
  · rw [run_slice_h W 22 A n c (by kernel_rfl) .i64 m (by omega) (by omega)]
    kernel_rfl
  · split at h
    · have := hA h; omega
    · cases A with
      | none => have := hA rfl; omega
      | some ad => simp at h
  · have hc' := hc.take m
    split
    · exact hc'
    · cases A with
      | none => intro h0; obtain ⟨ad, e, _⟩ := hc' h0; cases e
      | some ad =>
        intro h0
        obtain ⟨ad', e, h⟩ := hc' h0
        cases e
        refine ⟨_, rfl, fun j hj => ?_⟩
        show W.cell? ((ad.add 0).add j) = _
        rw [Addr.add_add, Nat.zero_add]
        exact h j hj
theorem slice_tail (A : Option Addr) (n c m : Nat) (h1 : m ≤ n) (h2 : n ≤ c) (hA : A = none → n = 0 ∧ c = 0) : ∃ A', (∀ W : World, (Instr.slice 22 (.slice A n c) (some (.int .i64 m)) none none).run Tryd.prog W = .ok (.slice A' (n - m) (c - m)) W) ∧ (A' = none → n - m = 0 ∧ c - m = 0) ∧ ∀ (W : World) (rs : List Int), rs.length = n → Cells32 W A rs → Cells32 W A' (rs.drop m) := by
  refine ⟨if c = m then A else A.map (·.add (m * 1)), fun W => ?_, fun h => ?_, fun W rs hn hc => ?_⟩
  · rw [run_slice_l W 22 A n c (by kernel_rfl) .i64 m (by omega) (by omega)]
    kernel_rfl
  · split at h
    · have := hA h; omega
    · cases A with
      | none => have := hA rfl; omega
      | some ad => simp at h
  · intro h0
    rw [List.length_drop] at h0
    obtain ⟨ad, e, h⟩ := hc (by omega)
    subst e
    rw [if_neg (by omega)]
    refine ⟨_, rfl, fun j hj => ?_⟩
    rw [List.length_drop] at hj
    show W.cell? ((ad.add (m * 1)).add j) = _
    rw [Addr.add_add, Nat.mul_one, h (m + j) (by omega)]
    simp [List.getD, List.getElem?_drop]
/-- An append of one list of runes to another in own memory. -/
theorem wpList_app32 {w : World} {ops : Array Oper} {rest : List Oper} {o : Oper} {a : Act} {Q : Exit → Act → World → Prop} (hgd : o.guard = none) (s x : Operand)
    (ho : o.op = .call { callee := .builtin .append, args := #[s, x], argTypes := #[22, 22] }) (base : Nat) (v : Value) (xs ys : List Int) (hs : a.eval s = v) (hown : w.ownsRow base 21 1 v xs.length (i32s xs))
    (A : Option Addr) (m c : Nat) (hx : a.eval x = .slice A m c) (hm : ys.length = m) (hA : A = none → m = 0 ∧ c = 0) (hc : Cells32 w A ys) (hl : xs.length + m ≤ 1000000) (hbase : base ≤ w.heap.size)
    (h : ∀ v' w', w'.ownsRow base 21 1 v' (xs ++ ys).length (i32s (xs ++ ys)) → w.grownBy w' v.ownBlock → wpList Tryd.prog ops Q rest (a.put o.dst v') w') : wpList Tryd.prog ops Q (o :: rest) a w := by
  obtain ⟨i0, hi, hz0, hz1, hz2⟩ := info_parts info32
  cases A with
  | none =>
    obtain ⟨rfl, rfl⟩ := hA rfl
    obtain rfl : ys = [] := List.length_eq_zero_iff.1 hm
    refine wpList_append_own_none hgd s x 22 ho base 21 i0 1 Tryd.underlying22 hi v xs.length (i32s xs) hs hown hx (h v w (by rw [List.append_nil]; exact hown) ⟨rfl, rfl, rfl, Nat.le_refl _, fun k hk _ => rfl⟩)
  | some ad =>
    refine wpList_append_own _ hgd s x 22 ho base 21 i0 (.int .i32 0) 1 4 Tryd.underlying22 hi hz0 hz1 hz2 rfl (by decide) v xs.length (i32s xs) hs hown ad m c (i32s ys) hx (by rw [i32s_len, hm, Nat.mul_one]) ?_ ?_ (by unfold maxLen; omega) (by omega) hbase (fun v' w' h1 h2 _ => h v' w' (by rw [List.length_append, hm]; simpa [i32s] using h1) h2)
    · intro j u hu
      have hj := (List.getElem?_eq_some_iff.1 hu).1
      rw [i32s_len] at hj
      obtain ⟨ad', e, hcs⟩ := hc (by omega)
      cases e
      rw [hcs j hj]
      rw [← hu]
      simp [i32s, List.getD, List.getElem?_eq_getElem hj]
    · intro u hu
      simp only [i32s, List.mem_map] at hu
      obtain ⟨y, _, rfl⟩ := hu
      rfl
end Go.Proofs.YtkidcleffllhbaaDoor.Dt
