/- Changes in memory. -/
import Derived.Test.YtkidcleffllhbaaDoorDtCom
import Derived.Test.YtkidcleffllhbaaDoorULines0
namespace Go.Proofs.YtkidcleffllhbaaDoor.Dt
open Go.RowKit Go.Proofs Go.Proofs.YtkidcleffllhbaaDoor.U Go.Proofs.YtkidcleffllhbaaDoor.Txt
set_option linter.unusedVariables false
set_option linter.unusedSimpArgs false
set_option linter.unusedSectionVars false

theorem infoChg : (Tryd.prog.info? 82).map (fun i => (i.zero, i.size, i.bytes)) = some (some (.agg #[.int .i64 0, .int .i64 0, .int .i64 0, .int .i64 0]), 4, 32) := by kernel_rfl
def chgCell (c : Chg) : List Value := [.int .i64 c.at_, .int .i64 c.del, .int .i64 c.from_, .int .i64 c.ins]
def chgCells (out : List Chg) : List Value := out.flatMap chgCell
theorem chgCells_snoc (ys : List Chg) (c : Chg) : chgCells (ys ++ [c]) = chgCells ys ++ chgCell c := by simp [chgCells]
theorem chgCells_len (l : List Chg) : (chgCells l).length = l.length * 4 := by
  induction l with
  | nil => rfl
  | cons c l ih =>
    rw [show chgCells (c :: l) = chgCell c ++ chgCells l from rfl, List.length_append, ih]
    simp [chgCell]; omega
section
variable {w w1 w9 : World} {B g cap e size n q : Nat} {v : Value} {xs : List Value}
theorem own_weak {B' : Nat} (h : w.ownsRow B e size v n xs) (hb : B' ≤ B) : w.ownsRow B' e size v n xs := by
  refine ⟨h.1, ?_⟩
  rcases h.2 with hn | ⟨b, cap, cur, hv, hbg, rest⟩
  · exact .inl hn
  · exact .inr ⟨b, cap, cur, hv, by omega, rest⟩
theorem own_below (h : w.ownsRow B e size v n xs) (hb : Below w.heap.size w w9) : w9.ownsRow B e size v n xs := by
  refine ⟨h.1, ?_⟩
  rcases h.2 with hn | ⟨b, cap, cur, hv, hbg, hg, rest⟩
  · exact .inl hn
  · exact .inr ⟨b, cap, cur, hv, hbg, (hb.block _ (Array.getElem?_eq_some_iff.1 hg).1).trans hg, rest⟩
theorem own_drew (h : w.ownsRow B e size v n xs) (k : Nat) : (w.drewN k).ownsRow B e size v n xs := h
theorem own_some (h : w.ownsRow B e size v n xs) (hn : 0 < n) : ∃ g cap, v = .slice (some ⟨g, 0, none⟩) n cap := by
  rcases h.2 with ⟨_, h0⟩ | ⟨b, cap, cur, hv, _⟩
  · omega
  · exact ⟨b, cap, hv⟩
theorem own_shape (h : w.ownsRow B e size v n xs) : ∃ A cap, v = .slice A n cap := by
  rcases h.2 with ⟨hv, h0⟩ | ⟨b, cap, cur, hv, _⟩
  · exact ⟨none, 0, by rw [hv, h0]⟩
  · exact ⟨_, cap, hv⟩
theorem own_at (h : w.ownsRow B e size (.slice (some ⟨g, 0, none⟩) n cap) n xs) : B ≤ g := by
  rcases h.2 with ⟨hv, _⟩ | ⟨b, cap, cur, hv, hb, _⟩
  · cases hv
  · cases hv; exact hb
theorem own_lt (h : w.ownsRow B e size v n xs) : ∀ k, v.ownBlock = some k → B ≤ k ∧ k < w.heap.size := fun k hk => by
  rcases h.2 with ⟨hn, _⟩ | ⟨g, cap, cur, hv, hbg, hg, _⟩
  · rw [hn] at hk; cases hk
  · rw [hv] at hk
    obtain rfl := Option.some.inj hk
    exact ⟨hbg, (Array.getElem?_eq_some_iff.1 hg).1⟩
theorem news_alloc (w : World) (cs : Array Value) (T : TypeId) (j : Nat) (u : Value) (h : cs.toList[j]? = some u) : (w.alloc (.cells cs T)).cell? ((⟨w.heap.size, 0, none⟩ : Addr).add j) = some u := by
  rw [Addr.add_lit, Nat.zero_add, Lib.cell_of_heap (heap_alloc_new w _)]
  simpa using h
theorem grown_own {o : Obj} (hb : Below w1.heap.size w1 w) (ho : w.ownsRow w1.heap.size e size v n xs) (hg : (w.alloc o).grownBy w9 v.ownBlock) : Below w1.heap.size w1 w9 :=
  (hb.alloc hb.size o).grown hg (by have := hb.size; simp; omega) (fun k hk => (own_lt ho k hk).1)
theorem below_put {B : Nat} (h : Below B w1 w) (hg : B ≤ g) (i : Nat) (x : Value) : Below B w1 (w.setCell ⟨g, i, none⟩ x) := h.setCell (p := ⟨g, i, none⟩) hg x
/-- The last change's numbers. -/
theorem chg_cell {ys : List Chg} {c : Chg} (h : w.ownsRow B e 4 (.slice (some ⟨g, 0, none⟩) (q + 1) cap) (q + 1) (chgCells (ys ++ [c]))) (hq : ys.length = q) :
    w.cell? ⟨g, q * 4 + 1, none⟩ = some (.int .i64 c.del) ∧ w.cell? ⟨g, q * 4 + 3, none⟩ = some (.int .i64 c.ins) := by
  have hl := chgCells_len ys
  rw [h.cellAt _ (by omega), h.cellAt _ (by omega), chgCells_snoc, List.getElem?_append_right (by omega), List.getElem?_append_right (by omega), show q * 4 + 1 - (chgCells ys).length = 1 by omega, show q * 4 + 3 - (chgCells ys).length = 3 by omega]
  exact ⟨rfl, rfl⟩
theorem own_del {ys : List Chg} {c : Chg} {cd : Nat} (h : w.ownsRow B e 4 (.slice (some ⟨g, 0, none⟩) (q + 1) cap) (q + 1) (chgCells (ys ++ [c]))) (hq : ys.length = q) (hc : c.del = cd) :
    (w.setCell ⟨g, q * 4 + 1, none⟩ (.int .i64 ((cd : Int) + 1))).ownsRow B e 4 (.slice (some ⟨g, 0, none⟩) (q + 1) cap) (ys ++ [(⟨c.at_, c.del + 1, c.from_, c.ins⟩ : Chg)]).length (chgCells (ys ++ [⟨c.at_, c.del + 1, c.from_, c.ins⟩])) := by
  have hl := chgCells_len ys
  have h7 := (h.stored (q * 4 + 1) (.int .i64 ((cd : Int) + 1))).1
  have e3 : (chgCells (ys ++ [c])).set (q * 4 + 1) (.int .i64 ((cd : Int) + 1)) = chgCells (ys ++ [⟨c.at_, c.del + 1, c.from_, c.ins⟩]) := by
    rw [chgCells_snoc, chgCells_snoc, List.set_append_right _ _ (by omega), show q * 4 + 1 - (chgCells ys).length = 1 by omega, ← hc]
    rfl
  rw [List.length_append, hq, ← e3]
  exact h7
theorem own_ins {ys : List Chg} {c : Chg} {ci : Nat} (h : w.ownsRow B e 4 (.slice (some ⟨g, 0, none⟩) (q + 1) cap) (q + 1) (chgCells (ys ++ [c]))) (hq : ys.length = q) (hc : c.ins = ci) :
    (w.setCell ⟨g, q * 4 + 3, none⟩ (.int .i64 ((ci : Int) + 1))).ownsRow B e 4 (.slice (some ⟨g, 0, none⟩) (q + 1) cap) (ys ++ [(⟨c.at_, c.del, c.from_, c.ins + 1⟩ : Chg)]).length (chgCells (ys ++ [⟨c.at_, c.del, c.from_, c.ins + 1⟩])) := by
  have hl := chgCells_len ys
  have h7 := (h.stored (q * 4 + 3) (.int .i64 ((ci : Int) + 1))).1
  have e3 : (chgCells (ys ++ [c])).set (q * 4 + 3) (.int .i64 ((ci : Int) + 1)) = chgCells (ys ++ [⟨c.at_, c.del, c.from_, c.ins + 1⟩]) := by
    rw [chgCells_snoc, chgCells_snoc, List.set_append_right _ _ (by omega), show q * 4 + 3 - (chgCells ys).length = 3 by omega, ← hc]
    rfl
  rw [List.length_append, hq, ← e3]
  exact h7
end
theorem TabIn.later {α : Type} [DecidableEq α] {w w1 wr : World} {x y : List α} {I J : Nat} {cs : List Nat} (h : TabIn w w1 x y I J cs) (hb : Below w1.heap.size w1 wr) : TabIn w wr x y I J cs :=
  ⟨(hb.block _ (Array.getElem?_eq_some_iff.1 h.box).1).trans h.box, h.tab, h.below.trans (hb.mono h.below.size)⟩
section
variable {α : Type} [DecidableEq α] {x y : List α}
/-- The list behind 'if !open'. -/
def Opened (I J : Nat) (opn : Bool) (out ys : List Chg) (c : Chg) : Prop := delL I J opn out = ys ++ [⟨c.at_, c.del + 1, c.from_, c.ins⟩] ∧ insL I J opn out = ys ++ [⟨c.at_, c.del, c.from_, c.ins + 1⟩]
theorem Opened.new (I J : Nat) (out : List Chg) : Opened I J false out out ⟨I, 0, J, 0⟩ := ⟨rfl, rfl⟩
theorem Cut.opened {I J : Nat} {out : List Chg} (h : Cut x y out I J true) : ∃ ys c, out = ys ++ [c] ∧ Opened I J true out ys c := by
  rcases snoc_cases out with rfl | ⟨ys, c, rfl⟩
  · exact absurd rfl (h.apart.ne rfl)
  · exact ⟨ys, c, rfl, delL_snoc I J ys c, insL_snoc I J ys c⟩
theorem Cut.small {I J : Nat} {opn : Bool} {out ys : List Chg} {c : Chg} (h : Cut x y out I J opn) (ho : Opened I J opn out ys c) : c.del ≤ x.length ∧ c.ins ≤ y.length := by
  have hle := h.apart.le
  cases opn with
  | false =>
    have h1 : out ++ [⟨I, 1, J, 0⟩] = ys ++ [⟨c.at_, c.del + 1, c.from_, c.ins⟩] := ho.1
    obtain ⟨_, h2⟩ := snoc_inj h1
    injection h2 with _ h3 _ h4
    omega
  | true =>
    obtain ⟨zs, d, rfl, h1⟩ := h.opened
    have h2 := snoc_inj (h1.1.symm.trans ho.1)
    injection h2.2 with _ h3 _ h4
    have := h.apart.pos d (by simp)
    omega
theorem delL_len (I J : Nat) (o : Bool) (out : List Chg) : (delL I J o out).length ≤ out.length + 1 ∧ (insL I J o out).length ≤ out.length + 1 := by
  cases o with
  | false => simp [delL, insL]
  | true =>
    rcases snoc_cases out with rfl | ⟨ys, c, rfl⟩
    · simp [delL, insL]
    · rw [delL_snoc, insL_snoc]; simp
theorem Cut.length_sum {I J : Nat} {opn : Bool} {out : List Chg} (h : Cut x y out I J opn) : out.length ≤ I + J := by
  induction h with
  | nil => simp
  | keep _ _ _ _ ih => omega
  | @del out i j o _ _ ih => have := (delL_len i j o out).1; omega
  | @ins out i j o _ _ ih => have := (delL_len i j o out).2; omega
theorem Cut.length_le {I J : Nat} {opn : Bool} {out : List Chg} (h : Cut x y out I J opn) : out.length ≤ x.length + y.length := by
  have := h.length_sum
  have := h.apart.le
  omega
theorem chF_eq {f I J : Nat} {o : Bool} {out : List Chg} (h1 : I < x.length) (h2 : J < y.length) (h : x[I]'h1 = y[J]'h2) : chF (f + 1) (x.drop I) (y.drop J) I J o out = chF f (x.drop (I + 1)) (y.drop (J + 1)) (I + 1) (J + 1) false out := by
  rw [List.drop_eq_getElem_cons h1, List.drop_eq_getElem_cons h2, h]
  simp only [chF, if_pos]
theorem chF_del {f I J : Nat} {o : Bool} {out : List Chg} (h1 : I < x.length) (h : y.length ≤ J ∨ ∃ h2 : J < y.length, x[I]'h1 ≠ y[J]'h2 ∧ com (x.drop I) (y.drop (J + 1)) ≤ com (x.drop (I + 1)) (y.drop J)) : chF (f + 1) (x.drop I) (y.drop J) I J o out = chF f (x.drop (I + 1)) (y.drop J) (I + 1) J true (delL I J o out) := by
  rcases h with h | ⟨h2, h3, h4⟩
  · rw [List.drop_eq_getElem_cons h1, List.drop_eq_nil_iff.2 h]
    simp only [chF]
  · have e1 := List.drop_eq_getElem_cons h1
    have e2 := List.drop_eq_getElem_cons h2
    generalize x[I]'h1 = a at e1 h3
    generalize y[J]'h2 = b at e2 h3
    rw [e1, e2] at h4 ⊢
    simp only [chF, if_neg h3, if_pos h4]
theorem chF_ins {f I J : Nat} {o : Bool} {out : List Chg} (h2 : J < y.length) (h : x.length ≤ I ∨ ∃ h1 : I < x.length, x[I]'h1 ≠ y[J]'h2 ∧ ¬ com (x.drop I) (y.drop (J + 1)) ≤ com (x.drop (I + 1)) (y.drop J)) : chF (f + 1) (x.drop I) (y.drop J) I J o out = chF f (x.drop I) (y.drop (J + 1)) I (J + 1) true (insL I J o out) := by
  rcases h with h | ⟨h1, h3, h4⟩
  · rw [List.drop_eq_getElem_cons h2, List.drop_eq_nil_iff.2 h]
    simp only [chF]
  · have e1 := List.drop_eq_getElem_cons h1
    have e2 := List.drop_eq_getElem_cons h2
    generalize x[I]'h1 = a at e1 h3
    generalize y[J]'h2 = b at e2 h3
    rw [e1, e2] at h4 ⊢
    simp only [chF, if_neg h3, if_neg h4]
end
end Go.Proofs.YtkidcleffllhbaaDoor.Dt
