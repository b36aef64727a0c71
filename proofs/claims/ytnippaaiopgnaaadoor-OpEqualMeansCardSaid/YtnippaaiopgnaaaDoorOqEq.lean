/- How heads, ids and ranges are compared. -/
import Derived.Test.YtnippaaiopgnaaaDoorOqParse
import Derived.Laws.StructEq
namespace Go.Proofs.YtnippaaiopgnaaaDoor.O
open Go.RowKit Go.Proofs Go.Joins Go.Proofs.YtnippaaiopgnaaaDoor.U Go.Proofs.YtnippaaiopgnaaaDoor.Txt
set_option linter.unusedVariables false
set_option linter.unusedSimpArgs false

theorem id_eqd (d : Nat) (x y a b : Int) (w : World) : (Op.equalIn (d + 2) 25 (.agg #[.int .i64 x, .int .i64 y]) (.agg #[.int .i64 a, .int .i64 b])).run Tryd.prog w = .ok (decide (x = a) && decide (y = b)) w := by
  obtain ⟨i, hi, _, _, _⟩ := info_parts infoInt
  have hp : Tryd.prog.plainKey 3 = true := by kernel_rfl
  have hc : Tryd.prog.cellsOf 3 = 1 := by kernel_rfl
  rw [show d + 2 = (d + 1) + 1 from rfl, run_equalIn_array w (d + 1) _ _ Tryd.underlying25 hi, hc, show List.range 2 = [0, 1] from rfl]
  have p0 : ∀ u v : Value, (part 3 #[u, v] 0).run Tryd.prog w = .ok u w := fun u v => run_part_plain w hp rfl
  have p1 : ∀ u v : Value, (part 3 #[u, v] 1).run Tryd.prog w = .ok v w := fun u v => run_part_plain w hp rfl
  have q : ∀ u v : Int, (Op.equalIn (d + 1) 3 (.int .i64 u) (.int .i64 v)).run Tryd.prog w = .ok (u == v) w := fun u v => run_equalIn_int w d _ .i64 .i64 u v Tryd.underlying3
  by_cases h1 : x = a <;> by_cases h2 : y = b <;> simp [Op.eqItems, p0, p1, q, h1, h2]
theorem head_eq (x y k a b j : Int) (w : World) : (Op.equalIn 10000 28 (.agg #[.int .i64 x, .int .i64 y, .int .i64 k]) (.agg #[.int .i64 a, .int .i64 b, .int .i64 j])).run Tryd.prog w = .ok ((decide (x = a) && decide (y = b)) && decide (k = j)) w := by
  have e : (Tryd.prog.fieldsOf 28).toList.map (fun f => (f.name, f.type, f.offset)) = [("ID", 25, 0), ("Kind", 26, 2)] := by kernel_rfl
  obtain ⟨f, g, hfg, hf, hg⟩ : ∃ f g : Field, (Tryd.prog.fieldsOf 28).toList = [f, g] ∧ (f.name, f.type, f.offset) = ("ID", 25, 0) ∧ (g.name, g.type, g.offset) = ("Kind", 26, 2) := by
    cases hl : (Tryd.prog.fieldsOf 28).toList with
    | nil => rw [hl] at e; cases e
    | cons f r =>
      cases r with
      | nil => rw [hl] at e; simp at e
      | cons g r =>
        cases r with
        | nil => rw [hl] at e; exact ⟨f, g, rfl, by simpa using e⟩
        | cons h r => rw [hl] at e; simp at e
  have f1 := congrArg Prod.fst hf
  have f2 := congrArg (fun p => p.2.1) hf
  have f3 := congrArg (fun p => p.2.2) hf
  have g1 := congrArg Prod.fst hg
  have g2 := congrArg (fun p => p.2.1) hg
  have g3 := congrArg (fun p => p.2.2) hg
  simp only at f1 f2 f3 g1 g2 g3
  rw [show (10000 : Nat) = 9999 + 1 from rfl, run_equalIn_struct w 9999 28 _ _ (by kernel_rfl) (by kernel_rfl), hfg]
  have p0 : ∀ u v z : Int, (part 25 #[.int .i64 u, .int .i64 v, .int .i64 z] 0).run Tryd.prog w = .ok (.agg #[.int .i64 u, .int .i64 v]) w := fun u v z => by kernel_rfl
  have p1 : ∀ u v z : Int, (part 26 #[.int .i64 u, .int .i64 v, .int .i64 z] 2).run Tryd.prog w = .ok (.int .i64 z) w := fun u v z => by kernel_rfl
  have q : ∀ u v : Int, (Op.equalIn 9999 26 (.int .i64 u) (.int .i64 v)).run Tryd.prog w = .ok (u == v) w := fun u v => run_equalIn_int w 9998 _ .i64 .i64 u v Tryd.underlying26
  have q0 : ∀ u v z y : Int, (Op.equalIn 9999 25 (.agg #[.int .i64 u, .int .i64 v]) (.agg #[.int .i64 z, .int .i64 y])).run Tryd.prog w = .ok (decide (u = z) && decide (v = y)) w := fun u v z y => id_eqd 9997 u v z y w
  by_cases h1 : x = a <;> by_cases h2 : y = b <;> by_cases h3 : k = j <;> simp [Op.eqFields, f1, f2, f3, g1, g2, g3, p0, p1, q, q0, h1, h2, h3]
theorem range_eq (x y a b : Int) (w : World) : (Op.equalIn 10000 47 (.agg #[.int .i64 x, .int .i64 y]) (.agg #[.int .i64 a, .int .i64 b])).run Tryd.prog w = .ok (decide (x = a) && decide (y = b)) w := by
  have e : (Tryd.prog.fieldsOf 47).toList.map (fun f => (f.name, f.type, f.offset)) = [("Lo", 3, 0), ("Hi", 3, 1)] := by kernel_rfl
  obtain ⟨f, g, hfg, hf, hg⟩ : ∃ f g : Field, (Tryd.prog.fieldsOf 47).toList = [f, g] ∧ (f.name, f.type, f.offset) = ("Lo", 3, 0) ∧ (g.name, g.type, g.offset) = ("Hi", 3, 1) := by
    cases hl : (Tryd.prog.fieldsOf 47).toList with
    | nil => rw [hl] at e; cases e
    | cons f r =>
      cases r with
      | nil => rw [hl] at e; simp at e
      | cons g r =>
        cases r with
        | nil => rw [hl] at e; exact ⟨f, g, rfl, by simpa using e⟩
        | cons h r => rw [hl] at e; simp at e
  have f1 := congrArg Prod.fst hf
  have f2 := congrArg (fun p => p.2.1) hf
  have f3 := congrArg (fun p => p.2.2) hf
  have g1 := congrArg Prod.fst hg
  have g2 := congrArg (fun p => p.2.1) hg
  have g3 := congrArg (fun p => p.2.2) hg
  simp only at f1 f2 f3 g1 g2 g3
  rw [show (10000 : Nat) = 9999 + 1 from rfl, run_equalIn_struct w 9999 47 _ _ (by kernel_rfl) (by kernel_rfl), hfg]
  have hp : Tryd.prog.plainKey 3 = true := by kernel_rfl
  have p0 : ∀ u v : Value, (part 3 #[u, v] 0).run Tryd.prog w = .ok u w := fun u v => run_part_plain w hp rfl
  have p1 : ∀ u v : Value, (part 3 #[u, v] 1).run Tryd.prog w = .ok v w := fun u v => run_part_plain w hp rfl
  have q : ∀ u v : Int, (Op.equalIn 9999 3 (.int .i64 u) (.int .i64 v)).run Tryd.prog w = .ok (u == v) w := fun u v => run_equalIn_int w 9998 _ .i64 .i64 u v Tryd.underlying3
  by_cases h1 : x = a <;> by_cases h2 : y = b <;> simp [Op.eqFields, f1, f2, f3, g1, g2, g3, p0, p1, q, h1, h2]
end Go.Proofs.YtnippaaiopgnaaaDoor.O
