/- How an argument of type []Op (calls: a number, two strings, two numbers) is opened: what its cells hold, and how small it is. -/
import Derived.Test.YtfgekdefnbohbaaDoorUAll13
import Derived.Test.YtfgekdefnbohbaaDoorULaid
import Derived.Deep.Slices
import Derived.Deep.Fields
import Derived.ChangeSame
import Derived.SizedLaws
import Derived.ChangeSlices
namespace Go.Proofs.YtfgekdefnbohbaaDoor.U
open Go.ChangeShapes Go.WideShapes Go.ChangeAt Go.RowKit Go.Deep
set_option linter.unusedVariables false
set_option linter.unusedSimpArgs false

theorem list_of {α : Type} {P : Nat → α → Prop} : ∀ n, (∀ i, i < n → ∃ o, P i o) → ∃ os : List α, os.length = n ∧ ∀ i (h : i < os.length), P i os[i]
  | 0, _ => ⟨[], rfl, fun i h => by simp at h⟩
  | n + 1, h => by
    obtain ⟨os, hl, ho⟩ := list_of n fun i hi => h i (by omega)
    obtain ⟨o, hp⟩ := h n (by omega)
    refine ⟨os ++ [o], by simp [hl], fun i hi => ?_⟩
    rcases Nat.lt_or_ge i n with h1 | h1
    · rw [List.getElem_append_left (by omega)]; exact ho i (by omega)
    · obtain rfl : i = n := by simp [hl] at hi; omega
      rw [List.getElem_append_right (by omega)]
      simpa [hl] using hp
section
variable {H : Type}
theorem one_le_bulk (d : DataW H) : 1 ≤ Rows.uptoBulk d := by
  cases d with
  | lit l => cases l <;> simp [Rows.uptoBulk]
  | _ => simp [Rows.uptoBulk]
theorem len_le_bulk (l : List (DataW H)) : l.length ≤ Rows.uptoBulkAll l := by
  induction l with
  | nil => simp [Rows.uptoBulkAll]
  | cons x r ih => have := one_le_bulk x; simp only [Rows.uptoBulkAll, List.length_cons]; omega
theorem mem_le_bulk {l : List (DataW H)} {d : DataW H} (h : d ∈ l) : Rows.uptoBulk d ≤ Rows.uptoBulkAll l := by
  induction l with
  | nil => cases h
  | cons x r ih =>
    simp only [Rows.uptoBulkAll]
    rcases List.mem_cons.1 h with rfl | h
    · omega
    · have := ih h; omega
end
/-- What stands at a place of the script. -/
def OpAt (w : World) (a : Addr) (o : OpV) : Prop := w.cell? a = some (.int .i64 o.kind) ∧ w.cell? (a.add 1) = some (.string o.s) ∧ w.cell? (a.add 2) = some (.string o.t) ∧ w.cell? (a.add 3) = some (.int .i64 o.a) ∧ w.cell? (a.add 4) = some (.int .i64 o.b)
theorem cInt1 : Tryd.prog.cellsOf 3 = 1 := by kernel_rfl
theorem cStr1 : Tryd.prog.cellsOf 9 = 1 := by kernel_rfl
theorem cOp5 : Tryd.prog.cellsOf 67 = 5 := by kernel_rfl
set_option maxRecDepth 100000 in
theorem op_read {H : Type} {enc : TypeId × Value → H} {w : World} {base : Nat} {spare : Nat → Bool} {held : Bool} {a : Addr} {n : Nat} {cs : List Value} {d : DataW H} {p : List MemPlace}
    (hc : w.cells? base a 5 = some cs) (ht : DataW.trod enc Tryd.prog w base spare held n 67 cs = some (d, p)) (hsm : Rows.uptoBulk d ≤ 1048576) : ∃ o : OpV, OpAt w a o ∧ o.Small := by
  obtain ⟨ys, n', hn', hy, hlen, hyl, hf⟩ := DataW.trod_struct Tryd.underlying67 ht
  obtain ⟨_, hcl, hat⟩ := World.cells?_some hc
  match ys, hyl with
  | [y0, y1, y2, y3, y4], _ =>
  match cs, hcl with
  | [x0, x1, x2, x3, x4], _ =>
    have g0 := hf 0 _ rfl
    have g1 := hf 1 _ rfl
    have g2 := hf 2 _ rfl
    have g3 := hf 3 _ rfl
    have g4 := hf 4 _ rfl
    change DataW.trod enc Tryd.prog w base spare held n' 3 (List.take (Tryd.prog.cellsOf 3) [x0, x1, x2, x3, x4]) = some y0 at g0
    change DataW.trod enc Tryd.prog w base spare held n' 9 (List.take (Tryd.prog.cellsOf 9) [x1, x2, x3, x4]) = some y1 at g1
    change DataW.trod enc Tryd.prog w base spare held n' 9 (List.take (Tryd.prog.cellsOf 9) [x2, x3, x4]) = some y2 at g2
    change DataW.trod enc Tryd.prog w base spare held n' 3 (List.take (Tryd.prog.cellsOf 3) [x3, x4]) = some y3 at g3
    change DataW.trod enc Tryd.prog w base spare held n' 3 (List.take (Tryd.prog.cellsOf 3) [x4]) = some y4 at g4
    rw [cInt1] at g0 g3 g4
    rw [cStr1] at g1 g2
    simp only [List.take_succ_cons, List.take_zero] at g0 g1 g2 g3 g4
    obtain ⟨k, ek, rfl, wk⟩ := DataW.trod_int Tryd.underlying3 g0
    obtain ⟨s, es, rfl, ws⟩ := DataW.trod_string Tryd.underlying9 g1
    obtain ⟨t, et, rfl, wt⟩ := DataW.trod_string Tryd.underlying9 g2
    obtain ⟨av, ea, rfl, wa⟩ := DataW.trod_int Tryd.underlying3 g3
    obtain ⟨bv, eb, rfl, wb⟩ := DataW.trod_int Tryd.underlying3 g4
    simp only [List.cons.injEq, and_true] at ek es et ea eb
    subst ek es et ea eb
    have ha := bounds_i64 wa
    have hb := bounds_i64 wb
    have hd : d = .agg [.lit (.int .i64 k), .lit (.string s.data.toList), .lit (.string t.data.toList), .lit (.int .i64 av), .lit (.int .i64 bv)] := congrArg Prod.fst hy
    rw [hd] at hsm
    simp only [Rows.uptoBulk, Rows.uptoBulkAll, Txt.size_toList] at hsm
    have c0 := hat 0 (by decide)
    have c1 := hat 1 (by decide)
    have c2 := hat 2 (by decide)
    have c3 := hat 3 (by decide)
    have c4 := hat 4 (by decide)
    exact ⟨⟨k, s, t, av, bv⟩, ⟨c0, c1, c2, c3, c4⟩, by show s.size ≤ _; omega, by show t.size ≤ _; omega, ha.1, ha.2, hb.1, hb.2⟩
set_option maxRecDepth 100000 in
theorem script_in {H : Type} {enc : TypeId × Value → H} {w : World} {base b0 : Nat} {r : Reach} {spare : Nat → Bool} {held : Bool} {v : Value} {d : DataW H} {p : List MemPlace}
    (hv : Value.okWide Tryd.prog w r b0 41 v) (h : DataW.Trod enc Tryd.prog w base spare held 41 v d p) (hsm : Rows.uptoBulkAll [d] ≤ 1048576) :
    ∃ A c os, v = .slice A os.length c ∧ Script w A os ∧ os.length ≤ 1048576 ∧ ∀ o ∈ os, o.Small := by
  obtain ⟨a0, len0, cap0, rfl⟩ := okWide_slice Tryd.underlying41 hv
  obtain ⟨fuel, hf⟩ := h
  simp only [Rows.uptoBulkAll] at hsm
  rcases open_slice Tryd.underlying41 hf with ⟨hcs, hx⟩ | ⟨a, len, cap, m, n, D, Pl, hcs, hb, hl, hm, hmm, hx, hi⟩
  · have hcs : Value.slice a0 len0 cap0 = .slice none 0 0 := (List.cons.inj hcs).1
    exact ⟨none, 0, [], hcs, fun h0 => by simp at h0, by simp, fun o ho => by cases ho⟩
  · have hcs : Value.slice a0 len0 cap0 = .slice (some a) len cap := (List.cons.inj hcs).1
    have hlm : len ≤ m := by rw [hmm]; split <;> omega
    have hd : d = .slice ((List.range len).map D) ((List.range (m - len)).map fun j => D (len + j)) := congrArg Prod.fst hx
    have hbk : Rows.uptoBulkAll ((List.range len).map D) ≤ 1048576 := by rw [hd] at hsm; simp only [Rows.uptoBulk] at hsm; omega
    have hlen : len ≤ 1048576 := by have := len_le_bulk ((List.range len).map D); simp at this; omega
    obtain ⟨os, hol, ho⟩ := list_of (P := fun i (o : OpV) => OpAt w (a.add (i * 5)) o ∧ o.Small) len fun i hil => by
      obtain ⟨cs', hc, ht⟩ := hi i (by omega)
      rw [cOp5] at hc
      exact op_read hc ht (Nat.le_trans (mem_le_bulk (List.mem_map.2 ⟨i, List.mem_range.2 hil, rfl⟩)) hbk)
    refine ⟨some a, cap, os, by rw [hol]; exact hcs, fun h0 => ?_, by omega, fun o ho' => ?_⟩
    · have hsp : a.spot = none := by
        have := (ho 0 h0).1.1
        exact World.cell?_spot (a := a) (by simpa [Addr.add] using this)
      obtain ⟨b, off, sp⟩ := a
      obtain rfl : sp = none := hsp
      refine ⟨b, off, rfl, fun i hi => ?_⟩
      obtain ⟨⟨c0, c1, c2, c3, c4⟩, _⟩ := ho i hi
      simp only [Addr.add_lit] at c0 c1 c2 c3 c4
      exact ⟨c0, c1, c2, c3, c4⟩
    · obtain ⟨i, hi, rfl⟩ := List.mem_iff_getElem.1 ho'
      exact (ho i hi).2
end Go.Proofs.YtfgekdefnbohbaaDoor.U
