/- page's Cols: how many columns a rune fills. -/
import Derived.Test.YtkidcleffllhbaaDoorProg
import Derived.Test.YtkidcleffllhbaaDoorPgP
import Derived.WalkKit
import Derived.RowKit3
import Derived.IntWalk
import Derived.Lib.SmallJoins
import Derived.Lib.Hide
import Derived.Lib.Builder
namespace Go.Proofs.YtkidcleffllhbaaDoor.Pg
open Go.RowKit Go.Proofs Go.Joins
set_option linter.unusedVariables false
set_option linter.unusedSimpArgs false
attribute [local go_sem] frozen?_alloc_cells

theorem cell_below {w w1 : World} (h : Below w.heap.size w w1) {a : Addr} {v : Value} (hc : w.cell? a = some v) : w1.cell? a = some v := (h.cell (World.block_lt_of_cell? w a hc)).trans hc
/-- These pairs lie in this block. -/
def Pairs (w : World) (b : Nat) (ps : List (Int × Int)) : Prop := ∀ j (h : j < ps.length), w.cell? ⟨b, j * 2, none⟩ = some (.int .i32 ps[j].1) ∧ w.cell? ⟨b, j * 2 + 1, none⟩ = some (.int .i32 ps[j].2)
theorem Pairs.below {w w1 : World} {b : Nat} {ps : List (Int × Int)} (h : Pairs w b ps) (hb : Below w.heap.size w w1) : Pairs w1 b ps := fun j hj => ⟨cell_below hb (h j hj).1, cell_below hb (h j hj).2⟩
theorem inT_step {ps : List (Int × Int)} {j : Nat} {r : Int} (h : j < ps.length) : inT (ps.drop j) r = ((decide (ps[j].1 ≤ r) && decide (r ≤ ps[j].2)) || inT (ps.drop (j + 1)) r) := by
  rw [List.drop_eq_getElem_cons h]; rfl
theorem inT_end {ps : List (Int × Int)} {j : Nat} {r : Int} (h : ps.length ≤ j) : inT (ps.drop j) r = false := by
  rw [List.drop_eq_nil_of_le h]; rfl

set_option maxRecDepth 100000 in
set_option maxHeartbeats 4000000 in
theorem within_any (b n : Nat) (ps : List (Int × Int)) (r : Int) (w : World) (hn : n = ps.length) (hs : n ≤ 1000) (hP : Pairs w b ps) : Calls Tryd.prog 43 #[.slice (some ⟨b, 0, none⟩) n n, .int .i32 r] w fun e w' => e = .returned (.bool (inT ps r)) ∧ Below w.heap.size w w' := by
  have HN := Lib.hid hn
  have HP := Lib.hid hP
  clear hn hP
  go_enter Tryd.func43, Tryd.ntmps43
  go_wp2_with fail
  go_loopw [9] (fun i wr => ∃ j : Nat, i = .int .i64 j ∧ j ≤ n ∧ Below w.heap.size w wr ∧ inT ps r = inT (ps.drop j) r) (fun i _ => n - (intOf i).toNat)
  case atStart => exact ⟨0, rfl, Nat.zero_le _, Below.refl _ _, rfl⟩
  case round =>
    obtain ⟨j, rfl, hj, hb, hi⟩ := hrel
    have HB := Lib.hid hb
    have HI := Lib.hid hi
    clear hi
    by_cases hlt : j < n
    · have hlt2 : j < ps.length := by have := HN.out; omega
      obtain ⟨c1, c2⟩ := HP.out j hlt2
      have d1 := cell_below hb c1
      have d2 := cell_below hb c2
      have hst := inT_step (r := r) hlt2
      rw [← HI.out] at hst
      obtain ⟨lo, hlo⟩ : ∃ lo, ps[j].1 = lo := ⟨_, rfl⟩
      obtain ⟨hi, hhi⟩ : ∃ hi, ps[j].2 = hi := ⟨_, rfl⟩
      rw [hlo] at d1 hst
      rw [hhi] at d2 hst
      have HST := Lib.hid hst
      clear hst hlo hhi c1 c2 hlt2 hb
      by_cases g1 : lo ≤ r
      · by_cases g2 : r ≤ hi
        · go_wp2_with fail
          go_ret
          exact ⟨by rw [HST.out]; simp [g1, g2], HB.out.alloc HB.out.size _⟩
        · go_wp2_with fail
          go_roundw
          case rel => exact ⟨j + 1, by go_num, by omega, HB.out.alloc HB.out.size _, by rw [HST.out]; simp [g1]; omega⟩
          case measure => simp [intOf]; omega
      · go_wp2_with fail
        go_roundw
        case rel => exact ⟨j + 1, by go_num, by omega, HB.out.alloc HB.out.size _, by rw [HST.out]; simp; omega⟩
        case measure => simp [intOf]; omega
    · clear hb
      go_wp2_with fail
      go_ret
      exact ⟨by rw [HI.out, inT_end (by have := HN.out; omega)]; rfl, HB.out⟩

/-- The two tables stand as the program lays them. -/
def pairCells (ps : List (Int × Int)) : Array Value := (ps.flatMap fun p => [.int .i32 p.1, .int .i32 p.2]).toArray
structure Tabs (w : World) : Prop where
  none : ∃ t fr, w.heap[0]? = some (.cells (pairCells noneT) t fr)
  wide : ∃ t fr, w.heap[1]? = some (.cells (pairCells wideT) t fr)
theorem Tabs.below {w w' : World} (h : Tabs w) (hb : Below w.heap.size w w') : Tabs w' :=
  ⟨by obtain ⟨t, fr, e⟩ := h.none; exact ⟨t, fr, by rw [hb.block _ (Array.getElem?_eq_some_iff.1 e).1]; exact e⟩, by obtain ⟨t, fr, e⟩ := h.wide; exact ⟨t, fr, by rw [hb.block _ (Array.getElem?_eq_some_iff.1 e).1]; exact e⟩⟩
theorem pairs_of {w : World} {b t : Nat} {fr : Nat × Nat} {ps : List (Int × Int)} (h : w.heap[b]? = some (.cells (pairCells ps) t fr)) : Pairs w b ps := by
  have hx : ∀ (ps : List (Int × Int)) (j : Nat) (hj : j < ps.length), (ps.flatMap fun p => [Value.int .i32 p.1, Value.int .i32 p.2])[j * 2]? = some (.int .i32 ps[j].1) ∧ (ps.flatMap fun p => [Value.int .i32 p.1, Value.int .i32 p.2])[j * 2 + 1]? = some (.int .i32 ps[j].2) := by
    intro ps
    induction ps with
    | nil => intro j hj; simp at hj
    | cons p r ih =>
      intro j hj
      cases j with
      | zero => exact ⟨rfl, rfl⟩
      | succ j =>
        have := ih j (by simpa using hj)
        rw [show (j + 1) * 2 = j * 2 + 2 by omega]
        simpa [List.flatMap_cons] using this
  intro j hj
  obtain ⟨h1, h2⟩ := hx ps j hj
  constructor
  · rw [Lib.cell_of_heap h]; simpa [pairCells] using h1
  · rw [Lib.cell_of_heap h]; simpa [pairCells] using h2

set_option maxRecDepth 100000 in
set_option maxHeartbeats 4000000 in
theorem Cols_any (r n : Int) (w : World) (hn : 0 ≤ n) (hT : Tabs w) : Calls Tryd.prog 22 #[.int .i32 r, .int .i64 n] w fun e w' => e = .returned (.int .i64 (colR r n)) ∧ Below w.heap.size w w' := by
  obtain ⟨⟨t1, f1, h1⟩, ⟨t2, f2, h2⟩⟩ := hT
  have P1 := Lib.hid (pairs_of h1)
  have P2 := Lib.hid (pairs_of h2)
  clear h1 h2
  by_cases g1 : r = 9
  · have G1 := Lib.hid g1
    have b1 : (r == 9) = true := by simp [g1]
    clear g1
    have e1 : (if n < 0 then 0 else n) = n := if_neg (by omega)
    go_enter Tryd.func22, Tryd.ntmps22
    go_wp2_with fail
    go_ret
    exact ⟨by rw [show colR r n = 4 - n % 4 by unfold colR; rw [if_pos G1.out]]; rfl, Below.refl _ _⟩
  · go_enter Tryd.func22, Tryd.ntmps22
    have b1 : (r == 9) = false := by simp [g1]
    by_cases g2 : r = 10
    · have b2 : (r == 10) = true := by simp [g2]
      have HE := Lib.hid (show colR r n = 0 by unfold colR; rw [if_neg g1, if_pos (.inl g2)])
      clear g1 g2
      go_wp2_with fail
      go_ret
      exact ⟨by rw [HE.out]; rfl, Below.refl _ _⟩
    · have b2 : (r == 10) = false := by simp [g2]
      have HE := Lib.hid (show colR r n = if inT noneT r = true then 0 else if inT wideT r = true then 2 else 1 by unfold colR; rw [if_neg g1]; simp [g2])
      clear g1 g2
      go_wp2_with fail
      refine (within_any _ 3 noneT r _ rfl (by decide) P1.out).mono ?_
      rintro e w1 ⟨rfl, hb⟩
      have HB := Lib.hid hb
      clear hb
      rcases Bool.eq_false_or_eq_true (inT noneT r) with h1 | h1
      · go_wp2_with fail
        go_ret
        exact ⟨by rw [HE.out, if_pos h1]; rfl, HB.out⟩
      · have HE1 := Lib.hid (by have := HE.out; rwa [if_neg (by rw [h1]; decide)] at this)
        go_wp2_with fail
        refine (within_any _ 10 wideT r _ rfl (by decide) (P2.out.below HB.out)).mono ?_
        rintro e w2 ⟨rfl, hb⟩
        have HB2 := Lib.hid (HB.out.trans (hb.mono HB.out.size))
        clear hb
        rcases Bool.eq_false_or_eq_true (inT wideT r) with h2 | h2
        · go_wp2_with fail
          go_ret
          exact ⟨by rw [HE1.out, if_pos h2]; rfl, HB2.out⟩
        · go_wp2_with fail
          go_ret
          exact ⟨by rw [HE1.out, if_neg (by rw [h2]; decide)]; rfl, HB2.out⟩
end Go.Proofs.YtkidcleffllhbaaDoor.Pg
