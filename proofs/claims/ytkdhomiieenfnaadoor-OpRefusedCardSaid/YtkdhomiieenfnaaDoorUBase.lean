/- What the laws over texts share: runes in memory, letters taken for runes, Check where its answer is known. -/
import Derived.Test.YtkdhomiieenfnaaDoorUWalk1
import Derived.OwnWalk
import Derived.Laws.Cover4
namespace Go.Proofs.YtkdhomiieenfnaaDoor.U
open Go.RowKit Go.Proofs.YtkdhomiieenfnaaDoor.Txt
set_option linter.unusedVariables false
set_option linter.unusedSimpArgs false

/-- A slice of int32 that is read: its numbers. -/
def Reads32 (w : World) (A : Option Addr) (n : Nat) (xs : List Int) : Prop :=
  xs.length = n ∧ n * 4 ≤ 140737488351232 ∧ (0 < n → ∃ ad, A = some ad ∧ ad.block < w.heap.size ∧ ∀ j, j < n → w.cell? (ad.add j) = some (.int .i32 (xs.getD j 0)))
def letR (r : Int) : Int := if r = 9 ∨ r = 10 ∨ (32 ≤ r ∧ r ≤ 126) ∨ (161 ≤ r ∧ r ≤ 55295) ∨ (65536 ≤ r ∧ r ≤ 131069) then r else 97
def i32s (xs : List Int) : List Value := xs.map (Value.int .i32)
theorem i32s_len (xs : List Int) : (i32s xs).length = xs.length := by simp [i32s]
theorem txt_letR (r : Int) : TxtRune (letR r) := by
  unfold letR TxtRune
  split
  · rename_i h
    refine ⟨(valid_iff r).2 (by omega), ?_⟩
    simp [letInB]
    omega
  · exact ⟨rfl, rfl⟩
theorem lets_good (xs : List Int) : ∀ r ∈ xs.map letR, TxtRune r := by
  intro r hr
  obtain ⟨x, _, rfl⟩ := List.mem_map.1 hr
  exact txt_letR x
theorem take_map_succ (xs : List Int) (k : Nat) (hk : k < xs.length) (f : Int → Int) : (xs.take (k + 1)).map f = (xs.take k).map f ++ [f (xs.getD k 0)] := by
  rw [List.take_add_one, List.getElem?_eq_getElem hk, List.map_append]; simp [List.getD, hk]
theorem info32 : (Tryd.prog.info? 21).map (fun i => (i.zero, i.size, i.bytes)) = some (some (.int .i32 0), 1, 4) := by kernel_rfl

theorem add_block (a : Addr) (n : Nat) : (a.add n).block = a.block := by unfold Addr.add; split <;> rfl
theorem own_step {w1 : World} {B e k : Nat} {v : Value} {xs : List Int} {y : Int} (h : w1.ownsRow B e 1 v (k + 1) (i32s ((xs.take k).map letR) ++ [.int .i32 y])) (hy : letR (xs.getD k 0) = y) (hk : k < xs.length) :
    w1.ownsRow B e 1 v (k + 1) (i32s ((xs.take (k + 1)).map letR)) := by
  rw [take_map_succ xs k hk letR, hy]
  simpa [i32s] using h
theorem round_below {w wr w1 : World} {e k : Nat} {v : Value} {xs : List Value} {o : Obj} (hb : Below w.heap.size w wr) (ho : wr.ownsRow w.heap.size e 1 v k xs) (hg : (wr.alloc o).grownBy w1 v.ownBlock) : Below w.heap.size w w1 :=
  (hb.alloc hb.size o).grown hg (by have := hb.size; simp; omega) fun j hj => (ho.lt j hj).1
/-- Check's answer where it is known. -/
theorem check_at (s : ByteArray) (n a e : Int) (w : World) (hs : s.size ≤ maxLen) (hg : Bars w) (h : ((chk s.data.toList).1 : Int) = n ∧ ((chk s.data.toList).2.1 : Int) = a ∧ ((chk s.data.toList).2.2 : Int) = e) :
    Calls Tryd.prog 31 #[.string s] w fun e' w' => e' = .returned (.tuple #[.int .i64 n, .int .i64 a, .int .i64 e]) ∧ Below w.heap.size w w' := by
  refine (check_any s w hs hg).mono ?_
  rintro e' w' ⟨rfl, hb⟩
  rw [chkOut, h.1, h.2.1, h.2.2]
  exact ⟨rfl, hb⟩

end Go.Proofs.YtkdhomiieenfnaaDoor.U
