/- op.Check whatever the operation; small lemmas. -/
import Derived.Test.YtkdhomiieenfnaaGreatDoorLs16
import Derived.Laws.Rows
namespace Go.Proofs.YtkdhomiieenfnaaGreatDoor.O
open Go.RowKit Go.Proofs Go.Joins Go.Proofs.YtkdhomiieenfnaaGreatDoor.U Go.Proofs.YtkdhomiieenfnaaGreatDoor.Txt
set_option linter.unusedVariables false
set_option linter.unusedSimpArgs false
attribute [local go_sem] frozen?_alloc_cells

set_option maxRecDepth 100000 in
set_option maxHeartbeats 4000000 in
theorem pick_any (t n : Int) (w : World) (hn : 0 < n ∧ n ≤ 1000000) : Calls Tryz.prog 39 #[.int .i64 t, .int .i64 n] w fun e w' => (∃ r, e = .returned (.int .i64 r) ∧ 0 ≤ r ∧ r < n) ∧ w' = w := by
  have hz : ¬ n = 0 := by omega
  have h1 : -n < t.tmod n ∧ t.tmod n < n := ⟨by have := Int.lt_tmod_of_pos t hn.1; omega, Int.tmod_lt_of_pos t hn.1⟩
  have e1 : IntKind.i64.wrap (t.tmod n) = t.tmod n := IntWalk.i64_in _ (by omega)
  have e2 : IntKind.i64.wrap (t.tmod n + n) = t.tmod n + n := IntWalk.i64_in _ (by omega)
  by_cases h : t.tmod n < 0
  · go_enter Tryz.func39, Tryz.ntmps39
    go_wp2_with fail
    go_ret
    exact ⟨⟨_, rfl, by omega, by omega⟩, rfl⟩
  · go_enter Tryz.func39, Tryz.ntmps39
    go_wp2_with fail
    go_ret
    exact ⟨⟨_, rfl, by omega, by omega⟩, rfl⟩
theorem opCheck_any (i0 i1 kd a : Int) (tx : ByteArray) (A : Option Addr) (n m : Nat) (rs : List (Int × Int)) (t0 t1 : Int) (on : Bool) (total : Int) (k ps er : Nat) (hck : chk tx.data.toList = (k, ps, er)) (w : World) (hs : tx.size ≤ maxLen) (hn : n ≤ 8796093022208) (hR : Ranges w A n rs) (hg : Bars w) :
    Calls Tryz.prog 43 #[opV i0 i1 kd a tx (.slice A n m) t0 t1 on, .int .i64 total] w fun e w' => e = .returned (.int .i64 (opE i0 i1 kd a tx k er rs t0 t1 on total)) ∧ Below w.heap.size w w' := by
  by_cases h1 : (total < 0 ∨ 1048576 < total) ∨ (kd < 1 ∨ 4 < kd)
  · exact opCheck_bad i0 i1 kd a tx A n m rs t0 t1 on total k er w h1
  · exact opCheck_good i0 i1 kd a tx A n m rs t0 t1 on total k ps er hck w hs hn hR hg (by omega) (by omega) (by omega) (by omega)
theorem two_fst (w : World) (a b : Obj) : ((w.alloc a).alloc b).heap[w.heap.size]? = some a := by
  rw [Lib.alloc_old _ _ _ (by simp)]; exact heap_alloc_new w a
theorem three_fst (w : World) (a b c : Obj) : (((w.alloc a).alloc b).alloc c).heap[w.heap.size]? = some a := by
  rw [Lib.alloc_old _ _ _ (by simp; omega)]; exact two_fst w a b
theorem three_trd (w : World) (a b c : Obj) : (((w.alloc a).alloc b).alloc c).heap[w.heap.size + 1 + 1]? = some c := by
  have := heap_alloc_new ((w.alloc a).alloc b) c
  simpa using this
theorem below3 (w : World) (a b c : Obj) : Below w.heap.size w (((w.alloc a).alloc b).alloc c) := (((Below.refl w.heap.size w).alloc (Nat.le_refl _) a).alloc (by simp) b).alloc (by simp; omega) c
theorem Ranges.none (w : World) (A : Option Addr) : Ranges w A 0 [] := ⟨rfl, fun h => absurd h (by decide)⟩
theorem Ranges.one {w : World} {b T : Nat} {lo hi : Int} (h : w.heap[b]? = some (.cells #[.int .i64 lo, .int .i64 hi] T (0, 0))) : Ranges w (some ⟨b, 0, Option.none⟩) 1 [(lo, hi)] :=
  ⟨rfl, fun _ => ⟨b, 0, rfl, fun j hj => by
    obtain rfl : j = 0 := by simp at hj; omega
    exact ⟨by rw [Lib.cell_of_heap h]; rfl, by rw [Lib.cell_of_heap h]; rfl⟩⟩⟩
theorem Ranges.two {w : World} {b T : Nat} {lo hi lo2 hi2 : Int} (h : w.heap[b]? = some (.cells #[.int .i64 lo, .int .i64 hi, .int .i64 lo2, .int .i64 hi2] T (0, 0))) : Ranges w (some ⟨b, 0, Option.none⟩) 2 [(lo, hi), (lo2, hi2)] :=
  ⟨rfl, fun _ => ⟨b, 0, rfl, fun j hj => by
    have hj2 : j = 0 ∨ j = 1 := by simp at hj; omega
    rcases hj2 with rfl | rfl
    · exact ⟨by rw [Lib.cell_of_heap h]; rfl, by rw [Lib.cell_of_heap h]; rfl⟩
    · exact ⟨by rw [Lib.cell_of_heap h]; rfl, by rw [Lib.cell_of_heap h]; rfl⟩⟩⟩
end Go.Proofs.YtkdhomiieenfnaaGreatDoor.O
