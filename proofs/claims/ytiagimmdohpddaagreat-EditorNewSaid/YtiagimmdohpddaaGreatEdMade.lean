/- EditorNew's parts: the document's room, made. -/
import Derived.Test.YtiagimmdohpddaaGreatEdRef
namespace Go.Proofs.YtiagimmdohpddaaGreat.E
open Go.RowKit Go.Proofs Go.Joins
set_option linter.unusedVariables false
set_option linter.unusedSimpArgs false
attribute [local go_sem] frozen?_alloc_cells

theorem three2 (w : World) (a b c : Obj) : (((w.alloc a).alloc b).alloc c).drew.heap[w.heap.size + 1 + 1]? = some c := by
  have := heap_alloc_new ((w.alloc a).alloc b) c
  show (((w.alloc a).alloc b).alloc c).heap[w.heap.size + 1 + 1]? = some c
  simpa using this
theorem three_below (w : World) (a b c : Obj) : Below w.heap.size w (((w.alloc a).alloc b).alloc c).drew := ((((Below.refl w.heap.size w).alloc (Nat.le_refl _) a).alloc (by simp) b).alloc (by simp; omega) c).drew
theorem three1 (w : World) (a b c : Obj) : (((w.alloc a).alloc b).alloc c).heap[w.heap.size + 1]? = some b := by
  rw [Lib.alloc_old _ _ _ (by simp)]
  have := heap_alloc_new (w.alloc a) b
  simpa using this
/-- What New hands back: the room, and the clients' row. -/
structure Made (w w' : World) (n k o : Int) (q g m : Nat) (Z : Array Value) : Prop where
  room : ∃ K H G, w'.heap[q]? = some (.cells (room n k o (.slice (some ⟨g, 0, none⟩) m m) K H G) 84 (0, 0))
  row : w'.heap[g]? = some (.cells Z 87 (0, 0))
  zs : ∀ j, j < 12 → Z[12 + j]? = cliZ[j]?
  size : Z.size = m * 12
  ge : w.heap.size ≤ g
  lt : g < q
  below : Below w.heap.size w w'

set_option maxRecDepth 100000 in
set_option maxHeartbeats 4000000 in
theorem new_ok (c k o : Int) (w : World) (h1 : 1 ≤ c ∧ c ≤ 8) (h2 : 1 ≤ k ∧ k ≤ 4096) (h3 : 1 ≤ o ∧ o ≤ 1024) : Calls Tryz.prog 10 #[.agg #[.int .i64 c, .int .i64 k, .int .i64 o]] w fun e w' => ∃ (q g m : Nat) (Z : Array Value), e = .returned (.tuple #[.pointer (some ⟨q, 0, none⟩), .int .i64 0]) ∧ (m : Int) = c + 1 ∧ Made w w' c k o q g m Z := by
  obtain ⟨n, rfl⟩ : ∃ n : Nat, c = n := ⟨c.toNat, by omega⟩
  have e1 : IntKind.i64.wrap (↑n + 1) = ↑n + 1 := IntWalk.i64_in _ (by omega)
  obtain ⟨Z, hZ, hZc, hmk⟩ := mk_clients n (by omega) (by omega)
  have HZ := Lib.hid hZ
  have HZC := Lib.hid hZc
  clear hZ hZc
  go_enter Tryz.func10, Tryz.ntmps10
  go_wp2_with fail
  go_region_held3 (fun w' => w'.cell? ⟨w.heap.size, 0, none⟩ = some (.int .i64 n) ∧ w'.cell? ⟨w.heap.size, 1, none⟩ = some (.int .i64 k) ∧ w'.cell? ⟨w.heap.size, 2, none⟩ = some (.int .i64 o)) (go_keep) (fail)
  all_goals (go_wp2_with fail)
  all_goals
    refine (server_any n k o (.slice (some ⟨w.heap.size + 1, 0, none⟩) (n + 1) (n + 1)) (w.heap.size + 1 + 1) _ (by omega) (three2 w _ _ _)).mono ?_
    rintro e w1 ⟨rfl, hroom, hb1⟩
    have HR := Lib.hid hroom
    have HB1 := Lib.hid hb1
    clear hroom hb1
    go_wp2_with fail
    go_ret2
    exact ⟨_, w.heap.size + 1, n + 1, Z, rfl, by omega, ⟨HR.out, (HB1.out.block _ (by omega)).trans (three1 w _ _ _), HZC.out, HZ.out, by omega, by omega, (three_below w _ _ _).trans (HB1.out.mono (by omega))⟩⟩
end Go.Proofs.YtiagimmdohpddaaGreat.E
