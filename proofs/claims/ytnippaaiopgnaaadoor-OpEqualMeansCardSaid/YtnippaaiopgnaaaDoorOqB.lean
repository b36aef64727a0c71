/- Parts of op.Print: an operation's own error, its width, its ranges. -/
import Derived.Test.YtnippaaiopgnaaaDoorOqA
namespace Go.Proofs.YtnippaaiopgnaaaDoor.O
open Go.RowKit Go.Proofs Go.Joins Go.Proofs.YtnippaaiopgnaaaDoor.U Go.Proofs.YtnippaaiopgnaaaDoor.Txt
set_option linter.unusedVariables false
set_option linter.unusedSimpArgs false
attribute [local go_sem] id_eq

/-- The total at which an operation's own error is asked. -/
def ownT (kd a : Int) : Int := if kd = 1 ∧ 0 ≤ a ∧ a ≤ 1048576 then a else 1048576
def ownE (i0 i1 kd a : Int) (tx : ByteArray) (k er : Nat) (rs : List (Int × Int)) (t0 t1 : Int) (on : Bool) : Int := opE i0 i1 kd a tx k er rs t0 t1 on (ownT kd a)

set_option maxRecDepth 100000 in
set_option maxHeartbeats 4000000 in
theorem own_any (i0 i1 kd a : Int) (tx : ByteArray) (A : Option Addr) (n m : Nat) (rs : List (Int × Int)) (t0 t1 : Int) (on : Bool) (k ps er : Nat) (hck : chk tx.data.toList = (k, ps, er)) (w : World) (hs : tx.size ≤ maxLen) (hn : n ≤ 1099511627776) (hR : Ranges w A n rs) (hg : Bars w) :
    Calls Tryd.prog 26 #[opV i0 i1 kd a tx (.slice A n m) t0 t1 on] w fun e w' => e = .returned (.int .i64 (ownE i0 i1 kd a tx k er rs t0 t1 on)) ∧ Below w.heap.size w w' := by
  have HC := Lib.hid (fun total W (hb : Below w.heap.size w W) => opCheck_any i0 i1 kd a tx A n m rs t0 t1 on total k ps er hck W hs hn (hR.below hb) (hg.below hb))
  unfold opV at HC ⊢
  unfold ownE ownT
  clear hR hg
  have hb := Lib.hid (below_alloc1 w (.cells #[.int .i64 i0, .int .i64 i1, .int .i64 kd, .int .i64 a, .string tx, .slice A n m, .int .i64 t0, .int .i64 t1, .bool on] 31))
  by_cases h1 : kd = 1
  · subst h1
    by_cases h2 : 0 ≤ a
    · by_cases h3 : a ≤ 1048576
      · rw [if_pos ⟨rfl, h2, h3⟩]
        go_enter Tryd.func26, Tryd.ntmps26
        go_wp2_with fail
        refine (HC.out _ _ hb.out).mono ?_
        rintro e w' ⟨rfl, hb'⟩
        have HB := Lib.hid (hb.out.trans (hb'.mono hb.out.size))
        clear hb'
        go_wp2_with fail
        go_ret
        exact ⟨rfl, HB.out⟩
      · rw [if_neg (by omega)]
        have d3 : decide (a ≤ 1048576) = false := by simp; omega
        go_enter Tryd.func26, Tryd.ntmps26
        go_wp2_with fail
        refine (HC.out _ _ hb.out).mono ?_
        rintro e w' ⟨rfl, hb'⟩
        have HB := Lib.hid (hb.out.trans (hb'.mono hb.out.size))
        clear hb'
        go_wp2_with fail
        go_ret
        exact ⟨rfl, HB.out⟩
    · rw [if_neg (by omega)]
      have d2 : decide (0 ≤ a) = false := by simp; omega
      go_enter Tryd.func26, Tryd.ntmps26
      go_wp2_with fail
      refine (HC.out _ _ hb.out).mono ?_
      rintro e w' ⟨rfl, hb'⟩
      have HB := Lib.hid (hb.out.trans (hb'.mono hb.out.size))
      clear hb'
      go_wp2_with fail
      go_ret
      exact ⟨rfl, HB.out⟩
  · rw [if_neg (by omega)]
    go_enter Tryd.func26, Tryd.ntmps26
    go_wp2_with fail
    refine (HC.out _ _ hb.out).mono ?_
    rintro e w' ⟨rfl, hb'⟩
    have HB := Lib.hid (hb.out.trans (hb'.mono hb.out.size))
    clear hb'
    go_wp2_with fail
    go_ret
    exact ⟨rfl, HB.out⟩
set_option maxRecDepth 100000 in
set_option maxHeartbeats 4000000 in
theorem Width_any (i0 i1 kd a : Int) (tx : ByteArray) (A : Option Addr) (n m : Nat) (t0 t1 : Int) (on : Bool) (k ps er : Nat) (hck : chk tx.data.toList = (k, ps, er)) (w : World) (hs : tx.size ≤ maxLen) (hg : Bars w) :
    Calls Tryd.prog 23 #[opV i0 i1 kd a tx (.slice A n m) t0 t1 on] w fun e w' => e = .returned (.int .i64 (if kd = 1 then (k : Int) else 0)) ∧ Below w.heap.size w w' := by
  unfold opV
  have HG := Lib.hid (hg.below (below_alloc1 w (.cells #[.int .i64 i0, .int .i64 i1, .int .i64 kd, .int .i64 a, .string tx, .slice A n m, .int .i64 t0, .int .i64 t1, .bool on] 31)))
  have HC := Lib.hid hck
  clear hg hck
  by_cases h1 : kd = 1
  · subst h1
    rw [if_pos rfl]
    go_enter Tryd.func23, Tryd.ntmps23
    go_wp2_with fail
    refine (check_at tx k ps er _ hs HG.out (by rw [HC.out]; exact ⟨rfl, rfl, rfl⟩)).mono ?_
    rintro e w' ⟨rfl, hb'⟩
    have HB := Lib.hid ((below_alloc1 w _).trans (hb'.mono (by simp)))
    clear hb'
    go_wp2_with fail
    go_ret
    exact ⟨rfl, HB.out⟩
  · rw [if_neg h1]
    go_enter Tryd.func23, Tryd.ntmps23
    go_wp2_with fail
    go_ret
    exact ⟨rfl, below_alloc1 _ _⟩
end Go.Proofs.YtnippaaiopgnaaaDoor.O
