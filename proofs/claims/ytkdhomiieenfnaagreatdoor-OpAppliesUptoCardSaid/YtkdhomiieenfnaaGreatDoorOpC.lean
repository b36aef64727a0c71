/- The parts of op.Check: ranges. -/
import Derived.Test.YtkdhomiieenfnaaGreatDoorLs0
import Derived.RowKit3
import Derived.Deep.QuietTactic
import Derived.Lib.SmallJoins
import Derived.IntWalk
namespace Go.Proofs.YtkdhomiieenfnaaGreatDoor.O
open Go.RowKit Go.Proofs Go.Joins Go.Proofs.YtkdhomiieenfnaaGreatDoor.U
set_option linter.unusedVariables false
set_option linter.unusedSimpArgs false

theorem cell_below {w w1 : World} (h : Below w.heap.size w w1) {a : Addr} {v : Value} (hc : w.cell? a = some v) : w1.cell? a = some v := (h.cell (World.block_lt_of_cell? w a hc)).trans hc
theorem below_drewN {B : Nat} {a w : World} (h : Below B a w) (n : Nat) : Below B a (w.drewN n) := ⟨h.os, h.tape, h.output, h.size, h.block⟩

/-- What Check says of ranges, the first of them behind this end. -/
def spanE : Option Int → List (Int × Int) → Int
  | _, [] => 0
  | p, (lo, hi) :: r => if lo < 0 ∨ 1048576 < hi ∨ hi ≤ lo then 20 else if (match p with | none => false | some q => decide (lo ≤ q)) then 22 else spanE (some hi) r
/-- These ranges lie behind this slice. -/
structure Ranges (w : World) (A : Option Addr) (n : Nat) (rs : List (Int × Int)) : Prop where
  len : n = rs.length
  at_ : 0 < n → ∃ b off, A = some ⟨b, off, none⟩ ∧ ∀ j (h : j < rs.length), w.cell? ⟨b, off + j * 2, none⟩ = some (.int .i64 rs[j].1) ∧ w.cell? ⟨b, off + j * 2 + 1, none⟩ = some (.int .i64 rs[j].2)
theorem Ranges.below {w w1 : World} {A : Option Addr} {n : Nat} {rs : List (Int × Int)} (h : Ranges w A n rs) (hb : Below w.heap.size w w1) : Ranges w1 A n rs :=
  ⟨h.len, fun h0 => by obtain ⟨b, off, e, hc⟩ := h.at_ h0; exact ⟨b, off, e, fun j hj => ⟨cell_below hb (hc j hj).1, cell_below hb (hc j hj).2⟩⟩⟩
/-- What is still to be shown, behind a wall that no unfolding passes. -/
structure Veil (p : Prop) : Prop where
  out : p
section
variable {P : Program} {ops : Array Oper} {C : World → Prop} {Q : Act → Prop} {a : Act} {o : Oper} {rest : List Oper}
/-- The steps of a region that only reads, what is still to be done being hidden. -/
theorem hq_step (h : ∀ K : Act → Prop, (∀ a, Veil (wpQuiet P ops C Q rest a) → K a) → if Region.wanted o (yielded ops a.tmps) then o.quiet P a C K else K (a.put o.dst undef)) : Veil (wpQuiet P ops C Q (o :: rest) a) :=
  ⟨wpQuiet_step fun K hK => h K (fun a ha => hK a ha.out)⟩
theorem hq_nil (h : Q a) : Veil (wpQuiet P ops C Q [] a) := ⟨h⟩
end
def prevE (rs : List (Int × Int)) : Nat → Option Int
  | 0 => none
  | k + 1 => (rs[k]?).map (·.2)
theorem spanE_step {p : Option Int} {rs : List (Int × Int)} {j : Nat} (h : j < rs.length) : spanE p (rs.drop j) = if rs[j].1 < 0 ∨ 1048576 < rs[j].2 ∨ rs[j].2 ≤ rs[j].1 then 20 else if (match p with | none => false | some q => decide (rs[j].1 ≤ q)) then 22 else spanE (some rs[j].2) (rs.drop (j + 1)) := by
  rw [List.drop_eq_getElem_cons h]
  rfl
theorem spanE_end {p : Option Int} {rs : List (Int × Int)} {j : Nat} (h : rs.length ≤ j) : spanE p (rs.drop j) = 0 := by
  rw [List.drop_eq_nil_of_le h]; cases p <;> rfl

set_option maxRecDepth 100000 in
set_option maxHeartbeats 900000 in
theorem span_any (A : Option Addr) (n m : Nat) (rs : List (Int × Int)) (w : World) (hn : n ≤ 32768) (hR : Ranges w A n rs) : Calls Tryz.prog 81 #[.slice A n m] w fun e w' => (∃ i, e = .returned (.tuple #[.int .i64 i, .int .i64 (spanE none rs)])) ∧ Below w.heap.size w w' := by
  obtain ⟨hl, hat⟩ := hR
  have hn2 : ¬ (32768 : Int) < (n : Int) := by omega
  have HAT := Lib.hid hat
  clear hat
  go_enter Tryz.func81, Tryz.ntmps81
  go_wp2_with fail
  go_loopw [11] (fun i wr => ∃ j : Nat, i = .int .i64 j ∧ j ≤ n ∧ Below w.heap.size w wr ∧ spanE none rs = spanE (prevE rs j) (rs.drop j)) (fun i _ => n - (intOf i).toNat)
  case atStart => exact ⟨0, rfl, Nat.zero_le _, Below.refl _ _, rfl⟩
  case round =>
    obtain ⟨j, rfl, hj, hb, hs⟩ := hrel
    have HB := Lib.hid hb
    by_cases hlt : j < n
    · obtain ⟨b, off, rfl, hc⟩ := HAT.out (by omega)
      have hlt2 : j < rs.length := by omega
      obtain ⟨c1, c2⟩ := hc j hlt2
      have d1 := cell_below hb c1
      have d2 := cell_below hb c2
      rw [spanE_step hlt2] at hs
      have hp : ∀ k, j = k + 1 → wr.cell? ⟨b, off + k * 2 + 1, none⟩ = some (.int .i64 (rs[k]?.getD (0, 0)).2) ∧ prevE rs j = some (rs[k]?.getD (0, 0)).2 := by
        rintro k rfl
        have := (hc k (by omega)).2
        have h5 : rs[k]? = some rs[k] := List.getElem?_eq_getElem (by omega)
        exact ⟨by rw [h5]; exact cell_below hb this, by simp only [prevE, h5]; rfl⟩
      have HS := Lib.hid hs
      have HP := Lib.hid hp
      have hp2 : prevE rs (j + 1) = some rs[j].2 := by simp [prevE, List.getElem?_eq_getElem hlt2]
      have HP2 := Lib.hid hp2
      clear hp2
      generalize rs[j].1 = lo at c1 d1 hs HS HP2
      generalize rs[j].2 = hi at c2 d2 hs HS HP2
      clear hs hp hb hc c1 c2
      by_cases g1 : lo < 0
      · go_wp2_with fail
        go_ret2
        exact ⟨⟨j, by rw [HS.out, if_pos (.inl g1)]; rfl⟩, by first | exact HB.out.alloc HB.out.size _ | exact below_drewN (HB.out.alloc HB.out.size _) _⟩
      by_cases g2 : 1048576 < hi
      · go_wp2_with fail
        go_ret2
        exact ⟨⟨j, by rw [HS.out, if_pos (.inr (.inl g2))]; rfl⟩, by first | exact HB.out.alloc HB.out.size _ | exact below_drewN (HB.out.alloc HB.out.size _) _⟩
      by_cases g3 : hi ≤ lo
      · go_wp2_with fail
        go_ret2
        exact ⟨⟨j, by rw [HS.out, if_pos (.inr (.inr g3))]; rfl⟩, by first | exact HB.out.alloc HB.out.size _ | exact below_drewN (HB.out.alloc HB.out.size _) _⟩
      have hs1 := HS.out
      rw [if_neg (by omega)] at hs1
      have HS1 := Lib.hid hs1
      clear hs1 HS
      rcases Nat.eq_zero_or_pos j with hj0 | hpos
      · have z1 : ¬ 0 < j := by omega
        have HJ := Lib.hid hj0
        clear hj0
        go_wp2_with fail
        refine wp_region_quiet_lit (by kernel_rfl) (by kernel_rfl) (Veil.out ?_)
        repeat
          (refine hq_step (fun K hK => ?_)
           go_simp
           refine hK _ ?_
           clear hK K)
        refine hq_nil ?_
        rintro _ ⟨nq, rfl⟩
        go_wp2_with fail
        go_roundw
        case rel => exact ⟨j + 1, by go_num, by omega, below_drewN (HB.out.alloc HB.out.size _) _, by rw [HS1.out, HP2.out, HJ.out]; rfl⟩
        case measure => simp [intOf]; omega
      · obtain ⟨k, rfl⟩ : ∃ k, j = k + 1 := ⟨j - 1, by omega⟩
        obtain ⟨c3, hp⟩ := HP.out k rfl
        have HPP := Lib.hid hp
        clear hp
        generalize (rs[k]?.getD (0, 0)).2 = ph at c3 HPP
        have hs2 := HS1.out
        rw [HPP.out] at hs2
        simp only [decide_eq_true_eq] at hs2
        have HS2 := Lib.hid hs2
        clear hs2 HS1 HPP HP
        have e1 : IntKind.i64.wrap (k : Int) = k := IntWalk.i64_in _ (by omega)
        have e2 : k < rs.length := by omega
        have c4 : ∀ o, (wr.alloc o).cell? ⟨b, off + k * 2 + 1, none⟩ = some (.int .i64 ph) := fun o => cell_below (below_alloc1 wr o) c3
        by_cases g4 : lo ≤ ph
        · go_wp2_with fail
          go_quiet (fail)
          go_wp2_with fail
          go_ret2
          exact ⟨⟨_, by rw [HS2.out, if_pos g4]; rfl⟩, by first | exact HB.out.alloc HB.out.size _ | exact below_drewN (HB.out.alloc HB.out.size _) _⟩
        · go_wp2_with fail
          go_quiet (fail)
          go_wp2_with fail
          go_roundw
          case rel => exact ⟨k + 1 + 1, by go_num, by omega, below_drewN (HB.out.alloc HB.out.size _) _, by rw [HS2.out, if_neg (by omega), HP2.out]⟩
          case measure => simp [intOf]; omega
    · go_wp2_with fail
      go_ret2
      refine ⟨⟨0, ?_⟩, HB.out⟩
      rw [hs, spanE_end (by omega)]
      rfl
/-- What Check says of ranges, how many they may be. -/
def spanM (rs : List (Int × Int)) : Int := if 32768 < rs.length then 21 else spanE none rs
theorem spanM_small {rs : List (Int × Int)} (h : rs.length ≤ 32768) : spanM rs = spanE none rs := if_neg (by omega)
set_option maxRecDepth 100000 in
set_option maxHeartbeats 900000 in
theorem span_all (A : Option Addr) (n m : Nat) (rs : List (Int × Int)) (w : World) (hn : n ≤ 8796093022208) (hR : Ranges w A n rs) : Calls Tryz.prog 81 #[.slice A n m] w fun e w' => (∃ i, e = .returned (.tuple #[.int .i64 i, .int .i64 (spanM rs)])) ∧ Below w.heap.size w w' := by
  by_cases h : n ≤ 32768
  · rw [spanM_small (by rw [← hR.len]; exact h)]
    exact span_any A n m rs w h hR
  · rw [show spanM rs = 21 from if_pos (by rw [← hR.len]; omega)]
    have hn2 : (32768 : Int) < (n : Int) := by omega
    clear hR hn
    go_enter Tryz.func81, Tryz.ntmps81
    go_wp2_with fail
    go_ret2
    exact ⟨⟨_, rfl⟩, Below.refl _ _⟩
end Go.Proofs.YtkdhomiieenfnaaGreatDoor.O
