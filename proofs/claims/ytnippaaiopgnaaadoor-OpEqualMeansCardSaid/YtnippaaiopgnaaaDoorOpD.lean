/- op.Check: what it answers. -/
import Derived.Test.YtnippaaiopgnaaaDoorOpB
import Derived.Test.YtnippaaiopgnaaaDoorOpC
namespace Go.Proofs.YtnippaaiopgnaaaDoor.O
open Go.RowKit Go.Proofs Go.Joins Go.Proofs.YtnippaaiopgnaaaDoor.U Go.Proofs.YtnippaaiopgnaaaDoor.Txt
set_option linter.unusedVariables false
set_option linter.unusedSimpArgs false
attribute [local go_sem] id_eq

/-- Of an Ins, whose text Check counts n runes and error e of. -/
def insE (n e : Nat) (a total : Int) : Int := if e ≠ 0 then e else if n = 0 then 15 else if 256 < n then 14 else if a < 0 then 12 else if total < a then 12 else if 1048576 < total + n then 24 else 0
/-- Of the ranges of a Hide or Show. -/
def rngE (rs : List (Int × Int)) (total : Int) : Int := if rs = [] then 43 else if spanM rs ≠ 0 then spanM rs else if total < (rs[rs.length - 1]?.getD (0, 0)).2 then 12 else 0

set_option maxRecDepth 100000 in
set_option maxHeartbeats 1000000 in
theorem ranges_any (A : Option Addr) (n m : Nat) (rs : List (Int × Int)) (total : Int) (w : World) (hn : n ≤ 1099511627776) (hR : Ranges w A n rs) : Calls Tryd.prog 35 #[.slice A n m, .int .i64 total] w fun e w' => e = .returned (.int .i64 (rngE rs total)) ∧ Below w.heap.size w w' := by
  have HL := Lib.hid hR.len
  by_cases h0 : n = 0
  · have hnil : rs = [] := List.length_eq_zero_iff.1 (by have := HL.out; omega)
    have HE := Lib.hid (show rngE rs total = 43 by unfold rngE; rw [if_pos hnil])
    clear hnil
    have h1 : (n : Int) = 0 := by omega
    clear h0 hR HL
    go_enter Tryd.func35, Tryd.ntmps35
    go_wp2_with fail
    go_ret
    exact ⟨by rw [HE.out]; rfl, Below.refl _ _⟩
  · have hne : rs ≠ [] := fun h => by have := HL.out; subst h; simp at this; exact h0 this
    have hE : ∀ k, n = k + 1 → rngE rs total = if spanM rs ≠ 0 then spanM rs else if total < (rs[k]?.getD (0, 0)).2 then 12 else 0 := fun k hk => by unfold rngE; rw [if_neg hne, show rs.length - 1 = k by have := HL.out; omega]
    obtain ⟨k, hk⟩ : ∃ k, n = k + 1 := ⟨n - 1, by omega⟩
    have e1 : IntKind.i64.wrap ((n : Int) - 1) = k := by rw [hk]; rw [show ((k + 1 : Nat) : Int) - 1 = k by omega]; exact IntWalk.i64_in _ (by omega)
    have hz : ¬ ((n : Int) = 0) := by omega
    have e2 : k < n := by omega
    have HR := Lib.hid hR
    have HK := Lib.hid hk
    have HE := Lib.hid (hE k hk)
    clear hR h0 hne hk hE
    go_enter Tryd.func35, Tryd.ntmps35
    go_wp2_with fail
    refine (span_all A n m rs _ (by omega) HR.out).mono ?_
    rintro e w1 ⟨⟨i, rfl⟩, hb⟩
    have HB := Lib.hid hb
    clear hb
    have HE2 := Lib.hid HE.out
    clear HE
    generalize spanM rs = s at HE2 ⊢
    by_cases hs : s = 0
    · obtain ⟨b, off, rfl, hc⟩ := HR.out.at_ (by omega)
      have hkl : k < rs.length := by have := HL.out; omega
      have c1 := cell_below HB.out (hc k hkl).2
      have h5 : rs[k]? = some rs[k] := List.getElem?_eq_getElem hkl
      have hE3 : rngE rs total = if total < rs[k].2 then 12 else 0 := by rw [HE2.out, if_neg (by simpa using hs), h5]; rfl
      obtain ⟨hi, hhi⟩ : ∃ hi, rs[k].2 = hi := ⟨_, rfl⟩
      rw [hhi] at c1 hE3
      clear hhi
      have HE3 := Lib.hid hE3
      clear hE3
      clear hc h5 hkl
      by_cases g : total < hi
      · go_wp2_with fail
        go_ret
        exact ⟨by rw [HE3.out, if_pos g]; rfl, HB.out⟩
      · go_wp2_with fail
        go_ret
        exact ⟨by rw [HE3.out, if_neg (by omega)]; rfl, HB.out⟩
    · go_wp2_with fail
      go_ret
      exact ⟨by rw [HE2.out, if_pos hs]; rfl, HB.out⟩
set_option maxRecDepth 100000 in
set_option maxHeartbeats 1000000 in
theorem ins_any (i0 i1 a : Int) (tx : ByteArray) (A : Option Addr) (n m : Nat) (t0 t1 : Int) (on : Bool) (total : Int) (k ps er : Nat) (hck : chk tx.data.toList = (k, ps, er)) (w : World) (ht : 0 ≤ total ∧ total ≤ 1048576) (hs : tx.size ≤ maxLen) (hg : Bars w) : Calls Tryd.prog 34 #[opV i0 i1 1 a tx (.slice A n m) t0 t1 on, .int .i64 total] w fun e w' => e = .returned (.int .i64 (insE k er a total)) ∧ Below w.heap.size w w' := by
  have hco : chkOut tx = .tuple #[.int .i64 k, .int .i64 ps, .int .i64 er] := by unfold chkOut; rw [hck]
  clear hck
  unfold opV
  have HG := Lib.hid hg
  clear hg
  have hb0 := fun o => below_alloc1 w o
  go_enter Tryd.func34, Tryd.ntmps34
  go_wp2_with fail
  refine (check_any tx _ hs (HG.out.below (hb0 _))).mono ?_
  rintro e w1 ⟨rfl, hb⟩
  rw [hco]
  have hc : w1.cell? ⟨w.heap.size, 3, none⟩ = some (.int .i64 a) := cell_below hb (by simp)
  have HB := Lib.hid ((hb0 _).trans (hb.mono (by simp)))
  clear hb hb0
  have hdone : ∀ v : Nat, insE k er a total = v → (Ending.returned (Value.int .i64 (v : Int)) = Ending.returned (Value.int .i64 (insE k er a total))) := fun v h => by rw [h]
  have HD := Lib.hid hdone
  clear hdone
  by_cases h1 : er = 0
  · have g1 : ∀ y : Int, (if er ≠ 0 then (er : Int) else y) = y := fun y => if_neg (by simpa using h1)
    have G1 := Lib.hid g1
    clear g1
    by_cases h2 : k = 0
    · have HE := Lib.hid (show insE k er a total = (15 : Nat) by unfold insE; rw [G1.out, if_pos h2]; rfl)
      go_wp2_with fail
      go_ret
      exact ⟨HD.out _ HE.out, HB.out⟩
    by_cases h3 : 256 < k
    · have HE := Lib.hid (show insE k er a total = (14 : Nat) by unfold insE; rw [G1.out, if_neg h2, if_pos h3]; rfl)
      go_wp2_with fail
      go_ret
      exact ⟨HD.out _ HE.out, HB.out⟩
    by_cases h4 : a < 0
    · have HE := Lib.hid (show insE k er a total = (12 : Nat) by unfold insE; rw [G1.out, if_neg h2, if_neg h3, if_pos h4]; rfl)
      go_wp2_with fail
      go_ret
      exact ⟨HD.out _ HE.out, HB.out⟩
    by_cases h5 : total < a
    · have HE := Lib.hid (show insE k er a total = (12 : Nat) by unfold insE; rw [G1.out, if_neg h2, if_neg h3, if_neg h4, if_pos h5]; rfl)
      go_wp2_with fail
      go_ret
      exact ⟨HD.out _ HE.out, HB.out⟩
    have ew : IntKind.i64.wrap (total + k) = total + k := IntWalk.i64_in _ (by omega)
    by_cases h6 : 1048576 < total + k
    · have HE := Lib.hid (show insE k er a total = (24 : Nat) by unfold insE; rw [G1.out, if_neg h2, if_neg h3, if_neg h4, if_neg h5, if_pos h6]; rfl)
      go_wp2_with fail
      go_ret
      exact ⟨HD.out _ HE.out, HB.out⟩
    · have HE := Lib.hid (show insE k er a total = (0 : Nat) by unfold insE; rw [G1.out, if_neg h2, if_neg h3, if_neg h4, if_neg h5, if_neg h6]; rfl)
      go_wp2_with fail
      go_ret
      exact ⟨HD.out _ HE.out, HB.out⟩
  · have HE := Lib.hid (show insE k er a total = (er : Nat) by unfold insE; rw [if_pos h1])
    go_wp2_with fail
    go_ret
    exact ⟨HD.out _ HE.out, HB.out⟩
end Go.Proofs.YtnippaaiopgnaaaDoor.O
