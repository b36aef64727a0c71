/- The reference's Check, Own and Width. The reference's Check of an operation. -/
import Derived.Test.YtkdhomiieenfnaaGreatDoorLs39
import Derived.Test.YtkdhomiieenfnaaGreatDoorLs43
namespace Go.Proofs.YtkdhomiieenfnaaGreatDoor.K
open Go.RowKit Go.Proofs Go.Proofs.YtkdhomiieenfnaaGreatDoor.U Go.Proofs.YtkdhomiieenfnaaGreatDoor.Txt Go.Proofs.YtkdhomiieenfnaaGreatDoor.O Go.Proofs.YtkdhomiieenfnaaGreatDoor.Rp Go.Proofs.YtkdhomiieenfnaaGreatDoor.Lw
set_option linter.unusedVariables false
set_option linter.unusedSimpArgs false

theorem rchk_any (S : ByteArray) (k ps er : Nat) (hck : chk S.data.toList = (k, ps, er)) (w : World) (hs : S.size ≤ 4398046511104) :
    Calls Tryz.prog 93 #[.string S] w fun e w' => e = .returned (.tuple #[.int .i64 (k : Nat), .int .i64 (ps : Nat), .int .i64 (er : Nat)]) ∧ Below w.heap.size w w' := by
  obtain ⟨rs, t, h⟩ := halves S
  have h1 := chk_halves h
  rw [hck] at h1
  refine (RefCheck_any S rs t w h hs).mono ?_
  rintro e w' ⟨rfl, hb⟩
  rw [← h1.1, ← h1.2.1, ← h1.2.2]
  exact ⟨rfl, hb⟩
/-- An operation's box, in a world behind the call's. -/
structure OB (w W : World) (g : Nat) (xs : Array Value) : Prop where
  below : Below w.heap.size w W
  box : W.heap[g]? = some (.cells xs 47 (0, 0))
theorem OB.step {w W W' : World} {g : Nat} {xs : Array Value} (h : OB w W g xs) (hb : Below W.heap.size W W') : OB w W' g xs :=
  ⟨h.below.trans (hb.mono h.below.size), (hb.block _ (Array.getElem?_eq_some_iff.1 h.box).1).trans h.box⟩
theorem OB.c {w W : World} {g : Nat} {i0 i1 kd a : Int} {tx : ByteArray} {v : Value} {t0 t1 : Int} {on : Bool} (h : OB w W g (opC i0 i1 kd a tx v t0 t1 on)) : W.cell? ⟨g, 0, none⟩ = some (.int .i64 i0) ∧ W.cell? ⟨g, 1, none⟩ = some (.int .i64 i1) ∧ W.cell? ⟨g, 2, none⟩ = some (.int .i64 kd) ∧ W.cell? ⟨g, 3, none⟩ = some (.int .i64 a) ∧ W.cell? ⟨g, 4, none⟩ = some (.string tx) ∧ W.cell? ⟨g, 5, none⟩ = some v ∧ W.cell? ⟨g, 6, none⟩ = some (.int .i64 t0) ∧ W.cell? ⟨g, 7, none⟩ = some (.int .i64 t1) ∧ W.cell? ⟨g, 8, none⟩ = some (.bool on) := by
  refine ⟨?_, ?_, ?_, ?_, ?_, ?_, ?_, ?_, ?_⟩ <;> (rw [Lib.cell_of_heap h.box]; rfl)
set_option maxRecDepth 100000 in
set_option maxHeartbeats 8000000 in
theorem rinsert_any (i0 i1 kd a : Int) (tx : ByteArray) (v : Value) (t0 t1 : Int) (on : Bool) (total : Int) (k ps er : Nat) (hck : chk tx.data.toList = (k, ps, er)) (w : World) (hs : tx.size ≤ 4398046511104) (ht : 0 ≤ total ∧ total ≤ 1048576) (hk : k ≤ 4398046511104) :
    Calls Tryz.prog 86 #[opV i0 i1 kd a tx v t0 t1 on, .int .i64 total] w fun e w' => e = .returned (.int .i64 (insE k er a total)) ∧ Below w.heap.size w w' := by
  have HC := Lib.hid (fun W => rchk_any tx k ps er hck W hs)
  have hy := heap_alloc_new w (.cells (opC i0 i1 kd a tx v t0 t1 on) 47)
  have hB1 := below_alloc1 w (.cells (opC i0 i1 kd a tx v t0 t1 on) 47)
  have HO := Lib.hid (OB.mk hB1 hy)
  obtain ⟨E, hE⟩ : ∃ E, insE k er a total = E := ⟨_, rfl⟩
  have HE := Lib.hid hE
  rw [hE]
  unfold insE at HE
  unfold opC at HO
  unfold opV
  clear hy hB1 hck hE
  go_enter Tryz.func86, Tryz.ntmps86
  go_upto_region 1 with fail
  obtain ⟨w1, hw1⟩ : ∃ w1, w.alloc (.cells #[.int .i64 i0, .int .i64 i1, .int .i64 kd, .int .i64 a, .string tx, v, .int .i64 t0, .int .i64 t1, .bool on] 47) = w1 := ⟨_, rfl⟩
  rw [hw1] at HO ⊢
  obtain ⟨gr, hgr⟩ : ∃ gr, w.heap.size = gr := ⟨_, rfl⟩
  have HO : Hid (OB w w1 gr (opC i0 i1 kd a tx v t0 t1 on)) := Lib.hid (by rw [← hgr]; exact HO.out)
  rw [hgr]
  have y4 := HO.out.c.2.2.2.2.1
  clear hw1 hgr
  go_wp2_with fail
  refine (HC.out w1).mono ?_
  rintro e w2 ⟨rfl, hb2⟩
  have HO2 := Lib.hid (HO.out.step hb2)
  have y3 := HO2.out.c.2.2.2.1
  clear hb2 HC y4 HO
  have HCS : (¬ er = 0) ∨ (er = 0 ∧ k = 0) ∨ (er = 0 ∧ ¬ k = 0 ∧ 256 < k) ∨ (er = 0 ∧ ¬ k = 0 ∧ ¬ 256 < k ∧ a < 0) ∨ (er = 0 ∧ ¬ k = 0 ∧ ¬ 256 < k ∧ ¬ a < 0 ∧ total < a) ∨ (er = 0 ∧ ¬ k = 0 ∧ ¬ 256 < k ∧ ¬ a < 0 ∧ ¬ total < a ∧ 1048576 < total + k) ∨ (er = 0 ∧ ¬ k = 0 ∧ ¬ 256 < k ∧ ¬ a < 0 ∧ ¬ total < a ∧ ¬ 1048576 < total + k) := by omega
  rcases HCS with g1 | ⟨g1, g2⟩ | ⟨g1, g2, g3⟩ | ⟨g1, g2, g3, g4⟩ | ⟨g1, g2, g3, g4, g5⟩ | ⟨g1, g2, g3, g4, g5, g6⟩ | ⟨g1, g2, g3, g4, g5, g6⟩
  · have HEE := Lib.hid (show (er : Int) = E by rw [← HE.out, if_pos g1])
    have b1 : ((er : Int) != 0) = true := by simp; omega
    go_wp2_with fail
    go_ret
    exact ⟨by rw [← HEE.out]; rfl, HO2.out.below⟩
  all_goals subst g1
  · have HEE := Lib.hid (show 15 = E by rw [← HE.out, if_neg (by decide), if_pos g2])
    subst g2
    go_wp2_with fail
    go_ret
    exact ⟨by rw [← HEE.out]; rfl, HO2.out.below⟩
  all_goals have b2 : ((k : Int) == 0) = false := by simp; omega
  · have HEE := Lib.hid (show 14 = E by rw [← HE.out, if_neg (by decide), if_neg g2, if_pos g3])
    have b3 : decide ((256 : Int) < (k : Int)) = true := by simp; omega
    clear g2 g3
    go_wp2_with fail
    go_ret
    exact ⟨by rw [← HEE.out]; rfl, HO2.out.below⟩
  all_goals have b3 : decide ((256 : Int) < (k : Int)) = false := by simp; omega
  · have HEE := Lib.hid (show 12 = E by rw [← HE.out, if_neg (by decide), if_neg g2, if_neg g3, if_pos g4])
    clear g2 g3
    go_wp2_with fail
    go_ret
    exact ⟨by rw [← HEE.out]; rfl, HO2.out.below⟩
  · have HEE := Lib.hid (show 12 = E by rw [← HE.out, if_neg (by decide), if_neg g2, if_neg g3, if_neg g4, if_pos g5])
    clear g2 g3
    go_wp2_with fail
    go_ret
    exact ⟨by rw [← HEE.out]; rfl, HO2.out.below⟩
  · have HEE := Lib.hid (show 24 = E by rw [← HE.out, if_neg (by decide), if_neg g2, if_neg g3, if_neg g4, if_neg g5, if_pos g6])
    have b5 : ¬ a > total := by omega
    clear g2 g3
    go_wp2_with fail
    go_ret
    exact ⟨by rw [← HEE.out]; rfl, HO2.out.below⟩
  · have HEE := Lib.hid (show 0 = E by rw [← HE.out, if_neg (by decide), if_neg g2, if_neg g3, if_neg g4, if_neg g5, if_neg g6])
    clear g2 g3
    go_wp2_with fail
    go_ret
    exact ⟨by rw [← HEE.out]; rfl, HO2.out.below⟩
end Go.Proofs.YtkdhomiieenfnaaGreatDoor.K

namespace Go.Proofs.YtkdhomiieenfnaaGreatDoor.K
open Go.RowKit Go.Proofs Go.Proofs.YtkdhomiieenfnaaGreatDoor.U Go.Proofs.YtkdhomiieenfnaaGreatDoor.Txt Go.Proofs.YtkdhomiieenfnaaGreatDoor.O Go.Proofs.YtkdhomiieenfnaaGreatDoor.Rp Go.Proofs.YtkdhomiieenfnaaGreatDoor.Lw
set_option linter.unusedVariables false
set_option linter.unusedSimpArgs false

theorem chk_le (S : ByteArray) : (chk S.data.toList).1 ≤ S.size := by
  obtain ⟨rs, t, h⟩ := halves S
  have h1 := (chk_halves h).1
  have h2 := h.len
  unfold chkN at h1
  split at h1 <;> simp only at h1 <;> omega
theorem rets {w1 : World} {e : Ending} {x y : Int} (h : x = y) (he : e = .returned (.int .i64 x)) : e = .returned (.int .i64 y) := by rw [he, h]
section
attribute [local go_sem ↓] ldO_fold
set_option maxRecDepth 100000 in
set_option maxHeartbeats 8000000 in
theorem rcheck_any (i0 i1 kd a : Int) (tx : ByteArray) (A : Option Addr) (n m : Nat) (rs : List (Int × Int)) (t0 t1 : Int) (on : Bool) (total : Int) (k ps er : Nat) (hck : chk tx.data.toList = (k, ps, er)) (w : World) (hs : tx.size ≤ 4398046511104) (hn : n ≤ 8796093022208) (hR : Ranges w A n rs) :
    Calls Tryz.prog 47 #[opV i0 i1 kd a tx (.slice A n m) t0 t1 on, .int .i64 total] w fun e w' => e = .returned (.int .i64 (opE i0 i1 kd a tx k er rs t0 t1 on total)) ∧ Below w.heap.size w w' := by
  have hkb : k ≤ 4398046511104 := by
    have h1 := chk_le tx
    rw [hck] at h1
    exact Nat.le_trans h1 hs
  have HR := Lib.hid hR
  have HIN := Lib.hid (fun (ht : 0 ≤ total ∧ total ≤ 1048576) W => rinsert_any i0 i1 kd a tx (.slice A n m) t0 t1 on total k ps er hck W hs ht hkb)
  have HX := Lib.hid (fun (hk : kd = 1 ∨ kd = 2 ∨ kd = 3 ∨ kd = 4) W => rextra_any i0 i1 kd a tx A n m t0 t1 on hk W)
  have HSP := Lib.hid (fun (W : World) (hW : Below w.heap.size w W) => rspan_any A n m rs W hn (hR.below hW))
  have hy := heap_alloc_new w (.cells (opC i0 i1 kd a tx (.slice A n m) t0 t1 on) 47)
  have hB1 := below_alloc1 w (.cells (opC i0 i1 kd a tx (.slice A n m) t0 t1 on) 47)
  have HO := Lib.hid (OB.mk hB1 hy)
  obtain ⟨E, hE⟩ : ∃ E, opE i0 i1 kd a tx k er rs t0 t1 on total = E := ⟨_, rfl⟩
  have HE := Lib.hid hE
  rw [hE]
  unfold opE at HE
  unfold opC at HO
  unfold opV at HIN HX ⊢
  clear hy hB1 hck hE hR hkb
  go_enter Tryz.func47, Tryz.ntmps47
  go_upto_region 1 with fail
  obtain ⟨w1, hw1⟩ : ∃ w1, w.alloc (.cells #[.int .i64 i0, .int .i64 i1, .int .i64 kd, .int .i64 a, .string tx, .slice A n m, .int .i64 t0, .int .i64 t1, .bool on] 47) = w1 := ⟨_, rfl⟩
  rw [hw1] at HO ⊢
  obtain ⟨gr, hgr⟩ : ∃ gr, w.heap.size = gr := ⟨_, rfl⟩
  have HO : Hid (OB w w1 gr (opC i0 i1 kd a tx (.slice A n m) t0 t1 on)) := Lib.hid (by rw [← hgr]; exact HO.out)
  rw [hgr]
  obtain ⟨y0, y1, y2, y3, y4, y5, y6, y7, y8⟩ := HO.out.c
  clear hw1 hgr y3 y4 y5 y6 y7 y8
  by_cases t1' : total < 0
  · have HEE := Lib.hid (show 12 = E by rw [← HE.out, if_pos (.inl t1')])
    go_wp2_with fail
    go_ret
    exact ⟨by rw [← HEE.out]; rfl, HO.out.below⟩
  by_cases t2' : 1048576 < total
  · have HEE := Lib.hid (show 12 = E by rw [← HE.out, if_pos (.inr t2')])
    go_wp2_with fail
    go_ret
    exact ⟨by rw [← HEE.out]; rfl, HO.out.below⟩
  have HE1 := Lib.hid (HE.out.symm.trans (if_neg (fun h => h.elim t1' t2')))
  by_cases k1 : kd < 1
  · have HEE := Lib.hid (show 40 = E by rw [HE1.out, if_pos (.inl k1)])
    clear HE HE1
    go_wp2_with fail
    go_ret
    exact ⟨by rw [← HEE.out]; rfl, HO.out.below⟩
  by_cases k2 : 4 < kd
  · have HEE := Lib.hid (show 40 = E by rw [HE1.out, if_pos (.inr k2)])
    clear HE HE1
    go_wp2_with fail
    go_ret
    exact ⟨by rw [← HEE.out]; rfl, HO.out.below⟩
  have HE2 := Lib.hid (HE1.out.trans (if_neg (fun h => h.elim k1 k2)))
  have hkd : kd = 1 ∨ kd = 2 ∨ kd = 3 ∨ kd = 4 := by omega
  have HKD := Lib.hid hkd
  have HTT := Lib.hid (show 0 ≤ total ∧ total ≤ 1048576 by omega)
  have HID := Lib.hid (isID_any i0 i1 w1)
  obtain ⟨B1, hB1⟩ : ∃ B, idB i0 i1 = B := ⟨_, rfl⟩
  have HB1 := Lib.hid hB1
  rw [hB1] at HID
  clear HE HE1 hkd hB1
  go_wp2_with fail
  refine HID.out.mono ?_
  rintro e w2 ⟨rfl, hb2⟩
  have HO2 := Lib.hid (HO.out.step hb2)
  obtain ⟨y0, y1, _, _, _, _, _, _, _⟩ := HO2.out.c
  have HNI := Lib.hid (none_any i0 i1 w2)
  obtain ⟨B2, hB2⟩ : ∃ B, nilB i0 i1 = B := ⟨_, rfl⟩
  have HB2 := Lib.hid hB2
  rw [hB2] at HNI
  clear hb2 HID HO hB2 t1' t2' k1 k2
  go_wp2_with fail
  refine HNI.out.mono ?_
  rintro e w3 ⟨rfl, hb3⟩
  have HO3 := Lib.hid (HO2.out.step hb3)
  have ld3 := ldO_run HO3.out.box
  clear hb3 HNI HO2 y0 y1
  have hbad : (B1 = false ∧ B2 = false ∧ 41 = E) ∨ ((B1 = true ∨ B1 = false ∧ B2 = true) ∧ E = if extraB kd a tx rs.length t0 t1 on = true then 42 else if kd = 1 then insE k er a total else if kd = 4 then (if idB t0 t1 = false ∨ (t0 = i0 ∧ t1 = i1) then 63 else 0) else rngE rs total) := by
    have h1 := HB1.out
    have h2 := HB2.out
    have h3 := HE2.out
    by_cases hz : i0 = 0 ∧ i1 = 0
    · right
      have : B2 = true := by rw [← h2]; unfold nilB; simp [hz]
      refine ⟨by cases B1 <;> simp [this], h3.trans (if_neg (fun h => h.1 hz))⟩
    · have hz2 : B2 = false := by rw [← h2]; unfold nilB; simp; omega
      cases B1 with
      | false => left; exact ⟨rfl, hz2, by rw [h3, if_pos ⟨hz, h1⟩]⟩
      | true => right; exact ⟨.inl rfl, h3.trans (if_neg (fun h => by rw [h1] at h; exact Bool.noConfusion h.2))⟩
  clear HE2 HB1 HB2
  rcases hbad with ⟨rfl, rfl, hE⟩ | ⟨hB, hE⟩
  · have HEE := Lib.hid hE
    clear hE
    go_wp2_with fail
    go_ret
    exact ⟨by rw [← HEE.out]; rfl, HO3.out.below⟩
  have HE3 := Lib.hid hE
  have HXX := Lib.hid (HX.out HKD.out w3)
  rw [← HR.out.len] at HE3
  obtain ⟨X, hX⟩ : ∃ X, extraB kd a tx n t0 t1 on = X := ⟨_, rfl⟩
  rw [hX] at HXX HE3
  clear hE hX HX
  go_upto_region 8 with fail
  go_cut [40] from 35 to 101 (fun b wx => b = .bool false ∧ w3 = wx)
  case first =>
    rcases hB with rfl | ⟨rfl, rfl⟩
    · go_wp2_with fail
      go_meet
      exact ⟨rfl, rfl⟩
    · go_wp2_with fail
      go_meet
      exact ⟨rfl, rfl⟩
  case rest =>
    obtain ⟨rfl, rfl⟩ := hcut
    clear hB
    go_wp2_with fail
    refine HXX.out.mono ?_
    rintro e w4 ⟨rfl, hb4⟩
    have HO4 := Lib.hid (HO3.out.step hb4)
    clear hb4 HXX HO3 ld3
    cases X with
    | true =>
      have HEE := Lib.hid (show 42 = E by rw [HE3.out, if_pos rfl])
      go_wp2_with fail
      go_ret
      exact ⟨by rw [← HEE.out]; rfl, HO4.out.below⟩
    | false =>
      have HE4 := Lib.hid (HE3.out.trans (if_neg (fun h => Bool.noConfusion h)))
      clear HE3
      rcases HKD.out with rfl | rfl | rfl | rfl
      · have HII := Lib.hid (HIN.out HTT.out w4)
        have HE5 := Lib.hid (HE4.out.trans (if_pos rfl))
        obtain ⟨F, hF⟩ : ∃ F, insE k er a total = F := ⟨_, rfl⟩
        rw [hF] at HII HE5
        have ld4 := ldO_run HO4.out.box
        clear hF HE4 HIN HSP
        go_wp2_with fail
        refine HII.out.mono ?_
        rintro e w5 ⟨rfl, hb5⟩
        have HO5 := Lib.hid (HO4.out.step hb5)
        clear hb5 HII HO4 ld4
        go_wp2_with fail
        go_ret
        exact ⟨by rw [HE5.out]; rfl, HO5.out.below⟩
      · have HE5 := Lib.hid (HE4.out.trans ((if_neg (by decide)).trans (if_neg (by decide))))
        obtain ⟨_, _, _, _, _, y5, _, _, _⟩ := HO4.out.c
        have hln := HR.out.len
        by_cases hn0 : n = 0
        · have HEE := Lib.hid (show 43 = E by rw [HE5.out]; unfold rngE; rw [if_pos (List.length_eq_zero_iff.1 (by omega))])
          have b1 : ((n : Int) == 0) = true := by simp; omega
          clear hln hn0 HE4 HIN HSP
          go_wp2_with fail
          go_ret
          exact ⟨by rw [← HEE.out]; rfl, HO4.out.below⟩
        · have b1 : ((n : Int) == 0) = false := by simp; omega
          have hne : rs ≠ [] := fun e => by rw [e] at hln; exact hn0 hln
          have HE6 := Lib.hid (show E = if spanM rs ≠ 0 then spanM rs else if total < (rs[rs.length - 1]?.getD (0, 0)).2 then 12 else 0 by rw [HE5.out]; unfold rngE; rw [if_neg hne])
          have HSS := Lib.hid (HSP.out w4 HO4.out.below)
          obtain ⟨SE, hSE⟩ : ∃ SE, spanM rs = SE := ⟨_, rfl⟩
          rw [hSE] at HSS HE6
          obtain ⟨g, off, rfl, hc⟩ := HR.out.at_ (by omega)
          have f := (hc (rs.length - 1) (by omega)).2
          rw [List.getElem?_eq_getElem (by omega), Option.getD_some] at HE6
          obtain ⟨q, hq⟩ : ∃ q, (rs[rs.length - 1]'(by omega)).2 = q := ⟨_, rfl⟩
          rw [hq] at f HE6
          obtain ⟨j, rfl⟩ : ∃ j, n = j + 1 := ⟨n - 1, by omega⟩
          rw [← hln, show j + 1 - 1 = j by omega] at f
          have HF := Lib.hid f
          clear hc hq hSE hne HE4 HE5 HIN HSP hln f
          go_wp2_with fail
          refine HSS.out.mono ?_
          rintro e w5 ⟨⟨i, rfl⟩, hb5⟩
          have HO5 := Lib.hid (HO4.out.step hb5)
          obtain ⟨_, _, _, _, _, y5, _, _, _⟩ := HO5.out.c
          have f := U.cell_below HO5.out.below HF.out
          have e1 : IntKind.i64.wrap (j : Int) = j := IntWalk.i64_in _ (by omega)
          have e2 : (j : Int) < (j : Int) + 1 := by omega
          clear hb5 HSS HO4 HF
          by_cases hS : SE = 0
          · subst hS
            by_cases hq : total < q
            · have HEE := Lib.hid (show 12 = E by rw [HE6.out, if_neg (by decide), if_pos hq])
              have b2 : decide (total < q) = true := by simpa using hq
              go_wp2_with fail
              go_ret
              exact ⟨by rw [← HEE.out]; rfl, HO5.out.below⟩
            · have HEE := Lib.hid (show 0 = E by rw [HE6.out, if_neg (by decide), if_neg hq])
              have b2 : decide (total < q) = false := by simpa using hq
              go_wp2_with fail
              go_ret
              exact ⟨by rw [← HEE.out]; rfl, HO5.out.below⟩
          · have HEE := Lib.hid (show SE = E by rw [HE6.out, if_pos hS])
            have b2 : (SE == 0) = false := by simpa using hS
            clear hS f y5 e1 e2
            go_wp2_with fail
            go_ret
            exact ⟨by rw [← HEE.out]; rfl, HO5.out.below⟩
      · have HE5 := Lib.hid (HE4.out.trans ((if_neg (by decide)).trans (if_neg (by decide))))
        obtain ⟨_, _, _, _, _, y5, _, _, _⟩ := HO4.out.c
        have hln := HR.out.len
        by_cases hn0 : n = 0
        · have HEE := Lib.hid (show 43 = E by rw [HE5.out]; unfold rngE; rw [if_pos (List.length_eq_zero_iff.1 (by omega))])
          have b1 : ((n : Int) == 0) = true := by simp; omega
          clear hln hn0 HE4 HIN HSP
          go_wp2_with fail
          go_ret
          exact ⟨by rw [← HEE.out]; rfl, HO4.out.below⟩
        · have b1 : ((n : Int) == 0) = false := by simp; omega
          have hne : rs ≠ [] := fun e => by rw [e] at hln; exact hn0 hln
          have HE6 := Lib.hid (show E = if spanM rs ≠ 0 then spanM rs else if total < (rs[rs.length - 1]?.getD (0, 0)).2 then 12 else 0 by rw [HE5.out]; unfold rngE; rw [if_neg hne])
          have HSS := Lib.hid (HSP.out w4 HO4.out.below)
          obtain ⟨SE, hSE⟩ : ∃ SE, spanM rs = SE := ⟨_, rfl⟩
          rw [hSE] at HSS HE6
          obtain ⟨g, off, rfl, hc⟩ := HR.out.at_ (by omega)
          have f := (hc (rs.length - 1) (by omega)).2
          rw [List.getElem?_eq_getElem (by omega), Option.getD_some] at HE6
          obtain ⟨q, hq⟩ : ∃ q, (rs[rs.length - 1]'(by omega)).2 = q := ⟨_, rfl⟩
          rw [hq] at f HE6
          obtain ⟨j, rfl⟩ : ∃ j, n = j + 1 := ⟨n - 1, by omega⟩
          rw [← hln, show j + 1 - 1 = j by omega] at f
          have HF := Lib.hid f
          clear hc hq hSE hne HE4 HE5 HIN HSP hln f
          go_wp2_with fail
          refine HSS.out.mono ?_
          rintro e w5 ⟨⟨i, rfl⟩, hb5⟩
          have HO5 := Lib.hid (HO4.out.step hb5)
          obtain ⟨_, _, _, _, _, y5, _, _, _⟩ := HO5.out.c
          have f := U.cell_below HO5.out.below HF.out
          have e1 : IntKind.i64.wrap (j : Int) = j := IntWalk.i64_in _ (by omega)
          have e2 : (j : Int) < (j : Int) + 1 := by omega
          clear hb5 HSS HO4 HF
          by_cases hS : SE = 0
          · subst hS
            by_cases hq : total < q
            · have HEE := Lib.hid (show 12 = E by rw [HE6.out, if_neg (by decide), if_pos hq])
              have b2 : decide (total < q) = true := by simpa using hq
              go_wp2_with fail
              go_ret
              exact ⟨by rw [← HEE.out]; rfl, HO5.out.below⟩
            · have HEE := Lib.hid (show 0 = E by rw [HE6.out, if_neg (by decide), if_neg hq])
              have b2 : decide (total < q) = false := by simpa using hq
              go_wp2_with fail
              go_ret
              exact ⟨by rw [← HEE.out]; rfl, HO5.out.below⟩
          · have HEE := Lib.hid (show SE = E by rw [HE6.out, if_pos hS])
            have b2 : (SE == 0) = false := by simpa using hS
            clear hS f y5 e1 e2
            go_wp2_with fail
            go_ret
            exact ⟨by rw [← HEE.out]; rfl, HO5.out.below⟩
      · have HE5 := Lib.hid (HE4.out.trans ((if_neg (by decide)).trans (if_pos rfl)))
        have HIT := Lib.hid (isID_any t0 t1 w4)
        obtain ⟨B, hB⟩ : ∃ B, idB t0 t1 = B := ⟨_, rfl⟩
        rw [hB] at HIT HE5
        obtain ⟨_, _, _, _, _, _, y6, y7, _⟩ := HO4.out.c
        clear hB HE4 HIN HSP
        go_wp2_with fail
        refine HIT.out.mono ?_
        rintro e w5 ⟨rfl, hb5⟩
        have HO5 := Lib.hid (HO4.out.step hb5)
        obtain ⟨y0, y1, _, _, _, _, y6, y7, _⟩ := HO5.out.c
        clear hb5 HIT HO4
        have HC : B = false ∨ (B = true ∧ ¬ t0 = i0) ∨ (B = true ∧ t0 = i0 ∧ ¬ t1 = i1) ∨ (B = true ∧ t0 = i0 ∧ t1 = i1) := by
          cases B with
          | false => exact .inl rfl
          | true => right; by_cases h1 : t0 = i0 <;> by_cases h2 : t1 = i1 <;> simp [h1, h2]
        rcases HC with rfl | ⟨rfl, h1⟩ | ⟨rfl, h1, h2⟩ | ⟨rfl, h1, h2⟩
        · have HEE := Lib.hid (show 63 = E by rw [HE5.out, if_pos (.inl rfl)])
          go_wp2_with fail
          go_ret
          exact ⟨by rw [← HEE.out]; rfl, HO5.out.below⟩
        · have HEE := Lib.hid (show 0 = E by rw [HE5.out, if_neg (by rintro (h | ⟨h, _⟩); exact Bool.noConfusion h; exact h1 h)])
          have b1 : (t0 == i0) = false := by simpa using h1
          clear h1
          go_wp2_with fail
          go_ret
          exact ⟨by rw [← HEE.out]; rfl, HO5.out.below⟩
        · have HEE := Lib.hid (show 0 = E by rw [HE5.out, if_neg (by rintro (h | ⟨_, h⟩); exact Bool.noConfusion h; exact h2 h)])
          have b1 : (t0 == i0) = true := by simpa using h1
          have b2 : (t1 == i1) = false := by simpa using h2
          clear h1 h2
          go_wp2_with fail
          go_ret
          exact ⟨by rw [← HEE.out]; rfl, HO5.out.below⟩
        · have HEE := Lib.hid (show 63 = E by rw [HE5.out, if_pos (.inr ⟨h1, h2⟩)])
          have b1 : (t0 == i0) = true := by simpa using h1
          have b2 : (t1 == i1) = true := by simpa using h2
          clear h1 h2
          go_wp2_with fail
          go_ret
          exact ⟨by rw [← HEE.out]; rfl, HO5.out.below⟩
end
end Go.Proofs.YtkdhomiieenfnaaGreatDoor.K
