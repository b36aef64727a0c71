/- The reference's Own, Width, Same and Equal. The reference's Equal. A step of a script: its cells, its box. asks at Check and Width. -/
import Derived.Test.YtkdhomiieenfnaaGreatDoorLs44
import Derived.Test.YtkdhomiieenfnaaGreatDoorLs42
import Derived.Test.YtkdhomiieenfnaaGreatDoorLwRefP
namespace Go.Proofs.YtkdhomiieenfnaaGreatDoor.K
open Go.RowKit Go.Proofs Go.Proofs.YtkdhomiieenfnaaGreatDoor.U Go.Proofs.YtkdhomiieenfnaaGreatDoor.Txt Go.Proofs.YtkdhomiieenfnaaGreatDoor.O Go.Proofs.YtkdhomiieenfnaaGreatDoor.Rp Go.Proofs.YtkdhomiieenfnaaGreatDoor.Lw
set_option linter.unusedVariables false
set_option linter.unusedSimpArgs false

section
attribute [local go_sem ↓] ldO_fold
set_option maxRecDepth 100000 in
set_option maxHeartbeats 8000000 in
theorem rown_any (i0 i1 kd a : Int) (tx : ByteArray) (A : Option Addr) (n m : Nat) (rs : List (Int × Int)) (t0 t1 : Int) (on : Bool) (k ps er : Nat) (hck : chk tx.data.toList = (k, ps, er)) (w : World) (hs : tx.size ≤ 4398046511104) (hn : n ≤ 8796093022208) (hR : Ranges w A n rs) :
    Calls Tryz.prog 94 #[opV i0 i1 kd a tx (.slice A n m) t0 t1 on] w fun e w' => e = .returned (.int .i64 (ownE i0 i1 kd a tx k er rs t0 t1 on)) ∧ Below w.heap.size w w' := by
  have HC := Lib.hid (fun (total : Int) (W : World) (hW : Below w.heap.size w W) => rcheck_any i0 i1 kd a tx A n m rs t0 t1 on total k ps er hck W hs hn (hR.below hW))
  have hy := heap_alloc_new w (.cells (opC i0 i1 kd a tx (.slice A n m) t0 t1 on) 47)
  have hB1 := below_alloc1 w (.cells (opC i0 i1 kd a tx (.slice A n m) t0 t1 on) 47)
  have HO := Lib.hid (OB.mk hB1 hy)
  unfold opC at HO
  unfold opV at HC ⊢
  unfold ownE
  obtain ⟨T, hT⟩ : ∃ T, ownT kd a = T := ⟨_, rfl⟩
  rw [hT]
  have HT := Lib.hid hT
  clear hy hB1 hck hR hT
  go_enter Tryz.func94, Tryz.ntmps94
  go_upto_region 1 with fail
  obtain ⟨w1, hw1⟩ : ∃ w1, w.alloc (.cells #[.int .i64 i0, .int .i64 i1, .int .i64 kd, .int .i64 a, .string tx, .slice A n m, .int .i64 t0, .int .i64 t1, .bool on] 47) = w1 := ⟨_, rfl⟩
  rw [hw1] at HO ⊢
  obtain ⟨gr, hgr⟩ : ∃ gr, w.heap.size = gr := ⟨_, rfl⟩
  have HO : Hid (OB w w1 gr (opC i0 i1 kd a tx (.slice A n m) t0 t1 on)) := Lib.hid (by rw [← hgr]; exact HO.out)
  rw [hgr]
  obtain ⟨_, _, y2, y3, _, _, _, _, _⟩ := HO.out.c
  have ld := ldO_run HO.out.box
  clear hw1 hgr
  have HCS : ¬ kd = 1 ∨ (kd = 1 ∧ a < 0) ∨ (kd = 1 ∧ ¬ a < 0 ∧ 1048576 < a) ∨ (kd = 1 ∧ ¬ a < 0 ∧ ¬ 1048576 < a) := by omega
  rcases HCS with g | ⟨g, g2⟩ | ⟨g, g2, g3⟩ | ⟨g, g2, g3⟩
  · obtain rfl : T = 1048576 := by rw [← HT.out]; unfold ownT; exact if_neg (by omega)
    have b1 : (kd == 1) = false := by simpa using g
    clear g HT
    go_wp2_with fail
    refine (HC.out _ w1 HO.out.below).mono ?_
    rintro e w2 ⟨rfl, hb2⟩
    have HO2 := Lib.hid (HO.out.step hb2)
    clear hb2
    go_wp2_with fail
    go_ret
    exact ⟨rfl, HO2.out.below⟩
  all_goals subst g
  · obtain rfl : T = 1048576 := by rw [← HT.out]; unfold ownT; exact if_neg (by omega)
    have b1 : ¬ 0 ≤ a := by omega
    clear HT
    go_wp2_with fail
    refine (HC.out _ w1 HO.out.below).mono ?_
    rintro e w2 ⟨rfl, hb2⟩
    have HO2 := Lib.hid (HO.out.step hb2)
    clear hb2
    go_wp2_with fail
    go_ret
    exact ⟨rfl, HO2.out.below⟩
  · obtain rfl : T = 1048576 := by rw [← HT.out]; unfold ownT; exact if_neg (by omega)
    have b1 : 0 ≤ a := by omega
    have b2 : ¬ a ≤ 1048576 := by omega
    clear HT
    go_wp2_with fail
    refine (HC.out _ w1 HO.out.below).mono ?_
    rintro e w2 ⟨rfl, hb2⟩
    have HO2 := Lib.hid (HO.out.step hb2)
    clear hb2
    go_wp2_with fail
    go_ret
    exact ⟨rfl, HO2.out.below⟩
  · have b1 : 0 ≤ a := by omega
    have b2 : a ≤ 1048576 := by omega
    obtain rfl : T = a := by rw [← HT.out]; unfold ownT; exact if_pos (by omega)
    clear HT
    go_wp2_with fail
    refine (HC.out _ w1 HO.out.below).mono ?_
    rintro e w2 ⟨rfl, hb2⟩
    have HO2 := Lib.hid (HO.out.step hb2)
    clear hb2
    go_wp2_with fail
    go_ret
    exact ⟨rfl, HO2.out.below⟩
set_option maxRecDepth 100000 in
set_option maxHeartbeats 8000000 in
theorem rwidth_any (i0 i1 kd a : Int) (tx : ByteArray) (v : Value) (t0 t1 : Int) (on : Bool) (k ps er : Nat) (hck : chk tx.data.toList = (k, ps, er)) (w : World) (hs : tx.size ≤ 4398046511104) :
    Calls Tryz.prog 56 #[opV i0 i1 kd a tx v t0 t1 on] w fun e w' => e = .returned (.int .i64 (if kd = 1 then (if er = 0 then (k : Int) else 0) else 0)) ∧ Below w.heap.size w w' := by
  have HC := Lib.hid (fun W => rchk_any tx k ps er hck W hs)
  have hy := heap_alloc_new w (.cells (opC i0 i1 kd a tx v t0 t1 on) 47)
  have hB1 := below_alloc1 w (.cells (opC i0 i1 kd a tx v t0 t1 on) 47)
  have HO := Lib.hid (OB.mk hB1 hy)
  unfold opC at HO
  unfold opV
  clear hy hB1 hck
  obtain ⟨E, hE⟩ : ∃ E, (if kd = 1 then (if er = 0 then (k : Int) else 0) else 0) = E := ⟨_, rfl⟩
  have HE := Lib.hid hE
  rw [hE]
  clear hE
  go_enter Tryz.func56, Tryz.ntmps56
  go_upto_region 1 with fail
  obtain ⟨w1, hw1⟩ : ∃ w1, w.alloc (.cells #[.int .i64 i0, .int .i64 i1, .int .i64 kd, .int .i64 a, .string tx, v, .int .i64 t0, .int .i64 t1, .bool on] 47) = w1 := ⟨_, rfl⟩
  rw [hw1] at HO ⊢
  obtain ⟨gr, hgr⟩ : ∃ gr, w.heap.size = gr := ⟨_, rfl⟩
  have HO : Hid (OB w w1 gr (opC i0 i1 kd a tx v t0 t1 on)) := Lib.hid (by rw [← hgr]; exact HO.out)
  rw [hgr]
  obtain ⟨_, _, y2, _, y4, _, _, _, _⟩ := HO.out.c
  clear hw1 hgr
  by_cases g : kd = 1
  · subst g
    have HE1 := Lib.hid ((if_pos rfl).symm.trans HE.out)
    go_wp2_with fail
    refine (HC.out w1).mono ?_
    rintro e w2 ⟨rfl, hb2⟩
    have HO2 := Lib.hid (HO.out.step hb2)
    clear hb2 y2 y4
    by_cases g2 : er = 0
    · have HEE := Lib.hid ((if_pos g2).symm.trans HE1.out)
      have b1 : ((er : Int) != 0) = false := by simp; omega
      go_wp2_with fail
      go_ret
      exact ⟨by rw [← HEE.out]; rfl, HO2.out.below⟩
    · have HEE := Lib.hid ((if_neg g2).symm.trans HE1.out)
      have b1 : ((er : Int) != 0) = true := by simp; omega
      go_wp2_with fail
      go_ret
      exact ⟨by rw [← HEE.out]; rfl, HO2.out.below⟩
  · have HEE := Lib.hid ((if_neg g).symm.trans HE.out)
    have b1 : (kd != 1) = true := by simpa using g
    clear g
    go_wp2_with fail
    go_ret
    exact ⟨by rw [← HEE.out]; rfl, HO.out.below⟩
end
theorem take_eq_step {a b : List (Int × Int)} {k : Nat} (h : a.take k = b.take k) (ha : k < a.length) (hb : k < b.length) (he : a[k] = b[k]) : a.take (k + 1) = b.take (k + 1) := by
  rw [List.take_succ_eq_append_getElem ha, List.take_succ_eq_append_getElem hb, h, he]
def SameRes (b : Bool) (w : World) (e : Ending) (w' : World) : Prop := e = .returned (.bool b) ∧ Below w.heap.size w w'
set_option maxRecDepth 100000 in
set_option maxHeartbeats 8000000 in
theorem rsame_any (A B : Option Addr) (n c m c' : Nat) (xs ys : List (Int × Int)) (w : World) (hn : n ≤ 8796093022208) (h1 : Ranges w A n xs) (h2 : Ranges w B m ys) :
    Calls Tryz.prog 59 #[.slice A n c, .slice B m c'] w (SameRes (decide (xs = ys)) w) := by
  have H1 := Lib.hid h1
  have H2 := Lib.hid h2
  have HL1 := Lib.hid h1.len
  have HL2 := Lib.hid h2.len
  clear h1 h2
  obtain ⟨D, hD⟩ : ∃ D, decide (xs = ys) = D := ⟨_, rfl⟩
  have HD := Lib.hid hD
  rw [hD]
  clear hD
  by_cases hnm : n = m
  · subst hnm
    have b1 : ((n : Int) != (n : Int)) = false := by simp
    go_enter Tryz.func59, Tryz.ntmps59
    go_wp2_with fail
    clear b1
    go_loopw [5] (fun i wr => ∃ k : Nat, k ≤ n ∧ i = .int .i64 k ∧ xs.take k = ys.take k ∧ Below w.heap.size w wr) (fun i _ => n - (intOf i).toNat)
    case atStart => exact ⟨0, Nat.zero_le _, rfl, rfl, Below.refl _ _⟩
    case round =>
      obtain ⟨k, hk, rfl, hsm, hb⟩ := hrel
      have HSM := Lib.hid hsm
      have HB := Lib.hid hb
      clear hsm hb
      by_cases hlt : k < n
      · have k1 : k < xs.length := by have := HL1.out; omega
        have k2 : k < ys.length := by have := HL2.out; omega
        obtain ⟨g1, o1, rfl, hc1⟩ := H1.out.at_ (by omega)
        obtain ⟨g2, o2, rfl, hc2⟩ := H2.out.at_ (by omega)
        have e1 := hc1 k k1
        have e2 := hc2 k k2
        have HNX := Lib.hid (fun he => take_eq_step HSM.out k1 k2 he)
        have HNE := Lib.hid (fun (he : ¬ xs[k] = ys[k]) => (show ¬ xs = ys from fun h => he (by subst h; rfl)))
        obtain ⟨⟨a1, a2⟩, ha⟩ : ∃ x, xs[k] = x := ⟨_, rfl⟩
        obtain ⟨⟨b1, b2⟩, hb⟩ : ∃ x, ys[k] = x := ⟨_, rfl⟩
        rw [ha] at e1 HNX HNE
        rw [hb] at e2 HNX HNE
        simp only at e1 e2
        have f1 := U.cell_below HB.out e1.1
        have f2 := U.cell_below HB.out e1.2
        have f3 := U.cell_below HB.out e2.1
        have f4 := U.cell_below HB.out e2.2
        have z1 : (k : Int) < (n : Int) := by omega
        have z2 : (0 : Int) ≤ (k : Int) := by omega
        clear hc1 hc2 e1 e2 ha hb
        go_upto_region 6 with fail
        by_cases q1 : a1 = b1
        · subst q1
          by_cases q2 : a2 = b2
          · subst q2
            have HN := Lib.hid (HNX.out rfl)
            clear HNX HNE
            go_quiet (fail)
            go_wp2_with fail
            go_roundw
            case rel => exact ⟨k + 1, by omega, by go_num, HN.out, below_drewN HB.out _⟩
            case measure => simp [intOf]; omega
          · have HN := Lib.hid (HNE.out (fun h => q2 (Prod.mk.inj h).2))
            have b1' : (a2 != b2) = true := by simpa using q2
            clear HNX HNE q2
            go_quiet (fail)
            go_wp2_with fail
            go_ret
            exact ⟨by rw [← HD.out, decide_eq_false HN.out]; rfl, below_drewN HB.out _⟩
        · have HN := Lib.hid (HNE.out (fun h => q1 (Prod.mk.inj h).1))
          have b1' : (a1 != b1) = true := by simpa using q1
          clear HNX HNE q1
          go_quiet (fail)
          go_wp2_with fail
          go_ret
          exact ⟨by rw [← HD.out, decide_eq_false HN.out]; rfl, below_drewN HB.out _⟩
      · obtain rfl : k = n := by omega
        have HN := Lib.hid (show xs = ys by
          have h := HSM.out
          rwa [List.take_of_length_le (by have := HL1.out; omega), List.take_of_length_le (by have := HL2.out; omega)] at h)
        go_wp2_with fail
        go_ret
        exact ⟨by rw [← HD.out, decide_eq_true HN.out]; rfl, HB.out⟩
  · have HN := Lib.hid (show ¬ xs = ys from fun h => hnm (by rw [HL1.out, HL2.out, h]))
    have b1 : ((n : Int) != (m : Int)) = true := by simp; omega
    clear hnm
    go_enter Tryz.func59, Tryz.ntmps59
    go_wp2_with fail
    go_ret
    exact ⟨by rw [← HD.out, decide_eq_false HN.out]; rfl, Below.refl _ _⟩
end Go.Proofs.YtkdhomiieenfnaaGreatDoor.K

namespace Go.Proofs.YtkdhomiieenfnaaGreatDoor.K
open Go.RowKit Go.Proofs Go.Proofs.YtkdhomiieenfnaaGreatDoor.U Go.Proofs.YtkdhomiieenfnaaGreatDoor.Txt Go.Proofs.YtkdhomiieenfnaaGreatDoor.O Go.Proofs.YtkdhomiieenfnaaGreatDoor.Rp Go.Proofs.YtkdhomiieenfnaaGreatDoor.Lw
set_option linter.unusedVariables false
set_option linter.unusedSimpArgs false

/-- Two operations' boxes. -/
structure OB2 (w W : World) (g : Nat) (xs ys : Array Value) : Prop where
  below : Below w.heap.size w W
  b1 : W.heap[g]? = some (.cells xs 47 (0, 0))
  b2 : W.heap[g + 1]? = some (.cells ys 47 (0, 0))
theorem OB2.new (w : World) (xs ys : Array Value) : OB2 w ((w.alloc (.cells xs 47)).alloc (.cells ys 47)) w.heap.size xs ys :=
  ⟨((Below.refl _ _).alloc (Nat.le_refl _) _).alloc (by simp) _, two_fst w _ _, Lw.two_new2 w _ _⟩
theorem OB2.step {w W W' : World} {g : Nat} {xs ys : Array Value} (h : OB2 w W g xs ys) (hb : Below W.heap.size W W') : OB2 w W' g xs ys :=
  ⟨h.below.trans (hb.mono h.below.size), (hb.block _ (Array.getElem?_eq_some_iff.1 h.b1).1).trans h.b1, (hb.block _ (Array.getElem?_eq_some_iff.1 h.b2).1).trans h.b2⟩
set_option maxRecDepth 100000 in
set_option maxHeartbeats 8000000 in
theorem requal_any (L M : OpL) (A A' : Option Addr) (c c' : Nat) (w : World) (hn : L.rs.length ≤ 8796093022208) (h1 : Ranges w A L.rs.length L.rs) (h2 : Ranges w A' M.rs.length M.rs) :
    Calls Tryz.prog 23 #[L.val A c, M.val A' c'] w (SameRes (decide (L = M)) w) := by
  obtain ⟨i0, i1, kd, a, tx, rs, t0, t1, on⟩ := L
  obtain ⟨j0, j1, kd', a', tx', rs', t0', t1', on'⟩ := M
  unfold OpL.val opV
  simp only at hn h1 h2 ⊢
  have HSA := Lib.hid (fun (W : World) (hW : Below w.heap.size w W) => rsame_any A A' rs.length c rs'.length c' rs rs' W hn (h1.below hW) (h2.below hW))
  have HO := Lib.hid (OB2.new w (opC i0 i1 kd a ⟨tx.toArray⟩ (.slice A rs.length c) t0 t1 on) (opC j0 j1 kd' a' ⟨tx'.toArray⟩ (.slice A' rs'.length c') t0' t1' on'))
  unfold opC at HO
  obtain ⟨D, hD⟩ : ∃ D, decide ((⟨i0, i1, kd, a, tx, rs, t0, t1, on⟩ : OpL) = ⟨j0, j1, kd', a', tx', rs', t0', t1', on'⟩) = D := ⟨_, rfl⟩
  have HD := Lib.hid hD
  rw [hD]
  obtain ⟨n, hn'⟩ : ∃ n, rs.length = n := ⟨_, rfl⟩
  obtain ⟨n', hn''⟩ : ∃ n, rs'.length = n := ⟨_, rfl⟩
  rw [hn', hn''] at HO HSA ⊢
  obtain ⟨S, hS⟩ : ∃ S : ByteArray, (⟨tx.toArray⟩ : ByteArray) = S := ⟨_, rfl⟩
  obtain ⟨S', hS'⟩ : ∃ S : ByteArray, (⟨tx'.toArray⟩ : ByteArray) = S := ⟨_, rfl⟩
  have HTE := Lib.hid (fun (h : ¬ tx = tx') => ne_str h)
  have HTS := Lib.hid (fun (h : tx = tx') => (show S = S' by rw [← hS, ← hS', h]))
  rw [hS, hS'] at HTE
  rw [hS, hS'] at HO ⊢
  clear hD h1 h2 hn hn' hn'' hS hS'
  go_enter Tryz.func23, Tryz.ntmps23
  go_upto_region 1 with fail
  obtain ⟨w1, hw1⟩ : ∃ w1, (w.alloc (.cells #[.int .i64 i0, .int .i64 i1, .int .i64 kd, .int .i64 a, .string S, .slice A n c, .int .i64 t0, .int .i64 t1, .bool on] 47)).alloc (.cells #[.int .i64 j0, .int .i64 j1, .int .i64 kd', .int .i64 a', .string S', .slice A' n' c', .int .i64 t0', .int .i64 t1', .bool on'] 47) = w1 := ⟨_, rfl⟩
  rw [hw1] at HO ⊢
  obtain ⟨gr, hgr⟩ : ∃ gr, w.heap.size = gr := ⟨_, rfl⟩
  have HO : Hid (OB2 w w1 gr (opC i0 i1 kd a S (.slice A n c) t0 t1 on) (opC j0 j1 kd' a' S' (.slice A' n' c') t0' t1' on')) := Lib.hid (by rw [← hgr]; exact HO.out)
  rw [hgr]
  have x5 := (OB.mk HO.out.below HO.out.b1).c.2.2.2.2.2.1
  have y5 := (OB.mk HO.out.below HO.out.b2).c.2.2.2.2.2.1
  clear hw1 hgr
  go_wp2_with fail
  refine (HSA.out w1 HO.out.below).mono ?_
  rintro e w2 ⟨rfl, hb2⟩
  have HO2 := Lib.hid (HO.out.step hb2)
  obtain ⟨x0, x1, x2, x3, x4, x5, x6, x7, x8⟩ := (OB.mk HO2.out.below HO2.out.b1).c
  obtain ⟨y0, y1, y2, y3, y4, y5, y6, y7, y8⟩ := (OB.mk HO2.out.below HO2.out.b2).c
  clear hb2 HSA HO
  go_upto_region 2 with fail
  simp only [List.append_eq, List.cons_append, List.nil_append]
  have HC : ¬ rs = rs' ∨ (rs = rs' ∧ (¬ i0 = j0 ∨ (i0 = j0 ∧ (¬ i1 = j1 ∨ (i1 = j1 ∧ (¬ kd = kd' ∨ (kd = kd' ∧ (¬ a = a' ∨ (a = a' ∧ (¬ tx = tx' ∨ (tx = tx' ∧ (¬ t0 = t0' ∨ (t0 = t0' ∧ (¬ t1 = t1' ∨ (t1 = t1' ∧ (¬ on = on' ∨ on = on')))))))))))))))) := by
    by_cases g1 : rs = rs'
    · refine .inr ⟨g1, ?_⟩
      by_cases g2 : i0 = j0
      · refine .inr ⟨g2, ?_⟩
        by_cases g3 : i1 = j1
        · refine .inr ⟨g3, ?_⟩
          by_cases g4 : kd = kd'
          · refine .inr ⟨g4, ?_⟩
            by_cases g5 : a = a'
            · refine .inr ⟨g5, ?_⟩
              by_cases g6 : tx = tx'
              · refine .inr ⟨g6, ?_⟩
                by_cases g7 : t0 = t0'
                · refine .inr ⟨g7, ?_⟩
                  by_cases g8 : t1 = t1'
                  · refine .inr ⟨g8, ?_⟩
                    by_cases g9 : on = on'
                    · exact .inr g9
                    · exact .inl g9
                  · exact .inl g8
                · exact .inl g7
              · exact .inl g6
            · exact .inl g5
          · exact .inl g4
        · exact .inl g3
      · exact .inl g2
    · exact .inl g1
  rcases HC with hne | ⟨heq, HC⟩
  · have HN := Lib.hid (show D = false by rw [← HD.out]; exact decide_eq_false (fun h => hne (by injection h)))
    have b1 : decide (rs = rs') = false := by simpa using hne
    rw [b1]
    clear hne HD HTE HTS
    go_wp2_with fail
    go_ret
    exact ⟨by rw [HN.out]; rfl, HO2.out.below⟩
  · obtain rfl := heq
    rw [decide_eq_true (rfl : rs = rs)]
    rcases HC with hne | ⟨heq, HC⟩
    · have HN := Lib.hid (show D = false by rw [← HD.out]; exact decide_eq_false (fun h => hne (by injection h)))
      have b1 : (i0 == j0) = false := by simpa using hne
      clear hne HD HTE HTS
      go_wp2_with fail
      go_ret
      exact ⟨by rw [HN.out]; rfl, HO2.out.below⟩
    · obtain rfl := heq
      rcases HC with hne | ⟨heq, HC⟩
      · have HN := Lib.hid (show D = false by rw [← HD.out]; exact decide_eq_false (fun h => hne (by injection h)))
        have b1 : (i1 == j1) = false := by simpa using hne
        clear hne HD HTE HTS
        go_wp2_with fail
        go_ret
        exact ⟨by rw [HN.out]; rfl, HO2.out.below⟩
      · obtain rfl := heq
        rcases HC with hne | ⟨heq, HC⟩
        · have HN := Lib.hid (show D = false by rw [← HD.out]; exact decide_eq_false (fun h => hne (by injection h)))
          have b1 : (kd == kd') = false := by simpa using hne
          clear hne HD HTE HTS
          go_wp2_with fail
          go_ret
          exact ⟨by rw [HN.out]; rfl, HO2.out.below⟩
        · obtain rfl := heq
          rcases HC with hne | ⟨heq, HC⟩
          · have HN := Lib.hid (show D = false by rw [← HD.out]; exact decide_eq_false (fun h => hne (by injection h)))
            have b1 : (a == a') = false := by simpa using hne
            clear hne HD HTE HTS
            go_wp2_with fail
            go_ret
            exact ⟨by rw [HN.out]; rfl, HO2.out.below⟩
          · obtain rfl := heq
            rcases HC with hne | ⟨heq, HC⟩
            · have HN := Lib.hid (show D = false by rw [← HD.out]; exact decide_eq_false (fun h => hne (by injection h)))
              have b1 := HTE.out hne
              clear hne HD HTE HTS
              go_wp2_with fail
              go_ret
              exact ⟨by rw [HN.out]; rfl, HO2.out.below⟩
            · have hSS := HTS.out heq
              obtain rfl := heq
              obtain rfl := hSS
              clear HTE HTS
              rcases HC with hne | ⟨heq, HC⟩
              · have HN := Lib.hid (show D = false by rw [← HD.out]; exact decide_eq_false (fun h => hne (by injection h)))
                have b1 : (t0 == t0') = false := by simpa using hne
                clear hne HD
                go_wp2_with fail
                go_ret
                exact ⟨by rw [HN.out]; rfl, HO2.out.below⟩
              · obtain rfl := heq
                rcases HC with hne | ⟨heq, HC⟩
                · have HN := Lib.hid (show D = false by rw [← HD.out]; exact decide_eq_false (fun h => hne (by injection h)))
                  have b1 : (t1 == t1') = false := by simpa using hne
                  clear hne HD
                  go_wp2_with fail
                  go_ret
                  exact ⟨by rw [HN.out]; rfl, HO2.out.below⟩
                · obtain rfl := heq
                  rcases HC with hne | heq
                  · have HN := Lib.hid (show D = false by rw [← HD.out]; exact decide_eq_false (fun h => hne (by injection h)))
                    have b1 : (on == on') = false := by simpa using hne
                    clear hne HD
                    go_wp2_with fail
                    go_ret
                    exact ⟨by rw [HN.out]; rfl, HO2.out.below⟩
                  · obtain rfl := heq
                    have HN := Lib.hid (show D = true by rw [← HD.out]; exact decide_eq_true rfl)
                    clear HD
                    go_wp2_with fail
                    go_ret
                    exact ⟨by rw [HN.out]; first | rfl | simp, HO2.out.below⟩
end Go.Proofs.YtkdhomiieenfnaaGreatDoor.K

namespace Go.Proofs.YtkdhomiieenfnaaGreatDoor.K
open Go.RowKit Go.Proofs Go.Proofs.YtkdhomiieenfnaaGreatDoor.U Go.Proofs.YtkdhomiieenfnaaGreatDoor.Txt Go.Proofs.YtkdhomiieenfnaaGreatDoor.O Go.Proofs.YtkdhomiieenfnaaGreatDoor.Rp Go.Proofs.YtkdhomiieenfnaaGreatDoor.Lw
set_option linter.unusedVariables false
set_option linter.unusedSimpArgs false

/-- A step: its kind, two operations and where their ranges lie, a total, a line. -/
structure StepV where
  kind : Int
  o : OpL
  oA : Option Addr
  oc : Nat
  p : OpL
  pA : Option Addr
  pc : Nat
  total : Int
  line : ByteArray
def StepV.cells (s : StepV) : Array Value := #[.int .i64 s.kind, .int .i64 s.o.i0, .int .i64 s.o.i1, .int .i64 s.o.kd, .int .i64 s.o.a, .string ⟨s.o.tx.toArray⟩, .slice s.oA s.o.rs.length s.oc, .int .i64 s.o.t0, .int .i64 s.o.t1, .bool s.o.on,
  .int .i64 s.p.i0, .int .i64 s.p.i1, .int .i64 s.p.kd, .int .i64 s.p.a, .string ⟨s.p.tx.toArray⟩, .slice s.pA s.p.rs.length s.pc, .int .i64 s.p.t0, .int .i64 s.p.t1, .bool s.p.on, .int .i64 s.total, .string s.line]
structure StepV.Ok (s : StepV) (w : World) : Prop where
  ro : Ranges w s.oA s.o.rs.length s.o.rs
  rp : Ranges w s.pA s.p.rs.length s.p.rs
  no : s.o.rs.length ≤ 1048576
  np : s.p.rs.length ≤ 1048576
  so : s.o.tx.length ≤ 1048576
  sp : s.p.tx.length ≤ 1048576
  li : s.line.size ≤ 1048576
theorem StepV.Ok.below {s : StepV} {w w' : World} (h : s.Ok w) (hb : Below w.heap.size w w') : s.Ok w' := ⟨h.ro.below hb, h.rp.below hb, h.no, h.np, h.so, h.sp, h.li⟩
/-- The two boxes of asks. -/
structure SB (w W : World) (g : Nat) (xs ys : Array Value) : Prop where
  below : Below w.heap.size w W
  b1 : W.heap[g]? = some (.cells xs 57 (0, 0))
  b2 : W.heap[g + 1]? = some (.cells ys 47 (0, 0))
theorem SB.new (w : World) (xs ys : Array Value) : SB w ((w.alloc (.cells xs 57)).alloc (.cells ys 47)) w.heap.size xs ys :=
  ⟨((Below.refl _ _).alloc (Nat.le_refl _) _).alloc (by simp) _, two_fst w _ _, Lw.two_new2 w _ _⟩
theorem SB.step {w W W' : World} {g : Nat} {xs ys : Array Value} (h : SB w W g xs ys) (hb : Below W.heap.size W W') : SB w W' g xs ys :=
  ⟨h.below.trans (hb.mono h.below.size), (hb.block _ (Array.getElem?_eq_some_iff.1 h.b1).1).trans h.b1, (hb.block _ (Array.getElem?_eq_some_iff.1 h.b2).1).trans h.b2⟩
theorem SB.cell {w W : World} {g : Nat} {xs ys : Array Value} (h : SB w W g xs ys) {i : Nat} {v : Value} (hv : xs[i]? = some v) : W.cell? ⟨g, i, none⟩ = some v := by rw [Lib.cell_of_heap h.b1, hv]
/-- The loads of asks: the copied operation, the step's two. -/
theorem SB.ldc {w W : World} {g : Nat} {xs : Array Value} {i0 i1 kd a : Int} {tx : ByteArray} {v : Value} {t0 t1 : Int} {on : Bool} (h : SB w W g xs (opC i0 i1 kd a tx v t0 t1 on)) :
    (ldO (.pointer (some ⟨g + 1, 0, none⟩))).run Tryz.prog W = .ok (.agg #[.int .i64 i0, .int .i64 i1, .int .i64 kd, .int .i64 a, .string tx, v, .int .i64 t0, .int .i64 t1, .bool on]) W := ldO_run h.b2
theorem SB.ldo {w W : World} {g : Nat} {s : StepV} {ys : Array Value} (h : SB w W g s.cells ys) :
    (ldO (.pointer (some ⟨g, 1, none⟩))).run Tryz.prog W = .ok (.agg #[.int .i64 s.o.i0, .int .i64 s.o.i1, .int .i64 s.o.kd, .int .i64 s.o.a, .string ⟨s.o.tx.toArray⟩, .slice s.oA s.o.rs.length s.oc, .int .i64 s.o.t0, .int .i64 s.o.t1, .bool s.o.on]) W :=
  ldO_at (h.cell rfl) (h.cell rfl) (h.cell rfl) (h.cell rfl) (h.cell rfl) (h.cell rfl) (h.cell rfl) (h.cell rfl) (h.cell rfl)
theorem SB.ldp {w W : World} {g : Nat} {s : StepV} {ys : Array Value} (h : SB w W g s.cells ys) :
    (ldO (.pointer (some ⟨g, 10, none⟩))).run Tryz.prog W = .ok (.agg #[.int .i64 s.p.i0, .int .i64 s.p.i1, .int .i64 s.p.kd, .int .i64 s.p.a, .string ⟨s.p.tx.toArray⟩, .slice s.pA s.p.rs.length s.pc, .int .i64 s.p.t0, .int .i64 s.p.t1, .bool s.p.on]) W :=
  ldO_at (h.cell rfl) (h.cell rfl) (h.cell rfl) (h.cell rfl) (h.cell rfl) (h.cell rfl) (h.cell rfl) (h.cell rfl) (h.cell rfl)
set_option maxRecDepth 100000 in
set_option maxHeartbeats 4000000 in
theorem spare_any (i0 i1 kd a : Int) (tx : ByteArray) (g n c : Nat) (rs : List (Int × Int)) (t0 t1 : Int) (on : Bool) (w : World) (hn : rs.length = n) (hb : n ≤ 8796093021952) (h : w.ownsRow 0 102 2 (.slice (some ⟨g, 0, none⟩) (n + 2) c) (n + 2) (rsCells (rs ++ [(-7, -8), (-9, -9)]))) :
    Calls Tryz.prog 24 #[opV i0 i1 kd a tx (.slice (some ⟨g, 0, none⟩) n c) t0 t1 on] w fun e w' => e = .returned (.bool true) ∧ Below w.heap.size w w' := by
  have hcap : n + 2 ≤ c := by
    rcases h.2 with ⟨h1, _⟩ | ⟨g', cap, cur, hv, hb', hg, hcap, _⟩
    · cases h1
    · injection hv with h1 h2 h3; omega
  have hcell : ∀ j (hj : j < rs.length + 2), w.cell? ⟨g, j * 2, none⟩ = some (.int .i64 ((rs ++ [(-7, -8), (-9, -9)])[j]'(by simpa using hj)).1) ∧ w.cell? ⟨g, j * 2 + 1, none⟩ = some (.int .i64 ((rs ++ [(-7, -8), (-9, -9)])[j]'(by simpa using hj)).2) := fun j hj => by
    have hg2 := rsCells_get (rs ++ [(-7, -8), (-9, -9)]) j (by simpa using hj)
    have e1 : (⟨g, j * 2, none⟩ : Addr) = (⟨g, 0, none⟩ : Addr).add (j * 2) := by simp [Addr.add]
    have e2 : (⟨g, j * 2 + 1, none⟩ : Addr) = (⟨g, 0, none⟩ : Addr).add (j * 2 + 1) := by simp [Addr.add]
    rw [e1, e2]
    exact ⟨h.cells (g := g) rfl _ _ hg2.1, h.cells (g := g) rfl _ _ hg2.2⟩
  have q1 := hcell n (by omega)
  have q2 := hcell (n + 1) (by omega)
  rw [List.getElem_append_right (by omega)] at q1
  rw [List.getElem_append_right (by omega)] at q2
  have e0 : n - rs.length = 0 := by omega
  have e1 : n + 1 - rs.length = 1 := by omega
  simp only [e0, List.getElem_cons_zero] at q1
  simp only [e1, List.getElem_cons_succ, List.getElem_cons_zero] at q2
  have HQ := Lib.hid (fun (W : World) (hW : Below w.heap.size w W) => And.intro (And.intro (U.cell_below hW q1.1) (U.cell_below hW q1.2)) (And.intro (U.cell_below hW q2.1) (U.cell_below hW q2.2)))
  have hsl := head_rg g n c (n + 2) hcap (by omega)
  have hs1 : IntKind.i64.wrap ((n : Int) + 2) = ((n + 2 : Nat) : Int) := by rw [IntWalk.i64_in _ (by omega)]; omega
  clear h hcell q1 q2 e0 e1 hn
  have hy := heap_alloc_new w (.cells (opC i0 i1 kd a tx (.slice (some ⟨g, 0, none⟩) n c) t0 t1 on) 47)
  have hB1 := below_alloc1 w (.cells (opC i0 i1 kd a tx (.slice (some ⟨g, 0, none⟩) n c) t0 t1 on) 47)
  have HO := Lib.hid (OB.mk hB1 hy)
  unfold opC at HO
  unfold opV
  clear hy hB1
  go_enter Tryz.func24, Tryz.ntmps24
  go_upto_region 1 with fail
  obtain ⟨w1, hw1⟩ : ∃ w1, w.alloc (.cells #[.int .i64 i0, .int .i64 i1, .int .i64 kd, .int .i64 a, .string tx, .slice (some ⟨g, 0, none⟩) n c, .int .i64 t0, .int .i64 t1, .bool on] 47) = w1 := ⟨_, rfl⟩
  rw [hw1] at HO ⊢
  obtain ⟨gr, hgr⟩ : ∃ gr, w.heap.size = gr := ⟨_, rfl⟩
  have HO : Hid (OB w w1 gr (opC i0 i1 kd a tx (.slice (some ⟨g, 0, none⟩) n c) t0 t1 on)) := Lib.hid (by rw [← hgr]; exact HO.out)
  rw [hgr]
  have y5 := HO.out.c.2.2.2.2.2.1
  obtain ⟨⟨f1, f2⟩, f3, f4⟩ := HQ.out w1 HO.out.below
  clear hw1 hgr
  go_upto_region 3 with fail
  clear hsl hs1 y5
  have z1 : (0 : Int) ≤ (n : Int) := by omega
  have z2 : (n : Int) ≤ 8796093021952 := by omega
  go_wp2_with fail
  go_ret
  exact ⟨rfl, HO.out.below⟩
end Go.Proofs.YtkdhomiieenfnaaGreatDoor.K

namespace Go.Proofs.YtkdhomiieenfnaaGreatDoor.K
open Go.RowKit Go.Proofs Go.Proofs.YtkdhomiieenfnaaGreatDoor.U Go.Proofs.YtkdhomiieenfnaaGreatDoor.Txt Go.Proofs.YtkdhomiieenfnaaGreatDoor.O Go.Proofs.YtkdhomiieenfnaaGreatDoor.Rp Go.Proofs.YtkdhomiieenfnaaGreatDoor.Lw
set_option linter.unusedVariables false
set_option linter.unusedSimpArgs false

def AskRes (w : World) (e : Ending) (w' : World) : Prop := e = .returned (.bool true) ∧ Below w.heap.size w w'
theorem chk_zero (S : ByteArray) {k ps er : Nat} (h : chk S.data.toList = (k, ps, er)) (he : er ≠ 0) : k = 0 := by
  obtain ⟨rs, t, hh⟩ := halves S
  have h1 := chk_halves hh
  rw [h] at h1
  unfold chkN at h1
  by_cases ht : t = []
  · rw [if_pos ht] at h1; simp only at h1; omega
  · rw [if_neg ht] at h1; simp only at h1; omega
section
attribute [local go_sem ↓] ldO_fold stO_fold
attribute [local go_sem] stO_run
set_option maxRecDepth 100000 in
set_option maxHeartbeats 4000000 in
theorem asks_1 (s : StepV) (gl cl : Nat) (w : World) (hk : s.kind = 1) (hok : s.Ok w) (hg : Ranges w (some ⟨gl, 0, none⟩) s.o.rs.length s.o.rs) (hE : Bars w) :
    Calls Tryz.prog 22 #[.agg s.cells, opV s.o.i0 s.o.i1 s.o.kd s.o.a ⟨s.o.tx.toArray⟩ (.slice (some ⟨gl, 0, none⟩) s.o.rs.length cl) s.o.t0 s.o.t1 s.o.on] w (AskRes w) := by
  obtain ⟨kind, ⟨i0, i1, kd, a, tx, rs, t0, t1, on⟩, oA, oc, ⟨j0, j1, kd', a', tx', rs', u0, u1, on'⟩, pA, pc, total, line⟩ := s
  simp only at hk hg ⊢
  subst hk
  have HOK := Lib.hid hok
  have HG := Lib.hid hg
  have HE := Lib.hid hE
  have hno := hok.no
  have hto := hok.so
  have hnp := hok.np
  have htp := hok.sp
  have hli := hok.li
  simp only at hno hto hnp htp hli
  obtain ⟨⟨k, ps, er⟩, hck⟩ : ∃ x, chk (⟨tx.toArray⟩ : ByteArray).data.toList = x := ⟨_, rfl⟩
  have HC := Lib.hid (fun (W : World) (hW : Below w.heap.size w W) => opCheck_any i0 i1 kd a ⟨tx.toArray⟩ (some ⟨gl, 0, none⟩) rs.length cl rs t0 t1 on total k ps er hck W (by rw [L_size]; unfold maxLen; omega) (by omega) (hg.below hW) (hE.below hW))
  have HD := Lib.hid (fun (W : World) (hW : Below w.heap.size w W) => rcheck_any i0 i1 kd a ⟨tx.toArray⟩ oA rs.length oc rs t0 t1 on total k ps er hck W (by rw [L_size]; omega) (by omega) (hok.ro.below hW))
  obtain ⟨E, hE2⟩ : ∃ E, opE i0 i1 kd a ⟨tx.toArray⟩ k er rs t0 t1 on total = E := ⟨_, rfl⟩
  rw [hE2] at HC HD
  clear hE2 hck
  have HO := Lib.hid (SB.new w (StepV.cells ⟨1, ⟨i0, i1, kd, a, tx, rs, t0, t1, on⟩, oA, oc, ⟨j0, j1, kd', a', tx', rs', u0, u1, on'⟩, pA, pc, total, line⟩) (opC i0 i1 kd a ⟨tx.toArray⟩ (.slice (some ⟨gl, 0, none⟩) rs.length cl) t0 t1 on))
  unfold opC at HO
  unfold StepV.cells opV at *
  simp only at HO ⊢
  clear hok hg hE hno hto hnp htp hli
  go_enter Tryz.func22, Tryz.ntmps22
  go_upto_region 1 with fail
  obtain ⟨w1, hw1⟩ : ∃ w1, (w.alloc (.cells #[.int .i64 1, .int .i64 i0, .int .i64 i1, .int .i64 kd, .int .i64 a, .string ⟨tx.toArray⟩, .slice oA rs.length oc, .int .i64 t0, .int .i64 t1, .bool on, .int .i64 j0, .int .i64 j1, .int .i64 kd', .int .i64 a', .string ⟨tx'.toArray⟩, .slice pA rs'.length pc, .int .i64 u0, .int .i64 u1, .bool on', .int .i64 total, .string line] 57)).alloc (.cells #[.int .i64 i0, .int .i64 i1, .int .i64 kd, .int .i64 a, .string ⟨tx.toArray⟩, .slice (some ⟨gl, 0, none⟩) rs.length cl, .int .i64 t0, .int .i64 t1, .bool on] 47) = w1 := ⟨_, rfl⟩
  rw [hw1] at HO ⊢
  obtain ⟨gr, hgr⟩ : ∃ gr, w.heap.size = gr := ⟨_, rfl⟩
  have HO : Hid (SB w w1 gr (StepV.cells ⟨1, ⟨i0, i1, kd, a, tx, rs, t0, t1, on⟩, oA, oc, ⟨j0, j1, kd', a', tx', rs', u0, u1, on'⟩, pA, pc, total, line⟩) (opC i0 i1 kd a ⟨tx.toArray⟩ (.slice (some ⟨gl, 0, none⟩) rs.length cl) t0 t1 on)) := Lib.hid (by rw [← hgr]; exact HO.out)
  rw [hgr]
  clear hw1 hgr
  have x0 : w1.cell? ⟨gr, 0, none⟩ = some (.int .i64 1) := HO.out.cell rfl
  have lc := HO.out.ldc
  have lo := HO.out.ldo
  have lp := HO.out.ldp
  simp only at lo lp
  have x19 : w1.cell? ⟨gr, 19, none⟩ = some (.int .i64 total) := HO.out.cell rfl
  go_wp2_with fail
  refine (HC.out w1 HO.out.below).mono ?_
  rintro e w2 ⟨rfl, hb2⟩
  clear lc lo lp x0 x19
  have HO2 := Lib.hid (HO.out.step hb2)
  have lc := HO2.out.ldc
  have lo := HO2.out.ldo
  have lp := HO2.out.ldp
  simp only at lo lp
  have x19 : w2.cell? ⟨gr, 19, none⟩ = some (.int .i64 total) := HO2.out.cell rfl
  clear hb2
  go_wp2_with fail
  refine (HD.out w2 HO2.out.below).mono ?_
  rintro e w3 ⟨rfl, hb3⟩
  have HO3 := Lib.hid (HO2.out.step hb3)
  clear hb3 lc lo lp x19
  go_wp2_with fail
  go_ret
  exact ⟨by first | rfl | simp, HO3.out.below⟩
set_option maxRecDepth 100000 in
set_option maxHeartbeats 4000000 in
theorem asks_2 (s : StepV) (gl cl : Nat) (w : World) (hk : s.kind = 2) (hok : s.Ok w) (hg : Ranges w (some ⟨gl, 0, none⟩) s.o.rs.length s.o.rs) (hE : Bars w) :
    Calls Tryz.prog 22 #[.agg s.cells, opV s.o.i0 s.o.i1 s.o.kd s.o.a ⟨s.o.tx.toArray⟩ (.slice (some ⟨gl, 0, none⟩) s.o.rs.length cl) s.o.t0 s.o.t1 s.o.on] w (AskRes w) := by
  obtain ⟨kind, ⟨i0, i1, kd, a, tx, rs, t0, t1, on⟩, oA, oc, ⟨j0, j1, kd', a', tx', rs', u0, u1, on'⟩, pA, pc, total, line⟩ := s
  simp only at hk hg ⊢
  subst hk
  have HOK := Lib.hid hok
  have HG := Lib.hid hg
  have HE := Lib.hid hE
  have hno := hok.no
  have hto := hok.so
  have hnp := hok.np
  have htp := hok.sp
  have hli := hok.li
  simp only at hno hto hnp htp hli
  obtain ⟨⟨k, ps, er⟩, hck⟩ : ∃ x, chk (⟨tx.toArray⟩ : ByteArray).data.toList = x := ⟨_, rfl⟩
  have HC := Lib.hid (fun (W : World) (hW : Below w.heap.size w W) => Width_any i0 i1 kd a ⟨tx.toArray⟩ (some ⟨gl, 0, none⟩) rs.length cl t0 t1 on k ps er hck W (by rw [L_size]; unfold maxLen; omega) (hE.below hW))
  have HD := Lib.hid (fun (W : World) => rwidth_any i0 i1 kd a ⟨tx.toArray⟩ (.slice oA rs.length oc) t0 t1 on k ps er hck W (by rw [L_size]; omega))
  rw [show (if er = 0 then (k : Int) else 0) = (k : Int) by by_cases he : er = 0; rw [if_pos he]; rw [if_neg he, chk_zero _ hck he]; rfl] at HD
  obtain ⟨E, hE2⟩ : ∃ E, (if kd = 1 then (k : Int) else 0) = E := ⟨_, rfl⟩
  rw [hE2] at HC HD
  clear hE2 hck
  have HO := Lib.hid (SB.new w (StepV.cells ⟨2, ⟨i0, i1, kd, a, tx, rs, t0, t1, on⟩, oA, oc, ⟨j0, j1, kd', a', tx', rs', u0, u1, on'⟩, pA, pc, total, line⟩) (opC i0 i1 kd a ⟨tx.toArray⟩ (.slice (some ⟨gl, 0, none⟩) rs.length cl) t0 t1 on))
  unfold opC at HO
  unfold StepV.cells opV at *
  simp only at HO ⊢
  clear hok hg hE hno hto hnp htp hli
  go_enter Tryz.func22, Tryz.ntmps22
  go_upto_region 1 with fail
  obtain ⟨w1, hw1⟩ : ∃ w1, (w.alloc (.cells #[.int .i64 2, .int .i64 i0, .int .i64 i1, .int .i64 kd, .int .i64 a, .string ⟨tx.toArray⟩, .slice oA rs.length oc, .int .i64 t0, .int .i64 t1, .bool on, .int .i64 j0, .int .i64 j1, .int .i64 kd', .int .i64 a', .string ⟨tx'.toArray⟩, .slice pA rs'.length pc, .int .i64 u0, .int .i64 u1, .bool on', .int .i64 total, .string line] 57)).alloc (.cells #[.int .i64 i0, .int .i64 i1, .int .i64 kd, .int .i64 a, .string ⟨tx.toArray⟩, .slice (some ⟨gl, 0, none⟩) rs.length cl, .int .i64 t0, .int .i64 t1, .bool on] 47) = w1 := ⟨_, rfl⟩
  rw [hw1] at HO ⊢
  obtain ⟨gr, hgr⟩ : ∃ gr, w.heap.size = gr := ⟨_, rfl⟩
  have HO : Hid (SB w w1 gr (StepV.cells ⟨2, ⟨i0, i1, kd, a, tx, rs, t0, t1, on⟩, oA, oc, ⟨j0, j1, kd', a', tx', rs', u0, u1, on'⟩, pA, pc, total, line⟩) (opC i0 i1 kd a ⟨tx.toArray⟩ (.slice (some ⟨gl, 0, none⟩) rs.length cl) t0 t1 on)) := Lib.hid (by rw [← hgr]; exact HO.out)
  rw [hgr]
  clear hw1 hgr
  have x0 : w1.cell? ⟨gr, 0, none⟩ = some (.int .i64 2) := HO.out.cell rfl
  have lc := HO.out.ldc
  have lo := HO.out.ldo
  have lp := HO.out.ldp
  simp only at lo lp
  go_wp2_with fail
  refine (HC.out w1 HO.out.below).mono ?_
  rintro e w2 ⟨rfl, hb2⟩
  clear lc lo lp x0
  have HO2 := Lib.hid (HO.out.step hb2)
  have lc := HO2.out.ldc
  have lo := HO2.out.ldo
  have lp := HO2.out.ldp
  simp only at lo lp
  clear hb2
  go_wp2_with fail
  refine (HD.out w2).mono ?_
  rintro e w3 ⟨rfl, hb3⟩
  have HO3 := Lib.hid (HO2.out.step hb3)
  clear hb3 lc lo lp
  go_wp2_with fail
  go_ret
  exact ⟨by first | rfl | simp, HO3.out.below⟩
end
end Go.Proofs.YtkdhomiieenfnaaGreatDoor.K
