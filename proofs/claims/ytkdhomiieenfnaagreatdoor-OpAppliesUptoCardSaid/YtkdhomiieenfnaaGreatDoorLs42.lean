/- How heads, ids and ranges are compared. op.Equal at any two operations. -/
import Derived.Test.YtkdhomiieenfnaaGreatDoorLs32
import Derived.Laws.StructEq
import Derived.Test.YtkdhomiieenfnaaGreatDoorOrRight
import Derived.BigQuiet
namespace Go.Proofs.YtkdhomiieenfnaaGreatDoor.O
open Go.RowKit Go.Proofs Go.Joins Go.Proofs.YtkdhomiieenfnaaGreatDoor.U Go.Proofs.YtkdhomiieenfnaaGreatDoor.Txt
set_option linter.unusedVariables false
set_option linter.unusedSimpArgs false

theorem id_eqd (d : Nat) (x y a b : Int) (w : World) : (Op.equalIn (d + 2) 41 (.agg #[.int .i64 x, .int .i64 y]) (.agg #[.int .i64 a, .int .i64 b])).run Tryz.prog w = .ok (decide (x = a) && decide (y = b)) w := by
  obtain ⟨i, hi, _, _, _⟩ := info_parts infoInt
  have hp : Tryz.prog.plainKey 3 = true := by kernel_rfl
  have hc : Tryz.prog.cellsOf 3 = 1 := by kernel_rfl
  rw [show d + 2 = (d + 1) + 1 from rfl, run_equalIn_array w (d + 1) _ _ Tryz.underlying41 hi, hc, show List.range 2 = [0, 1] from rfl]
  have p0 : ∀ u v : Value, (part 3 #[u, v] 0).run Tryz.prog w = .ok u w := fun u v => run_part_plain w hp rfl
  have p1 : ∀ u v : Value, (part 3 #[u, v] 1).run Tryz.prog w = .ok v w := fun u v => run_part_plain w hp rfl
  have q : ∀ u v : Int, (Op.equalIn (d + 1) 3 (.int .i64 u) (.int .i64 v)).run Tryz.prog w = .ok (u == v) w := fun u v => run_equalIn_int w d _ .i64 .i64 u v Tryz.underlying3
  by_cases h1 : x = a <;> by_cases h2 : y = b <;> simp [Op.eqItems, p0, p1, q, h1, h2]
theorem head_eq (x y k a b j : Int) (w : World) : (Op.equalIn 10000 44 (.agg #[.int .i64 x, .int .i64 y, .int .i64 k]) (.agg #[.int .i64 a, .int .i64 b, .int .i64 j])).run Tryz.prog w = .ok ((decide (x = a) && decide (y = b)) && decide (k = j)) w := by
  have e : (Tryz.prog.fieldsOf 44).toList.map (fun f => (f.name, f.type, f.offset)) = [("ID", 41, 0), ("Kind", 42, 2)] := by kernel_rfl
  obtain ⟨f, g, hfg, hf, hg⟩ : ∃ f g : Field, (Tryz.prog.fieldsOf 44).toList = [f, g] ∧ (f.name, f.type, f.offset) = ("ID", 41, 0) ∧ (g.name, g.type, g.offset) = ("Kind", 42, 2) := by
    cases hl : (Tryz.prog.fieldsOf 44).toList with
    | nil => rw [hl] at e; cases e
    | cons f r =>
      cases r with
      | nil => rw [hl] at e; simp at e
      | cons g r =>
        cases r with
        | nil => rw [hl] at e; exact ⟨f, g, rfl, by simpa using e⟩
        | cons h r => rw [hl] at e; simp at e
  have f1 := congrArg Prod.fst hf
  have f2 := congrArg (fun p => p.2.1) hf
  have f3 := congrArg (fun p => p.2.2) hf
  have g1 := congrArg Prod.fst hg
  have g2 := congrArg (fun p => p.2.1) hg
  have g3 := congrArg (fun p => p.2.2) hg
  simp only at f1 f2 f3 g1 g2 g3
  rw [show (10000 : Nat) = 9999 + 1 from rfl, run_equalIn_struct w 9999 44 _ _ (by kernel_rfl) (by kernel_rfl), hfg]
  have p0 : ∀ u v z : Int, (part 41 #[.int .i64 u, .int .i64 v, .int .i64 z] 0).run Tryz.prog w = .ok (.agg #[.int .i64 u, .int .i64 v]) w := fun u v z => by kernel_rfl
  have p1 : ∀ u v z : Int, (part 42 #[.int .i64 u, .int .i64 v, .int .i64 z] 2).run Tryz.prog w = .ok (.int .i64 z) w := fun u v z => by kernel_rfl
  have q : ∀ u v : Int, (Op.equalIn 9999 42 (.int .i64 u) (.int .i64 v)).run Tryz.prog w = .ok (u == v) w := fun u v => run_equalIn_int w 9998 _ .i64 .i64 u v Tryz.underlying42
  have q0 : ∀ u v z y : Int, (Op.equalIn 9999 41 (.agg #[.int .i64 u, .int .i64 v]) (.agg #[.int .i64 z, .int .i64 y])).run Tryz.prog w = .ok (decide (u = z) && decide (v = y)) w := fun u v z y => id_eqd 9997 u v z y w
  by_cases h1 : x = a <;> by_cases h2 : y = b <;> by_cases h3 : k = j <;> simp [Op.eqFields, f1, f2, f3, g1, g2, g3, p0, p1, q, q0, h1, h2, h3]
theorem range_eq (x y a b : Int) (w : World) : (Op.equalIn 10000 102 (.agg #[.int .i64 x, .int .i64 y]) (.agg #[.int .i64 a, .int .i64 b])).run Tryz.prog w = .ok (decide (x = a) && decide (y = b)) w := by
  have e : (Tryz.prog.fieldsOf 102).toList.map (fun f => (f.name, f.type, f.offset)) = [("Lo", 3, 0), ("Hi", 3, 1)] := by kernel_rfl
  obtain ⟨f, g, hfg, hf, hg⟩ : ∃ f g : Field, (Tryz.prog.fieldsOf 102).toList = [f, g] ∧ (f.name, f.type, f.offset) = ("Lo", 3, 0) ∧ (g.name, g.type, g.offset) = ("Hi", 3, 1) := by
    cases hl : (Tryz.prog.fieldsOf 102).toList with
    | nil => rw [hl] at e; cases e
    | cons f r =>
      cases r with
      | nil => rw [hl] at e; simp at e
      | cons g r =>
        cases r with
        | nil => rw [hl] at e; exact ⟨f, g, rfl, by simpa using e⟩
        | cons h r => rw [hl] at e; simp at e
  have f1 := congrArg Prod.fst hf
  have f2 := congrArg (fun p => p.2.1) hf
  have f3 := congrArg (fun p => p.2.2) hf
  have g1 := congrArg Prod.fst hg
  have g2 := congrArg (fun p => p.2.1) hg
  have g3 := congrArg (fun p => p.2.2) hg
  simp only at f1 f2 f3 g1 g2 g3
  rw [show (10000 : Nat) = 9999 + 1 from rfl, run_equalIn_struct w 9999 102 _ _ (by kernel_rfl) (by kernel_rfl), hfg]
  have hp : Tryz.prog.plainKey 3 = true := by kernel_rfl
  have p0 : ∀ u v : Value, (part 3 #[u, v] 0).run Tryz.prog w = .ok u w := fun u v => run_part_plain w hp rfl
  have p1 : ∀ u v : Value, (part 3 #[u, v] 1).run Tryz.prog w = .ok v w := fun u v => run_part_plain w hp rfl
  have q : ∀ u v : Int, (Op.equalIn 9999 3 (.int .i64 u) (.int .i64 v)).run Tryz.prog w = .ok (u == v) w := fun u v => run_equalIn_int w 9998 _ .i64 .i64 u v Tryz.underlying3
  by_cases h1 : x = a <;> by_cases h2 : y = b <;> simp [Op.eqFields, f1, f2, f3, g1, g2, g3, p0, p1, q, h1, h2]
end Go.Proofs.YtkdhomiieenfnaaGreatDoor.O

namespace Go.Proofs.YtkdhomiieenfnaaGreatDoor.O
open Go.RowKit Go.Proofs Go.Joins Go.Proofs.YtkdhomiieenfnaaGreatDoor.U Go.Proofs.YtkdhomiieenfnaaGreatDoor.Txt
set_option linter.unusedVariables false
set_option linter.unusedSimpArgs false
attribute [local go_sem] id_eq
attribute [local go_sem ↓] head_eq range_eq
attribute [local go_sem ↓] Go.wp_at_zero Go.wp_at_succ

/-- What Equal hands back. -/
def EqRes (w : World) (b : Bool) (e : Ending) (w' : World) : Prop := e = .returned (.bool b) ∧ Below w.heap.size w w'
theorem eq_fin {w w' : World} {P : Prop} [Decidable P] {b : Bool} {e : Ending} (he : e = .returned (.bool b)) (hb : Below w.heap.size w w') (hd : decide P = b) : EqRes w (decide P) e w' := ⟨by rw [he, hd], hb⟩
theorem ne_str {x y : List UInt8} (h : ¬ x = y) : ((⟨x.toArray⟩ : ByteArray).toList == (⟨y.toArray⟩ : ByteArray).toList) = false := by
  rw [toList_eq, toList_eq]
  simpa using h
set_option maxRecDepth 100000 in
set_option maxHeartbeats 8000000 in
theorem Equal_any (L M : OpL) (A A' : Option Addr) (c c' : Nat) (w : World) (hn : L.rs.length ≤ 1048577) (h1 : Ranges w A L.rs.length L.rs) (h2 : Ranges w A' M.rs.length M.rs) :
    Calls Tryz.prog 34 #[L.val A c, M.val A' c'] w (EqRes w (decide (L = M))) := by
  obtain ⟨i0, i1, kd, a, tx, rs, t0, t1, on⟩ := L
  obtain ⟨j0, j1, kd', a', tx', rs', t0', t1', on'⟩ := M
  unfold OpL.val opV
  simp only at hn h1 h2 ⊢
  have HR1 := Lib.hid h1
  have HR2 := Lib.hid h2
  clear h1 h2
  by_cases hh : (i0 = j0 ∧ i1 = j1) ∧ kd = kd'
  · obtain ⟨⟨rfl, rfl⟩, rfl⟩ := hh
    by_cases ha : a = a'
    · subst ha
      by_cases htx : tx = tx'
      · subst htx
        by_cases ht : t0 = t0' ∧ t1 = t1'
        · obtain ⟨rfl, rfl⟩ := ht
          by_cases hon : on = on'
          · subst hon
            by_cases hl : rs.length = rs'.length
            · obtain ⟨n, hn'⟩ : ∃ n, rs.length = n := ⟨_, rfl⟩
              have hl' : rs'.length = n := by omega
              rw [hn'] at HR1
              rw [hl'] at HR2
              rw [hn', hl']
              have HN := Lib.hid hn'
              have HN' := Lib.hid hl'
              have hnb : (n : Int) ≤ 1048577 := by omega
              clear hl hn hn' hl'
              obtain ⟨W2, hW2⟩ : ∃ W2, (w.alloc (.cells #[.int .i64 i0, .int .i64 i1, .int .i64 kd, .int .i64 a, .string ⟨tx.toArray⟩, .slice A n c, .int .i64 t0, .int .i64 t1, .bool on] 47)).alloc (.cells #[.int .i64 i0, .int .i64 i1, .int .i64 kd, .int .i64 a, .string ⟨tx.toArray⟩, .slice A' n c', .int .i64 t0, .int .i64 t1, .bool on] 47) = W2 := ⟨_, rfl⟩
              have HB2 : Hid (Below w.heap.size w W2) := Lib.hid (by rw [← hW2]; exact below_alloc2 _ _ _)
              have hx5 : W2.cell? ⟨w.heap.size + 1, 5, none⟩ = some (.slice A' n c') := by rw [← hW2]; simp
              have HX5 := Lib.hid hx5
              have HW2 := Lib.hid hW2
              clear hx5 hW2
              go_enter Tryz.func34, Tryz.ntmps34
              go_wp2_with fail
              rw [HW2.out]
              clear HW2
              go_loopw [52] (fun i wr => ∃ j : Nat, i = .int .i64 j ∧ j ≤ n ∧ Below W2.heap.size W2 wr ∧ rs.take j = rs'.take j) (fun i _ => n - (intOf i).toNat)
              case atStart => exact ⟨0, rfl, Nat.zero_le _, Below.refl _ _, by rw [List.take_zero, List.take_zero]⟩
              case round =>
                obtain ⟨j, rfl, hj, hb, htk⟩ := hrel
                have HB := Lib.hid hb
                have HTK := Lib.hid htk
                have HBW := Lib.hid (HB2.out.trans (hb.mono HB2.out.size))
                clear hb htk
                by_cases hlt : j < n
                · have hj1 : j < rs.length := by have := HN.out; omega
                  have hj2 : j < rs'.length := by have := HN'.out; omega
                  obtain ⟨b, off, rfl, hc⟩ := (HR1.out.below HBW.out).at_ (by omega)
                  obtain ⟨b', off', rfl, hc'⟩ := (HR2.out.below HBW.out).at_ (by omega)
                  obtain ⟨r, hr⟩ : ∃ r, rs[j] = r := ⟨_, rfl⟩
                  obtain ⟨r', hr'⟩ : ∃ r', rs'[j] = r' := ⟨_, rfl⟩
                  have h1 := hc j hj1
                  have h2 := hc' j hj2
                  rw [hr] at h1
                  rw [hr'] at h2
                  have HRJ := Lib.hid hr
                  have HRJ' := Lib.hid hr'
                  obtain ⟨lo, hi⟩ := r
                  obtain ⟨lo', hi'⟩ := r'
                  obtain ⟨c0, c1⟩ := h1
                  obtain ⟨e0, e1⟩ := h2
                  simp only at c0 c1 e0 e1
                  have x5 := cell_below HB.out HX5.out
                  have y5 : ∀ o, (wr.alloc o).cell? ⟨w.heap.size + 1, 5, none⟩ = some (.slice (some ⟨b', off', none⟩) n c') := fun o => cell_below (below_alloc1 wr o) x5
                  have z0 : ∀ o, (wr.alloc o).cell? ⟨b', off' + j * 2, none⟩ = some (.int .i64 lo') := fun o => cell_below (below_alloc1 wr o) e0
                  have z1 : ∀ o, (wr.alloc o).cell? ⟨b', off' + j * 2 + 1, none⟩ = some (.int .i64 hi') := fun o => cell_below (below_alloc1 wr o) e1
                  clear hc hc' hr hr'
                  by_cases he : lo = lo' ∧ hi = hi'
                  · obtain ⟨rfl, rfl⟩ := he
                    go_wp2_with fail
                    go_quiet (fail)
                    go_wp2_with fail
                    go_roundw
                    case rel => exact ⟨j + 1, by go_num, by omega, below_drewN (HB.out.alloc HB.out.size _) _, by rw [List.take_succ_eq_append_getElem hj1, List.take_succ_eq_append_getElem hj2, HTK.out, HRJ.out, HRJ'.out]⟩
                    case measure => simp [intOf]; omega
                  · have hz : (decide (lo = lo') && decide (hi = hi')) = false := by
                      by_cases h : lo = lo'
                      · simp [h]; exact fun h2 => he ⟨h, h2⟩
                      · simp [h]
                    have hd : decide ((⟨i0, i1, kd, a, tx, rs, t0, t1, on⟩ : OpL) = ⟨i0, i1, kd, a, tx, rs', t0, t1, on⟩) = false := by
                      simp only [OpL.mk.injEq, decide_eq_false_iff_not]
                      intro h
                      have h3 := h.2.2.2.2.2.1
                      subst h3
                      have h4 := HRJ.out.symm.trans HRJ'.out
                      exact he ⟨congrArg Prod.fst h4, congrArg Prod.snd h4⟩
                    have HD := Lib.hid hd
                    clear hd he
                    go_wp2_with fail
                    go_quiet (fail)
                    go_wp2_with fail
                    go_ret
                    exact eq_fin rfl (below_drewN (HBW.out.alloc HBW.out.size _) _) HD.out
                · obtain rfl : j = n := by omega
                  have hd : decide ((⟨i0, i1, kd, a, tx, rs, t0, t1, on⟩ : OpL) = ⟨i0, i1, kd, a, tx, rs', t0, t1, on⟩) = true := by
                    have h1 := HTK.out
                    rw [← HN.out, List.take_length, HN.out, ← HN'.out, List.take_length] at h1
                    subst h1
                    simp
                  have HD := Lib.hid hd
                  clear hd
                  go_wp2_with fail
                  go_ret
                  exact eq_fin rfl HBW.out HD.out
            · have hl2 : ¬ (rs.length : Int) = (rs'.length : Int) := by omega
              have hd : decide ((⟨i0, i1, kd, a, tx, rs, t0, t1, on⟩ : OpL) = ⟨i0, i1, kd, a, tx, rs', t0, t1, on⟩) = false := by
                simp only [OpL.mk.injEq, decide_eq_false_iff_not]; intro h; exact hl (by rw [h.2.2.2.2.2.1])
              have HD := Lib.hid hd
              clear hd hl
              go_enter Tryz.func34, Tryz.ntmps34
              go_wp2_with fail
              go_ret
              exact eq_fin rfl (below_alloc2 _ _ _) HD.out
          · have hd : decide ((⟨i0, i1, kd, a, tx, rs, t0, t1, on⟩ : OpL) = ⟨i0, i1, kd, a, tx, rs', t0, t1, on'⟩) = false := by
              simp only [OpL.mk.injEq, decide_eq_false_iff_not]; intro h; exact hon h.2.2.2.2.2.2.2.2
            have HD := Lib.hid hd
            clear hd
            cases on <;> cases on' <;> first | exact absurd rfl hon | skip
            all_goals
              go_enter Tryz.func34, Tryz.ntmps34
              go_wp2_with fail
              go_ret
              exact eq_fin rfl (below_alloc2 _ _ _) HD.out
        · have hz : (decide (t0 = t0') && decide (t1 = t1')) = false := by
            by_cases h : t0 = t0'
            · simp [h]; exact fun h2 => ht ⟨h, h2⟩
            · simp [h]
          have hd : decide ((⟨i0, i1, kd, a, tx, rs, t0, t1, on⟩ : OpL) = ⟨i0, i1, kd, a, tx, rs', t0', t1', on'⟩) = false := by
            simp only [OpL.mk.injEq, decide_eq_false_iff_not]; intro h; exact ht ⟨h.2.2.2.2.2.2.1, h.2.2.2.2.2.2.2.1⟩
          have HD := Lib.hid hd
          clear hd ht
          go_enter Tryz.func34, Tryz.ntmps34
          go_wp2_with fail
          go_ret
          exact eq_fin rfl (below_alloc2 _ _ _) HD.out
      · have hx := ne_str htx
        have hd : decide ((⟨i0, i1, kd, a, tx, rs, t0, t1, on⟩ : OpL) = ⟨i0, i1, kd, a, tx', rs', t0', t1', on'⟩) = false := by
          simp only [OpL.mk.injEq, decide_eq_false_iff_not]; intro h; exact htx h.2.2.2.2.1
        have HD := Lib.hid hd
        generalize (⟨tx.toArray⟩ : ByteArray) = X at hx ⊢
        generalize (⟨tx'.toArray⟩ : ByteArray) = X' at hx ⊢
        clear hd htx
        go_enter Tryz.func34, Tryz.ntmps34
        go_wp2_with fail
        go_ret
        exact eq_fin rfl (below_alloc2 _ _ _) HD.out
    · have hd : decide ((⟨i0, i1, kd, a, tx, rs, t0, t1, on⟩ : OpL) = ⟨i0, i1, kd, a', tx', rs', t0', t1', on'⟩) = false := by
        simp only [OpL.mk.injEq, decide_eq_false_iff_not]; intro h; exact ha h.2.2.2.1
      have HD := Lib.hid hd
      clear hd
      go_enter Tryz.func34, Tryz.ntmps34
      go_wp2_with fail
      go_ret
      exact eq_fin rfl (below_alloc2 _ _ _) HD.out
  · have hz : ((decide (i0 = j0) && decide (i1 = j1)) && decide (kd = kd')) = false := by
      by_cases h : i0 = j0
      · by_cases h2 : i1 = j1
        · simp [h, h2]; exact fun h3 => hh ⟨⟨h, h2⟩, h3⟩
        · simp [h2]
      · simp [h]
    have hd : decide ((⟨i0, i1, kd, a, tx, rs, t0, t1, on⟩ : OpL) = ⟨j0, j1, kd', a', tx', rs', t0', t1', on'⟩) = false := by
      simp only [OpL.mk.injEq, decide_eq_false_iff_not]; intro h; exact hh ⟨⟨h.1, h.2.1⟩, h.2.2.1⟩
    have HD := Lib.hid hd
    clear hd hh
    go_enter Tryz.func34, Tryz.ntmps34
    go_wp2_with fail
    go_ret
    exact eq_fin rfl (below_alloc2 _ _ _) HD.out
end Go.Proofs.YtkdhomiieenfnaaGreatDoor.O
