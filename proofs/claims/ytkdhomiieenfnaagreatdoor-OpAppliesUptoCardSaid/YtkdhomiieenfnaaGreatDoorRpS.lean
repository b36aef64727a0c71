/- A tree parted at a place: split. -/
import Derived.Test.YtkdhomiieenfnaaGreatDoorLs5
import Derived.Laws.Slices
import Derived.DataElems
namespace Go.Proofs.YtkdhomiieenfnaaGreatDoor.Rp
open Go.RowKit Go.Proofs Go.Proofs.YtkdhomiieenfnaaGreatDoor.U Go.Proofs.YtkdhomiieenfnaaGreatDoor.Txt
set_option linter.unusedVariables false
set_option linter.unusedSimpArgs false

theorem addr_block (a : Addr) (n : Nat) : (a.add n).block = a.block := by unfold Addr.add; split <;> rfl
theorem blk_map {W : World} {A : Option Addr} {k : Nat} {ad : Addr} (h : ∀ ad, A = some ad → ∃ cs fz, W.heap[ad.block]? = some (.cells cs 21 fz)) (e : A.map (·.add k) = some ad) : ∃ cs fz, W.heap[ad.block]? = some (.cells cs 21 fz) := by
  cases A with
  | none => cases e
  | some a =>
    simp only [Option.map_some, Option.some.injEq] at e
    obtain ⟨cs, fz, h1⟩ := h a rfl
    exact ⟨cs, fz, by rw [← e, addr_block]; exact h1⟩
theorem rune_head (A : Option Addr) (n c m : Nat) (h1 : m ≤ n) (h2 : n ≤ c) (hA : A = none → n = 0 ∧ c = 0) : ∃ A', (∀ W : World, (Instr.slice 49 (.slice A n c) none (some (.int .i64 m)) none).run Tryz.prog W = .ok (.slice A' m c) W) ∧ ∀ (W : World) (rs : List Int), rs.length = n → Rn W A rs → Rn W A' (rs.take m) := by
  refine ⟨if c = 0 then A else A.map (·.add 0), fun W => ?_, fun W rs hn hc => ⟨fun h0 => ?_, fun ad e => ?_⟩⟩
  · rw [run_slice_h W 49 A n c (by kernel_rfl) .i64 m (by omega) (by omega)]
    kernel_rfl
  · rw [List.length_take] at h0
    obtain ⟨ad, e, h⟩ := hc.cells (by omega)
    subst e
    rw [if_neg (by omega)]
    refine ⟨_, rfl, fun j hj => ?_⟩
    rw [List.length_take] at hj
    show W.cell? ((ad.add 0).add j) = _
    rw [Addr.add_add, Nat.zero_add, h j (by omega)]
    simp [List.getD, List.getElem?_take, show j < m by omega]
  · split at e
    · exact hc.blk ad e
    · exact blk_map hc.blk e
theorem rune_tail (A : Option Addr) (n c m : Nat) (h1 : m ≤ n) (h2 : n ≤ c) : ∃ A', (∀ W : World, (Instr.slice 49 (.slice A n c) (some (.int .i64 m)) none none).run Tryz.prog W = .ok (.slice A' (n - m) (c - m)) W) ∧ ∀ (W : World) (rs : List Int), rs.length = n → Rn W A rs → Rn W A' (rs.drop m) := by
  refine ⟨if c = m then A else A.map (·.add (m * 1)), fun W => ?_, fun W rs hn hc => ⟨fun h0 => ?_, fun ad e => ?_⟩⟩
  · rw [run_slice_l W 49 A n c (by kernel_rfl) .i64 m (by omega) (by omega)]
    kernel_rfl
  · rw [List.length_drop] at h0
    obtain ⟨ad, e, h⟩ := hc.cells (by omega)
    subst e
    rw [if_neg (by omega)]
    refine ⟨_, rfl, fun j hj => ?_⟩
    rw [List.length_drop] at hj
    show W.cell? ((ad.add (m * 1)).add j) = _
    rw [Addr.add_add, Nat.mul_one, h (m + j) (by omega)]
    simp [List.getD, List.getElem?_drop]
  · split at e
    · exact hc.blk ad e
    · exact blk_map hc.blk e
theorem take_behind {X Y : List Cl} {m a : Nat} (h : X.length = m) (h2 : m ≤ a) : (X ++ Y).take a = X ++ Y.take (a - m) := by
  rw [List.take_append, h, List.take_of_length_le (by omega)]
theorem drop_behind {X Y : List Cl} {m a : Nat} (h : X.length = m) (h2 : m ≤ a) : (X ++ Y).drop a = Y.drop (a - m) := by
  rw [List.drop_append, h, List.drop_eq_nil_of_le (by omega), List.nil_append]
theorem run_take (rs : List Int) (h : Int) (m : Nat) : (run rs h).take m = run (rs.take m) h := by simp [run, List.map_take]
theorem run_drop (rs : List Int) (h : Int) (m : Nat) : (run rs h).drop m = run (rs.drop m) h := by simp [run, List.map_drop]
theorem take_mid {X Y : List Cl} {rs : List Int} {h : Int} {k m a : Nat} (hX : X.length = k) (hm : a = k + m) (h2 : m ≤ rs.length) : (X ++ run rs h ++ Y).take a = X ++ run (rs.take m) h := by
  rw [List.append_assoc, take_behind hX (by omega), show a - k = m by omega, List.take_append_of_le_length (by rw [run_len]; exact h2), run_take]
theorem drop_mid {X Y : List Cl} {rs : List Int} {h : Int} {k m a : Nat} (hX : X.length = k) (hm : a = k + m) (h2 : m ≤ rs.length) : (X ++ run rs h ++ Y).drop a = run (rs.drop m) h ++ Y := by
  rw [List.append_assoc, drop_behind hX (by omega), show a - k = m by omega, List.drop_append_of_le_length (by rw [run_len]; exact h2), run_drop]
/-- What split answers. -/
def Parted (cs : List Cl) (at_ : Nat) (w : World) (e : Ending) (w' : World) : Prop := (∃ v1 t1 v2 t2, e = .returned (.tuple #[v1, v2]) ∧ TrW w' v1 t1 ∧ TrW w' v2 t2 ∧ cells t1 = cs.take at_ ∧ cells t2 = cs.drop at_) ∧ Below w.heap.size w w'
section
attribute [local go_sem ↓] ldP_fold
attribute [local go_sem] fldN fldH fldLo fldHi

set_option maxRecDepth 100000 in
set_option maxHeartbeats 8000000 in
theorem split_step (v : Value) (l r : T) (ls : List Int) (lh lp : Int) (a : Nat) (w : World) (ht : TrW w v (.node l ls lh r lp)) (ha : a ≤ 2097152)
    (IH : ∀ (vx : Value) (t : T) (b : Nat) (w : World), t = lift lp l ∨ t = lift lp r → b ≤ 2097152 → TrW w vx t → Calls Tryz.prog 79 #[vx, .int .i64 b] w (Parted (cells t) b w)) :
    Calls Tryz.prog 79 #[v, .int .i64 a] w (Parted (cells (.node l ls lh r lp)) a w) := by
  have HO := Lib.hid (open_any v l r ls lh lp w ht)
  have HPT := Lib.hid ht.wf.parts
  have hlen := ht.len
  rw [node_len] at hlen
  have HLEN := Lib.hid hlen
  have HIH := Lib.hid IH
  have HA := Lib.hid ha
  obtain ⟨av, rfl⟩ := ht.tr.ptr
  obtain ⟨b, hb⟩ : ∃ b, av = some b := by
    obtain ⟨b', _, _, _, _, h1, _⟩ := ht.tr; exact ⟨_, Value.pointer.inj h1⟩
  subst hb
  clear ht IH hlen
  go_enter Tryz.func79, Tryz.ntmps79
  go_wp2_with fail
  refine HO.out.mono ?_
  rintro e w1 ⟨⟨vl, vp, vr, rfl, ht1, ht2, A, c, rfl, hc, hcs⟩, hb1⟩
  obtain ⟨al, rfl⟩ := ht1.tr.ptr
  obtain ⟨ar, rfl⟩ := ht2.tr.ptr
  obtain ⟨n, hn⟩ : ∃ n, ls.length = n := ⟨_, rfl⟩
  have HN := Lib.hid hn
  have HP := Lib.hid (show Pc w1 (.agg #[.slice A n c, .int .i64 (lh + lp)]) ls (lh + lp) from ⟨A, c, by rw [hn], hc, hcs⟩)
  have HCS := Lib.hid (And.intro hc hcs)
  have HB1 := Lib.hid hb1
  have HT1 := Lib.hid ht1
  have HT2 := Lib.hid ht2
  rw [hn]
  have hnl := smT_ok ht1.wf ht1.len
  have HQ := Lib.hid (fun W1 (h : Below w1.heap.size w1 W1) => all_any (.pointer al) (lift lp l) W1 (ht1.tr.below h))
  have hk : (smT (lift lp l)).n = ((cells (lift lp l)).length : Int) := rfl
  obtain ⟨sl, hsl⟩ : ∃ sl, smT (lift lp l) = sl := ⟨_, rfl⟩
  rw [hsl] at HQ hk
  obtain ⟨n3, v3, h3', lo3, c3, hi3⟩ := sl
  simp only at hk
  obtain ⟨k, hk2⟩ : ∃ k, (cells (lift lp l)).length = k := ⟨_, rfl⟩
  rw [hk2] at hk
  subst hk
  have HK := Lib.hid hk2
  unfold Sm.v at HQ
  clear ht1 ht2 hc hcs hb1 hnl hsl hk2 hn
  go_wp2_with fail
  refine (HQ.out _ (below_alloc1 _ _)).mono ?_
  rintro e w4 ⟨rfl, hb4⟩
  have HB4 := Lib.hid ((below_alloc1 w1 (.cells #[.slice A n c, .int .i64 (lh + lp)] 114)).trans (hb4.mono (by simp)))
  have HY4 := Lib.hid ((hb4.block w1.heap.size (by simp)).trans (heap_at rfl))
  clear hb4
  have hkb : k ≤ 2097152 := by have := HLEN.out; have := HK.out; omega
  have hnb : n ≤ 2097152 := by have := HLEN.out; have := HN.out; omega
  have HCE := Lib.hid (cells_open l ls lh r lp)
  have e2 : IntKind.i64.wrap ((k : Int) + n) = (k : Int) + n := IntWalk.i64_in _ (by omega)
  by_cases h1 : a ≤ k
  · have H1 := Lib.hid h1
    have HC := Lib.hid (HIH.out (.pointer al) (lift lp l) a w4 (.inl rfl) HA.out (HT1.out.below HB4.out))
    go_wp2_with fail
    refine HC.out.mono ?_
    rintro e w5 ⟨⟨va, ta, vb, tb, rfl, hta, htb, hca, hcb⟩, hb5⟩
    have HTA := Lib.hid hta
    have HTB := Lib.hid htb
    have HCA := Lib.hid hca
    have HCB := Lib.hid hcb
    have HB5 := Lib.hid (HB4.out.trans (hb5.mono HB4.out.size))
    have x5 := ldP_run ((hb5.block _ (Array.getElem?_eq_some_iff.1 HY4.out).1).trans HY4.out)
    have hlb : (cells tb).length ≤ (cells (lift lp l)).length := by rw [hcb, List.length_drop]; omega
    have HJ := Lib.hid (join_any vb (.pointer ar) _ tb (lift lp r) ls (lh + lp) w5 htb (HT2.out.below HB5.out) (HP.out.below HB5.out) HPT.out.2.2.2.1 HPT.out.2.2.2.2 (by have := HLEN.out; omega))
    clear hta htb hca hcb hb5 hlb
    go_wp2_with fail
    refine HJ.out.mono ?_
    rintro e w6 ⟨⟨vj, tj, rfl, htj, hcj⟩, hb6⟩
    have HTJ := Lib.hid htj
    have HCJ := Lib.hid hcj
    have HB6 := Lib.hid hb6
    clear htj hcj hb6
    go_wp2_with fail
    go_ret2
    refine ⟨⟨va, ta, vj, tj, rfl, HTA.out.below HB6.out, HTJ.out, ?_, ?_⟩, HB1.out.trans ((HB5.out.trans (HB6.out.mono HB5.out.size)).mono HB1.out.size)⟩
    · rw [HCA.out, HCE.out, List.append_assoc, List.take_append_of_le_length (by rw [HK.out]; exact H1.out)]
    · rw [HCJ.out, HCB.out, HCE.out, List.append_assoc, List.append_assoc, List.drop_append_of_le_length (by rw [HK.out]; exact H1.out)]
  · have g1 : ¬ (a : Int) ≤ (k : Int) := by omega
    have g1' : decide (a ≤ k) = false := by simp; omega
    by_cases h2 : k + n ≤ a
    · have H2 := Lib.hid h2
      have g2 : (k : Int) + n ≤ a := by omega
      obtain ⟨d, hd⟩ : ∃ d, a - k - n = d := ⟨_, rfl⟩
      have e3 : IntKind.i64.wrap ((a : Int) - k) = (a : Int) - k := IntWalk.i64_in _ (by omega)
      have e4 : IntKind.i64.wrap ((a : Int) - k - n) = (d : Int) := by rw [show (a : Int) - k - n = d by omega]; exact IntWalk.i64_in _ (by omega)
      have HD := Lib.hid hd
      have HC := Lib.hid (fun (W : World) (hW : Below w1.heap.size w1 W) => HIH.out (.pointer ar) (lift lp r) d W (.inr rfl) (by omega) (HT2.out.below hW))
      obtain ⟨y0, y1⟩ := (two_facts HY4.out).1
      clear h1 h2 hd
      go_wp2_with fail
      refine (HC.out _ HB4.out).mono ?_
      rintro e w5 ⟨⟨va, ta, vb, tb, rfl, hta, htb, hca, hcb⟩, hb5⟩
      have HTA := Lib.hid hta
      have HTB := Lib.hid htb
      have HCA := Lib.hid hca
      have HCB := Lib.hid hcb
      have HB5 := Lib.hid (HB4.out.trans (hb5.mono HB4.out.size))
      have x5 := ldP_run ((hb5.block _ (Array.getElem?_eq_some_iff.1 HY4.out).1).trans HY4.out)
      have hlb : (cells ta).length ≤ (cells (lift lp r)).length := by rw [hca, List.length_take]; omega
      have HJ := Lib.hid (join_any (.pointer al) va _ (lift lp l) ta ls (lh + lp) w5 (HT1.out.below HB5.out) hta (HP.out.below HB5.out) HPT.out.2.2.2.1 HPT.out.2.2.2.2 (by have := HLEN.out; omega))
      clear hta htb hca hcb hb5 hlb y0 y1
      go_wp2_with fail
      refine HJ.out.mono ?_
      rintro e w6 ⟨⟨vj, tj, rfl, htj, hcj⟩, hb6⟩
      have HTJ := Lib.hid htj
      have HCJ := Lib.hid hcj
      have HB6 := Lib.hid hb6
      clear htj hcj hb6
      go_wp2_with fail
      go_ret2
      have hl : (cells (lift lp l) ++ run ls (lh + lp)).length = k + n := by rw [List.length_append, run_len, HK.out, HN.out]
      refine ⟨⟨vj, tj, vb, tb, rfl, HTJ.out, HTB.out.below HB6.out, ?_, ?_⟩, HB1.out.trans ((HB5.out.trans (HB6.out.mono HB5.out.size)).mono HB1.out.size)⟩
      · rw [HCJ.out, HCA.out, HCE.out, take_behind hl H2.out, show a - (k + n) = d by have := HD.out; omega]
      · rw [HCB.out, HCE.out, drop_behind hl H2.out, show a - (k + n) = d by have := HD.out; omega]
    · obtain ⟨m, hm⟩ : ∃ m, a - k = m := ⟨_, rfl⟩
      have g2 : ¬ (k : Int) + n ≤ a := by omega
      have e3 : IntKind.i64.wrap ((a : Int) - k) = (m : Int) := by rw [show (a : Int) - k = m by omega]; exact IntWalk.i64_in _ (by omega)
      have hmn : 0 < m ∧ m < n := by omega
      have HM := Lib.hid (show a = k + m by omega)
      have HMN := Lib.hid hmn
      obtain ⟨A1, hr1, hc1⟩ := rune_head A n c m (by omega) (by have := HCS.out.1; have := HN.out; omega) (fun h => by
        obtain ⟨ad, e, _⟩ := HCS.out.2.cells (by have := HN.out; omega)
        rw [e] at h; cases h)
      obtain ⟨A2, hr2, hc2⟩ := rune_tail A n c m (by omega) (by have := HCS.out.1; have := HN.out; omega)
      have HC1 := Lib.hid hc1
      have HC2 := Lib.hid hc2
      have s1 := ldP_run (w := w4.drew) HY4.out
      have s1a := fun o => ldP_run (w := (w4.alloc o).drew) ((Lib.alloc_old w4 o _ (Array.getElem?_eq_some_iff.1 HY4.out).1).trans HY4.out)
      have s1b := fun o o' => ldP_run (w := ((w4.alloc o).alloc o').drew) ((Lib.alloc_old (w4.alloc o) o' _ (Nat.lt_trans (Array.getElem?_eq_some_iff.1 HY4.out).1 (lt_alloc _ _))).trans ((Lib.alloc_old w4 o _ (Array.getElem?_eq_some_iff.1 HY4.out).1).trans HY4.out))
      obtain ⟨y0, y1⟩ := (two_facts HY4.out).1
      clear h1 h2 hm hmn hc1 hc2
      go_upto_region 11 with fail
      clear y0 y1
      go_cut [14, 15] (fun x y wx => ∃ B1 B2, x = .pointer (some ⟨B1, 0, none⟩) ∧ y = .pointer (some ⟨B2, 0, none⟩) ∧ wx.heap[B1]? = some (.cells #[.slice A n c, .int .i64 (lh + lp)] 114 (0, 0)) ∧ wx.heap[B2]? = some (.cells #[.slice A n c, .int .i64 (lh + lp)] 114 (0, 0)) ∧ B1 ≠ B2 ∧ w4.heap.size ≤ B1 ∧ w4.heap.size ≤ B2 ∧ Below w4.heap.size w4 wx)
      case first =>
        go_region
        all_goals go_wp2_with fail
        all_goals
          go_meet
          have b1 : ∀ o : Obj, w4.heap.size < (w4.alloc o).heap.size := fun o => lt_alloc _ _
          first
          | exact ⟨w4.heap.size, w4.heap.size + 1, rfl, rfl, (Lib.alloc_old (w4.alloc _) _ _ (lt_alloc _ _)).trans (heap_at rfl), heap_at (w := w4.alloc _) (by simp), Nat.ne_of_lt (Nat.lt_succ_self _), Nat.le_refl _, Nat.le_succ _, (((Below.refl _ _).alloc (Nat.le_refl _) _).alloc (by simp) _).drew⟩
          | exact ⟨w4.heap.size + 1, w4.heap.size, rfl, rfl, heap_at (w := w4.alloc _) (by simp), (Lib.alloc_old (w4.alloc _) _ _ (lt_alloc _ _)).trans (heap_at rfl), Nat.succ_ne_self _, Nat.le_succ _, Nat.le_refl _, (((Below.refl _ _).alloc (Nat.le_refl _) _).alloc (by simp) _).drew⟩
      case rest =>
        obtain ⟨B1, B2, rfl, rfl, hx1, hx2, hne, hB1, hB2, hb⟩ := hcut
        have HBC := Lib.hid hb
        have HYC := Lib.hid ((hb.block _ (Array.getElem?_eq_some_iff.1 HY4.out).1).trans HY4.out)
        obtain ⟨y0, y1⟩ := (two_facts HYC.out).1
        obtain ⟨⟨z0, -⟩, ⟨f0, -⟩, zs⟩ := two_facts hx1
        obtain ⟨⟨u0, -⟩, ⟨k0, -⟩, us⟩ := two_facts hx2
        have HX1 := Lib.hid hx1
        have HX2 := Lib.hid hx2
        have HNE := Lib.hid hne
        have HB12 := Lib.hid (And.intro hB1 hB2)
        have hne' := Ne.symm hne
        have hw14 : w1.heap.size < w4.heap.size := (Array.getElem?_eq_some_iff.1 HY4.out).1
        have yb1 : ∀ u, (wc.setCell ⟨B1, 0, none⟩ u).cell? ⟨w1.heap.size, 0, none⟩ = some (.slice A n c) := fun u => (cell_setCell_far (a := ⟨w1.heap.size, 0, none⟩) (by show w1.heap.size ≠ B1; omega)).trans y0
        have yb2 : ∀ u, (wc.setCell ⟨B2, 0, none⟩ u).cell? ⟨w1.heap.size, 0, none⟩ = some (.slice A n c) := fun u => (cell_setCell_far (a := ⟨w1.heap.size, 0, none⟩) (by show w1.heap.size ≠ B2; omega)).trans y0
        clear s1 s1a s1b hx1 hx2 hB1 hB2 hb hw14
        go_upto_region 12 with fail
        go_cut [] (fun wx => wx.heap[B1]? = some (.cells #[.slice A1 m c, .int .i64 (lh + lp)] 114 (0, 0)) ∧ wx.heap[B2]? = some (.cells #[.slice A2 (n - m) (c - m), .int .i64 (lh + lp)] 114 (0, 0)) ∧ Below w4.heap.size w4 wx)
        case first =>
          go_region
          all_goals go_wp2_with fail
          all_goals
            go_meet
            have HN' := HNE.out
            refine ⟨?_, ?_, ?_⟩
            · simp [World.setCell, World.drew, Array.getElem?_modify, HX1.out, HNE.out, Ne.symm HNE.out]
            · simp [World.setCell, World.drew, Array.getElem?_modify, HX2.out, HNE.out, Ne.symm HNE.out]
            · first
              | exact ((HBC.out.setCell (p := ⟨B1, 0, none⟩) HB12.out.1 _).setCell (p := ⟨B2, 0, none⟩) HB12.out.2 _).drew
              | exact ((HBC.out.setCell (p := ⟨B2, 0, none⟩) HB12.out.2 _).setCell (p := ⟨B1, 0, none⟩) HB12.out.1 _).drew
        case rest =>
          obtain ⟨hx1, hx2, hb⟩ := hcut
          have HXX1 := Lib.hid hx1
          have HXX2 := Lib.hid hx2
          have HB5 := Lib.hid (HB4.out.trans (hb.mono HB4.out.size))
          have hml : (ls.take m).length = m := by rw [List.length_take, HN.out]; have := HMN.out; omega
          have hdl : (ls.drop m).length = n - m := by rw [List.length_drop, HN.out]
          have hcs5 := HCS.out.2.below HB5.out
          have hnc : n ≤ c := by rw [← HN.out]; exact HCS.out.1
          have P1 := Lib.hid (show Pc wc (.agg #[.slice A1 m c, .int .i64 (lh + lp)]) (ls.take m) (lh + lp) from ⟨A1, c, by rw [hml], by rw [hml]; have := HMN.out; omega, HC1.out wc ls HN.out hcs5⟩)
          have P2 := Lib.hid (show Pc wc (.agg #[.slice A2 (n - m) (c - m), .int .i64 (lh + lp)]) (ls.drop m) (lh + lp) from ⟨A2, c - m, by rw [hdl], by rw [hdl]; omega, HC2.out wc ls HN.out hcs5⟩)
          have HSS := Lib.hid (fun (W1 : World) (hW : Below wc.heap.size wc W1) => (show (ldP (.pointer (some ⟨B1, 0, none⟩))).run Tryz.prog W1 = .ok (.agg #[.slice A1 m c, .int .i64 (lh + lp)]) W1 ∧ (ldP (.pointer (some ⟨B2, 0, none⟩))).run Tryz.prog W1 = .ok (.agg #[.slice A2 (n - m) (c - m), .int .i64 (lh + lp)]) W1 from ⟨ldP_run ((hW.block _ (Array.getElem?_eq_some_iff.1 HXX1.out).1).trans HXX1.out), ldP_run ((hW.block _ (Array.getElem?_eq_some_iff.1 HXX2.out).1).trans HXX2.out)⟩))
          have hnil : ∀ W : World, TrW W (.pointer none) .nil := fun W => ⟨rfl, trivial, by simp [cells]⟩
          have hlen := HLEN.out
          have C1 := Lib.hid (fun (W : World) (hW : Below wc.heap.size wc W) => (join_any (.pointer al) (.pointer none) _ (lift lp l) .nil (ls.take m) (lh + lp) W ((HT1.out.below HB5.out).below hW) (hnil W) (P1.out.below hW) (fun e => by have := congrArg List.length e; rw [hml] at this; have := HMN.out; simp at *; omega) HPT.out.2.2.2.2 (by rw [hml]; have := HMN.out; have := HN.out; simp [cells]; omega)).mono (R' := fun e w' => (∃ v t, e = .returned v ∧ TrW w' v t ∧ cells t = cells (lift lp l) ++ run (ls.take m) (lh + lp) ++ cells .nil) ∧ Below wc.heap.size wc w' ∧ Below W.heap.size W w') fun e w' ⟨h1, h2⟩ => ⟨h1, hW.trans (h2.mono hW.size), h2⟩)
          have C2 := Lib.hid (fun (W : World) (hW : Below wc.heap.size wc W) => (join_any (.pointer none) (.pointer ar) _ .nil (lift lp r) (ls.drop m) (lh + lp) W (hnil W) ((HT2.out.below HB5.out).below hW) (P2.out.below hW) (fun e => by have := congrArg List.length e; rw [hdl] at this; have := HMN.out; simp at *; omega) HPT.out.2.2.2.2 (by rw [hdl]; have := HMN.out; have := HN.out; simp [cells]; omega)).mono (R' := fun e w' => (∃ v t, e = .returned v ∧ TrW w' v t ∧ cells t = cells .nil ++ run (ls.drop m) (lh + lp) ++ cells (lift lp r)) ∧ Below wc.heap.size wc w' ∧ Below W.heap.size W w') fun e w' ⟨h1, h2⟩ => ⟨h1, hW.trans (h2.mono hW.size), h2⟩)
          clear hx1 hx2 hb hml hdl hcs5 hnc hnil hlen y0 y1 z0 f0 zs u0 k0 us hne hne' yb1 yb2
          obtain ⟨s1, s2⟩ := HSS.out _ (Below.refl _ _)
          go_wp2_with fail
          go_region_held3 (fun w' => (ldP (.pointer (some ⟨B1, 0, none⟩))).run Tryz.prog w' = .ok (.agg #[.slice A1 m c, .int .i64 (lh + lp)]) w' ∧ (ldP (.pointer (some ⟨B2, 0, none⟩))).run Tryz.prog w' = .ok (.agg #[.slice A2 (n - m) (c - m), .int .i64 (lh + lp)]) w')
            (first | (with_reducible exact HSS.out _ hbR) | (with_reducible exact HSS.out _ hbL) | (with_reducible exact HSS.out _ (Below.refl _ _).drew))
            (first
            | ((with_reducible refine (C1.out _ (Below.refl _ _).drew).mono ?_); rintro e wL ⟨⟨vL, tL, rfl, htL, hcL⟩, hbL, -⟩)
            | ((with_reducible refine (C2.out _ hbL).mono ?_); rintro e wR ⟨⟨vR, tR, rfl, htR, hcR⟩, hbR, hkR⟩))
          go_wp2_with fail
          go_ret2
          refine ⟨⟨vL, tL, vR, tR, rfl, htL.below hkR, htR, ?_, ?_⟩, HB1.out.trans ((HB5.out.trans (hbR.mono HB5.out.size)).mono HB1.out.size)⟩
          · rw [hcL, HCE.out, take_mid HK.out HM.out (by rw [HN.out]; have := HMN.out; omega)]
            simp [cells]
          · rw [hcR, HCE.out, drop_mid HK.out HM.out (by rw [HN.out]; have := HMN.out; omega)]
            simp [cells]
end
theorem split_all : ∀ (k : Nat) (v : Value) (t : T) (a : Nat) (w : World), hgt t ≤ k → a ≤ 2097152 → TrW w v t → Calls Tryz.prog 79 #[v, .int .i64 a] w (Parted (cells t) a w)
  | k, v, .nil, a, w, hk, ha, ht => by
    obtain rfl : v = .pointer none := ht.tr
    clear hk ha ht
    go_enter Tryz.func79, Tryz.ntmps79
    go_wp2_with fail
    go_ret2
    exact ⟨⟨_, .nil, _, .nil, rfl, ⟨rfl, trivial, by simp [cells]⟩, ⟨rfl, trivial, by simp [cells]⟩, by simp [cells], by simp [cells]⟩, Below.refl _ _⟩
  | 0, v, .node l ls lh r lp, a, w, hk, ha, ht => by simp [hgt] at hk
  | k + 1, v, .node l ls lh r lp, a, w, hk, ha, ht => split_step v l r ls lh lp a w ht ha fun vx t b W ht' hb hT =>
    split_all k vx t b W (by simp only [hgt] at hk; rcases ht' with rfl | rfl <;> rw [hgt_lift] <;> omega) hb hT
/-- split's contract. -/
theorem split_any (v : Value) (t : T) (a : Nat) (w : World) (ha : a ≤ 2097152) (ht : TrW w v t) : Calls Tryz.prog 79 #[v, .int .i64 a] w (Parted (cells t) a w) := split_all _ v t a w (Nat.le_refl _) ha ht
end Go.Proofs.YtkdhomiieenfnaaGreatDoor.Rp
