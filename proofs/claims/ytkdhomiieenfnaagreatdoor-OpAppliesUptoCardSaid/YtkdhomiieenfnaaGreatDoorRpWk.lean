/- A walk over a tree's pieces: walk, whatever is done at each. -/
import Derived.Test.YtkdhomiieenfnaaGreatDoorLs11
import Derived.Shelf.Abstract
namespace Go.Proofs.YtkdhomiieenfnaaGreatDoor.Rp
open Go.RowKit Go.Proofs Go.Proofs.YtkdhomiieenfnaaGreatDoor.U Go.Proofs.YtkdhomiieenfnaaGreatDoor.Txt
set_option linter.unusedVariables false
set_option linter.unusedSimpArgs false

/-- The kinds of blocks that a rope is made of. -/
def RopeT (T : TypeId) : Prop := T = 139 ∨ T = 21 ∨ T = 78 ∨ T = 114
/-- Blocks of a rope's kinds stay. -/
def KeepT (w w' : World) : Prop := w.heap.size ≤ w'.heap.size ∧ ∀ (k : Nat) (cs : Array Value) (T : TypeId) (fz : Nat × Nat), w.heap[k]? = some (Obj.cells cs T fz) → RopeT T → w'.heap[k]? = w.heap[k]?
theorem KeepT.refl (w : World) : KeepT w w := ⟨Nat.le_refl _, fun _ _ _ _ _ _ => rfl⟩
theorem KeepT.trans {w w1 w2 : World} (h : KeepT w w1) (h2 : KeepT w1 w2) : KeepT w w2 :=
  ⟨Nat.le_trans h.1 h2.1, fun k cs T fz hk hT => by
    have e := h.2 k cs T fz hk hT
    rw [h2.2 k cs T fz (e.trans hk) hT, e]⟩
theorem KeepT.of_below {w w' : World} (h : Below w.heap.size w w') : KeepT w w' := ⟨h.size, fun k cs T fz hk _ => h.block k (Array.getElem?_eq_some_iff.1 hk).1⟩
theorem Rn.keepT {w w' : World} (h : KeepT w w') {A : Option Addr} {rs : List Int} (hr : Rn w A rs) : Rn w' A rs := hr.kept (fun ad e => by
  obtain ⟨cs, fz, h1⟩ := hr.blk ad e
  exact h.2 _ _ _ _ h1 (.inr (.inl rfl)))
theorem Tr.keepT {w w' : World} (hk : KeepT w w') : ∀ {t : T} {v : Value}, Tr w v t → Tr w' v t
  | .nil, v, h => h
  | .node l rs k r p, v, ⟨b, A, c, vl, vr, h, c0, c1, c2, c3, c4, c5, c6, c7, c8, c9, c10, hc, hr, hl, hrr, cs, fz, hnd⟩ => by
    have hb := hk.2 b cs _ fz hnd (.inl rfl)
    have f : ∀ j, w'.cell? ⟨b, j, none⟩ = w.cell? ⟨b, j, none⟩ := fun j => by unfold World.cell?; rw [hb]
    exact ⟨b, A, c, vl, vr, h, (f 0).trans c0, (f 1).trans c1, (f 2).trans c2, (f 3).trans c3, (f 4).trans c4, (f 5).trans c5, (f 6).trans c6, (f 7).trans c7, (f 8).trans c8, (f 9).trans c9, (f 10).trans c10, hc, hr.keepT hk, Tr.keepT hk hl, Tr.keepT hk hrr, cs, fz, hb.trans hnd⟩
theorem TrW.keepT {w w' : World} (hk : KeepT w w') {t : T} {v : Value} (h : TrW w v t) : TrW w' v t := ⟨h.tr.keepT hk, h.wf, h.len⟩
theorem Pc.keepT {w w' : World} (hk : KeepT w w') {v : Value} {rs : List Int} {h : Int} (hp : Pc w v rs h) : Pc w' v rs h := by
  obtain ⟨A, c, h1, h2, h3⟩ := hp
  exact ⟨A, c, h1, h2, h3.keepT hk⟩
theorem Rope.keepT {w w' : World} (hk : KeepT w w') {b : Nat} {cs : List Cl} (h : Rope w b cs) : Rope w' b cs := by
  obtain ⟨v, t, h1, h2, h3⟩ := h
  exact ⟨v, t, (hk.2 b _ _ _ h1 (.inr (.inr (.inl rfl)))).trans h1, h2.keepT hk, h3⟩
/-- What a walk answers. -/
def Walked {σ : Type} (J : Bool → Nat → σ → World → Prop) (r : σ × Bool) (a : Nat) (w : World) (e : Ending) (w' : World) : Prop := e = .returned (.bool r.2) ∧ J r.2 a r.1 w' ∧ KeepT w w'
section
attribute [local go_sem] fldN
set_option maxRecDepth 100000 in
set_option maxHeartbeats 8000000 in
theorem walk_step {σ : Type} (g : FuncId) (cb : Array Value) (step : σ → Nat → Pce → σ × Bool) (J : Bool → Nat → σ → World → Prop) (Pr : Int → Prop) (lo : Nat) (hlo : lo ≤ 2097152) (eg : ∀ args w, (callFunc g args).run Tryz.prog w = .ok (.enter g args) w)
    (hJ : ∀ a s w w', J true a s w → Below w.heap.size w w' → J true a s w') (hM : ∀ go a a' s w, a ≤ a' → J go a s w → J go a' s w)
    (hs : ∀ s a (q : Pce) v W, J true a s W → Pc W v q.1 q.2 → q.1 ≠ [] → (∀ r ∈ q.1, Pr r) → 0 ≤ q.2 ∧ q.2 ≤ M → a + q.1.length ≤ 2097152 → lo < a + q.1.length → Calls Tryz.prog g (#[.int .i64 (a : Nat), v] ++ cb) W (Walked J (step s a q) (a + q.1.length) W))
    (v : Value) (l r : T) (ls : List Int) (lh lp : Int) (a : Nat) (s : σ) (w : World) (ht : TrW w v (.node l ls lh r lp)) (ha : a + (cells (.node l ls lh r lp)).length ≤ 2097152) (hj : J true a s w) (hpr : ∀ c ∈ cells (.node l ls lh r lp), Pr c.1)
    (IH : ∀ (vx : Value) (t : T) (b : Nat) (s : σ) (w : World), t = lift lp l ∨ t = lift lp r → b + (cells t).length ≤ 2097152 → (∀ c ∈ cells t, Pr c.1) → TrW w vx t → J true b s w → Calls Tryz.prog 53 #[vx, .int .i64 b, .int .i64 lo, .func (.func g) #[] cb] w (Walked J (walkF step lo b (pcs t) s) (b + (cells t).length) w)) :
    Calls Tryz.prog 53 #[v, .int .i64 a, .int .i64 lo, .func (.func g) #[] cb] w (Walked J (walkF step lo a (pcs (.node l ls lh r lp)) s) (a + (cells (.node l ls lh r lp)).length) w) := by
  have HS := Lib.hid hs
  have HJ := Lib.hid hJ
  have HMO := Lib.hid hM
  have HJ0 := Lib.hid hj
  have HIH := Lib.hid IH
  have HEG := Lib.hid eg
  have HPR := Lib.hid (show (∀ c ∈ cells (lift lp l), Pr c.1) ∧ (∀ x ∈ ls, Pr x) ∧ (∀ c ∈ cells (lift lp r), Pr c.1) by
    rw [cells_open] at hpr
    refine ⟨fun c hc => hpr c (by simp [hc]), fun x hx => hpr (x, lh + lp) (by simp [run, hx]), fun c hc => hpr c (by simp [hc])⟩)
  have HO := Lib.hid (open_any v l r ls lh lp w ht)
  have HPT := Lib.hid ht.wf.parts
  have hnl := ha
  rw [cells_open, List.length_append, List.length_append, run_len] at hnl
  have hfl : (flat (pcs (.node l ls lh r lp))).length = (cells (.node l ls lh r lp)).length := by rw [flat_pcs]
  obtain ⟨bb, A0, c00, vl0, vr0, hv, c0, -⟩ := ht.tr
  have hsn : (smT (.node l ls lh r lp)).n = ((cells (.node l ls lh r lp)).length : Int) := rfl
  rw [hsn] at c0
  have HSK := Lib.hid (walkF_skip step lo (pcs (.node l ls lh r lp)) a s)
  rw [hfl] at HSK
  have htl : (cells (.node l ls lh r lp)).length = (cells (lift lp l)).length + ls.length + (cells (lift lp r)).length := by rw [cells_open, List.length_append, List.length_append, run_len]
  obtain ⟨tn, htn⟩ : ∃ tn, (cells (.node l ls lh r lp)).length = tn := ⟨_, rfl⟩
  rw [htn] at HSK c0 ha htl ⊢
  have hwf := Lib.hid (show walkF step lo a (pcs (.node l ls lh r lp)) s = if (walkF step lo a (pcs (lift lp l)) s).2 then walkF step lo (a + (cells (lift lp l)).length) ((ls, lh + lp) :: pcs (lift lp r)) (walkF step lo a (pcs (lift lp l)) s).1 else ((walkF step lo a (pcs (lift lp l)) s).1, false) by
    rw [pcs_open, walkF_app, flat_pcs])
  subst hv
  have i0 : IntKind.i64.wrap ((a : Int) + tn) = (a : Int) + tn := IntWalk.i64_in _ (by omega)
  have d0 := fun o => cell_below (below_alloc1 w o) c0
  obtain ⟨Z, hZ⟩ : ∃ Z, walkF step lo a (pcs (.node l ls lh r lp)) s = Z := ⟨_, rfl⟩
  rw [hZ] at hwf HSK ⊢
  clear hs hJ hM hj hpr IH eg ht hfl hsn htn hZ
  by_cases hsk : a + tn ≤ lo
  · have b1 : (a : Int) + (tn : Int) ≤ (lo : Int) := by omega
    have HK := Lib.hid (HSK.out hsk)
    clear hsk
    go_enter Tryz.func53, Tryz.ntmps53
    go_wp2_with fail
    go_ret
    exact ⟨by rw [HK.out]; rfl, by rw [HK.out]; exact HMO.out _ _ _ _ _ (Nat.le_add_right _ _) HJ0.out, KeepT.refl _⟩
  · have b1 : ¬ (a : Int) + (tn : Int) ≤ (lo : Int) := by omega
    obtain ⟨m, hm⟩ : ∃ m, (cells (lift lp l)).length = m := ⟨_, rfl⟩
    obtain ⟨n1, hn1⟩ : ∃ n, ls.length = n := ⟨_, rfl⟩
    obtain ⟨hh, hhh⟩ : ∃ x, lh + lp = x := ⟨_, rfl⟩
    obtain ⟨m2, hm2⟩ : ∃ m, (cells (lift lp r)).length = m := ⟨_, rfl⟩
    rw [hm, hn1, hm2] at hnl htl
    rw [hm, hhh] at hwf
    have HM := Lib.hid hm
    have HN1 := Lib.hid hn1
    have HH := Lib.hid hhh
    have HM2 := Lib.hid hm2
    clear hsk hm hn1 hhh hm2 HSK
    go_enter Tryz.func53, Tryz.ntmps53
    go_wp2_with fail
    refine HO.out.mono ?_
    rintro e w1 ⟨⟨vl, vp, vr, rfl, ht1, ht2, A, c, rfl, hc, hcs⟩, hb1⟩
    rw [HN1.out, HH.out]
    have HT1 := Lib.hid ht1
    have HT2 := Lib.hid ht2
    have HB1 := Lib.hid hb1
    have HP1 := Lib.hid (show Pc w1 (.agg #[.slice A n1 c, .int .i64 hh]) ls hh from ⟨A, c, by rw [HN1.out], hc, hcs⟩)
    clear ht1 ht2 hb1 hc hcs c0 d0 b1 i0 HO
    go_upto_region 4 with fail
    obtain ⟨w2, hw2⟩ : ∃ w2, w1.alloc (.cells #[.slice A n1 c, .int .i64 hh] 114) = w2 := ⟨_, rfl⟩
    have hb12 : Below w1.heap.size w1 w2 := by rw [← hw2]; exact below_alloc1 _ _
    have hy2 : w2.heap[w1.heap.size]? = some (.cells #[.slice A n1 c, .int .i64 hh] 114 (0, 0)) := by rw [← hw2]; exact heap_at rfl
    rw [hw2]
    obtain ⟨gr, hgr⟩ : ∃ gr, w1.heap.size = gr := ⟨_, rfl⟩
    rw [hgr] at hy2 ⊢
    have HY2 := Lib.hid hy2
    have HT12 := Lib.hid (HT1.out.below hb12)
    have HT22 := Lib.hid (HT2.out.below hb12)
    have HP2 := Lib.hid (HP1.out.below hb12)
    have HB2 := Lib.hid (HB1.out.trans (hb12.mono HB1.out.size))
    have HK2 := Lib.hid (KeepT.of_below HB2.out)
    have HJ2 := Lib.hid (HJ.out _ _ _ _ HJ0.out HB2.out)
    clear hw2 hb12 hy2 hgr HT1 HT2 HP1 HB1
    have HC3 := Lib.hid (HIH.out vl (lift lp l) a s w2 (.inl rfl) (by rw [HM.out]; omega) HPR.out.1 HT12.out HJ2.out)
    obtain ⟨⟨s1, r1⟩, hx1⟩ : ∃ x, walkF step lo a (pcs (lift lp l)) s = x := ⟨_, rfl⟩
    rw [hx1, HM.out] at HC3
    rw [hx1] at hwf
    clear hx1
    simp only at hwf
    cases r1 with
    | false =>
      have HZ := Lib.hid (show Z = (s1, false) by have := hwf.out; rw [if_neg (by decide)] at this; exact this)
      go_wp2_with fail
      refine HC3.out.mono ?_
      rintro e w3 ⟨rfl, hj3, hk3⟩
      have HJ3 := Lib.hid hj3
      have HK3 := Lib.hid (HK2.out.trans hk3)
      clear hj3 hk3
      go_wp2_with fail
      go_ret
      exact ⟨by rw [HZ.out]; rfl, by rw [HZ.out]; exact HMO.out _ _ _ _ _ (by omega) HJ3.out, HK3.out⟩
    | true =>
      have HZ := Lib.hid (show Z = walkF step lo (a + m) ((ls, hh) :: pcs (lift lp r)) s1 by have := hwf.out; rw [if_pos rfl] at this; exact this)
      go_wp2_with fail
      refine HC3.out.mono ?_
      rintro e w3 ⟨rfl, hj3, hk3⟩
      have HJ3 := Lib.hid hj3
      have HK3 := Lib.hid (HK2.out.trans hk3)
      have HT13 := Lib.hid (HT12.out.keepT hk3)
      have HT23 := Lib.hid (HT22.out.keepT hk3)
      have HP3 := Lib.hid (HP2.out.keepT hk3)
      have HY3 := Lib.hid ((hk3.2 _ _ _ _ HY2.out (.inr (.inr (.inr rfl)))).trans HY2.out)
      clear hj3 hk3 HC3 hwf HT12 HT22 HP2
      have HC4 := Lib.hid (all_any _ _ w3 HT13.out.tr)
      have hsm : (smT (lift lp l)).n = (m : Int) := by show ((cells (lift lp l)).length : Int) = m; rw [HM.out]
      obtain ⟨sl, hsl⟩ : ∃ sl, smT (lift lp l) = sl := ⟨_, rfl⟩
      rw [hsl] at HC4 hsm
      obtain ⟨k1, k2, k3, k4, k5, k6⟩ := sl
      simp only at hsm
      subst hsm
      unfold Sm.v at HC4
      clear hsl
      obtain ⟨avl, rfl⟩ := HT13.out.tr.ptr
      have i1 : IntKind.i64.wrap ((a : Int) + m) = (a : Int) + m := IntWalk.i64_in _ (by omega)
      have i2 : IntKind.i64.wrap ((a : Int) + m + n1) = (a : Int) + m + n1 := IntWalk.i64_in _ (by omega)
      go_wp2_with fail
      refine HC4.out.mono ?_
      rintro e w4 ⟨rfl, hb4⟩
      have HK4 := Lib.hid (HK3.out.trans (KeepT.of_below hb4))
      have HJ4 := Lib.hid (HJ.out _ _ _ _ HJ3.out hb4)
      have HT24 := Lib.hid (HT23.out.below hb4)
      have HP4 := Lib.hid (HP3.out.below hb4)
      have HY4 := Lib.hid ((hb4.block _ (Array.getElem?_eq_some_iff.1 HY3.out).1).trans HY3.out)
      clear hb4 HC4 HT13 HT23 HP3
      have e0 : w4.cell? ⟨gr, 0, none⟩ = some (.slice A n1 c) := by rw [Lib.cell_of_heap HY4.out]; rfl
      have e1 : w4.cell? ⟨gr, 1, none⟩ = some (.int .i64 hh) := by rw [Lib.cell_of_heap HY4.out]; rfl
      by_cases hgo : lo < a + m + n1
      · have b2 : (lo : Int) < (a : Int) + m + n1 := by omega
        have HC5 := Lib.hid (HS.out s1 (a + m) (ls, hh) (.agg #[.slice A n1 c, .int .i64 hh]) w4 HJ4.out HP4.out HPT.out.2.2.2.1 HPR.out.2.1 (by have := HPT.out.2.2.2.2; rw [HH.out] at this; exact this) (by simp only [HN1.out]; omega) (by simp only [HN1.out]; omega))
        rw [show (((a + m : Nat)) : Int) = (a : Int) + m by omega] at HC5
        have HZ2 := Lib.hid (show Z = if (step s1 (a + m) (ls, hh)).2 then walkF step lo (a + m + n1) (pcs (lift lp r)) (step s1 (a + m) (ls, hh)).1 else ((step s1 (a + m) (ls, hh)).1, false) by
          rw [HZ.out, walkF, if_pos (by simp only [HN1.out]; exact hgo)]
          simp only [HN1.out])
        have eg := HEG.out
        obtain ⟨⟨s5, r5⟩, hx5⟩ : ∃ x, step s1 (a + m) (ls, hh) = x := ⟨_, rfl⟩
        rw [hx5, HN1.out] at HC5
        rw [hx5] at HZ2
        clear hx5 hgo
        simp only at HZ2
        cases r5 with
        | false =>
          have HZ5 := Lib.hid (show Z = (s5, false) by have := HZ2.out; rw [if_neg (by decide)] at this; exact this)
          go_wp2_with (go_at_fn g; refine HC5.out.mono ?_; rintro e w5 ⟨rfl, hj5, hk5⟩; have HJ5 := Lib.hid hj5; have HK5 := Lib.hid (HK4.out.trans hk5); clear hj5 hk5)
          go_ret
          exact ⟨by rw [HZ5.out]; rfl, by rw [HZ5.out]; exact HMO.out _ _ _ _ _ (by omega) HJ5.out, HK5.out⟩
        | true =>
          have HZ5 := Lib.hid (show Z = walkF step lo (a + m + n1) (pcs (lift lp r)) s5 by have := HZ2.out; rw [if_pos rfl] at this; exact this)
          go_wp2_with (go_at_fn g; refine HC5.out.mono ?_; rintro e w5 ⟨rfl, hj5, hk5⟩; have HJ5 := Lib.hid hj5; have HK5 := Lib.hid (HK4.out.trans hk5); have HT25 := Lib.hid (HT24.out.keepT hk5); have f0 : w5.cell? ⟨gr, 0, none⟩ = some (.slice A n1 c) := (by rw [Lib.cell_of_heap ((hk5.2 _ _ _ _ HY4.out (.inr (.inr (.inr rfl)))).trans HY4.out)]; rfl); clear hj5 hk5 e0 e1)
          have HC6 := Lib.hid (HIH.out vr (lift lp r) (a + m + n1) s5 w5 (.inr rfl) (by rw [HM2.out]; omega) HPR.out.2.2 HT25.out HJ5.out)
          rw [show (((a + m + n1 : Nat)) : Int) = (a : Int) + m + n1 by omega, ← HZ5.out] at HC6
          refine HC6.out.mono ?_
          rintro e w6 ⟨rfl, hj6, hk6⟩
          have HF := Lib.hid (And.intro (HMO.out _ _ _ _ _ (show a + m + n1 + (cells (lift lp r)).length ≤ a + tn by rw [HM2.out]; omega) hj6) (HK5.out.trans hk6))
          clear hj6 hk6
          go_wp2_with fail
          go_ret
          exact ⟨rfl, HF.out⟩
      · have b2 : ¬ (lo : Int) < (a : Int) + m + n1 := by omega
        have HZ5 := Lib.hid (show Z = walkF step lo (a + m + n1) (pcs (lift lp r)) s1 by
          rw [HZ.out, walkF, if_neg (by simp only [HN1.out]; exact hgo)]
          simp only [HN1.out])
        have HC6 := Lib.hid (HIH.out vr (lift lp r) (a + m + n1) s1 w4 (.inr rfl) (by rw [HM2.out]; omega) HPR.out.2.2 HT24.out (HMO.out _ _ _ _ _ (by omega) HJ4.out))
        rw [show (((a + m + n1 : Nat)) : Int) = (a : Int) + m + n1 by omega, ← HZ5.out] at HC6
        clear hgo
        go_wp2_with fail
        refine HC6.out.mono ?_
        rintro e w6 ⟨rfl, hj6, hk6⟩
        have HF := Lib.hid (And.intro (HMO.out _ _ _ _ _ (show a + m + n1 + (cells (lift lp r)).length ≤ a + tn by rw [HM2.out]; omega) hj6) (HK4.out.trans hk6))
        clear hj6 hk6
        go_wp2_with fail
        go_ret
        exact ⟨rfl, HF.out⟩
end
theorem walk_any {σ : Type} (g : FuncId) (cb : Array Value) (step : σ → Nat → Pce → σ × Bool) (J : Bool → Nat → σ → World → Prop) (Pr : Int → Prop) (lo : Nat) (hlo : lo ≤ 2097152) (eg : ∀ args w, (callFunc g args).run Tryz.prog w = .ok (.enter g args) w)
    (hJ : ∀ a s w w', J true a s w → Below w.heap.size w w' → J true a s w') (hM : ∀ go a a' s w, a ≤ a' → J go a s w → J go a' s w)
    (hs : ∀ s a (q : Pce) v W, J true a s W → Pc W v q.1 q.2 → q.1 ≠ [] → (∀ r ∈ q.1, Pr r) → 0 ≤ q.2 ∧ q.2 ≤ M → a + q.1.length ≤ 2097152 → lo < a + q.1.length → Calls Tryz.prog g (#[.int .i64 (a : Nat), v] ++ cb) W (Walked J (step s a q) (a + q.1.length) W)) :
    ∀ (n : Nat) (t : T) (v : Value) (a : Nat) (s : σ) (w : World), hgt t ≤ n → a + (cells t).length ≤ 2097152 → (∀ c ∈ cells t, Pr c.1) → TrW w v t → J true a s w → Calls Tryz.prog 53 #[v, .int .i64 a, .int .i64 lo, .func (.func g) #[] cb] w (Walked J (walkF step lo a (pcs t) s) (a + (cells t).length) w) := by
  intro n
  induction n with
  | zero =>
    intro t v a s w hn ha hpr ht hj
    obtain rfl := hgt_zero (Nat.le_zero.1 hn)
    obtain rfl : v = .pointer none := ht.tr
    have HJ := Lib.hid hj
    clear hj ht ha hn hs hJ hM hpr eg
    go_enter Tryz.func53, Tryz.ntmps53
    go_wp2_with fail
    go_ret
    exact ⟨rfl, HJ.out, KeepT.refl _⟩
  | succ n ih =>
    intro t v a s w hn ha hpr ht hj
    cases t with
    | nil => exact ih .nil v a s w (Nat.zero_le _) ha hpr ht hj
    | node l ls lh r lp =>
      refine walk_step g cb step J Pr lo hlo eg hJ hM hs v l r ls lh lp a s w ht ha hj hpr fun vx t b s w h1 h2 h5 h3 h4 => ih t vx b s w ?_ h2 h5 h3 h4
      simp only [hgt] at hn
      rcases h1 with rfl | rfl <;> rw [hgt_lift] <;> omega
end Go.Proofs.YtkdhomiieenfnaaGreatDoor.Rp
