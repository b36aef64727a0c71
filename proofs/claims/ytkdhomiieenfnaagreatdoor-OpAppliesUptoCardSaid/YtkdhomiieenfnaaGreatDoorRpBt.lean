/- The visible stretches between two places, whatever is done with each: between. -/
import Derived.Test.YtkdhomiieenfnaaGreatDoorRpWk
import Derived.StillTailTactics
namespace Go.Proofs.YtkdhomiieenfnaaGreatDoor.Rp
open Go.RowKit Go.Proofs Go.Proofs.YtkdhomiieenfnaaGreatDoor.U Go.Proofs.YtkdhomiieenfnaaGreatDoor.Txt
set_option linter.unusedVariables false
set_option linter.unusedSimpArgs false

/-- Blocks that hold no single number stay. -/
def KeepN (w w' : World) : Prop := w.heap.size ≤ w'.heap.size ∧ ∀ (k : Nat) (o : Obj), w.heap[k]? = some o → (∀ cs fz, o ≠ .cells cs 3 fz) → w'.heap[k]? = some o
theorem KeepN.of_below {w w' : World} (h : Below w.heap.size w w') : KeepN w w' := ⟨h.size, fun k o hk _ => (h.block k (Array.getElem?_eq_some_iff.1 hk).1).trans hk⟩
theorem KeepN.trans {w w1 w2 : World} (h : KeepN w w1) (h2 : KeepN w1 w2) : KeepN w w2 := ⟨Nat.le_trans h.1 h2.1, fun k o hk ho => h2.2 k o (h.2 k o hk ho) ho⟩
theorem KeepN.set {w : World} {b : Nat} {x v : Value} {fz : Nat × Nat} (h : w.heap[b]? = some (.cells #[x] 3 fz)) : KeepN w (w.setCell ⟨b, 0, none⟩ v) := ⟨by simp [World.setCell], fun k o hk ho => by
  have hne : k ≠ b := by rintro rfl; rw [h] at hk; exact ho _ _ (Option.some.inj hk).symm
  rw [← hk]
  simp [World.setCell, Array.getElem?_modify, Ne.symm hne]⟩
/-- Blocks of a rope's kinds stay, and those of single numbers and functions. -/
def KeepU (w w' : World) : Prop := w.heap.size ≤ w'.heap.size ∧ ∀ (k : Nat) (cs : Array Value) (T : TypeId) (fz : Nat × Nat), w.heap[k]? = some (Obj.cells cs T fz) → (RopeT T ∨ T = 3 ∨ T = 164) → w'.heap[k]? = w.heap[k]?
theorem KeepU.of_below {w w' : World} (h : Below w.heap.size w w') : KeepU w w' := ⟨h.size, fun k cs T fz hk _ => h.block k (Array.getElem?_eq_some_iff.1 hk).1⟩
theorem KeepU.trans {w w1 w2 : World} (h : KeepU w w1) (h2 : KeepU w1 w2) : KeepU w w2 :=
  ⟨Nat.le_trans h.1 h2.1, fun k cs T fz hk hT => by
    have e := h.2 k cs T fz hk hT
    rw [h2.2 k cs T fz (e.trans hk) hT, e]⟩
theorem KeepU.t {w w' : World} (h : KeepU w w') : KeepT w w' := ⟨h.1, fun k cs T fz hk hT => h.2 k cs T fz hk (.inl hT)⟩
theorem KeepT.set {w : World} {b : Nat} {x v : Value} {T : TypeId} {fz : Nat × Nat} (h : w.heap[b]? = some (.cells #[x] T fz)) (hT : ¬ RopeT T) : KeepT w (w.setCell ⟨b, 0, none⟩ v) := ⟨by simp [World.setCell], fun k cs T' fz' hk hT' => by
  have hne : k ≠ b := by rintro rfl; rw [h] at hk; exact hT ((Obj.cells.inj (Option.some.inj hk)).2.1 ▸ hT')
  simp [World.setCell, Array.getElem?_modify, Ne.symm hne]⟩
/-- What between keeps in its boxes. -/
structure JB {σ : Type} (J : Nat → σ → World → Prop) (B0 bf bl bs f : Nat) (g : FuncId) (cb : Array Value) (go : Bool) (p : Nat) (s : Nat × σ) (W : World) : Prop where
  j : J p s.2 W
  hf : W.heap[bf]? = some (.cells #[.int .i64 f] 3 (0, 0))
  hl : W.heap[bl]? = some (.cells #[.int .i64 s.1] 3 (0, 0))
  hs : W.heap[bs]? = some (.cells #[.func (.func g) #[] cb] 164 (0, 0))
  ne : bf ≠ bl
  ge : B0 ≤ bl
  pos : go = true → 0 < s.1
  le : s.1 ≤ 2097152
theorem JB.below {σ : Type} {J : Nat → σ → World → Prop} {B0 bf bl bs f : Nat} {g : FuncId} {cb : Array Value} {go : Bool} {p : Nat} {s : Nat × σ} {w w' : World} (hJ : ∀ p s w w', J p s w → B0 ≤ w.heap.size → Below B0 w w' → KeepN w w' → J p s w') (h : JB J B0 bf bl bs f g cb go p s w) (hb : Below w.heap.size w w') : JB J B0 bf bl bs f g cb go p s w' := by
  have hl := (Array.getElem?_eq_some_iff.1 h.hl).1
  have h0 : B0 ≤ w.heap.size := by have := h.ge; omega
  exact ⟨hJ _ _ _ _ h.j h0 (hb.mono h0) (KeepN.of_below hb), (hb.block _ (Array.getElem?_eq_some_iff.1 h.hf).1).trans h.hf, (hb.block _ hl).trans h.hl, (hb.block _ (Array.getElem?_eq_some_iff.1 h.hs).1).trans h.hs, h.ne, h.ge, h.pos, h.le⟩
theorem JB.mono {σ : Type} {J : Nat → σ → World → Prop} {B0 bf bl bs f : Nat} {g : FuncId} {cb : Array Value} {go : Bool} {p p' : Nat} {s : Nat × σ} {w : World} (hM : ∀ p p' s w, p ≤ p' → J p s w → J p' s w) (h : JB J B0 bf bl bs f g cb go p s w) (hp : p ≤ p') : JB J B0 bf bl bs f g cb go p' s w :=
  ⟨hM _ _ _ _ hp h.j, h.hf, h.hl, h.hs, h.ne, h.ge, h.pos, h.le⟩
theorem one_cell {w : World} {B : Nat} {x : Value} {T : TypeId} (h : w.heap[B]? = some (.cells #[x] T (0, 0))) : w.cell? ⟨B, 0, none⟩ = some x := (one_facts h).1
set_option maxRecDepth 100000 in
set_option maxHeartbeats 8000000 in
theorem stepB_any {σ : Type} (g : FuncId) (cb : Array Value) (inner : σ → Nat → List Int → σ) (J : Nat → σ → World → Prop) (Pr : Int → Prop) (B0 bf bl bs f : Nat) (eg : ∀ args w, (callFunc g args).run Tryz.prog w = .ok (.enter g args) w)
    (hJ : ∀ p s w w', J p s w → B0 ≤ w.heap.size → Below B0 w w' → KeepN w w' → J p s w')
    (hM : ∀ p p' s w, p ≤ p' → J p s w → J p' s w)
    (hin : ∀ s a l A c W, J a s W → B0 ≤ W.heap.size → Rn W A l → l.length ≤ c → l ≠ [] → (∀ r ∈ l, Pr r) → a + l.length ≤ 2097152 → Calls Tryz.prog g (#[.int .i64 (a : Nat), .slice A l.length c] ++ cb) W fun e w' => e = .returned (.tuple #[]) ∧ J (a + l.length) (inner s a l) w' ∧ KeepU W w')
    (s : Nat × σ) (a : Nat) (q : Pce) (v : Value) (W : World) (hj : JB J B0 bf bl bs f g cb true a s W) (hp : Pc W v q.1 q.2) (hne : q.1 ≠ []) (hpr : ∀ r ∈ q.1, Pr r) (hq : 0 ≤ q.2 ∧ q.2 ≤ M) (ha : a + q.1.length ≤ 2097152) (hlo : f < a + q.1.length) (hf : f ≤ 2097152) :
    Calls Tryz.prog 133 (#[.int .i64 (a : Nat), v] ++ #[.pointer (some ⟨bf, 0, none⟩), .pointer (some ⟨bl, 0, none⟩), .pointer (some ⟨bs, 0, none⟩)]) W (Walked (JB J B0 bf bl bs f g cb) (stepB inner f s a q) (a + q.1.length) W) := by
  have HJ := Lib.hid hJ
  have HIN := Lib.hid hin
  have HMO := Lib.hid hM
  have HJ0 := Lib.hid hj
  have hs0 := hj.pos rfl
  have hs1 := hj.le
  obtain ⟨rs, h⟩ := q
  obtain ⟨left, s⟩ := s
  obtain ⟨A, c, rfl, hc, hr⟩ := hp
  simp only at hr hne hpr hq ha hlo hs0 hs1 hc ⊢
  obtain ⟨n, hn⟩ : ∃ n, rs.length = n := ⟨_, rfl⟩
  rw [hn] at ha hlo hc ⊢
  have HN := Lib.hid hn
  have HR := Lib.hid hr
  have HNE := Lib.hid hne
  obtain ⟨k, hk⟩ : ∃ k, f - a = k := ⟨_, rfl⟩
  have hn0 := List.length_pos_iff.2 hne
  rw [hn] at hn0
  have hkn : k < n := by omega
  by_cases hh : 0 < h
  · have HS := Lib.hid (show stepB inner f (left, s) a (rs, h) = ((left, s), true) from if_pos hh)
    clear hJ hM hin hj hr hpr hne hq hn hk hkn hn0 hs0 hs1
    go_enter Tryz.func133, Tryz.ntmps133
    go_wp2_with fail
    go_ret
    exact ⟨by rw [HS.out]; rfl, by rw [HS.out]; exact (HJ0.out.mono HMO.out (Nat.le_add_right _ _)).below HJ.out (below_alloc1 _ _), KeepT.of_below (below_alloc1 _ _)⟩
  · have HS := Lib.hid (show stepB inner f (left, s) a (rs, h) = ((left - min left (n - k), inner s (a + k) ((rs.drop k).take left)), decide (0 < left - min left (n - k))) by
      have e : stepB inner f (left, s) a (rs, h) = ((left - ((rs.drop (f - a)).take left).length, inner s (a + (f - a)) ((rs.drop (f - a)).take left)), decide (0 < left - ((rs.drop (f - a)).take left).length)) := if_neg hh
      rw [e, hk, List.length_take, List.length_drop, hn])
    obtain ⟨A1, hA1, hA2⟩ := rune_tail A n c k (by omega) hc
    have hr1 := hA2 W rs hn hr
    have hA1n : A1 = none → n - k = 0 ∧ c - k = 0 := fun e => by
      have := hr1.cells (by rw [List.length_drop, hn]; omega)
      obtain ⟨ad, e2, _⟩ := this
      rw [e] at e2; cases e2
    obtain ⟨m, hm⟩ : ∃ m, min left (n - k) = m := ⟨_, rfl⟩
    rw [hm] at HS
    obtain ⟨A2, hB1, hB2⟩ := rune_head A1 (n - k) (c - k) m (by omega) (by omega) hA1n
    have hr2 := hB2 W _ (by rw [List.length_drop, hn]) hr1
    have htk : (rs.drop k).take m = (rs.drop k).take left := by
      rw [← hm]
      rcases Nat.lt_or_ge (n - k) left with h9 | h9
      · rw [Nat.min_eq_right (Nat.le_of_lt h9), List.take_of_length_le (by rw [List.length_drop, hn]; exact Nat.le_refl _), List.take_of_length_le (by rw [List.length_drop, hn]; omega)]
      · rw [Nat.min_eq_left h9]
    rw [htk] at hr2
    obtain ⟨L, hL⟩ : ∃ L, (rs.drop k).take left = L := ⟨_, rfl⟩
    rw [hL] at hr2 HS
    have hLl : L.length = m := by rw [← hL, List.length_take, List.length_drop, hn, hm]
    have hmp : 0 < m := by omega
    have HR2 := Lib.hid hr2
    have HLL := Lib.hid hLl
    have HPL := Lib.hid (show ∀ r ∈ L, Pr r from fun r hr => hpr r (by rw [← hL] at hr; exact List.mem_of_mem_drop (List.mem_of_mem_take hr)))
    have HLN := Lib.hid (show L ≠ [] by intro e; rw [e] at hLl; simp at hLl; omega)
    have hmle : m ≤ left := by omega
    have hmn : m ≤ n - k := by omega
    obtain ⟨nk, hnk⟩ : ∃ nk, n - k = nk := ⟨_, rfl⟩
    obtain ⟨ck, hck⟩ : ∃ ck, c - k = ck := ⟨_, rfl⟩
    rw [hnk] at hA1 hB1 hmn hm
    rw [hck] at hA1 hB1
    have hmc : m ≤ ck := by omega
    have HMN := Lib.hid (show k + m ≤ n by omega)
    have hak : a + k + m ≤ 2097152 := by omega
    have j1 : IntKind.i64.wrap ((f : Int) - a) = (f : Int) - a := IntWalk.i64_in _ (by omega)
    have HJ2 := Lib.hid (show max (0 : Int) ((f : Int) - a) = (k : Int) by omega)
    have HJ3 := Lib.hid (show m = min left nk by omega)
    have j4 : IntKind.i64.wrap ((a : Int) + k) = (a : Int) + k := IntWalk.i64_in _ (by omega)
    have j5 : IntKind.i64.wrap ((left : Int) - m) = (left : Int) - m := IntWalk.i64_in _ (by omega)
    obtain ⟨lm, hlm⟩ : ∃ lm, left - m = lm := ⟨_, rfl⟩
    rw [hlm] at HS
    have j6 : (left : Int) - m = (lm : Int) := by omega
    have eg' := eg
    have f0 := one_cell hj.hf
    have f1 := one_cell hj.hl
    have f2 := one_cell hj.hs
    have d0 := fun o => cell_below (below_alloc1 W o) f0
    have d1 := fun o => cell_below (below_alloc1 W o) f1
    have d2 := fun o => cell_below (below_alloc1 W o) f2
    have hBW : B0 ≤ W.heap.size := by have := hj.ge; have := (Array.getElem?_eq_some_iff.1 hj.hl).1; omega
    have HBW := Lib.hid hBW
    clear hJ hM hin hj hr hpr hne hq hn hk hkn hA2 hr1 hA1n hB2 hr2 hL hLl hm htk hnk hck hlm eg f0 f1 f2 hBW hmp hc ha hlo hs0 hmn hn0
    go_enter Tryz.func133, Tryz.ntmps133
    go_upto_region 3 with fail
    obtain ⟨w1, hw1⟩ : ∃ w1, W.alloc (.cells #[.slice A n c, .int .i64 h] 114) = w1 := ⟨_, rfl⟩
    obtain ⟨gr, hgr⟩ : ∃ gr, W.heap.size = gr := ⟨_, rfl⟩
    have e0 := d0 (.cells #[.slice A n c, .int .i64 h] 114)
    have e1 := d1 (.cells #[.slice A n c, .int .i64 h] 114)
    have e2 := d2 (.cells #[.slice A n c, .int .i64 h] 114)
    have hy1 : w1.heap[gr]? = some (.cells #[.slice A n c, .int .i64 h] 114 (0, 0)) := by rw [← hw1, ← hgr]; exact heap_at rfl
    have HB1 := Lib.hid (show Below W.heap.size W w1 by rw [← hw1]; exact below_alloc1 _ _)
    rw [hw1] at e0 e1 e2
    rw [hw1]
    rw [hgr]
    have y0 : w1.cell? ⟨gr, 0, none⟩ = some (.slice A n c) := by rw [Lib.cell_of_heap hy1]; rfl
    clear hw1 hgr d0 d1 d2 hy1
    go_cut [8] (fun v wx => v = .int .i64 k ∧ w1 = wx)
    case first =>
      go_wp2_with fail
      all_goals go_meet
      all_goals exact ⟨congrArg (Value.int .i64) (by have := HJ2.out; omega), rfl⟩
    case rest =>
      obtain ⟨rfl, rfl⟩ := hcut
      go_upto_region 5 with fail
      go_cut [9] (fun v wx => v = .slice A2 m ck ∧ w1 = wx)
      case first =>
        rcases Nat.lt_or_ge nk left with h9 | h9
        · have h8 := HJ3.out
          rw [Nat.min_eq_right (Nat.le_of_lt h9)] at h8
          subst h8
          have h7 : ¬ (left : Int) ≤ (m : Int) := by omega
          have h6 : (m : Int) < (left : Int) := by omega
          go_wp2_with fail
          go_meet
          exact ⟨rfl, rfl⟩
        · have h8 := HJ3.out
          rw [Nat.min_eq_left h9] at h8
          subst h8
          have h7 : (m : Int) ≤ (nk : Int) := by omega
          have h6 : ¬ (nk : Int) < (m : Int) := by omega
          go_wp2_with fail
          go_meet
          exact ⟨rfl, rfl⟩
      case rest =>
        obtain ⟨rfl, rfl⟩ := hcut
        have HB1' := Lib.hid (HJ0.out.below HJ.out HB1.out)
        have HC := Lib.hid (HIN.out s (a + k) L A2 ck w1 (HMO.out _ _ _ _ (Nat.le_add_right _ _) HB1'.out.j) (Nat.le_trans HBW.out HB1.out.size) (HR2.out.below HB1.out) (by rw [HLL.out]; exact hmc) HLN.out HPL.out (by rw [HLL.out]; exact hak))
        rw [HLL.out, show (((a + k : Nat)) : Int) = (a : Int) + k by omega] at HC
        go_wp2_with (go_at_fn g; refine HC.out.mono ?_; rintro e w5 ⟨rfl, hj5, hk5⟩; have HJ5 := Lib.hid hj5; have HK5 := Lib.hid hk5; have b5 := (hk5.2 _ _ _ _ HB1'.out.hl (.inr (.inl rfl))).trans HB1'.out.hl; have B5 := Lib.hid b5; have f5 := one_cell b5; have g5 := (one_facts b5).2; clear hj5 hk5 e0 e1 e2 y0 b5)
        go_ret
        have h8 := HB1'.out
        have hne1 : bs ≠ bl := by
          intro e
          have h1 := h8.hs
          rw [e, h8.hl] at h1
          exact absurd (Obj.cells.inj (Option.some.inj h1)).2.1 (by decide)
        have hoth : ∀ k, k ≠ bl → (w5.setCell ⟨bl, 0, none⟩ (.int .i64 lm)).heap[k]? = w5.heap[k]? := fun k hk => by simp [World.setCell, Array.getElem?_modify, Ne.symm hk]
        have hB5 : B0 ≤ w5.heap.size := by have := HK5.out.1; have := HB1.out.size; have := HBW.out; omega
        refine ⟨by rw [HS.out]; rfl, ?_, ((KeepT.of_below HB1.out).trans HK5.out.t).trans (KeepT.set B5.out (by unfold RopeT; decide))⟩
        rw [HS.out]
        exact ⟨HJ.out _ _ _ _ (HMO.out _ _ _ _ (show a + k + m ≤ a + n by have := HMN.out; omega) HJ5.out) hB5 ((Below.refl _ _).setCell (p := ⟨bl, 0, none⟩) h8.ge _) (KeepN.set B5.out), (hoth _ h8.ne).trans ((HK5.out.2 _ _ _ _ h8.hf (.inr (.inl rfl))).trans h8.hf), by simp [World.setCell, Array.getElem?_modify, B5.out], (hoth _ hne1).trans ((HK5.out.2 _ _ _ _ h8.hs (.inr (.inr rfl))).trans h8.hs), h8.ne, h8.ge, fun e => by simpa using e, by simp only; omega⟩
set_option maxRecDepth 100000 in
set_option maxHeartbeats 8000000 in
/-- between's contract: what inner makes of the visible cells lo to hi - 1. -/
theorem between_any {σ : Type} (g : FuncId) (cb : Array Value) (inner : σ → Nat → List Int → σ) (J : Nat → σ → World → Prop) (Pr : Int → Prop) (B0 : Nat) (eg : ∀ args w, (callFunc g args).run Tryz.prog w = .ok (.enter g args) w)
    (hpure : ∀ s a l, l ≠ [] → inner s a l = inner1 inner s (vpos a (run l 0)))
    (hJ : ∀ p s w w', J p s w → B0 ≤ w.heap.size → Below B0 w w' → KeepN w w' → J p s w')
    (hM : ∀ p p' s w, p ≤ p' → J p s w → J p' s w)
    (hin : ∀ s a l A c W, J a s W → B0 ≤ W.heap.size → Rn W A l → l.length ≤ c → l ≠ [] → (∀ r ∈ l, Pr r) → a + l.length ≤ 2097152 → Calls Tryz.prog g (#[.int .i64 (a : Nat), .slice A l.length c] ++ cb) W fun e w' => e = .returned (.tuple #[]) ∧ J (a + l.length) (inner s a l) w' ∧ KeepU W w')
    (b : Nat) (cs : List Cl) (lo hi : Nat) (s : σ) (w : World) (hR : Rope w b cs) (hlh : lo ≤ hi) (hh : hi ≤ shown cs) (hj : J 0 s w) (hpr : ∀ c ∈ cs, Pr c.1) (hB : B0 ≤ w.heap.size) :
    Calls Tryz.prog 103 #[.pointer (some ⟨b, 0, none⟩), .int .i64 lo, .int .i64 hi, .func (.func g) #[] cb] w fun e w' => e = .returned (.tuple #[]) ∧ J cs.length (inner1 inner s (((vpos 0 cs).drop lo).take (hi - lo))) w' ∧ KeepT w w' := by
  have HJ := Lib.hid hJ
  have HIN := Lib.hid hin
  have HMO := Lib.hid hM
  have HR := Lib.hid hR
  have HJ0 := Lib.hid hj
  have HPR := Lib.hid hpr
  have HB := Lib.hid hB
  have hsl := shown_le cs
  have hcl : cs.length ≤ 2097152 := by obtain ⟨v, t, h1, h2, h3⟩ := hR; rw [← h3]; exact h2.len
  by_cases he : lo = hi
  · subst he
    have hfin : inner1 inner s (((vpos 0 cs).drop lo).take (lo - lo)) = s := by rw [Nat.sub_self, List.take_zero]; rfl
    rw [hfin]
    clear hfin hpure hJ hM hpr hin hR hj hB eg hh hlh hsl hcl
    go_enter Tryz.func103, Tryz.ntmps103
    go_wp2_with fail
    refine bodyPost_ret (results_none rfl _ _ _) rfl ?_
    exact ⟨rfl, HJ.out _ _ _ _ (HMO.out _ _ _ _ (Nat.zero_le _) HJ0.out) HB.out ((Below.refl _ _).alloc HB.out _) (KeepN.of_below (below_alloc1 _ _)), KeepT.of_below (below_alloc1 _ _)⟩
  · have b1 : (lo == hi) = false := by simpa using he
    have b2 : ((lo : Int) == (hi : Int)) = false := by simp; omega
    have HT := Lib.hid (fun (W : World) (hW : Below w.heap.size w W) => TotalOf_any b cs lo W (hR.below hW) (by omega))
    have hpl := plc_le cs lo
    obtain ⟨f, hf⟩ : ∃ f, plc cs lo = f := ⟨_, rfl⟩
    rw [hf] at HT hpl
    have HF := Lib.hid hf
    have i1 : IntKind.i64.wrap ((hi : Int) - lo) = (hi : Int) - lo := IntWalk.i64_in _ (by omega)
    obtain ⟨d, hd⟩ : ∃ d, hi - lo = d := ⟨_, rfl⟩
    have i2 : (hi : Int) - lo = (d : Int) := by omega
    have HD := Lib.hid hd
    have hdb : 0 < d ∧ d ≤ 2097152 := by omega
    have hlt : lo < hi := by omega
    have HDB := Lib.hid (And.intro hdb hlt)
    have hd2 : (d : Int) ≤ 2097152 := by omega
    have hmf : ∀ (fn : Fn) (first cap : Array Value) (w : World), (Instr.makeFunc fn first cap).run Tryz.prog w = .ok (.func fn first cap) w := fun _ _ _ _ => rfl
    have HP := Lib.hid hpure
    have HEG := Lib.hid eg
    clear hJ hM hin hpr hR hj hB hh hsl hcl he hf hd hdb hlt hpure eg
    go_enter Tryz.func103, Tryz.ntmps103
    go_wp2_with fail
    refine (HT.out _ (below_alloc1 _ _)).mono ?_
    rintro e w1 ⟨rfl, hb1⟩
    have HB1 := Lib.hid hb1
    clear hb1
    go_wp2_with fail
    obtain ⟨bs, hbs⟩ : ∃ bs, w.heap.size = bs := ⟨_, rfl⟩
    obtain ⟨bf, hbf⟩ : ∃ bf, w1.heap.size = bf := ⟨_, rfl⟩
    obtain ⟨w2, hw2⟩ : ∃ w2, (w1.alloc (.cells #[.int .i64 f] 3)).alloc (.cells #[.int .i64 d] 3) = w2 := ⟨_, rfl⟩
    have hb2 : Below w1.heap.size w1 w2 := by rw [← hw2]; exact ((Below.refl _ _).alloc (Nat.le_refl _) _).alloc (by simp) _
    have hyf : w2.heap[bf]? = some (.cells #[.int .i64 f] 3 (0, 0)) := by rw [← hw2, ← hbf]; exact (Lib.alloc_old (w1.alloc _) _ _ (by simp)).trans (heap_at rfl)
    have hyl : w2.heap[bf + 1]? = some (.cells #[.int .i64 d] 3 (0, 0)) := by rw [← hw2, ← hbf]; exact heap_at (w := w1.alloc _) (by simp)
    have HB01 := Lib.hid ((below_alloc1 w (.cells #[.func (.func g) #[] cb] 164)).trans (HB1.out.mono (by simp)))
    have HB02 := Lib.hid (HB01.out.trans (hb2.mono HB01.out.size))
    have hys : w2.heap[bs]? = some (.cells #[.func (.func g) #[] cb] 164 (0, 0)) := by
      rw [← hbs, hb2.block _ (by have := HB1.out.size; simp at this; omega)]
      exact (HB1.out.block _ (by simp)).trans (heap_at rfl)
    rw [hw2]
    rw [hbs, hbf]
    obtain ⟨v, t, h1, h2', h3'⟩ := HR.out.below HB02.out
    have c0 : w2.cell? ⟨b, 0, none⟩ = some v := by rw [Lib.cell_of_heap h1]; rfl
    have c1 := one_cell hyf
    obtain ⟨av, rfl⟩ := h2'.tr.ptr
    have HYF := Lib.hid hyf
    have HYL := Lib.hid hyl
    have HYS := Lib.hid hys
    have HT2 := Lib.hid h2'
    have HCT := Lib.hid h3'
    have HBF := Lib.hid hbf
    clear hw2 hbs hb2 hyf hyl hys h1 h2' h3' hbf
    go_still_tail 6, (by kernel_rfl)
    change wpList _ _ _ _ _ w2.drew
    have HT2d := Lib.hid (show TrW w2.drew (.pointer av) t from HT2.out.below (Below.refl _ _).drew)
    have HB02d := Lib.hid (show Below w.heap.size w w2.drew from HB02.out.drew)
    have HJW := Lib.hid (show JB J B0 bf (bf + 1) bs f g cb true 0 (d, s) w2.drew from
      ⟨HJ.out _ _ _ _ HJ0.out HB.out (HB02d.out.mono HB.out) (KeepN.of_below HB02d.out), HYF.out, HYL.out, HYS.out, by omega, by have := HB.out; have := HB01.out.size; have := HBF.out; omega, fun _ => HDB.out.1.1, HDB.out.1.2⟩)
    have HC := Lib.hid (walk_any 133 #[.pointer (some ⟨bf, 0, none⟩), .pointer (some ⟨bf + 1, 0, none⟩), .pointer (some ⟨bs, 0, none⟩)] (stepB inner f) (JB J B0 bf (bf + 1) bs f g cb) Pr f (by have := HT2.out.len; rw [HCT.out] at this; omega) (enters_of Tryz.func133 (by kernel_rfl) rfl)
      (fun a s w w' h hb => h.below HJ.out hb)
      (fun go a a' s w hp h => h.mono HMO.out hp)
      (fun s a q v W h1 h2 h3 h7 h4 h5 h6 => stepB_any g cb inner J Pr B0 bf (bf + 1) bs f HEG.out HJ.out HMO.out HIN.out s a q v W h1 h2 h3 h7 h4 h5 h6 (by have := HT2.out.len; rw [HCT.out] at this; omega))
      (hgt t) t (.pointer av) 0 (d, s) w2.drew (Nat.le_refl _) (by have := HT2.out.len; omega) (by rw [HCT.out]; exact HPR.out) HT2d.out HJW.out)
    rw [show (((0 : Nat)) : Int) = 0 from rfl] at HC
    have HFN := Lib.hid (show (walkF (stepB inner f) f 0 (pcs t) (d, s)).1.2 = inner1 inner s (((vpos 0 cs).drop lo).take d) by
      have h9 := between_all inner HP.out (pcs t) lo hi s HT2.out.wf.pcs HDB.out.2
      rw [flat_pcs, HCT.out, HF.out, HD.out] at h9
      exact h9)
    obtain ⟨r, hr⟩ : ∃ r, walkF (stepB inner f) f 0 (pcs t) (d, s) = r := ⟨_, rfl⟩
    rw [hr] at HC HFN
    clear c0 c1 hr
    go_wp2_with fail
    refine HC.out.mono ?_
    rintro e w3 ⟨rfl, hj3, hk3⟩
    have HF3 := Lib.hid (And.intro (show J cs.length _ _ by have := hj3.j; rw [HCT.out, Nat.zero_add] at this; exact this) ((KeepT.of_below HB02d.out).trans hk3))
    clear hj3 hk3
    go_wp2_with fail
    go_end0
    exact ⟨rfl, by rw [HD.out, ← HFN.out]; exact HF3.out.1, HF3.out.2⟩
end Go.Proofs.YtkdhomiieenfnaaGreatDoor.Rp
