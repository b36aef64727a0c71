/- op.Inverse. A rope made of a row's runs; small lemmas of the laws' walks. OpSeen walked. redraftlaw04.stops: does a counter in these ranges forbid the step? redraftlaw04.bumped: is the row as it was, but for the counters in these ranges? redraftlaw04.copied: an operation with ranges of its own, and two wrong ones behind them. -/
import Derived.Test.YtkdhomiieenfnaaDoorXLm33
import Derived.Laws.ResultCell
import Derived.Test.YtkdhomiieenfnaaDoorLwCells
namespace Go.Proofs.YtkdhomiieenfnaaDoor.Lw
open Go.RowKit Go.Proofs Go.Proofs.YtkdhomiieenfnaaDoor.U Go.Proofs.YtkdhomiieenfnaaDoor.Txt Go.Proofs.YtkdhomiieenfnaaDoor.Rp Go.Proofs.YtkdhomiieenfnaaDoor.O
set_option linter.unusedVariables false
set_option linter.unusedSimpArgs false

theorem results_op2 {fn : Func} {p u : Tmp} (h : fn.results = #[.cell p 48, .tmp u]) (tmps : Array Value) (w : World) (g : Nat) (cs : Array Value) (x : Value)
    (hp : tmps.getD p undef = .pointer (some ⟨g, 0, none⟩)) (hx : tmps.getD u undef = x) (hg : w.heap[g]? = some (.cells cs 48 (0, 0))) (hi : cs.size = 9) :
    (results fn tmps).run Tryd.prog w = .ok (.tuple #[.agg cs, x]) w := by
  rw [results_cell_tmp h, hp, hx]
  simp only [asAddr]
  have h9 : (Tryd.prog.info? 48).map (·.size) = some 9 := by kernel_rfl
  have := run_loadVar_row w g 48 48 cs (0, 0) _ hg Tryd.underlying48 rfl (by rw [h9, hi])
  simp [this]
/-- The kind of an inverse. -/
def invK (E kd : Int) : Int := if E ≠ 0 then 0 else if kd = 4 then 4 else if kd = 2 then 3 else 2
/-- What Inverse answers. -/
def InvRes (l : List (Int × Int)) (E kd' t0' t1' : Int) (on' : Bool) (w : World) (e : Ending) (w' : World) : Prop := (∃ A n c, e = .returned (.tuple #[opV 0 0 kd' 0 ⟨#[]⟩ (.slice A n c) t0' t1' on', .int .i64 E]) ∧ w'.ownsRow w.heap.size 110 2 (.slice A n c) l.length (rsCells l)) ∧ Below w.heap.size w w'
theorem own_row9 {w : World} {B n g : Nat} {v : Value} {xs : List Value} {cs : Array Value} (h : w.ownsRow B 110 2 v n xs) {c0 : Array Value} {fz : Nat × Nat} (hg : w.heap[g]? = some (.cells c0 48 fz)) : (w.setRow g cs).ownsRow B 110 2 v n xs := by
  refine ⟨h.1, h.2.imp id ?_⟩
  rintro ⟨b, cap, cur, hv, hbg, hb, rest⟩
  refine ⟨b, cap, cur, hv, hbg, (setRow_other w g b cs (fun e => ?_)).trans hb, rest⟩
  subst e
  rw [hb] at hg
  exact absurd (Obj.cells.inj (Option.some.inj hg)).2.1 (by decide)
theorem inv_fin {w W : World} {g : Nat} {l : List (Int × Int)} {E kd' t0' t1' : Int} {on' : Bool} {A : Option Addr} {n c : Nat} {c0 : Array Value} (hb : Below w.heap.size w W) (hg : w.heap.size ≤ g) (hbx : W.heap[g]? = some (.cells c0 48 (0, 0))) (ho : W.ownsRow w.heap.size 110 2 (.slice A n c) l.length (rsCells l)) :
    InvRes l E kd' t0' t1' on' w (.returned (.tuple #[opV 0 0 kd' 0 ⟨#[]⟩ (.slice A n c) t0' t1' on', .int .i64 E])) (W.setRow g #[.int .i64 0, .int .i64 0, .int .i64 kd', .int .i64 0, .string ⟨#[]⟩, .slice A n c, .int .i64 t0', .int .i64 t1', .bool on']) ∧ (W.setRow g #[.int .i64 0, .int .i64 0, .int .i64 kd', .int .i64 0, .string ⟨#[]⟩, .slice A n c, .int .i64 t0', .int .i64 t1', .bool on']).heap[g]? = some (.cells #[.int .i64 0, .int .i64 0, .int .i64 kd', .int .i64 0, .string ⟨#[]⟩, .slice A n c, .int .i64 t0', .int .i64 t1', .bool on'] 48 (0, 0)) :=
  ⟨⟨⟨A, n, c, rfl, own_row9 ho hbx⟩, below_setRow hb hg _⟩, setRow_heap W g _ _ _ _ hbx⟩
section
attribute [local go_sem ↓] ldO_fold stO_fold
attribute [local go_sem] stO_run
set_option maxRecDepth 100000 in
set_option maxHeartbeats 1000000 in
theorem Inverse_any (i0 i1 kd a : Int) (tx : ByteArray) (A : Option Addr) (n c : Nat) (rs : List (Int × Int)) (t0 t1 : Int) (on : Bool) (k ps er : Nat) (hck : chk tx.data.toList = (k, ps, er)) (w : World) (hs : tx.size ≤ maxLen) (hn : n ≤ 8796093022208) (hG : Ranges w A n rs) (hg : Bars w) (E : Int) (hE : ownE i0 i1 kd a tx k er rs t0 t1 on = E) :
    Calls Tryd.prog 16 #[opV i0 i1 kd a tx (.slice A n c) t0 t1 on] w (InvRes (covR i0 i1 kd a tx k er rs t0 t1 on) E (invK E kd) (if E = 0 ∧ kd = 4 then t0 else 0) (if E = 0 ∧ kd = 4 then t1 else 0) (if E = 0 ∧ kd = 4 then !on else false) w) := by
  have HOWN := Lib.hid (fun (W : World) (hW : Below w.heap.size w W) => own_any i0 i1 kd a tx A n c rs t0 t1 on k ps er hck W hs hn (hG.below hW) (hg.below hW))
  have HCOV := Lib.hid (fun (W : World) (hW : Below w.heap.size w W) => Covers_any i0 i1 kd a tx A n c rs t0 t1 on k ps er hck W hs hn (hG.below hW) (hg.below hW))
  rw [hE] at HOWN
  have HK := Lib.hid (fun (h : E = 0) => (opE_ok (i0 := i0) (i1 := i1) (kd := kd) (a := a) (tx := tx) (k := k) (er := er) (rs := rs) (t0 := t0) (t1 := t1) (on := on) (total := ownT kd a) (hE.trans h)).kind)
  have HCV := Lib.hid (show E ≠ 0 ∨ kd = 4 → covR i0 i1 kd a tx k er rs t0 t1 on = [] from fun h => by unfold covR; rw [hE, if_pos h])
  obtain ⟨CV, hCV⟩ : ∃ CV, covR i0 i1 kd a tx k er rs t0 t1 on = CV := ⟨_, rfl⟩
  rw [hCV] at HCV HCOV ⊢
  obtain ⟨T0, hT0⟩ : ∃ T0, (if E = 0 ∧ kd = 4 then t0 else 0) = T0 := ⟨_, rfl⟩
  obtain ⟨T1, hT1⟩ : ∃ T1, (if E = 0 ∧ kd = 4 then t1 else 0) = T1 := ⟨_, rfl⟩
  obtain ⟨ON, hON⟩ : ∃ ON, (if E = 0 ∧ kd = 4 then !on else false) = ON := ⟨_, rfl⟩
  obtain ⟨KD, hKD⟩ : ∃ KD, invK E kd = KD := ⟨_, rfl⟩
  rw [hT0, hT1, hON, hKD]
  have HTT := Lib.hid (And.intro hT0 (And.intro hT1 (And.intro hON hKD)))
  clear hT0 hT1 hON hKD
  unfold opV at HOWN HCOV ⊢
  clear hG hg hck hs hE hCV
  have hy := two_new2 w (.cells #[.int .i64 i0, .int .i64 i1, .int .i64 kd, .int .i64 a, .string tx, .slice A n c, .int .i64 t0, .int .i64 t1, .bool on] 48) (.cells #[.int .i64 0, .int .i64 0, .int .i64 0, .int .i64 0, .string ⟨#[]⟩, .slice none 0 0, .int .i64 0, .int .i64 0, .bool false] 48)
  have hx := two_fst w (.cells #[.int .i64 i0, .int .i64 i1, .int .i64 kd, .int .i64 a, .string tx, .slice A n c, .int .i64 t0, .int .i64 t1, .bool on] 48) (.cells #[.int .i64 0, .int .i64 0, .int .i64 0, .int .i64 0, .string ⟨#[]⟩, .slice none 0 0, .int .i64 0, .int .i64 0, .bool false] 48)
  have hB1 : Below w.heap.size w ((w.alloc (.cells #[.int .i64 i0, .int .i64 i1, .int .i64 kd, .int .i64 a, .string tx, .slice A n c, .int .i64 t0, .int .i64 t1, .bool on] 48)).alloc (.cells #[.int .i64 0, .int .i64 0, .int .i64 0, .int .i64 0, .string ⟨#[]⟩, .slice none 0 0, .int .i64 0, .int .i64 0, .bool false] 48)) := ((Below.refl _ _).alloc (Nat.le_refl _) _).alloc (by simp) _
  have HX := Lib.hid hx
  have HY := Lib.hid hy
  have HB1 := Lib.hid hB1
  clear hx hy hB1
  go_enter Tryd.func16, Tryd.ntmps16
  go_upto_region 1 with fail
  obtain ⟨w1, hw1⟩ : ∃ w1, (w.alloc (.cells #[.int .i64 i0, .int .i64 i1, .int .i64 kd, .int .i64 a, .string tx, .slice A n c, .int .i64 t0, .int .i64 t1, .bool on] 48)).alloc (.cells #[.int .i64 0, .int .i64 0, .int .i64 0, .int .i64 0, .string ⟨#[]⟩, .slice none 0 0, .int .i64 0, .int .i64 0, .bool false] 48) = w1 := ⟨_, rfl⟩
  rw [hw1] at HX HY HB1 ⊢
  clear hw1
  obtain ⟨gr, hgr⟩ : ∃ gr, w.heap.size = gr := ⟨_, rfl⟩
  rw [hgr] at HX HY
  rw [hgr]
  have HGR := Lib.hid hgr
  clear hgr
  have HLD := Lib.hid (fun (W : World) (hW : Below w1.heap.size w1 W) => ldO_run ((hW.block _ (Array.getElem?_eq_some_iff.1 HX.out).1).trans HX.out))
  have HCL := Lib.hid (fun (W : World) (hW : Below w1.heap.size w1 W) => (show W.cell? ⟨gr, 2, none⟩ = some (.int .i64 kd) ∧ W.cell? ⟨gr, 6, none⟩ = some (.int .i64 t0) ∧ W.cell? ⟨gr, 7, none⟩ = some (.int .i64 t1) ∧ W.cell? ⟨gr, 8, none⟩ = some (.bool on) from
    have e := (hW.block _ (Array.getElem?_eq_some_iff.1 HX.out).1).trans HX.out
    ⟨by rw [Lib.cell_of_heap e]; rfl, by rw [Lib.cell_of_heap e]; rfl, by rw [Lib.cell_of_heap e]; rfl, by rw [Lib.cell_of_heap e]; rfl⟩))
  have s0 := HLD.out w1 (Below.refl _ _)
  go_wp2_with fail
  refine (HOWN.out _ HB1.out).mono ?_
  rintro e w2 ⟨rfl, hb2⟩
  have HB2 := Lib.hid hb2
  have HB02 := Lib.hid (HB1.out.trans (hb2.mono HB1.out.size))
  have HY2 := Lib.hid ((hb2.block _ (Array.getElem?_eq_some_iff.1 HY.out).1).trans HY.out)
  have hfr : Fresh w2 (gr + 1) := ⟨_, HY2.out, rfl⟩
  obtain ⟨q2, q6, q7, q8⟩ := HCL.out w2 hb2
  clear hb2 s0
  by_cases hE0 : E = 0
  · have b1 : (E != 0) = false := by simp [hE0]
    have hkd := HK.out hE0
    have HE0 := Lib.hid hE0
    clear hE0
    by_cases hk4 : kd = 4
    · subst hk4
      clear hkd
      go_wp2_with fail
      have hfin := inv_fin (l := CV) (E := 0) (kd' := 4) (t0' := t0) (t1' := t1) (on' := !on) (A := none) (n := 0) (c := 0) (g := gr + 1) HB02.out (by have := HGR.out; omega) HY2.out (by rw [HCV.out (.inr (by trivial))]; exact ⟨rfl, .inl ⟨rfl, rfl⟩⟩)
      refine bodyPost_ret (v := .tuple #[opV 0 0 4 0 ⟨#[]⟩ (.slice none 0 0) t0 t1 (!on), .int .i64 0]) ?hr1 ?hd1 ?hb1
      case hd1 => rfl
      case hr1 => exact results_op2 rfl _ _ (gr + 1) _ _ rfl rfl hfin.2 rfl
      case hb1 =>
        have h8 := hfin.1
        have hz := HE0.out
        subst hz
        obtain ⟨e0, e1, e2, e3⟩ := HTT.out
        rw [← e0, ← e1, ← e2, ← e3]
        simpa [invK] using h8
    · have hk3 : kd = 1 ∨ kd = 2 ∨ kd = 3 := by omega
      have HC2 := Lib.hid (HCOV.out w2 HB02.out)
      have s2 := HLD.out w2 HB2.out
      clear hkd q6 q7 q8
      rcases hk3 with rfl | rfl | rfl
      all_goals
        clear hk4
        go_wp2_with fail
        refine HC2.out.mono ?_
        rintro e w3 ⟨⟨v3, rfl, ho3⟩, hb3⟩
        obtain ⟨A3, n3, c3, rfl⟩ : ∃ A3 n3 c3, v3 = .slice A3 n3 c3 := by
          rcases ho3.2 with ⟨e1, _⟩ | ⟨g, cap, cur, hv, _⟩
          · exact ⟨_, _, _, e1⟩
          · exact ⟨_, _, _, hv⟩
        have hy3 := (hb3.block _ (Array.getElem?_eq_some_iff.1 HY2.out).1).trans HY2.out
        have hfr3 : Fresh w3 (gr + 1) := ⟨_, hy3, rfl⟩
        have HY3 := Lib.hid hy3
        have HO3 := Lib.hid (own_base ho3 (HB02.out.size))
        have HB3 := Lib.hid (HB02.out.trans (hb3.mono HB02.out.size))
        clear ho3 hb3 hy3 hfr s2 q2
        go_wp2_with fail
        have hfin := fun KK => inv_fin (l := CV) (E := 0) (kd' := KK) (t0' := 0) (t1' := 0) (on' := false) (A := A3) (n := n3) (c := c3) (g := gr + 1) HB3.out (by have := HGR.out; omega) HY3.out HO3.out
        have hz := HE0.out
        subst hz
        obtain ⟨e0, e1, e2, e3⟩ := HTT.out
        first
        | (refine bodyPost_ret (v := .tuple #[opV 0 0 2 0 ⟨#[]⟩ (.slice A3 n3 c3) 0 0 false, .int .i64 0]) (results_op2 rfl _ _ (gr + 1) _ _ rfl rfl (hfin 2).2 rfl) rfl ?_; have h8 := (hfin 2).1; rw [← e0, ← e1, ← e2, ← e3]; simpa [invK] using h8)
        | (refine bodyPost_ret (v := .tuple #[opV 0 0 3 0 ⟨#[]⟩ (.slice A3 n3 c3) 0 0 false, .int .i64 0]) (results_op2 rfl _ _ (gr + 1) _ _ rfl rfl (hfin 3).2 rfl) rfl ?_; have h8 := (hfin 3).1; rw [← e0, ← e1, ← e2, ← e3]; simpa [invK] using h8)
  · have b1 : (E != 0) = true := by simp [hE0]
    have HE0 := Lib.hid hE0
    clear hE0 q2 q6 q7 q8
    go_wp2_with fail
    have hfin := inv_fin (l := CV) (E := E) (kd' := 0) (t0' := 0) (t1' := 0) (on' := false) (A := none) (n := 0) (c := 0) (g := gr + 1) HB02.out (by have := HGR.out; omega) HY2.out (by rw [HCV.out (.inl HE0.out)]; exact ⟨rfl, .inl ⟨rfl, rfl⟩⟩)
    refine bodyPost_ret (v := .tuple #[opV 0 0 0 0 ⟨#[]⟩ (.slice none 0 0) 0 0 false, .int .i64 E]) ?hr2 ?hd2 ?hb2
    case hd2 => rfl
    case hr2 => exact results_op2 rfl _ _ (gr + 1) _ _ rfl rfl hfin.2 rfl
    case hb2 =>
      have h8 := hfin.1
      have hz := HE0.out
      obtain ⟨e0, e1, e2, e3⟩ := HTT.out
      rw [← e0, ← e1, ← e2, ← e3]
      simpa [invK, hz] using h8
end
end Go.Proofs.YtkdhomiieenfnaaDoor.Lw

namespace Go.Proofs.YtkdhomiieenfnaaDoor.Lw
open Go.RowKit Go.Proofs Go.Proofs.YtkdhomiieenfnaaDoor.U Go.Proofs.YtkdhomiieenfnaaDoor.Txt Go.Proofs.YtkdhomiieenfnaaDoor.Rp Go.Proofs.YtkdhomiieenfnaaDoor.O
set_option linter.unusedVariables false
set_option linter.unusedSimpArgs false

theorem runsL_adj : ∀ (cs : List Cl) (k : Nat) (h : k + 1 < (runsL cs).length), (runsL cs)[k].2 ≠ (runsL cs)[k + 1].2
  | [], k, h => by simp [runsL] at h
  | c :: l, k, h => by
    have IH := runsL_adj l
    have e := runsL_cons c l
    cases hr : runsL l with
    | nil =>
      rw [hr] at e
      rw [e] at h
      simp [consP] at h
    | cons q r =>
      rw [hr] at e
      change _ = (if q.2 = c.2 then (c.1 :: q.1, q.2) :: r else ([c.1], c.2) :: q :: r) at e
      by_cases h0 : q.2 = c.2
      · rw [if_pos h0] at e
        have IH' := fun k h => IH k (by rw [hr]; exact h)
        simp only [hr] at IH'
        simp only [e] at h ⊢
        cases k with
        | zero =>
          have := IH' 0 (by simpa using h)
          simpa using this
        | succ k =>
          have := IH' (k + 1) (by simpa using h)
          simpa using this
      · rw [if_neg h0] at e
        have IH' := fun k h => IH k (by rw [hr]; exact h)
        simp only [hr] at IH'
        simp only [e] at h ⊢
        cases k with
        | zero => simpa using fun e2 => h0 e2.symm
        | succ k =>
          have := IH' k (by simpa using h)
          simpa using this
theorem rv_flat (l : List Pce) : rvCells (l.map fun q => ⟨Str q.1, q.1, q.2⟩) = flat l := by
  simp [rvCells, flat, List.flatMap_map]
theorem good_pce {cs : List Cl} (hg : Good cs) {q : Pce} (hq : q ∈ runsL cs) : (∀ r ∈ q.1, TxtRune r) ∧ 0 ≤ q.2 ∧ q.2 ≤ M := by
  have h := flat_runsL cs
  have hm : ∀ r ∈ q.1, (r, q.2) ∈ cs := fun r hr => by
    rw [← h]
    exact List.mem_flatMap.2 ⟨q, hq, List.mem_map.2 ⟨r, hr, rfl⟩⟩
  obtain ⟨r, l, hl⟩ := List.exists_cons_of_ne_nil (runsL_ne cs q hq)
  exact ⟨fun r hr => (hg _ (hm r hr)).1, (hg _ (hm r (by rw [hl]; simp))).2⟩
/-- From, of a row's runs. -/
theorem from_runs (A : Option Addr) (c : Nat) (cs : List Cl) (w : World) (h : PcesIn w A (runsL cs)) (hg : Good cs) (hl : cs.length ≤ 65536) (hB : Bars w) : Calls Tryd.prog 6 #[.slice A (runsL cs).length c] w (FromPost cs w) := by
  have h1 := from_any A c ((runsL cs).map fun q => ⟨Str q.1, q.1, q.2⟩) w h.runs (fun r hr => by
    obtain ⟨q, hq, rfl⟩ := List.mem_map.1 hr
    have hp := good_pce hg hq
    have hlen : q.1.length ≤ 65536 := by
      have h2 := flat_runsL cs
      have : q.1.length ≤ (flat (runsL cs)).length := by
        obtain ⟨a, b, hab⟩ := List.append_of_mem hq
        rw [hab, flat_app, flat_cons, List.length_append, List.length_append, run_len]; omega
      rw [h2] at this
      omega
    exact ⟨text_str' hp.1 (by omega), runsL_ne cs q hq, hp.2⟩) (fun k hk => by
    have := runsL_adj cs k (by simpa using hk)
    simpa using this) (by rw [rv_flat, flat_runsL]; omega) hB
  rw [List.length_map, rv_flat, flat_runsL] at h1
  exact h1
theorem cell_keepB {w w' : World} {b : Nat} {a : Addr} {v : Value} (hc : w.cell? a = some v) (hne : a.block ≠ b) (hg : w.grownBy w' (some b)) : w'.cell? a = some v := by
  have hlt := World.block_lt_of_cell? w _ hc
  have e : w'.heap[a.block]? = w.heap[a.block]? := hg.block _ hlt (fun e => hne (Option.some.inj e))
  rw [← hc]
  unfold World.cell?
  rw [e]
theorem below_keepB {w0 w w' : World} {b : Nat} (h : Below w0.heap.size w0 w) (hb : w0.heap.size ≤ b) (hg : w.grownBy w' (some b)) : Below w0.heap.size w0 w' := h.grown hg h.size (fun k hk => by obtain rfl := Option.some.inj hk; exact hb)
/-- Ranges in order are what span.Check lets in. -/
theorem spanE_nrm : ∀ {p : Option Int} {rs : List (Int × Int)}, Nrm (match p with | none => 0 | some q => q + 1) rs → (p = none ∨ ∃ q, p = some q ∧ 0 ≤ q) → (∀ x ∈ rs, x.2 ≤ 1048576) → spanE p rs = 0
  | p, [], _, _, _ => by cases p <;> rfl
  | none, (a, b) :: r, h, _, hx => by
    have h1 : (0 : Int) ≤ a := h.1
    have h2 : a < b := h.2.1
    have h3 := hx (a, b) (by simp)
    simp only at h3
    have IH := spanE_nrm (p := some b) (rs := r) h.2.2 (.inr ⟨b, rfl, by omega⟩) (fun x hx' => hx x (by simp [hx']))
    show (if a < 0 ∨ 1048576 < b ∨ b ≤ a then (20 : Int) else if false = true then 22 else spanE (some b) r) = 0
    rw [if_neg (by omega), if_neg (by decide), IH]
  | some q, (a, b) :: r, h, hp, hx => by
    have h1 : q + 1 ≤ a := h.1
    have h2 : a < b := h.2.1
    have h3 := hx (a, b) (by simp)
    have h0 : 0 ≤ q := by
      rcases hp with hp | ⟨q', hp, hq⟩
      · cases hp
      · cases hp; exact hq
    simp only at h3
    have IH := spanE_nrm (p := some b) (rs := r) h.2.2 (.inr ⟨b, rfl, by omega⟩) (fun x hx' => hx x (by simp [hx']))
    show (if a < 0 ∨ 1048576 < b ∨ b ≤ a then (20 : Int) else if decide (a ≤ q) = true then 22 else spanE (some b) r) = 0
    rw [if_neg (by omega), if_neg (by simp; omega), IH]
/-- What Apply makes of a Hide or Show of right ranges that no counter forbids. -/
theorem apply_cover {cs : List Cl} {rs : List (Int × Int)} {kd : Int} (hk : kd = 2 ∨ kd = 3) (hne : rs ≠ []) (hn : Nrm 0 rs) (hl : rs.length ≤ 32768) (hx : ∀ x ∈ rs, x.2 ≤ (cs.length : Int)) (hc : cs.length ≤ 1048576) (hco : Cok cs) (hs : ¬ stopC (if kd = 2 then 1 else -1) rs cs) (k : Nat) (xs : List Int) :
    applyR cs 0 0 kd 0 ⟨#[]⟩ k 0 rs 0 0 false xs = (0, bumpC (if kd = 2 then 1 else -1) rs cs) ∧ opE 0 0 kd 0 ⟨#[]⟩ k 0 rs 0 0 false cs.length = 0 := by
  have hsp : spanE none rs = 0 := spanE_nrm (p := none) hn (.inl rfl) (fun x hx' => by have := hx x hx'; omega)
  have hlast : ¬ (cs.length : Int) < (rs[rs.length - 1]?.getD (0, 0)).2 := by
    have hp := List.length_pos_iff.2 hne
    rw [List.getElem?_eq_getElem (by omega), Option.getD_some]
    have := hx _ (List.getElem_mem (show rs.length - 1 < rs.length by omega))
    omega
  have hr : rngE rs cs.length = 0 := by
    unfold rngE
    rw [if_neg hne, spanM_small hl, hsp, if_neg (by decide), if_neg hlast]
  have hE : opE 0 0 kd 0 ⟨#[]⟩ k 0 rs 0 0 false cs.length = 0 := by
    unfold opE
    rw [if_neg (by omega), if_neg (by omega), if_neg (by simp), if_neg (by rcases hk with rfl | rfl <;> simp [extraB] <;> decide), if_neg (by omega), if_neg (by omega), hr]
  have hb := (bumpR_spec (d := if kd = 2 then 1 else -1) (by rcases hk with rfl | rfl <;> simp) rs 0 cs (Int.le_refl _) hn hx hco).2 hs
  refine ⟨?_, hE⟩
  unfold applyR
  rw [hE, if_neg (by decide), if_neg (by omega)]
  rcases hk with rfl | rfl
  · rw [if_pos rfl] at hb ⊢
    simp only [if_pos rfl] at hb ⊢
    rw [hb.1]; rfl
  · have e : ¬ ((3 : Int) = 2) := by decide
    simp only [if_neg e, if_pos rfl] at hb ⊢
    rw [hb.1]; rfl
/-- What Apply makes of an Ins. -/
theorem apply_ins {cs : List Cl} {xs : List Int} {p : Nat} (hx : xs ≠ []) (hl : xs.length ≤ 256) (hp : p ≤ cs.length) (hc : cs.length + xs.length ≤ 1048576) (rs0 : List (Int × Int)) (h0 : rs0 = []) (tx : ByteArray) :
    applyR cs 0 0 1 p tx xs.length 0 rs0 0 0 false xs = (0, cs.take p ++ run xs 0 ++ cs.drop p) := by
  subst h0
  have hn := List.length_pos_iff.2 hx
  have hE : opE 0 0 1 p tx xs.length 0 [] 0 0 false cs.length = 0 := by
    unfold opE
    rw [if_neg (by omega), if_neg (by omega), if_neg (by simp), if_neg (by simp [extraB]), if_pos rfl]
    unfold insE
    rw [if_neg (by decide), if_neg (by omega), if_neg (by omega), if_neg (by omega), if_neg (by omega), if_neg (by omega)]
  unfold applyR
  rw [hE, if_neg (by decide), if_pos rfl]
  rfl
end Go.Proofs.YtkdhomiieenfnaaDoor.Lw

namespace Go.Proofs.YtkdhomiieenfnaaDoor.Lw
open Go.RowKit Go.Proofs Go.Proofs.YtkdhomiieenfnaaDoor.U Go.Proofs.YtkdhomiieenfnaaDoor.Txt Go.Proofs.YtkdhomiieenfnaaDoor.Rp Go.Proofs.YtkdhomiieenfnaaDoor.O
set_option linter.unusedVariables false
set_option linter.unusedSimpArgs false

/-- A list of deeds behind a slice. -/
def ReadsD (w : World) (A : Option Addr) (n : Nat) : Prop := n ≤ 17592186044416 ∧ (0 < n → ∃ b off, A = some ⟨b, off, none⟩ ∧ ∀ j, j < n → ∃ k a A1 n1 c1 xs v2, w.cell? ⟨b, off + j * 4, none⟩ = some (.int .i64 k) ∧ w.cell? ⟨b, off + j * 4 + 1, none⟩ = some (.int .i64 a) ∧ w.cell? ⟨b, off + j * 4 + 2, none⟩ = some (.slice A1 n1 c1) ∧ w.cell? ⟨b, off + j * 4 + 3, none⟩ = some v2 ∧ (∃ A2 n2 c2, v2 = .slice A2 n2 c2) ∧ Reads32 w A1 n1 xs)
theorem runes_of {cs : List Cl} (h : ∀ c ∈ cs, TxtRune c.1) : ∀ r ∈ vis cs, TxtRune r := fun r hr => by
  obtain ⟨c, hc, rfl⟩ := List.mem_map.1 hr
  exact h c (List.mem_filter.1 hc).1
theorem set4 {w : World} {g : Nat} {x0 x1 x2 x3 : Value} {T : TypeId} (h : w.heap[g]? = some (.cells #[x0, x1, x2, x3] T (0, 0))) (y0 y1 y2 y3 : Value) (hT : ¬ (RopeT T ∨ T = 3 ∨ T = 111)) :
    ((((w.setCell ⟨g, 0, none⟩ y0).setCell ⟨g, 1, none⟩ y1).setCell ⟨g, 2, none⟩ y2).setCell ⟨g, 3, none⟩ y3).heap[g]? = some (.cells #[y0, y1, y2, y3] T (0, 0)) ∧ KeepT w ((((w.setCell ⟨g, 0, none⟩ y0).setCell ⟨g, 1, none⟩ y1).setCell ⟨g, 2, none⟩ y2).setCell ⟨g, 3, none⟩ y3) ∧
    ∀ B, B ≤ g → Below B w ((((w.setCell ⟨g, 0, none⟩ y0).setCell ⟨g, 1, none⟩ y1).setCell ⟨g, 2, none⟩ y2).setCell ⟨g, 3, none⟩ y3) := by
  have h1 : (w.setCell ⟨g, 0, none⟩ y0).heap[g]? = some (.cells #[y0, x1, x2, x3] T (0, 0)) := by simp [World.setCell, Array.getElem?_modify, h]
  have h2 : ((w.setCell ⟨g, 0, none⟩ y0).setCell ⟨g, 1, none⟩ y1).heap[g]? = some (.cells #[y0, y1, x2, x3] T (0, 0)) := by simp [World.setCell, Array.getElem?_modify, h]
  have h3 : (((w.setCell ⟨g, 0, none⟩ y0).setCell ⟨g, 1, none⟩ y1).setCell ⟨g, 2, none⟩ y2).heap[g]? = some (.cells #[y0, y1, y2, x3] T (0, 0)) := by simp [World.setCell, Array.getElem?_modify, h]
  refine ⟨by simp [World.setCell, Array.getElem?_modify, h], ((((KeepU.set h hT).trans (KeepU.set h1 hT)).trans (KeepU.set h2 hT)).trans (KeepU.set h3 hT)).t, fun B hB => ?_⟩
  exact ((((Below.refl _ _).setCell (p := ⟨g, 0, none⟩) hB _).setCell (p := ⟨g, 1, none⟩) hB _).setCell (p := ⟨g, 2, none⟩) hB _).setCell (p := ⟨g, 3, none⟩) hB _
theorem cells32_lt {w : World} {g : Nat} {xs : List Int} (h : Cells32 w (some ⟨g, 0, none⟩) xs) (h0 : 0 < xs.length) : g < w.heap.size := by
  obtain ⟨ad, e, hc⟩ := h h0
  obtain rfl := Option.some.inj e
  have := World.block_lt_of_cell? w _ (hc 0 h0)
  rwa [show ((⟨g, 0, none⟩ : Addr).add 0).block = g from rfl] at this
theorem cells32_set {w : World} {g b i : Nat} {u : Value} {xs : List Int} (h : Cells32 w (some ⟨g, 0, none⟩) xs) (hne : 0 < xs.length → g < b) : Cells32 (w.setCell ⟨b, i, none⟩ u) (some ⟨g, 0, none⟩) xs := fun h0 => by
  obtain ⟨ad, e, hc⟩ := h h0
  obtain rfl := Option.some.inj e
  exact ⟨_, rfl, fun j hj => (cell_setCell_far (by rw [addr_block]; have := hne h0; simp only; omega)).trans (hc j hj)⟩
theorem cells32_keepB {w w' : World} {g b : Nat} {xs : List Int} (h : Cells32 w (some ⟨g, 0, none⟩) xs) (hne : 0 < xs.length → b < g) (hg : w.grownBy w' (some b)) : Cells32 w' (some ⟨g, 0, none⟩) xs := fun h0 => by
  obtain ⟨ad, e, hc⟩ := h h0
  obtain rfl := Option.some.inj e
  exact ⟨_, rfl, fun j hj => cell_keepB (hc j hj) (by rw [addr_block]; have := hne h0; simp only; omega) hg⟩
theorem op_put {w : World} {g i : Nat} {cs : Array Value} {u : Value} (h : w.heap[g]? = some (.cells cs 48 (0, 0))) : (w.setCell ⟨g, i, none⟩ u).heap[g]? = some (.cells (cs.setIfInBounds i u) 48 (0, 0)) ∧ KeepT w (w.setCell ⟨g, i, none⟩ u) ∧ ∀ B, B ≤ g → Below B w (w.setCell ⟨g, i, none⟩ u) :=
  ⟨by simp [World.setCell, Array.getElem?_modify, h], (KeepU.set h (by unfold RopeT; decide)).t, fun B hB => (Below.refl _ _).setCell (p := ⟨g, i, none⟩) hB _⟩
theorem own_rg {w : World} {B : Nat} {v : Value} {rs : List (Int × Int)} (h : w.ownsRow B 110 2 v rs.length (O.rsCells rs)) : ∃ A c, v = .slice A rs.length c ∧ Ranges w A rs.length rs ∧ (∀ b off, A = some ⟨b, off, none⟩ → 0 < rs.length → B ≤ b ∧ b < w.heap.size) := by
  rcases h.2 with ⟨rfl, h0⟩ | ⟨g, cap, cur, rfl, hb, hg, hcap, _⟩
  · exact ⟨none, 0, by rw [h0], ⟨rfl, fun hp => by omega⟩, fun b off e => by cases e⟩
  · refine ⟨_, cap, rfl, ⟨rfl, fun _ => ⟨g, 0, rfl, fun j hj => ?_⟩⟩, fun b off e _ => ?_⟩
    · have hg2 := rsCells_get rs j hj
      have e1 : (⟨g, 0 + j * 2, none⟩ : Addr) = (⟨g, 0, none⟩ : Addr).add (j * 2) := by simp [Addr.add]
      have e2 : (⟨g, 0 + j * 2 + 1, none⟩ : Addr) = (⟨g, 0, none⟩ : Addr).add (j * 2 + 1) := by simp [Addr.add]
      rw [e1, e2]
      exact ⟨h.cells (g := g) rfl _ _ hg2.1, h.cells (g := g) rfl _ _ hg2.2⟩
    · cases e
      exact ⟨hb, (Array.getElem?_eq_some_iff.1 hg).1⟩
theorem str_ap (a b : List Int) : Str (a ++ b) = Str a ++ Str b := by
  apply ByteArray.ext
  rw [← Array.toList_inj, str_list, app_list, str_list, str_list, enc_append]
theorem head32 (A : Option Addr) (n c m : Nat) (h1 : m ≤ n) (h2 : n ≤ c) : ∃ A', (∀ W : World, (Instr.slice 34 (.slice A n c) none (some (.int .i64 m)) none).run Tryd.prog W = .ok (.slice A' m c) W) ∧ ∀ (W : World) (rs : List Int), rs.length = n → Cells32 W A rs → Cells32 W A' (rs.take m) := by
  refine ⟨if c = 0 then A else A.map (·.add 0), fun W => ?_, fun W rs hn hc h0 => ?_⟩
  · rw [run_slice_h W 34 A n c (by kernel_rfl) .i64 m (by omega) (by omega)]
    kernel_rfl
  · rw [List.length_take] at h0
    obtain ⟨ad, e, h⟩ := hc (by omega)
    subst e
    rw [if_neg (by omega)]
    refine ⟨_, rfl, fun j hj => ?_⟩
    rw [List.length_take] at hj
    show W.cell? ((ad.add 0).add j) = _
    rw [Addr.add_add, Nat.zero_add, h j (by omega)]
    simp [List.getD, List.getElem?_take, show j < m by omega]
theorem tail32 (A : Option Addr) (n c m : Nat) (h1 : m ≤ n) (h2 : n ≤ c) : ∃ A', (∀ W : World, (Instr.slice 34 (.slice A n c) (some (.int .i64 m)) none none).run Tryd.prog W = .ok (.slice A' (n - m) (c - m)) W) ∧ ∀ (W : World) (rs : List Int), rs.length = n → Cells32 W A rs → Cells32 W A' (rs.drop m) := by
  refine ⟨if c = m then A else A.map (·.add (m * 1)), fun W => ?_, fun W rs hn hc h0 => ?_⟩
  · rw [run_slice_l W 34 A n c (by kernel_rfl) .i64 m (by omega) (by omega)]
    kernel_rfl
  · rw [List.length_drop] at h0
    obtain ⟨ad, e, h⟩ := hc (by omega)
    subst e
    rw [if_neg (by omega)]
    refine ⟨_, rfl, fun j hj => ?_⟩
    rw [List.length_drop] at hj
    show W.cell? ((ad.add (m * 1)).add j) = _
    rw [Addr.add_add, Nat.mul_one, h (m + j) (by omega)]
    simp [List.getD, List.getElem?_drop]
/-- Two parts of a text's runes, as strings. -/
theorem parts (gt m c p q : Nat) (V : List Int) (hV : V.length = m) (hp : p ≤ m) (hq : q ≤ m) (hc : m ≤ c) : ∃ A1 A2, (∀ W : World, (Instr.slice 34 (.slice (some ⟨gt, 0, none⟩) m c) none (some (.int .i64 p)) none).run Tryd.prog W = .ok (.slice A1 p c) W) ∧ (∀ W : World, (Instr.slice 34 (.slice (some ⟨gt, 0, none⟩) m c) (some (.int .i64 q)) none none).run Tryd.prog W = .ok (.slice A2 (m - q : Nat) (c - q : Nat)) W) ∧
    ∀ W : World, Cells32 W (some ⟨gt, 0, none⟩) V → (convert 34 9 (.slice A1 p c)).run Tryd.prog W = .ok (.string (Str (V.take p))) W ∧ (convert 34 9 (.slice A2 (m - q : Nat) (c - q : Nat))).run Tryd.prog W = .ok (.string (Str (V.drop q))) W := by
  obtain ⟨A1, h1, k1⟩ := head32 (some ⟨gt, 0, none⟩) m c p hp hc
  obtain ⟨A2, h2, k2⟩ := tail32 (some ⟨gt, 0, none⟩) m c q hq hc
  refine ⟨A1, A2, h1, h2, fun W h => ⟨?_, ?_⟩⟩
  · have := conv_runes (c := c) (k1 W V hV h)
    rwa [List.length_take, hV, Nat.min_eq_left hp] at this
  · have := conv_runes (c := c - q) (k2 W V hV h)
    rwa [List.length_drop, hV] at this
/-- A Hide of right ranges passes its own check. -/
theorem own_cover {N : Int} {rs : List (Int × Int)} (hne : rs ≠ []) (hn : Nrm 0 rs) (hl : rs.length ≤ 32768) (hx : ∀ x ∈ rs, x.2 ≤ N) (hc : N ≤ 1048576) : ownE 0 0 2 0 ⟨#[]⟩ 0 0 rs 0 0 false = 0 := by
  have hsp : spanE none rs = 0 := spanE_nrm (p := none) hn (.inl rfl) (fun x hx' => by have := hx x hx'; omega)
  have hlast : ¬ (1048576 : Int) < (rs[rs.length - 1]?.getD (0, 0)).2 := by
    have hp := List.length_pos_iff.2 hne
    rw [List.getElem?_eq_getElem (by omega), Option.getD_some]
    have := hx _ (List.getElem_mem (show rs.length - 1 < rs.length by omega))
    omega
  have hr : rngE rs 1048576 = 0 := by
    unfold rngE
    rw [if_neg hne, spanM_small hl, hsp, if_neg (by decide), if_neg hlast]
  unfold ownE
  rw [show ownT 2 0 = 1048576 from rfl]
  unfold opE
  rw [if_neg (by omega), if_neg (by omega), if_neg (by simp), if_neg (by simp [extraB]), if_neg (by omega), if_neg (by omega), hr]
section
attribute [local go_sem ↓] ldO_fold stO_fold
attribute [local go_sem] stO_run
set_option maxRecDepth 100000 in
set_option maxHeartbeats 8000000 in
theorem seen_walk (Ac : Option Addr) (nc cc : Nat) (Ad : Option Addr) (nd cd : Nat) (lo hi : Int) (w : World) (hC : ReadsC w Ac nc) (hD : ReadsD w Ad nd) (hBA : Bars w) :
    Calls Tryd.prog 3 #[.agg #[.slice Ac nc cc, .slice Ad nd cd, .int .i64 lo, .int .i64 hi]] w fun e w' => e = .returned (.bool true) ∧ Below w.heap.size w w' := by
  have HD := Lib.hid hD
  have HBA := Lib.hid hBA
  have hndb := hD.1
  have HM := Lib.hid (fun (W : World) (hW : Below w.heap.size w W) => made_any Ac nc cc W ⟨hC.1, fun h0 => by
    obtain ⟨b, off, e, h⟩ := hC.2 h0
    exact ⟨b, off, e, fun j hj => by obtain ⟨r, h', c1, c2⟩ := h j hj; exact ⟨r, h', U.cell_below hW c1, U.cell_below hW c2⟩⟩⟩)
  obtain ⟨w0, hw0⟩ : ∃ w0, w.alloc (.cells #[.slice Ac nc cc, .slice Ad nd cd, .int .i64 lo, .int .i64 hi] 25) = w0 := ⟨_, rfl⟩
  have hB0 : Below w.heap.size w w0 := by rw [← hw0]; exact below_alloc1 _ _
  have hy0 : w0.heap[w.heap.size]? = some (.cells #[.slice Ac nc cc, .slice Ad nd cd, .int .i64 lo, .int .i64 hi] 25 (0, 0)) := by rw [← hw0]; exact heap_at rfl
  have HW0 := Lib.hid hw0
  clear hC hD hBA hw0
  obtain ⟨g0, hg0⟩ : ∃ g0, w.heap.size = g0 := ⟨_, rfl⟩
  have HG0 := Lib.hid hg0
  rw [hg0] at hy0
  have HY0 := Lib.hid hy0
  have HB0 := Lib.hid hB0
  have HBX := Lib.hid (fun (W : World) (hW : W.heap[g0]? = w0.heap[g0]?) => (show W.cell? ⟨g0, 0, none⟩ = some (.slice Ac nc cc) ∧ W.cell? ⟨g0, 1, none⟩ = some (.slice Ad nd cd) ∧ W.cell? ⟨g0, 2, none⟩ = some (.int .i64 lo) ∧ W.cell? ⟨g0, 3, none⟩ = some (.int .i64 hi) from
    have e := hW.trans HY0.out
    ⟨by rw [Lib.cell_of_heap e]; rfl, by rw [Lib.cell_of_heap e]; rfl, by rw [Lib.cell_of_heap e]; rfl, by rw [Lib.cell_of_heap e]; rfl⟩))
  clear hy0 hB0 hg0
  go_enter Tryd.func3, Tryd.ntmps3
  go_upto_region 1 with fail
  rw [HW0.out, HG0.out]
  obtain ⟨x0, x1, x2, x3⟩ := HBX.out w0 rfl
  go_wp2_with fail
  refine (HM.out _ HB0.out).mono ?_
  rintro e w1 ⟨⟨v1, cs, rfl, ho1, hl1, hg1⟩, hb1⟩
  obtain ⟨A1, c1, rfl, hc1, hci1⟩ := CellsIn.of_own ho1
  have HB1 := Lib.hid (HB0.out.trans (hb1.mono HB0.out.size))
  have HBA1 := Lib.hid hb1
  have HGD := Lib.hid hg1
  have hcl : cs.length ≤ 400 := by omega
  have HR2 := Lib.hid (runs_any A1 c1 cs w1 hci1 (by omega))
  have HCL := Lib.hid hcl
  clear ho1 hl1 hg1 hc1 hci1 hb1 hcl
  go_wp2_with fail
  refine HR2.out.mono ?_
  rintro e w2 ⟨⟨v2, rfl, ho2⟩, hb2⟩
  obtain ⟨A2, c2, rfl, hc2, hpi2⟩ := PcesIn.of_own ho2
  have HB2 := Lib.hid (HB1.out.trans (hb2.mono HB1.out.size))
  have HBA2 := Lib.hid (HBA1.out.trans (hb2.mono HBA1.out.size))
  have HF := Lib.hid (from_runs A2 c2 cs w2 hpi2 HGD.out (by have := HCL.out; omega) (HBA.out.below HB2.out))
  clear ho2 hc2 hpi2 hb2 HR2
  go_wp2_with fail
  refine HF.out.mono ?_
  rintro e w3 ⟨⟨b, rfl, hr3, hbg⟩, hb3⟩
  have HB3 := Lib.hid (HB2.out.trans (hb3.mono HB2.out.size))
  have HBA3 := Lib.hid (HBA2.out.trans (hb3.mono HBA2.out.size))
  have HR3 := Lib.hid hr3
  have HBG := Lib.hid (show w0.heap.size ≤ b by have := HBA2.out.size; omega)
  have HBB := Lib.hid (show b < w3.heap.size from by obtain ⟨_, _, h1, _⟩ := hr3; exact (Array.getElem?_eq_some_iff.1 h1).1)
  clear hr3 hb3 hbg HF HM x0 x1 x2 x3
  go_wp2_with fail
  go_loopw [5] (fun i wr => ∃ (k : Nat) (cs : List Cl), k ≤ nd + 1 ∧ k ≤ 60 ∧ i = .int .i64 k ∧ Rope wr b cs ∧ (∀ c ∈ cs, TxtRune c.1) ∧ cs.length ≤ 400 + 256 * k ∧ Below w0.heap.size w0 wr ∧ b < wr.heap.size) (fun i _ => nd + 1 - (intOf i).toNat)
  case atStart => exact ⟨0, cs, Nat.zero_le _, Nat.zero_le _, rfl, HR3.out, fun c hc => (HGD.out c hc).1, by have := HCL.out; omega, HBA3.out, HBB.out⟩
  case round =>
    obtain ⟨k, cs', hk1, hk2, rfl, hrp, htx, hln, hbw, hbl⟩ := hrel
    have HRP := Lib.hid hrp
    have HTX := Lib.hid htx
    have HLN := Lib.hid hln
    have HBW := Lib.hid hbw
    have HBL := Lib.hid hbl
    have HG0L := Lib.hid (show g0 < w0.heap.size from (Array.getElem?_eq_some_iff.1 HY0.out).1)
    clear hrp htx hln hbw hbl
    obtain ⟨x0, x1, x2, x3⟩ := HBX.out wr (HBW.out.block _ HG0L.out)
    by_cases hgo : k ≤ nd ∧ k < 60
    · obtain ⟨g1, g2⟩ := hgo
      have g1' : (k : Int) ≤ (nd : Int) := by omega
      have g2' : decide ((k : Int) < 60) = true := by simp; omega
      go_upto_region 8 with fail
      obtain ⟨w4, hw4⟩ : ∃ w4, wr.alloc (.cells #[.int .i64 0, .int .i64 0, .slice none 0 0, .slice none 0 0] 37) = w4 := ⟨_, rfl⟩
      obtain ⟨gd, hgd⟩ : ∃ gd, wr.heap.size = gd := ⟨_, rfl⟩
      have hb4 : Below wr.heap.size wr w4 := by rw [← hw4]; exact below_alloc1 _ _
      have hy4 : w4.heap[gd]? = some (.cells #[.int .i64 0, .int .i64 0, .slice none 0 0, .slice none 0 0] 37 (0, 0)) := by rw [← hw4, ← hgd]; exact heap_at rfl
      rw [hw4, hgd]
      have HBW4 := Lib.hid (HBW.out.trans (hb4.mono HBW.out.size))
      have HR4 := Lib.hid (HRP.out.below hb4)
      have HY4 := Lib.hid hy4
      have HGD2 := Lib.hid (show w0.heap.size ≤ gd ∧ b < gd from by rw [← hgd]; exact ⟨HBW.out.size, HBL.out⟩)
      obtain ⟨z0, z1, z2, z3⟩ := HBX.out w4 (HBW4.out.block _ HG0L.out)
      clear hw4 hgd hb4 hy4 x0 x1 x2 x3
      go_upto_if 49 with fail
      go_cut [49] from 34 to 189 (fun _ wx => ∃ dk da A5 n5 c5 xs5 v5, wx.heap[gd]? = some (.cells #[.int .i64 dk, .int .i64 da, .slice A5 n5 c5, v5] 37 (0, 0)) ∧ Reads32 wx A5 n5 xs5 ∧ Rope wx b cs' ∧ Below w0.heap.size w0 wx)
      case first =>
        by_cases hkn : k < nd
        · obtain ⟨g, off, rfl, hce⟩ := HD.out.2 (by omega)
          obtain ⟨dk, da, A5, n5, c5, xs5, v5, y0, y1, y2, y3, ⟨A6, n6, c6, rfl⟩, hr5⟩ := hce k hkn
          have HBW04 := Lib.hid (HB0.out.trans (HBW4.out.mono HB0.out.size))
          have t0 := U.cell_below HBW04.out y0
          have t1 := U.cell_below HBW04.out y1
          have t2 := U.cell_below HBW04.out y2
          have t3 := U.cell_below HBW04.out y3
          have HR5O := Lib.hid hr5
          have q1 : (k : Int) < (nd : Int) := by omega
          have q0 : (0 : Int) ≤ (k : Int) := by omega
          have p0 : w4.cell? ⟨gd, 0, none⟩ = some (.int .i64 0) := by rw [Lib.cell_of_heap HY4.out]; rfl
          have p1 : w4.cell? ⟨gd, 1, none⟩ = some (.int .i64 0) := by rw [Lib.cell_of_heap HY4.out]; rfl
          have p2 : w4.cell? ⟨gd, 2, none⟩ = some (.slice none 0 0) := by rw [Lib.cell_of_heap HY4.out]; rfl
          have p3 : w4.cell? ⟨gd, 3, none⟩ = some (.slice none 0 0) := by rw [Lib.cell_of_heap HY4.out]; rfl
          have f0 := fun j => Lib.frozen_of_heap HY4.out j
          have p4 := (Array.getElem?_eq_some_iff.1 HY4.out).1
          clear hce y0 y1 y2 y3 hr5
          go_wp2_with fail
          go_meet
          have h8 := set4 HY4.out (.int .i64 dk) (.int .i64 da) (.slice A5 n5 c5) (.slice A6 n6 c6) (by unfold RopeT; decide)
          exact ⟨dk, da, A5, n5, c5, xs5, _, h8.1, HR5O.out.below (HBW04.out.trans (h8.2.2 _ (by have := HGD2.out.1; have := HB0.out.size; omega))), HR4.out.keepT h8.2.1, HBW4.out.trans (h8.2.2 _ HGD2.out.1)⟩
        · have q1 : ¬ (k : Int) < (nd : Int) := by omega
          go_wp2_with fail
          go_meet
          exact ⟨0, 0, none, 0, 0, [], _, HY4.out, ⟨rfl, by omega, fun h => by omega⟩, HR4.out, HBW4.out⟩
      case rest =>
        obtain ⟨dk, da, A5, n5, c5, xs5, v5, hy5, hr5, hrp5, hbw5⟩ := hcut
        obtain ⟨w5, hw5⟩ : ∃ w5, wc = w5 := ⟨_, rfl⟩
        rw [hw5] at hy5 hr5 hrp5 hbw5 ⊢
        have HY5 := Lib.hid hy5
        have HR5 := Lib.hid hr5
        have HRP5 := Lib.hid hrp5
        have HBW5 := Lib.hid hbw5
        have HT5 := Lib.hid (Text_any b cs' w5 hrp5 HTX.out)
        have hvl : (vis cs').length = shown cs' := vis_len cs'
        have hsl := shown_le cs'
        have hln2 := HLN.out
        obtain ⟨m, hm⟩ : ∃ m, shown cs' = m := ⟨_, rfl⟩
        rw [hm] at hvl hsl
        have HVL := Lib.hid hvl
        have HM := Lib.hid hm
        have hmb : m ≤ 16000 := by omega
        have HVT := Lib.hid (runes_of HTX.out)
        obtain ⟨V, hV⟩ : ∃ V, vis cs' = V := ⟨_, rfl⟩
        rw [hV] at HT5 HVL HVT
        have HV := Lib.hid hV
        clear hw5 hy5 hr5 hrp5 hbw5 hvl hsl hln2 hm hV z0 z1 z2 z3 HY4 HR4 HBW4
        go_wp2_with fail
        refine HT5.out.mono ?_
        rintro e w6 ⟨rfl, hb6⟩
        obtain ⟨c7, w7, hcv, hc7, hb7, hcl7⟩ := conv_to_runes (Str V) V (text_str' HVT.out (by rw [HVL.out]; omega)) (by rw [HVL.out]; omega) w6
        rw [HVL.out] at hcv hc7
        have HB57 := Lib.hid (hb6.trans (hb7.mono hb6.size))
        have HBW7 := Lib.hid (HBW5.out.trans (HB57.out.mono HBW5.out.size))
        have HR7 := Lib.hid (HRP5.out.below HB57.out)
        have HCL7 := Lib.hid hcl7
        obtain ⟨gt, hgt⟩ : ∃ gt, w6.heap.size = gt := ⟨_, rfl⟩
        rw [hgt] at hcv HCL7
        have HGT := Lib.hid (show gd < gt from by have h1 := (Array.getElem?_eq_some_iff.1 HY5.out).1; have := hb6.size; omega)
        have HSH := Lib.hid (Shown_any b cs' w7 HR7.out)
        rw [HM.out] at HSH
        have HC7 := Lib.hid hc7
        clear hb6 hb7 hcl7 hgt hc7
        go_wp2_with fail
        refine HSH.out.mono ?_
        rintro e w8 ⟨rfl, hb8⟩
        have HB58 := Lib.hid (HB57.out.trans (hb8.mono HB57.out.size))
        have HBW8 := Lib.hid (HBW7.out.trans (hb8.mono HBW7.out.size))
        have HR8 := Lib.hid (HR7.out.below hb8)
        have HCL8 := Lib.hid (HCL7.out.below hb8)
        have HY8 := Lib.hid ((HB58.out.block _ (Array.getElem?_eq_some_iff.1 HY5.out).1).trans HY5.out)
        obtain ⟨x0, x1, x2, x3⟩ := HBX.out w8 (HBW8.out.block _ HG0L.out)
        have y1 : w8.cell? ⟨gd, 1, none⟩ = some (.int .i64 da) := by rw [Lib.cell_of_heap HY8.out]; rfl
        clear hb8 hcv HSH HT5
        go_wp2_with fail
        refine (pick_any _ ((m : Int) + 1) w8 (by omega)).mono ?_
        rintro e w9 ⟨⟨r, rfl, r0, r1⟩, hw9⟩
        obtain rfl := hw9.symm
        obtain ⟨p, rfl⟩ : ∃ p : Nat, r = p := ⟨r.toNat, by omega⟩
        have y2 : ∀ o, (w8.alloc o).cell? ⟨gd, 2, none⟩ = some (.slice A5 n5 c5) := fun o => U.cell_below (below_alloc1 w8 o) (by rw [Lib.cell_of_heap HY8.out]; rfl)
        have HR58 := Lib.hid (HR5.out.below HB58.out)
        have HPM := Lib.hid (show p ≤ m by omega)
        clear r0 r1 x0 x1 x2 x3 y1
        go_upto_region 16 with fail
        obtain ⟨w9, hw9⟩ : ∃ w9, w8.alloc (.cells #[.int .i64 0, .int .i64 0, .int .i64 1, .int .i64 0, .string ⟨#[]⟩, .slice none 0 0, .int .i64 0, .int .i64 0, .bool false] 48) = w9 := ⟨_, rfl⟩
        obtain ⟨go, hgo⟩ : ∃ go, w8.heap.size = go := ⟨_, rfl⟩
        have hb9 : Below w8.heap.size w8 w9 := by rw [← hw9]; exact below_alloc1 _ _
        have hy9 : w9.heap[go]? = some (.cells #[.int .i64 0, .int .i64 0, .int .i64 1, .int .i64 0, .string ⟨#[]⟩, .slice none 0 0, .int .i64 0, .int .i64 0, .bool false] 48 (0, 0)) := by rw [← hw9, ← hgo]; exact heap_at rfl
        have y2' := y2 (.cells #[.int .i64 0, .int .i64 0, .int .i64 1, .int .i64 0, .string ⟨#[]⟩, .slice none 0 0, .int .i64 0, .int .i64 0, .bool false] 48)
        rw [hw9] at y2'
        rw [hw9, hgo]
        have HB9 := Lib.hid hb9
        have HY9 := Lib.hid hy9
        have HR9 := Lib.hid (HR8.out.below hb9)
        have HBW9 := Lib.hid (HBW8.out.trans (hb9.mono HBW8.out.size))
        have HE9 := Lib.hid hb9
        have HGO8 := Lib.hid (show w8.heap.size ≤ go from by rw [← hgo]; exact Nat.le_refl _)
        have HGO := Lib.hid (show (0 < V.length → gt < go) ∧ w0.heap.size ≤ go ∧ b < go from by
          rw [← hgo]
          obtain ⟨_, _, h1, _⟩ := HR8.out
          exact ⟨fun h0 => cells32_lt HCL8.out h0, HBW8.out.size, (Array.getElem?_eq_some_iff.1 h1).1⟩)
        have HLT := Lib.hid (letters_any A5 n5 c5 xs5 w9 (HR58.out.below hb9))
        clear hw9 hgo hb9 hy9 y2
        go_wp2_with fail
        refine HLT.out.mono ?_
        rintro e w10 ⟨v10, l, rfl, ho10, hl1, hl2, hltx, hb10⟩
        obtain ⟨A10, c10, rfl, hc10, hcl10⟩ := own_runes ho10
        have hcv := conv_runes (c := c10) hcl10
        obtain ⟨SL, hSL⟩ : ∃ SL, Str l = SL := ⟨_, rfl⟩
        rw [hSL] at hcv
        have HSL := Lib.hid hSL
        have HLL := Lib.hid (And.intro hl1 (And.intro hl2 hltx))
        have hy10 := (hb10.block _ (Array.getElem?_eq_some_iff.1 HY9.out).1).trans HY9.out
        have HY10 := Lib.hid hy10
        have HR10 := Lib.hid (HR9.out.below hb10)
        have HE10 := Lib.hid (HE9.out.trans (hb10.mono HE9.out.size))
        have HBW10 := Lib.hid (HBW9.out.trans (hb10.mono HBW9.out.size))
        have HB10 := Lib.hid hb10
        have z4 : w10.cell? ⟨go, 4, none⟩ = some (.string ⟨#[]⟩) := by rw [Lib.cell_of_heap hy10]; rfl
        have f4 : w10.frozen? ⟨go, 4, none⟩ = false := Lib.frozen_of_heap hy10 4
        have gl := (Array.getElem?_eq_some_iff.1 hy10).1
        clear ho10 hl1 hl2 hltx hb10 hc10 hcl10 hSL hy10 y2'
        go_wp2_with fail
        have hp11 := op_put (i := 4) (u := .string SL) HY10.out
        obtain ⟨w11, hw11⟩ : ∃ w11, w10.setCell ⟨go, 4, none⟩ (.string SL) = w11 := ⟨_, rfl⟩
        have hcl11 : Cells32 w11 (some ⟨gt, 0, none⟩) V := by rw [← hw11]; exact cells32_set ((HCL8.out.below HB9.out).below HB10.out) HGO.out.1
        rw [hw11] at hp11 ⊢
        have hy11 : w11.heap[go]? = some (.cells #[.int .i64 0, .int .i64 0, .int .i64 1, .int .i64 0, .string SL, .slice none 0 0, .int .i64 0, .int .i64 0, .bool false] 48 (0, 0)) := hp11.1
        have HY11 := Lib.hid hy11
        have HR11 := Lib.hid (HR10.out.keepT hp11.2.1)
        have HE11 := Lib.hid (HE10.out.trans (hp11.2.2 _ HGO8.out))
        have HBW11 := Lib.hid (HBW10.out.trans (hp11.2.2 _ HGO.out.2.1))
        have HCL11 := Lib.hid hcl11
        have HTO := Lib.hid (TotalOf_any b cs' p w11 HR11.out (by rw [HM.out]; exact HPM.out))
        have hplc := plc_le cs' p
        obtain ⟨P, hP⟩ : ∃ P, plc cs' p = P := ⟨_, rfl⟩
        rw [hP] at HTO hplc
        have HPP := Lib.hid hP
        have HPL := Lib.hid hplc
        clear hw11 hp11 hcl11 hy11 hP hplc z4 f4 gl hcv
        refine HTO.out.mono ?_
        rintro e w12 ⟨rfl, hb12⟩
        have hy12 := (hb12.block _ (Array.getElem?_eq_some_iff.1 HY11.out).1).trans HY11.out
        have HY12 := Lib.hid hy12
        have HR12 := Lib.hid (HR11.out.below hb12)
        have HE12 := Lib.hid (HE11.out.trans (hb12.mono HE11.out.size))
        have HBW12 := Lib.hid (HBW11.out.trans (hb12.mono HBW11.out.size))
        have HCL12 := Lib.hid (HCL11.out.below hb12)
        have z3 : w12.cell? ⟨go, 3, none⟩ = some (.int .i64 0) := by rw [Lib.cell_of_heap hy12]; rfl
        have f3 : w12.frozen? ⟨go, 3, none⟩ = false := Lib.frozen_of_heap hy12 3
        have gl := (Array.getElem?_eq_some_iff.1 hy12).1
        clear hb12 hy12 HTO HR11 HY11 HBW11 HCL11
        go_upto_region 19 with fail
        have hp13 := op_put (i := 3) (u := .int .i64 P) HY12.out
        obtain ⟨w13, hw13⟩ : ∃ w13, w12.setCell ⟨go, 3, none⟩ (.int .i64 P) = w13 := ⟨_, rfl⟩
        have hcl13 : Cells32 w13 (some ⟨gt, 0, none⟩) V := by rw [← hw13]; exact cells32_set HCL12.out HGO.out.1
        rw [hw13] at hp13 ⊢
        have hy13 : w13.heap[go]? = some (.cells (opC 0 0 1 P SL (.slice none 0 0) 0 0 false) 48 (0, 0)) := hp13.1
        have HY13 := Lib.hid hy13
        have HR13 := Lib.hid (HR12.out.keepT hp13.2.1)
        have HE13 := Lib.hid (HE12.out.trans (hp13.2.2 _ HGO8.out))
        have HBW13 := Lib.hid (HBW12.out.trans (hp13.2.2 _ HGO.out.2.1))
        have HCL13 := Lib.hid hcl13
        have ld13 := ldO_run hy13
        have hck : chk SL.data.toList = (l.length, 0, 0) := by rw [← HSL.out, str_list, chk_text l HLL.out.2.2]
        have HAP := Lib.hid (Apply_any b cs' 0 0 1 P SL none 0 0 [] 0 0 false l.length 0 0 l hck (fun _ => ⟨by rw [← HSL.out, str_list], rfl, HLL.out.2.2⟩) w13 HR13.out (by rw [← HSL.out, str_size]; have := enc_len_le l; have := HLL.out.2.1; unfold maxLen; omega) (by omega) (Ranges.none _ _) (HBA.out.below (HB0.out.trans (HBW13.out.mono HB0.out.size))))
        rw [apply_ins (cs := cs') (xs := l) (p := P) (by intro e; have := HLL.out.1; rw [e] at this; simp at this) HLL.out.2.1 HPL.out (by have := HLN.out; have := HLL.out.2.1; omega) [] rfl SL] at HAP
        unfold opV at HAP
        clear hw13 hp13 hcl13 hy13 z3 f3 gl hck
        go_wp2_with fail
        refine HAP.out.mono ?_
        rintro e w14 ⟨he, hr14, hg14⟩
        obtain ⟨cs2, hcs2⟩ : ∃ c2, List.take P cs' ++ run l 0 ++ List.drop P cs' = c2 := ⟨_, rfl⟩
        have he' : e = .returned (.int .i64 0) := he
        subst he'
        clear he
        have hr14' : Rope w14 b cs2 := by rw [← hcs2]; exact hr14
        have hv2 : vis cs2 = V.take p ++ l ++ V.drop p := by rw [← hcs2, ← HPP.out, vis_ins, HV.out]
        have HML := Lib.hid (show 1 ≤ (vis cs2).length by rw [hv2, List.length_append, List.length_append]; have := HLL.out.1; omega)
        have HTX2 := Lib.hid (show ∀ c ∈ cs2, TxtRune c.1 by
          rw [← hcs2]
          intro c hc
          rcases List.mem_append.1 hc with h | h
          · rcases List.mem_append.1 h with h | h
            · exact HTX.out c (List.mem_of_mem_take h)
            · exact HLL.out.2.2 _ (run_mem h).2
          · exact HTX.out c (List.mem_of_mem_drop h))
        have HLN2 := Lib.hid (show cs2.length ≤ 400 + 256 * (k + 1) by
          rw [← hcs2, List.length_append, List.length_append, List.length_take, List.length_drop, run_len]
          have := HLN.out; have := HLL.out.2.1; have := HPL.out; omega)
        have HCOK := Lib.hid (show Cok cs2 by obtain ⟨_, _, _, h2, rfl⟩ := hr14'; exact h2.wf.ok)
        have HR14 := Lib.hid hr14'
        have HBW14 := Lib.hid (below_keepB HBW13.out HBG.out hg14)
        have HCL14 := Lib.hid (cells32_keepB HCL13.out (fun h0 => by have := HGD2.out.2; have := HGT.out; omega) hg14)
        have HGD8 := Lib.hid (show gd < w8.heap.size from (Array.getElem?_eq_some_iff.1 HY8.out).1)
        have z0 : w14.cell? ⟨gd, 0, none⟩ = some (.int .i64 dk) := cell_keepB (U.cell_below HE13.out (by rw [Lib.cell_of_heap HY8.out]; rfl)) (by have := HGD2.out.2; simp only; omega) hg14
        have z4 : w14.cell? ⟨go, 4, none⟩ = some (.string SL) := cell_keepB (by rw [Lib.cell_of_heap HY13.out]; rfl) (by have := HGO.out.2.2; simp only; omega) hg14
        have HSZ := Lib.hid (show w8.heap.size ≤ w14.heap.size from by have := HE13.out.size; have := hg14.size; omega)
        have hb14 : b < w14.heap.size := by obtain ⟨_, _, h1, _⟩ := hr14'; exact (Array.getElem?_eq_some_iff.1 h1).1
        have HB14 := Lib.hid hb14
        have HD14 := Lib.hid (fun (W : World) (hW : Below w14.heap.size w14 W) => U.cell_below hW z0)
        obtain ⟨PA, PB, s1, s2, hcv⟩ := parts gt m c7 p p V HVL.out HPM.out HPM.out HC7.out
        obtain ⟨S1, hS1⟩ : ∃ S1, Str (V.take p) = S1 := ⟨_, rfl⟩
        obtain ⟨S2, hS2⟩ : ∃ S2, Str (V.drop p) = S2 := ⟨_, rfl⟩
        obtain ⟨S12, hS12⟩ : ∃ S12, S1 ++ SL = S12 := ⟨_, rfl⟩
        obtain ⟨SX, hSX⟩ : ∃ SX, Str (vis cs2) = SX := ⟨_, rfl⟩
        have hz1 : S1.size ≤ 64000 := by rw [← hS1, str_size]; have h8 := enc_len_le (V.take p); have h9 := HVL.out; rw [List.length_take] at h8; omega
        have hz2 : S2.size ≤ 64000 := by rw [← hS2, str_size]; have h8 := enc_len_le (V.drop p); have h9 := HVL.out; rw [List.length_drop] at h8; omega
        have hz3 : SL.size ≤ 1024 := by rw [← HSL.out, str_size]; have := enc_len_le l; have := HLL.out.2.1; omega
        have e12 : S12 ++ S2 = SX := by rw [← hS12, ← hS1, ← HSL.out, ← hS2, ← hSX, hv2, str_ap, str_ap]
        have q1 := add_str S1 SL (by omega)
        have q2 := add_str S12 S2 (by rw [← hS12, ByteArray.size_append]; omega)
        rw [hS12] at q1
        rw [e12] at q2
        rw [hS1, hS2] at hcv
        have HS14 := Lib.hid (fun (W : World) (hW : Below w14.heap.size w14 W) => And.intro (U.cell_below hW z4) (hcv W (HCL14.out.below hW)))
        have HT14 := Lib.hid (fun (W : World) (hW : Below w14.heap.size w14 W) => (Text_any b cs2 W (HR14.out.below hW) HTX2.out).mono (R' := fun e w' => e = .returned (.string SX) ∧ Below w14.heap.size w14 w') fun e w' ⟨h1, h2⟩ => ⟨by rw [← hSX]; exact h1, hW.trans (h2.mono hW.size)⟩)
        obtain ⟨t4, t5, t6⟩ := HS14.out w14 (Below.refl _ _)
        clear hr14 hr14' hg14 hb14 hS1 hS2 hS12 hv2 hz1 hz2 hz3 e12 hcv z0 HAP HLT HY13 HR13 HCL13 HBW12 HCL12 HR12 HY12 z4 ld13 hcs2
        go_upto_region 20 with fail
        go_region_held3 (fun w' => w'.cell? ⟨go, 4, none⟩ = some (.string SL) ∧ (convert 34 9 (.slice PA p c7)).run Tryd.prog w' = .ok (.string S1) w' ∧ (convert 34 9 (.slice PB (m - p : Nat) (c7 - p : Nat))).run Tryd.prog w' = .ok (.string S2) w')
          (first | (with_reducible exact HS14.out _ hbT) | (with_reducible exact HS14.out _ (Below.refl _ _).drew) | (with_reducible exact HS14.out _ (Below.refl _ _)))
          (first
          | ((with_reducible refine (HT14.out _ (Below.refl _ _).drew).mono ?_); rintro e wT ⟨rfl, hbT⟩))
        have HBT := Lib.hid hbT
        have HBWT := Lib.hid (HBW14.out.trans (hbT.mono HBW14.out.size))
        have HRT := Lib.hid (HR14.out.below hbT)
        clear hbT HS14 HT14 q1 q2 s1 s2 hSX
        have hvl := vis_len cs2
        have hsl := shown_le cs2
        have hml := HML.out
        have hln2 := HLN2.out
        have HT15 := Lib.hid (Text_any b cs2 wT HRT.out HTX2.out)
        have HVT2 := Lib.hid (runes_of HTX2.out)
        obtain ⟨V2, hV2⟩ : ∃ V2, vis cs2 = V2 := ⟨_, rfl⟩
        rw [hV2] at hvl hml HT15 HVT2
        have HV2 := Lib.hid hV2
        obtain ⟨m2, hm2⟩ : ∃ m2, V2.length = m2 := ⟨_, rfl⟩
        rw [hm2] at hvl hml
        have HVL2 := Lib.hid hm2
        have hmm : 1 ≤ m2 ∧ m2 ≤ 16016 := by omega
        have HSH2 := Lib.hid hvl
        clear hvl hsl hml hln2 hV2 hm2
        go_wp2_with fail
        refine HT15.out.mono ?_
        rintro e w16 ⟨rfl, hb16⟩
        obtain ⟨c17, w17, hcv17, hc17, hb17, hcl17⟩ := conv_to_runes (Str V2) V2 (text_str' HVT2.out (by rw [HVL2.out]; omega)) (by rw [HVL2.out]; omega) w16
        rw [HVL2.out] at hcv17 hc17
        have HBT7 := Lib.hid (hb16.trans (hb17.mono hb16.size))
        have HB17 := Lib.hid (HBT.out.trans (HBT7.out.mono HBT.out.size))
        have HBW17 := Lib.hid (HBWT.out.trans (HBT7.out.mono HBWT.out.size))
        have HR17 := Lib.hid (HRT.out.below HBT7.out)
        have HCL17 := Lib.hid hcl17
        obtain ⟨gt2, hgt2⟩ : ∃ gt2, w16.heap.size = gt2 := ⟨_, rfl⟩
        rw [hgt2] at hcv17 HCL17
        have HGT2 := Lib.hid (show b < gt2 by have := HB14.out; have := HBT.out.size; have := hb16.size; omega)
        have HC17 := Lib.hid hc17
        obtain ⟨x0, x1, x2, x3⟩ := HBX.out w17 (HBW17.out.block _ HG0L.out)
        clear hb16 hb17 hcl17 hgt2 hc17 HT15
        go_wp2_with fail
        refine (pick_any _ (m2 : Int) w17 (by omega)).mono ?_
        rintro e w18 ⟨⟨r, rfl, r0, r1⟩, hw18⟩
        obtain rfl := hw18.symm
        obtain ⟨q, rfl⟩ : ∃ q : Nat, r = q := ⟨r.toNat, by omega⟩
        go_wp2_with fail
        refine (pick_any _ ((m2 : Int) - q) w17 (by omega)).mono ?_
        rintro e w18 ⟨⟨r, rfl, r2, r3⟩, hw18⟩
        obtain rfl := hw18.symm
        obtain ⟨z, rfl⟩ : ∃ z : Nat, r = z := ⟨r.toNat, by omega⟩
        obtain ⟨q2, hq2⟩ : ∃ q2 : Nat, q + 1 + z = q2 := ⟨_, rfl⟩
        have hq3 : (q : Int) + 1 + (z : Int) = (q2 : Int) := by omega
        clear r0 r1 r2 x0 x1 x2 x3
        go_upto_region 25 with fail
        have hqq : q < q2 ∧ q2 ≤ m2 := by omega
        clear hq2 hq3 r3
        have HQQ := Lib.hid hqq
        have HVS := Lib.hid (visR_spec cs2 q q2)
        have HVH := Lib.hid (vis_hide HCOK.out (lo := q) (hi := q2) (by omega))
        have HVF := Lib.hid (hide_free cs2 q q2)
        have HVI := Lib.hid (Visible_any b cs2 q q2 w17 HR17.out (by omega) (by rw [← HSH2.out]; omega) (by have := HVS.out.2.2.2.1; omega))
        obtain ⟨RS, hRS⟩ : ∃ RS, visR cs2 q q2 = RS := ⟨_, rfl⟩
        rw [hRS] at HVS HVH HVF HVI
        rw [HV2.out] at HVH
        clear hRS
        go_wp2_with fail
        refine HVI.out.mono ?_
        rintro e w20 ⟨⟨v20, rfl, ho20⟩, hb20⟩
        obtain ⟨A20, c20, rfl, hrg20, hlt20⟩ := own_rg ho20
        obtain ⟨nr, hnr⟩ : ∃ nr, RS.length = nr := ⟨_, rfl⟩
        rw [hnr] at hrg20 ⊢
        have HNR := Lib.hid hnr
        have HRG20 := Lib.hid hrg20
        have HG20 := Lib.hid (show ∀ g off, A20 = some ⟨g, off, none⟩ → 0 < nr → b < g from fun g off e h0 => by have := (hlt20 g off e (by rw [HNR.out]; exact h0)).1; have := HB14.out; have := HB17.out.size; omega)
        have HBW20 := Lib.hid (HBW17.out.trans (hb20.mono HBW17.out.size))
        have HB20 := Lib.hid (HB17.out.trans (hb20.mono HB17.out.size))
        have HR20 := Lib.hid (HR17.out.below hb20)
        have HCL20 := Lib.hid (HCL17.out.below hb20)
        clear ho20 hb20 hrg20 hlt20 hnr HVI
        go_upto_region 29 with fail
        obtain ⟨w21, hw21⟩ : ∃ w21, w20.alloc (.cells (opC 0 0 2 0 ⟨#[]⟩ (.slice A20 nr c20) 0 0 false) 48) = w21 := ⟨_, rfl⟩
        obtain ⟨gx, hgx⟩ : ∃ gx, w20.heap.size = gx := ⟨_, rfl⟩
        have hb21 : Below w20.heap.size w20 w21 := by rw [← hw21]; exact below_alloc1 _ _
        have hy21 : w21.heap[gx]? = some (.cells (opC 0 0 2 0 ⟨#[]⟩ (.slice A20 nr c20) 0 0 false) 48 (0, 0)) := by rw [← hw21, ← hgx]; exact heap_at rfl
        unfold opC at hw21
        rw [hw21, hgx]
        have HY21 := Lib.hid hy21
        have HBW21 := Lib.hid (HBW20.out.trans (hb21.mono HBW20.out.size))
        have HB21 := Lib.hid (HB20.out.trans (hb21.mono HB20.out.size))
        have HR21 := Lib.hid (HR20.out.below hb21)
        have HCL21 := Lib.hid (HCL20.out.below hb21)
        have HRG21 := Lib.hid (HRG20.out.below hb21)
        have HGX := Lib.hid (show b < gx by rw [← hgx]; have := HB14.out; have := HB20.out.size; omega)
        have HNE := Lib.hid (HVS.out.2.2.2.2 HQQ.out.1 (by rw [← HSH2.out]; exact HQQ.out.2))
        have HLR := Lib.hid (show RS.length ≤ 32768 by have := HVS.out.2.2.2.1; have := HQQ.out; omega)
        have HLC := Lib.hid (show cs2.length ≤ 16016 by have := HLN2.out; omega)
        have hck0 : chk (⟨#[]⟩ : ByteArray).data.toList = (0, 0, 0) := by decide
        have HAC := Lib.hid (apply_cover (kd := 2) (.inl rfl) HNE.out HVS.out.1 HLR.out HVS.out.2.1 (by have := HLC.out; omega) HCOK.out (by rw [if_pos rfl]; exact HVF.out.1) 0 [])
        have HAP := Lib.hid (Apply_any b cs2 0 0 2 0 ⟨#[]⟩ A20 nr c20 RS 0 0 false 0 0 0 [] hck0 (fun _ => ⟨by simp [enc], rfl, fun r hr => by cases hr⟩) w21 HR21.out (by show (0:Nat) ≤ _; omega) (by have := HNR.out; have := HLR.out; omega) HRG21.out (HBA.out.below (HB0.out.trans (HBW21.out.mono HB0.out.size))))
        rw [HAC.out.1, if_pos rfl] at HAP
        unfold opV at HAP
        have ld21 := ldO_run hy21
        have HD21 := Lib.hid (HD14.out w21 HB21.out)
        obtain ⟨cs3, hcs3⟩ : ∃ cs3, bumpC 1 RS cs2 = cs3 := ⟨_, rfl⟩
        rw [hcs3] at HAP HVH HVF
        have HCS3 := Lib.hid hcs3
        clear hcs3 hw21 hgx hb21 hy21 hck0 HAC
        go_wp2_with fail
        refine HAP.out.mono ?_
        rintro e w22 ⟨he, hr22, hg22⟩
        have he' : e = .returned (.int .i64 0) := he
        subst he'
        clear he
        have hr22' : Rope w22 b cs3 := hr22
        have HR22 := Lib.hid hr22'
        have HBW22 := Lib.hid (below_keepB HBW21.out HBG.out hg22)
        have HCL22 := Lib.hid (cells32_keepB HCL21.out (fun h0 => HGT2.out) hg22)
        have z0 : w22.cell? ⟨gd, 0, none⟩ = some (.int .i64 dk) := cell_keepB HD21.out (by have := HGD2.out.2; simp only; omega) hg22
        have HY22 := Lib.hid (show w22.heap[gx]? = some (.cells (opC 0 0 2 0 ⟨#[]⟩ (.slice A20 nr c20) 0 0 false) 48 (0, 0)) from (hg22.block _ (Array.getElem?_eq_some_iff.1 HY21.out).1 (fun e => by have := HGX.out; have := Option.some.inj e; omega)).trans HY21.out)
        have HRG22 := Lib.hid (show Ranges w22 A20 nr RS from ⟨HRG21.out.len, fun h0 => by
          obtain ⟨g, off, e, hc⟩ := HRG21.out.at_ h0
          have hgl := HG20.out g off e h0
          exact ⟨g, off, e, fun j hj => ⟨cell_keepB (hc j hj).1 (by simp only; omega) hg22, cell_keepB (hc j hj).2 (by simp only; omega) hg22⟩⟩⟩)
        have HB22 := Lib.hid (show b < w22.heap.size by obtain ⟨_, _, h1, _⟩ := hr22'; exact (Array.getElem?_eq_some_iff.1 h1).1)
        have HTX3 := Lib.hid (show ∀ c ∈ cs3, TxtRune c.1 by
          rw [← HCS3.out]
          intro c hc
          have h1 : c.1 ∈ (bumpC 1 RS cs2).map (·.1) := List.mem_map_of_mem hc
          rw [bumpC_fst] at h1
          obtain ⟨d, hd, e⟩ := List.mem_map.1 h1
          rw [← e]
          exact HTX2.out d hd)
        have HLN3 := Lib.hid (show cs3.length = cs2.length by rw [← HCS3.out]; have := congrArg List.length (bumpC_fst 1 RS cs2); rwa [List.length_map, List.length_map] at this)
        have HD22 := Lib.hid (fun (W : World) (hW : Below w22.heap.size w22 W) => U.cell_below hW z0)
        obtain ⟨PA2, PB2, s1, s2, hcv⟩ := parts gt2 m2 c17 q q2 V2 HVL2.out (by have := HQQ.out; omega) HQQ.out.2 HC17.out
        obtain ⟨S1', hS1⟩ : ∃ S1', Str (V2.take q) = S1' := ⟨_, rfl⟩
        obtain ⟨S2', hS2⟩ : ∃ S2', Str (V2.drop q2) = S2' := ⟨_, rfl⟩
        obtain ⟨SY, hSY⟩ : ∃ SY, Str (vis cs3) = SY := ⟨_, rfl⟩
        have hz1 : S1'.size ≤ 65000 := by rw [← hS1, str_size]; have h8 := enc_len_le (V2.take q); have h9 := HVL2.out; rw [List.length_take] at h8; omega
        have hz2 : S2'.size ≤ 65000 := by rw [← hS2, str_size]; have h8 := enc_len_le (V2.drop q2); have h9 := HVL2.out; rw [List.length_drop] at h8; omega
        have e12 : S1' ++ S2' = SY := by rw [← hS1, ← hS2, ← hSY, HVH.out, str_ap]
        have q1 := add_str S1' S2' (by omega)
        rw [e12] at q1
        rw [hS1, hS2] at hcv
        have HS22 := Lib.hid (fun (W : World) (hW : Below w22.heap.size w22 W) => hcv W (HCL22.out.below hW))
        have HT22 := Lib.hid (fun (W : World) (hW : Below w22.heap.size w22 W) => (Text_any b cs3 W (HR22.out.below hW) HTX3.out).mono (R' := fun e w' => e = .returned (.string SY) ∧ Below w22.heap.size w22 w') fun e w' ⟨h1, h2⟩ => ⟨by rw [← hSY]; exact h1, hW.trans (h2.mono hW.size)⟩)
        obtain ⟨t5, t6⟩ := HS22.out w22 (Below.refl _ _)
        clear hr22 hr22' hg22 hS1 hS2 hz1 hz2 e12 hcv z0 HAP t4 ld21 HY21 HBW21 HRG21 HCL21 HR21 HRG20 HBW20 HB20 HR20 HCL20
        go_upto_region 30 with fail
        go_region_held3 (fun w' => (convert 34 9 (.slice PA2 q c17)).run Tryd.prog w' = .ok (.string S1') w' ∧ (convert 34 9 (.slice PB2 (m2 - q2 : Nat) (c17 - q2 : Nat))).run Tryd.prog w' = .ok (.string S2') w')
          (first | (with_reducible exact HS22.out _ hbT) | (with_reducible exact HS22.out _ (Below.refl _ _).drew) | (with_reducible exact HS22.out _ (Below.refl _ _)))
          (first
          | ((with_reducible refine (HT22.out _ (Below.refl _ _).drew).mono ?_); rintro e wT ⟨rfl, hbT⟩))
        have y0 := HD22.out wT hbT
        have HBT2 := Lib.hid hbT
        have HBW30 := Lib.hid (HBW22.out.trans (hbT.mono HBW22.out.size))
        have HR30 := Lib.hid (HR22.out.below hbT)
        have HY30 := Lib.hid ((hbT.block _ (Array.getElem?_eq_some_iff.1 HY22.out).1).trans HY22.out)
        have HRG30 := Lib.hid (HRG22.out.below hbT)
        have HCL30 := Lib.hid (HCL22.out.below hbT)
        have HB30 := Lib.hid (show b < wT.heap.size by have := HB22.out; have := hbT.size; omega)
        clear hbT HS22 HT22 q1 s1 s2 hSY t5 t6
        obtain ⟨w30, hw30⟩ : ∃ w30, wT = w30 := ⟨_, rfl⟩
        subst hw30
        go_wp2_with fail
        refine (pick_any _ 2 wT (by omega)).mono ?_
        rintro e w31 ⟨⟨r, rfl, r0, r1⟩, hw31⟩
        obtain rfl := hw31.symm
        by_cases hr0 : r = 0
        · subst hr0
          have HEO := Lib.hid (own_cover HNE.out HVS.out.1 HLR.out HVS.out.2.1 (by have := HLC.out; omega))
          have ld30 := ldO_run HY30.out
          have hck0 : chk (⟨#[]⟩ : ByteArray).data.toList = (0, 0, 0) := by decide
          have HIV := Lib.hid (Inverse_any 0 0 2 0 ⟨#[]⟩ A20 nr c20 RS 0 0 false 0 0 0 hck0 wT (by show (0:Nat) ≤ _; omega) (by have := HNR.out; have := HLR.out; omega) HRG30.out (HBA.out.below (HB0.out.trans (HBW30.out.mono HB0.out.size))) 0 HEO.out)
          have hcr : covR 0 0 2 0 ⟨#[]⟩ 0 0 RS 0 0 false = RS := by
            unfold covR
            rw [HEO.out, if_neg (by omega), if_neg (by omega)]
          rw [hcr, show invK 0 2 = 3 from rfl, if_neg (by omega), if_neg (by omega)] at HIV
          unfold opV at HIV
          clear hcr hck0 r0 r1 y0
          go_wp2_with fail
          refine HIV.out.mono ?_
          rintro e w32 ⟨⟨A32, n32, c32, rfl, ho32⟩, hb32⟩
          unfold opV
          obtain ⟨A33, c33, e33, hrg32, hlt32⟩ := own_rg ho32
          obtain ⟨rfl, rfl, rfl⟩ : A32 = A33 ∧ n32 = RS.length ∧ c32 = c33 := by
            injection e33 with h1 h2 h3
            exact ⟨h1, h2, h3⟩
          obtain ⟨n33, hn33⟩ : ∃ n33, RS.length = n33 := ⟨_, rfl⟩
          rw [hn33] at hrg32 ⊢
          have HBW32 := Lib.hid (HBW30.out.trans (hb32.mono HBW30.out.size))
          have HR32 := Lib.hid (HR30.out.below hb32)
          have HCL32 := Lib.hid (HCL30.out.below hb32)
          have HRG32 := Lib.hid hrg32
          have HG32 := Lib.hid (show b < w32.heap.size by have := HB30.out; have := hb32.size; omega)
          have HN33 := Lib.hid hn33
          have hf := Fresh.new w32 (.int .i64 0) (.int .i64 0) (.int .i64 0) (.int .i64 0) (.string ⟨#[]⟩) (.slice none 0 0) (.int .i64 0) (.int .i64 0) (.bool false)
          clear ho32 e33 hrg32 hlt32 hn33 hb32 HIV ld30
          go_upto_region 34 with fail
          obtain ⟨w33, hw33⟩ : ∃ w33, (w32.alloc (.cells #[.int .i64 0, .int .i64 0, .int .i64 0, .int .i64 0, .string ⟨#[]⟩, .slice none 0 0, .int .i64 0, .int .i64 0, .bool false] 48)).setRow w32.heap.size (opC 0 0 3 0 ⟨#[]⟩ (.slice A32 n33 c32) 0 0 false) = w33 := ⟨_, rfl⟩
          obtain ⟨gv, hgv⟩ : ∃ gv, w32.heap.size = gv := ⟨_, rfl⟩
          have hb33 : Below w32.heap.size w32 w33 := by rw [← hw33]; exact below_setRow (below_alloc1 _ _) (Nat.le_refl _) _
          have hy33 : w33.heap[gv]? = some (.cells (opC 0 0 3 0 ⟨#[]⟩ (.slice A32 n33 c32) 0 0 false) 48 (0, 0)) := by rw [← hw33, ← hgv]; exact setRow_heap _ _ _ _ _ _ (heap_at rfl)
          unfold opC at hw33
          rw [hw33, hgv]
          have HBW33 := Lib.hid (HBW32.out.trans (hb33.mono HBW32.out.size))
          have HR33 := Lib.hid (HR32.out.below hb33)
          have HCL33 := Lib.hid (HCL32.out.below hb33)
          have HRG33 := Lib.hid (HRG32.out.below hb33)
          have hck0 : chk (⟨#[]⟩ : ByteArray).data.toList = (0, 0, 0) := by decide
          have HCO3 := Lib.hid (show Cok cs3 by obtain ⟨_, _, _, h2, rfl⟩ := HR33.out; exact h2.wf.ok)
          have HAC := Lib.hid (apply_cover (kd := 3) (cs := cs3) (.inr rfl) HNE.out HVS.out.1 HLR.out (by rw [HLN3.out]; exact HVS.out.2.1) (by have := HLC.out; have := HLN3.out; omega) HCO3.out (by rw [if_neg (by omega)]; exact HVF.out.2) 0 [])
          have HAP := Lib.hid (Apply_any b cs3 0 0 3 0 ⟨#[]⟩ A32 n33 c32 RS 0 0 false 0 0 0 [] hck0 (fun _ => ⟨by simp [enc], rfl, fun r hr => by cases hr⟩) w33 HR33.out (by show (0:Nat) ≤ _; omega) (by have := HN33.out; have := HLR.out; omega) HRG33.out (HBA.out.below (HB0.out.trans (HBW33.out.mono HB0.out.size))))
          rw [HAC.out.1, if_neg (by omega), ← HCS3.out, bumpC_back 1] at HAP
          unfold opV at HAP
          have ld33 := ldO_run hy33
          clear hf hw33 hgv hb33 hy33 hck0 HAC
          go_wp2_with fail
          refine HAP.out.mono ?_
          rintro e w34 ⟨he, hr34, hg34⟩
          have he' : e = .returned (.int .i64 0) := he
          subst he'
          clear he
          have hr34' : Rope w34 b cs2 := hr34
          have HR34 := Lib.hid hr34'
          have HBW34 := Lib.hid (below_keepB HBW33.out HBG.out hg34)
          have hcl34 := cells32_keepB HCL33.out (fun h0 => HGT2.out) hg34
          have HB34 := Lib.hid (show b < w34.heap.size by obtain ⟨_, _, h1, _⟩ := hr34'; exact (Array.getElem?_eq_some_iff.1 h1).1)
          obtain ⟨SZ, hSZ⟩ : ∃ SZ, Str V2 = SZ := ⟨_, rfl⟩
          have HS34 := Lib.hid (fun (W : World) (hW : Below w34.heap.size w34 W) => (show (convert 34 9 (.slice (some ⟨gt2, 0, none⟩) m2 c17)).run Tryd.prog W = .ok (.string SZ) W by
            have h := conv_runes (c := c17) (hcl34.below hW)
            rwa [HVL2.out, hSZ] at h))
          have HT34 := Lib.hid (fun (W : World) (hW : Below w34.heap.size w34 W) => (Text_any b cs2 W (HR34.out.below hW) HTX2.out).mono (R' := fun e w' => e = .returned (.string SZ) ∧ Below w34.heap.size w34 w') fun e w' ⟨h1, h2⟩ => ⟨by rw [← hSZ, ← HV2.out]; exact h1, hW.trans (h2.mono hW.size)⟩)
          have t5 := HS34.out w34 (Below.refl _ _)
          clear hr34 hr34' hg34 hcl34 hSZ HAP ld33
          go_upto_region 35 with fail
          go_region_held3 (fun w' => (convert 34 9 (.slice (some ⟨gt2, 0, none⟩) m2 c17)).run Tryd.prog w' = .ok (.string SZ) w')
            (first | (with_reducible exact HS34.out _ hbT) | (with_reducible exact HS34.out _ (Below.refl _ _).drew) | (with_reducible exact HS34.out _ (Below.refl _ _)))
            (first
            | ((with_reducible refine (HT34.out _ (Below.refl _ _).drew).mono ?_); rintro e wT ⟨rfl, hbT⟩))
          have HBWT4 := Lib.hid (HBW34.out.trans (hbT.mono HBW34.out.size))
          have HRT4 := Lib.hid (HR34.out.below hbT)
          have HBT4 := Lib.hid (show b < wT.heap.size by have := HB34.out; have := hbT.size; omega)
          clear hbT HS34 HT34
          go_wp2_with fail
          go_roundw
          case rel =>
            exact ⟨k + 1, cs2, by omega, by omega, by go_num, HRT4.out, HTX2.out, HLN2.out, HBWT4.out, HBT4.out⟩
          case measure => simp [intOf]; omega
        · have hr1 : r = 1 := by omega
          subst hr1
          clear r0 r1 hr0 y0
          go_wp2_with fail
          go_roundw
          case rel =>
            exact ⟨k + 1, cs3, by omega, by omega, by go_num, HR30.out, HTX3.out, by have := HLN3.out; have := HLN2.out; omega, HBW30.out, HB30.out⟩
          case measure => simp [intOf]; omega
    · have hend : (k ≤ nd ∧ decide ((k : Int) < 60) = false) ∨ ¬ (k : Int) ≤ (nd : Int) := by
        by_cases g1 : k ≤ nd
        · exact .inl ⟨g1, by simp; omega⟩
        · exact .inr (by omega)
      clear hgo
      rcases hend with ⟨g1, g2⟩ | g1
      · have g1' : (k : Int) ≤ (nd : Int) := by omega
        go_wp2_with fail
        go_ret
        exact ⟨rfl, HB0.out.trans (HBW.out.mono HB0.out.size)⟩
      · have g1' : ¬ k ≤ nd := by omega
        go_wp2_with fail
        go_ret
        exact ⟨rfl, HB0.out.trans (HBW.out.mono HB0.out.size)⟩
end
end Go.Proofs.YtkdhomiieenfnaaDoor.Lw

namespace Go.Proofs.YtkdhomiieenfnaaDoor.Lw
open Go.RowKit Go.Proofs Go.Proofs.YtkdhomiieenfnaaDoor.U Go.Proofs.YtkdhomiieenfnaaDoor.Txt Go.Proofs.YtkdhomiieenfnaaDoor.Rp Go.Proofs.YtkdhomiieenfnaaDoor.O
set_option linter.unusedVariables false
set_option linter.unusedSimpArgs false

/-- Does this counter forbid the step of this kind? -/
def stop1 (kd h : Int) : Prop := (kd = 3 ∧ h = 0) ∨ (kd = 2 ∧ h = 1048576)
/-- Does a counter of these ranges? -/
def stopsR (kd : Int) (rs : List (Int × Int)) (cs : List Cl) : Prop := ∃ (j : Nat) (hj : j < rs.length) (i : Nat) (hi : i < cs.length), rs[j].1 ≤ (i : Int) ∧ (i : Int) < rs[j].2 ∧ stop1 kd cs[i].2
theorem stopsR_iff {kd : Int} (hk : kd = 2 ∨ kd = 3) (rs : List (Int × Int)) (cs : List Cl) : stopsR kd rs cs ↔ stopC (if kd = 2 then 1 else -1) rs cs := by
  have hM : M = 1048576 := rfl
  unfold stopsR stopC stopI
  constructor
  · rintro ⟨j, hj, i, hi, h1, h2, h3⟩
    refine ⟨i, ?_, cs[i], List.getElem?_eq_getElem hi, ?_⟩
    · unfold cov
      rw [List.any_eq_true]
      exact ⟨rs[j], List.getElem_mem _, by simp [h1, h2]⟩
    · rcases h3 with ⟨rfl, h3⟩ | ⟨rfl, h3⟩
      · exact .inl ⟨by decide, h3⟩
      · exact .inr ⟨by decide, by rw [h3]⟩
  · rintro ⟨i, hc, c, hg, h⟩
    obtain ⟨hi, rfl⟩ := List.getElem?_eq_some_iff.1 hg
    unfold cov at hc
    rw [List.any_eq_true] at hc
    obtain ⟨x, hx, h2⟩ := hc
    obtain ⟨j, hj, rfl⟩ := List.mem_iff_getElem.1 hx
    have h2 : rs[j].1 ≤ (i : Int) ∧ (i : Int) < rs[j].2 := by simpa using h2
    refine ⟨j, hj, i, hi, h2.1, h2.2, ?_⟩
    rcases hk with rfl | rfl
    · rcases h with ⟨h, _⟩ | ⟨_, h⟩
      · exact absurd h (by decide)
      · exact .inr ⟨rfl, h⟩
    · rcases h with ⟨_, h⟩ | ⟨h, _⟩
      · exact .inl ⟨rfl, h⟩
      · exact absurd h (by decide)
set_option maxRecDepth 100000 in
set_option maxHeartbeats 8000000 in
theorem stops_any (A1 A2 : Option Addr) (c1 n c2 : Nat) (cs : List Cl) (rs : List (Int × Int)) (i0 i1 kd a t0 t1 : Int) (tx : ByteArray) (on : Bool) (w : World) (hk : kd = 2 ∨ kd = 3) (h1 : CellsIn w A1 cs) (h2 : Ranges w A2 n rs) (hlo : ∀ x ∈ rs, 0 ≤ x.1) (hhi : ∀ x ∈ rs, x.2 ≤ (cs.length : Int)) (hl : cs.length ≤ 1048576) (hl2 : rs.length ≤ 1048576) :
    Calls Tryd.prog 22 #[.slice A1 cs.length c1, opV i0 i1 kd a tx (.slice A2 n c2) t0 t1 on] w fun e w' => (∃ b : Bool, e = .returned (.bool b) ∧ (b = true ↔ stopsR kd rs cs)) ∧ Below w.heap.size w w' := by
  obtain rfl := h2.len
  have H1 := Lib.hid h1
  have H2 := Lib.hid h2
  have HLO := Lib.hid hlo
  have HHI := Lib.hid hhi
  obtain ⟨n, hnn⟩ : ∃ n, cs.length = n := ⟨_, rfl⟩
  obtain ⟨m, hmm⟩ : ∃ m, rs.length = m := ⟨_, rfl⟩
  rw [hnn] at hl ⊢
  rw [hmm] at hl2 ⊢
  have HN := Lib.hid hnn
  have HM := Lib.hid hmm
  obtain ⟨w0, hw0⟩ : ∃ w0, w.alloc (.cells #[.int .i64 i0, .int .i64 i1, .int .i64 kd, .int .i64 a, .string tx, .slice A2 m c2, .int .i64 t0, .int .i64 t1, .bool on] 48) = w0 := ⟨_, rfl⟩
  have hB0 : Below w.heap.size w w0 := by rw [← hw0]; exact below_alloc1 _ _
  have hy0 : w0.heap[w.heap.size]? = some (.cells #[.int .i64 i0, .int .i64 i1, .int .i64 kd, .int .i64 a, .string tx, .slice A2 m c2, .int .i64 t0, .int .i64 t1, .bool on] 48 (0, 0)) := by rw [← hw0]; exact heap_at rfl
  have HW0 := Lib.hid hw0
  have HB0 := Lib.hid hB0
  obtain ⟨gr, hgr⟩ : ∃ gr, w.heap.size = gr := ⟨_, rfl⟩
  rw [hgr] at hy0
  have HGR := Lib.hid hgr
  have hglt := (Array.getElem?_eq_some_iff.1 hy0).1
  have HBX := Lib.hid (fun (W : World) (hW : Below w0.heap.size w0 W) => (show W.cell? ⟨gr, 2, none⟩ = some (.int .i64 kd) ∧ W.cell? ⟨gr, 5, none⟩ = some (.slice A2 m c2) from
    have e := (hW.block _ hglt).trans hy0
    ⟨by rw [Lib.cell_of_heap e]; rfl, by rw [Lib.cell_of_heap e]; rfl⟩))
  have HX := Lib.hid (fun (W : World) (hW : Below w0.heap.size w0 W) => hB0.trans (hW.mono hB0.size))
  clear h1 h2 hlo hhi hnn hmm hw0 hB0 hy0 hgr hglt
  unfold opV
  go_enter Tryd.func22, Tryd.ntmps22
  go_upto_region 1 with fail
  rw [HW0.out, HGR.out]
  go_wp2_with fail
  go_loopw [5] (fun i wr => ∃ j : Nat, j ≤ m ∧ i = .int .i64 j ∧ (∀ j' (h : j' < rs.length), j' < j → ∀ i (hi : i < cs.length), rs[j'].1 ≤ (i : Int) → (i : Int) < rs[j'].2 → ¬ stop1 kd cs[i].2) ∧ Below w0.heap.size w0 wr) (fun i _ => m - (intOf i).toNat)
  case atStart => exact ⟨0, Nat.zero_le _, rfl, fun j' h h' => absurd h' (by omega), Below.refl _ _⟩
  case round =>
    obtain ⟨j, hj, rfl, hno, hb⟩ := hrel
    have HNO := Lib.hid hno
    have HB := Lib.hid hb
    clear hno hb
    obtain ⟨x2, x5⟩ := HBX.out wr HB.out
    by_cases hlt : j < m
    · have hjl : j < rs.length := by have := HM.out; omega
      obtain ⟨g2, o2, rfl, hc2⟩ := H2.out.at_ (by omega)
      have f := hc2 j hjl
      have hl0 := HLO.out rs[j] (List.getElem_mem _)
      have hh0 := HHI.out rs[j] (List.getElem_mem _)
      obtain ⟨⟨lo, hi⟩, hra⟩ : ∃ x, rs[j] = x := ⟨_, rfl⟩
      rw [hra] at f hl0 hh0
      simp only at f hl0 hh0
      have HRA := Lib.hid hra
      have HF := Lib.hid (fun (W : World) (hW : Below w0.heap.size w0 W) => And.intro (U.cell_below (HX.out W hW) f.1) (U.cell_below (HX.out W hW) f.2))
      have hhn : hi ≤ (n : Int) := by rw [← HN.out]; exact hh0
      have z1 : (j : Int) < (m : Int) := by omega
      have z2 : (0 : Int) ≤ (j : Int) := by omega
      obtain ⟨f1, f2⟩ := HF.out wr HB.out
      obtain ⟨l, rfl⟩ : ∃ l : Nat, lo = l := ⟨lo.toNat, by omega⟩
      clear hc2 f hra hl0 hh0
      go_upto_region 5 with fail
      clear f1 f2 x2 x5
      go_loopw [6] (fun i wr2 => ∃ k : Nat, l ≤ k ∧ (k : Int) ≤ n + l ∧ i = .int .i64 k ∧ (∀ i (hi' : i < cs.length), l ≤ i → i < k → (i : Int) < hi → ¬ stop1 kd cs[i].2) ∧ Below w0.heap.size w0 wr2) (fun i _ => n - (intOf i).toNat)
      case atStart => exact ⟨l, Nat.le_refl _, by omega, rfl, fun i hi' h1 h2 => absurd h2 (by omega), HB.out⟩
      case round =>
        obtain ⟨k, hkl, hkn, rfl, hno2, hb2⟩ := hrel
        have HNO2 := Lib.hid hno2
        have HB2 := Lib.hid hb2
        clear hno2 hb2
        obtain ⟨x2, x5⟩ := HBX.out wr HB2.out
        obtain ⟨f1, f2⟩ := HF.out wr HB2.out
        by_cases hkh : (k : Int) < hi
        · have hkc : k < cs.length := by have := HN.out; omega
          obtain ⟨g1, o1, rfl, hc1⟩ := H1.out (by omega)
          have e := hc1 k hkc
          have HS := Lib.hid (fun (h : ¬ stop1 kd cs[k].2) (i : Nat) (hi' : i < cs.length) (h1 : l ≤ i) (h2 : i < k + 1) (h3 : (i : Int) < hi) => (show ¬ stop1 kd cs[i].2 by
            rcases Nat.lt_or_ge i k with h4 | h4
            · exact HNO2.out i hi' h1 h4 h3
            · obtain rfl : i = k := by omega
              exact h))
          have HT := Lib.hid (fun (h : stop1 kd cs[k].2) => (show stopsR kd rs cs from ⟨j, hjl, k, hkc, by rw [HRA.out]; simp only; omega, by rw [HRA.out]; exact hkh, h⟩))
          obtain ⟨⟨r, h⟩, hrh⟩ : ∃ c, cs[k] = c := ⟨_, rfl⟩
          rw [hrh] at e HS HT
          simp only at e HS HT
          have e1 := U.cell_below (HX.out wr HB2.out) e.1
          have e2 := U.cell_below (HX.out wr HB2.out) e.2
          have q1 : (k : Int) < (n : Int) := by omega
          have q1' : decide ((k : Int) < (n : Int)) = true := by simpa using q1
          have q2 : (0 : Int) ≤ (k : Int) := by omega
          clear hc1 e hrh
          rcases hk with rfl | rfl
          · by_cases h8 : h = 1048576
            · subst h8
              have hyes := HT.out (.inr ⟨rfl, rfl⟩)
              clear HS HT
              go_wp2_with fail
              go_ret
              exact ⟨⟨true, rfl, by simpa using hyes⟩, HX.out wr HB2.out⟩
            · have hnot := HS.out (by rintro (⟨h9, _⟩ | ⟨_, h9⟩); · exact absurd h9 (by decide)
                                      · exact h8 h9)
              have b8 : (h == 1048576) = false := by simpa using h8
              clear HS HT
              go_wp2_with fail
              go_roundw
              case rel => exact ⟨k + 1, by omega, by omega, by go_num, hnot, HB2.out⟩
              case measure => simp [intOf]; omega
          · by_cases h8 : h = 0
            · subst h8
              have hyes := HT.out (.inl ⟨rfl, rfl⟩)
              clear HS HT
              go_wp2_with fail
              go_ret
              exact ⟨⟨true, rfl, by simpa using hyes⟩, HX.out wr HB2.out⟩
            · have hnot := HS.out (by rintro (⟨_, h9⟩ | ⟨h9, _⟩); · exact h8 h9
                                      · exact absurd h9 (by decide))
              have b8 : (h == 0) = false := by simpa using h8
              clear HS HT
              go_wp2_with fail
              go_roundw
              case rel => exact ⟨k + 1, by omega, by omega, by go_num, hnot, HB2.out⟩
              case measure => simp [intOf]; omega
        · have q1 : ¬ (k : Int) < hi := hkh
          go_wp2_with fail
          go_roundw
          case rel =>
            refine ⟨j + 1, by omega, by go_num, fun j' hj' hjj => ?_, HB2.out⟩
            rcases Nat.lt_or_ge j' j with h4 | h4
            · exact HNO.out j' hj' h4
            · obtain rfl : j' = j := by omega
              intro i hi' h5 h6
              rw [HRA.out] at h5 h6
              simp only at h5 h6
              exact HNO2.out i hi' (by omega) (by omega) h6
          case measure => simp [intOf]; omega
    · have hjm : j = m := by omega
      go_wp2_with fail
      go_ret
      refine ⟨⟨false, rfl, ?_⟩, HX.out wr HB.out⟩
      constructor
      · intro h; cases h
      · rintro ⟨j', hj', i, hi', h5, h6, h7⟩
        exact absurd h7 (HNO.out j' hj' (by have := HM.out; omega) i hi' h5 h6)
end Go.Proofs.YtkdhomiieenfnaaDoor.Lw

namespace Go.Proofs.YtkdhomiieenfnaaDoor.Lw
open Go.RowKit Go.Proofs Go.Proofs.YtkdhomiieenfnaaDoor.U Go.Proofs.YtkdhomiieenfnaaDoor.Txt Go.Proofs.YtkdhomiieenfnaaDoor.Rp Go.Proofs.YtkdhomiieenfnaaDoor.O
set_option linter.unusedVariables false
set_option linter.unusedSimpArgs false

theorem nrm_later : ∀ {m : Int} {rs : List (Int × Int)}, Nrm m rs → ∀ a b (hb : b < rs.length), (hab : a < b) → (rs[a]'(by omega)).2 < rs[b].1
  | m, x :: r, h, 0, b + 1, hb, _ => by
    have hb' : b < r.length := by simpa using hb
    have h1 := Nrm.lo h.2.2 r[b] (List.getElem_mem _)
    simp only [List.getElem_cons_zero, List.getElem_cons_succ]
    omega
  | m, x :: r, h, a + 1, b + 1, hb, hab => by
    simp only [List.getElem_cons_succ]
    exact nrm_later h.2.2 a b (by simpa using hb) (by omega)
/-- Is a cell covered: to be seen at the first range that ends behind it. -/
theorem cov_at {rs : List (Int × Int)} (hn : Nrm 0 rs) {a i : Nat} (hlo : ∀ j (h : j < rs.length), j < a → rs[j].2 ≤ (i : Int)) (hhi : ∀ h : a < rs.length, ¬ rs[a].2 ≤ (i : Int)) : (∀ h : a < rs.length, rs[a].1 ≤ (i : Int) → cov rs i = true) ∧ ((a < rs.length → ∃ h : a < rs.length, ¬ rs[a].1 ≤ (i : Int)) → cov rs i = false) := by
  refine ⟨fun h h1 => ?_, fun h => ?_⟩
  · unfold cov
    rw [List.any_eq_true]
    exact ⟨rs[a], List.getElem_mem _, by have := hhi h; simp; omega⟩
  · unfold cov
    rw [List.any_eq_false]
    intro x hx
    obtain ⟨j, hj, rfl⟩ := List.mem_iff_getElem.1 hx
    simp only [decide_eq_true_eq]
    rcases Nat.lt_trichotomy j a with h1 | h1 | h1
    · have := hlo j hj h1; omega
    · subst h1
      obtain ⟨_, h2⟩ := h hj
      omega
    · obtain ⟨h2, h3⟩ := h (by omega)
      have h4 := nrm_later hn a j hj h1
      have h5 := hhi h2
      omega
set_option maxRecDepth 100000 in
set_option maxHeartbeats 8000000 in
theorem bumped_any (A1 A2 A3 : Option Addr) (c1 c2 n3 c3 : Nat) (was now : List Cl) (rs : List (Int × Int)) (d : Int) (w : World) (hw : now = bumpC d rs was) (hn : Nrm 0 rs) (h1 : CellsIn w A1 was) (h2 : CellsIn w A2 now) (h3 : Ranges w A3 n3 rs) (hl : was.length ≤ 1048576) (hl3 : rs.length ≤ 1048576) (hd : -1 ≤ d ∧ d ≤ 1) (hc : Cok was) :
    Calls Tryd.prog 23 #[.slice A1 was.length c1, .slice A2 now.length c2, .slice A3 n3 c3, .int .i64 d] w fun e w' => e = .returned (.bool true) ∧ Below w.heap.size w w' := by
  have hlen : now.length = was.length := by rw [hw, bumpC_len]
  obtain rfl := h3.len
  have HGET := Lib.hid (fun (i : Nat) (h : i < was.length) => (show ∃ h' : i < now.length, now[i] = if cov rs i then (was[i].1, was[i].2 + d) else was[i] by
    refine ⟨by omega, ?_⟩
    have := bumpC_get d rs was i
    rw [← hw, List.getElem?_eq_getElem h, List.getElem?_eq_getElem (by omega)] at this
    simpa using this))
  have H1 := Lib.hid h1
  have H2 := Lib.hid h2
  have H3 := Lib.hid h3
  have HC := Lib.hid hc
  have HNR := Lib.hid hn
  rw [hlen]
  obtain ⟨n, hnn⟩ : ∃ n, was.length = n := ⟨_, rfl⟩
  obtain ⟨m, hmm⟩ : ∃ m, rs.length = m := ⟨_, rfl⟩
  rw [hnn] at hl ⊢
  rw [hmm] at hl3 ⊢
  have HN := Lib.hid hnn
  have HM := Lib.hid hmm
  have HLEN := Lib.hid hlen
  clear h1 h2 h3 hw hn hc hnn hmm hlen
  go_enter Tryd.func23, Tryd.ntmps23
  go_wp2_with fail
  go_loopw [9, 10] (fun a i wr => ∃ (at_ k : Nat), k ≤ n ∧ at_ ≤ m ∧ i = .int .i64 k ∧ a = .int .i64 at_ ∧ (∀ j (h : j < rs.length), j < at_ → rs[j].2 ≤ (k : Int)) ∧ Below w.heap.size w wr) (fun _ i _ => n - (intOf i).toNat)
  case atStart => exact ⟨0, 0, Nat.zero_le _, Nat.zero_le _, rfl, rfl, fun j h h' => absurd h' (by omega), Below.refl _ _⟩
  case round =>
    obtain ⟨at_, k, hk, ha, rfl, rfl, hlo, hb⟩ := hrel
    have HLO := Lib.hid hlo
    have HB := Lib.hid hb
    clear hlo hb
    by_cases hlt : k < n
    · have hkl : k < was.length := by have := HN.out; omega
      obtain ⟨g1, o1, rfl, hc1⟩ := H1.out (by omega)
      obtain ⟨g2, o2, rfl, hc2⟩ := H2.out (by have := HLEN.out; have := HN.out; omega)
      obtain ⟨hkn, hget⟩ := HGET.out k hkl
      have e1 := hc1 k hkl
      have e2 := hc2 k hkn
      rw [hget] at e2
      have hck := HC.out was[k] (List.getElem_mem _)
      obtain ⟨⟨r, h⟩, hrh⟩ : ∃ c, was[k] = c := ⟨_, rfl⟩
      rw [hrh] at e1 e2 hck
      simp only at e1 hck
      replace hck : 0 ≤ h ∧ h ≤ 1048576 := hck
      have HE := Lib.hid (fun (W : World) (hW : Below w.heap.size w W) => And.intro (And.intro (U.cell_below hW e1.1) (U.cell_below hW e1.2)) (And.intro (U.cell_below hW e2.1) (U.cell_below hW e2.2)))
      have z1 : (k : Int) < (n : Int) := by omega
      have z2 : (0 : Int) ≤ (k : Int) := by omega
      clear hc1 hc2 hget hrh e1 e2
      go_upto_region 7 with fail
      go_loopw [9] (fun a wr2 => ∃ at_ : Nat, at_ ≤ m ∧ a = .int .i64 at_ ∧ (∀ j (h : j < rs.length), j < at_ → rs[j].2 ≤ (k : Int)) ∧ Below w.heap.size w wr2) (fun a _ => m - (intOf a).toNat)
      case atStart => exact ⟨at_, ha, rfl, HLO.out, HB.out⟩
      case round =>
        obtain ⟨a, ha2, rfl, hlo2, hb2⟩ := hrel
        have HLO2 := Lib.hid hlo2
        have HB2 := Lib.hid hb2
        clear hlo2 hb2
        obtain ⟨⟨e1, e2⟩, e3, e4⟩ := HE.out wr HB2.out
        by_cases ham : a < m
        · have haml : a < rs.length := by have := HM.out; omega
          obtain ⟨g3, o3, rfl, hc3⟩ := H3.out.at_ (by omega)
          have f := hc3 a haml
          have HLAT := Lib.hid (fun (hhi : ¬ rs[a].2 ≤ (k : Int)) => cov_at HNR.out (a := a) (i := k) HLO2.out (fun _ => hhi))
          obtain ⟨⟨lo3, hi3⟩, hra⟩ : ∃ x, rs[a] = x := ⟨_, rfl⟩
          rw [hra] at f HLAT
          simp only at f HLAT
          have HRA := Lib.hid hra
          have f1 := U.cell_below HB2.out f.1
          have f2 := U.cell_below HB2.out f.2
          have q1 : (a : Int) < (m : Int) := by omega
          have q2 : (0 : Int) ≤ (a : Int) := by omega
          clear hc3 f hra
          by_cases hhi : hi3 ≤ (k : Int)
          · have q3 : decide (hi3 ≤ (k : Int)) = true := by simpa using hhi
            clear e1 e2 e3 e4 HLAT
            go_wp2_with fail
            go_roundw
            case rel =>
              refine ⟨a + 1, by omega, by go_num, fun j hj hja => ?_, HB2.out⟩
              rcases Nat.lt_or_ge j a with h1 | h1
              · exact HLO2.out j hj h1
              · obtain rfl : j = a := by omega
                rw [HRA.out]; exact hhi
            case measure => simp [intOf]; omega
          · have q3 : decide (hi3 ≤ (k : Int)) = false := by simpa using hhi
            have hcv := HLAT.out hhi
            by_cases hlo3 : lo3 ≤ (k : Int)
            · have q4 : decide (lo3 ≤ (k : Int)) = true := by simpa using hlo3
              have hcov := hcv.1 haml (by rw [HRA.out]; exact hlo3)
              rw [hcov, if_pos rfl] at e3 e4
              simp only at e3 e4
              have i1 : IntKind.i64.wrap (h + d) = h + d := IntWalk.i64_in _ (by omega)
              clear hcv hcov HLAT
              go_upto_region 12 with fail
              go_quiet (fail)
              go_wp2_with fail
              go_roundw
              case rel => exact ⟨a, k + 1, by omega, by omega, by go_num, rfl, fun j hj hja => by have := HLO2.out j hj hja; omega, below_drewN HB2.out _⟩
              case measure => simp [intOf]; omega
            · have q4 : decide (lo3 ≤ (k : Int)) = false := by simpa using hlo3
              have hcov := hcv.2 (fun _ => ⟨haml, by rw [HRA.out]; exact hlo3⟩)
              rw [hcov, if_neg (by decide)] at e3 e4
              simp only at e3 e4
              clear hcv hcov HLAT
              go_upto_region 12 with fail
              go_quiet (fail)
              go_wp2_with fail
              go_roundw
              case rel => exact ⟨a, k + 1, by omega, by omega, by go_num, rfl, fun j hj hja => by have := HLO2.out j hj hja; omega, below_drewN HB2.out _⟩
              case measure => simp [intOf]; omega
        · have q1 : ¬ (a : Int) < (m : Int) := by omega
          have hcov := (cov_at HNR.out (a := a) (i := k) HLO2.out (fun h => absurd h (by have := HM.out; omega))).2 (fun h => absurd h (by have := HM.out; omega))
          rw [hcov, if_neg (by decide)] at e3 e4
          simp only at e3 e4
          clear hcov
          go_upto_region 12 with fail
          go_quiet (fail)
          go_wp2_with fail
          go_roundw
          case rel => exact ⟨a, k + 1, by omega, by omega, by go_num, rfl, fun j hj hja => by have := HLO2.out j hj hja; omega, below_drewN HB2.out _⟩
          case measure => simp [intOf]; omega
    · obtain rfl : k = n := by omega
      go_wp2_with fail
      go_ret
      exact ⟨rfl, HB.out⟩
end Go.Proofs.YtkdhomiieenfnaaDoor.Lw

namespace Go.Proofs.YtkdhomiieenfnaaDoor.Lw
open Go.RowKit Go.Proofs Go.Proofs.YtkdhomiieenfnaaDoor.U Go.Proofs.YtkdhomiieenfnaaDoor.Txt Go.Proofs.YtkdhomiieenfnaaDoor.Rp Go.Proofs.YtkdhomiieenfnaaDoor.O
set_option linter.unusedVariables false
set_option linter.unusedSimpArgs false

theorem head_rg (g n c m : Nat) (h : m ≤ c) (hc : 0 < c) : ∀ W : World, (Instr.slice 46 (.slice (some ⟨g, 0, none⟩) n c) none (some (.int .i64 m)) none).run Tryd.prog W = .ok (.slice (some ⟨g, 0, none⟩) m c) W := fun W => by
  rw [run_slice_h W 46 _ n c (by kernel_rfl) .i64 m (by omega) (by omega)]
  have e : (((sizeOf (Tryd.prog.elem 46)).run Tryd.prog W).andThen fun s w => (.ok (sliced (some ⟨g, 0, none⟩) 0 (m : Int).toNat c s) w : Result Value)) = .ok (.slice (if c = 0 then some ⟨g, 0, none⟩ else (some (⟨g, 0, none⟩ : Addr)).map (·.add (0 * 2))) m c) W := by kernel_rfl
  rw [e, if_neg (by omega)]
  rfl
theorem own_setOp {w : World} {B n g i : Nat} {u v : Value} {xs : List Value} (h : w.ownsRow B 110 2 v n xs) {c0 : Array Value} {fz : Nat × Nat} (hg : w.heap[g]? = some (.cells c0 48 fz)) : (w.setCell ⟨g, i, none⟩ u).ownsRow B 110 2 v n xs := by
  refine ⟨h.1, h.2.imp id ?_⟩
  rintro ⟨b, cap, cur, hv, hbg, hb, rest⟩
  refine ⟨b, cap, cur, hv, hbg, ?_, rest⟩
  have hne : b ≠ g := by
    rintro rfl
    rw [hb] at hg
    exact absurd (Obj.cells.inj (Option.some.inj hg)).2.1 (by decide)
  rw [← hb]
  simp [World.setCell, Array.getElem?_modify, Ne.symm hne]
theorem copy_cap {w : World} {B g n c : Nat} {xs : List Value} (h : w.ownsRow B 110 2 (.slice (some ⟨g, 0, none⟩) n c) n xs) : n ≤ c := by
  rcases h.2 with ⟨h1, _⟩ | ⟨_, cap, _, hv, _, _, hc, _⟩
  · cases h1
  · injection hv with _ _ h3
    omega
theorem copy_after {w0 wr w9 : World} {gr n : Nat} {v x : Value} {xs : List Value} {o : Obj} {i0 i1 kd a t0 t1 : Int} {tx : ByteArray} {on : Bool} (hX : w0.heap[gr]? = some (.cells (opC i0 i1 kd a tx x t0 t1 on) 48 (0, 0))) (hB : Below w0.heap.size w0 wr) (hO : wr.ownsRow w0.heap.size 110 2 v n xs) (hg : (wr.alloc o).grownBy w9 v.ownBlock) :
    Below w0.heap.size w0 w9 ∧ w9.heap[gr]? = some (.cells (opC i0 i1 kd a tx x t0 t1 on) 48 (0, 0)) ∧ w9.cell? ⟨gr, 5, none⟩ = some x ∧ w9.frozen? ⟨gr, 5, none⟩ = false ∧ gr < w9.heap.size := by
  have hb := (hB.alloc hB.size o).grown hg (by have := hB.size; simp; omega) (fun k hk => (hO.lt k hk).1)
  have hx := (hb.block _ (Array.getElem?_eq_some_iff.1 hX).1).trans hX
  exact ⟨hb, hx, by rw [Lib.cell_of_heap hx]; rfl, Lib.frozen_of_heap hx 5, (Array.getElem?_eq_some_iff.1 hx).1⟩
theorem copy_end {w9 : World} {gr n c : Nat} {A : Option Addr} {x : Value} {cs0 : Array Value} {i0 i1 kd a t0 t1 : Int} {tx : ByteArray} {on : Bool} (hX : w9.heap[gr]? = some (.cells (opC i0 i1 kd a tx x t0 t1 on) 48 (0, 0))) (hY : w9.heap[gr + 1]? = some (.cells cs0 48 (0, 0))) (hs : cs0.size = 9) :
    (ldO (.pointer (some ⟨gr, 0, none⟩))).run Tryd.prog (w9.setCell ⟨gr, 5, none⟩ (.slice A n c)) = .ok (.agg #[.int .i64 i0, .int .i64 i1, .int .i64 kd, .int .i64 a, .string tx, .slice A n c, .int .i64 t0, .int .i64 t1, .bool on]) (w9.setCell ⟨gr, 5, none⟩ (.slice A n c)) ∧ Fresh (w9.setCell ⟨gr, 5, none⟩ (.slice A n c)) (gr + 1) ∧ (w9.setCell ⟨gr, 5, none⟩ (.slice A n c)).heap[gr + 1]? = some (.cells cs0 48 (0, 0)) := by
  have h1 : (w9.setCell ⟨gr, 5, none⟩ (.slice A n c)).heap[gr]? = some (.cells (opC i0 i1 kd a tx (.slice A n c) t0 t1 on) 48 (0, 0)) := by simp [World.setCell, Array.getElem?_modify, hX, opC]
  have h2 : (w9.setCell ⟨gr, 5, none⟩ (.slice A n c)).heap[gr + 1]? = some (.cells cs0 48 (0, 0)) := by
    rw [← hY]
    simp [World.setCell, Array.getElem?_modify]
  exact ⟨ldO_run h1, ⟨cs0, h2, hs⟩, h2⟩
theorem own_weak1 {w : World} {B B' e size n : Nat} {v : Value} {xs : List Value} (h : w.ownsRow B e size v n xs) (hb : B' ≤ B) : w.ownsRow B' e size v n xs := by
  refine ⟨h.1, h.2.imp id ?_⟩
  rintro ⟨b, cap, cur, hv, hbg, rest⟩
  exact ⟨b, cap, cur, hv, Nat.le_trans hb hbg, rest⟩
/-- What copied hands back. -/
def CopyRes (i0 i1 kd a : Int) (tx : ByteArray) (rs : List (Int × Int)) (t0 t1 : Int) (on : Bool) (w : World) (e : Ending) (w' : World) : Prop :=
  (∃ g c, e = .returned (opV i0 i1 kd a tx (.slice (some ⟨g, 0, none⟩) rs.length c) t0 t1 on) ∧ w.heap.size ≤ g ∧ rs.length + 2 ≤ c ∧ w'.ownsRow w.heap.size 110 2 (.slice (some ⟨g, 0, none⟩) (rs.length + 2) c) (rs.length + 2) (rsCells (rs ++ [(-7, -8), (-9, -9)]))) ∧ Below w.heap.size w w'
section
attribute [local go_sem ↓] ldO_fold stO_fold
attribute [local go_sem] stO_run
set_option maxRecDepth 100000 in
set_option maxHeartbeats 8000000 in
theorem copied_any (i0 i1 kd a : Int) (tx : ByteArray) (A : Option Addr) (n c : Nat) (rs : List (Int × Int)) (t0 t1 : Int) (on : Bool) (w : World) (hR : Ranges w A n rs) (hn : n ≤ 8796093021952) :
    Calls Tryd.prog 18 #[opV i0 i1 kd a tx (.slice A n c) t0 t1 on] w (CopyRes i0 i1 kd a tx rs t0 t1 on w) := by
  have HR := Lib.hid hR
  have HLN := Lib.hid hR.len
  obtain ⟨j0, hj0, hz0, hz1, hz2⟩ := info_parts infoRg
  have HI := Lib.hid (And.intro hj0 (And.intro hz0 (And.intro hz1 hz2)))
  unfold opV
  obtain ⟨w0, hw0⟩ : ∃ w0, (w.alloc (.cells #[.int .i64 i0, .int .i64 i1, .int .i64 kd, .int .i64 a, .string tx, .slice A n c, .int .i64 t0, .int .i64 t1, .bool on] 48)).alloc (.cells #[.int .i64 0, .int .i64 0, .int .i64 0, .int .i64 0, .string ⟨#[]⟩, .slice none 0 0, .int .i64 0, .int .i64 0, .bool false] 48) = w0 := ⟨_, rfl⟩
  have hB0 : Below w.heap.size w w0 := by rw [← hw0]; exact ((Below.refl _ _).alloc (Nat.le_refl _) _).alloc (by simp) _
  have hx0 : w0.heap[w.heap.size]? = some (.cells (opC i0 i1 kd a tx (.slice A n c) t0 t1 on) 48 (0, 0)) := by rw [← hw0]; exact two_fst w _ _
  have hy0 : w0.heap[w.heap.size + 1]? = some (.cells #[.int .i64 0, .int .i64 0, .int .i64 0, .int .i64 0, .string ⟨#[]⟩, .slice none 0 0, .int .i64 0, .int .i64 0, .bool false] 48 (0, 0)) := by rw [← hw0]; exact two_new2 w _ _
  have hsz : w0.heap.size = w.heap.size + 2 := by rw [← hw0]; simp
  obtain ⟨gr, hgr⟩ : ∃ gr, w.heap.size = gr := ⟨_, rfl⟩
  rw [hgr] at hx0 hy0 hsz
  have HW0 := Lib.hid hw0
  have HB0 := Lib.hid hB0
  have HX := Lib.hid hx0
  have HY := Lib.hid hy0
  have HSZ := Lib.hid hsz
  have HGR := Lib.hid hgr
  have HBX := Lib.hid (fun (W : World) (hW : Below w0.heap.size w0 W) => (show W.cell? ⟨gr, 5, none⟩ = some (.slice A n c) from by
    rw [Lib.cell_of_heap ((hW.block _ (Array.getElem?_eq_some_iff.1 HX.out).1).trans HX.out)]; rfl))
  clear hR hj0 hz0 hz1 hz2 hw0 hB0 hx0 hy0 hsz hgr
  go_enter Tryd.func18, Tryd.ntmps18
  go_upto_region 1 with fail
  rw [HW0.out, HGR.out]
  go_wp2_with fail
  go_loopw [3, 4] (fun v i wr => ∃ k : Nat, k ≤ n ∧ i = .int .i64 k ∧ wr.ownsRow w0.heap.size 110 2 v k (rsCells (rs.take k)) ∧ Below w0.heap.size w0 wr) (fun _ i _ => n - (intOf i).toNat)
  case atStart => exact ⟨0, Nat.zero_le _, rfl, ⟨rfl, .inl ⟨rfl, rfl⟩⟩, Below.refl _ _⟩
  case round =>
    obtain ⟨k, hk, rfl, hown, hb⟩ := hrel
    have HO := Lib.hid hown
    have HB := Lib.hid hb
    clear hown hb
    have x5 := HBX.out wr HB.out
    by_cases hlt : k < n
    · have hkl : k < rs.length := by have := HLN.out; omega
      obtain ⟨g2, o2, rfl, hc2⟩ := HR.out.at_ (by omega)
      have f := hc2 k hkl
      have HTK := Lib.hid (show rs.take (k + 1) = rs.take k ++ [rs[k]] from List.take_succ_eq_append_getElem hkl)
      obtain ⟨⟨lo, hi⟩, hra⟩ : ∃ x, rs[k] = x := ⟨_, rfl⟩
      rw [hra] at f HTK
      simp only at f
      have HBW := Lib.hid (HB0.out.trans (HB.out.mono HB0.out.size))
      have f1 := U.cell_below HBW.out f.1
      have f2 := U.cell_below HBW.out f.2
      have z1 : (k : Int) < (n : Int) := by omega
      have z2 : (0 : Int) ≤ (k : Int) := by omega
      clear hc2 f hra
      go_wp2_with (at_builtin; refine wpList_append_lies _ rfl (.tmp 13) (.tmp 19) 46 rfl w0.heap.size 110 j0 (.agg #[.int .i64 0, .int .i64 0]) 2 16 Tryd.underlying46 HI.out.1 HI.out.2.1 HI.out.2.2.1 HI.out.2.2.2 rfl (by decide) _ _ _ rfl (own_below HO.out (below_alloc1 _ _)) _ 1 1 [.int .i64 lo, .int .i64 hi] rfl rfl (fun j u hj => news_alloc _ _ _ j u hj) (by simp [Value.oneCell']) (by decide) (by unfold maxLen; omega) (by omega) (by have h3 := HB.out.size; simp; omega) _ rfl ?_; intro g9 cap9 w9 hown hgrow hat hgl; have HO9 := Lib.hid hown; have HG9 := Lib.hid hgrow; clear hown hgrow hat hgl f1 f2 x5)
      go_roundw
      case rel =>
        refine ⟨k + 1, by omega, by go_num, ?_, ?_⟩
        · rw [HTK.out, rsCells_snoc]; exact HO9.out
        · exact (HB.out.alloc HB.out.size _).grown HG9.out (by have := HB.out.size; simp; omega) (fun k hk => (HO.out.lt k hk).1)
      case measure => simp [intOf]; omega
    · have hkn : k = n := by omega
      subst hkn
      have HT := Lib.hid (show rs.take k = rs by rw [HLN.out, List.take_length])
      rw [HT.out] at HO
      clear HT
      have hl0 : ∃ A0 c0, u3 = .slice A0 k c0 := by
        rcases HO.out.2 with ⟨h1, h0⟩ | ⟨g', cap, cur, hv, _⟩
        · exact ⟨none, 0, by rw [h1, h0]⟩
        · exact ⟨_, cap, hv⟩
      obtain ⟨A0, c0, rfl⟩ := hl0
      have z1 : ¬ (k : Int) < (k : Int) := by omega
      go_upto_region 7 with fail
      go_wp2_with (at_builtin; refine wpList_append_lies _ rfl (.tmp 23) (.tmp 26) 46 rfl w0.heap.size 110 j0 (.agg #[.int .i64 0, .int .i64 0]) 2 16 Tryd.underlying46 HI.out.1 HI.out.2.1 HI.out.2.2.1 HI.out.2.2.2 rfl (by decide) _ _ _ rfl (own_below HO.out (below_alloc1 _ _)) _ 2 2 [.int .i64 (-7), .int .i64 (-8), .int .i64 (-9), .int .i64 (-9)] rfl rfl (fun j u hj => news_alloc _ _ _ j u hj) (by simp [Value.oneCell']) (by decide) (by unfold maxLen; omega) (by omega) (by have h3 := HB.out.size; simp; omega) _ rfl ?_; intro g9 cap9 w9 hown hgrow hat hgl; have HO9 := Lib.hid hown; have HA := Lib.hid (copy_after HX.out HB.out HO.out hgrow); have y5 := HA.out.2.2.1; have yf := HA.out.2.2.2.1; have yb := HA.out.2.2.2.2; have HCP := Lib.hid (copy_cap hown); have sl := head_rg g9 (k + 2) cap9 k (by have := HCP.out; omega) (by have := HCP.out; omega); have HE := Lib.hid (copy_end (A := some ⟨g9, 0, none⟩) (n := k) (c := cap9) HA.out.2.1 ((HA.out.1.block _ (Array.getElem?_eq_some_iff.1 HY.out).1).trans HY.out) rfl); have ld := HE.out.1; have hf := HE.out.2.1; clear hown hgrow hat hgl x5)
      refine bodyPost_ret (v := opV i0 i1 kd a tx (.slice (some ⟨g9, 0, none⟩) k cap9) t0 t1 on) ?hr1 ?hd1 ?hb1
      case hd1 => rfl
      case hr1 => exact results_cell_row rfl _ _ (gr + 1) 48 _ (0, 0) _ rfl (setRow_heap _ _ _ _ _ _ HE.out.2.2) Tryd.underlying48 rfl (by kernel_rfl)
      case hb1 =>
        have hs : rsCells (rs ++ [(-7, -8), (-9, -9)]) = rsCells rs ++ [.int .i64 (-7), .int .i64 (-8), .int .i64 (-9), .int .i64 (-9)] := by simp [rsCells]
        have hg9 : w0.heap.size ≤ g9 := (HO9.out.lt _ rfl).1
        refine ⟨⟨g9, cap9, by rw [← HLN.out], ?_, ?_, ?_⟩, ?_⟩
        · have := HSZ.out; have := HGR.out; omega
        · rw [← HLN.out]; exact HCP.out
        · rw [hs, ← HLN.out]
          exact own_row9 (own_setOp (own_weak1 HO9.out (by have := HSZ.out; have := HGR.out; omega)) HA.out.2.1) HE.out.2.2
        · have hb9 := HB0.out.trans (HA.out.1.mono HB0.out.size)
          exact below_setRow (hb9.setCell (p := ⟨gr, 5, none⟩) (by rw [HGR.out]; exact Nat.le_refl _) _) (by rw [HGR.out]; omega) _
end
end Go.Proofs.YtkdhomiieenfnaaDoor.Lw
