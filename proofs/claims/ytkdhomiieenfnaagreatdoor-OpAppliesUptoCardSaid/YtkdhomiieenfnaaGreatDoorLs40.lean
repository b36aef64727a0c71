/- op.Inverse. A rope made of a row's runs; small lemmas of the laws' walks. redraftlaw04.stops: does a counter in these ranges forbid the step? redraftlaw04.bumped: is the row as it was, but for the counters in these ranges? redraftlaw04.copied: an operation with ranges of its own, and two wrong ones behind them. -/
import Derived.Test.YtkdhomiieenfnaaGreatDoorLs39
import Derived.Laws.ResultCell
import Derived.Test.YtkdhomiieenfnaaGreatDoorLwCells
namespace Go.Proofs.YtkdhomiieenfnaaGreatDoor.Lw
open Go.RowKit Go.Proofs Go.Proofs.YtkdhomiieenfnaaGreatDoor.U Go.Proofs.YtkdhomiieenfnaaGreatDoor.Txt Go.Proofs.YtkdhomiieenfnaaGreatDoor.Rp Go.Proofs.YtkdhomiieenfnaaGreatDoor.O
set_option linter.unusedVariables false
set_option linter.unusedSimpArgs false

theorem results_op2 {fn : Func} {p u : Tmp} (h : fn.results = #[.cell p 47, .tmp u]) (tmps : Array Value) (w : World) (g : Nat) (cs : Array Value) (x : Value)
    (hp : tmps.getD p undef = .pointer (some ⟨g, 0, none⟩)) (hx : tmps.getD u undef = x) (hg : w.heap[g]? = some (.cells cs 47 (0, 0))) (hi : cs.size = 9) :
    (results fn tmps).run Tryz.prog w = .ok (.tuple #[.agg cs, x]) w := by
  rw [results_cell_tmp h, hp, hx]
  simp only [asAddr]
  have h9 : (Tryz.prog.info? 47).map (·.size) = some 9 := by kernel_rfl
  have := run_loadVar_row w g 47 47 cs (0, 0) _ hg Tryz.underlying47 rfl (by rw [h9, hi])
  simp [this]
/-- The kind of an inverse. -/
def invK (E kd : Int) : Int := if E ≠ 0 then 0 else if kd = 4 then 4 else if kd = 2 then 3 else 2
/-- What Inverse answers. -/
def InvRes (l : List (Int × Int)) (E kd' t0' t1' : Int) (on' : Bool) (w : World) (e : Ending) (w' : World) : Prop := (∃ A n c, e = .returned (.tuple #[opV 0 0 kd' 0 ⟨#[]⟩ (.slice A n c) t0' t1' on', .int .i64 E]) ∧ w'.ownsRow w.heap.size 102 2 (.slice A n c) l.length (rsCells l)) ∧ Below w.heap.size w w'
theorem own_row9 {w : World} {B n g : Nat} {v : Value} {xs : List Value} {cs : Array Value} (h : w.ownsRow B 102 2 v n xs) {c0 : Array Value} {fz : Nat × Nat} (hg : w.heap[g]? = some (.cells c0 47 fz)) : (w.setRow g cs).ownsRow B 102 2 v n xs := by
  refine ⟨h.1, h.2.imp id ?_⟩
  rintro ⟨b, cap, cur, hv, hbg, hb, rest⟩
  refine ⟨b, cap, cur, hv, hbg, (setRow_other w g b cs (fun e => ?_)).trans hb, rest⟩
  subst e
  rw [hb] at hg
  exact absurd (Obj.cells.inj (Option.some.inj hg)).2.1 (by decide)
theorem inv_fin {w W : World} {g : Nat} {l : List (Int × Int)} {E kd' t0' t1' : Int} {on' : Bool} {A : Option Addr} {n c : Nat} {c0 : Array Value} (hb : Below w.heap.size w W) (hg : w.heap.size ≤ g) (hbx : W.heap[g]? = some (.cells c0 47 (0, 0))) (ho : W.ownsRow w.heap.size 102 2 (.slice A n c) l.length (rsCells l)) :
    InvRes l E kd' t0' t1' on' w (.returned (.tuple #[opV 0 0 kd' 0 ⟨#[]⟩ (.slice A n c) t0' t1' on', .int .i64 E])) (W.setRow g #[.int .i64 0, .int .i64 0, .int .i64 kd', .int .i64 0, .string ⟨#[]⟩, .slice A n c, .int .i64 t0', .int .i64 t1', .bool on']) ∧ (W.setRow g #[.int .i64 0, .int .i64 0, .int .i64 kd', .int .i64 0, .string ⟨#[]⟩, .slice A n c, .int .i64 t0', .int .i64 t1', .bool on']).heap[g]? = some (.cells #[.int .i64 0, .int .i64 0, .int .i64 kd', .int .i64 0, .string ⟨#[]⟩, .slice A n c, .int .i64 t0', .int .i64 t1', .bool on'] 47 (0, 0)) :=
  ⟨⟨⟨A, n, c, rfl, own_row9 ho hbx⟩, below_setRow hb hg _⟩, setRow_heap W g _ _ _ _ hbx⟩
section
attribute [local go_sem ↓] ldO_fold stO_fold
attribute [local go_sem] stO_run
set_option maxRecDepth 100000 in
set_option maxHeartbeats 1000000 in
theorem Inverse_any (i0 i1 kd a : Int) (tx : ByteArray) (A : Option Addr) (n c : Nat) (rs : List (Int × Int)) (t0 t1 : Int) (on : Bool) (k ps er : Nat) (hck : chk tx.data.toList = (k, ps, er)) (w : World) (hs : tx.size ≤ maxLen) (hn : n ≤ 8796093022208) (hG : Ranges w A n rs) (hg : Bars w) (E : Int) (hE : ownE i0 i1 kd a tx k er rs t0 t1 on = E) :
    Calls Tryz.prog 38 #[opV i0 i1 kd a tx (.slice A n c) t0 t1 on] w (InvRes (covR i0 i1 kd a tx k er rs t0 t1 on) E (invK E kd) (if E = 0 ∧ kd = 4 then t0 else 0) (if E = 0 ∧ kd = 4 then t1 else 0) (if E = 0 ∧ kd = 4 then !on else false) w) := by
  have HOWN := Lib.hid (fun (W : World) (hW : Below w.heap.size w W) => own_any i0 i1 kd a tx A n c rs t0 t1 on k ps er hck W hs hn (hG.below hW) (hg.below hW))
  have HCOV := Lib.hid (fun (W : World) (hW : Below w.heap.size w W) => Covers_any i0 i1 kd a tx A n c rs t0 t1 on k ps er hck W hs hn (hG.below hW) (hg.below hW))
  rw [hE] at HOWN
  have HK := Lib.hid (fun (h : E = 0) => (opE_ok (i0 := i0) (i1 := i1) (kd := kd) (a := a) (tx := tx) (k := k) (er := er) (rs := rs) (t0 := t0) (t1 := t1) (on := on) (total := ownT kd a) (hE.trans h)).kind)
  have HCV := Lib.hid (show E ≠ 0 ∨ kd = 4 → covR i0 i1 kd a tx k er rs t0 t1 on = [] from fun h => by unfold covR; rw [hE, if_pos h])
  obtain ⟨CV, hCV⟩ : ∃ CV, covR i0 i1 kd a tx k er rs t0 t1 on = CV := ⟨_, rfl⟩
  rw [hCV] at HCV HCOV ⊢
  obtain ⟨T0, hT0⟩ : ∃ T0, (if E = 0 ∧ kd = 4 then t0 else 0) = T0 := ⟨_, rfl⟩
  obtain ⟨T1, hT1⟩ : ∃ T1, (if E = 0 ∧ kd = 4 then t1 else 0) = T1 := ⟨_, rfl⟩
  obtain ⟨ON, hON⟩ : ∃ ON, (if E = 0 ∧ kd = 4 then !on else false) = ON := ⟨_, rfl⟩
  obtain ⟨KD, hKD⟩ : ∃ KD, invK E kd = KD := ⟨_, rfl⟩
  rw [hT0, hT1, hON, hKD]
  have HTT := Lib.hid (And.intro hT0 (And.intro hT1 (And.intro hON hKD)))
  clear hT0 hT1 hON hKD
  unfold opV at HOWN HCOV ⊢
  clear hG hg hck hs hE hCV
  have hy := two_new2 w (.cells #[.int .i64 i0, .int .i64 i1, .int .i64 kd, .int .i64 a, .string tx, .slice A n c, .int .i64 t0, .int .i64 t1, .bool on] 47) (.cells #[.int .i64 0, .int .i64 0, .int .i64 0, .int .i64 0, .string ⟨#[]⟩, .slice none 0 0, .int .i64 0, .int .i64 0, .bool false] 47)
  have hx := two_fst w (.cells #[.int .i64 i0, .int .i64 i1, .int .i64 kd, .int .i64 a, .string tx, .slice A n c, .int .i64 t0, .int .i64 t1, .bool on] 47) (.cells #[.int .i64 0, .int .i64 0, .int .i64 0, .int .i64 0, .string ⟨#[]⟩, .slice none 0 0, .int .i64 0, .int .i64 0, .bool false] 47)
  have hB1 : Below w.heap.size w ((w.alloc (.cells #[.int .i64 i0, .int .i64 i1, .int .i64 kd, .int .i64 a, .string tx, .slice A n c, .int .i64 t0, .int .i64 t1, .bool on] 47)).alloc (.cells #[.int .i64 0, .int .i64 0, .int .i64 0, .int .i64 0, .string ⟨#[]⟩, .slice none 0 0, .int .i64 0, .int .i64 0, .bool false] 47)) := ((Below.refl _ _).alloc (Nat.le_refl _) _).alloc (by simp) _
  have HX := Lib.hid hx
  have HY := Lib.hid hy
  have HB1 := Lib.hid hB1
  clear hx hy hB1
  go_enter Tryz.func38, Tryz.ntmps38
  go_upto_region 1 with fail
  obtain ⟨w1, hw1⟩ : ∃ w1, (w.alloc (.cells #[.int .i64 i0, .int .i64 i1, .int .i64 kd, .int .i64 a, .string tx, .slice A n c, .int .i64 t0, .int .i64 t1, .bool on] 47)).alloc (.cells #[.int .i64 0, .int .i64 0, .int .i64 0, .int .i64 0, .string ⟨#[]⟩, .slice none 0 0, .int .i64 0, .int .i64 0, .bool false] 47) = w1 := ⟨_, rfl⟩
  rw [hw1] at HX HY HB1 ⊢
  clear hw1
  obtain ⟨gr, hgr⟩ : ∃ gr, w.heap.size = gr := ⟨_, rfl⟩
  rw [hgr] at HX HY
  rw [hgr]
  have HGR := Lib.hid hgr
  clear hgr
  have HLD := Lib.hid (fun (W : World) (hW : Below w1.heap.size w1 W) => ldO_run ((hW.block _ (Array.getElem?_eq_some_iff.1 HX.out).1).trans HX.out))
  have HCL := Lib.hid (fun (W : World) (hW : Below w1.heap.size w1 W) => (show W.cell? ⟨gr, 2, none⟩ = some (.int .i64 kd) ∧ W.cell? ⟨gr, 6, none⟩ = some (.int .i64 t0) ∧ W.cell? ⟨gr, 7, none⟩ = some (.int .i64 t1) ∧ W.cell? ⟨gr, 8, none⟩ = some (.bool on) from
    have e := (hW.block _ (Array.getElem?_eq_some_iff.1 HX.out).1).trans HX.out
    ⟨by rw [Lib.cell_of_heap e]; rfl, by rw [Lib.cell_of_heap e]; rfl, by rw [Lib.cell_of_heap e]; rfl, by rw [Lib.cell_of_heap e]; rfl⟩))
  have s0 := HLD.out w1 (Below.refl _ _)
  go_wp2_with fail
  refine (HOWN.out _ HB1.out).mono ?_
  rintro e w2 ⟨rfl, hb2⟩
  have HB2 := Lib.hid hb2
  have HB02 := Lib.hid (HB1.out.trans (hb2.mono HB1.out.size))
  have HY2 := Lib.hid ((hb2.block _ (Array.getElem?_eq_some_iff.1 HY.out).1).trans HY.out)
  have hfr : Fresh w2 (gr + 1) := ⟨_, HY2.out, rfl⟩
  obtain ⟨q2, q6, q7, q8⟩ := HCL.out w2 hb2
  clear hb2 s0
  by_cases hE0 : E = 0
  · have b1 : (E != 0) = false := by simp [hE0]
    have hkd := HK.out hE0
    have HE0 := Lib.hid hE0
    clear hE0
    by_cases hk4 : kd = 4
    · subst hk4
      clear hkd
      go_wp2_with fail
      have hfin := inv_fin (l := CV) (E := 0) (kd' := 4) (t0' := t0) (t1' := t1) (on' := !on) (A := none) (n := 0) (c := 0) (g := gr + 1) HB02.out (by have := HGR.out; omega) HY2.out (by rw [HCV.out (.inr (by trivial))]; exact ⟨rfl, .inl ⟨rfl, rfl⟩⟩)
      refine bodyPost_ret (v := .tuple #[opV 0 0 4 0 ⟨#[]⟩ (.slice none 0 0) t0 t1 (!on), .int .i64 0]) ?hr1 ?hd1 ?hb1
      case hd1 => rfl
      case hr1 => exact results_op2 rfl _ _ (gr + 1) _ _ rfl rfl hfin.2 rfl
      case hb1 =>
        have h8 := hfin.1
        have hz := HE0.out
        subst hz
        obtain ⟨e0, e1, e2, e3⟩ := HTT.out
        rw [← e0, ← e1, ← e2, ← e3]
        simpa [invK] using h8
    · have hk3 : kd = 1 ∨ kd = 2 ∨ kd = 3 := by omega
      have HC2 := Lib.hid (HCOV.out w2 HB02.out)
      have s2 := HLD.out w2 HB2.out
      clear hkd q6 q7 q8
      rcases hk3 with rfl | rfl | rfl
      all_goals
        clear hk4
        go_wp2_with fail
        refine HC2.out.mono ?_
        rintro e w3 ⟨⟨v3, rfl, ho3⟩, hb3⟩
        obtain ⟨A3, n3, c3, rfl⟩ : ∃ A3 n3 c3, v3 = .slice A3 n3 c3 := by
          rcases ho3.2 with ⟨e1, _⟩ | ⟨g, cap, cur, hv, _⟩
          · exact ⟨_, _, _, e1⟩
          · exact ⟨_, _, _, hv⟩
        have hy3 := (hb3.block _ (Array.getElem?_eq_some_iff.1 HY2.out).1).trans HY2.out
        have hfr3 : Fresh w3 (gr + 1) := ⟨_, hy3, rfl⟩
        have HY3 := Lib.hid hy3
        have HO3 := Lib.hid (own_base ho3 (HB02.out.size))
        have HB3 := Lib.hid (HB02.out.trans (hb3.mono HB02.out.size))
        clear ho3 hb3 hy3 hfr s2 q2
        go_wp2_with fail
        have hfin := fun KK => inv_fin (l := CV) (E := 0) (kd' := KK) (t0' := 0) (t1' := 0) (on' := false) (A := A3) (n := n3) (c := c3) (g := gr + 1) HB3.out (by have := HGR.out; omega) HY3.out HO3.out
        have hz := HE0.out
        subst hz
        obtain ⟨e0, e1, e2, e3⟩ := HTT.out
        first
        | (refine bodyPost_ret (v := .tuple #[opV 0 0 2 0 ⟨#[]⟩ (.slice A3 n3 c3) 0 0 false, .int .i64 0]) (results_op2 rfl _ _ (gr + 1) _ _ rfl rfl (hfin 2).2 rfl) rfl ?_; have h8 := (hfin 2).1; rw [← e0, ← e1, ← e2, ← e3]; simpa [invK] using h8)
        | (refine bodyPost_ret (v := .tuple #[opV 0 0 3 0 ⟨#[]⟩ (.slice A3 n3 c3) 0 0 false, .int .i64 0]) (results_op2 rfl _ _ (gr + 1) _ _ rfl rfl (hfin 3).2 rfl) rfl ?_; have h8 := (hfin 3).1; rw [← e0, ← e1, ← e2, ← e3]; simpa [invK] using h8)
  · have b1 : (E != 0) = true := by simp [hE0]
    have HE0 := Lib.hid hE0
    clear hE0 q2 q6 q7 q8
    go_wp2_with fail
    have hfin := inv_fin (l := CV) (E := E) (kd' := 0) (t0' := 0) (t1' := 0) (on' := false) (A := none) (n := 0) (c := 0) (g := gr + 1) HB02.out (by have := HGR.out; omega) HY2.out (by rw [HCV.out (.inl HE0.out)]; exact ⟨rfl, .inl ⟨rfl, rfl⟩⟩)
    refine bodyPost_ret (v := .tuple #[opV 0 0 0 0 ⟨#[]⟩ (.slice none 0 0) 0 0 false, .int .i64 E]) ?hr2 ?hd2 ?hb2
    case hd2 => rfl
    case hr2 => exact results_op2 rfl _ _ (gr + 1) _ _ rfl rfl hfin.2 rfl
    case hb2 =>
      have h8 := hfin.1
      have hz := HE0.out
      obtain ⟨e0, e1, e2, e3⟩ := HTT.out
      rw [← e0, ← e1, ← e2, ← e3]
      simpa [invK, hz] using h8
end
end Go.Proofs.YtkdhomiieenfnaaGreatDoor.Lw

namespace Go.Proofs.YtkdhomiieenfnaaGreatDoor.Lw
open Go.RowKit Go.Proofs Go.Proofs.YtkdhomiieenfnaaGreatDoor.U Go.Proofs.YtkdhomiieenfnaaGreatDoor.Txt Go.Proofs.YtkdhomiieenfnaaGreatDoor.Rp Go.Proofs.YtkdhomiieenfnaaGreatDoor.O
set_option linter.unusedVariables false
set_option linter.unusedSimpArgs false

theorem runsL_adj : ∀ (cs : List Cl) (k : Nat) (h : k + 1 < (runsL cs).length), (runsL cs)[k].2 ≠ (runsL cs)[k + 1].2
  | [], k, h => by simp [runsL] at h
  | c :: l, k, h => by
    have IH := runsL_adj l
    have e := runsL_cons c l
    cases hr : runsL l with
    | nil =>
      rw [hr] at e
      rw [e] at h
      simp [consP] at h
    | cons q r =>
      rw [hr] at e
      change _ = (if q.2 = c.2 then (c.1 :: q.1, q.2) :: r else ([c.1], c.2) :: q :: r) at e
      by_cases h0 : q.2 = c.2
      · rw [if_pos h0] at e
        have IH' := fun k h => IH k (by rw [hr]; exact h)
        simp only [hr] at IH'
        simp only [e] at h ⊢
        cases k with
        | zero =>
          have := IH' 0 (by simpa using h)
          simpa using this
        | succ k =>
          have := IH' (k + 1) (by simpa using h)
          simpa using this
      · rw [if_neg h0] at e
        have IH' := fun k h => IH k (by rw [hr]; exact h)
        simp only [hr] at IH'
        simp only [e] at h ⊢
        cases k with
        | zero => simpa using fun e2 => h0 e2.symm
        | succ k =>
          have := IH' k (by simpa using h)
          simpa using this
theorem rv_flat (l : List Pce) : rvCells (l.map fun q => ⟨Str q.1, q.1, q.2⟩) = flat l := by
  simp [rvCells, flat, List.flatMap_map]
theorem good_pce {cs : List Cl} (hg : Good cs) {q : Pce} (hq : q ∈ runsL cs) : (∀ r ∈ q.1, TxtRune r) ∧ 0 ≤ q.2 ∧ q.2 ≤ M := by
  have h := flat_runsL cs
  have hm : ∀ r ∈ q.1, (r, q.2) ∈ cs := fun r hr => by
    rw [← h]
    exact List.mem_flatMap.2 ⟨q, hq, List.mem_map.2 ⟨r, hr, rfl⟩⟩
  obtain ⟨r, l, hl⟩ := List.exists_cons_of_ne_nil (runsL_ne cs q hq)
  exact ⟨fun r hr => (hg _ (hm r hr)).1, (hg _ (hm r (by rw [hl]; simp))).2⟩
/-- From, of a row's runs. -/
theorem from_runs (A : Option Addr) (c : Nat) (cs : List Cl) (w : World) (h : PcesIn w A (runsL cs)) (hg : Good cs) (hl : cs.length ≤ 65536) (hB : Bars w) : Calls Tryz.prog 10 #[.slice A (runsL cs).length c] w (FromPost cs w) := by
  have h1 := from_any A c ((runsL cs).map fun q => ⟨Str q.1, q.1, q.2⟩) w h.runs (fun r hr => by
    obtain ⟨q, hq, rfl⟩ := List.mem_map.1 hr
    have hp := good_pce hg hq
    have hlen : q.1.length ≤ 65536 := by
      have h2 := flat_runsL cs
      have : q.1.length ≤ (flat (runsL cs)).length := by
        obtain ⟨a, b, hab⟩ := List.append_of_mem hq
        rw [hab, flat_app, flat_cons, List.length_append, List.length_append, run_len]; omega
      rw [h2] at this
      omega
    exact ⟨text_str' hp.1 (by omega), runsL_ne cs q hq, hp.2⟩) (fun k hk => by
    have := runsL_adj cs k (by simpa using hk)
    simpa using this) (by rw [rv_flat, flat_runsL]; omega) hB
  rw [List.length_map, rv_flat, flat_runsL] at h1
  exact h1
theorem cell_keepB {w w' : World} {b : Nat} {a : Addr} {v : Value} (hc : w.cell? a = some v) (hne : a.block ≠ b) (hg : w.grownBy w' (some b)) : w'.cell? a = some v := by
  have hlt := World.block_lt_of_cell? w _ hc
  have e : w'.heap[a.block]? = w.heap[a.block]? := hg.block _ hlt (fun e => hne (Option.some.inj e))
  rw [← hc]
  unfold World.cell?
  rw [e]
theorem below_keepB {w0 w w' : World} {b : Nat} (h : Below w0.heap.size w0 w) (hb : w0.heap.size ≤ b) (hg : w.grownBy w' (some b)) : Below w0.heap.size w0 w' := h.grown hg h.size (fun k hk => by obtain rfl := Option.some.inj hk; exact hb)
/-- Ranges in order are what span.Check lets in. -/
theorem spanE_nrm : ∀ {p : Option Int} {rs : List (Int × Int)}, Nrm (match p with | none => 0 | some q => q + 1) rs → (p = none ∨ ∃ q, p = some q ∧ 0 ≤ q) → (∀ x ∈ rs, x.2 ≤ 1048576) → spanE p rs = 0
  | p, [], _, _, _ => by cases p <;> rfl
  | none, (a, b) :: r, h, _, hx => by
    have h1 : (0 : Int) ≤ a := h.1
    have h2 : a < b := h.2.1
    have h3 := hx (a, b) (by simp)
    simp only at h3
    have IH := spanE_nrm (p := some b) (rs := r) h.2.2 (.inr ⟨b, rfl, by omega⟩) (fun x hx' => hx x (by simp [hx']))
    show (if a < 0 ∨ 1048576 < b ∨ b ≤ a then (20 : Int) else if false = true then 22 else spanE (some b) r) = 0
    rw [if_neg (by omega), if_neg (by decide), IH]
  | some q, (a, b) :: r, h, hp, hx => by
    have h1 : q + 1 ≤ a := h.1
    have h2 : a < b := h.2.1
    have h3 := hx (a, b) (by simp)
    have h0 : 0 ≤ q := by
      rcases hp with hp | ⟨q', hp, hq⟩
      · cases hp
      · cases hp; exact hq
    simp only at h3
    have IH := spanE_nrm (p := some b) (rs := r) h.2.2 (.inr ⟨b, rfl, by omega⟩) (fun x hx' => hx x (by simp [hx']))
    show (if a < 0 ∨ 1048576 < b ∨ b ≤ a then (20 : Int) else if decide (a ≤ q) = true then 22 else spanE (some b) r) = 0
    rw [if_neg (by omega), if_neg (by simp; omega), IH]
/-- What Apply makes of a Hide or Show of right ranges that no counter forbids. -/
theorem apply_cover {cs : List Cl} {rs : List (Int × Int)} {kd : Int} (hk : kd = 2 ∨ kd = 3) (hne : rs ≠ []) (hn : Nrm 0 rs) (hl : rs.length ≤ 32768) (hx : ∀ x ∈ rs, x.2 ≤ (cs.length : Int)) (hc : cs.length ≤ 1048576) (hco : Cok cs) (hs : ¬ stopC (if kd = 2 then 1 else -1) rs cs) (k : Nat) (xs : List Int) :
    applyR cs 0 0 kd 0 ⟨#[]⟩ k 0 rs 0 0 false xs = (0, bumpC (if kd = 2 then 1 else -1) rs cs) ∧ opE 0 0 kd 0 ⟨#[]⟩ k 0 rs 0 0 false cs.length = 0 := by
  have hsp : spanE none rs = 0 := spanE_nrm (p := none) hn (.inl rfl) (fun x hx' => by have := hx x hx'; omega)
  have hlast : ¬ (cs.length : Int) < (rs[rs.length - 1]?.getD (0, 0)).2 := by
    have hp := List.length_pos_iff.2 hne
    rw [List.getElem?_eq_getElem (by omega), Option.getD_some]
    have := hx _ (List.getElem_mem (show rs.length - 1 < rs.length by omega))
    omega
  have hr : rngE rs cs.length = 0 := by
    unfold rngE
    rw [if_neg hne, spanM_small hl, hsp, if_neg (by decide), if_neg hlast]
  have hE : opE 0 0 kd 0 ⟨#[]⟩ k 0 rs 0 0 false cs.length = 0 := by
    unfold opE
    rw [if_neg (by omega), if_neg (by omega), if_neg (by simp), if_neg (by rcases hk with rfl | rfl <;> simp [extraB] <;> decide), if_neg (by omega), if_neg (by omega), hr]
  have hb := (bumpR_spec (d := if kd = 2 then 1 else -1) (by rcases hk with rfl | rfl <;> simp) rs 0 cs (Int.le_refl _) hn hx hco).2 hs
  refine ⟨?_, hE⟩
  unfold applyR
  rw [hE, if_neg (by decide), if_neg (by omega)]
  rcases hk with rfl | rfl
  · rw [if_pos rfl] at hb ⊢
    simp only [if_pos rfl] at hb ⊢
    rw [hb.1]; rfl
  · have e : ¬ ((3 : Int) = 2) := by decide
    simp only [if_neg e, if_pos rfl] at hb ⊢
    rw [hb.1]; rfl
/-- What Apply makes of an Ins. -/
theorem apply_ins {cs : List Cl} {xs : List Int} {p : Nat} (hx : xs ≠ []) (hl : xs.length ≤ 256) (hp : p ≤ cs.length) (hc : cs.length + xs.length ≤ 1048576) (rs0 : List (Int × Int)) (h0 : rs0 = []) (tx : ByteArray) :
    applyR cs 0 0 1 p tx xs.length 0 rs0 0 0 false xs = (0, cs.take p ++ run xs 0 ++ cs.drop p) := by
  subst h0
  have hn := List.length_pos_iff.2 hx
  have hE : opE 0 0 1 p tx xs.length 0 [] 0 0 false cs.length = 0 := by
    unfold opE
    rw [if_neg (by omega), if_neg (by omega), if_neg (by simp), if_neg (by simp [extraB]), if_pos rfl]
    unfold insE
    rw [if_neg (by decide), if_neg (by omega), if_neg (by omega), if_neg (by omega), if_neg (by omega), if_neg (by omega)]
  unfold applyR
  rw [hE, if_neg (by decide), if_pos rfl]
  rfl
end Go.Proofs.YtkdhomiieenfnaaGreatDoor.Lw

namespace Go.Proofs.YtkdhomiieenfnaaGreatDoor.Lw
open Go.RowKit Go.Proofs Go.Proofs.YtkdhomiieenfnaaGreatDoor.U Go.Proofs.YtkdhomiieenfnaaGreatDoor.Txt Go.Proofs.YtkdhomiieenfnaaGreatDoor.Rp Go.Proofs.YtkdhomiieenfnaaGreatDoor.O
set_option linter.unusedVariables false
set_option linter.unusedSimpArgs false

/-- Does this counter forbid the step of this kind? -/
def stop1 (kd h : Int) : Prop := (kd = 3 ∧ h = 0) ∨ (kd = 2 ∧ h = 1048576)
/-- Does a counter of these ranges? -/
def stopsR (kd : Int) (rs : List (Int × Int)) (cs : List Cl) : Prop := ∃ (j : Nat) (hj : j < rs.length) (i : Nat) (hi : i < cs.length), rs[j].1 ≤ (i : Int) ∧ (i : Int) < rs[j].2 ∧ stop1 kd cs[i].2
theorem stopsR_iff {kd : Int} (hk : kd = 2 ∨ kd = 3) (rs : List (Int × Int)) (cs : List Cl) : stopsR kd rs cs ↔ stopC (if kd = 2 then 1 else -1) rs cs := by
  have hM : M = 1048576 := rfl
  unfold stopsR stopC stopI
  constructor
  · rintro ⟨j, hj, i, hi, h1, h2, h3⟩
    refine ⟨i, ?_, cs[i], List.getElem?_eq_getElem hi, ?_⟩
    · unfold cov
      rw [List.any_eq_true]
      exact ⟨rs[j], List.getElem_mem _, by simp [h1, h2]⟩
    · rcases h3 with ⟨rfl, h3⟩ | ⟨rfl, h3⟩
      · exact .inl ⟨by decide, h3⟩
      · exact .inr ⟨by decide, by rw [h3]⟩
  · rintro ⟨i, hc, c, hg, h⟩
    obtain ⟨hi, rfl⟩ := List.getElem?_eq_some_iff.1 hg
    unfold cov at hc
    rw [List.any_eq_true] at hc
    obtain ⟨x, hx, h2⟩ := hc
    obtain ⟨j, hj, rfl⟩ := List.mem_iff_getElem.1 hx
    have h2 : rs[j].1 ≤ (i : Int) ∧ (i : Int) < rs[j].2 := by simpa using h2
    refine ⟨j, hj, i, hi, h2.1, h2.2, ?_⟩
    rcases hk with rfl | rfl
    · rcases h with ⟨h, _⟩ | ⟨_, h⟩
      · exact absurd h (by decide)
      · exact .inr ⟨rfl, h⟩
    · rcases h with ⟨_, h⟩ | ⟨h, _⟩
      · exact .inl ⟨rfl, h⟩
      · exact absurd h (by decide)
/-- What stops answers. -/
def StopRes (kd : Int) (rs : List (Int × Int)) (cs : List Cl) (w : World) (e : Ending) (w' : World) : Prop := (∃ b : Bool, e = .returned (.bool b) ∧ (b = true ↔ stopsR kd rs cs)) ∧ Below w.heap.size w w'
set_option maxRecDepth 100000 in
set_option maxHeartbeats 8000000 in
theorem stops_gen (A1 A2 : Option Addr) (c1 n c2 : Nat) (cs : List Cl) (rs : List (Int × Int)) (i0 i1 kd a t0 t1 : Int) (tx : ByteArray) (on : Bool) (w : World) (hk0 : rs ≠ [] → kd = 2 ∨ kd = 3) (h1 : CellsIn w A1 cs) (h2 : Ranges w A2 n rs) (hlo : ∀ x ∈ rs, 0 ≤ x.1) (hhi : ∀ x ∈ rs, x.2 ≤ (cs.length : Int)) (hl : cs.length ≤ 1048576) (hl2 : rs.length ≤ 1048576) :
    Calls Tryz.prog 35 #[.slice A1 cs.length c1, opV i0 i1 kd a tx (.slice A2 n c2) t0 t1 on] w (StopRes kd rs cs w) := by
  obtain rfl := h2.len
  have HK0 := Lib.hid hk0
  clear hk0
  have H1 := Lib.hid h1
  have H2 := Lib.hid h2
  have HLO := Lib.hid hlo
  have HHI := Lib.hid hhi
  obtain ⟨n, hnn⟩ : ∃ n, cs.length = n := ⟨_, rfl⟩
  obtain ⟨m, hmm⟩ : ∃ m, rs.length = m := ⟨_, rfl⟩
  rw [hnn] at hl ⊢
  rw [hmm] at hl2 ⊢
  have HN := Lib.hid hnn
  have HM := Lib.hid hmm
  obtain ⟨w0, hw0⟩ : ∃ w0, w.alloc (.cells #[.int .i64 i0, .int .i64 i1, .int .i64 kd, .int .i64 a, .string tx, .slice A2 m c2, .int .i64 t0, .int .i64 t1, .bool on] 47) = w0 := ⟨_, rfl⟩
  have hB0 : Below w.heap.size w w0 := by rw [← hw0]; exact below_alloc1 _ _
  have hy0 : w0.heap[w.heap.size]? = some (.cells #[.int .i64 i0, .int .i64 i1, .int .i64 kd, .int .i64 a, .string tx, .slice A2 m c2, .int .i64 t0, .int .i64 t1, .bool on] 47 (0, 0)) := by rw [← hw0]; exact heap_at rfl
  have HW0 := Lib.hid hw0
  have HB0 := Lib.hid hB0
  obtain ⟨gr, hgr⟩ : ∃ gr, w.heap.size = gr := ⟨_, rfl⟩
  rw [hgr] at hy0
  have HGR := Lib.hid hgr
  have hglt := (Array.getElem?_eq_some_iff.1 hy0).1
  have HBX := Lib.hid (fun (W : World) (hW : Below w0.heap.size w0 W) => (show W.cell? ⟨gr, 2, none⟩ = some (.int .i64 kd) ∧ W.cell? ⟨gr, 5, none⟩ = some (.slice A2 m c2) from
    have e := (hW.block _ hglt).trans hy0
    ⟨by rw [Lib.cell_of_heap e]; rfl, by rw [Lib.cell_of_heap e]; rfl⟩))
  have HX := Lib.hid (fun (W : World) (hW : Below w0.heap.size w0 W) => hB0.trans (hW.mono hB0.size))
  clear h1 h2 hlo hhi hnn hmm hw0 hB0 hy0 hgr hglt
  unfold opV
  go_enter Tryz.func35, Tryz.ntmps35
  go_upto_region 1 with fail
  rw [HW0.out, HGR.out]
  go_wp2_with fail
  go_loopw [5] (fun i wr => ∃ j : Nat, j ≤ m ∧ i = .int .i64 j ∧ (∀ j' (h : j' < rs.length), j' < j → ∀ i (hi : i < cs.length), rs[j'].1 ≤ (i : Int) → (i : Int) < rs[j'].2 → ¬ stop1 kd cs[i].2) ∧ Below w0.heap.size w0 wr) (fun i _ => m - (intOf i).toNat)
  case atStart => exact ⟨0, Nat.zero_le _, rfl, fun j' h h' => absurd h' (by omega), Below.refl _ _⟩
  case round =>
    obtain ⟨j, hj, rfl, hno, hb⟩ := hrel
    have HNO := Lib.hid hno
    have HB := Lib.hid hb
    clear hno hb
    obtain ⟨x2, x5⟩ := HBX.out wr HB.out
    by_cases hlt : j < m
    · have hjl : j < rs.length := by have := HM.out; omega
      obtain ⟨g2, o2, rfl, hc2⟩ := H2.out.at_ (by omega)
      have f := hc2 j hjl
      have hl0 := HLO.out rs[j] (List.getElem_mem _)
      have hh0 := HHI.out rs[j] (List.getElem_mem _)
      obtain ⟨⟨lo, hi⟩, hra⟩ : ∃ x, rs[j] = x := ⟨_, rfl⟩
      rw [hra] at f hl0 hh0
      simp only at f hl0 hh0
      have HRA := Lib.hid hra
      have HF := Lib.hid (fun (W : World) (hW : Below w0.heap.size w0 W) => And.intro (U.cell_below (HX.out W hW) f.1) (U.cell_below (HX.out W hW) f.2))
      have hhn : hi ≤ (n : Int) := by rw [← HN.out]; exact hh0
      have z1 : (j : Int) < (m : Int) := by omega
      have z2 : (0 : Int) ≤ (j : Int) := by omega
      obtain ⟨f1, f2⟩ := HF.out wr HB.out
      obtain ⟨l, rfl⟩ : ∃ l : Nat, lo = l := ⟨lo.toNat, by omega⟩
      clear hc2 f hra hl0 hh0
      go_upto_region 5 with fail
      clear f1 f2 x2 x5
      go_loopw [6] (fun i wr2 => ∃ k : Nat, l ≤ k ∧ (k : Int) ≤ n + l ∧ i = .int .i64 k ∧ (∀ i (hi' : i < cs.length), l ≤ i → i < k → (i : Int) < hi → ¬ stop1 kd cs[i].2) ∧ Below w0.heap.size w0 wr2) (fun i _ => n - (intOf i).toNat)
      case atStart => exact ⟨l, Nat.le_refl _, by omega, rfl, fun i hi' h1 h2 => absurd h2 (by omega), HB.out⟩
      case round =>
        obtain ⟨k, hkl, hkn, rfl, hno2, hb2⟩ := hrel
        have HNO2 := Lib.hid hno2
        have HB2 := Lib.hid hb2
        clear hno2 hb2
        obtain ⟨x2, x5⟩ := HBX.out wr HB2.out
        obtain ⟨f1, f2⟩ := HF.out wr HB2.out
        by_cases hkh : (k : Int) < hi
        · have hkc : k < cs.length := by have := HN.out; omega
          obtain ⟨g1, o1, rfl, hc1⟩ := H1.out (by omega)
          have e := hc1 k hkc
          have HS := Lib.hid (fun (h : ¬ stop1 kd cs[k].2) (i : Nat) (hi' : i < cs.length) (h1 : l ≤ i) (h2 : i < k + 1) (h3 : (i : Int) < hi) => (show ¬ stop1 kd cs[i].2 by
            rcases Nat.lt_or_ge i k with h4 | h4
            · exact HNO2.out i hi' h1 h4 h3
            · obtain rfl : i = k := by omega
              exact h))
          have HT := Lib.hid (fun (h : stop1 kd cs[k].2) => (show stopsR kd rs cs from ⟨j, hjl, k, hkc, by rw [HRA.out]; simp only; omega, by rw [HRA.out]; exact hkh, h⟩))
          obtain ⟨⟨r, h⟩, hrh⟩ : ∃ c, cs[k] = c := ⟨_, rfl⟩
          rw [hrh] at e HS HT
          simp only at e HS HT
          have e1 := U.cell_below (HX.out wr HB2.out) e.1
          have e2 := U.cell_below (HX.out wr HB2.out) e.2
          have q1 : (k : Int) < (n : Int) := by omega
          have q1' : decide ((k : Int) < (n : Int)) = true := by simpa using q1
          have q2 : (0 : Int) ≤ (k : Int) := by omega
          clear hc1 e hrh
          rcases HK0.out (fun e => by rw [e] at hjl; exact absurd hjl (by simp)) with rfl | rfl
          · by_cases h8 : h = 1048576
            · subst h8
              have HYES := Lib.hid (HT.out (.inr ⟨rfl, rfl⟩))
              clear HS HT
              go_wp2_with fail
              go_ret
              exact ⟨⟨true, rfl, by simpa using HYES.out⟩, HX.out wr HB2.out⟩
            · have hnot := HS.out (by rintro (⟨h9, _⟩ | ⟨_, h9⟩); · exact absurd h9 (by decide)
                                      · exact h8 h9)
              have b8 : (h == 1048576) = false := by simpa using h8
              clear HS HT
              go_wp2_with fail
              go_roundw
              case rel => exact ⟨k + 1, by omega, by omega, by go_num, hnot, HB2.out⟩
              case measure => simp [intOf]; omega
          · by_cases h8 : h = 0
            · subst h8
              have HYES := Lib.hid (HT.out (.inl ⟨rfl, rfl⟩))
              clear HS HT
              go_wp2_with fail
              go_ret
              exact ⟨⟨true, rfl, by simpa using HYES.out⟩, HX.out wr HB2.out⟩
            · have hnot := HS.out (by rintro (⟨_, h9⟩ | ⟨h9, _⟩); · exact h8 h9
                                      · exact absurd h9 (by decide))
              have b8 : (h == 0) = false := by simpa using h8
              clear HS HT
              go_wp2_with fail
              go_roundw
              case rel => exact ⟨k + 1, by omega, by omega, by go_num, hnot, HB2.out⟩
              case measure => simp [intOf]; omega
        · have q1 : ¬ (k : Int) < hi := hkh
          go_wp2_with fail
          go_roundw
          case rel =>
            refine ⟨j + 1, by omega, by go_num, fun j' hj' hjj => ?_, HB2.out⟩
            rcases Nat.lt_or_ge j' j with h4 | h4
            · exact HNO.out j' hj' h4
            · obtain rfl : j' = j := by omega
              intro i hi' h5 h6
              rw [HRA.out] at h5 h6
              simp only at h5 h6
              exact HNO2.out i hi' (by omega) (by omega) h6
          case measure => simp [intOf]; omega
    · have hjm : j = m := by omega
      go_wp2_with fail
      go_ret
      refine ⟨⟨false, rfl, ?_⟩, HX.out wr HB.out⟩
      constructor
      · intro h; cases h
      · rintro ⟨j', hj', i, hi', h5, h6, h7⟩
        exact absurd h7 (HNO.out j' hj' (by have := HM.out; omega) i hi' h5 h6)
theorem stops_any (A1 A2 : Option Addr) (c1 n c2 : Nat) (cs : List Cl) (rs : List (Int × Int)) (i0 i1 kd a t0 t1 : Int) (tx : ByteArray) (on : Bool) (w : World) (hk : kd = 2 ∨ kd = 3) (h1 : CellsIn w A1 cs) (h2 : Ranges w A2 n rs) (hlo : ∀ x ∈ rs, 0 ≤ x.1) (hhi : ∀ x ∈ rs, x.2 ≤ (cs.length : Int)) (hl : cs.length ≤ 1048576) (hl2 : rs.length ≤ 1048576) :
    Calls Tryz.prog 35 #[.slice A1 cs.length c1, opV i0 i1 kd a tx (.slice A2 n c2) t0 t1 on] w fun e w' => (∃ b : Bool, e = .returned (.bool b) ∧ (b = true ↔ stopsR kd rs cs)) ∧ Below w.heap.size w w' :=
  stops_gen A1 A2 c1 n c2 cs rs i0 i1 kd a t0 t1 tx on w (fun _ => hk) h1 h2 hlo hhi hl hl2
end Go.Proofs.YtkdhomiieenfnaaGreatDoor.Lw

namespace Go.Proofs.YtkdhomiieenfnaaGreatDoor.Lw
open Go.RowKit Go.Proofs Go.Proofs.YtkdhomiieenfnaaGreatDoor.U Go.Proofs.YtkdhomiieenfnaaGreatDoor.Txt Go.Proofs.YtkdhomiieenfnaaGreatDoor.Rp Go.Proofs.YtkdhomiieenfnaaGreatDoor.O
set_option linter.unusedVariables false
set_option linter.unusedSimpArgs false

theorem nrm_later : ∀ {m : Int} {rs : List (Int × Int)}, Nrm m rs → ∀ a b (hb : b < rs.length), (hab : a < b) → (rs[a]'(by omega)).2 < rs[b].1
  | m, x :: r, h, 0, b + 1, hb, _ => by
    have hb' : b < r.length := by simpa using hb
    have h1 := Nrm.lo h.2.2 r[b] (List.getElem_mem _)
    simp only [List.getElem_cons_zero, List.getElem_cons_succ]
    omega
  | m, x :: r, h, a + 1, b + 1, hb, hab => by
    simp only [List.getElem_cons_succ]
    exact nrm_later h.2.2 a b (by simpa using hb) (by omega)
/-- Is a cell covered: to be seen at the first range that ends behind it. -/
theorem cov_at {rs : List (Int × Int)} (hn : Nrm 0 rs) {a i : Nat} (hlo : ∀ j (h : j < rs.length), j < a → rs[j].2 ≤ (i : Int)) (hhi : ∀ h : a < rs.length, ¬ rs[a].2 ≤ (i : Int)) : (∀ h : a < rs.length, rs[a].1 ≤ (i : Int) → cov rs i = true) ∧ ((a < rs.length → ∃ h : a < rs.length, ¬ rs[a].1 ≤ (i : Int)) → cov rs i = false) := by
  refine ⟨fun h h1 => ?_, fun h => ?_⟩
  · unfold cov
    rw [List.any_eq_true]
    exact ⟨rs[a], List.getElem_mem _, by have := hhi h; simp; omega⟩
  · unfold cov
    rw [List.any_eq_false]
    intro x hx
    obtain ⟨j, hj, rfl⟩ := List.mem_iff_getElem.1 hx
    simp only [decide_eq_true_eq]
    rcases Nat.lt_trichotomy j a with h1 | h1 | h1
    · have := hlo j hj h1; omega
    · subst h1
      obtain ⟨_, h2⟩ := h hj
      omega
    · obtain ⟨h2, h3⟩ := h (by omega)
      have h4 := nrm_later hn a j hj h1
      have h5 := hhi h2
      omega
set_option maxRecDepth 100000 in
set_option maxHeartbeats 8000000 in
theorem bumped_any (A1 A2 A3 : Option Addr) (c1 c2 n3 c3 : Nat) (was now : List Cl) (rs : List (Int × Int)) (d : Int) (w : World) (hw : now = bumpC d rs was) (hn : Nrm 0 rs) (h1 : CellsIn w A1 was) (h2 : CellsIn w A2 now) (h3 : Ranges w A3 n3 rs) (hl : was.length ≤ 1048576) (hl3 : rs.length ≤ 1048576) (hd : -1 ≤ d ∧ d ≤ 1) (hc : Cok was) :
    Calls Tryz.prog 36 #[.slice A1 was.length c1, .slice A2 now.length c2, .slice A3 n3 c3, .int .i64 d] w fun e w' => e = .returned (.bool true) ∧ Below w.heap.size w w' := by
  have hlen : now.length = was.length := by rw [hw, bumpC_len]
  obtain rfl := h3.len
  have HGET := Lib.hid (fun (i : Nat) (h : i < was.length) => (show ∃ h' : i < now.length, now[i] = if cov rs i then (was[i].1, was[i].2 + d) else was[i] by
    refine ⟨by omega, ?_⟩
    have := bumpC_get d rs was i
    rw [← hw, List.getElem?_eq_getElem h, List.getElem?_eq_getElem (by omega)] at this
    simpa using this))
  have H1 := Lib.hid h1
  have H2 := Lib.hid h2
  have H3 := Lib.hid h3
  have HC := Lib.hid hc
  have HNR := Lib.hid hn
  rw [hlen]
  obtain ⟨n, hnn⟩ : ∃ n, was.length = n := ⟨_, rfl⟩
  obtain ⟨m, hmm⟩ : ∃ m, rs.length = m := ⟨_, rfl⟩
  rw [hnn] at hl ⊢
  rw [hmm] at hl3 ⊢
  have HN := Lib.hid hnn
  have HM := Lib.hid hmm
  have HLEN := Lib.hid hlen
  clear h1 h2 h3 hw hn hc hnn hmm hlen
  go_enter Tryz.func36, Tryz.ntmps36
  go_wp2_with fail
  go_loopw [9, 10] (fun a i wr => ∃ (at_ k : Nat), k ≤ n ∧ at_ ≤ m ∧ i = .int .i64 k ∧ a = .int .i64 at_ ∧ (∀ j (h : j < rs.length), j < at_ → rs[j].2 ≤ (k : Int)) ∧ Below w.heap.size w wr) (fun _ i _ => n - (intOf i).toNat)
  case atStart => exact ⟨0, 0, Nat.zero_le _, Nat.zero_le _, rfl, rfl, fun j h h' => absurd h' (by omega), Below.refl _ _⟩
  case round =>
    obtain ⟨at_, k, hk, ha, rfl, rfl, hlo, hb⟩ := hrel
    have HLO := Lib.hid hlo
    have HB := Lib.hid hb
    clear hlo hb
    by_cases hlt : k < n
    · have hkl : k < was.length := by have := HN.out; omega
      obtain ⟨g1, o1, rfl, hc1⟩ := H1.out (by omega)
      obtain ⟨g2, o2, rfl, hc2⟩ := H2.out (by have := HLEN.out; have := HN.out; omega)
      obtain ⟨hkn, hget⟩ := HGET.out k hkl
      have e1 := hc1 k hkl
      have e2 := hc2 k hkn
      rw [hget] at e2
      have hck := HC.out was[k] (List.getElem_mem _)
      obtain ⟨⟨r, h⟩, hrh⟩ : ∃ c, was[k] = c := ⟨_, rfl⟩
      rw [hrh] at e1 e2 hck
      simp only at e1 hck
      replace hck : 0 ≤ h ∧ h ≤ 1048576 := hck
      have HE := Lib.hid (fun (W : World) (hW : Below w.heap.size w W) => And.intro (And.intro (U.cell_below hW e1.1) (U.cell_below hW e1.2)) (And.intro (U.cell_below hW e2.1) (U.cell_below hW e2.2)))
      have z1 : (k : Int) < (n : Int) := by omega
      have z2 : (0 : Int) ≤ (k : Int) := by omega
      clear hc1 hc2 hget hrh e1 e2
      go_upto_region 7 with fail
      go_loopw [9] (fun a wr2 => ∃ at_ : Nat, at_ ≤ m ∧ a = .int .i64 at_ ∧ (∀ j (h : j < rs.length), j < at_ → rs[j].2 ≤ (k : Int)) ∧ Below w.heap.size w wr2) (fun a _ => m - (intOf a).toNat)
      case atStart => exact ⟨at_, ha, rfl, HLO.out, HB.out⟩
      case round =>
        obtain ⟨a, ha2, rfl, hlo2, hb2⟩ := hrel
        have HLO2 := Lib.hid hlo2
        have HB2 := Lib.hid hb2
        clear hlo2 hb2
        obtain ⟨⟨e1, e2⟩, e3, e4⟩ := HE.out wr HB2.out
        by_cases ham : a < m
        · have haml : a < rs.length := by have := HM.out; omega
          obtain ⟨g3, o3, rfl, hc3⟩ := H3.out.at_ (by omega)
          have f := hc3 a haml
          have HLAT := Lib.hid (fun (hhi : ¬ rs[a].2 ≤ (k : Int)) => cov_at HNR.out (a := a) (i := k) HLO2.out (fun _ => hhi))
          obtain ⟨⟨lo3, hi3⟩, hra⟩ : ∃ x, rs[a] = x := ⟨_, rfl⟩
          rw [hra] at f HLAT
          simp only at f HLAT
          have HRA := Lib.hid hra
          have f1 := U.cell_below HB2.out f.1
          have f2 := U.cell_below HB2.out f.2
          have q1 : (a : Int) < (m : Int) := by omega
          have q2 : (0 : Int) ≤ (a : Int) := by omega
          clear hc3 f hra
          by_cases hhi : hi3 ≤ (k : Int)
          · have q3 : decide (hi3 ≤ (k : Int)) = true := by simpa using hhi
            clear e1 e2 e3 e4 HLAT
            go_wp2_with fail
            go_roundw
            case rel =>
              refine ⟨a + 1, by omega, by go_num, fun j hj hja => ?_, HB2.out⟩
              rcases Nat.lt_or_ge j a with h1 | h1
              · exact HLO2.out j hj h1
              · obtain rfl : j = a := by omega
                rw [HRA.out]; exact hhi
            case measure => simp [intOf]; omega
          · have q3 : decide (hi3 ≤ (k : Int)) = false := by simpa using hhi
            have hcv := HLAT.out hhi
            by_cases hlo3 : lo3 ≤ (k : Int)
            · have q4 : decide (lo3 ≤ (k : Int)) = true := by simpa using hlo3
              have hcov := hcv.1 haml (by rw [HRA.out]; exact hlo3)
              rw [hcov, if_pos rfl] at e3 e4
              simp only at e3 e4
              have i1 : IntKind.i64.wrap (h + d) = h + d := IntWalk.i64_in _ (by omega)
              clear hcv hcov HLAT
              go_upto_region 12 with fail
              go_quiet (fail)
              go_wp2_with fail
              go_roundw
              case rel => exact ⟨a, k + 1, by omega, by omega, by go_num, rfl, fun j hj hja => by have := HLO2.out j hj hja; omega, below_drewN HB2.out _⟩
              case measure => simp [intOf]; omega
            · have q4 : decide (lo3 ≤ (k : Int)) = false := by simpa using hlo3
              have hcov := hcv.2 (fun _ => ⟨haml, by rw [HRA.out]; exact hlo3⟩)
              rw [hcov, if_neg (by decide)] at e3 e4
              simp only at e3 e4
              clear hcv hcov HLAT
              go_upto_region 12 with fail
              go_quiet (fail)
              go_wp2_with fail
              go_roundw
              case rel => exact ⟨a, k + 1, by omega, by omega, by go_num, rfl, fun j hj hja => by have := HLO2.out j hj hja; omega, below_drewN HB2.out _⟩
              case measure => simp [intOf]; omega
        · have q1 : ¬ (a : Int) < (m : Int) := by omega
          have hcov := (cov_at HNR.out (a := a) (i := k) HLO2.out (fun h => absurd h (by have := HM.out; omega))).2 (fun h => absurd h (by have := HM.out; omega))
          rw [hcov, if_neg (by decide)] at e3 e4
          simp only at e3 e4
          clear hcov
          go_upto_region 12 with fail
          go_quiet (fail)
          go_wp2_with fail
          go_roundw
          case rel => exact ⟨a, k + 1, by omega, by omega, by go_num, rfl, fun j hj hja => by have := HLO2.out j hj hja; omega, below_drewN HB2.out _⟩
          case measure => simp [intOf]; omega
    · obtain rfl : k = n := by omega
      go_wp2_with fail
      go_ret
      exact ⟨rfl, HB.out⟩
end Go.Proofs.YtkdhomiieenfnaaGreatDoor.Lw

namespace Go.Proofs.YtkdhomiieenfnaaGreatDoor.Lw
open Go.RowKit Go.Proofs Go.Proofs.YtkdhomiieenfnaaGreatDoor.U Go.Proofs.YtkdhomiieenfnaaGreatDoor.Txt Go.Proofs.YtkdhomiieenfnaaGreatDoor.Rp Go.Proofs.YtkdhomiieenfnaaGreatDoor.O
set_option linter.unusedVariables false
set_option linter.unusedSimpArgs false

theorem head_rg (g n c m : Nat) (h : m ≤ c) (hc : 0 < c) : ∀ W : World, (Instr.slice 45 (.slice (some ⟨g, 0, none⟩) n c) none (some (.int .i64 m)) none).run Tryz.prog W = .ok (.slice (some ⟨g, 0, none⟩) m c) W := fun W => by
  rw [run_slice_h W 45 _ n c (by kernel_rfl) .i64 m (by omega) (by omega)]
  have e : (((sizeOf (Tryz.prog.elem 45)).run Tryz.prog W).andThen fun s w => (.ok (sliced (some ⟨g, 0, none⟩) 0 (m : Int).toNat c s) w : Result Value)) = .ok (.slice (if c = 0 then some ⟨g, 0, none⟩ else (some (⟨g, 0, none⟩ : Addr)).map (·.add (0 * 2))) m c) W := by kernel_rfl
  rw [e, if_neg (by omega)]
  rfl
theorem own_setOp {w : World} {B n g i : Nat} {u v : Value} {xs : List Value} (h : w.ownsRow B 102 2 v n xs) {c0 : Array Value} {fz : Nat × Nat} (hg : w.heap[g]? = some (.cells c0 47 fz)) : (w.setCell ⟨g, i, none⟩ u).ownsRow B 102 2 v n xs := by
  refine ⟨h.1, h.2.imp id ?_⟩
  rintro ⟨b, cap, cur, hv, hbg, hb, rest⟩
  refine ⟨b, cap, cur, hv, hbg, ?_, rest⟩
  have hne : b ≠ g := by
    rintro rfl
    rw [hb] at hg
    exact absurd (Obj.cells.inj (Option.some.inj hg)).2.1 (by decide)
  rw [← hb]
  simp [World.setCell, Array.getElem?_modify, Ne.symm hne]
theorem copy_cap {w : World} {B g n c : Nat} {xs : List Value} (h : w.ownsRow B 102 2 (.slice (some ⟨g, 0, none⟩) n c) n xs) : n ≤ c := by
  rcases h.2 with ⟨h1, _⟩ | ⟨_, cap, _, hv, _, _, hc, _⟩
  · cases h1
  · injection hv with _ _ h3
    omega
theorem copy_after {w0 wr w9 : World} {gr n : Nat} {v x : Value} {xs : List Value} {o : Obj} {i0 i1 kd a t0 t1 : Int} {tx : ByteArray} {on : Bool} (hX : w0.heap[gr]? = some (.cells (opC i0 i1 kd a tx x t0 t1 on) 47 (0, 0))) (hB : Below w0.heap.size w0 wr) (hO : wr.ownsRow w0.heap.size 102 2 v n xs) (hg : (wr.alloc o).grownBy w9 v.ownBlock) :
    Below w0.heap.size w0 w9 ∧ w9.heap[gr]? = some (.cells (opC i0 i1 kd a tx x t0 t1 on) 47 (0, 0)) ∧ w9.cell? ⟨gr, 5, none⟩ = some x ∧ w9.frozen? ⟨gr, 5, none⟩ = false ∧ gr < w9.heap.size := by
  have hb := (hB.alloc hB.size o).grown hg (by have := hB.size; simp; omega) (fun k hk => (hO.lt k hk).1)
  have hx := (hb.block _ (Array.getElem?_eq_some_iff.1 hX).1).trans hX
  exact ⟨hb, hx, by rw [Lib.cell_of_heap hx]; rfl, Lib.frozen_of_heap hx 5, (Array.getElem?_eq_some_iff.1 hx).1⟩
theorem copy_end {w9 : World} {gr n c : Nat} {A : Option Addr} {x : Value} {cs0 : Array Value} {i0 i1 kd a t0 t1 : Int} {tx : ByteArray} {on : Bool} (hX : w9.heap[gr]? = some (.cells (opC i0 i1 kd a tx x t0 t1 on) 47 (0, 0))) (hY : w9.heap[gr + 1]? = some (.cells cs0 47 (0, 0))) (hs : cs0.size = 9) :
    (ldO (.pointer (some ⟨gr, 0, none⟩))).run Tryz.prog (w9.setCell ⟨gr, 5, none⟩ (.slice A n c)) = .ok (.agg #[.int .i64 i0, .int .i64 i1, .int .i64 kd, .int .i64 a, .string tx, .slice A n c, .int .i64 t0, .int .i64 t1, .bool on]) (w9.setCell ⟨gr, 5, none⟩ (.slice A n c)) ∧ Fresh (w9.setCell ⟨gr, 5, none⟩ (.slice A n c)) (gr + 1) ∧ (w9.setCell ⟨gr, 5, none⟩ (.slice A n c)).heap[gr + 1]? = some (.cells cs0 47 (0, 0)) := by
  have h1 : (w9.setCell ⟨gr, 5, none⟩ (.slice A n c)).heap[gr]? = some (.cells (opC i0 i1 kd a tx (.slice A n c) t0 t1 on) 47 (0, 0)) := by simp [World.setCell, Array.getElem?_modify, hX, opC]
  have h2 : (w9.setCell ⟨gr, 5, none⟩ (.slice A n c)).heap[gr + 1]? = some (.cells cs0 47 (0, 0)) := by
    rw [← hY]
    simp [World.setCell, Array.getElem?_modify]
  exact ⟨ldO_run h1, ⟨cs0, h2, hs⟩, h2⟩
theorem own_weak1 {w : World} {B B' e size n : Nat} {v : Value} {xs : List Value} (h : w.ownsRow B e size v n xs) (hb : B' ≤ B) : w.ownsRow B' e size v n xs := by
  refine ⟨h.1, h.2.imp id ?_⟩
  rintro ⟨b, cap, cur, hv, hbg, rest⟩
  exact ⟨b, cap, cur, hv, Nat.le_trans hb hbg, rest⟩
/-- What copied hands back. -/
def CopyRes (i0 i1 kd a : Int) (tx : ByteArray) (rs : List (Int × Int)) (t0 t1 : Int) (on : Bool) (w : World) (e : Ending) (w' : World) : Prop :=
  (∃ g c, e = .returned (opV i0 i1 kd a tx (.slice (some ⟨g, 0, none⟩) rs.length c) t0 t1 on) ∧ w.heap.size ≤ g ∧ rs.length + 2 ≤ c ∧ w'.ownsRow w.heap.size 102 2 (.slice (some ⟨g, 0, none⟩) (rs.length + 2) c) (rs.length + 2) (rsCells (rs ++ [(-7, -8), (-9, -9)]))) ∧ Below w.heap.size w w'
section
attribute [local go_sem ↓] ldO_fold stO_fold
attribute [local go_sem] stO_run
set_option maxRecDepth 100000 in
set_option maxHeartbeats 8000000 in
theorem copied_any (i0 i1 kd a : Int) (tx : ByteArray) (A : Option Addr) (n c : Nat) (rs : List (Int × Int)) (t0 t1 : Int) (on : Bool) (w : World) (hR : Ranges w A n rs) (hn : n ≤ 8796093021952) :
    Calls Tryz.prog 17 #[opV i0 i1 kd a tx (.slice A n c) t0 t1 on] w (CopyRes i0 i1 kd a tx rs t0 t1 on w) := by
  have HR := Lib.hid hR
  have HLN := Lib.hid hR.len
  obtain ⟨j0, hj0, hz0, hz1, hz2⟩ := info_parts infoRg
  have HI := Lib.hid (And.intro hj0 (And.intro hz0 (And.intro hz1 hz2)))
  unfold opV
  obtain ⟨w0, hw0⟩ : ∃ w0, (w.alloc (.cells #[.int .i64 i0, .int .i64 i1, .int .i64 kd, .int .i64 a, .string tx, .slice A n c, .int .i64 t0, .int .i64 t1, .bool on] 47)).alloc (.cells #[.int .i64 0, .int .i64 0, .int .i64 0, .int .i64 0, .string ⟨#[]⟩, .slice none 0 0, .int .i64 0, .int .i64 0, .bool false] 47) = w0 := ⟨_, rfl⟩
  have hB0 : Below w.heap.size w w0 := by rw [← hw0]; exact ((Below.refl _ _).alloc (Nat.le_refl _) _).alloc (by simp) _
  have hx0 : w0.heap[w.heap.size]? = some (.cells (opC i0 i1 kd a tx (.slice A n c) t0 t1 on) 47 (0, 0)) := by rw [← hw0]; exact two_fst w _ _
  have hy0 : w0.heap[w.heap.size + 1]? = some (.cells #[.int .i64 0, .int .i64 0, .int .i64 0, .int .i64 0, .string ⟨#[]⟩, .slice none 0 0, .int .i64 0, .int .i64 0, .bool false] 47 (0, 0)) := by rw [← hw0]; exact two_new2 w _ _
  have hsz : w0.heap.size = w.heap.size + 2 := by rw [← hw0]; simp
  obtain ⟨gr, hgr⟩ : ∃ gr, w.heap.size = gr := ⟨_, rfl⟩
  rw [hgr] at hx0 hy0 hsz
  have HW0 := Lib.hid hw0
  have HB0 := Lib.hid hB0
  have HX := Lib.hid hx0
  have HY := Lib.hid hy0
  have HSZ := Lib.hid hsz
  have HGR := Lib.hid hgr
  have HBX := Lib.hid (fun (W : World) (hW : Below w0.heap.size w0 W) => (show W.cell? ⟨gr, 5, none⟩ = some (.slice A n c) from by
    rw [Lib.cell_of_heap ((hW.block _ (Array.getElem?_eq_some_iff.1 HX.out).1).trans HX.out)]; rfl))
  clear hR hj0 hz0 hz1 hz2 hw0 hB0 hx0 hy0 hsz hgr
  go_enter Tryz.func17, Tryz.ntmps17
  go_upto_region 1 with fail
  rw [HW0.out, HGR.out]
  go_wp2_with fail
  go_loopw [3, 4] (fun v i wr => ∃ k : Nat, k ≤ n ∧ i = .int .i64 k ∧ wr.ownsRow w0.heap.size 102 2 v k (rsCells (rs.take k)) ∧ Below w0.heap.size w0 wr) (fun _ i _ => n - (intOf i).toNat)
  case atStart => exact ⟨0, Nat.zero_le _, rfl, ⟨rfl, .inl ⟨rfl, rfl⟩⟩, Below.refl _ _⟩
  case round =>
    obtain ⟨k, hk, rfl, hown, hb⟩ := hrel
    have HO := Lib.hid hown
    have HB := Lib.hid hb
    clear hown hb
    have x5 := HBX.out wr HB.out
    by_cases hlt : k < n
    · have hkl : k < rs.length := by have := HLN.out; omega
      obtain ⟨g2, o2, rfl, hc2⟩ := HR.out.at_ (by omega)
      have f := hc2 k hkl
      have HTK := Lib.hid (show rs.take (k + 1) = rs.take k ++ [rs[k]] from List.take_succ_eq_append_getElem hkl)
      obtain ⟨⟨lo, hi⟩, hra⟩ : ∃ x, rs[k] = x := ⟨_, rfl⟩
      rw [hra] at f HTK
      simp only at f
      have HBW := Lib.hid (HB0.out.trans (HB.out.mono HB0.out.size))
      have f1 := U.cell_below HBW.out f.1
      have f2 := U.cell_below HBW.out f.2
      have z1 : (k : Int) < (n : Int) := by omega
      have z2 : (0 : Int) ≤ (k : Int) := by omega
      clear hc2 f hra
      go_wp2_with (at_builtin; refine wpList_append_lies _ rfl (.tmp 13) (.tmp 19) 45 rfl w0.heap.size 102 j0 (.agg #[.int .i64 0, .int .i64 0]) 2 16 Tryz.underlying45 HI.out.1 HI.out.2.1 HI.out.2.2.1 HI.out.2.2.2 rfl (by decide) _ _ _ rfl (own_below HO.out (below_alloc1 _ _)) _ 1 1 [.int .i64 lo, .int .i64 hi] rfl rfl (fun j u hj => news_alloc _ _ _ j u hj) (by simp [Value.oneCell']) (by decide) (by unfold maxLen; omega) (by omega) (by have h3 := HB.out.size; simp; omega) _ rfl ?_; intro g9 cap9 w9 hown hgrow hat hgl; have HO9 := Lib.hid hown; have HG9 := Lib.hid hgrow; clear hown hgrow hat hgl f1 f2 x5)
      go_roundw
      case rel =>
        refine ⟨k + 1, by omega, by go_num, ?_, ?_⟩
        · rw [HTK.out, rsCells_snoc]; exact HO9.out
        · exact (HB.out.alloc HB.out.size _).grown HG9.out (by have := HB.out.size; simp; omega) (fun k hk => (HO.out.lt k hk).1)
      case measure => simp [intOf]; omega
    · have hkn : k = n := by omega
      subst hkn
      have HT := Lib.hid (show rs.take k = rs by rw [HLN.out, List.take_length])
      rw [HT.out] at HO
      clear HT
      have hl0 : ∃ A0 c0, u3 = .slice A0 k c0 := by
        rcases HO.out.2 with ⟨h1, h0⟩ | ⟨g', cap, cur, hv, _⟩
        · exact ⟨none, 0, by rw [h1, h0]⟩
        · exact ⟨_, cap, hv⟩
      obtain ⟨A0, c0, rfl⟩ := hl0
      have z1 : ¬ (k : Int) < (k : Int) := by omega
      go_upto_region 7 with fail
      go_wp2_with (at_builtin; refine wpList_append_lies _ rfl (.tmp 23) (.tmp 26) 45 rfl w0.heap.size 102 j0 (.agg #[.int .i64 0, .int .i64 0]) 2 16 Tryz.underlying45 HI.out.1 HI.out.2.1 HI.out.2.2.1 HI.out.2.2.2 rfl (by decide) _ _ _ rfl (own_below HO.out (below_alloc1 _ _)) _ 2 2 [.int .i64 (-7), .int .i64 (-8), .int .i64 (-9), .int .i64 (-9)] rfl rfl (fun j u hj => news_alloc _ _ _ j u hj) (by simp [Value.oneCell']) (by decide) (by unfold maxLen; omega) (by omega) (by have h3 := HB.out.size; simp; omega) _ rfl ?_; intro g9 cap9 w9 hown hgrow hat hgl; have HO9 := Lib.hid hown; have HA := Lib.hid (copy_after HX.out HB.out HO.out hgrow); have y5 := HA.out.2.2.1; have yf := HA.out.2.2.2.1; have yb := HA.out.2.2.2.2; have HCP := Lib.hid (copy_cap hown); have sl := head_rg g9 (k + 2) cap9 k (by have := HCP.out; omega) (by have := HCP.out; omega); have HE := Lib.hid (copy_end (A := some ⟨g9, 0, none⟩) (n := k) (c := cap9) HA.out.2.1 ((HA.out.1.block _ (Array.getElem?_eq_some_iff.1 HY.out).1).trans HY.out) rfl); have ld := HE.out.1; have hf := HE.out.2.1; clear hown hgrow hat hgl x5)
      refine bodyPost_ret (v := opV i0 i1 kd a tx (.slice (some ⟨g9, 0, none⟩) k cap9) t0 t1 on) ?hr1 ?hd1 ?hb1
      case hd1 => rfl
      case hr1 => exact results_cell_row rfl _ _ (gr + 1) 47 _ (0, 0) _ rfl (setRow_heap _ _ _ _ _ _ HE.out.2.2) Tryz.underlying47 rfl (by kernel_rfl)
      case hb1 =>
        have hs : rsCells (rs ++ [(-7, -8), (-9, -9)]) = rsCells rs ++ [.int .i64 (-7), .int .i64 (-8), .int .i64 (-9), .int .i64 (-9)] := by simp [rsCells]
        have hg9 : w0.heap.size ≤ g9 := (HO9.out.lt _ rfl).1
        refine ⟨⟨g9, cap9, by rw [← HLN.out], ?_, ?_, ?_⟩, ?_⟩
        · have := HSZ.out; have := HGR.out; omega
        · rw [← HLN.out]; exact HCP.out
        · rw [hs, ← HLN.out]
          exact own_row9 (own_setOp (own_weak1 HO9.out (by have := HSZ.out; have := HGR.out; omega)) HA.out.2.1) HE.out.2.2
        · have hb9 := HB0.out.trans (HA.out.1.mono HB0.out.size)
          exact below_setRow (hb9.setCell (p := ⟨gr, 5, none⟩) (by rw [HGR.out]; exact Nat.le_refl _) _) (by rw [HGR.out]; omega) _
end
end Go.Proofs.YtkdhomiieenfnaaGreatDoor.Lw
