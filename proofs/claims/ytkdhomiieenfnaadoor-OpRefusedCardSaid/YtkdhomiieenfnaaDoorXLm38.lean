/- What Apply answers, case by case; small facts for OpRefused. OpRefused walked. -/
import Derived.Test.YtkdhomiieenfnaaDoorXLm34
import Derived.Test.YtkdhomiieenfnaaDoorXLm37
namespace Go.Proofs.YtkdhomiieenfnaaDoor.Lw
open Go.RowKit Go.Proofs Go.Proofs.YtkdhomiieenfnaaDoor.U Go.Proofs.YtkdhomiieenfnaaDoor.Txt Go.Proofs.YtkdhomiieenfnaaDoor.Rp Go.Proofs.YtkdhomiieenfnaaDoor.O
set_option linter.unusedVariables false
set_option linter.unusedSimpArgs false

theorem bump_txt {d : Int} {rs : List (Int × Int)} {cs : List Cl} (h : ∀ c ∈ cs, TxtRune c.1) : (∀ c ∈ bumpC d rs cs, TxtRune c.1) ∧ (bumpC d rs cs).length = cs.length := by
  refine ⟨fun c hc => ?_, bumpC_len d rs cs⟩
  have h1 : c.1 ∈ (bumpC d rs cs).map (·.1) := List.mem_map_of_mem hc
  rw [bumpC_fst] at h1
  obtain ⟨x, hx, e⟩ := List.mem_map.1 h1
  rw [← e]
  exact h x hx
/-- What Apply answers. -/
theorem apply_cases {cs : List Cl} {i0 i1 kd a : Int} {tx : ByteArray} {k er : Nat} {rs : List (Int × Int)} {t0 t1 : Int} {on : Bool} {xs : List Int} (hco : Cok cs) (htx : ∀ c ∈ cs, TxtRune c.1) (hxs : er = 0 → k = xs.length ∧ ∀ r ∈ xs, TxtRune r) {E : Int} (hE : opE i0 i1 kd a tx k er rs t0 t1 on cs.length = E) :
    (E ≠ 0 ∧ applyR cs i0 i1 kd a tx k er rs t0 t1 on xs = (E, cs)) ∨
    (E = 0 ∧ kd = 1 ∧ ∃ cs', applyR cs i0 i1 kd a tx k er rs t0 t1 on xs = (0, cs') ∧ (∀ c ∈ cs', TxtRune c.1) ∧ cs'.length ≤ cs.length + 256) ∨
    (E = 0 ∧ (kd = 2 ∨ kd = 3) ∧ (Nrm 0 rs ∧ (∀ x ∈ rs, x.2 ≤ (cs.length : Int)) ∧ rs.length ≤ 32768) ∧ ((stopsR kd rs cs ∧ applyR cs i0 i1 kd a tx k er rs t0 t1 on xs = (if kd = 2 then 31 else 30, cs)) ∨ (¬ stopsR kd rs cs ∧ ∃ cs', applyR cs i0 i1 kd a tx k er rs t0 t1 on xs = (0, cs') ∧ (∀ c ∈ cs', TxtRune c.1) ∧ cs'.length ≤ cs.length + 256))) ∨
    (E = 0 ∧ kd = 4 ∧ applyR cs i0 i1 kd a tx k er rs t0 t1 on xs = (40, cs)) := by
  by_cases h0 : E = 0
  · subst h0
    have hk := (opE_ok hE).kind
    have hp := opE_parts hE
    have hap : applyR cs i0 i1 kd a tx k er rs t0 t1 on xs = if kd = 1 then (0, cs.take a.toNat ++ run xs 0 ++ cs.drop a.toNat) else
        if kd = 2 then (if (bumpR 1 cs rs).1 = 0 then bumpR 1 cs rs else ((bumpR 1 cs rs).1, cs)) else
        if kd = 3 then (if (bumpR (-1) cs rs).1 = 0 then bumpR (-1) cs rs else ((bumpR (-1) cs rs).1, cs)) else (40, cs) := by
      unfold applyR
      rw [hE, if_neg (by decide)]
    have hk4 : kd = 1 ∨ (kd = 2 ∨ kd = 3) ∨ kd = 4 := by omega
    rcases hk4 with h1 | h23 | h4
    · refine .inr (.inl ⟨rfl, h1, _, by rw [hap, if_pos h1], ?_, ?_⟩)
      · have hi := insE_ok (hp.2.1 h1)
        obtain ⟨hk, ht⟩ := hxs hi.1
        intro c hc
        rcases List.mem_append.1 hc with h | h
        · rcases List.mem_append.1 h with h | h
          · exact htx c (List.mem_of_mem_take h)
          · exact ht _ (run_mem h).2
        · exact htx c (List.mem_of_mem_drop h)
      · have hi := insE_ok (hp.2.1 h1)
        obtain ⟨hk, ht⟩ := hxs hi.1
        rw [List.length_append, List.length_append, List.length_take, List.length_drop, run_len]
        have := hi.2.2.1
        omega
    · obtain ⟨hne, hl, hsp, hnr, hx⟩ := rngE_ok (hp.2.2 h23)
      refine .inr (.inr (.inl ⟨rfl, h23, ⟨hnr, hx, hl⟩, ?_⟩))
      rw [stopsR_iff h23]
      rcases h23 with rfl | rfl
      · have hb := bumpR_spec (d := 1) (.inl rfl) rs 0 cs (Int.le_refl _) hnr hx hco
        rw [if_pos rfl, if_pos rfl]
        rw [if_neg (by decide), if_pos rfl] at hap
        by_cases hs : stopC 1 rs cs
        · refine .inl ⟨hs, ?_⟩
          have h1 := hb.1 hs
          rw [if_neg (by decide)] at h1
          rw [hap, h1, if_neg (by decide)]
        · refine .inr ⟨hs, bumpC 1 rs cs, ?_, (bump_txt htx).1, by rw [(bump_txt htx).2]; omega⟩
          have h1 := (hb.2 hs).1
          rw [hap, h1, if_pos rfl]
      · have hb := bumpR_spec (d := -1) (.inr rfl) rs 0 cs (Int.le_refl _) hnr hx hco
        rw [if_neg (by decide), if_neg (by decide)]
        rw [if_neg (by decide), if_neg (by decide), if_pos rfl] at hap
        by_cases hs : stopC (-1) rs cs
        · refine .inl ⟨hs, ?_⟩
          have h1 := hb.1 hs
          rw [if_pos (by decide)] at h1
          rw [hap, h1, if_neg (by decide)]
        · refine .inr ⟨hs, bumpC (-1) rs cs, ?_, (bump_txt htx).1, by rw [(bump_txt htx).2]; omega⟩
          have h1 := (hb.2 hs).1
          rw [hap, h1, if_pos rfl]
    · exact .inr (.inr (.inr ⟨rfl, h4, by rw [hap, if_neg (by omega), if_neg (by omega), if_neg (by omega)]⟩))
  · refine .inl ⟨h0, ?_⟩
    unfold applyR
    rw [hE, if_pos h0]
/-- A load of an operation that lies within a row of steps. -/
theorem ldO_at {w : World} {b o : Nat} {i0 i1 kd a : Int} {tx : ByteArray} {v : Value} {t0 t1 : Int} {on : Bool} (c0 : w.cell? ⟨b, o, none⟩ = some (.int .i64 i0)) (c1 : w.cell? ⟨b, o + 1, none⟩ = some (.int .i64 i1)) (c2 : w.cell? ⟨b, o + 2, none⟩ = some (.int .i64 kd)) (c3 : w.cell? ⟨b, o + 3, none⟩ = some (.int .i64 a)) (c4 : w.cell? ⟨b, o + 4, none⟩ = some (.string tx)) (c5 : w.cell? ⟨b, o + 5, none⟩ = some v) (c6 : w.cell? ⟨b, o + 6, none⟩ = some (.int .i64 t0)) (c7 : w.cell? ⟨b, o + 7, none⟩ = some (.int .i64 t1)) (c8 : w.cell? ⟨b, o + 8, none⟩ = some (.bool on)) :
    (ldO (.pointer (some ⟨b, o, none⟩))).run Tryd.prog w = .ok (.agg #[.int .i64 i0, .int .i64 i1, .int .i64 kd, .int .i64 a, .string tx, v, .int .i64 t0, .int .i64 t1, .bool on]) w := by
  unfold ldO
  go_simp
theorem ranges_take {w : World} {A : Option Addr} {n m : Nat} {rs ys : List (Int × Int)} (h : Ranges w A n (rs ++ ys)) (hm : rs.length = m) : Ranges w A m rs := ⟨hm.symm, fun h0 => by
  obtain ⟨b, off, e, hc⟩ := h.at_ (by rw [h.len, List.length_append]; omega)
  refine ⟨b, off, e, fun j hj => ?_⟩
  have := hc j (by rw [List.length_append]; omega)
  rwa [List.getElem_append_left hj] at this⟩
/-- The ranges of what copied hands back. -/
theorem copy_ranges {w : World} {B g c n : Nat} {rs : List (Int × Int)} (hn : rs.length = n) (h : w.ownsRow B 110 2 (.slice (some ⟨g, 0, none⟩) (n + 2) c) (n + 2) (rsCells (rs ++ [(-7, -8), (-9, -9)]))) : Ranges w (some ⟨g, 0, none⟩) n rs := by
  rcases h.2 with ⟨h1, _⟩ | ⟨g', cap, cur, hv, hb, hg, hcap, _⟩
  · cases h1
  · have e : g = g' := by injection hv with h1; injection h1 with h1; injection h1
    subst e
    refine ranges_take (ys := [(-7, -8), (-9, -9)]) (n := n + 2) ⟨by rw [List.length_append, hn]; rfl, fun _ => ⟨g, 0, rfl, fun j hj => ?_⟩⟩ hn
    have hg2 := rsCells_get _ j hj
    have e1 : (⟨g, 0 + j * 2, none⟩ : Addr) = (⟨g, 0, none⟩ : Addr).add (j * 2) := by simp [Addr.add]
    have e2 : (⟨g, 0 + j * 2 + 1, none⟩ : Addr) = (⟨g, 0, none⟩ : Addr).add (j * 2 + 1) := by simp [Addr.add]
    rw [e1, e2]
    exact ⟨h.cells (g := g) rfl _ _ hg2.1, h.cells (g := g) rfl _ _ hg2.2⟩
/-- The cells of a row of one's own, and where they lie. -/
theorem cells_own {w : World} {B : Nat} {v : Value} {cs : List Cl} (h : w.ownsRow B 95 2 v cs.length (clCells cs)) : ∃ A c, v = .slice A cs.length c ∧ CellsIn w A cs ∧ ∀ g off, A = some ⟨g, off, none⟩ → B ≤ g := by
  rcases h.2 with ⟨hv, h0⟩ | ⟨g, cap, cur, hv, hbg, hg, hcap, hrest⟩
  · exact ⟨none, 0, by rw [hv, h0], fun hp => by omega, fun _ _ e => by cases e⟩
  · refine ⟨_, cap, hv, fun hp => ⟨g, 0, rfl, fun j hj => ?_⟩, fun _ _ e => by cases e; exact hbg⟩
    obtain ⟨a1, a2⟩ := clCells_get cs j hj
    have e : ∀ k, (⟨g, 0 + k, none⟩ : Addr) = (⟨g, 0, none⟩ : Addr).add k := fun k => by simp [Addr.add]
    exact ⟨by rw [e, h.cells (g := g) (by rw [hv]; rfl) _ _ a1], by rw [show 0 + j * 2 + 1 = 0 + (j * 2 + 1) by omega, e, h.cells (g := g) (by rw [hv]; rfl) _ _ a2]⟩
theorem cellsIn_keepB {w w' : World} {A : Option Addr} {cs : List Cl} {b : Nat} (h : CellsIn w A cs) (hne : ∀ g off, A = some ⟨g, off, none⟩ → g ≠ b) (hg : w.grownBy w' (some b)) : CellsIn w' A cs := fun h0 => by
  obtain ⟨g, off, e, hc⟩ := h h0
  exact ⟨g, off, e, fun j hj => ⟨cell_keepB (hc j hj).1 (hne g off e) hg, cell_keepB (hc j hj).2 (hne g off e) hg⟩⟩
end Go.Proofs.YtkdhomiieenfnaaDoor.Lw

namespace Go.Proofs.YtkdhomiieenfnaaDoor.Lw
open Go.RowKit Go.Proofs Go.Proofs.YtkdhomiieenfnaaDoor.U Go.Proofs.YtkdhomiieenfnaaDoor.Txt Go.Proofs.YtkdhomiieenfnaaDoor.Rp Go.Proofs.YtkdhomiieenfnaaDoor.O
set_option linter.unusedVariables false
set_option linter.unusedSimpArgs false

/-- An operation at a place of memory. -/
def OpAt9 (w : World) (b o : Nat) (i0 i1 kd a : Int) (tx : ByteArray) (v : Value) (t0 t1 : Int) (on : Bool) : Prop :=
  w.cell? ⟨b, o, none⟩ = some (.int .i64 i0) ∧ w.cell? ⟨b, o + 1, none⟩ = some (.int .i64 i1) ∧ w.cell? ⟨b, o + 2, none⟩ = some (.int .i64 kd) ∧ w.cell? ⟨b, o + 3, none⟩ = some (.int .i64 a) ∧ w.cell? ⟨b, o + 4, none⟩ = some (.string tx) ∧ w.cell? ⟨b, o + 5, none⟩ = some v ∧ w.cell? ⟨b, o + 6, none⟩ = some (.int .i64 t0) ∧ w.cell? ⟨b, o + 7, none⟩ = some (.int .i64 t1) ∧ w.cell? ⟨b, o + 8, none⟩ = some (.bool on)
/-- A list of steps behind a slice: their first operations. -/
def ReadsS (w : World) (A : Option Addr) (n : Nat) : Prop := n ≤ 17592186044416 ∧ (0 < n → ∃ b off, A = some ⟨b, off, none⟩ ∧ ∀ j, j < n → ∃ i0 i1 kd a tx A' n' c' rs t0 t1 on, OpAt9 w b (off + j * 21 + 1) i0 i1 kd a tx (.slice A' n' c') t0 t1 on ∧ Ranges w A' n' rs ∧ n' ≤ 8796093021952 ∧ tx.size ≤ maxLen)
section
attribute [local go_sem ↓] ldO_fold stO_fold
attribute [local go_sem] stO_run
set_option maxRecDepth 100000 in
set_option maxHeartbeats 8000000 in
theorem refused_walk (Ac : Option Addr) (nc cc : Nat) (As : Option Addr) (ns cs0 : Nat) (w : World) (hC : ReadsC w Ac nc) (hS : ReadsS w As ns) (hE : EnvO w) :
    Calls Tryd.prog 4 #[.agg #[.slice Ac nc cc, .slice As ns cs0]] w fun e w' => e = .returned (.bool true) ∧ Below w.heap.size w w' := by
  have HS := Lib.hid hS
  have HEN := Lib.hid hE
  have hnsb := hS.1
  have HMD := Lib.hid (fun (W : World) (hW : Below w.heap.size w W) => made_any Ac nc cc W ⟨hC.1, fun h0 => by
    obtain ⟨b, off, e, h⟩ := hC.2 h0
    exact ⟨b, off, e, fun j hj => by obtain ⟨r, h', c1, c2⟩ := h j hj; exact ⟨r, h', U.cell_below hW c1, U.cell_below hW c2⟩⟩⟩)
  obtain ⟨w0, hw0⟩ : ∃ w0, w.alloc (.cells #[.slice Ac nc cc, .slice As ns cs0] 60) = w0 := ⟨_, rfl⟩
  have hB0 : Below w.heap.size w w0 := by rw [← hw0]; exact below_alloc1 _ _
  have hy0 : w0.heap[w.heap.size]? = some (.cells #[.slice Ac nc cc, .slice As ns cs0] 60 (0, 0)) := by rw [← hw0]; exact heap_at rfl
  have HW0 := Lib.hid hw0
  clear hC hS hE hw0
  obtain ⟨g0, hg0⟩ : ∃ g0, w.heap.size = g0 := ⟨_, rfl⟩
  have HG0 := Lib.hid hg0
  rw [hg0] at hy0
  have HY0 := Lib.hid hy0
  have HB0 := Lib.hid hB0
  have HG0L := Lib.hid (show g0 < w0.heap.size from (Array.getElem?_eq_some_iff.1 hy0).1)
  have HBX := Lib.hid (fun (W : World) (hW : Below w0.heap.size w0 W) => (show W.cell? ⟨g0, 0, none⟩ = some (.slice Ac nc cc) ∧ W.cell? ⟨g0, 1, none⟩ = some (.slice As ns cs0) from
    have e := (hW.block _ HG0L.out).trans HY0.out
    ⟨by rw [Lib.cell_of_heap e]; rfl, by rw [Lib.cell_of_heap e]; rfl⟩))
  have HFX := Lib.hid (opFixed_any w0 (HEN.out.below hB0))
  clear hy0 hB0 hg0
  go_enter Tryd.func4, Tryd.ntmps4
  go_upto_region 1 with fail
  rw [HW0.out, HG0.out]
  go_wp2_with fail
  refine HFX.out.mono ?_
  rintro e w00 ⟨rfl, hb00⟩
  have HB00 := Lib.hid hb00
  have HBW00 := Lib.hid (HB0.out.trans (hb00.mono HB0.out.size))
  obtain ⟨x0, x1⟩ := HBX.out w00 hb00
  clear hb00 HFX
  go_wp2_with fail
  refine (HMD.out _ HBW00.out).mono ?_
  rintro e w1 ⟨⟨v1, cs, rfl, ho1, hl1, hg1⟩, hb1⟩
  obtain ⟨A1, c1, rfl, hc1, hci1⟩ := CellsIn.of_own ho1
  have HB1 := Lib.hid (HBW00.out.trans (hb1.mono HBW00.out.size))
  have HBA1 := Lib.hid (HB00.out.trans (hb1.mono HB00.out.size))
  have HGD := Lib.hid hg1
  have hcl : cs.length ≤ 400 := by omega
  have HR2 := Lib.hid (runs_any A1 c1 cs w1 hci1 (by omega))
  have HCL := Lib.hid hcl
  clear ho1 hl1 hg1 hc1 hci1 hb1 hcl HMD x0 x1
  go_wp2_with fail
  refine HR2.out.mono ?_
  rintro e w2 ⟨⟨v2, rfl, ho2⟩, hb2⟩
  obtain ⟨A2, c2, rfl, hc2, hpi2⟩ := PcesIn.of_own ho2
  have HB2 := Lib.hid (HB1.out.trans (hb2.mono HB1.out.size))
  have HBA2 := Lib.hid (HBA1.out.trans (hb2.mono HBA1.out.size))
  have HF := Lib.hid (from_runs A2 c2 cs w2 hpi2 HGD.out (by have := HCL.out; omega) (HEN.out.bars.below HB2.out))
  clear ho2 hc2 hpi2 hb2 HR2
  go_wp2_with fail
  refine HF.out.mono ?_
  rintro e w3 ⟨⟨b, rfl, hr3, hbg⟩, hb3⟩
  have HB3 := Lib.hid (HB2.out.trans (hb3.mono HB2.out.size))
  have HBA3 := Lib.hid (HBA2.out.trans (hb3.mono HBA2.out.size))
  have HR3 := Lib.hid hr3
  have HBG := Lib.hid (show w0.heap.size ≤ b by have := HBA2.out.size; omega)
  have HBB := Lib.hid (show b < w3.heap.size from by obtain ⟨_, _, h1, _⟩ := hr3; exact (Array.getElem?_eq_some_iff.1 h1).1)
  clear hr3 hb3 hbg HF
  go_wp2_with fail
  go_loopw [6] (fun i wr => ∃ (k : Nat) (cs : List Cl), k ≤ ns ∧ k ≤ 60 ∧ i = .int .i64 k ∧ Rope wr b cs ∧ (∀ c ∈ cs, TxtRune c.1) ∧ cs.length ≤ 400 + 256 * k ∧ Below w0.heap.size w0 wr ∧ b < wr.heap.size) (fun i _ => ns - (intOf i).toNat)
  case atStart => exact ⟨0, cs, Nat.zero_le _, Nat.zero_le _, rfl, HR3.out, fun c hc => (HGD.out c hc).1, by have := HCL.out; omega, HBA3.out, HBB.out⟩
  case round =>
    obtain ⟨k, cs', hk1, hk2, rfl, hrp, htx, hln, hbw, hbl⟩ := hrel
    have HRP := Lib.hid hrp
    have HTX := Lib.hid htx
    have HLN := Lib.hid hln
    have HBW := Lib.hid hbw
    have HBL := Lib.hid hbl
    obtain ⟨x0, x1⟩ := HBX.out wr hbw
    clear hrp htx hln hbw hbl
    by_cases hgo : k < ns ∧ k < 60
    · obtain ⟨g1, g2⟩ := hgo
      have g1' : (k : Int) < (ns : Int) := by omega
      have g2' : decide ((k : Int) < 60) = true := by simp; omega
      have g0' : (0 : Int) ≤ (k : Int) := by omega
      obtain ⟨gs, off, rfl, hst⟩ := HS.out.2 (by omega)
      obtain ⟨i0, i1, kd, a, tx, A, n, c, rs, t0, t1, on, h9, hrg, hn, htxs⟩ := hst k g1
      have HBWW := Lib.hid (HB0.out.trans (HBW.out.mono HB0.out.size))
      obtain ⟨d0, d1, d2, d3, d4, d5, d6, d7, d8⟩ := h9
      have ld := ldO_at (U.cell_below HBWW.out d0) (U.cell_below HBWW.out d1) (U.cell_below HBWW.out d2) (U.cell_below HBWW.out d3) (U.cell_below HBWW.out d4) (U.cell_below HBWW.out d5) (U.cell_below HBWW.out d6) (U.cell_below HBWW.out d7) (U.cell_below HBWW.out d8)
      have HRG := Lib.hid (hrg.below HBWW.out)
      have HCP := Lib.hid (copied_any i0 i1 kd a tx A n c rs t0 t1 on wr HRG.out hn)
      have HRL := Lib.hid hrg.len
      have HTS := Lib.hid htxs
      have HNN := Lib.hid hn
      unfold opV at HCP
      clear hst d0 d1 d2 d3 d4 d5 d6 d7 d8 hrg htxs hn
      go_wp2_with fail
      refine HCP.out.mono ?_
      rintro e w4 ⟨⟨gl, cl, rfl, hgl, hcl, hown⟩, hb4⟩
      unfold opV
      have hlen0 := HRL.out
      obtain ⟨nr, hnr⟩ : ∃ nr, rs.length = nr := ⟨_, rfl⟩
      rw [hnr] at hcl hown hlen0 ⊢
      subst hlen0
      have hrg4 := copy_ranges hnr hown
      have HRG4 := Lib.hid hrg4
      have HGL := Lib.hid (show b < gl by have := HBL.out; omega)
      have HBW4 := Lib.hid (HBW.out.trans (hb4.mono HBW.out.size))
      have HR4 := Lib.hid (HRP.out.below hb4)
      have HL4 := Lib.hid (show b < w4.heap.size by have := HBL.out; have := hb4.size; omega)
      have hf := Fresh.new w4 (.int .i64 0) (.int .i64 0) (.int .i64 0) (.int .i64 0) (.string ⟨#[]⟩) (.slice none 0 0) (.int .i64 0) (.int .i64 0) (.bool false)
      clear hcl hown hrg4 hb4 hgl HCP ld x0 x1 HRG HRP
      go_upto_region 9 with fail
      obtain ⟨w5, hw5⟩ : ∃ w5, (w4.alloc (.cells #[.int .i64 0, .int .i64 0, .int .i64 0, .int .i64 0, .string ⟨#[]⟩, .slice none 0 0, .int .i64 0, .int .i64 0, .bool false] 48)).setRow w4.heap.size (opC i0 i1 kd a tx (.slice (some ⟨gl, 0, none⟩) n cl) t0 t1 on) = w5 := ⟨_, rfl⟩
      obtain ⟨gq, hgq⟩ : ∃ gq, w4.heap.size = gq := ⟨_, rfl⟩
      have hb5 : Below w4.heap.size w4 w5 := by rw [← hw5]; exact below_setRow (below_alloc1 _ _) (Nat.le_refl _) _
      have hy5 : w5.heap[gq]? = some (.cells (opC i0 i1 kd a tx (.slice (some ⟨gl, 0, none⟩) n cl) t0 t1 on) 48 (0, 0)) := by rw [← hw5, ← hgq]; exact setRow_heap _ _ _ _ _ _ (heap_at rfl)
      unfold opC at hw5
      rw [hw5, hgq]
      have HGQ := Lib.hid (show b < gq by rw [← hgq]; exact HL4.out)
      have HBW5 := Lib.hid (HBW4.out.trans (hb5.mono HBW4.out.size))
      have HR5 := Lib.hid (HR4.out.below hb5)
      have HRG5 := Lib.hid (HRG4.out.below hb5)
      have HL5 := Lib.hid (show b < w5.heap.size by have := HL4.out; have := hb5.size; omega)
      have HY5 := Lib.hid hy5
      have HCO := Lib.hid (show Cok cs' by obtain ⟨_, _, _, h2, rfl⟩ := HR5.out; exact h2.wf.ok)
      have HGO := Lib.hid (show Good cs' from fun c hc => ⟨HTX.out c hc, (HCO.out c hc).1, (HCO.out c hc).2⟩)
      have hln5 : cs'.length ≤ 16000 := by have := HLN.out; omega
      have HL16 := Lib.hid hln5
      obtain ⟨⟨kk, ps, er⟩, hck⟩ : ∃ x, chk tx.data.toList = x := ⟨_, rfl⟩
      obtain ⟨xs, hxs⟩ : ∃ xs, er = 0 → tx.data.toList = enc xs ∧ kk = xs.length ∧ ∀ r ∈ xs, TxtRune r := by
        by_cases h : er = 0
        · subst h
          obtain ⟨xs, h1, h2, h3⟩ := chk_ok_text hck
          exact ⟨xs, fun _ => ⟨h1, h2, h3⟩⟩
        · exact ⟨[], fun h' => absurd h' h⟩
      obtain ⟨E, hEE⟩ : ∃ E, opE i0 i1 kd a tx kk er rs t0 t1 on cs'.length = E := ⟨_, rfl⟩
      obtain ⟨G, cs2, hR⟩ : ∃ G cs2, applyR cs' i0 i1 kd a tx kk er rs t0 t1 on xs = (G, cs2) := ⟨_, _, rfl⟩
      have hcase := apply_cases HCO.out HTX.out (fun h => (hxs h).2) hEE
      simp only [hR, Prod.mk.injEq] at hcase
      have h2 : (∀ c ∈ cs2, TxtRune c.1) ∧ cs2.length ≤ cs'.length + 256 := by
        rcases hcase with ⟨_, _, h⟩ | ⟨_, _, c', ⟨_, h⟩, h', h''⟩ | ⟨_, _, _, (⟨_, _, h⟩ | ⟨_, c', ⟨_, h⟩, h', h''⟩)⟩ | ⟨_, _, _, h⟩
        · rw [h]; exact ⟨HTX.out, by omega⟩
        · rw [h]; exact ⟨h', h''⟩
        · rw [h]; exact ⟨HTX.out, by omega⟩
        · rw [h]; exact ⟨h', h''⟩
        · rw [h]; exact ⟨HTX.out, by omega⟩
      have HCASE := Lib.hid hcase
      have HTX2 := Lib.hid h2.1
      have HLN2 := Lib.hid (show cs2.length ≤ 400 + 256 * (k + 1) by have := HLN.out; have := h2.2; omega)
      have HBN := Lib.hid (fun (W : World) (hW : Below w0.heap.size w0 W) => HEN.out.bars.below (HB0.out.trans (hW.mono HB0.out.size)))
      have HOC := Lib.hid (fun (W : World) (hW : Below w0.heap.size w0 W) (hg : Ranges W (some ⟨gl, 0, none⟩) n rs) => opCheck_any i0 i1 kd a tx (some ⟨gl, 0, none⟩) n cl rs t0 t1 on cs'.length kk ps er hck W HTS.out (by have := HNN.out; omega) hg (HBN.out W hW))
      have HAP := Lib.hid (fun (W : World) (hW : Below w0.heap.size w0 W) (hg : Ranges W (some ⟨gl, 0, none⟩) n rs) (hr : Rope W b cs') => Apply_any b cs' i0 i1 kd a tx (some ⟨gl, 0, none⟩) n cl rs t0 t1 on kk ps er xs hck hxs W hr HTS.out (by have := HNN.out; omega) hg (HBN.out W hW))
      have HAN := Lib.hid (fun (W : World) => Apply_nil i0 i1 kd a tx (some ⟨gl, 0, none⟩) n cl t0 t1 on W)
      rw [hR] at HAP
      rw [hEE] at HOC
      unfold opV at HAP HOC HAN
      have HRU := Lib.hid (Runs_any b cs' w5 HR5.out HTX.out)
      clear hf hw5 hgq hb5 hy5 hcase h2 hR hEE hck hxs
      go_wp2_with fail
      refine HRU.out.mono ?_
      rintro e w6 ⟨⟨v6, rfl, ho6⟩, hb6⟩
      obtain ⟨A6, c6, rfl, hc6, hpi6⟩ := PcesIn.of_own ho6
      have HCE := Lib.hid (cells_any A6 c6 (runsL cs') w6 hpi6 (fun q hq => (good_pce HGO.out hq).1) (by rw [flat_runsL]; omega) (by have := runsL_len cs'; omega))
      have HB56 := Lib.hid hb6
      have HBW6 := Lib.hid (HBW5.out.trans (hb6.mono HBW5.out.size))
      clear ho6 hc6 hpi6 hb6 HRU
      go_wp2_with fail
      refine HCE.out.mono ?_
      rintro e w7 ⟨⟨v7, rfl, ho7⟩, hb7⟩
      rw [flat_runsL] at ho7
      obtain ⟨A7, c7, rfl, hci7, hA7⟩ := cells_own ho7
      have HB57 := Lib.hid (HB56.out.trans (hb7.mono HB56.out.size))
      have HBW7 := Lib.hid (HBW6.out.trans (hb7.mono HBW6.out.size))
      have HCI7 := Lib.hid hci7
      have HA7 := Lib.hid (show ∀ g off, A7 = some ⟨g, off, none⟩ → g ≠ b from fun g off e => by have := hA7 g off e; have := HL5.out; have := HB56.out.size; omega)
      obtain ⟨nn, hnn⟩ : ∃ nn, cs'.length = nn := ⟨_, rfl⟩
      have HNC := Lib.hid hnn
      rw [hnn] at HOC hln5 ⊢
      have ld := ldO_run ((HB57.out.block _ (Array.getElem?_eq_some_iff.1 HY5.out).1).trans HY5.out)
      clear ho7 hci7 hA7 hb7 HCE hnn
      go_wp2_with fail
      refine (HOC.out _ HBW7.out (HRG5.out.below HB57.out)).mono ?_
      rintro e w8 ⟨rfl, hb8⟩
      have HB58 := Lib.hid (HB57.out.trans (hb8.mono HB57.out.size))
      have HBW8 := Lib.hid (HBW7.out.trans (hb8.mono HBW7.out.size))
      have HCI8 := Lib.hid (HCI7.out.below hb8)
      have ld8 := ldO_run ((HB58.out.block _ (Array.getElem?_eq_some_iff.1 HY5.out).1).trans HY5.out)
      clear hb8 HOC ld HCI7
      go_wp2_with fail
      refine (HAN.out w8).mono ?_
      rintro e w9 ⟨rfl, hb9⟩
      have HB59 := Lib.hid (HB58.out.trans (hb9.mono HB58.out.size))
      have HBW9 := Lib.hid (HBW8.out.trans (hb9.mono HBW8.out.size))
      have HCI9 := Lib.hid (HCI8.out.below hb9)
      have ld9 := ldO_run ((HB59.out.block _ (Array.getElem?_eq_some_iff.1 HY5.out).1).trans HY5.out)
      have HR9 := Lib.hid (HR5.out.below HB59.out)
      clear hb9 HAN ld8 HCI8
      go_wp2_with fail
      refine (HAP.out w9 HBW9.out (HRG5.out.below HB59.out) HR9.out).mono ?_
      rintro e w10 ⟨he, hr10, hg10⟩
      have he' : e = .returned (.int .i64 G) := he
      subst he'
      clear he
      have HR10 := Lib.hid (show Rope w10 b cs2 from hr10)
      have HBW10 := Lib.hid (below_keepB HBW9.out HBG.out hg10)
      have HCI10 := Lib.hid (cellsIn_keepB HCI9.out HA7.out hg10)
      have HY10 := Lib.hid (show w10.heap[gq]? = some (.cells (opC i0 i1 kd a tx (.slice (some ⟨gl, 0, none⟩) n cl) t0 t1 on) 48 (0, 0)) from (hg10.block _ (Array.getElem?_eq_some_iff.1 ((HB59.out.block _ (Array.getElem?_eq_some_iff.1 HY5.out).1).trans HY5.out)).1 (fun e => by have := HGQ.out; have := Option.some.inj e; omega)).trans ((HB59.out.block _ (Array.getElem?_eq_some_iff.1 HY5.out).1).trans HY5.out))
      have HRG10 := Lib.hid (show Ranges w10 (some ⟨gl, 0, none⟩) n rs from ⟨HRG5.out.len, fun h0 => by
        obtain ⟨g, off, e, hc⟩ := (HRG5.out.below HB59.out).at_ h0
        have hgl : g = gl := by have := Option.some.inj e; injection this with h; exact h.symm
        exact ⟨g, off, e, fun j hj => ⟨cell_keepB (hc j hj).1 (by have := HGL.out; simp only; omega) hg10, cell_keepB (hc j hj).2 (by have := HGL.out; simp only; omega) hg10⟩⟩⟩)
      have HL10 := Lib.hid (show b < w10.heap.size by obtain ⟨_, _, h1, _⟩ := HR10.out; exact (Array.getElem?_eq_some_iff.1 h1).1)
      have HCO2 := Lib.hid (show Cok cs2 by obtain ⟨_, _, _, h2, rfl⟩ := HR10.out; exact h2.wf.ok)
      have HGO2 := Lib.hid (show Good cs2 from fun c hc => ⟨HTX2.out c hc, (HCO2.out c hc).1, (HCO2.out c hc).2⟩)
      have HRU := Lib.hid (Runs_any b cs2 w10 HR10.out HTX2.out)
      have hln10 : cs2.length ≤ 16000 := by have := HLN2.out; omega
      clear hr10 hg10 HAP ld9 HCI9 HR9 HBW9 HBW8 HBW7 HBW6
      go_wp2_with fail
      refine HRU.out.mono ?_
      rintro e w11 ⟨⟨v11, rfl, ho11⟩, hb11⟩
      obtain ⟨A11, c11, rfl, hc11, hpi11⟩ := PcesIn.of_own ho11
      have HCE := Lib.hid (cells_any A11 c11 (runsL cs2) w11 hpi11 (fun q hq => (good_pce HGO2.out hq).1) (by rw [flat_runsL]; omega) (by have := runsL_len cs2; omega))
      have HB011 := Lib.hid hb11
      clear ho11 hc11 hpi11 hb11 HRU
      go_wp2_with fail
      refine HCE.out.mono ?_
      rintro e w12 ⟨⟨v12, rfl, ho12⟩, hb12⟩
      rw [flat_runsL] at ho12
      obtain ⟨A12, c12, rfl, hci12, hA12⟩ := cells_own ho12
      have hb012 := HB011.out.trans (hb12.mono HB011.out.size)
      have HBW12 := Lib.hid (HBW10.out.trans (hb012.mono HBW10.out.size))
      have HR12 := Lib.hid (HR10.out.below hb012)
      have HY12 := Lib.hid ((hb012.block _ (Array.getElem?_eq_some_iff.1 HY10.out).1).trans HY10.out)
      have HL12 := Lib.hid (show b < w12.heap.size by have := HL10.out; have := hb012.size; omega)
      have hnc := HNC.out
      have HST := Lib.hid (fun (W : World) (hW : Below w12.heap.size w12 W) (h23 : kd = 2 ∨ kd = 3) (hr : Nrm 0 rs ∧ (∀ x ∈ rs, x.2 ≤ (cs'.length : Int)) ∧ rs.length ≤ 32768) => stops_any A7 (some ⟨gl, 0, none⟩) c7 n cl cs' rs i0 i1 kd a t0 t1 tx on W h23 ((HCI10.out.below hb012).below hW) ((HRG10.out.below hb012).below hW) (fun x hx => Nrm.lo hr.1 x hx) hr.2.1 (by omega) (by omega))
      have HBU := Lib.hid (fun (W : World) (hW : Below w12.heap.size w12 W) (he : cs2 = cs') => bumped_any A7 A12 none c7 c12 0 0 cs' cs2 [] 0 W (by rw [bumpC_nil]; exact he) trivial ((HCI10.out.below hb012).below hW) (hci12.below hW) (Ranges.none _ _) (by omega) (by simp) (by omega) HCO.out)
      obtain ⟨nn2, hnn2⟩ : ∃ nn2, cs2.length = nn2 := ⟨_, rfl⟩
      have hnn := HNC.out
      rw [hnn] at HST HBU
      rw [hnn2] at HBU ⊢
      unfold opV at HST
      have HREL := Lib.hid (fun (W : World) (hW : Below w12.heap.size w12 W) => (show Rope W b cs2 ∧ (∀ c ∈ cs2, TxtRune c.1) ∧ cs2.length ≤ 400 + 256 * (k + 1) ∧ Below w0.heap.size w0 W ∧ b < W.heap.size from
        ⟨HR12.out.below hW, HTX2.out, HLN2.out, HBW12.out.trans (hW.mono HBW12.out.size), by have := HL12.out; have := hW.size; omega⟩))
      have HK := Lib.hid (fun (W : World) (hW : Below w12.heap.size w12 W) => (show W.cell? ⟨gq, 2, none⟩ = some (.int .i64 kd) by rw [Lib.cell_of_heap ((hW.block _ (Array.getElem?_eq_some_iff.1 HY12.out).1).trans HY12.out)]; rfl))
      have y2 : w12.cell? ⟨gq, 2, none⟩ = some (.int .i64 kd) := by rw [Lib.cell_of_heap HY12.out]; rfl
      have ld12 := ldO_run HY12.out
      have hcase := HCASE.out
      clear ho12 hci12 hA12 hb12 hb012 HCE hnc hnn hnn2 hln10
      go_upto_region 14 with fail
      rcases hcase with ⟨h0, hG, hcs⟩ | ⟨h0, hk, c', ⟨hG, _⟩, _, _⟩ | ⟨h0, h23, hr3, (⟨hs, hG, hcs⟩ | ⟨hs, c', ⟨hG, _⟩, _, _⟩)⟩ | ⟨h0, hk, hG, hcs⟩
      · subst hG
        have b1 : (G == 0) = false := by simpa using h0
        have b2 : (G != 0) = true := by simpa using h0
        have HBV := Lib.hid (HBU.out w12 (Below.refl _ _) hcs)
        clear HCASE y2 ld12 HBU HST
        go_wp2_with fail
        refine HBV.out.mono ?_
        rintro e wz ⟨rfl, hbz⟩
        have HBZ := Lib.hid (hbz)
        clear hbz
        go_wp2_with fail
        go_roundw
        case rel => exact ⟨k + 1, cs2, by omega, by omega, by go_num, HREL.out _ HBZ.out⟩
        case measure => simp [intOf]; omega
      · subst h0 hk hG
        clear HCASE ld12 HBU HST
        go_wp2_with fail
        go_roundw
        case rel => exact ⟨k + 1, cs2, by omega, by omega, by go_num, HREL.out _ (Below.refl _ _)⟩
        case measure => simp [intOf]; omega
      · rcases h23 with rfl | rfl
        · have HSV := Lib.hid (HST.out w12 (Below.refl _ _) (.inl rfl) (by rw [HNC.out] at hr3; exact hr3))
          rw [if_pos rfl] at hG
          subst h0 hG
          clear HCASE
          go_wp2_with fail
          refine HSV.out.mono ?_
          rintro e wy ⟨⟨bo, rfl, hbo⟩, hby⟩
          obtain rfl : bo = true := hbo.2 hs
          have HBY := Lib.hid hby
          have y2' := HK.out wy hby
          have ld13 := ldO_run ((hby.block _ (Array.getElem?_eq_some_iff.1 HY12.out).1).trans HY12.out)
          have HBV := Lib.hid (HBU.out wy hby hcs)
          clear hby hbo HBU HST HSV y2 ld12
          go_wp2_with fail
          refine HBV.out.mono ?_
          rintro e wz ⟨rfl, hbz⟩
          have HBZ := Lib.hid (HBY.out.trans (hbz.mono HBY.out.size))
          clear hbz
          go_wp2_with fail
          go_roundw
          case rel => exact ⟨k + 1, cs2, by omega, by omega, by go_num, HREL.out _ HBZ.out⟩
          case measure => simp [intOf]; omega
        · have HSV := Lib.hid (HST.out w12 (Below.refl _ _) (.inr rfl) (by rw [HNC.out] at hr3; exact hr3))
          rw [if_neg (by decide)] at hG
          subst h0 hG
          clear HCASE
          go_wp2_with fail
          refine HSV.out.mono ?_
          rintro e wy ⟨⟨bo, rfl, hbo⟩, hby⟩
          obtain rfl : bo = true := hbo.2 hs
          have HBY := Lib.hid hby
          have y2' := HK.out wy hby
          have ld13 := ldO_run ((hby.block _ (Array.getElem?_eq_some_iff.1 HY12.out).1).trans HY12.out)
          have HBV := Lib.hid (HBU.out wy hby hcs)
          clear hby hbo HBU HST HSV y2 ld12
          go_wp2_with fail
          refine HBV.out.mono ?_
          rintro e wz ⟨rfl, hbz⟩
          have HBZ := Lib.hid (HBY.out.trans (hbz.mono HBY.out.size))
          clear hbz
          go_wp2_with fail
          go_roundw
          case rel => exact ⟨k + 1, cs2, by omega, by omega, by go_num, HREL.out _ HBZ.out⟩
          case measure => simp [intOf]; omega
      · rcases h23 with rfl | rfl
        · have HSV := Lib.hid (HST.out w12 (Below.refl _ _) (.inl rfl) (by rw [HNC.out] at hr3; exact hr3))
          subst h0 hG
          clear HCASE
          go_wp2_with fail
          refine HSV.out.mono ?_
          rintro e wy ⟨⟨bo, rfl, hbo⟩, hby⟩
          obtain rfl : bo = false := by cases bo with | false => rfl | true => exact absurd (hbo.1 rfl) hs
          have HBY := Lib.hid hby
          have y2' := HK.out wy hby
          have ld13 := ldO_run ((hby.block _ (Array.getElem?_eq_some_iff.1 HY12.out).1).trans HY12.out)
          clear hby hbo HBU HST HSV y2 ld12
          go_wp2_with fail
          go_roundw
          case rel => exact ⟨k + 1, cs2, by omega, by omega, by go_num, HREL.out _ HBY.out⟩
          case measure => simp [intOf]; omega
        · have HSV := Lib.hid (HST.out w12 (Below.refl _ _) (.inr rfl) (by rw [HNC.out] at hr3; exact hr3))
          subst h0 hG
          clear HCASE
          go_wp2_with fail
          refine HSV.out.mono ?_
          rintro e wy ⟨⟨bo, rfl, hbo⟩, hby⟩
          obtain rfl : bo = false := by cases bo with | false => rfl | true => exact absurd (hbo.1 rfl) hs
          have HBY := Lib.hid hby
          have y2' := HK.out wy hby
          have ld13 := ldO_run ((hby.block _ (Array.getElem?_eq_some_iff.1 HY12.out).1).trans HY12.out)
          clear hby hbo HBU HST HSV y2 ld12
          go_wp2_with fail
          go_roundw
          case rel => exact ⟨k + 1, cs2, by omega, by omega, by go_num, HREL.out _ HBY.out⟩
          case measure => simp [intOf]; omega
      · subst h0 hk hG
        have HBV := Lib.hid (HBU.out w12 (Below.refl _ _) hcs)
        clear HCASE ld12 HBU HST
        go_wp2_with fail
        refine HBV.out.mono ?_
        rintro e wz ⟨rfl, hbz⟩
        have HBZ := Lib.hid (hbz)
        clear hbz
        go_wp2_with fail
        go_roundw
        case rel => exact ⟨k + 1, cs2, by omega, by omega, by go_num, HREL.out _ HBZ.out⟩
        case measure => simp [intOf]; omega
    · have hend : (k < ns ∧ decide ((k : Int) < 60) = false) ∨ ¬ (k : Int) < (ns : Int) := by
        by_cases g1 : k < ns
        · exact .inl ⟨g1, by simp; omega⟩
        · exact .inr (by omega)
      clear hgo
      rcases hend with ⟨g1, g2⟩ | g1
      · have g1' : (k : Int) < (ns : Int) := by omega
        go_wp2_with fail
        go_ret
        exact ⟨rfl, HB0.out.trans (HBW.out.mono HB0.out.size)⟩
      · have g1' : ¬ k < ns := by omega
        go_wp2_with fail
        go_ret
        exact ⟨rfl, HB0.out.trans (HBW.out.mono HB0.out.size)⟩
end
end Go.Proofs.YtkdhomiieenfnaaDoor.Lw
