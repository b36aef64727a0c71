/- redraftlaw04.kinds, with Apply. -/
import Derived.Test.YtkdhomiieenfnaaGreatDoorLs47
import Derived.Test.YtkdhomiieenfnaaGreatDoorLa0
namespace Go.Proofs.YtkdhomiieenfnaaGreatDoor.K
open Go.RowKit Go.Proofs Go.Proofs.YtkdhomiieenfnaaGreatDoor.U Go.Proofs.YtkdhomiieenfnaaGreatDoor.Txt Go.Proofs.YtkdhomiieenfnaaGreatDoor.O Go.Proofs.YtkdhomiieenfnaaGreatDoor.Rp Go.Proofs.YtkdhomiieenfnaaGreatDoor.Lw
set_option linter.unusedVariables false
set_option linter.unusedSimpArgs false

/-- The rope and the row of cells as they stand ahead of a step. -/
structure KI (w0 W : World) (b k : Nat) (A : Option Addr) (cs : List Cl) : Prop where
  rope : Rope W b cs
  txt : ∀ c ∈ cs, TxtRune c.1
  len : cs.length ≤ 400 + 256 * k
  below : Below w0.heap.size w0 W
  row : CellsIn W A cs
  big : w0.heap.size ≤ b
theorem KI.step {w0 W W1 : World} {b k : Nat} {A : Option Addr} {cs : List Cl} (h : KI w0 W b k A cs) (hb : Below W.heap.size W W1) : KI w0 W1 b k A cs :=
  ⟨h.rope.below hb, h.txt, h.len, h.below.trans (hb.mono h.below.size), h.row.below hb, h.big⟩
theorem KI.more {w0 W : World} {b k : Nat} {A : Option Addr} {cs : List Cl} (h : KI w0 W b k A cs) : KI w0 W b (k + 1) A cs :=
  ⟨h.rope, h.txt, by have := h.len; omega, h.below, h.row, h.big⟩
theorem KI.cok {w0 W : World} {b k : Nat} {A : Option Addr} {cs : List Cl} (h : KI w0 W b k A cs) : Cok cs := by obtain ⟨_, _, _, h2, rfl⟩ := h.rope; exact h2.wf.ok
theorem own_keepB {w w' : World} {B e size n b : Nat} {v : Value} {xs : List Value} (h : w.ownsRow B e size v n xs) (hne : v.ownBlock ≠ some b) (hg : w.grownBy w' (some b)) : w'.ownsRow B e size v n xs := by
  refine ⟨h.1, h.2.imp id ?_⟩
  rintro ⟨g, cap, cur, hv, hbg, hgg, rest⟩
  refine ⟨g, cap, cur, hv, hbg, ?_, rest⟩
  rw [hg.block g (Array.getElem?_eq_some_iff.1 hgg).1 (fun e2 => hne (by rw [hv, ← e2]; rfl))]
  exact hgg
theorem KI.lt {w0 W : World} {b k : Nat} {A : Option Addr} {cs : List Cl} (h : KI w0 W b k A cs) : b < W.heap.size := by obtain ⟨_, _, h1, _⟩ := h.rope; exact (Array.getElem?_eq_some_iff.1 h1).1
section
attribute [local go_sem ↓] ldO_fold stO_fold ldS_fold stS_fold
attribute [local go_sem] stO_run stS_run
set_option maxRecDepth 100000 in
set_option maxHeartbeats 8000000 in
theorem kinds_all (Ac : Option Addr) (nc cc : Nat) (As : Option Addr) (ns cs0 : Nat) (St : List StepV) (lo hi : Int) (w : World) (hC : ReadsC w Ac nc) (hS : ScriptIn w As ns St) (hE : EnvO w)
    (hA : ∀ s ∈ St, s.kind ≠ 7 → lo ≤ s.kind → s.kind ≤ hi → AsksWell w s) :
    Calls Tryz.prog 9 #[.agg #[.slice Ac nc cc, .slice As ns cs0], .int .i64 lo, .int .i64 hi] w fun e w' => e = .returned (.bool true) ∧ Below w.heap.size w w' := by
  have HS := Lib.hid hS
  have HEN := Lib.hid hE
  have HAS := Lib.hid hA
  have hnsb := hS.2.1
  have HMD := Lib.hid (fun (W : World) (hW : Below w.heap.size w W) => made_any Ac nc cc W ⟨hC.1, fun h0 => by
    obtain ⟨b, off, e, h⟩ := hC.2 h0
    exact ⟨b, off, e, fun j hj => by obtain ⟨r, h', c1, c2⟩ := h j hj; exact ⟨r, h', U.cell_below hW c1, U.cell_below hW c2⟩⟩⟩)
  obtain ⟨w0, hw0⟩ : ∃ w0, w.alloc (.cells #[.slice Ac nc cc, .slice As ns cs0] 25) = w0 := ⟨_, rfl⟩
  have hB0 : Below w.heap.size w w0 := by rw [← hw0]; exact below_alloc1 _ _
  have hy0 : w0.heap[w.heap.size]? = some (.cells #[.slice Ac nc cc, .slice As ns cs0] 25 (0, 0)) := by rw [← hw0]; exact heap_at rfl
  have HW0 := Lib.hid hw0
  clear hC hS hE hw0 hA
  obtain ⟨g0, hg0⟩ : ∃ g0, w.heap.size = g0 := ⟨_, rfl⟩
  have HG0 := Lib.hid hg0
  rw [hg0] at hy0
  have HY0 := Lib.hid hy0
  have HB0 := Lib.hid hB0
  have HG0L := Lib.hid (show g0 < w0.heap.size from (Array.getElem?_eq_some_iff.1 hy0).1)
  have HBX := Lib.hid (fun (W : World) (hW : Below w0.heap.size w0 W) => (show W.cell? ⟨g0, 0, none⟩ = some (.slice Ac nc cc) ∧ W.cell? ⟨g0, 1, none⟩ = some (.slice As ns cs0) from
    have e := (hW.block _ HG0L.out).trans HY0.out
    ⟨by rw [Lib.cell_of_heap e]; rfl, by rw [Lib.cell_of_heap e]; rfl⟩))
  have HFX := Lib.hid (opFixed_any w0 (HEN.out.below hB0))
  clear hy0 hB0 hg0
  go_enter Tryz.func9, Tryz.ntmps9
  go_upto_region 1 with fail
  rw [HW0.out, HG0.out]
  go_wp2_with fail
  refine HFX.out.mono ?_
  rintro e w00 ⟨rfl, hb00⟩
  have HB00 := Lib.hid hb00
  have HBW00 := Lib.hid (HB0.out.trans (hb00.mono HB0.out.size))
  obtain ⟨x0, x1⟩ := HBX.out w00 hb00
  clear hb00 HFX
  go_wp2_with fail
  refine (HMD.out _ HBW00.out).mono ?_
  rintro e w1 ⟨⟨v1, cs, rfl, ho1, hl1, hg1⟩, hb1⟩
  obtain ⟨A1, c1, rfl, hc1, hci1⟩ := CellsIn.of_own ho1
  have HB1 := Lib.hid (HBW00.out.trans (hb1.mono HBW00.out.size))
  have HBA1 := Lib.hid (HB00.out.trans (hb1.mono HB00.out.size))
  have HGD := Lib.hid hg1
  have hcl : cs.length ≤ 400 := by omega
  have HR2 := Lib.hid (runs_any A1 c1 cs w1 hci1 (by omega))
  have HCL := Lib.hid hcl
  have HCI1 := Lib.hid hci1
  clear ho1 hl1 hg1 hc1 hci1 hb1 hcl HMD x0 x1
  go_wp2_with fail
  refine HR2.out.mono ?_
  rintro e w2 ⟨⟨v2, rfl, ho2⟩, hb2⟩
  obtain ⟨A2, c2, rfl, hc2, hpi2⟩ := PcesIn.of_own ho2
  have HB2 := Lib.hid (HB1.out.trans (hb2.mono HB1.out.size))
  have HBA2 := Lib.hid (HBA1.out.trans (hb2.mono HBA1.out.size))
  have HB12 := Lib.hid hb2
  have HF := Lib.hid (from_runs A2 c2 cs w2 hpi2 HGD.out (by have := HCL.out; omega) (HEN.out.bars.below HB2.out))
  clear ho2 hc2 hpi2 hb2 HR2
  go_wp2_with fail
  refine HF.out.mono ?_
  rintro e w3 ⟨⟨b, rfl, hr3, hbg⟩, hb3⟩
  have HB3 := Lib.hid (HB2.out.trans (hb3.mono HB2.out.size))
  have HBA3 := Lib.hid (HBA2.out.trans (hb3.mono HBA2.out.size))
  have HKI := Lib.hid (show KI w0 w3 b 0 A1 cs from ⟨hr3, fun c hc => (HGD.out c hc).1, by have := HCL.out; omega, HBA3.out, HCI1.out.below (HB12.out.trans (hb3.mono HB12.out.size)), by have := HBA2.out.size; omega⟩)
  clear hr3 hb3 hbg HF HCI1 HB12 HBA2 HBA3 HB3
  go_wp2_with fail
  go_loopw [8, 11] (fun v i wr => ∃ (k : Nat) (A : Option Addr) (c : Nat) (cs : List Cl), k ≤ ns ∧ k ≤ 60 ∧ i = .int .i64 k ∧ v = .slice A cs.length c ∧ KI w0 wr b k A cs) (fun _ i _ => ns - (intOf i).toNat)
  case atStart => exact ⟨0, A1, c1, cs, Nat.zero_le _, Nat.zero_le _, rfl, rfl, HKI.out⟩
  case round =>
    obtain ⟨k, Ar, cr, cs', hk1, hk2, rfl, rfl, hki⟩ := hrel
    have HK := Lib.hid hki
    have HBW := Lib.hid hki.below
    obtain ⟨x0, x1⟩ := HBX.out wr hki.below
    clear hki HKI
    obtain ⟨nc', hnc'⟩ : ∃ n, cs'.length = n := ⟨_, rfl⟩
    have HNC := Lib.hid hnc'
    rw [hnc']
    clear hnc'
    by_cases hgo : k < ns ∧ k < 60
    · obtain ⟨g1, g2⟩ := hgo
      have g1' : (k : Int) < (ns : Int) := by omega
      have g2' : decide ((k : Int) < 60) = true := by simp; omega
      have g0' : (0 : Int) ≤ (k : Int) := by omega
      obtain ⟨gs, off, rfl, hst⟩ := HS.out.2.2 (by omega)
      obtain ⟨hcl, hok⟩ := hst k (by rw [← HS.out.1]; exact g1)
      have hmem := List.getElem_mem (show k < St.length by rw [← HS.out.1]; exact g1)
      obtain ⟨s, hs⟩ : ∃ s, St[k]'(by rw [← HS.out.1]; exact g1) = s := ⟨_, rfl⟩
      rw [hs] at hcl hok hmem
      have HMEM := Lib.hid hmem
      have HBWW := Lib.hid (HB0.out.trans (HBW.out.mono HB0.out.size))
      have ld := ldS_at s (fun i v hv => U.cell_below HBWW.out (hcl i v hv))
      have HOK := Lib.hid (fun (W : World) (hW : Below w.heap.size w W) => hok.below hW)
      have hf := FreshS.new wr #[.int .i64 0, .int .i64 0, .int .i64 0, .int .i64 0, .int .i64 0, .string ⟨#[]⟩, .slice none 0 0, .int .i64 0, .int .i64 0, .bool false, .int .i64 0, .int .i64 0, .int .i64 0, .int .i64 0, .string ⟨#[]⟩, .slice none 0 0, .int .i64 0, .int .i64 0, .bool false, .int .i64 0, .string ⟨#[]⟩] rfl
      clear hst hcl hok hmem hs
      go_upto_region 10 with fail
      obtain ⟨w4, hw4⟩ : ∃ w4, (wr.alloc (.cells #[.int .i64 0, .int .i64 0, .int .i64 0, .int .i64 0, .int .i64 0, .string ⟨#[]⟩, .slice none 0 0, .int .i64 0, .int .i64 0, .bool false, .int .i64 0, .int .i64 0, .int .i64 0, .int .i64 0, .string ⟨#[]⟩, .slice none 0 0, .int .i64 0, .int .i64 0, .bool false, .int .i64 0, .string ⟨#[]⟩] 57)).setRow wr.heap.size s.cells = w4 := ⟨_, rfl⟩
      obtain ⟨gs2, hgs2⟩ : ∃ gs2, wr.heap.size = gs2 := ⟨_, rfl⟩
      have hb4 : Below wr.heap.size wr w4 := by rw [← hw4]; exact below_setRow (below_alloc1 _ _) (Nat.le_refl _) _
      have hy4 : w4.heap[gs2]? = some (.cells s.cells 57 (0, 0)) := by rw [← hw4, ← hgs2]; exact setRow_heap _ _ _ _ _ _ (heap_at rfl)
      rw [hw4, hgs2]
      have HGS := Lib.hid (show b < gs2 by have := HK.out.lt; omega)
      have HBW4 := Lib.hid (HBW.out.trans (hb4.mono HBW.out.size))
      have HK4 := Lib.hid (HK.out.step hb4)
      have HY4 := Lib.hid hy4
      have x0 : w4.cell? ⟨gs2, 0, none⟩ = some (.int .i64 s.kind) := by rw [Lib.cell_of_heap hy4]; rfl
      have HC4 := Lib.hid (fun (W : World) (hW : Below w4.heap.size w4 W) (i : Nat) (v : Value) (hv : s.cells[i]? = some v) => (show W.cell? ⟨gs2, i, none⟩ = some v by rw [Lib.cell_of_heap ((hW.block _ (Array.getElem?_eq_some_iff.1 HY4.out).1).trans HY4.out), hv]))
      have ldo := (fun (W : World) (hW : Below w4.heap.size w4 W) => ldO_at (o := 1) (HC4.out W hW 1 _ rfl) (HC4.out W hW 2 _ rfl) (HC4.out W hW 3 _ rfl) (HC4.out W hW 4 _ rfl) (HC4.out W hW 5 _ rfl) (HC4.out W hW 6 _ rfl) (HC4.out W hW 7 _ rfl) (HC4.out W hW 8 _ rfl) (HC4.out W hW 9 _ rfl))
      have HLO := Lib.hid ldo
      clear ld hf hw4 hgs2 hb4 hy4 ldo x1
      obtain ⟨kq, hkq⟩ : ∃ kq, s.kind = kq := ⟨_, rfl⟩
      rw [hkq] at x0
      by_cases l1 : kq < lo
      · go_wp2_with fail
        go_roundw
        case rel => exact ⟨k + 1, Ar, cr, cs', by omega, by omega, by go_num, by rw [HNC.out], HK4.out.more⟩
        case measure => simp [intOf]; omega
      by_cases l2 : hi < kq
      · go_wp2_with fail
        go_roundw
        case rel => exact ⟨k + 1, Ar, cr, cs', by omega, by omega, by go_num, by rw [HNC.out], HK4.out.more⟩
        case measure => simp [intOf]; omega
      have HNO := Lib.hid (HOK.out w (Below.refl _ _)).no
      have HCP := Lib.hid (copied_any s.o.i0 s.o.i1 s.o.kd s.o.a ⟨s.o.tx.toArray⟩ s.oA s.o.rs.length s.oc s.o.rs s.o.t0 s.o.t1 s.o.on w4 (HOK.out w4 (HB0.out.trans (HBW4.out.mono HB0.out.size))).ro (by have := HNO.out; omega))
      unfold opV at HCP
      have lo4 := HLO.out w4 (Below.refl _ _)
      go_wp2_with fail
      refine HCP.out.mono ?_
      rintro e w5 ⟨⟨gl, cl, rfl, hgl, hcl, hown⟩, hb5⟩
      unfold opV
      have HOWN := Lib.hid (own_weak1 (B' := 0) hown (Nat.zero_le _))
      have HB45 := Lib.hid hb5
      have HGL := Lib.hid (show b < gl by have := HK4.out.lt; omega)
      have hf := Fresh.new w5 (.int .i64 0) (.int .i64 0) (.int .i64 0) (.int .i64 0) (.string ⟨#[]⟩) (.slice none 0 0) (.int .i64 0) (.int .i64 0) (.bool false)
      have x0 : w5.cell? ⟨gs2, 0, none⟩ = some (.int .i64 kq) := by rw [← hkq]; exact HC4.out w5 hb5 0 _ rfl
      clear hown hgl hcl hb5 HCP lo4
      go_upto_region 12 with fail
      obtain ⟨w6, hw6⟩ : ∃ w6, (w5.alloc (.cells #[.int .i64 0, .int .i64 0, .int .i64 0, .int .i64 0, .string ⟨#[]⟩, .slice none 0 0, .int .i64 0, .int .i64 0, .bool false] 47)).setRow w5.heap.size (opC s.o.i0 s.o.i1 s.o.kd s.o.a ⟨s.o.tx.toArray⟩ (.slice (some ⟨gl, 0, none⟩) s.o.rs.length cl) s.o.t0 s.o.t1 s.o.on) = w6 := ⟨_, rfl⟩
      obtain ⟨gq, hgq⟩ : ∃ gq, w5.heap.size = gq := ⟨_, rfl⟩
      have hb6 : Below w5.heap.size w5 w6 := by rw [← hw6]; exact below_setRow (below_alloc1 _ _) (Nat.le_refl _) _
      have hy6 : w6.heap[gq]? = some (.cells (opC s.o.i0 s.o.i1 s.o.kd s.o.a ⟨s.o.tx.toArray⟩ (.slice (some ⟨gl, 0, none⟩) s.o.rs.length cl) s.o.t0 s.o.t1 s.o.on) 47 (0, 0)) := by rw [← hw6, ← hgq]; exact setRow_heap _ _ _ _ _ _ (heap_at rfl)
      unfold opC at hw6
      rw [hw6, hgq]
      have HGQ := Lib.hid (show b < gq by have := HK4.out.lt; have := HB45.out.size; omega)
      have HB46 := Lib.hid (HB45.out.trans (hb6.mono HB45.out.size))
      have HK6 := Lib.hid (HK4.out.step HB46.out)
      have HBW6 := Lib.hid (HBW4.out.trans (HB46.out.mono HBW4.out.size))
      have HBWW6 := Lib.hid (HB0.out.trans (HBW6.out.mono HB0.out.size))
      have HOWN6 := Lib.hid (Rp.own_below HOWN.out hb6)
      have HY6 := Lib.hid hy6
      have HRG6 := Lib.hid (copy_ranges (n := s.o.rs.length) rfl HOWN6.out)
      have x0 : w6.cell? ⟨gs2, 0, none⟩ = some (.int .i64 kq) := by rw [← hkq]; exact HC4.out w6 HB46.out 0 _ rfl
      by_cases h7 : kq = 7
      · obtain rfl : kq = 7 := h7
        obtain ⟨⟨kk, ps, er⟩, hck⟩ : ∃ x, chk s.o.tx = x := ⟨_, rfl⟩
        obtain ⟨xs, hxs⟩ : ∃ xs, er = 0 → s.o.tx = enc xs ∧ kk = xs.length ∧ ∀ r ∈ xs, TxtRune r := by
          by_cases h : er = 0
          · subst h
            obtain ⟨xs, h1, h2, h3⟩ := chk_ok_text hck
            exact ⟨xs, fun _ => ⟨h1, h2, h3⟩⟩
          · exact ⟨[], fun h' => absurd h' h⟩
        have etx : (ByteArray.mk s.o.tx.toArray).data.toList = s.o.tx := by simp
        obtain ⟨E, hEE⟩ : ∃ E, opE s.o.i0 s.o.i1 s.o.kd s.o.a ⟨s.o.tx.toArray⟩ kk er s.o.rs s.o.t0 s.o.t1 s.o.on cs'.length = E := ⟨_, rfl⟩
        obtain ⟨G, cs2, hR⟩ : ∃ G cs2, applyR cs' s.o.i0 s.o.i1 s.o.kd s.o.a ⟨s.o.tx.toArray⟩ kk er s.o.rs s.o.t0 s.o.t1 s.o.on xs = (G, cs2) := ⟨_, _, rfl⟩
        have hcase := apply_cases HK6.out.cok HK6.out.txt (fun h => (hxs h).2) hEE
        simp only [hR, Prod.mk.injEq] at hcase
        have h2 : (∀ c ∈ cs2, TxtRune c.1) ∧ cs2.length ≤ cs'.length + 256 := by
          rcases hcase with ⟨_, _, h⟩ | ⟨_, _, c', ⟨_, h⟩, h', h''⟩ | ⟨_, _, _, (⟨_, _, h⟩ | ⟨_, c', ⟨_, h⟩, h', h''⟩)⟩ | ⟨_, _, _, h⟩
          · rw [h]; exact ⟨HK6.out.txt, by omega⟩
          · rw [h]; exact ⟨h', h''⟩
          · rw [h]; exact ⟨HK6.out.txt, by omega⟩
          · rw [h]; exact ⟨h', h''⟩
          · rw [h]; exact ⟨HK6.out.txt, by omega⟩
        have HTX2 := Lib.hid h2.1
        have HLN2 := Lib.hid (show cs2.length ≤ 400 + 256 * (k + 1) by have := HK6.out.len; have := h2.2; omega)
        have hst8 : (ByteArray.mk s.o.tx.toArray).size ≤ 1048576 := by have := HOK.out w (Below.refl _ _); show s.o.tx.toArray.size ≤ _; simpa using this.so
        have HAP := Lib.hid (Apply_any b cs' s.o.i0 s.o.i1 s.o.kd s.o.a ⟨s.o.tx.toArray⟩ (some ⟨gl, 0, none⟩) s.o.rs.length cl s.o.rs s.o.t0 s.o.t1 s.o.on kk ps er xs (by rw [etx]; exact hck) (by rw [etx]; exact hxs) w6 HK6.out.rope (by unfold maxLen; omega) (by have := HNO.out; omega) HRG6.out (HEN.out.bars.below HBWW6.out))
        have HRA := Lib.hid (fun (W : World) (hW : Below w.heap.size w W) (hC : CellsIn W Ar cs') => rapply_any Ar cr cs' s.o.i0 s.o.i1 s.o.kd s.o.a ⟨s.o.tx.toArray⟩ s.oA s.o.rs.length s.oc s.o.rs s.o.t0 s.o.t1 s.o.on kk ps er xs (by rw [etx]; exact hck) (by rw [etx]; exact hxs) W (by omega) (by have := HNO.out; omega) (HOK.out W hW).ro hC (by have := HK6.out.len; omega) HK6.out.cok)
        rw [hR] at HAP HRA
        rw [HNC.out] at HRA
        unfold opV at HAP HRA
        have lq := ldO_run hy6
        clear hf hw6 hgq hb6 hy6 hcase h2 hR hEE hck hxs etx
        go_wp2_with fail
        refine HAP.out.mono ?_
        rintro e w7 ⟨he, hr7, hg7⟩
        obtain rfl : e = .returned (.int .i64 G) := he
        have HR7 := Lib.hid (show Rope w7 b cs2 from hr7)
        have HB7 := Lib.hid (below_keepB HBW6.out HK6.out.big hg7)
        have HBWW7 := Lib.hid (HB0.out.trans (HB7.out.mono HB0.out.size))
        have HC7 := Lib.hid (cellsIn_rope HK6.out.row HK6.out.rope hg7)
        have HY47 := Lib.hid (show w7.heap[gs2]? = some (.cells s.cells 57 (0, 0)) from (hg7.block _ (Array.getElem?_eq_some_iff.1 ((HB46.out.block _ (Array.getElem?_eq_some_iff.1 HY4.out).1).trans HY4.out)).1 (fun e => by have := HGS.out; have := Option.some.inj e; omega)).trans ((HB46.out.block _ (Array.getElem?_eq_some_iff.1 HY4.out).1).trans HY4.out))
        have HY67 := Lib.hid (show w7.heap[gq]? = some (.cells (opC s.o.i0 s.o.i1 s.o.kd s.o.a ⟨s.o.tx.toArray⟩ (.slice (some ⟨gl, 0, none⟩) s.o.rs.length cl) s.o.t0 s.o.t1 s.o.on) 47 (0, 0)) from (hg7.block _ (Array.getElem?_eq_some_iff.1 HY6.out).1 (fun e => by have := HGQ.out; have := Option.some.inj e; omega)).trans HY6.out)
        have HOWN7 := Lib.hid (own_keepB HOWN6.out (fun e => by have := HGL.out; have := Option.some.inj e; simp only at this; omega) hg7)
        have HRG7 := Lib.hid (copy_ranges (n := s.o.rs.length) rfl HOWN7.out)
        have HC47 := Lib.hid (fun (W : World) (hW : Below w7.heap.size w7 W) (i : Nat) (v : Value) (hv : s.cells[i]? = some v) => (show W.cell? ⟨gs2, i, none⟩ = some v by rw [Lib.cell_of_heap ((hW.block _ (Array.getElem?_eq_some_iff.1 HY47.out).1).trans HY47.out), hv]))
        have HLO7 := Lib.hid (fun (W : World) (hW : Below w7.heap.size w7 W) => ldO_at (o := 1) (HC47.out W hW 1 _ rfl) (HC47.out W hW 2 _ rfl) (HC47.out W hW 3 _ rfl) (HC47.out W hW 4 _ rfl) (HC47.out W hW 5 _ rfl) (HC47.out W hW 6 _ rfl) (HC47.out W hW 7 _ rfl) (HC47.out W hW 8 _ rfl) (HC47.out W hW 9 _ rfl))
        have lo7 := HLO7.out w7 (Below.refl _ _)
        have HRV := Lib.hid (HRA.out w7 HBWW7.out HC7.out)
        clear hr7 hg7 HAP lq x0 HRA
        go_wp2_with fail
        refine HRV.out.mono ?_
        rintro e w8 ⟨⟨A8, c8, he, hci8⟩, hb8⟩
        have he' : e = .returned (.tuple #[.slice A8 cs2.length c8, .int .i64 G]) := he
        subst he'
        have HB8 := Lib.hid hb8
        have HC8 := Lib.hid (show CellsIn w8 A8 cs2 from hci8)
        have HRU := Lib.hid (Runs_any b cs2 w8 (HR7.out.below hb8) HTX2.out)
        have hc2l : cs2.length ≤ 16000 := by have := HLN2.out; omega
        have HNL := Lib.hid hc2l
        clear hci8 hb8 HRV lo7
        go_wp2_with fail
        refine HRU.out.mono ?_
        rintro e w9 ⟨⟨v9, rfl, ho9⟩, hb9⟩
        obtain ⟨A9, c9, rfl, hc9, hpi9⟩ := PcesIn.of_own ho9
        have HP9 := Lib.hid hpi9
        have HB9 := Lib.hid hb9
        have HB89a := Lib.hid hb9
        have HB79 := Lib.hid (HB8.out.trans (hb9.mono HB8.out.size))
        have HRR := Lib.hid (runs_any A8 c8 cs2 w9 (HC8.out.below hb9) (by have := HNL.out; omega))
        clear ho9 hc9 hpi9 hb9 HRU hc2l
        go_wp2_with fail
        refine HRR.out.mono ?_
        rintro e w10 ⟨⟨v10, rfl, ho10⟩, hb10⟩
        obtain ⟨A10, c10, rfl, hc10, hpi10⟩ := PcesIn.of_own ho10
        have HB810 := Lib.hid (HB89a.out.trans (hb10.mono HB89a.out.size))
        have HB710 := Lib.hid (HB79.out.trans (hb10.mono HB79.out.size))
        have HSM := Lib.hid (sameRuns_any A9 A10 c9 c10 (runsL cs2) w10 (by have := runsL_len cs2; have := HNL.out; omega) (HP9.out.below hb10) hpi10)
        clear ho10 hc10 hpi10 hb10 HRR
        go_wp2_with fail
        refine HSM.out.mono ?_
        rintro e w11 ⟨rfl, hb11⟩
        have HB811 := Lib.hid (HB810.out.trans (hb11.mono HB810.out.size))
        have HB711 := Lib.hid (HB710.out.trans (hb11.mono HB710.out.size))
        have HBWW11 := Lib.hid (HBWW7.out.trans (HB711.out.mono HBWW7.out.size))
        have HEQ := Lib.hid (requal_any s.o s.o (some ⟨gl, 0, none⟩) s.oA cl s.oc w11 (by have := HNO.out; omega) (HRG7.out.below HB711.out) (HOK.out w11 HBWW11.out).ro)
        rw [decide_eq_true (rfl : s.o = s.o)] at HEQ
        unfold OpL.val opV at HEQ
        have lq := ldO_run ((HB711.out.block _ (Array.getElem?_eq_some_iff.1 HY67.out).1).trans HY67.out)
        have lo11 := HLO7.out w11 HB711.out
        clear hb11 HSM
        go_wp2_with fail
        refine HEQ.out.mono ?_
        rintro e w12 ⟨rfl, hb12⟩
        have HB89 := Lib.hid (HB811.out.trans (hb12.mono HB811.out.size))
        have HB712 := Lib.hid (HB711.out.trans (hb12.mono HB711.out.size))
        have HSP := Lib.hid (spare_any s.o.i0 s.o.i1 s.o.kd s.o.a ⟨s.o.tx.toArray⟩ gl s.o.rs.length cl s.o.rs s.o.t0 s.o.t1 s.o.on w12 rfl (by have := HNO.out; omega) (Rp.own_below HOWN7.out HB712.out))
        unfold opV at HSP
        have lq := ldO_run ((HB712.out.block _ (Array.getElem?_eq_some_iff.1 HY67.out).1).trans HY67.out)
        clear hb12 HEQ lo11
        go_wp2_with fail
        refine HSP.out.mono ?_
        rintro e w13 ⟨rfl, hb13⟩
        have HB713 := Lib.hid (HB712.out.trans (hb13.mono HB712.out.size))
        have HK13 := Lib.hid (show KI w0 w13 b (k + 1) A8 cs2 from (KI.mk (HR7.out.below HB8.out) HTX2.out HLN2.out (HB7.out.trans (HB8.out.mono HB7.out.size)) HC8.out HK6.out.big).step (HB89.out.trans (hb13.mono HB89.out.size)))
        clear hb13 HSP lq
        go_wp2_with fail
        go_roundw
        case rel => exact ⟨k + 1, A8, c8, cs2, by omega, by omega, by go_num, rfl, HK13.out⟩
        case measure => simp [intOf]; omega
      · skip
        have n7 : (kq == 7) = false := by simpa using h7
        have HAW := Lib.hid (HAS.out s HMEM.out (by omega) (by omega) (by omega))
        have lq := ldO_run hy6
        have ls := ldS_run ((HB46.out.block _ (Array.getElem?_eq_some_iff.1 HY4.out).1).trans HY4.out)
        have HAA := Lib.hid (HAW.out gl cl w6 HBWW6.out (HOK.out w6 HBWW6.out) HRG6.out)
        unfold opV at HAA
        clear hf hw6 hgq hb6 hy6
        go_wp2_with fail
        refine HAA.out.mono ?_
        rintro e w7 ⟨he, hb7⟩
        obtain rfl : e = .returned (.bool true) := he
        have HB67 := Lib.hid hb7
        have HB47 := Lib.hid (HB46.out.trans (hb7.mono HB46.out.size))
        have HBW7 := Lib.hid (HBW6.out.trans (hb7.mono HBW6.out.size))
        have HBWW7 := Lib.hid (HB0.out.trans (HBW7.out.mono HB0.out.size))
        have HEQ := Lib.hid (requal_any s.o s.o (some ⟨gl, 0, none⟩) s.oA cl s.oc w7 (by have := HNO.out; omega) (HRG6.out.below hb7) (HOK.out w7 HBWW7.out).ro)
        rw [decide_eq_true (rfl : s.o = s.o)] at HEQ
        unfold OpL.val opV at HEQ
        have lq := ldO_run ((hb7.block _ (Array.getElem?_eq_some_iff.1 HY6.out).1).trans HY6.out)
        have lo7 := HLO.out w7 HB47.out
        clear hb7 HAA ls
        go_wp2_with fail
        refine HEQ.out.mono ?_
        rintro e w8 ⟨rfl, hb8⟩
        have HB68 := Lib.hid (HB67.out.trans (hb8.mono HB67.out.size))
        have HBW8 := Lib.hid (HBW7.out.trans (hb8.mono HBW7.out.size))
        have HSP := Lib.hid (spare_any s.o.i0 s.o.i1 s.o.kd s.o.a ⟨s.o.tx.toArray⟩ gl s.o.rs.length cl s.o.rs s.o.t0 s.o.t1 s.o.on w8 rfl (by have := HNO.out; omega) (Rp.own_below HOWN6.out HB68.out))
        unfold opV at HSP
        have lq := ldO_run ((HB68.out.block _ (Array.getElem?_eq_some_iff.1 HY6.out).1).trans HY6.out)
        clear hb8 HEQ lo7
        go_wp2_with fail
        refine HSP.out.mono ?_
        rintro e w9 ⟨rfl, hb9⟩
        have HBW9 := Lib.hid (HBW8.out.trans (hb9.mono HBW8.out.size))
        have HK9 := Lib.hid (HK6.out.step (HB68.out.trans (hb9.mono HB68.out.size)))
        clear hb9 HSP lq
        go_wp2_with fail
        go_roundw
        case rel => exact ⟨k + 1, Ar, cr, cs', by omega, by omega, by go_num, by rw [HNC.out], HK9.out.more⟩
        case measure => simp [intOf]; omega
    · have hend : (k < ns ∧ decide ((k : Int) < 60) = false) ∨ ¬ (k : Int) < (ns : Int) := by
        by_cases g1 : k < ns
        · exact .inl ⟨g1, by simp; omega⟩
        · exact .inr (by omega)
      clear hgo
      rcases hend with ⟨g1, g2⟩ | g1
      · have g1' : (k : Int) < (ns : Int) := by omega
        go_wp2_with fail
        go_ret
        exact ⟨rfl, HB0.out.trans (HBW.out.mono HB0.out.size)⟩
      · have g1' : ¬ k < ns := by omega
        go_wp2_with fail
        go_ret
        exact ⟨rfl, HB0.out.trans (HBW.out.mono HB0.out.size)⟩
end
end Go.Proofs.YtkdhomiieenfnaaGreatDoor.K
