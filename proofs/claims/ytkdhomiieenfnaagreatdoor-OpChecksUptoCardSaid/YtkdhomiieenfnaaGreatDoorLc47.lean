/- A whole step loaded and stored, folded. redraftlaw04.kinds, where no step of the kinds is an Apply. -/
import Derived.Test.YtkdhomiieenfnaaGreatDoorLc46
import Derived.Deep.MidRow
import Derived.Test.YtkdhomiieenfnaaGreatDoorLc41
import Derived.Test.YtkdhomiieenfnaaGreatDoorOqT
namespace Go.Proofs.YtkdhomiieenfnaaGreatDoor.K
open Go.RowKit Go.Proofs Go.Proofs.YtkdhomiieenfnaaGreatDoor.U Go.Proofs.YtkdhomiieenfnaaGreatDoor.Txt Go.Proofs.YtkdhomiieenfnaaGreatDoor.O Go.Proofs.YtkdhomiieenfnaaGreatDoor.Rp Go.Proofs.YtkdhomiieenfnaaGreatDoor.Lw
set_option linter.unusedVariables false
set_option linter.unusedSimpArgs false

/-- A box of a step that lies fresh. -/
def FreshS (w : World) (b : Nat) : Prop := ∃ cs : Array Value, w.heap[b]? = some (.cells cs 57 (0, 0)) ∧ cs.size = 21
theorem StepV.size (s : StepV) : s.cells.size = 21 := rfl
theorem info21 : (Tryz.prog.info? 57).map (·.size) = some 21 := by kernel_rfl
def stS (x y : Value) : Sem Unit := Instr.storeAt 57 x y
theorem stS_fold (x y : Value) : Instr.storeAt 57 x y = stS x y := rfl
theorem stS_run {w : World} {b : Nat} (h : FreshS w b) (s : StepV) :
    (stS (.pointer (some ⟨b, 0, none⟩)) (.agg s.cells)).run Tryz.prog w = .ok () (w.setRow b s.cells) := by
  obtain ⟨cs, h1, h2⟩ := h
  have h3 := run_storeCells_at (P := Tryz.prog) b 0 _ s.cells.toList 0 cs w h1 (by simp [h2, StepV.size]) (by
    intro v hv
    simp only [StepV.cells, List.mem_cons, List.not_mem_nil, or_false] at hv
    rcases hv with rfl | rfl | rfl | rfl | rfl | rfl | rfl | rfl | rfl | rfl | rfl | rfl | rfl | rfl | rfl | rfl | rfl | rfl | rfl | rfl | rfl <;> rfl)
  have e1 : cs.toList.drop 21 = [] := List.drop_eq_nil_iff.2 (by simp [h2])
  have h4 : (storeCells ⟨b, 0, none⟩ s.cells.toList).run Tryz.prog w = .ok () (w.setRow b s.cells) := by
    rw [h3]
    have e2 : s.cells.toList.length = 21 := rfl
    simp [e1, e2]
  have hi := info21
  cases hq : Tryz.prog.info? 57 with
  | none => simp [hq] at hi
  | some i =>
    have hs : i.size = 21 := by simpa [hq] using hi
    unfold stS Instr.storeAt
    rw [Sem.run_bind]
    have e1 : (Instr.sureAddr (.pointer (some ⟨b, 0, none⟩))).run Tryz.prog w = .ok ⟨b, 0, none⟩ w := rfl
    rw [e1, Result.andThen_ok]
    simp [storeVar, sizeOf, typeInfo, hq, Value.cells, hs, StepV.size, h4]
def ldS (x : Value) : Sem Value := Instr.loadAt 57 x
theorem ldS_fold (x : Value) : Instr.loadAt 57 x = ldS x := rfl
theorem ldS_at {w : World} {b o : Nat} (s : StepV) (h : ∀ (i : Nat) v, s.cells[i]? = some v → w.cell? ⟨b, o + i, none⟩ = some v) :
    (ldS (.pointer (some ⟨b, o, none⟩))).run Tryz.prog w = .ok (.agg s.cells) w :=
  run_loadAt_mid w b o 57 s.cells.toList _ (fun j v hv => h j v (by simpa using hv)) Tryz.underlying57 rfl info21
theorem ldS_run {w : World} {b : Nat} {s : StepV} (h : w.heap[b]? = some (.cells s.cells 57 (0, 0))) :
    (ldS (.pointer (some ⟨b, 0, none⟩))).run Tryz.prog w = .ok (.agg s.cells) w := ldS_at s fun i v hv => by rw [Nat.zero_add, Lib.cell_of_heap h, hv]
end Go.Proofs.YtkdhomiieenfnaaGreatDoor.K

namespace Go.Proofs.YtkdhomiieenfnaaGreatDoor.K
open Go.RowKit Go.Proofs Go.Proofs.YtkdhomiieenfnaaGreatDoor.U Go.Proofs.YtkdhomiieenfnaaGreatDoor.Txt Go.Proofs.YtkdhomiieenfnaaGreatDoor.O Go.Proofs.YtkdhomiieenfnaaGreatDoor.Rp Go.Proofs.YtkdhomiieenfnaaGreatDoor.Lw
set_option linter.unusedVariables false
set_option linter.unusedSimpArgs false

/-- A script of steps behind a slice. -/
def ScriptIn (w : World) (A : Option Addr) (n : Nat) (St : List StepV) : Prop :=
  n = St.length ∧ n ≤ 17592186044416 ∧ (0 < n → ∃ b off, A = some ⟨b, off, none⟩ ∧ ∀ j (h : j < St.length), (∀ (i : Nat) v, St[j].cells[i]? = some v → w.cell? ⟨b, off + j * 21 + i, none⟩ = some v) ∧ St[j].Ok w)
/-- What asks has to show of one step. -/
def AsksWell (w0 : World) (s : StepV) : Prop := ∀ (gl cl : Nat) (W : World), Below w0.heap.size w0 W → s.Ok W → Ranges W (some ⟨gl, 0, none⟩) s.o.rs.length s.o.rs →
  Calls Tryz.prog 22 #[.agg s.cells, opV s.o.i0 s.o.i1 s.o.kd s.o.a ⟨s.o.tx.toArray⟩ (.slice (some ⟨gl, 0, none⟩) s.o.rs.length cl) s.o.t0 s.o.t1 s.o.on] W (AskRes W)
theorem FreshS.new (w : World) (cs : Array Value) (h : cs.size = 21) : FreshS (w.alloc (.cells cs 57)) w.heap.size := ⟨_, heap_alloc_new w _, h⟩
section
attribute [local go_sem ↓] ldO_fold stO_fold ldS_fold stS_fold
attribute [local go_sem] stO_run stS_run
set_option maxRecDepth 100000 in
set_option maxHeartbeats 8000000 in
theorem kinds_ask (Ac : Option Addr) (nc cc : Nat) (As : Option Addr) (ns cs0 : Nat) (St : List StepV) (lo hi : Int) (w : World) (hC : ReadsC w Ac nc) (hS : ScriptIn w As ns St) (hE : EnvO w) (h7 : hi < 7 ∨ 7 < lo)
    (hA : ∀ s ∈ St, lo ≤ s.kind → s.kind ≤ hi → AsksWell w s) :
    Calls Tryz.prog 9 #[.agg #[.slice Ac nc cc, .slice As ns cs0], .int .i64 lo, .int .i64 hi] w fun e w' => e = .returned (.bool true) ∧ Below w.heap.size w w' := by
  have HS := Lib.hid hS
  have HEN := Lib.hid hE
  have HAS := Lib.hid hA
  have hnsb := hS.2.1
  have H7 := Lib.hid h7
  have HMD := Lib.hid (fun (W : World) (hW : Below w.heap.size w W) => made_any Ac nc cc W ⟨hC.1, fun h0 => by
    obtain ⟨b, off, e, h⟩ := hC.2 h0
    exact ⟨b, off, e, fun j hj => by obtain ⟨r, h', c1, c2⟩ := h j hj; exact ⟨r, h', U.cell_below hW c1, U.cell_below hW c2⟩⟩⟩)
  obtain ⟨w0, hw0⟩ : ∃ w0, w.alloc (.cells #[.slice Ac nc cc, .slice As ns cs0] 25) = w0 := ⟨_, rfl⟩
  have hB0 : Below w.heap.size w w0 := by rw [← hw0]; exact below_alloc1 _ _
  have hy0 : w0.heap[w.heap.size]? = some (.cells #[.slice Ac nc cc, .slice As ns cs0] 25 (0, 0)) := by rw [← hw0]; exact heap_at rfl
  have HW0 := Lib.hid hw0
  clear hC hS hE hw0 hA h7
  obtain ⟨g0, hg0⟩ : ∃ g0, w.heap.size = g0 := ⟨_, rfl⟩
  have HG0 := Lib.hid hg0
  rw [hg0] at hy0
  have HY0 := Lib.hid hy0
  have HB0 := Lib.hid hB0
  have HG0L := Lib.hid (show g0 < w0.heap.size from (Array.getElem?_eq_some_iff.1 hy0).1)
  have HBX := Lib.hid (fun (W : World) (hW : Below w0.heap.size w0 W) => (show W.cell? ⟨g0, 0, none⟩ = some (.slice Ac nc cc) ∧ W.cell? ⟨g0, 1, none⟩ = some (.slice As ns cs0) from
    have e := (hW.block _ HG0L.out).trans HY0.out
    ⟨by rw [Lib.cell_of_heap e]; rfl, by rw [Lib.cell_of_heap e]; rfl⟩))
  have HFX := Lib.hid (opFixed_any w0 (HEN.out.below hB0))
  clear hy0 hB0 hg0
  go_enter Tryz.func9, Tryz.ntmps9
  go_upto_region 1 with fail
  rw [HW0.out, HG0.out]
  go_wp2_with fail
  refine HFX.out.mono ?_
  rintro e w00 ⟨rfl, hb00⟩
  have HB00 := Lib.hid hb00
  have HBW00 := Lib.hid (HB0.out.trans (hb00.mono HB0.out.size))
  obtain ⟨x0, x1⟩ := HBX.out w00 hb00
  clear hb00 HFX
  go_wp2_with fail
  refine (HMD.out _ HBW00.out).mono ?_
  rintro e w1 ⟨⟨v1, cs, rfl, ho1, hl1, hg1⟩, hb1⟩
  obtain ⟨A1, c1, rfl, hc1, hci1⟩ := CellsIn.of_own ho1
  have HB1 := Lib.hid (HBW00.out.trans (hb1.mono HBW00.out.size))
  have HBA1 := Lib.hid (HB00.out.trans (hb1.mono HB00.out.size))
  have HGD := Lib.hid hg1
  have hcl : cs.length ≤ 400 := by omega
  have HR2 := Lib.hid (runs_any A1 c1 cs w1 hci1 (by omega))
  have HCL := Lib.hid hcl
  clear ho1 hl1 hg1 hc1 hci1 hb1 hcl HMD x0 x1
  go_wp2_with fail
  refine HR2.out.mono ?_
  rintro e w2 ⟨⟨v2, rfl, ho2⟩, hb2⟩
  obtain ⟨A2, c2, rfl, hc2, hpi2⟩ := PcesIn.of_own ho2
  have HB2 := Lib.hid (HB1.out.trans (hb2.mono HB1.out.size))
  have HBA2 := Lib.hid (HBA1.out.trans (hb2.mono HBA1.out.size))
  have HF := Lib.hid (from_runs A2 c2 cs w2 hpi2 HGD.out (by have := HCL.out; omega) (HEN.out.bars.below HB2.out))
  clear ho2 hc2 hpi2 hb2 HR2
  go_wp2_with fail
  refine HF.out.mono ?_
  rintro e w3 ⟨⟨b, rfl, hr3, hbg⟩, hb3⟩
  have HB3 := Lib.hid (HB2.out.trans (hb3.mono HB2.out.size))
  have HBA3 := Lib.hid (HBA2.out.trans (hb3.mono HBA2.out.size))
  clear hr3 hb3 hbg HF
  go_wp2_with fail
  go_loopw [11] (fun i wr => ∃ k : Nat, k ≤ ns ∧ k ≤ 60 ∧ i = .int .i64 k ∧ Below w0.heap.size w0 wr) (fun i _ => ns - (intOf i).toNat)
  case atStart => exact ⟨0, Nat.zero_le _, Nat.zero_le _, rfl, HBA3.out⟩
  case round =>
    obtain ⟨k, hk1, hk2, rfl, hbw⟩ := hrel
    have HBW := Lib.hid hbw
    obtain ⟨x0, x1⟩ := HBX.out wr hbw
    clear hbw
    by_cases hgo : k < ns ∧ k < 60
    · obtain ⟨g1, g2⟩ := hgo
      have g1' : (k : Int) < (ns : Int) := by omega
      have g2' : decide ((k : Int) < 60) = true := by simp; omega
      have g0' : (0 : Int) ≤ (k : Int) := by omega
      obtain ⟨gs, off, rfl, hst⟩ := HS.out.2.2 (by omega)
      obtain ⟨hcl, hok⟩ := hst k (by rw [← HS.out.1]; exact g1)
      have hmem := List.getElem_mem (show k < St.length by rw [← HS.out.1]; exact g1)
      obtain ⟨s, hs⟩ : ∃ s, St[k]'(by rw [← HS.out.1]; exact g1) = s := ⟨_, rfl⟩
      rw [hs] at hcl hok hmem
      have HMEM := Lib.hid hmem
      have HBWW := Lib.hid (HB0.out.trans (HBW.out.mono HB0.out.size))
      have ld := ldS_at s (fun i v hv => U.cell_below HBWW.out (hcl i v hv))
      have HOK := Lib.hid (fun (W : World) (hW : Below w.heap.size w W) => hok.below hW)
      have hf := FreshS.new wr #[.int .i64 0, .int .i64 0, .int .i64 0, .int .i64 0, .int .i64 0, .string ⟨#[]⟩, .slice none 0 0, .int .i64 0, .int .i64 0, .bool false, .int .i64 0, .int .i64 0, .int .i64 0, .int .i64 0, .string ⟨#[]⟩, .slice none 0 0, .int .i64 0, .int .i64 0, .bool false, .int .i64 0, .string ⟨#[]⟩] rfl
      clear hst hcl hok hmem hs
      go_upto_region 10 with fail
      obtain ⟨w4, hw4⟩ : ∃ w4, (wr.alloc (.cells #[.int .i64 0, .int .i64 0, .int .i64 0, .int .i64 0, .int .i64 0, .string ⟨#[]⟩, .slice none 0 0, .int .i64 0, .int .i64 0, .bool false, .int .i64 0, .int .i64 0, .int .i64 0, .int .i64 0, .string ⟨#[]⟩, .slice none 0 0, .int .i64 0, .int .i64 0, .bool false, .int .i64 0, .string ⟨#[]⟩] 57)).setRow wr.heap.size s.cells = w4 := ⟨_, rfl⟩
      obtain ⟨gs2, hgs2⟩ : ∃ gs2, wr.heap.size = gs2 := ⟨_, rfl⟩
      have hb4 : Below wr.heap.size wr w4 := by rw [← hw4]; exact below_setRow (below_alloc1 _ _) (Nat.le_refl _) _
      have hy4 : w4.heap[gs2]? = some (.cells s.cells 57 (0, 0)) := by rw [← hw4, ← hgs2]; exact setRow_heap _ _ _ _ _ _ (heap_at rfl)
      rw [hw4, hgs2]
      have HBW4 := Lib.hid (HBW.out.trans (hb4.mono HBW.out.size))
      have HY4 := Lib.hid hy4
      have x0 : w4.cell? ⟨gs2, 0, none⟩ = some (.int .i64 s.kind) := by rw [Lib.cell_of_heap hy4]; rfl
      have HC4 := Lib.hid (fun (W : World) (hW : Below w4.heap.size w4 W) (i : Nat) (v : Value) (hv : s.cells[i]? = some v) => (show W.cell? ⟨gs2, i, none⟩ = some v by rw [Lib.cell_of_heap ((hW.block _ (Array.getElem?_eq_some_iff.1 HY4.out).1).trans HY4.out), hv]))
      have ldo := (fun (W : World) (hW : Below w4.heap.size w4 W) => ldO_at (o := 1) (HC4.out W hW 1 _ rfl) (HC4.out W hW 2 _ rfl) (HC4.out W hW 3 _ rfl) (HC4.out W hW 4 _ rfl) (HC4.out W hW 5 _ rfl) (HC4.out W hW 6 _ rfl) (HC4.out W hW 7 _ rfl) (HC4.out W hW 8 _ rfl) (HC4.out W hW 9 _ rfl))
      have HLO := Lib.hid ldo
      clear ld hf hw4 hgs2 hb4 hy4 ldo x1
      obtain ⟨kq, hkq⟩ : ∃ kq, s.kind = kq := ⟨_, rfl⟩
      rw [hkq] at x0
      by_cases l1 : kq < lo
      · go_wp2_with fail
        go_roundw
        case rel => exact ⟨k + 1, by omega, by omega, by go_num, HBW4.out⟩
        case measure => simp [intOf]; omega
      by_cases l2 : hi < kq
      · go_wp2_with fail
        go_roundw
        case rel => exact ⟨k + 1, by omega, by omega, by go_num, HBW4.out⟩
        case measure => simp [intOf]; omega
      have HAW := Lib.hid (HAS.out s HMEM.out (by omega) (by omega))
      have n7 : (kq == 7) = false := by have := H7.out; simp; omega
      have HNO := Lib.hid (HOK.out w (Below.refl _ _)).no
      have HCP := Lib.hid (copied_any s.o.i0 s.o.i1 s.o.kd s.o.a ⟨s.o.tx.toArray⟩ s.oA s.o.rs.length s.oc s.o.rs s.o.t0 s.o.t1 s.o.on w4 (HOK.out w4 (HB0.out.trans (HBW4.out.mono HB0.out.size))).ro (by have := HNO.out; omega))
      unfold opV at HCP
      have lo4 := HLO.out w4 (Below.refl _ _)
      go_wp2_with fail
      refine HCP.out.mono ?_
      rintro e w5 ⟨⟨gl, cl, rfl, hgl, hcl, hown⟩, hb5⟩
      unfold opV
      have HOWN := Lib.hid (own_weak1 (B' := 0) hown (Nat.zero_le _))
      have HB45 := Lib.hid hb5
      have hf := Fresh.new w5 (.int .i64 0) (.int .i64 0) (.int .i64 0) (.int .i64 0) (.string ⟨#[]⟩) (.slice none 0 0) (.int .i64 0) (.int .i64 0) (.bool false)
      have x0 : w5.cell? ⟨gs2, 0, none⟩ = some (.int .i64 kq) := by rw [← hkq]; exact HC4.out w5 hb5 0 _ rfl
      clear hown hgl hcl hb5 HCP lo4
      go_upto_region 12 with fail
      obtain ⟨w6, hw6⟩ : ∃ w6, (w5.alloc (.cells #[.int .i64 0, .int .i64 0, .int .i64 0, .int .i64 0, .string ⟨#[]⟩, .slice none 0 0, .int .i64 0, .int .i64 0, .bool false] 47)).setRow w5.heap.size (opC s.o.i0 s.o.i1 s.o.kd s.o.a ⟨s.o.tx.toArray⟩ (.slice (some ⟨gl, 0, none⟩) s.o.rs.length cl) s.o.t0 s.o.t1 s.o.on) = w6 := ⟨_, rfl⟩
      obtain ⟨gq, hgq⟩ : ∃ gq, w5.heap.size = gq := ⟨_, rfl⟩
      have hb6 : Below w5.heap.size w5 w6 := by rw [← hw6]; exact below_setRow (below_alloc1 _ _) (Nat.le_refl _) _
      have hy6 : w6.heap[gq]? = some (.cells (opC s.o.i0 s.o.i1 s.o.kd s.o.a ⟨s.o.tx.toArray⟩ (.slice (some ⟨gl, 0, none⟩) s.o.rs.length cl) s.o.t0 s.o.t1 s.o.on) 47 (0, 0)) := by rw [← hw6, ← hgq]; exact setRow_heap _ _ _ _ _ _ (heap_at rfl)
      unfold opC at hw6
      rw [hw6, hgq]
      have HB46 := Lib.hid (HB45.out.trans (hb6.mono HB45.out.size))
      have HBW6 := Lib.hid (HBW4.out.trans (HB46.out.mono HBW4.out.size))
      have HBWW6 := Lib.hid (HB0.out.trans (HBW6.out.mono HB0.out.size))
      have HOWN6 := Lib.hid (Rp.own_below HOWN.out hb6)
      have HY6 := Lib.hid hy6
      have HRG6 := Lib.hid (copy_ranges (n := s.o.rs.length) rfl HOWN6.out)
      have x0 : w6.cell? ⟨gs2, 0, none⟩ = some (.int .i64 kq) := by rw [← hkq]; exact HC4.out w6 HB46.out 0 _ rfl
      have lq := ldO_run hy6
      have ls := ldS_run ((HB46.out.block _ (Array.getElem?_eq_some_iff.1 HY4.out).1).trans HY4.out)
      have HAA := Lib.hid (HAW.out gl cl w6 HBWW6.out (HOK.out w6 HBWW6.out) HRG6.out)
      unfold opV at HAA
      clear hf hw6 hgq hb6 hy6
      go_wp2_with fail
      refine HAA.out.mono ?_
      rintro e w7 ⟨he, hb7⟩
      obtain rfl : e = .returned (.bool true) := he
      have HB67 := Lib.hid hb7
      have HB47 := Lib.hid (HB46.out.trans (hb7.mono HB46.out.size))
      have HBW7 := Lib.hid (HBW6.out.trans (hb7.mono HBW6.out.size))
      have HBWW7 := Lib.hid (HB0.out.trans (HBW7.out.mono HB0.out.size))
      have HEQ := Lib.hid (requal_any s.o s.o (some ⟨gl, 0, none⟩) s.oA cl s.oc w7 (by have := HNO.out; omega) (HRG6.out.below hb7) (HOK.out w7 HBWW7.out).ro)
      rw [decide_eq_true (rfl : s.o = s.o)] at HEQ
      unfold OpL.val opV at HEQ
      have lq := ldO_run ((hb7.block _ (Array.getElem?_eq_some_iff.1 HY6.out).1).trans HY6.out)
      have lo7 := HLO.out w7 HB47.out
      clear hb7 HAA ls
      go_wp2_with fail
      refine HEQ.out.mono ?_
      rintro e w8 ⟨rfl, hb8⟩
      have HB68 := Lib.hid (HB67.out.trans (hb8.mono HB67.out.size))
      have HBW8 := Lib.hid (HBW7.out.trans (hb8.mono HBW7.out.size))
      have HSP := Lib.hid (spare_any s.o.i0 s.o.i1 s.o.kd s.o.a ⟨s.o.tx.toArray⟩ gl s.o.rs.length cl s.o.rs s.o.t0 s.o.t1 s.o.on w8 rfl (by have := HNO.out; omega) (Rp.own_below HOWN6.out HB68.out))
      unfold opV at HSP
      have lq := ldO_run ((HB68.out.block _ (Array.getElem?_eq_some_iff.1 HY6.out).1).trans HY6.out)
      clear hb8 HEQ lo7
      go_wp2_with fail
      refine HSP.out.mono ?_
      rintro e w9 ⟨rfl, hb9⟩
      have HBW9 := Lib.hid (HBW8.out.trans (hb9.mono HBW8.out.size))
      clear hb9 HSP lq
      go_wp2_with fail
      go_roundw
      case rel => exact ⟨k + 1, by omega, by omega, by go_num, HBW9.out⟩
      case measure => simp [intOf]; omega
    · have hend : (k < ns ∧ decide ((k : Int) < 60) = false) ∨ ¬ (k : Int) < (ns : Int) := by
        by_cases g1 : k < ns
        · exact .inl ⟨g1, by simp; omega⟩
        · exact .inr (by omega)
      clear hgo
      rcases hend with ⟨g1, g2⟩ | g1
      · have g1' : (k : Int) < (ns : Int) := by omega
        go_wp2_with fail
        go_ret
        exact ⟨rfl, HB0.out.trans (HBW.out.mono HB0.out.size)⟩
      · have g1' : ¬ k < ns := by omega
        go_wp2_with fail
        go_ret
        exact ⟨rfl, HB0.out.trans (HBW.out.mono HB0.out.size)⟩
end
end Go.Proofs.YtkdhomiieenfnaaGreatDoor.K
