/- A whole step loaded and stored, folded. redraftlaw04.kinds, where no step of the kinds is an Apply. The reference's Ranges, Covers. The reference's Inverse. asks at Covers, Equal, Clone and Inverse. -/
import Derived.Test.YtkdhomiieenfnaaGreatDoorLs45
import Derived.Deep.MidRow
import Derived.Test.YtkdhomiieenfnaaGreatDoorLs40
import Derived.Test.YtkdhomiieenfnaaGreatDoorOqT
import Derived.Test.YtkdhomiieenfnaaGreatDoorLs46
import Derived.Test.YtkdhomiieenfnaaGreatDoorLs42
namespace Go.Proofs.YtkdhomiieenfnaaGreatDoor.K
open Go.RowKit Go.Proofs Go.Proofs.YtkdhomiieenfnaaGreatDoor.U Go.Proofs.YtkdhomiieenfnaaGreatDoor.Txt Go.Proofs.YtkdhomiieenfnaaGreatDoor.O Go.Proofs.YtkdhomiieenfnaaGreatDoor.Rp Go.Proofs.YtkdhomiieenfnaaGreatDoor.Lw
set_option linter.unusedVariables false
set_option linter.unusedSimpArgs false

/-- A box of a step that lies fresh. -/
def FreshS (w : World) (b : Nat) : Prop := ∃ cs : Array Value, w.heap[b]? = some (.cells cs 57 (0, 0)) ∧ cs.size = 21
theorem StepV.size (s : StepV) : s.cells.size = 21 := rfl
theorem info21 : (Tryz.prog.info? 57).map (·.size) = some 21 := by kernel_rfl
def stS (x y : Value) : Sem Unit := Instr.storeAt 57 x y
theorem stS_fold (x y : Value) : Instr.storeAt 57 x y = stS x y := rfl
theorem stS_run {w : World} {b : Nat} (h : FreshS w b) (s : StepV) :
    (stS (.pointer (some ⟨b, 0, none⟩)) (.agg s.cells)).run Tryz.prog w = .ok () (w.setRow b s.cells) := by
  obtain ⟨cs, h1, h2⟩ := h
  have h3 := run_storeCells_at (P := Tryz.prog) b 0 _ s.cells.toList 0 cs w h1 (by simp [h2, StepV.size]) (by
    intro v hv
    simp only [StepV.cells, List.mem_cons, List.not_mem_nil, or_false] at hv
    rcases hv with rfl | rfl | rfl | rfl | rfl | rfl | rfl | rfl | rfl | rfl | rfl | rfl | rfl | rfl | rfl | rfl | rfl | rfl | rfl | rfl | rfl <;> rfl)
  have e1 : cs.toList.drop 21 = [] := List.drop_eq_nil_iff.2 (by simp [h2])
  have h4 : (storeCells ⟨b, 0, none⟩ s.cells.toList).run Tryz.prog w = .ok () (w.setRow b s.cells) := by
    rw [h3]
    have e2 : s.cells.toList.length = 21 := rfl
    simp [e1, e2]
  have hi := info21
  cases hq : Tryz.prog.info? 57 with
  | none => simp [hq] at hi
  | some i =>
    have hs : i.size = 21 := by simpa [hq] using hi
    unfold stS Instr.storeAt
    rw [Sem.run_bind]
    have e1 : (Instr.sureAddr (.pointer (some ⟨b, 0, none⟩))).run Tryz.prog w = .ok ⟨b, 0, none⟩ w := rfl
    rw [e1, Result.andThen_ok]
    simp [storeVar, sizeOf, typeInfo, hq, Value.cells, hs, StepV.size, h4]
def ldS (x : Value) : Sem Value := Instr.loadAt 57 x
theorem ldS_fold (x : Value) : Instr.loadAt 57 x = ldS x := rfl
theorem ldS_at {w : World} {b o : Nat} (s : StepV) (h : ∀ (i : Nat) v, s.cells[i]? = some v → w.cell? ⟨b, o + i, none⟩ = some v) :
    (ldS (.pointer (some ⟨b, o, none⟩))).run Tryz.prog w = .ok (.agg s.cells) w :=
  run_loadAt_mid w b o 57 s.cells.toList _ (fun j v hv => h j v (by simpa using hv)) Tryz.underlying57 rfl info21
theorem ldS_run {w : World} {b : Nat} {s : StepV} (h : w.heap[b]? = some (.cells s.cells 57 (0, 0))) :
    (ldS (.pointer (some ⟨b, 0, none⟩))).run Tryz.prog w = .ok (.agg s.cells) w := ldS_at s fun i v hv => by rw [Nat.zero_add, Lib.cell_of_heap h, hv]
end Go.Proofs.YtkdhomiieenfnaaGreatDoor.K

namespace Go.Proofs.YtkdhomiieenfnaaGreatDoor.K
open Go.RowKit Go.Proofs Go.Proofs.YtkdhomiieenfnaaGreatDoor.U Go.Proofs.YtkdhomiieenfnaaGreatDoor.Txt Go.Proofs.YtkdhomiieenfnaaGreatDoor.O Go.Proofs.YtkdhomiieenfnaaGreatDoor.Rp Go.Proofs.YtkdhomiieenfnaaGreatDoor.Lw
set_option linter.unusedVariables false
set_option linter.unusedSimpArgs false

/-- A script of steps behind a slice. -/
def ScriptIn (w : World) (A : Option Addr) (n : Nat) (St : List StepV) : Prop :=
  n = St.length ∧ n ≤ 17592186044416 ∧ (0 < n → ∃ b off, A = some ⟨b, off, none⟩ ∧ ∀ j (h : j < St.length), (∀ (i : Nat) v, St[j].cells[i]? = some v → w.cell? ⟨b, off + j * 21 + i, none⟩ = some v) ∧ St[j].Ok w)
/-- What asks has to show of one step. -/
def AsksWell (w0 : World) (s : StepV) : Prop := ∀ (gl cl : Nat) (W : World), Below w0.heap.size w0 W → s.Ok W → Ranges W (some ⟨gl, 0, none⟩) s.o.rs.length s.o.rs →
  Calls Tryz.prog 22 #[.agg s.cells, opV s.o.i0 s.o.i1 s.o.kd s.o.a ⟨s.o.tx.toArray⟩ (.slice (some ⟨gl, 0, none⟩) s.o.rs.length cl) s.o.t0 s.o.t1 s.o.on] W (AskRes W)
theorem FreshS.new (w : World) (cs : Array Value) (h : cs.size = 21) : FreshS (w.alloc (.cells cs 57)) w.heap.size := ⟨_, heap_alloc_new w _, h⟩
section
attribute [local go_sem ↓] ldO_fold stO_fold ldS_fold stS_fold
attribute [local go_sem] stO_run stS_run
set_option maxRecDepth 100000 in
set_option maxHeartbeats 8000000 in
theorem kinds_ask (Ac : Option Addr) (nc cc : Nat) (As : Option Addr) (ns cs0 : Nat) (St : List StepV) (lo hi : Int) (w : World) (hC : ReadsC w Ac nc) (hS : ScriptIn w As ns St) (hE : EnvO w) (h7 : hi < 7 ∨ 7 < lo)
    (hA : ∀ s ∈ St, lo ≤ s.kind → s.kind ≤ hi → AsksWell w s) :
    Calls Tryz.prog 9 #[.agg #[.slice Ac nc cc, .slice As ns cs0], .int .i64 lo, .int .i64 hi] w fun e w' => e = .returned (.bool true) ∧ Below w.heap.size w w' := by
  have HS := Lib.hid hS
  have HEN := Lib.hid hE
  have HAS := Lib.hid hA
  have hnsb := hS.2.1
  have H7 := Lib.hid h7
  have HMD := Lib.hid (fun (W : World) (hW : Below w.heap.size w W) => made_any Ac nc cc W ⟨hC.1, fun h0 => by
    obtain ⟨b, off, e, h⟩ := hC.2 h0
    exact ⟨b, off, e, fun j hj => by obtain ⟨r, h', c1, c2⟩ := h j hj; exact ⟨r, h', U.cell_below hW c1, U.cell_below hW c2⟩⟩⟩)
  obtain ⟨w0, hw0⟩ : ∃ w0, w.alloc (.cells #[.slice Ac nc cc, .slice As ns cs0] 25) = w0 := ⟨_, rfl⟩
  have hB0 : Below w.heap.size w w0 := by rw [← hw0]; exact below_alloc1 _ _
  have hy0 : w0.heap[w.heap.size]? = some (.cells #[.slice Ac nc cc, .slice As ns cs0] 25 (0, 0)) := by rw [← hw0]; exact heap_at rfl
  have HW0 := Lib.hid hw0
  clear hC hS hE hw0 hA h7
  obtain ⟨g0, hg0⟩ : ∃ g0, w.heap.size = g0 := ⟨_, rfl⟩
  have HG0 := Lib.hid hg0
  rw [hg0] at hy0
  have HY0 := Lib.hid hy0
  have HB0 := Lib.hid hB0
  have HG0L := Lib.hid (show g0 < w0.heap.size from (Array.getElem?_eq_some_iff.1 hy0).1)
  have HBX := Lib.hid (fun (W : World) (hW : Below w0.heap.size w0 W) => (show W.cell? ⟨g0, 0, none⟩ = some (.slice Ac nc cc) ∧ W.cell? ⟨g0, 1, none⟩ = some (.slice As ns cs0) from
    have e := (hW.block _ HG0L.out).trans HY0.out
    ⟨by rw [Lib.cell_of_heap e]; rfl, by rw [Lib.cell_of_heap e]; rfl⟩))
  have HFX := Lib.hid (opFixed_any w0 (HEN.out.below hB0))
  clear hy0 hB0 hg0
  go_enter Tryz.func9, Tryz.ntmps9
  go_upto_region 1 with fail
  rw [HW0.out, HG0.out]
  go_wp2_with fail
  refine HFX.out.mono ?_
  rintro e w00 ⟨rfl, hb00⟩
  have HB00 := Lib.hid hb00
  have HBW00 := Lib.hid (HB0.out.trans (hb00.mono HB0.out.size))
  obtain ⟨x0, x1⟩ := HBX.out w00 hb00
  clear hb00 HFX
  go_wp2_with fail
  refine (HMD.out _ HBW00.out).mono ?_
  rintro e w1 ⟨⟨v1, cs, rfl, ho1, hl1, hg1⟩, hb1⟩
  obtain ⟨A1, c1, rfl, hc1, hci1⟩ := CellsIn.of_own ho1
  have HB1 := Lib.hid (HBW00.out.trans (hb1.mono HBW00.out.size))
  have HBA1 := Lib.hid (HB00.out.trans (hb1.mono HB00.out.size))
  have HGD := Lib.hid hg1
  have hcl : cs.length ≤ 400 := by omega
  have HR2 := Lib.hid (runs_any A1 c1 cs w1 hci1 (by omega))
  have HCL := Lib.hid hcl
  clear ho1 hl1 hg1 hc1 hci1 hb1 hcl HMD x0 x1
  go_wp2_with fail
  refine HR2.out.mono ?_
  rintro e w2 ⟨⟨v2, rfl, ho2⟩, hb2⟩
  obtain ⟨A2, c2, rfl, hc2, hpi2⟩ := PcesIn.of_own ho2
  have HB2 := Lib.hid (HB1.out.trans (hb2.mono HB1.out.size))
  have HBA2 := Lib.hid (HBA1.out.trans (hb2.mono HBA1.out.size))
  have HF := Lib.hid (from_runs A2 c2 cs w2 hpi2 HGD.out (by have := HCL.out; omega) (HEN.out.bars.below HB2.out))
  clear ho2 hc2 hpi2 hb2 HR2
  go_wp2_with fail
  refine HF.out.mono ?_
  rintro e w3 ⟨⟨b, rfl, hr3, hbg⟩, hb3⟩
  have HB3 := Lib.hid (HB2.out.trans (hb3.mono HB2.out.size))
  have HBA3 := Lib.hid (HBA2.out.trans (hb3.mono HBA2.out.size))
  clear hr3 hb3 hbg HF
  go_wp2_with fail
  go_loopw [11] (fun i wr => ∃ k : Nat, k ≤ ns ∧ k ≤ 60 ∧ i = .int .i64 k ∧ Below w0.heap.size w0 wr) (fun i _ => ns - (intOf i).toNat)
  case atStart => exact ⟨0, Nat.zero_le _, Nat.zero_le _, rfl, HBA3.out⟩
  case round =>
    obtain ⟨k, hk1, hk2, rfl, hbw⟩ := hrel
    have HBW := Lib.hid hbw
    obtain ⟨x0, x1⟩ := HBX.out wr hbw
    clear hbw
    by_cases hgo : k < ns ∧ k < 60
    · obtain ⟨g1, g2⟩ := hgo
      have g1' : (k : Int) < (ns : Int) := by omega
      have g2' : decide ((k : Int) < 60) = true := by simp; omega
      have g0' : (0 : Int) ≤ (k : Int) := by omega
      obtain ⟨gs, off, rfl, hst⟩ := HS.out.2.2 (by omega)
      obtain ⟨hcl, hok⟩ := hst k (by rw [← HS.out.1]; exact g1)
      have hmem := List.getElem_mem (show k < St.length by rw [← HS.out.1]; exact g1)
      obtain ⟨s, hs⟩ : ∃ s, St[k]'(by rw [← HS.out.1]; exact g1) = s := ⟨_, rfl⟩
      rw [hs] at hcl hok hmem
      have HMEM := Lib.hid hmem
      have HBWW := Lib.hid (HB0.out.trans (HBW.out.mono HB0.out.size))
      have ld := ldS_at s (fun i v hv => U.cell_below HBWW.out (hcl i v hv))
      have HOK := Lib.hid (fun (W : World) (hW : Below w.heap.size w W) => hok.below hW)
      have hf := FreshS.new wr #[.int .i64 0, .int .i64 0, .int .i64 0, .int .i64 0, .int .i64 0, .string ⟨#[]⟩, .slice none 0 0, .int .i64 0, .int .i64 0, .bool false, .int .i64 0, .int .i64 0, .int .i64 0, .int .i64 0, .string ⟨#[]⟩, .slice none 0 0, .int .i64 0, .int .i64 0, .bool false, .int .i64 0, .string ⟨#[]⟩] rfl
      clear hst hcl hok hmem hs
      go_upto_region 10 with fail
      obtain ⟨w4, hw4⟩ : ∃ w4, (wr.alloc (.cells #[.int .i64 0, .int .i64 0, .int .i64 0, .int .i64 0, .int .i64 0, .string ⟨#[]⟩, .slice none 0 0, .int .i64 0, .int .i64 0, .bool false, .int .i64 0, .int .i64 0, .int .i64 0, .int .i64 0, .string ⟨#[]⟩, .slice none 0 0, .int .i64 0, .int .i64 0, .bool false, .int .i64 0, .string ⟨#[]⟩] 57)).setRow wr.heap.size s.cells = w4 := ⟨_, rfl⟩
      obtain ⟨gs2, hgs2⟩ : ∃ gs2, wr.heap.size = gs2 := ⟨_, rfl⟩
      have hb4 : Below wr.heap.size wr w4 := by rw [← hw4]; exact below_setRow (below_alloc1 _ _) (Nat.le_refl _) _
      have hy4 : w4.heap[gs2]? = some (.cells s.cells 57 (0, 0)) := by rw [← hw4, ← hgs2]; exact setRow_heap _ _ _ _ _ _ (heap_at rfl)
      rw [hw4, hgs2]
      have HBW4 := Lib.hid (HBW.out.trans (hb4.mono HBW.out.size))
      have HY4 := Lib.hid hy4
      have x0 : w4.cell? ⟨gs2, 0, none⟩ = some (.int .i64 s.kind) := by rw [Lib.cell_of_heap hy4]; rfl
      have HC4 := Lib.hid (fun (W : World) (hW : Below w4.heap.size w4 W) (i : Nat) (v : Value) (hv : s.cells[i]? = some v) => (show W.cell? ⟨gs2, i, none⟩ = some v by rw [Lib.cell_of_heap ((hW.block _ (Array.getElem?_eq_some_iff.1 HY4.out).1).trans HY4.out), hv]))
      have ldo := (fun (W : World) (hW : Below w4.heap.size w4 W) => ldO_at (o := 1) (HC4.out W hW 1 _ rfl) (HC4.out W hW 2 _ rfl) (HC4.out W hW 3 _ rfl) (HC4.out W hW 4 _ rfl) (HC4.out W hW 5 _ rfl) (HC4.out W hW 6 _ rfl) (HC4.out W hW 7 _ rfl) (HC4.out W hW 8 _ rfl) (HC4.out W hW 9 _ rfl))
      have HLO := Lib.hid ldo
      clear ld hf hw4 hgs2 hb4 hy4 ldo x1
      obtain ⟨kq, hkq⟩ : ∃ kq, s.kind = kq := ⟨_, rfl⟩
      rw [hkq] at x0
      by_cases l1 : kq < lo
      · go_wp2_with fail
        go_roundw
        case rel => exact ⟨k + 1, by omega, by omega, by go_num, HBW4.out⟩
        case measure => simp [intOf]; omega
      by_cases l2 : hi < kq
      · go_wp2_with fail
        go_roundw
        case rel => exact ⟨k + 1, by omega, by omega, by go_num, HBW4.out⟩
        case measure => simp [intOf]; omega
      have HAW := Lib.hid (HAS.out s HMEM.out (by omega) (by omega))
      have n7 : (kq == 7) = false := by have := H7.out; simp; omega
      have HNO := Lib.hid (HOK.out w (Below.refl _ _)).no
      have HCP := Lib.hid (copied_any s.o.i0 s.o.i1 s.o.kd s.o.a ⟨s.o.tx.toArray⟩ s.oA s.o.rs.length s.oc s.o.rs s.o.t0 s.o.t1 s.o.on w4 (HOK.out w4 (HB0.out.trans (HBW4.out.mono HB0.out.size))).ro (by have := HNO.out; omega))
      unfold opV at HCP
      have lo4 := HLO.out w4 (Below.refl _ _)
      go_wp2_with fail
      refine HCP.out.mono ?_
      rintro e w5 ⟨⟨gl, cl, rfl, hgl, hcl, hown⟩, hb5⟩
      unfold opV
      have HOWN := Lib.hid (own_weak1 (B' := 0) hown (Nat.zero_le _))
      have HB45 := Lib.hid hb5
      have hf := Fresh.new w5 (.int .i64 0) (.int .i64 0) (.int .i64 0) (.int .i64 0) (.string ⟨#[]⟩) (.slice none 0 0) (.int .i64 0) (.int .i64 0) (.bool false)
      have x0 : w5.cell? ⟨gs2, 0, none⟩ = some (.int .i64 kq) := by rw [← hkq]; exact HC4.out w5 hb5 0 _ rfl
      clear hown hgl hcl hb5 HCP lo4
      go_upto_region 12 with fail
      obtain ⟨w6, hw6⟩ : ∃ w6, (w5.alloc (.cells #[.int .i64 0, .int .i64 0, .int .i64 0, .int .i64 0, .string ⟨#[]⟩, .slice none 0 0, .int .i64 0, .int .i64 0, .bool false] 47)).setRow w5.heap.size (opC s.o.i0 s.o.i1 s.o.kd s.o.a ⟨s.o.tx.toArray⟩ (.slice (some ⟨gl, 0, none⟩) s.o.rs.length cl) s.o.t0 s.o.t1 s.o.on) = w6 := ⟨_, rfl⟩
      obtain ⟨gq, hgq⟩ : ∃ gq, w5.heap.size = gq := ⟨_, rfl⟩
      have hb6 : Below w5.heap.size w5 w6 := by rw [← hw6]; exact below_setRow (below_alloc1 _ _) (Nat.le_refl _) _
      have hy6 : w6.heap[gq]? = some (.cells (opC s.o.i0 s.o.i1 s.o.kd s.o.a ⟨s.o.tx.toArray⟩ (.slice (some ⟨gl, 0, none⟩) s.o.rs.length cl) s.o.t0 s.o.t1 s.o.on) 47 (0, 0)) := by rw [← hw6, ← hgq]; exact setRow_heap _ _ _ _ _ _ (heap_at rfl)
      unfold opC at hw6
      rw [hw6, hgq]
      have HB46 := Lib.hid (HB45.out.trans (hb6.mono HB45.out.size))
      have HBW6 := Lib.hid (HBW4.out.trans (HB46.out.mono HBW4.out.size))
      have HBWW6 := Lib.hid (HB0.out.trans (HBW6.out.mono HB0.out.size))
      have HOWN6 := Lib.hid (Rp.own_below HOWN.out hb6)
      have HY6 := Lib.hid hy6
      have HRG6 := Lib.hid (copy_ranges (n := s.o.rs.length) rfl HOWN6.out)
      have x0 : w6.cell? ⟨gs2, 0, none⟩ = some (.int .i64 kq) := by rw [← hkq]; exact HC4.out w6 HB46.out 0 _ rfl
      have lq := ldO_run hy6
      have ls := ldS_run ((HB46.out.block _ (Array.getElem?_eq_some_iff.1 HY4.out).1).trans HY4.out)
      have HAA := Lib.hid (HAW.out gl cl w6 HBWW6.out (HOK.out w6 HBWW6.out) HRG6.out)
      unfold opV at HAA
      clear hf hw6 hgq hb6 hy6
      go_wp2_with fail
      refine HAA.out.mono ?_
      rintro e w7 ⟨he, hb7⟩
      obtain rfl : e = .returned (.bool true) := he
      have HB67 := Lib.hid hb7
      have HB47 := Lib.hid (HB46.out.trans (hb7.mono HB46.out.size))
      have HBW7 := Lib.hid (HBW6.out.trans (hb7.mono HBW6.out.size))
      have HBWW7 := Lib.hid (HB0.out.trans (HBW7.out.mono HB0.out.size))
      have HEQ := Lib.hid (requal_any s.o s.o (some ⟨gl, 0, none⟩) s.oA cl s.oc w7 (by have := HNO.out; omega) (HRG6.out.below hb7) (HOK.out w7 HBWW7.out).ro)
      rw [decide_eq_true (rfl : s.o = s.o)] at HEQ
      unfold OpL.val opV at HEQ
      have lq := ldO_run ((hb7.block _ (Array.getElem?_eq_some_iff.1 HY6.out).1).trans HY6.out)
      have lo7 := HLO.out w7 HB47.out
      clear hb7 HAA ls
      go_wp2_with fail
      refine HEQ.out.mono ?_
      rintro e w8 ⟨rfl, hb8⟩
      have HB68 := Lib.hid (HB67.out.trans (hb8.mono HB67.out.size))
      have HBW8 := Lib.hid (HBW7.out.trans (hb8.mono HBW7.out.size))
      have HSP := Lib.hid (spare_any s.o.i0 s.o.i1 s.o.kd s.o.a ⟨s.o.tx.toArray⟩ gl s.o.rs.length cl s.o.rs s.o.t0 s.o.t1 s.o.on w8 rfl (by have := HNO.out; omega) (Rp.own_below HOWN6.out HB68.out))
      unfold opV at HSP
      have lq := ldO_run ((HB68.out.block _ (Array.getElem?_eq_some_iff.1 HY6.out).1).trans HY6.out)
      clear hb8 HEQ lo7
      go_wp2_with fail
      refine HSP.out.mono ?_
      rintro e w9 ⟨rfl, hb9⟩
      have HBW9 := Lib.hid (HBW8.out.trans (hb9.mono HBW8.out.size))
      clear hb9 HSP lq
      go_wp2_with fail
      go_roundw
      case rel => exact ⟨k + 1, by omega, by omega, by go_num, HBW9.out⟩
      case measure => simp [intOf]; omega
    · have hend : (k < ns ∧ decide ((k : Int) < 60) = false) ∨ ¬ (k : Int) < (ns : Int) := by
        by_cases g1 : k < ns
        · exact .inl ⟨g1, by simp; omega⟩
        · exact .inr (by omega)
      clear hgo
      rcases hend with ⟨g1, g2⟩ | g1
      · have g1' : (k : Int) < (ns : Int) := by omega
        go_wp2_with fail
        go_ret
        exact ⟨rfl, HB0.out.trans (HBW.out.mono HB0.out.size)⟩
      · have g1' : ¬ k < ns := by omega
        go_wp2_with fail
        go_ret
        exact ⟨rfl, HB0.out.trans (HBW.out.mono HB0.out.size)⟩
end
end Go.Proofs.YtkdhomiieenfnaaGreatDoor.K

namespace Go.Proofs.YtkdhomiieenfnaaGreatDoor.K
open Go.RowKit Go.Proofs Go.Proofs.YtkdhomiieenfnaaGreatDoor.U Go.Proofs.YtkdhomiieenfnaaGreatDoor.Txt Go.Proofs.YtkdhomiieenfnaaGreatDoor.O Go.Proofs.YtkdhomiieenfnaaGreatDoor.Rp Go.Proofs.YtkdhomiieenfnaaGreatDoor.Lw
set_option linter.unusedVariables false
set_option linter.unusedSimpArgs false

/-- What Ranges and Covers hand back: a list in memory of one's own. -/
def OwnRg (l : List (Int × Int)) (w : World) (e : Ending) (w' : World) : Prop := (∃ v, e = .returned v ∧ w'.ownsRow w.heap.size 102 2 v l.length (rsCells l)) ∧ Below w.heap.size w w'
set_option maxRecDepth 100000 in
set_option maxHeartbeats 4000000 in
theorem rranges_any (A : Option Addr) (n c : Nat) (rs : List (Int × Int)) (w : World) (hn : n ≤ 1048577) (hR : Ranges w A n rs) : Calls Tryz.prog 95 #[.slice A n c] w (OwnRg rs w) := by
  have HR := Lib.hid hR
  have HL := Lib.hid hR.len
  obtain ⟨i0', hi0, hz0, hz1, hz2⟩ := info_parts infoRg
  have HI := Lib.hid (And.intro hi0 (And.intro hz0 (And.intro hz1 hz2)))
  clear hR hi0 hz0 hz1 hz2
  go_enter Tryz.func95, Tryz.ntmps95
  go_wp2_with fail
  go_loopw [3, 4] (fun v i wr => ∃ k : Nat, k ≤ n ∧ i = .int .i64 k ∧ wr.ownsRow w.heap.size 102 2 v k (rsCells (rs.take k)) ∧ Below w.heap.size w wr) (fun _ i _ => n - (intOf i).toNat)
  case atStart => exact ⟨0, Nat.zero_le _, rfl, ⟨rfl, .inl ⟨rfl, rfl⟩⟩, Below.refl _ _⟩
  case round =>
    obtain ⟨k, hk, rfl, hown, hb⟩ := hrel
    have HO := Lib.hid hown
    have HB := Lib.hid hb
    clear hown hb
    by_cases hlt : k < n
    · have hkl : k < rs.length := by have := HL.out; omega
      obtain ⟨g, off, rfl, hc⟩ := HR.out.at_ (by omega)
      have f := hc k hkl
      have hsn : rsCells (rs.take (k + 1)) = rsCells (rs.take k) ++ [.int .i64 rs[k].1, .int .i64 rs[k].2] := by
        rw [List.take_succ_eq_append_getElem hkl]; exact rsCells_snoc _ _ _
      obtain ⟨⟨lo, hi⟩, hra⟩ : ∃ x, rs[k] = x := ⟨_, rfl⟩
      rw [hra] at f hsn
      simp only at f hsn
      have HSN := Lib.hid hsn
      have f1 := U.cell_below HB.out f.1
      have f2 := U.cell_below HB.out f.2
      have z1 : (k : Int) < (n : Int) := by omega
      have z2 : (0 : Int) ≤ (k : Int) := by omega
      clear hc f hsn hra
      go_wp2_with (at_builtin; refine wpList_append_lies _ rfl (.tmp 11) (.tmp 16) 45 rfl w.heap.size 102 i0' (.agg #[.int .i64 0, .int .i64 0]) 2 16 Tryz.underlying45 HI.out.1 HI.out.2.1 HI.out.2.2.1 HI.out.2.2.2 rfl (by decide) _ _ _ rfl (Rp.own_below HO.out (below_alloc1 _ _)) _ 1 1 [.int .i64 lo, .int .i64 hi] rfl rfl (fun j u hj => Rp.news_alloc _ _ _ j u hj) (by simp [Value.oneCell']) (by decide) (by unfold maxLen; omega) (by omega) (by have := HB.out.size; simp; omega) _ rfl ?_; intro g9 cap9 w9 hown hgrow hat hgl; have HO9 := Lib.hid hown; have HG9 := Lib.hid hgrow; clear hown hgrow hat hgl)
      go_roundw
      case rel => exact ⟨k + 1, hlt, by go_num, by rw [HSN.out]; exact HO9.out, (HB.out.alloc HB.out.size _).grown HG9.out (by have := HB.out.size; simp; omega) (fun k hk => (HO.out.lt k hk).1)⟩
      case measure => simp [intOf]; omega
    · obtain rfl : k = n := by omega
      go_wp2_with fail
      go_ret
      have h9 := HO.out
      rw [List.take_of_length_le (by have := HL.out; omega), HL.out] at h9
      exact ⟨⟨_, rfl, h9⟩, HB.out⟩
section
attribute [local go_sem ↓] ldO_fold
set_option maxRecDepth 100000 in
set_option maxHeartbeats 4000000 in
theorem rcovers_any (i0 i1 kd a : Int) (tx : ByteArray) (A : Option Addr) (n c : Nat) (rs : List (Int × Int)) (t0 t1 : Int) (on : Bool) (k ps er : Nat) (hck : chk tx.data.toList = (k, ps, er)) (w : World) (hs : tx.size ≤ 4398046511104) (hn : n ≤ 1048577) (hR : Ranges w A n rs) :
    Calls Tryz.prog 58 #[opV i0 i1 kd a tx (.slice A n c) t0 t1 on] w (OwnRg (covR i0 i1 kd a tx k er rs t0 t1 on) w) := by
  have HOWN := Lib.hid (fun (W : World) (hW : Below w.heap.size w W) => rown_any i0 i1 kd a tx A n c rs t0 t1 on k ps er hck W hs (by omega) (hR.below hW))
  have HWI := Lib.hid (fun (W : World) => rwidth_any i0 i1 kd a tx (.slice A n c) t0 t1 on k ps er hck W hs)
  have HRG := Lib.hid (fun (W : World) (hW : Below w.heap.size w W) => rranges_any A n c rs W hn (hR.below hW))
  have HLN := Lib.hid hR.len
  have hok := fun h => opE_ok (i0 := i0) (i1 := i1) (kd := kd) (a := a) (tx := tx) (k := k) (er := er) (rs := rs) (t0 := t0) (t1 := t1) (on := on) (total := ownT kd a) h
  have hpt := fun h => opE_parts (i0 := i0) (i1 := i1) (kd := kd) (a := a) (tx := tx) (k := k) (er := er) (rs := rs) (t0 := t0) (t1 := t1) (on := on) (total := ownT kd a) h
  have HOK := Lib.hid (fun (h : ownE i0 i1 kd a tx k er rs t0 t1 on = 0) => And.intro (hok h) (hpt h))
  have HCV := Lib.hid (show covR i0 i1 kd a tx k er rs t0 t1 on = if ownE i0 i1 kd a tx k er rs t0 t1 on ≠ 0 ∨ kd = 4 then [] else if kd = 1 then [(a, a + k)] else rs from rfl)
  obtain ⟨CV, hCV⟩ : ∃ CV, covR i0 i1 kd a tx k er rs t0 t1 on = CV := ⟨_, rfl⟩
  rw [hCV] at HCV ⊢
  obtain ⟨E, hE⟩ : ∃ E, ownE i0 i1 kd a tx k er rs t0 t1 on = E := ⟨_, rfl⟩
  rw [hE] at HOWN HOK HCV
  have hy := heap_alloc_new w (.cells (opC i0 i1 kd a tx (.slice A n c) t0 t1 on) 47)
  have hB1 := below_alloc1 w (.cells (opC i0 i1 kd a tx (.slice A n c) t0 t1 on) 47)
  have HO := Lib.hid (OB.mk hB1 hy)
  unfold opC at HO
  unfold opV at HOWN HWI ⊢
  clear hy hB1 hck hR hs hok hpt hCV hE
  go_enter Tryz.func58, Tryz.ntmps58
  go_upto_region 1 with fail
  obtain ⟨w1, hw1⟩ : ∃ w1, w.alloc (.cells #[.int .i64 i0, .int .i64 i1, .int .i64 kd, .int .i64 a, .string tx, .slice A n c, .int .i64 t0, .int .i64 t1, .bool on] 47) = w1 := ⟨_, rfl⟩
  rw [hw1] at HO ⊢
  obtain ⟨gr, hgr⟩ : ∃ gr, w.heap.size = gr := ⟨_, rfl⟩
  have HO : Hid (OB w w1 gr (opC i0 i1 kd a tx (.slice A n c) t0 t1 on)) := Lib.hid (by rw [← hgr]; exact HO.out)
  rw [hgr]
  have HGR := Lib.hid hgr
  have ld := ldO_run HO.out.box
  clear hw1 hgr
  go_wp2_with fail
  refine (HOWN.out w1 HO.out.below).mono ?_
  rintro e w2 ⟨rfl, hb2⟩
  have HO2 := Lib.hid (HO.out.step hb2)
  clear hb2 ld HOWN
  by_cases hE0 : E = 0
  · have b1 : (E != 0) = false := by simp [hE0]
    obtain ⟨hok, hpt⟩ := HOK.out hE0
    have HCV2 := Lib.hid (show CV = if kd = 4 then [] else if kd = 1 then [(a, a + k)] else rs by
      rw [HCV.out]
      by_cases h4 : kd = 4
      · rw [if_pos (.inr h4), if_pos h4]
      · rw [if_neg (fun h => h.elim (fun h => h hE0) h4), if_neg h4])
    have hkd := hok.kind
    have HPT := Lib.hid hpt
    have HXT := Lib.hid hok.extra
    obtain ⟨_, _, y2, y3, _, y5, _, _, _⟩ := HO2.out.c
    have ld2 := ldO_run HO2.out.box
    clear hE0 hok hpt HOK HCV
    rcases hkd with rfl | hk23 | hk23 | rfl
    · have hi := insE_ok (HPT.out.2.1 rfl)
      have hab : 0 ≤ a ∧ a ≤ 1048576 ∧ k ≤ 256 := by have := HPT.out.1; omega
      have HCV3 := Lib.hid (show CV = [(a, a + k)] by rw [HCV2.out, if_neg (by decide), if_pos rfl])
      have HW2 := Lib.hid (HWI.out w2)
      rw [if_pos rfl, if_pos hi.1] at HW2
      have i1' : IntKind.i64.wrap (a + k) = a + k := IntWalk.i64_in _ (by omega)
      clear hi HCV2 y5
      go_wp2_with fail
      refine HW2.out.mono ?_
      rintro e w3 ⟨rfl, hb3⟩
      have HO3 := Lib.hid (HO2.out.step hb3)
      obtain ⟨_, _, _, y3, _, _, _, _, _⟩ := HO3.out.c
      clear hb3 ld2 HW2
      go_wp2_with fail
      go_ret
      refine ⟨⟨_, rfl, ?_⟩, HO3.out.below.alloc HO3.out.below.size _⟩
      rw [HCV3.out]
      refine ⟨rfl, .inr ⟨w3.heap.size, 1, _, rfl, ?_, heap_alloc_new _ _, Nat.le_refl _, by decide, rfl, rfl⟩⟩
      exact HO3.out.below.size
    · subst hk23
      have HCV3 := Lib.hid (show CV = rs by rw [HCV2.out, if_neg (by decide), if_neg (by decide)])
      have HR2 := Lib.hid (HRG.out w2 HO2.out.below)
      clear y3 HCV2
      go_wp2_with fail
      refine HR2.out.mono ?_
      rintro e w3 ⟨⟨v, rfl, ho3⟩, hb3⟩
      have HO3 := Lib.hid (HO2.out.step hb3)
      have HOW := Lib.hid (O.own_weak' ho3 HO2.out.below.size)
      clear hb3 ld2 HR2 ho3
      go_wp2_with fail
      go_ret
      exact ⟨⟨_, rfl, by rw [HCV3.out]; exact HOW.out⟩, HO3.out.below⟩
    · subst hk23
      have HCV3 := Lib.hid (show CV = rs by rw [HCV2.out, if_neg (by decide), if_neg (by decide)])
      have HR2 := Lib.hid (HRG.out w2 HO2.out.below)
      clear y3 HCV2
      go_wp2_with fail
      refine HR2.out.mono ?_
      rintro e w3 ⟨⟨v, rfl, ho3⟩, hb3⟩
      have HO3 := Lib.hid (HO2.out.step hb3)
      have HOW := Lib.hid (O.own_weak' ho3 HO2.out.below.size)
      clear hb3 ld2 HR2 ho3
      go_wp2_with fail
      go_ret
      exact ⟨⟨_, rfl, by rw [HCV3.out]; exact HOW.out⟩, HO3.out.below⟩
    · have hn0 : n = 0 := by
        have hx := HXT.out
        unfold extraB at hx
        have := HLN.out
        simp at hx
        have h1 := hx.2
        rw [this, h1]; rfl
      have HCV3 := Lib.hid (show CV = [] by rw [HCV2.out, if_pos rfl])
      have HRS := Lib.hid (show rs = [] from List.length_eq_zero_iff.1 (by have := HLN.out; omega))
      have HR2 := Lib.hid (HRG.out w2 HO2.out.below)
      clear y3 HCV2 hn0
      go_wp2_with fail
      refine HR2.out.mono ?_
      rintro e w3 ⟨⟨v, rfl, ho3⟩, hb3⟩
      have HO3 := Lib.hid (HO2.out.step hb3)
      have HOW := Lib.hid (O.own_weak' ho3 HO2.out.below.size)
      clear hb3 ld2 HR2 ho3
      go_wp2_with fail
      go_ret
      exact ⟨⟨_, rfl, by rw [HCV3.out, ← HRS.out]; exact HOW.out⟩, HO3.out.below⟩
  · have b1 : (E != 0) = true := by simp [hE0]
    have HCV3 := Lib.hid (show CV = [] by rw [HCV.out, if_pos (.inl hE0)])
    clear hE0 HOK HCV
    go_wp2_with fail
    go_ret
    exact ⟨⟨_, rfl, by rw [HCV3.out]; exact ⟨rfl, .inl ⟨rfl, rfl⟩⟩⟩, HO2.out.below⟩
end
end Go.Proofs.YtkdhomiieenfnaaGreatDoor.K

namespace Go.Proofs.YtkdhomiieenfnaaGreatDoor.K
open Go.RowKit Go.Proofs Go.Proofs.YtkdhomiieenfnaaGreatDoor.U Go.Proofs.YtkdhomiieenfnaaGreatDoor.Txt Go.Proofs.YtkdhomiieenfnaaGreatDoor.O Go.Proofs.YtkdhomiieenfnaaGreatDoor.Rp Go.Proofs.YtkdhomiieenfnaaGreatDoor.Lw
set_option linter.unusedVariables false
set_option linter.unusedSimpArgs false

theorem put_box {w : World} {g i : Nat} {cs : Array Value} {u : Value} {T : TypeId} (h : w.heap[g]? = some (.cells cs T (0, 0))) : (w.setCell ⟨g, i, none⟩ u).heap[g]? = some (.cells (cs.setIfInBounds i u) T (0, 0)) := by
  simp [World.setCell, Array.getElem?_modify, h]
theorem put_far {w : World} {g k i : Nat} {u : Value} {o : Obj} (h : w.heap[k]? = some o) (hne : g ≠ k) : (w.setCell ⟨g, i, none⟩ u).heap[k]? = some o := by
  simp [World.setCell, Array.getElem?_modify, h, hne]
/-- The three boxes of Inverse. -/
structure IB (w W : World) (g gx : Nat) (xs zs : Array Value) : Prop where
  below : Below w.heap.size w W
  b1 : W.heap[g]? = some (.cells xs 47 (0, 0))
  b2 : W.heap[g + 1]? = some (.cells zOp 47 (0, 0))
  b3 : W.heap[gx]? = some (.cells zs 47 (0, 0))
theorem IB.step {w W W' : World} {g gx : Nat} {xs zs : Array Value} (h : IB w W g gx xs zs) (hb : Below W.heap.size W W') : IB w W' g gx xs zs :=
  ⟨h.below.trans (hb.mono h.below.size), (hb.block _ (Array.getElem?_eq_some_iff.1 h.b1).1).trans h.b1, (hb.block _ (Array.getElem?_eq_some_iff.1 h.b2).1).trans h.b2, (hb.block _ (Array.getElem?_eq_some_iff.1 h.b3).1).trans h.b3⟩
theorem IB.put {w W : World} {g gx i : Nat} {xs zs : Array Value} {u : Value} (h : IB w W g gx xs zs) (hg : w.heap.size ≤ gx ∧ gx ≠ g ∧ gx ≠ g + 1) : IB w (W.setCell ⟨gx, i, none⟩ u) g gx xs (zs.setIfInBounds i u) :=
  ⟨h.below.setCell (p := ⟨gx, i, none⟩) hg.1 _, put_far h.b1 hg.2.1, put_far h.b2 hg.2.2, put_box h.b3⟩
theorem IB.c9 {w W : World} {g gx : Nat} {xs : Array Value} {z0 z1 z2 z3 z4 z5 z6 z7 z8 : Value} (h : IB w W g gx xs #[z0, z1, z2, z3, z4, z5, z6, z7, z8]) :
    (W.cell? ⟨gx, 2, none⟩ = some z2 ∧ W.cell? ⟨gx, 5, none⟩ = some z5 ∧ W.cell? ⟨gx, 6, none⟩ = some z6 ∧ W.cell? ⟨gx, 7, none⟩ = some z7 ∧ W.cell? ⟨gx, 8, none⟩ = some z8) ∧ (W.frozen? ⟨gx, 2, none⟩ = false ∧ W.frozen? ⟨gx, 5, none⟩ = false ∧ W.frozen? ⟨gx, 6, none⟩ = false ∧ W.frozen? ⟨gx, 7, none⟩ = false ∧ W.frozen? ⟨gx, 8, none⟩ = false) ∧ gx < W.heap.size := by
  refine ⟨⟨?_, ?_, ?_, ?_, ?_⟩, ⟨Lib.frozen_of_heap h.b3 2, Lib.frozen_of_heap h.b3 5, Lib.frozen_of_heap h.b3 6, Lib.frozen_of_heap h.b3 7, Lib.frozen_of_heap h.b3 8⟩, (Array.getElem?_eq_some_iff.1 h.b3).1⟩ <;> (rw [Lib.cell_of_heap h.b3]; rfl)
section
attribute [local go_sem ↓] ldO_fold stO_fold
attribute [local go_sem] stO_run
set_option maxRecDepth 100000 in
set_option maxHeartbeats 4000000 in
theorem rinverse_any (i0 i1 kd a : Int) (tx : ByteArray) (A : Option Addr) (n c : Nat) (rs : List (Int × Int)) (t0 t1 : Int) (on : Bool) (k ps er : Nat) (hck : chk tx.data.toList = (k, ps, er)) (w : World) (hs : tx.size ≤ 4398046511104) (hn : n ≤ 1048577) (hR : Ranges w A n rs) (E : Int) (hE : ownE i0 i1 kd a tx k er rs t0 t1 on = E) :
    Calls Tryz.prog 61 #[opV i0 i1 kd a tx (.slice A n c) t0 t1 on] w (InvRes (covR i0 i1 kd a tx k er rs t0 t1 on) E (invK E kd) (if E = 0 ∧ kd = 4 then t0 else 0) (if E = 0 ∧ kd = 4 then t1 else 0) (if E = 0 ∧ kd = 4 then !on else false) w) := by
  have HOWN := Lib.hid (fun (W : World) (hW : Below w.heap.size w W) => rown_any i0 i1 kd a tx A n c rs t0 t1 on k ps er hck W hs (by omega) (hR.below hW))
  have HCOV := Lib.hid (fun (W : World) (hW : Below w.heap.size w W) => rcovers_any i0 i1 kd a tx A n c rs t0 t1 on k ps er hck W hs hn (hR.below hW))
  rw [hE] at HOWN
  have HK := Lib.hid (fun (h : E = 0) => (opE_ok (i0 := i0) (i1 := i1) (kd := kd) (a := a) (tx := tx) (k := k) (er := er) (rs := rs) (t0 := t0) (t1 := t1) (on := on) (total := ownT kd a) (hE.trans h)).kind)
  have HCV := Lib.hid (show E ≠ 0 ∨ kd = 4 → covR i0 i1 kd a tx k er rs t0 t1 on = [] from fun h => by unfold covR; rw [hE, if_pos h])
  obtain ⟨CV, hCV⟩ : ∃ CV, covR i0 i1 kd a tx k er rs t0 t1 on = CV := ⟨_, rfl⟩
  rw [hCV] at HCV HCOV ⊢
  obtain ⟨T0, hT0⟩ : ∃ T0, (if E = 0 ∧ kd = 4 then t0 else 0) = T0 := ⟨_, rfl⟩
  obtain ⟨T1, hT1⟩ : ∃ T1, (if E = 0 ∧ kd = 4 then t1 else 0) = T1 := ⟨_, rfl⟩
  obtain ⟨ON, hON⟩ : ∃ ON, (if E = 0 ∧ kd = 4 then !on else false) = ON := ⟨_, rfl⟩
  obtain ⟨KD, hKD⟩ : ∃ KD, invK E kd = KD := ⟨_, rfl⟩
  rw [hT0, hT1, hON, hKD]
  have HTT := Lib.hid (And.intro hT0 (And.intro hT1 (And.intro hON hKD)))
  clear hT0 hT1 hON hKD
  have HX := Lib.hid (OB2.new w (opC i0 i1 kd a tx (.slice A n c) t0 t1 on) zOp)
  unfold opC zOp at HX
  unfold opV at HOWN HCOV ⊢
  clear hR hck hs hE hCV
  go_enter Tryz.func61, Tryz.ntmps61
  go_upto_region 1 with fail
  obtain ⟨w1, hw1⟩ : ∃ w1, (w.alloc (.cells #[.int .i64 i0, .int .i64 i1, .int .i64 kd, .int .i64 a, .string tx, .slice A n c, .int .i64 t0, .int .i64 t1, .bool on] 47)).alloc (.cells #[.int .i64 0, .int .i64 0, .int .i64 0, .int .i64 0, .string ⟨#[]⟩, .slice none 0 0, .int .i64 0, .int .i64 0, .bool false] 47) = w1 := ⟨_, rfl⟩
  rw [hw1] at HX ⊢
  obtain ⟨gr, hgr⟩ : ∃ gr, w.heap.size = gr := ⟨_, rfl⟩
  have HX : Hid (OB2 w w1 gr (opC i0 i1 kd a tx (.slice A n c) t0 t1 on) zOp) := Lib.hid (by rw [← hgr]; exact HX.out)
  rw [hgr]
  have HGR := Lib.hid hgr
  have ld := ldO_run HX.out.b1
  clear hw1 hgr
  go_wp2_with fail
  refine (HOWN.out _ HX.out.below).mono ?_
  rintro e w2 ⟨rfl, hb2⟩
  have HX2 := Lib.hid (HX.out.step hb2)
  clear hb2 ld HOWN HX
  by_cases hE0 : E = 0
  · have b1 : (E != 0) = false := by simp [hE0]
    have hkd := HK.out hE0
    have HE0 := Lib.hid hE0
    clear hE0 HK
    have HX3 := Lib.hid (IB.mk (gx := w2.heap.size) (zs := zOp) (HX2.out.below.alloc HX2.out.below.size (.cells zOp 47)) (by rw [Lib.alloc_old _ _ _ (Array.getElem?_eq_some_iff.1 HX2.out.b1).1]; exact HX2.out.b1) (by rw [Lib.alloc_old _ _ _ (Array.getElem?_eq_some_iff.1 HX2.out.b2).1]; exact HX2.out.b2) (heap_alloc_new w2 _))
    have HNE := Lib.hid (show w.heap.size ≤ w2.heap.size ∧ w2.heap.size ≠ gr ∧ w2.heap.size ≠ gr + 1 from ⟨HX2.out.below.size, by have := (Array.getElem?_eq_some_iff.1 HX2.out.b1).1; omega, by have := (Array.getElem?_eq_some_iff.1 HX2.out.b2).1; omega⟩)
    unfold zOp at HX3
    go_upto_region 5 with fail
    obtain ⟨w3, hw3⟩ : ∃ w3, w2.alloc (.cells #[.int .i64 0, .int .i64 0, .int .i64 0, .int .i64 0, .string ⟨#[]⟩, .slice none 0 0, .int .i64 0, .int .i64 0, .bool false] 47) = w3 := ⟨_, rfl⟩
    rw [hw3] at HX3 ⊢
    obtain ⟨gx, hgx⟩ : ∃ gx, w2.heap.size = gx := ⟨_, rfl⟩
    rw [hgx] at HX3 HNE ⊢
    have HX4 : Hid (IB w w3 gr gx (opC i0 i1 kd a tx (.slice A n c) t0 t1 on) #[.int .i64 0, .int .i64 0, .int .i64 0, .int .i64 0, .string ⟨#[]⟩, .slice none 0 0, .int .i64 0, .int .i64 0, .bool false]) := HX3
    have HZ : Hid (w3.heap[gr + 1]? = some (.cells zOp 47 (0, 0))) := Lib.hid HX4.out.b2
    clear hw3 hgx HX3 HX2
    have ldq := ldO_run HX4.out.b1
    have y2 := (OB.mk HX4.out.below HX4.out.b1).c.2.2.1
    obtain ⟨⟨z2, z5, z6, z7, z8⟩, ⟨f2, f5, f6, f7, f8⟩, hlt⟩ := HX4.out.c9
    rcases hkd with hk | hk | hk | hk
    · subst hk
      go_upto_region 9 with fail
      have HX5 := Lib.hid (HX4.out.put (i := 2) (u := .int .i64 2) HNE.out)
      obtain ⟨w4, hw4⟩ : ∃ w4, w3.setCell ⟨gx, 2, none⟩ (.int .i64 2) = w4 := ⟨_, rfl⟩
      rw [hw4] at HX5 ⊢
      have HX5 : Hid (IB w w4 gr gx (opC i0 i1 1 a tx (.slice A n c) t0 t1 on) #[.int .i64 0, .int .i64 0, .int .i64 2, .int .i64 0, .string ⟨#[]⟩, .slice none 0 0, .int .i64 0, .int .i64 0, .bool false]) := HX5
      have ldq := ldO_run HX5.out.b1
      have HC2 := Lib.hid (HCOV.out w4 HX5.out.below)
      clear hw4 z2 z5 z6 z7 z8 f2 f5 f6 f7 f8 hlt y2 HX4
      go_wp2_with fail
      refine HC2.out.mono ?_
      rintro e w5 ⟨⟨v3, rfl, ho3⟩, hb3⟩
      obtain ⟨A3, n3, c3, rfl⟩ : ∃ A3 n3 c3, v3 = .slice A3 n3 c3 := by
        rcases ho3.2 with ⟨e1, _⟩ | ⟨g, cap, cur, hv, _⟩
        · exact ⟨_, _, _, e1⟩
        · exact ⟨_, _, _, hv⟩
      have HX6 := Lib.hid (HX5.out.step hb3)
      have HO3 := Lib.hid (own_base ho3 HX5.out.below.size)
      obtain ⟨⟨z2, z5, z6, z7, z8⟩, ⟨f2, f5, f6, f7, f8⟩, hlt⟩ := HX6.out.c9
      clear ldq hb3 ho3 HC2 HX5
      go_upto_region 17 with fail
      have HX7 := Lib.hid (HX6.out.put (i := 5) (u := .slice A3 n3 c3) HNE.out)
      have HO7 := Lib.hid (own_setOp (g := gx) (i := 5) (u := .slice A3 n3 c3) HO3.out HX6.out.b3)
      obtain ⟨w6, hw6⟩ : ∃ w6, w5.setCell ⟨gx, 5, none⟩ (.slice A3 n3 c3) = w6 := ⟨_, rfl⟩
      rw [hw6] at HX7 HO7 ⊢
      have HX7 : Hid (IB w w6 gr gx (opC i0 i1 1 a tx (.slice A n c) t0 t1 on) (opC 0 0 2 0 ⟨#[]⟩ (.slice A3 n3 c3) 0 0 false)) := HX7
      have ldx := ldO_run HX7.out.b3
      have hfr : Fresh w6 (gr + 1) := ⟨_, HX7.out.b2, rfl⟩
      clear hw6 z2 z5 z6 z7 z8 f2 f5 f6 f7 f8 hlt HX6 HO3
      go_wp2_with fail
      have hfin := inv_fin (l := CV) (E := 0) (kd' := 2) (t0' := 0) (t1' := 0) (on' := false) (A := A3) (n := n3) (c := c3) (g := gr + 1) HX7.out.below (by have := HGR.out; omega) HX7.out.b2 HO7.out
      refine bodyPost_ret (v := .tuple #[opV 0 0 2 0 ⟨#[]⟩ (.slice A3 n3 c3) 0 0 false, .int .i64 0]) ?hr1 ?hd1 ?hb1
      case hd1 => rfl
      case hr1 => exact results_op2 rfl _ _ (gr + 1) _ _ rfl rfl hfin.2 rfl
      case hb1 =>
        have h8 := hfin.1
        have hz := HE0.out
        subst hz
        obtain ⟨e0, e1, e2, e3⟩ := HTT.out
        rw [← e0, ← e1, ← e2, ← e3]
        simpa [invK] using h8
    · subst hk
      go_upto_region 12 with fail
      have HX5 := Lib.hid (HX4.out.put (i := 2) (u := .int .i64 3) HNE.out)
      obtain ⟨w4, hw4⟩ : ∃ w4, w3.setCell ⟨gx, 2, none⟩ (.int .i64 3) = w4 := ⟨_, rfl⟩
      rw [hw4] at HX5 ⊢
      have HX5 : Hid (IB w w4 gr gx (opC i0 i1 2 a tx (.slice A n c) t0 t1 on) #[.int .i64 0, .int .i64 0, .int .i64 3, .int .i64 0, .string ⟨#[]⟩, .slice none 0 0, .int .i64 0, .int .i64 0, .bool false]) := HX5
      have ldq := ldO_run HX5.out.b1
      have HC2 := Lib.hid (HCOV.out w4 HX5.out.below)
      clear hw4 z2 z5 z6 z7 z8 f2 f5 f6 f7 f8 hlt y2 HX4
      go_wp2_with fail
      refine HC2.out.mono ?_
      rintro e w5 ⟨⟨v3, rfl, ho3⟩, hb3⟩
      obtain ⟨A3, n3, c3, rfl⟩ : ∃ A3 n3 c3, v3 = .slice A3 n3 c3 := by
        rcases ho3.2 with ⟨e1, _⟩ | ⟨g, cap, cur, hv, _⟩
        · exact ⟨_, _, _, e1⟩
        · exact ⟨_, _, _, hv⟩
      have HX6 := Lib.hid (HX5.out.step hb3)
      have HO3 := Lib.hid (own_base ho3 HX5.out.below.size)
      obtain ⟨⟨z2, z5, z6, z7, z8⟩, ⟨f2, f5, f6, f7, f8⟩, hlt⟩ := HX6.out.c9
      clear ldq hb3 ho3 HC2 HX5
      go_upto_region 17 with fail
      have HX7 := Lib.hid (HX6.out.put (i := 5) (u := .slice A3 n3 c3) HNE.out)
      have HO7 := Lib.hid (own_setOp (g := gx) (i := 5) (u := .slice A3 n3 c3) HO3.out HX6.out.b3)
      obtain ⟨w6, hw6⟩ : ∃ w6, w5.setCell ⟨gx, 5, none⟩ (.slice A3 n3 c3) = w6 := ⟨_, rfl⟩
      rw [hw6] at HX7 HO7 ⊢
      have HX7 : Hid (IB w w6 gr gx (opC i0 i1 2 a tx (.slice A n c) t0 t1 on) (opC 0 0 3 0 ⟨#[]⟩ (.slice A3 n3 c3) 0 0 false)) := HX7
      have ldx := ldO_run HX7.out.b3
      have hfr : Fresh w6 (gr + 1) := ⟨_, HX7.out.b2, rfl⟩
      clear hw6 z2 z5 z6 z7 z8 f2 f5 f6 f7 f8 hlt HX6 HO3
      go_wp2_with fail
      have hfin := inv_fin (l := CV) (E := 0) (kd' := 3) (t0' := 0) (t1' := 0) (on' := false) (A := A3) (n := n3) (c := c3) (g := gr + 1) HX7.out.below (by have := HGR.out; omega) HX7.out.b2 HO7.out
      refine bodyPost_ret (v := .tuple #[opV 0 0 3 0 ⟨#[]⟩ (.slice A3 n3 c3) 0 0 false, .int .i64 0]) ?hr2 ?hd2 ?hb2
      case hd2 => rfl
      case hr2 => exact results_op2 rfl _ _ (gr + 1) _ _ rfl rfl hfin.2 rfl
      case hb2 =>
        have h8 := hfin.1
        have hz := HE0.out
        subst hz
        obtain ⟨e0, e1, e2, e3⟩ := HTT.out
        rw [← e0, ← e1, ← e2, ← e3]
        simpa [invK] using h8
    · subst hk
      go_upto_region 9 with fail
      have HX5 := Lib.hid (HX4.out.put (i := 2) (u := .int .i64 2) HNE.out)
      obtain ⟨w4, hw4⟩ : ∃ w4, w3.setCell ⟨gx, 2, none⟩ (.int .i64 2) = w4 := ⟨_, rfl⟩
      rw [hw4] at HX5 ⊢
      have HX5 : Hid (IB w w4 gr gx (opC i0 i1 3 a tx (.slice A n c) t0 t1 on) #[.int .i64 0, .int .i64 0, .int .i64 2, .int .i64 0, .string ⟨#[]⟩, .slice none 0 0, .int .i64 0, .int .i64 0, .bool false]) := HX5
      have ldq := ldO_run HX5.out.b1
      have HC2 := Lib.hid (HCOV.out w4 HX5.out.below)
      clear hw4 z2 z5 z6 z7 z8 f2 f5 f6 f7 f8 hlt y2 HX4
      go_wp2_with fail
      refine HC2.out.mono ?_
      rintro e w5 ⟨⟨v3, rfl, ho3⟩, hb3⟩
      obtain ⟨A3, n3, c3, rfl⟩ : ∃ A3 n3 c3, v3 = .slice A3 n3 c3 := by
        rcases ho3.2 with ⟨e1, _⟩ | ⟨g, cap, cur, hv, _⟩
        · exact ⟨_, _, _, e1⟩
        · exact ⟨_, _, _, hv⟩
      have HX6 := Lib.hid (HX5.out.step hb3)
      have HO3 := Lib.hid (own_base ho3 HX5.out.below.size)
      obtain ⟨⟨z2, z5, z6, z7, z8⟩, ⟨f2, f5, f6, f7, f8⟩, hlt⟩ := HX6.out.c9
      clear ldq hb3 ho3 HC2 HX5
      go_upto_region 17 with fail
      have HX7 := Lib.hid (HX6.out.put (i := 5) (u := .slice A3 n3 c3) HNE.out)
      have HO7 := Lib.hid (own_setOp (g := gx) (i := 5) (u := .slice A3 n3 c3) HO3.out HX6.out.b3)
      obtain ⟨w6, hw6⟩ : ∃ w6, w5.setCell ⟨gx, 5, none⟩ (.slice A3 n3 c3) = w6 := ⟨_, rfl⟩
      rw [hw6] at HX7 HO7 ⊢
      have HX7 : Hid (IB w w6 gr gx (opC i0 i1 3 a tx (.slice A n c) t0 t1 on) (opC 0 0 2 0 ⟨#[]⟩ (.slice A3 n3 c3) 0 0 false)) := HX7
      have ldx := ldO_run HX7.out.b3
      have hfr : Fresh w6 (gr + 1) := ⟨_, HX7.out.b2, rfl⟩
      clear hw6 z2 z5 z6 z7 z8 f2 f5 f6 f7 f8 hlt HX6 HO3
      go_wp2_with fail
      have hfin := inv_fin (l := CV) (E := 0) (kd' := 2) (t0' := 0) (t1' := 0) (on' := false) (A := A3) (n := n3) (c := c3) (g := gr + 1) HX7.out.below (by have := HGR.out; omega) HX7.out.b2 HO7.out
      refine bodyPost_ret (v := .tuple #[opV 0 0 2 0 ⟨#[]⟩ (.slice A3 n3 c3) 0 0 false, .int .i64 0]) ?hr3 ?hd3 ?hb3
      case hd3 => rfl
      case hr3 => exact results_op2 rfl _ _ (gr + 1) _ _ rfl rfl hfin.2 rfl
      case hb3 =>
        have h8 := hfin.1
        have hz := HE0.out
        subst hz
        obtain ⟨e0, e1, e2, e3⟩ := HTT.out
        rw [← e0, ← e1, ← e2, ← e3]
        simpa [invK] using h8
    · subst hk
      obtain ⟨_, _, _, _, _, _, y6, y7, y8⟩ := (OB.mk HX4.out.below HX4.out.b1).c
      have HX5 := Lib.hid ((((HX4.out.put (i := 2) (u := .int .i64 4) HNE.out).put (i := 6) (u := .int .i64 t0) HNE.out).put (i := 7) (u := .int .i64 t1) HNE.out).put (i := 8) (u := .bool !on) HNE.out)
      clear ldq
      go_upto_region 17 with fail
      obtain ⟨w6, hw6⟩ : ∃ w6, (((w3.setCell ⟨gx, 2, none⟩ (.int .i64 4)).setCell ⟨gx, 6, none⟩ (.int .i64 t0)).setCell ⟨gx, 7, none⟩ (.int .i64 t1)).setCell ⟨gx, 8, none⟩ (.bool !on) = w6 := ⟨_, rfl⟩
      rw [hw6] at HX5 ⊢
      have HX7 : Hid (IB w w6 gr gx (opC i0 i1 4 a tx (.slice A n c) t0 t1 on) (opC 0 0 4 0 ⟨#[]⟩ (.slice none 0 0) t0 t1 (!on))) := HX5
      have ldx := ldO_run HX7.out.b3
      have hfr : Fresh w6 (gr + 1) := ⟨_, HX7.out.b2, rfl⟩
      clear hw6 z2 z5 z6 z7 z8 f2 f5 f6 f7 f8 hlt y2 y6 y7 y8 HX4 HX5
      go_wp2_with fail
      have hfin := inv_fin (l := CV) (E := 0) (kd' := 4) (t0' := t0) (t1' := t1) (on' := !on) (A := none) (n := 0) (c := 0) (g := gr + 1) HX7.out.below (by have := HGR.out; omega) HX7.out.b2 (by rw [HCV.out (.inr (by trivial))]; exact ⟨rfl, .inl ⟨rfl, rfl⟩⟩)
      refine bodyPost_ret (v := .tuple #[opV 0 0 4 0 ⟨#[]⟩ (.slice none 0 0) t0 t1 (!on), .int .i64 0]) ?hr4 ?hd4 ?hb4
      case hd4 => rfl
      case hr4 => exact results_op2 rfl _ _ (gr + 1) _ _ rfl rfl hfin.2 rfl
      case hb4 =>
        have h8 := hfin.1
        have hz := HE0.out
        subst hz
        obtain ⟨e0, e1, e2, e3⟩ := HTT.out
        rw [← e0, ← e1, ← e2, ← e3]
        simpa [invK] using h8
  · have b1 : (E != 0) = true := by simp [hE0]
    have hfr : Fresh w2 (gr + 1) := ⟨_, HX2.out.b2, rfl⟩
    have HE0 := Lib.hid hE0
    clear hE0
    go_wp2_with fail
    have hfin := inv_fin (l := CV) (E := E) (kd' := 0) (t0' := 0) (t1' := 0) (on' := false) (A := none) (n := 0) (c := 0) (g := gr + 1) HX2.out.below (by have := HGR.out; omega) HX2.out.b2 (by rw [HCV.out (.inl HE0.out)]; exact ⟨rfl, .inl ⟨rfl, rfl⟩⟩)
    refine bodyPost_ret (v := .tuple #[opV 0 0 0 0 ⟨#[]⟩ (.slice none 0 0) 0 0 false, .int .i64 E]) ?hr2 ?hd2 ?hb2
    case hd2 => rfl
    case hr2 => exact results_op2 rfl _ _ (gr + 1) _ _ rfl rfl hfin.2 rfl
    case hb2 =>
      have h8 := hfin.1
      obtain ⟨e0, e1, e2, e3⟩ := HTT.out
      rw [← e0, ← e1, ← e2, ← e3, if_neg (fun h => HE0.out h.1), if_neg (fun h => HE0.out h.1), if_neg (fun h => HE0.out h.1)]
      rw [show invK E kd = 0 from if_pos HE0.out]
      exact h8
end
end Go.Proofs.YtkdhomiieenfnaaGreatDoor.K

namespace Go.Proofs.YtkdhomiieenfnaaGreatDoor.K
open Go.RowKit Go.Proofs Go.Proofs.YtkdhomiieenfnaaGreatDoor.U Go.Proofs.YtkdhomiieenfnaaGreatDoor.Txt Go.Proofs.YtkdhomiieenfnaaGreatDoor.O Go.Proofs.YtkdhomiieenfnaaGreatDoor.Rp Go.Proofs.YtkdhomiieenfnaaGreatDoor.Lw
set_option linter.unusedVariables false
set_option linter.unusedSimpArgs false

theorem own_rg2 {w : World} {B : Nat} {v : Value} {rs : List (Int × Int)} (h : w.ownsRow B 102 2 v rs.length (rsCells rs)) : ∃ A c, v = .slice A rs.length c ∧ Ranges w A rs.length rs := by
  rcases h.2 with ⟨hv, h0⟩ | ⟨g, cap, cur, hv, hbg, hg, hcap, hrest⟩
  · exact ⟨none, 0, by rw [hv, h0], ⟨rfl, fun hp => by omega⟩⟩
  · refine ⟨_, cap, hv, ⟨rfl, fun hp => ⟨g, 0, rfl, fun j hj => ?_⟩⟩⟩
    obtain ⟨a1, a2⟩ := rsCells_get rs j hj
    have e : ∀ k, (⟨g, 0 + k, none⟩ : Addr) = (⟨g, 0, none⟩ : Addr).add k := fun k => by simp [Addr.add]
    exact ⟨by rw [e, h.cells (g := g) (by rw [hv]; rfl) _ _ a1], by rw [show 0 + j * 2 + 1 = 0 + (j * 2 + 1) by omega, e, h.cells (g := g) (by rw [hv]; rfl) _ _ a2]⟩
theorem covR_len (i0 i1 kd a : Int) (tx : ByteArray) (k er : Nat) (rs : List (Int × Int)) (t0 t1 : Int) (on : Bool) (h : rs.length ≤ 1048576) : (covR i0 i1 kd a tx k er rs t0 t1 on).length ≤ 1048577 := by
  unfold covR
  split
  · simp
  · split
    · simp
    · omega
section
attribute [local go_sem ↓] ldO_fold stO_fold
attribute [local go_sem] stO_run
set_option maxRecDepth 100000 in
set_option maxHeartbeats 4000000 in
theorem asks_3 (s : StepV) (gl cl : Nat) (w : World) (hk : s.kind = 3) (hok : s.Ok w) (hg : Ranges w (some ⟨gl, 0, none⟩) s.o.rs.length s.o.rs) (hE : Bars w) :
    Calls Tryz.prog 22 #[.agg s.cells, opV s.o.i0 s.o.i1 s.o.kd s.o.a ⟨s.o.tx.toArray⟩ (.slice (some ⟨gl, 0, none⟩) s.o.rs.length cl) s.o.t0 s.o.t1 s.o.on] w (AskRes w) := by
  obtain ⟨kind, ⟨i0, i1, kd, a, tx, rs, t0, t1, on⟩, oA, oc, ⟨j0, j1, kd', a', tx', rs', u0, u1, on'⟩, pA, pc, total, line⟩ := s
  simp only at hk hg ⊢
  subst hk
  have HOK := Lib.hid hok
  have HG := Lib.hid hg
  have HE := Lib.hid hE
  have hno := hok.no
  have hto := hok.so
  have hnp := hok.np
  have htp := hok.sp
  have hli := hok.li
  simp only at hno hto hnp htp hli
  obtain ⟨⟨k, ps, er⟩, hck⟩ : ∃ x, chk (⟨tx.toArray⟩ : ByteArray).data.toList = x := ⟨_, rfl⟩
  have HC := Lib.hid (fun (W : World) (hW : Below w.heap.size w W) => Covers_any i0 i1 kd a ⟨tx.toArray⟩ (some ⟨gl, 0, none⟩) rs.length cl rs t0 t1 on k ps er hck W (by rw [L_size]; unfold maxLen; omega) (by omega) (hg.below hW) (hE.below hW))
  have HD := Lib.hid (fun (W : World) (hW : Below w.heap.size w W) => rcovers_any i0 i1 kd a ⟨tx.toArray⟩ oA rs.length oc rs t0 t1 on k ps er hck W (by rw [L_size]; omega) (by omega) (hok.ro.below hW))
  have hln := covR_len i0 i1 kd a ⟨tx.toArray⟩ k er rs t0 t1 on hno
  obtain ⟨CV, hCV⟩ : ∃ CV, covR i0 i1 kd a ⟨tx.toArray⟩ k er rs t0 t1 on = CV := ⟨_, rfl⟩
  rw [hCV] at HC HD hln
  have HLN := Lib.hid hln
  clear hCV hck hln
  have HO := Lib.hid (SB.new w (StepV.cells ⟨3, ⟨i0, i1, kd, a, tx, rs, t0, t1, on⟩, oA, oc, ⟨j0, j1, kd', a', tx', rs', u0, u1, on'⟩, pA, pc, total, line⟩) (opC i0 i1 kd a ⟨tx.toArray⟩ (.slice (some ⟨gl, 0, none⟩) rs.length cl) t0 t1 on))
  unfold opC at HO
  unfold StepV.cells opV at *
  simp only at HO ⊢
  clear hok hg hE hno hto hnp htp hli
  go_enter Tryz.func22, Tryz.ntmps22
  go_upto_region 1 with fail
  obtain ⟨w1, hw1⟩ : ∃ w1, (w.alloc (.cells #[.int .i64 3, .int .i64 i0, .int .i64 i1, .int .i64 kd, .int .i64 a, .string ⟨tx.toArray⟩, .slice oA rs.length oc, .int .i64 t0, .int .i64 t1, .bool on, .int .i64 j0, .int .i64 j1, .int .i64 kd', .int .i64 a', .string ⟨tx'.toArray⟩, .slice pA rs'.length pc, .int .i64 u0, .int .i64 u1, .bool on', .int .i64 total, .string line] 57)).alloc (.cells #[.int .i64 i0, .int .i64 i1, .int .i64 kd, .int .i64 a, .string ⟨tx.toArray⟩, .slice (some ⟨gl, 0, none⟩) rs.length cl, .int .i64 t0, .int .i64 t1, .bool on] 47) = w1 := ⟨_, rfl⟩
  rw [hw1] at HO ⊢
  obtain ⟨gr, hgr⟩ : ∃ gr, w.heap.size = gr := ⟨_, rfl⟩
  have HO : Hid (SB w w1 gr (StepV.cells ⟨3, ⟨i0, i1, kd, a, tx, rs, t0, t1, on⟩, oA, oc, ⟨j0, j1, kd', a', tx', rs', u0, u1, on'⟩, pA, pc, total, line⟩) (opC i0 i1 kd a ⟨tx.toArray⟩ (.slice (some ⟨gl, 0, none⟩) rs.length cl) t0 t1 on)) := Lib.hid (by rw [← hgr]; exact HO.out)
  rw [hgr]
  clear hw1 hgr
  have x0 : w1.cell? ⟨gr, 0, none⟩ = some (.int .i64 3) := HO.out.cell rfl
  have lc := HO.out.ldc
  have lo := HO.out.ldo
  have lp := HO.out.ldp
  simp only at lo lp
  go_wp2_with fail
  refine (HC.out w1 HO.out.below).mono ?_
  rintro e w2 ⟨⟨v2, rfl, ho2⟩, hb2⟩
  obtain ⟨A2, c2, rfl, hr2⟩ := own_rg2 ho2
  have HR2 := Lib.hid hr2
  clear lc lo lp x0 ho2 hr2
  have HO2 := Lib.hid (HO.out.step hb2)
  have lc := HO2.out.ldc
  have lo := HO2.out.ldo
  have lp := HO2.out.ldp
  simp only at lo lp
  clear hb2
  go_wp2_with fail
  refine (HD.out w2 HO2.out.below).mono ?_
  rintro e w3 ⟨⟨v3, rfl, ho3⟩, hb3⟩
  obtain ⟨A3, c3, rfl, hr3⟩ := own_rg2 ho3
  have HO3 := Lib.hid (HO2.out.step hb3)
  have HSA := Lib.hid (rsame_any A2 A3 CV.length c2 CV.length c3 CV CV w3 (by have := HLN.out; omega) (HR2.out.below hb3) hr3)
  rw [decide_eq_true (rfl : CV = CV)] at HSA
  obtain ⟨nv, hnv⟩ : ∃ nv, CV.length = nv := ⟨_, rfl⟩
  rw [hnv] at HSA ⊢
  clear hb3 lc lo lp ho3 hr3 HR2 hnv
  go_wp2_with fail
  refine HSA.out.mono ?_
  rintro e w4 ⟨rfl, hb4⟩
  have HO4 := Lib.hid (HO3.out.step hb4)
  clear hb4 HSA
  go_wp2_with fail
  go_ret
  exact ⟨by first | rfl | simp, HO4.out.below⟩
set_option maxRecDepth 100000 in
set_option maxHeartbeats 4000000 in
theorem asks_4 (s : StepV) (gl cl : Nat) (w : World) (hk : s.kind = 4) (hok : s.Ok w) (hg : Ranges w (some ⟨gl, 0, none⟩) s.o.rs.length s.o.rs) (hE : Bars w) :
    Calls Tryz.prog 22 #[.agg s.cells, opV s.o.i0 s.o.i1 s.o.kd s.o.a ⟨s.o.tx.toArray⟩ (.slice (some ⟨gl, 0, none⟩) s.o.rs.length cl) s.o.t0 s.o.t1 s.o.on] w (AskRes w) := by
  obtain ⟨kind, ⟨i0, i1, kd, a, tx, rs, t0, t1, on⟩, oA, oc, ⟨j0, j1, kd', a', tx', rs', u0, u1, on'⟩, pA, pc, total, line⟩ := s
  simp only at hk hg ⊢
  subst hk
  have HOK := Lib.hid hok
  have HG := Lib.hid hg
  have HE := Lib.hid hE
  have hno := hok.no
  have hto := hok.so
  have hnp := hok.np
  have htp := hok.sp
  have hli := hok.li
  simp only at hno hto hnp htp hli
  have HCP := Lib.hid (fun (W : World) (hW : Below w.heap.size w W) => copied_any j0 j1 kd' a' ⟨tx'.toArray⟩ pA rs'.length pc rs' u0 u1 on' W (hok.rp.below hW) (by omega))
  have HQ := Lib.hid (fun (A' : Option Addr) (c' : Nat) (W : World) (hW : Below w.heap.size w W) (h2 : Ranges W A' rs'.length rs') => Equal_any ⟨i0, i1, kd, a, tx, rs, t0, t1, on⟩ ⟨j0, j1, kd', a', tx', rs', u0, u1, on'⟩ (some ⟨gl, 0, none⟩) A' cl c' W (by simp only; omega) (hg.below hW) h2)
  have HQ2 := Lib.hid (fun (W : World) (hW : Below w.heap.size w W) => requal_any ⟨i0, i1, kd, a, tx, rs, t0, t1, on⟩ ⟨j0, j1, kd', a', tx', rs', u0, u1, on'⟩ oA pA oc pc W (by simp only; omega) (hok.ro.below hW) (hok.rp.below hW))
  have HQ3 := Lib.hid (fun (A' : Option Addr) (c' : Nat) (W : World) (hW : Below w.heap.size w W) (h2 : Ranges W A' rs'.length rs') => requal_any ⟨j0, j1, kd', a', tx', rs', u0, u1, on'⟩ ⟨j0, j1, kd', a', tx', rs', u0, u1, on'⟩ A' pA c' pc W (by simp only; omega) h2 (hok.rp.below hW))
  rw [decide_eq_true (rfl : (⟨j0, j1, kd', a', tx', rs', u0, u1, on'⟩ : OpL) = ⟨j0, j1, kd', a', tx', rs', u0, u1, on'⟩)] at HQ3
  obtain ⟨D, hD⟩ : ∃ D, decide ((⟨i0, i1, kd, a, tx, rs, t0, t1, on⟩ : OpL) = ⟨j0, j1, kd', a', tx', rs', u0, u1, on'⟩) = D := ⟨_, rfl⟩
  rw [hD] at HQ HQ2
  have HNP := Lib.hid hnp
  unfold OpL.val at HQ HQ2 HQ3
  simp only at HQ HQ2 HQ3
  unfold EqRes at HQ
  clear hD
  have HO := Lib.hid (SB.new w (StepV.cells ⟨4, ⟨i0, i1, kd, a, tx, rs, t0, t1, on⟩, oA, oc, ⟨j0, j1, kd', a', tx', rs', u0, u1, on'⟩, pA, pc, total, line⟩) (opC i0 i1 kd a ⟨tx.toArray⟩ (.slice (some ⟨gl, 0, none⟩) rs.length cl) t0 t1 on))
  unfold opC at HO
  unfold StepV.cells opV at *
  simp only at HO ⊢
  clear hok hg hE hno hto hnp htp hli
  go_enter Tryz.func22, Tryz.ntmps22
  go_upto_region 1 with fail
  obtain ⟨w1, hw1⟩ : ∃ w1, (w.alloc (.cells #[.int .i64 4, .int .i64 i0, .int .i64 i1, .int .i64 kd, .int .i64 a, .string ⟨tx.toArray⟩, .slice oA rs.length oc, .int .i64 t0, .int .i64 t1, .bool on, .int .i64 j0, .int .i64 j1, .int .i64 kd', .int .i64 a', .string ⟨tx'.toArray⟩, .slice pA rs'.length pc, .int .i64 u0, .int .i64 u1, .bool on', .int .i64 total, .string line] 57)).alloc (.cells #[.int .i64 i0, .int .i64 i1, .int .i64 kd, .int .i64 a, .string ⟨tx.toArray⟩, .slice (some ⟨gl, 0, none⟩) rs.length cl, .int .i64 t0, .int .i64 t1, .bool on] 47) = w1 := ⟨_, rfl⟩
  rw [hw1] at HO ⊢
  obtain ⟨gr, hgr⟩ : ∃ gr, w.heap.size = gr := ⟨_, rfl⟩
  have HO : Hid (SB w w1 gr (StepV.cells ⟨4, ⟨i0, i1, kd, a, tx, rs, t0, t1, on⟩, oA, oc, ⟨j0, j1, kd', a', tx', rs', u0, u1, on'⟩, pA, pc, total, line⟩) (opC i0 i1 kd a ⟨tx.toArray⟩ (.slice (some ⟨gl, 0, none⟩) rs.length cl) t0 t1 on)) := Lib.hid (by rw [← hgr]; exact HO.out)
  rw [hgr]
  clear hw1 hgr
  have x0 : w1.cell? ⟨gr, 0, none⟩ = some (.int .i64 4) := HO.out.cell rfl
  have lc := HO.out.ldc
  have lo := HO.out.ldo
  have lp := HO.out.ldp
  simp only at lo lp

  go_wp2_with fail
  refine (HCP.out w1 HO.out.below).mono ?_
  rintro e w2 ⟨⟨gp, cp, rfl, hgp, hcp, hown⟩, hb2⟩
  unfold opV
  have HOWN := Lib.hid (own_weak1 (B' := 0) hown (Nat.zero_le _))
  have HO2 := Lib.hid (HO.out.step hb2)
  have hf := Fresh.new w2 (.int .i64 0) (.int .i64 0) (.int .i64 0) (.int .i64 0) (.string ⟨#[]⟩) (.slice none 0 0) (.int .i64 0) (.int .i64 0) (.bool false)
  clear hown hgp hcp hb2 HCP lc lo lp x0 HO
  go_upto_region 16 with fail
  obtain ⟨w3, hw3⟩ : ∃ w3, (w2.alloc (.cells #[.int .i64 0, .int .i64 0, .int .i64 0, .int .i64 0, .string ⟨#[]⟩, .slice none 0 0, .int .i64 0, .int .i64 0, .bool false] 47)).setRow w2.heap.size (opC j0 j1 kd' a' ⟨tx'.toArray⟩ (.slice (some ⟨gp, 0, none⟩) rs'.length cp) u0 u1 on') = w3 := ⟨_, rfl⟩
  obtain ⟨gx, hgx⟩ : ∃ gx, w2.heap.size = gx := ⟨_, rfl⟩
  have hb3 : Below w2.heap.size w2 w3 := by rw [← hw3]; exact below_setRow (below_alloc1 _ _) (Nat.le_refl _) _
  have hy3 : w3.heap[gx]? = some (.cells (opC j0 j1 kd' a' ⟨tx'.toArray⟩ (.slice (some ⟨gp, 0, none⟩) rs'.length cp) u0 u1 on') 47 (0, 0)) := by rw [← hw3, ← hgx]; exact setRow_heap _ _ _ _ _ _ (heap_at rfl)
  unfold opC at hw3
  rw [hw3, hgx]
  have HO3 := Lib.hid (HO2.out.step hb3)
  have HY3 := Lib.hid hy3
  have HOWN3 := Lib.hid (Rp.own_below HOWN.out hb3)
  have HRP3 := Lib.hid (copy_ranges (n := rs'.length) rfl HOWN3.out)
  have lc := HO3.out.ldc
  have lo := HO3.out.ldo
  have lp := HO3.out.ldp
  simp only at lo lp
  have lx := ldO_run hy3
  clear hf hw3 hgx hb3 hy3 HO2
  go_wp2_with fail
  refine (HQ.out (some ⟨gp, 0, none⟩) cp w3 HO3.out.below HRP3.out).mono ?_
  rintro e w4 ⟨rfl, hb4⟩
  have HB34 := Lib.hid hb4
  have HO4 := Lib.hid (HO3.out.step hb4)
  clear lc lo lp lx hb4
  have lc := HO4.out.ldc
  have lo := HO4.out.ldo
  have lp := HO4.out.ldp
  simp only at lo lp
  go_wp2_with fail
  refine (HQ2.out w4 HO4.out.below).mono ?_
  rintro e w5 ⟨rfl, hb5⟩
  have HB35 := Lib.hid (HB34.out.trans (hb5.mono HB34.out.size))
  have HO5 := Lib.hid (HO4.out.step hb5)
  clear lc lo lp hb5
  have lc := HO5.out.ldc
  have lo := HO5.out.ldo
  have lp := HO5.out.ldp
  simp only at lo lp
  have lx := ldO_run ((HB35.out.block _ (Array.getElem?_eq_some_iff.1 HY3.out).1).trans HY3.out)
  go_wp2_with fail
  refine (HQ3.out (some ⟨gp, 0, none⟩) cp w5 HO5.out.below (HRP3.out.below HB35.out)).mono ?_
  rintro e w6 ⟨rfl, hb6⟩
  have HB36 := Lib.hid (HB35.out.trans (hb6.mono HB35.out.size))
  have HO6 := Lib.hid (HO5.out.step hb6)
  have HSP := Lib.hid (spare_any j0 j1 kd' a' ⟨tx'.toArray⟩ gp rs'.length cp rs' u0 u1 on' w6 rfl (by have := HNP.out; omega) (Rp.own_below HOWN3.out HB36.out))
  unfold opV at HSP
  have lx := ldO_run ((HB36.out.block _ (Array.getElem?_eq_some_iff.1 HY3.out).1).trans HY3.out)
  clear lc lo lp hb6
  go_wp2_with fail
  refine HSP.out.mono ?_
  rintro e w7 ⟨rfl, hb7⟩
  have HO7 := Lib.hid (HO6.out.step hb7)
  clear hb7 HSP lx
  go_wp2_with fail
  go_ret
  exact ⟨by first | rfl | simp, HO7.out.below⟩
set_option maxRecDepth 100000 in
set_option maxHeartbeats 4000000 in
theorem asks_5 (s : StepV) (gl cl : Nat) (w : World) (hk : s.kind = 5) (hok : s.Ok w) (hg : Ranges w (some ⟨gl, 0, none⟩) s.o.rs.length s.o.rs) (hE : Bars w) :
    Calls Tryz.prog 22 #[.agg s.cells, opV s.o.i0 s.o.i1 s.o.kd s.o.a ⟨s.o.tx.toArray⟩ (.slice (some ⟨gl, 0, none⟩) s.o.rs.length cl) s.o.t0 s.o.t1 s.o.on] w (AskRes w) := by
  obtain ⟨kind, ⟨i0, i1, kd, a, tx, rs, t0, t1, on⟩, oA, oc, ⟨j0, j1, kd', a', tx', rs', u0, u1, on'⟩, pA, pc, total, line⟩ := s
  simp only at hk hg ⊢
  subst hk
  have HOK := Lib.hid hok
  have HG := Lib.hid hg
  have HE := Lib.hid hE
  have hno := hok.no
  have hto := hok.so
  have hnp := hok.np
  have htp := hok.sp
  have hli := hok.li
  simp only at hno hto hnp htp hli
  have HC := Lib.hid (fun (W : World) (hW : Below w.heap.size w W) => Clone_some ⟨i0, i1, kd, a, tx, rs, t0, t1, on⟩ gl cl W (by simp only; omega) (hg.below hW))
  have HQ := Lib.hid (fun (A' : Option Addr) (c' : Nat) (W : World) (hW : Below w.heap.size w W) (h2 : Ranges W A' rs.length rs) => requal_any ⟨i0, i1, kd, a, tx, rs, t0, t1, on⟩ ⟨i0, i1, kd, a, tx, rs, t0, t1, on⟩ A' oA c' oc W (by simp only; omega) h2 (hok.ro.below hW))
  rw [decide_eq_true (rfl : (⟨i0, i1, kd, a, tx, rs, t0, t1, on⟩ : OpL) = ⟨i0, i1, kd, a, tx, rs, t0, t1, on⟩)] at HQ
  unfold OpL.val at HC HQ
  unfold CloneRes at HC
  simp only at HC HQ
  have HO := Lib.hid (SB.new w (StepV.cells ⟨5, ⟨i0, i1, kd, a, tx, rs, t0, t1, on⟩, oA, oc, ⟨j0, j1, kd', a', tx', rs', u0, u1, on'⟩, pA, pc, total, line⟩) (opC i0 i1 kd a ⟨tx.toArray⟩ (.slice (some ⟨gl, 0, none⟩) rs.length cl) t0 t1 on))
  unfold opC at HO
  unfold StepV.cells opV at *
  simp only at HO ⊢
  clear hok hg hE hno hto hnp htp hli
  go_enter Tryz.func22, Tryz.ntmps22
  go_upto_region 1 with fail
  obtain ⟨w1, hw1⟩ : ∃ w1, (w.alloc (.cells #[.int .i64 5, .int .i64 i0, .int .i64 i1, .int .i64 kd, .int .i64 a, .string ⟨tx.toArray⟩, .slice oA rs.length oc, .int .i64 t0, .int .i64 t1, .bool on, .int .i64 j0, .int .i64 j1, .int .i64 kd', .int .i64 a', .string ⟨tx'.toArray⟩, .slice pA rs'.length pc, .int .i64 u0, .int .i64 u1, .bool on', .int .i64 total, .string line] 57)).alloc (.cells #[.int .i64 i0, .int .i64 i1, .int .i64 kd, .int .i64 a, .string ⟨tx.toArray⟩, .slice (some ⟨gl, 0, none⟩) rs.length cl, .int .i64 t0, .int .i64 t1, .bool on] 47) = w1 := ⟨_, rfl⟩
  rw [hw1] at HO ⊢
  obtain ⟨gr, hgr⟩ : ∃ gr, w.heap.size = gr := ⟨_, rfl⟩
  have HO : Hid (SB w w1 gr (StepV.cells ⟨5, ⟨i0, i1, kd, a, tx, rs, t0, t1, on⟩, oA, oc, ⟨j0, j1, kd', a', tx', rs', u0, u1, on'⟩, pA, pc, total, line⟩) (opC i0 i1 kd a ⟨tx.toArray⟩ (.slice (some ⟨gl, 0, none⟩) rs.length cl) t0 t1 on)) := Lib.hid (by rw [← hgr]; exact HO.out)
  rw [hgr]
  clear hw1 hgr
  have x0 : w1.cell? ⟨gr, 0, none⟩ = some (.int .i64 5) := HO.out.cell rfl
  have lc := HO.out.ldc
  have lo := HO.out.ldo
  have lp := HO.out.ldp
  simp only at lo lp

  go_wp2_with fail
  refine (HC.out w1 HO.out.below).mono ?_
  rintro e w2 ⟨⟨v2, rfl, ho2⟩, hb2⟩
  obtain ⟨A2, c2, rfl, hr2⟩ := own_rg2 ho2
  have HR2 := Lib.hid hr2
  have HO2 := Lib.hid (HO.out.step hb2)
  have hf := Fresh.new w2 (.int .i64 0) (.int .i64 0) (.int .i64 0) (.int .i64 0) (.string ⟨#[]⟩) (.slice none 0 0) (.int .i64 0) (.int .i64 0) (.bool false)
  clear lc lo lp x0 ho2 hr2 hb2 HC HO
  go_upto_region 21 with fail
  obtain ⟨w3, hw3⟩ : ∃ w3, (w2.alloc (.cells #[.int .i64 0, .int .i64 0, .int .i64 0, .int .i64 0, .string ⟨#[]⟩, .slice none 0 0, .int .i64 0, .int .i64 0, .bool false] 47)).setRow w2.heap.size (opC i0 i1 kd a ⟨tx.toArray⟩ (.slice A2 rs.length c2) t0 t1 on) = w3 := ⟨_, rfl⟩
  obtain ⟨gx, hgx⟩ : ∃ gx, w2.heap.size = gx := ⟨_, rfl⟩
  have hb3 : Below w2.heap.size w2 w3 := by rw [← hw3]; exact below_setRow (below_alloc1 _ _) (Nat.le_refl _) _
  have hy3 : w3.heap[gx]? = some (.cells (opC i0 i1 kd a ⟨tx.toArray⟩ (.slice A2 rs.length c2) t0 t1 on) 47 (0, 0)) := by rw [← hw3, ← hgx]; exact setRow_heap _ _ _ _ _ _ (heap_at rfl)
  unfold opC at hw3
  rw [hw3, hgx]
  have HO3 := Lib.hid (HO2.out.step hb3)
  have HY3 := Lib.hid hy3
  have HR3 := Lib.hid (HR2.out.below hb3)
  have lc := HO3.out.ldc
  have lo := HO3.out.ldo
  have lp := HO3.out.ldp
  simp only at lo lp
  have lx := ldO_run hy3
  clear hf hw3 hgx hb3 hy3 HO2
  go_wp2_with fail
  refine (HQ.out A2 c2 w3 HO3.out.below HR3.out).mono ?_
  rintro e w4 ⟨rfl, hb4⟩
  have HO4 := Lib.hid (HO3.out.step hb4)
  clear lc lo lp lx hb4
  go_wp2_with fail
  go_ret
  exact ⟨by first | rfl | simp, HO4.out.below⟩
set_option maxRecDepth 100000 in
set_option maxHeartbeats 4000000 in
theorem asks_6 (s : StepV) (gl cl : Nat) (w : World) (hk : s.kind = 6) (hok : s.Ok w) (hg : Ranges w (some ⟨gl, 0, none⟩) s.o.rs.length s.o.rs) (hE : Bars w) :
    Calls Tryz.prog 22 #[.agg s.cells, opV s.o.i0 s.o.i1 s.o.kd s.o.a ⟨s.o.tx.toArray⟩ (.slice (some ⟨gl, 0, none⟩) s.o.rs.length cl) s.o.t0 s.o.t1 s.o.on] w (AskRes w) := by
  obtain ⟨kind, ⟨i0, i1, kd, a, tx, rs, t0, t1, on⟩, oA, oc, ⟨j0, j1, kd', a', tx', rs', u0, u1, on'⟩, pA, pc, total, line⟩ := s
  simp only at hk hg ⊢
  subst hk
  have HOK := Lib.hid hok
  have HG := Lib.hid hg
  have HE := Lib.hid hE
  have hno := hok.no
  have hto := hok.so
  have hnp := hok.np
  have htp := hok.sp
  have hli := hok.li
  simp only at hno hto hnp htp hli
  obtain ⟨⟨k, ps, er⟩, hck⟩ : ∃ x, chk (⟨tx.toArray⟩ : ByteArray).data.toList = x := ⟨_, rfl⟩
  obtain ⟨E, hE2⟩ : ∃ E, ownE i0 i1 kd a ⟨tx.toArray⟩ k er rs t0 t1 on = E := ⟨_, rfl⟩
  have HC := Lib.hid (fun (W : World) (hW : Below w.heap.size w W) => Inverse_any i0 i1 kd a ⟨tx.toArray⟩ (some ⟨gl, 0, none⟩) rs.length cl rs t0 t1 on k ps er hck W (by rw [L_size]; unfold maxLen; omega) (by omega) (hg.below hW) (hE.below hW) E hE2)
  have HD := Lib.hid (fun (W : World) (hW : Below w.heap.size w W) => rinverse_any i0 i1 kd a ⟨tx.toArray⟩ oA rs.length oc rs t0 t1 on k ps er hck W (by rw [L_size]; omega) (by omega) (hok.ro.below hW) E hE2)
  have hln := covR_len i0 i1 kd a ⟨tx.toArray⟩ k er rs t0 t1 on hno
  obtain ⟨CV, hCV⟩ : ∃ CV, covR i0 i1 kd a ⟨tx.toArray⟩ k er rs t0 t1 on = CV := ⟨_, rfl⟩
  rw [hCV] at HC HD hln
  obtain ⟨T0, hT0⟩ : ∃ T0, (if E = 0 ∧ kd = 4 then t0 else 0) = T0 := ⟨_, rfl⟩
  obtain ⟨T1, hT1⟩ : ∃ T1, (if E = 0 ∧ kd = 4 then t1 else 0) = T1 := ⟨_, rfl⟩
  obtain ⟨ON, hON⟩ : ∃ ON, (if E = 0 ∧ kd = 4 then !on else false) = ON := ⟨_, rfl⟩
  obtain ⟨KD, hKD⟩ : ∃ KD, invK E kd = KD := ⟨_, rfl⟩
  rw [hT0, hT1, hON, hKD] at HC HD
  have HLN := Lib.hid hln
  have HQ := Lib.hid (fun (A' B' : Option Addr) (c' d' : Nat) (W : World) (h1 : Ranges W A' CV.length CV) (h2 : Ranges W B' CV.length CV) => requal_any ⟨0, 0, KD, 0, [], CV, T0, T1, ON⟩ ⟨0, 0, KD, 0, [], CV, T0, T1, ON⟩ A' B' c' d' W (by simp only; omega) h1 h2)
  rw [decide_eq_true (rfl : (⟨0, 0, KD, 0, [], CV, T0, T1, ON⟩ : OpL) = ⟨0, 0, KD, 0, [], CV, T0, T1, ON⟩)] at HQ
  unfold OpL.val at HQ
  simp only at HQ
  rw [show (⟨([] : List UInt8).toArray⟩ : ByteArray) = ⟨#[]⟩ from rfl] at HQ
  obtain ⟨nv, hnv⟩ : ∃ nv, CV.length = nv := ⟨_, rfl⟩
  rw [hnv] at HQ
  have HNV := Lib.hid hnv
  clear hCV hck hln hT0 hT1 hON hKD hE2 hnv
  have HO := Lib.hid (SB.new w (StepV.cells ⟨6, ⟨i0, i1, kd, a, tx, rs, t0, t1, on⟩, oA, oc, ⟨j0, j1, kd', a', tx', rs', u0, u1, on'⟩, pA, pc, total, line⟩) (opC i0 i1 kd a ⟨tx.toArray⟩ (.slice (some ⟨gl, 0, none⟩) rs.length cl) t0 t1 on))
  unfold opC at HO
  unfold StepV.cells opV at *
  simp only at HO ⊢
  clear hok hg hE hno hto hnp htp hli
  go_enter Tryz.func22, Tryz.ntmps22
  go_upto_region 1 with fail
  obtain ⟨w1, hw1⟩ : ∃ w1, (w.alloc (.cells #[.int .i64 6, .int .i64 i0, .int .i64 i1, .int .i64 kd, .int .i64 a, .string ⟨tx.toArray⟩, .slice oA rs.length oc, .int .i64 t0, .int .i64 t1, .bool on, .int .i64 j0, .int .i64 j1, .int .i64 kd', .int .i64 a', .string ⟨tx'.toArray⟩, .slice pA rs'.length pc, .int .i64 u0, .int .i64 u1, .bool on', .int .i64 total, .string line] 57)).alloc (.cells #[.int .i64 i0, .int .i64 i1, .int .i64 kd, .int .i64 a, .string ⟨tx.toArray⟩, .slice (some ⟨gl, 0, none⟩) rs.length cl, .int .i64 t0, .int .i64 t1, .bool on] 47) = w1 := ⟨_, rfl⟩
  rw [hw1] at HO ⊢
  obtain ⟨gr, hgr⟩ : ∃ gr, w.heap.size = gr := ⟨_, rfl⟩
  have HO : Hid (SB w w1 gr (StepV.cells ⟨6, ⟨i0, i1, kd, a, tx, rs, t0, t1, on⟩, oA, oc, ⟨j0, j1, kd', a', tx', rs', u0, u1, on'⟩, pA, pc, total, line⟩) (opC i0 i1 kd a ⟨tx.toArray⟩ (.slice (some ⟨gl, 0, none⟩) rs.length cl) t0 t1 on)) := Lib.hid (by rw [← hgr]; exact HO.out)
  rw [hgr]
  clear hw1 hgr
  have x0 : w1.cell? ⟨gr, 0, none⟩ = some (.int .i64 6) := HO.out.cell rfl
  have lc := HO.out.ldc
  have lo := HO.out.ldo
  have lp := HO.out.ldp
  simp only at lo lp

  go_wp2_with fail
  refine (HC.out w1 HO.out.below).mono ?_
  rintro e w2 ⟨⟨A2', m2, c2, rfl, ho2⟩, hb2⟩
  obtain ⟨A2, c2', e2, hr2⟩ := own_rg2 ho2
  obtain ⟨rfl, rfl, rfl⟩ : A2' = A2 ∧ m2 = CV.length ∧ c2 = c2' := by cases e2; exact ⟨rfl, rfl, rfl⟩
  unfold opV
  rw [HNV.out] at hr2 ⊢
  have HR2 := Lib.hid hr2
  have HO2 := Lib.hid (HO.out.step hb2)
  have hf := Fresh.new w2 (.int .i64 0) (.int .i64 0) (.int .i64 0) (.int .i64 0) (.string ⟨#[]⟩) (.slice none 0 0) (.int .i64 0) (.int .i64 0) (.bool false)
  clear lc lo lp x0 ho2 hr2 hb2 HC HO e2
  go_upto_region 24 with fail
  obtain ⟨w3, hw3⟩ : ∃ w3, (w2.alloc (.cells #[.int .i64 0, .int .i64 0, .int .i64 0, .int .i64 0, .string ⟨#[]⟩, .slice none 0 0, .int .i64 0, .int .i64 0, .bool false] 47)).setRow w2.heap.size (opC 0 0 KD 0 ⟨#[]⟩ (.slice A2' nv c2) T0 T1 ON) = w3 := ⟨_, rfl⟩
  obtain ⟨gx, hgx⟩ : ∃ gx, w2.heap.size = gx := ⟨_, rfl⟩
  have hb3 : Below w2.heap.size w2 w3 := by rw [← hw3]; exact below_setRow (below_alloc1 _ _) (Nat.le_refl _) _
  have hy3 : w3.heap[gx]? = some (.cells (opC 0 0 KD 0 ⟨#[]⟩ (.slice A2' nv c2) T0 T1 ON) 47 (0, 0)) := by rw [← hw3, ← hgx]; exact setRow_heap _ _ _ _ _ _ (heap_at rfl)
  unfold opC at hw3
  rw [hw3, hgx]
  have HO3 := Lib.hid (HO2.out.step hb3)
  have HY3 := Lib.hid hy3
  have HR3 := Lib.hid (HR2.out.below hb3)
  have lc := HO3.out.ldc
  have lo := HO3.out.ldo
  have lp := HO3.out.ldp
  simp only at lo lp
  clear hf hw3 hgx hb3 hy3 HO2
  go_wp2_with fail
  refine (HD.out w3 HO3.out.below).mono ?_
  rintro e w4 ⟨⟨A4', m4, c4, rfl, ho4⟩, hb4⟩
  obtain ⟨A4, c4', e4, hr4⟩ := own_rg2 ho4
  obtain ⟨rfl, rfl, rfl⟩ : A4' = A4 ∧ m4 = CV.length ∧ c4 = c4' := by cases e4; exact ⟨rfl, rfl, rfl⟩
  unfold opV
  rw [HNV.out] at hr4 ⊢
  have HR4 := Lib.hid hr4
  have HB34 := Lib.hid hb4
  have HO4 := Lib.hid (HO3.out.step hb4)
  have hf := Fresh.new w4 (.int .i64 0) (.int .i64 0) (.int .i64 0) (.int .i64 0) (.string ⟨#[]⟩) (.slice none 0 0) (.int .i64 0) (.int .i64 0) (.bool false)
  clear lc lo lp ho4 hr4 hb4 HD e4
  go_upto_region 25 with fail
  obtain ⟨w5, hw5⟩ : ∃ w5, (w4.alloc (.cells #[.int .i64 0, .int .i64 0, .int .i64 0, .int .i64 0, .string ⟨#[]⟩, .slice none 0 0, .int .i64 0, .int .i64 0, .bool false] 47)).setRow w4.heap.size (opC 0 0 KD 0 ⟨#[]⟩ (.slice A4' nv c4) T0 T1 ON) = w5 := ⟨_, rfl⟩
  obtain ⟨gz, hgz⟩ : ∃ gz, w4.heap.size = gz := ⟨_, rfl⟩
  have hb5 : Below w4.heap.size w4 w5 := by rw [← hw5]; exact below_setRow (below_alloc1 _ _) (Nat.le_refl _) _
  have hy5 : w5.heap[gz]? = some (.cells (opC 0 0 KD 0 ⟨#[]⟩ (.slice A4' nv c4) T0 T1 ON) 47 (0, 0)) := by rw [← hw5, ← hgz]; exact setRow_heap _ _ _ _ _ _ (heap_at rfl)
  unfold opC at hw5
  rw [hw5, hgz]
  have HO5 := Lib.hid (HO4.out.step hb5)
  have HY5 := Lib.hid hy5
  have HB35 := Lib.hid (HB34.out.trans (hb5.mono HB34.out.size))
  have HR5 := Lib.hid (HR4.out.below hb5)
  have lz := ldO_run hy5
  have lx := ldO_run ((HB35.out.block _ (Array.getElem?_eq_some_iff.1 HY3.out).1).trans HY3.out)
  clear hf hw5 hgz hb5 hy5 HO4
  go_wp2_with fail
  refine (HQ.out A2' A4' c2 c4 w5 (HR3.out.below HB35.out) HR5.out).mono ?_
  rintro e w6 ⟨rfl, hb6⟩
  have HO6 := Lib.hid (HO5.out.step hb6)
  clear lx lz hb6
  go_wp2_with fail
  go_ret
  exact ⟨by first | rfl | simp, HO6.out.below⟩
end
end Go.Proofs.YtkdhomiieenfnaaGreatDoor.K
