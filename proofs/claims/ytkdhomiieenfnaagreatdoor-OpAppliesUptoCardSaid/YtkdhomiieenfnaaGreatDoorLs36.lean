/- All cells as the fewest runs: the walk's step, Runs. redraftlaw04.made: a row of right cells. redraftlaw04.runs: a row as the fewest runs. -/
import Derived.Test.YtkdhomiieenfnaaGreatDoorLs35
import Derived.Laws.EntriesVeiled
import Derived.Test.YtkdhomiieenfnaaGreatDoorLs2
import Derived.Deep.RegionHeld3
import Derived.Deep.QuietTactic
import Derived.BigQuiet
import Derived.Deep.DeepCutAuto
namespace Go.Proofs.YtkdhomiieenfnaaGreatDoor.Rp
open Go.RowKit Go.Proofs Go.Shelf Go.Proofs.YtkdhomiieenfnaaGreatDoor.U Go.Proofs.YtkdhomiieenfnaaGreatDoor.Txt Go.Proofs.YtkdhomiieenfnaaGreatDoor.Sh
set_option linter.unusedVariables false
set_option linter.unusedSimpArgs false

/-- The counter's box set anew. -/
theorem JR.setHid {W0 w : World} {p : Nat} {s : RunS} {h : Int} (hj : JR W0 p s w) : JR W0 p ⟨s.out, s.b, h⟩ (w.setCell ⟨W0.heap.size + 2, 0, none⟩ (.int .i64 h)) ∧ KeepT w (w.setCell ⟨W0.heap.size + 2, 0, none⟩ (.int .i64 h)) := by
  obtain ⟨v, h1, h2⟩ := hj.out
  have hk : Lib.OthersKept 35 (some (W0.heap.size + 2)) w (w.setCell ⟨W0.heap.size + 2, 0, none⟩ (.int .i64 h)) := (Lib.OthersKept.refl _ _ _).setCell ⟨W0.heap.size + 2, 0, none⟩ rfl _
  have hoth : ∀ k, k ≠ W0.heap.size + 2 → (w.setCell ⟨W0.heap.size + 2, 0, none⟩ (.int .i64 h)).heap[k]? = w.heap[k]? := fun k hk => by simp [World.setCell, Array.getElem?_modify, Ne.symm hk]
  exact ⟨⟨⟨v, (hoth _ (by omega)).trans h1, own_others h2 hk (by decide) hj.hid (by decide)⟩, bld_others hj.bld hk (by decide) (by decide) hj.hid (by decide) (by decide), by simp [World.setCell, Array.getElem?_modify, hj.hid], (hoth _ (by omega)).trans hj.fn, hj.lo, hj.lb, hj.below.setCell (p := ⟨W0.heap.size + 2, 0, none⟩) (by simp) _⟩, KeepT.set hj.hid (by unfold RopeT; decide)⟩
set_option maxRecDepth 100000 in
set_option maxHeartbeats 8000000 in
theorem runs_step (W0 : World) (s : RunS) (a : Nat) (q : Pce) (v : Value) (w : World) (hj : JR W0 a s w) (hp : Pc w v q.1 q.2) (hne : q.1 ≠ []) (hpr : ∀ r ∈ q.1, TxtRune r) (ha : a + q.1.length ≤ 2097152) :
    Calls Tryz.prog 54 (#[.int .i64 (a : Nat), v] ++ #[.pointer (some ⟨W0.heap.size + 2, 0, none⟩), .pointer (some ⟨W0.heap.size + 3, 0, none⟩), .pointer (some ⟨W0.heap.size + 1, 0, none⟩)]) w (Walked (fun _ p s w => JR W0 p s w) (stepR s a q) (a + q.1.length) w) := by
  have HJ := Lib.hid hj
  have HPR := Lib.hid hpr
  obtain ⟨rs, h⟩ := q
  obtain ⟨A, c, rfl, hc, hr⟩ := hp
  simp only at hr hne ha hc HPR ⊢
  obtain ⟨n, hn⟩ : ∃ n, rs.length = n := ⟨_, rfl⟩
  have hn0 := List.length_pos_iff.2 hne
  rw [hn] at ha hc hn0 ⊢
  have HN := Lib.hid hn
  have HR := Lib.hid hr
  obtain ⟨N, hN⟩ : ∃ N, W0.heap.size = N := ⟨_, rfl⟩
  have HNN := Lib.hid hN
  rw [hN]
  -- the loop, from whatever world it begins in
  have f0 := one_cell hj.hid
  have f1 := one_cell hj.fn
  rw [hN] at f0 f1
  have d0 := fun o => cell_below (below_alloc1 w o) f0
  have d1 := fun o => cell_below (below_alloc1 w o) f1
  obtain ⟨hd, hhd⟩ : ∃ hd, s.hid = hd := ⟨_, rfl⟩
  rw [hhd] at f0 d0
  have HHD := Lib.hid hhd
  have hcell := (show Cells32 w A rs from hr.cells)
  have hEND := Lib.hid (fun (W : World) (hW : JR W0 a s W) => end_any W0 a s W hW (by omega))
  rw [hN] at hEND
  have e47 : ∀ args w, (callFunc 49 args).run Tryz.prog w = .ok (.enter 49 args) w := enters_of Tryz.func49 (by kernel_rfl) rfl
  have HAB := Lib.hid ha
  clear hj hpr hne hn hN hhd hr hcell f0 f1
  obtain ⟨s1, hs1⟩ : ∃ s1 : RunS, s1 = if h = hd then s else ⟨endR s, [], h⟩ := ⟨_, rfl⟩
  have HS1 := Lib.hid hs1
  have HS := Lib.hid (show stepR s a (rs, h) = (⟨s1.out, s1.b ++ rs, s1.hid⟩, true) by
    unfold stepR
    rw [hs1, ← HHD.out]
    by_cases hq : h = s.hid
    · rw [if_pos hq, if_pos hq]
    · rw [if_neg hq, if_neg hq]; rfl)
  have HLB := Lib.hid (show s1.b.length ≤ a by
    rw [hs1]
    split
    · exact HJ.out.lb
    · exact Nat.zero_le _)
  rw [HS.out]
  clear hs1
  go_enter Tryz.func54, Tryz.ntmps54
  go_upto_region 1 with fail
  obtain ⟨w1, hw1⟩ : ∃ w1, w.alloc (.cells #[.slice A n c, .int .i64 h] 114) = w1 := ⟨_, rfl⟩
  obtain ⟨gr, hgr⟩ : ∃ gr, w.heap.size = gr := ⟨_, rfl⟩
  have HB1 := Lib.hid (show Below w.heap.size w w1 by rw [← hw1]; exact below_alloc1 _ _)
  have hy1 : w1.heap[gr]? = some (.cells #[.slice A n c, .int .i64 h] 114 (0, 0)) := by rw [← hw1, ← hgr]; exact heap_at rfl
  have e0 := d0 (.cells #[.slice A n c, .int .i64 h] 114)
  have e1 := d1 (.cells #[.slice A n c, .int .i64 h] 114)
  rw [hw1] at e0 e1
  rw [hw1, hgr]
  have HY1 := Lib.hid hy1
  have y0 : w1.cell? ⟨gr, 0, none⟩ = some (.slice A n c) := by rw [Lib.cell_of_heap hy1]; rfl
  have y1 : w1.cell? ⟨gr, 1, none⟩ = some (.int .i64 h) := by rw [Lib.cell_of_heap hy1]; rfl
  have HJ1 := Lib.hid (HJ.out.step HB1.out)
  clear d0 d1 hw1 hgr hy1
  go_upto_if 13 with fail
  go_cut [14, 15, 16, 17] (fun _ _ _ _ wx => JR W0 (a + 1) s1 wx ∧ KeepT w1 wx)
  case first =>
    by_cases hq : h = hd
    · have b1 : (h == hd) = true := by simpa using hq
      have b2 : (h != hd) = false := by simp [hq]
      have HF := Lib.hid (show JR W0 (a + 1) s1 w1 by rw [HS1.out, if_pos hq]; exact HJ1.out.mono (Nat.le_succ _))
      clear hq
      go_wp2_with fail
      go_meet
      exact ⟨HF.out, KeepT.refl _⟩
    · have b1 : (h == hd) = false := by simpa using hq
      have b2 : (h != hd) = true := by simp [hq]
      have HSE := Lib.hid (show s1 = ⟨endR s, [], h⟩ by rw [HS1.out, if_neg hq])
      have HE := Lib.hid (hEND.out w1 HJ1.out)
      clear hq
      go_wp2_with (go_at_fn 49; refine HE.out.mono ?_; rintro e w2 ⟨rfl, hj2, hk2⟩; have hy2 := (hk2.2 _ _ _ _ HY1.out (.inr (.inr (.inr rfl)))).trans HY1.out; have z1 : w2.cell? ⟨gr, 1, none⟩ = some (.int .i64 h) := (by rw [Lib.cell_of_heap hy2]; rfl); have hh2 := hj2.hid; rw [HNN.out] at hh2; have z2 := one_cell hh2; have z3 := (one_facts hh2).2.1; have z4 := (one_facts hh2).2.2; have HJ2 := Lib.hid (hj2.setHid (h := h)); have HK2 := Lib.hid hk2; clear hj2 hk2 hy2 hh2 e0 e1 y0 y1)
      go_meet
      have hn := HNN.out
      have h9 := HJ2.out
      subst hn
      rw [HSE.out]
      exact ⟨h9.1, HK2.out.trans h9.2⟩
  case rest =>
    obtain ⟨hj2, hk2⟩ := hcut
    obtain ⟨w2, hw2⟩ : ∃ w2, wc = w2 := ⟨_, rfl⟩
    rw [hw2] at hj2 hk2 ⊢
    have HJ2 := Lib.hid hj2
    have HK2 := Lib.hid ((KeepT.of_below HB1.out).trans hk2)
    have hy2 := (hk2.2 _ _ _ _ HY1.out (.inr (.inr (.inr rfl)))).trans HY1.out
    have z0 : w2.cell? ⟨gr, 0, none⟩ = some (.slice A n c) := by rw [Lib.cell_of_heap hy2]; rfl
    clear hj2 hk2 hy2 hw2 e0 e1 y0 y1
    go_wp2_with fail
    clear z0
    go_loopw [21] (fun i wr => ∃ k : Nat, k ≤ n ∧ i = .int .i64 k ∧ TBld (N + 1) (N + 1) (s1.b ++ rs.take k) wr ∧ Below (N + 1) w2 wr ∧ Lib.OthersKept 5 (some (N + 1)) w2 wr) (fun i _ => n - (intOf i).toNat)
    case atStart => exact ⟨0, Nat.zero_le _, rfl, by rw [List.take_zero, List.append_nil]; have := HJ2.out.bld; rw [HNN.out] at this; exact this, Below.refl _ _, Lib.OthersKept.refl _ _ _⟩
    case round =>
      obtain ⟨k, hk, rfl, hbk, hbb, hok⟩ := hrel
      have HBK := Lib.hid hbk
      have HBB := Lib.hid hbb
      have HOK := Lib.hid hok
      obtain ⟨csb, fzb, hbl2⟩ := bld_block HJ2.out.bld
      rw [HNN.out] at hbl2
      have HKT := Lib.hid (HK2.out.trans (keepT_others hok hbb.size (by unfold RopeT; decide) hbl2 (by unfold RopeT; decide)))
      clear hbk hbb hok hbl2
      by_cases hlt : k < n
      · have hkl : k < rs.length := by have := HN.out; omega
        obtain ⟨ad, rfl, hcs⟩ := (HR.out.keepT HKT.out).cells (by omega)
        have hc := hcs k hkl
        have hrt := HPR.out _ (List.getElem_mem hkl)
        have hsn : rs.take (k + 1) = rs.take k ++ [rs.getD k 0] := by rw [List.take_add_one]; simp [List.getD, List.getElem?_eq_getElem hkl]
        have hgd : rs.getD k 0 = rs[k] := by simp [List.getD, List.getElem?_eq_getElem hkl]
        rw [hgd] at hsn hc
        obtain ⟨r, hrr⟩ : ∃ r, rs[k] = r := ⟨_, rfl⟩
        rw [hrr] at hc hrt hsn
        have HSN := Lib.hid hsn
        have hsz2 := (Array.getElem?_eq_some_iff.1 HJ2.out.hid).1
        rw [HNN.out] at hsz2
        have HC := Lib.hid (TRune (N + 1) (N + 1) (s1.b ++ rs.take k) r wr hrt.1 HBK.out (by rw [List.length_append, List.length_take]; have := HJ2.out.lb; omega) (by have := HBB.out.size; omega))
        clear hcs hrt hsn hgd hrr hkl hsz2
        go_wp2_with fail
        refine HC.out.mono ?_
        rintro e w3 ⟨⟨nn, rfl⟩, hb3, hbb3, hok3⟩
        have HB3 := Lib.hid hb3
        have HBB3 := Lib.hid (HBB.out.trans hbb3)
        have HO3 := Lib.hid (HOK.out.trans hok3)
        clear hb3 hbb3 hok3 hc
        go_wp2_with fail
        go_roundw
        case rel => exact ⟨k + 1, hlt, by go_num, by rw [HSN.out, ← List.append_assoc]; exact HB3.out, HBB3.out, HO3.out⟩
        case measure => simp [intOf]; omega
      · obtain rfl : k = n := by omega
        go_wp2_with fail
        go_ret
        have hn := HNN.out
        have h8 := HBK.out
        have h9 := HOK.out
        have h10 := HBB.out
        rw [List.take_of_length_le (by have := HN.out; omega)] at h8
        subst hn
        exact ⟨rfl, HJ2.out.write h9 (h10.mono (Nat.le_succ _)) h8 (by omega) (by rw [List.length_append, HN.out]; have := HLB.out; omega), HKT.out⟩
set_option maxRecDepth 100000 in
set_option maxHeartbeats 8000000 in
/-- Runs' contract. -/
theorem Runs_any (b : Nat) (cs : List Cl) (w : World) (hR : Rope w b cs) (hpr : ∀ c ∈ cs, TxtRune c.1) :
    Calls Tryz.prog 20 #[.pointer (some ⟨b, 0, none⟩)] w fun e w' => (∃ v, e = .returned v ∧ w'.ownsRow w.heap.size 68 2 v (runsL cs).length (runCells (runsL cs))) ∧ Below w.heap.size w w' := by
  have HR := Lib.hid hR
  have HPR := Lib.hid hpr
  have hmf : ∀ (fn : Fn) (first cap : Array Value) (w : World), (Instr.makeFunc fn first cap).run Tryz.prog w = .ok (.func fn first cap) w := fun _ _ _ _ => rfl
  have e47 : ∀ args w, (callFunc 49 args).run Tryz.prog w = .ok (.enter 49 args) w := enters_of Tryz.func49 (by kernel_rfl) rfl
  obtain ⟨v, t, h1, h2, h3⟩ := hR
  have c0 : w.cell? ⟨b, 0, none⟩ = some v := by rw [Lib.cell_of_heap h1]; rfl
  have hbw := (Array.getElem?_eq_some_iff.1 h1).1
  obtain ⟨av, rfl⟩ := h2.tr.ptr
  have HT := Lib.hid h2
  have HCT := Lib.hid h3
  have HCC := Lib.hid (fun (W : World) (hb : Below w.heap.size w W) => (cell_below hb c0))
  have c1 := fun o1 o2 o3 o4 => HCC.out ((((w.alloc o1).alloc o2).alloc o3).alloc o4) (((((Below.refl _ _).alloc (Nat.le_refl _) o1).alloc (by simp) o2).alloc (by simp; omega) o3).alloc (by simp; omega) o4)
  have HW := Lib.hid (fun (W : World) (hW : Below w.heap.size w W) (hj : JR w 0 ⟨[], [], 0⟩ W) => walk_any 54 #[.pointer (some ⟨w.heap.size + 2, 0, none⟩), .pointer (some ⟨w.heap.size + 3, 0, none⟩), .pointer (some ⟨w.heap.size + 1, 0, none⟩)] stepR (fun _ p s W => JR w p s W) TxtRune 0 (by omega) (enters_of Tryz.func54 (by kernel_rfl) rfl)
    (fun a s w1 w2 h hb => h.step hb) (fun go a a' s w1 hp h => h.mono hp) (fun s a q v W h1 h2 h3 h4 h5 h6 h7 => runs_step w s a q v W h1 h2 h3 h4 h6) (hgt t) t (.pointer av) 0 ⟨[], [], 0⟩ W (Nat.le_refl _) (by have := HT.out.len; omega) (by rw [HCT.out]; exact HPR.out) (HT.out.below hW) hj)
  have HFN := Lib.hid (runs_all (pcs t) HT.out.wf.pcs)
  rw [flat_pcs, HCT.out] at HFN
  rw [show (((0 : Nat)) : Int) = 0 from rfl] at HW
  obtain ⟨r, hr⟩ : ∃ r, walkF stepR 0 0 (pcs t) ⟨[], [], 0⟩ = r := ⟨_, rfl⟩
  rw [hr] at HW HFN
  clear h1 h2 h3 hpr hr
  go_enter Tryz.func20, Tryz.ntmps20
  go_wp2_with fail
  rw [show w.heap.size + 1 + 1 + 1 = w.heap.size + 3 from rfl, show w.heap.size + 1 + 1 = w.heap.size + 2 from rfl]
  obtain ⟨w4, hw4⟩ : ∃ w4, (((w.alloc (.cells #[.slice none 0 0] 35)).alloc (.cells #[.pointer none, .slice none 0 0] 111)).alloc (.cells #[.int .i64 0] 3)).alloc (.cells #[.func (.func 49) #[] #[.pointer (some ⟨w.heap.size + 1, 0, none⟩), .pointer (some ⟨w.heap.size, 0, none⟩), .pointer (some ⟨w.heap.size + 2, 0, none⟩)]] 1) = w4 := ⟨_, rfl⟩
  have hB4 : Below w.heap.size w w4 := by rw [← hw4]; exact ((((Below.refl _ _).alloc (Nat.le_refl _) _).alloc (by simp) _).alloc (by simp; omega) _).alloc (by simp; omega) _
  have hJ4 : JR w 0 ⟨[], [], 0⟩ w4 := by
    have hbl := (Bld.new (w.alloc (.cells #[.slice none 0 0] 35)))
    rw [show (w.alloc (.cells #[.slice none 0 0] 35)).heap.size = w.heap.size + 1 by simp] at hbl
    refine ⟨⟨.slice none 0 0, ?_, ⟨rfl, .inl ⟨rfl, rfl⟩⟩⟩, ?_, ?_, ?_, Nat.le_refl _, Nat.le_refl _, hB4⟩
    · rw [← hw4, Lib.alloc_old _ _ _ (by simp; omega), Lib.alloc_old _ _ _ (by simp; omega), Lib.alloc_old _ _ _ (by simp)]; exact heap_at rfl
    · rw [← hw4]
      exact (hbl.below (below_alloc1 _ _)).below (below_alloc1 _ _)
    · rw [← hw4, Lib.alloc_old _ _ _ (by simp)]; exact heap_at (by simp)
    · rw [← hw4]; exact heap_at (by simp)
  rw [hw4]
  have HC := Lib.hid (HW.out w4 hB4 hJ4)
  clear hw4 hB4 hJ4 c0 c1
  refine HC.out.mono ?_
  rintro e w5 ⟨rfl, hj5, hk5⟩
  have HJ5 := Lib.hid hj5
  have f5 := one_cell hj5.fn
  have HE := Lib.hid (end_any w _ r.1 w5 hj5 (by have := HT.out.len; omega))
  clear hj5 hk5 HC
  go_wp2_with (go_at_fn 49; refine HE.out.mono ?_; rintro e w6 ⟨rfl, hj6, hk6⟩; obtain ⟨v6, hx6, ho6⟩ := hj6.out; have y6 := one_cell hx6; have HO6 := Lib.hid ho6; have HB6 := Lib.hid hj6.below; clear hj6 hk6 hx6 ho6 f5)
  go_ret
  refine ⟨⟨v6, rfl, ?_⟩, HB6.out⟩
  have h9 := HO6.out
  rw [HFN.out] at h9
  exact own_base h9 (Nat.le_succ _)
end Go.Proofs.YtkdhomiieenfnaaGreatDoor.Rp

namespace Go.Proofs.YtkdhomiieenfnaaGreatDoor.Lw
open Go.RowKit Go.Proofs Go.Proofs.YtkdhomiieenfnaaGreatDoor.U Go.Proofs.YtkdhomiieenfnaaGreatDoor.Txt Go.Proofs.YtkdhomiieenfnaaGreatDoor.Rp Go.Proofs.YtkdhomiieenfnaaGreatDoor.O
set_option linter.unusedVariables false
set_option linter.unusedSimpArgs false

/-- Right cells. -/
def Good (cs : List Cl) : Prop := ∀ c ∈ cs, TxtRune c.1 ∧ 0 ≤ c.2 ∧ c.2 ≤ M
theorem Good.snoc {cs : List Cl} {r h : Int} (hc : Good cs) (hr : TxtRune r) (hh : 0 ≤ h ∧ h ≤ M) : Good (cs ++ [(r, h)]) := fun c hc' => by
  rcases List.mem_append.1 hc' with h1 | h1
  · exact hc c h1
  · rw [List.mem_singleton.1 h1]; exact ⟨hr, hh⟩
def clCells (cs : List Cl) : List Value := cs.flatMap fun c => [.int .i32 c.1, .int .i64 c.2]
theorem clCells_snoc (cs : List Cl) (r h : Int) : clCells (cs ++ [(r, h)]) = clCells cs ++ [.int .i32 r, .int .i64 h] := by simp [clCells]
theorem infoCell : (Tryz.prog.info? 80).map (fun i => (i.zero, i.size, i.bytes)) = some (some (.agg #[.int .i32 0, .int .i64 0]), 2, 16) := by kernel_rfl
theorem own_set {w : World} {B e size n gr i : Nat} {v u : Value} {xs : List Value} (h : w.ownsRow B e size v n xs) (hne : v.ownBlock ≠ some gr) : (w.setCell ⟨gr, i, none⟩ u).ownsRow B e size v n xs := by
  refine ⟨h.1, h.2.imp id ?_⟩
  rintro ⟨g, cap, cur, hv, hbg, hg, rest⟩
  have hgg : g ≠ gr := fun e => hne (by rw [hv, e]; rfl)
  exact ⟨g, cap, cur, hv, hbg, by rw [← hg]; simp [World.setCell, Array.getElem?_modify, Ne.symm hgg], rest⟩
/-- A list of raw cells behind a slice. -/
def ReadsC (w : World) (A : Option Addr) (n : Nat) : Prop := n ≤ 17592186044416 ∧ (0 < n → ∃ b off, A = some ⟨b, off, none⟩ ∧ ∀ j, j < n → ∃ r h, w.cell? ⟨b, off + j * 2, none⟩ = some (.int .i32 r) ∧ w.cell? ⟨b, off + j * 2 + 1, none⟩ = some (.int .i64 h))
/-- What made hands back. -/
def MadeRes (n : Nat) (w : World) (e : Ending) (w' : World) : Prop :=
  (∃ v cs, e = .returned v ∧ w'.ownsRow w.heap.size 80 2 v cs.length (clCells cs) ∧ cs.length = min n 400 ∧ Good cs) ∧ Below w.heap.size w w'
set_option maxRecDepth 100000 in
set_option maxHeartbeats 8000000 in
theorem made_any (A : Option Addr) (n c : Nat) (w : World) (hr : ReadsC w A n) : Calls Tryz.prog 12 #[.slice A n c] w (MadeRes n w) := by
  have HR := Lib.hid hr
  obtain ⟨i0, hi0, hz0, hz1, hz2⟩ := info_parts infoCell
  have HI := Lib.hid (And.intro hi0 (And.intro hz0 (And.intro hz1 hz2)))
  have hnb := hr.1
  clear hr hi0 hz0 hz1 hz2
  go_enter Tryz.func12, Tryz.ntmps12
  go_wp2_with fail
  go_loopw [3, 4] (fun v i wr => ∃ (k : Nat) (cs : List Cl), k ≤ n ∧ k ≤ 400 ∧ i = .int .i64 k ∧ wr.ownsRow w.heap.size 80 2 v k (clCells cs) ∧ cs.length = k ∧ Good cs ∧ Below w.heap.size w wr) (fun _ i _ => n - (intOf i).toNat)
  case atStart => exact ⟨0, [], Nat.zero_le _, by omega, rfl, ⟨rfl, .inl ⟨rfl, rfl⟩⟩, rfl, (fun c hc => by cases hc), Below.refl _ _⟩
  case round =>
    obtain ⟨k, cs, hk, hk4, rfl, hown, hlen, hg, hb⟩ := hrel
    have HO := Lib.hid hown
    have HL := Lib.hid hlen
    have HG := Lib.hid hg
    have HB := Lib.hid hb
    clear hown hlen hg hb
    by_cases hlt : k < n ∧ k < 400
    · obtain ⟨g1, g2⟩ := hlt
      have g2' : decide ((k : Int) < 400) = true := by simp; omega
      obtain ⟨b, off, rfl, hcs⟩ := HR.out.2 (by omega)
      obtain ⟨r, h, c1, c2⟩ := hcs k g1
      have e1 := U.cell_below HB.out c1
      have e2 := U.cell_below HB.out c2
      have z1 : (k : Int) < (n : Int) := by omega
      have z2 : (0 : Int) ≤ (k : Int) := by omega
      clear hcs c1 c2
      go_upto_region 5 with fail
      have HK := Lib.hid (fun (W : World) (hW : Below wr.heap.size wr W) => And.intro (U.cell_below hW e1) (U.cell_below hW e2))
      go_region_held3 (fun w' => w'.cell? ⟨b, off + k * 2, none⟩ = some (.int .i32 r) ∧ w'.cell? ⟨b, off + k * 2 + 1, none⟩ = some (.int .i64 h))
        (first | (with_reducible exact HK.out _ (Below.refl _ _).drew) | exact HK.out _ ((Below.refl _ _).drew.alloc (Nat.le_refl _) _))
        (fail)
      obtain ⟨w2, hw2⟩ : ∃ w2, (wr.alloc (.cells #[.int .i32 r, .int .i64 h] 80)).drew = w2 := ⟨_, rfl⟩
      obtain ⟨gr, hgr⟩ : ∃ gr, wr.heap.size = gr := ⟨_, rfl⟩
      have hB2 : Below wr.heap.size wr w2 := by rw [← hw2]; exact (below_alloc1 _ _).drew
      have hy2 : w2.heap[gr]? = some (.cells #[.int .i32 r, .int .i64 h] 80 (0, 0)) := by rw [← hw2, ← hgr]; exact heap_at (w := wr) rfl
      have HB2 := Lib.hid (HB.out.trans (hB2.mono HB.out.size))
      have HO2 := Lib.hid (own_below HO.out hB2)
      have HY2 := Lib.hid hy2
      have HNE := Lib.hid (show u3.ownBlock ≠ some gr from fun e => by have := (HO.out.lt _ e).2; omega)
      have HGR := Lib.hid (show w.heap.size ≤ gr by rw [← hgr]; exact HB.out.size)
      have y0 : w2.cell? ⟨gr, 0, none⟩ = some (.int .i32 r) := by rw [Lib.cell_of_heap hy2]; rfl
      rw [hw2, hgr]
      clear hw2 hgr hB2 hy2 e1 e2 z1 z2 HK
      go_upto_region 6 with fail
      obtain ⟨bad, hbad⟩ : ∃ bad, bad = !decide (r = 10 ∨ (32 ≤ r ∧ r ≤ 126) ∨ (161 ≤ r ∧ r ≤ 55295)) := ⟨_, rfl⟩
      have HBAD := Lib.hid hbad
      clear hbad
      go_cut [49] from 6 to 63 (fun b wx => b = .bool bad ∧ w2 = wx)
      case first =>
        have HC : r = 10 ∨ (r < 10 ∨ (10 < r ∧ r < 32)) ∨ (32 ≤ r ∧ r ≤ 126) ∨ (126 < r ∧ r < 161) ∨ (161 ≤ r ∧ r ≤ 55295) ∨ 55295 < r := by omega
        rcases HC with rfl | h1 | h1 | h1 | h1 | h1
        case inl =>
          go_wp2_with fail
          go_meet
          exact ⟨by rw [HBAD.out]; rfl, rfl⟩
        all_goals
          have b10 : (r != 10) = true := by simp; omega
          go_wp2_with fail
          go_meet
          exact ⟨congrArg Value.bool (by rw [HBAD.out, Bool.eq_iff_iff]; simp; omega), rfl⟩
      case rest =>
        obtain ⟨rfl, rfl⟩ := hcut
        clear y0
        go_upto_if 49 with fail
        go_cut [49] from 6 to 63 (fun _ wx => ∃ r', TxtRune r' ∧ wx.heap[gr]? = some (.cells #[.int .i32 r', .int .i64 h] 80 (0, 0)) ∧ Below w.heap.size w wx ∧ wx.ownsRow w.heap.size 80 2 u3 k (clCells cs))
        case first =>
          have f0 : w2.frozen? ⟨gr, 0, none⟩ = false := Lib.frozen_of_heap HY2.out 0
          have y0 : w2.cell? ⟨gr, 0, none⟩ = some (.int .i32 r) := by rw [Lib.cell_of_heap HY2.out]; rfl
          have f1 := (Array.getElem?_eq_some_iff.1 HY2.out).1
          cases bad with
          | false =>
            go_wp2_with fail
            go_meet
            have hb := HBAD.out
            exact ⟨r, txt_plain (by simp at hb; omega), HY2.out, HB2.out, HO2.out⟩
          | true =>
            go_wp2_with fail
            go_meet
            refine ⟨97, txt_plain (by omega), ?_, HB2.out.setCell (p := ⟨gr, 0, none⟩) HGR.out _, own_set HO2.out HNE.out⟩
            simp [World.setCell, Array.getElem?_modify, HY2.out]
        case rest =>
          obtain ⟨r', htx, hy3, hb3, ho3⟩ := hcut
          obtain ⟨w3, hw3⟩ : ∃ w3, wc = w3 := ⟨_, rfl⟩
          rw [hw3] at hy3 hb3 ho3 ⊢
          have HT := Lib.hid htx
          have HY3 := Lib.hid hy3
          have HB3 := Lib.hid hb3
          have HO3 := Lib.hid ho3
          have y1 : w3.cell? ⟨gr, 1, none⟩ = some (.int .i64 h) := by rw [Lib.cell_of_heap hy3]; rfl
          clear hw3 htx hy3 hb3 ho3 HY2 HO2 HB2
          obtain ⟨bd, hbd⟩ : ∃ bd, bd = (decide (h < 0) || decide (1048576 < h)) := ⟨_, rfl⟩
          have HBD := Lib.hid hbd
          clear hbd
          go_upto_region 8 with fail
          go_cut [58] from 6 to 63 (fun b wx => b = .bool bd ∧ w3 = wx)
          case first =>
            by_cases h1 : h < 0
            · go_wp2_with fail
              go_meet
              exact ⟨congrArg Value.bool (by rw [HBD.out, Bool.eq_iff_iff]; simp; omega), rfl⟩
            · by_cases h2 : 1048576 < h
              · go_wp2_with fail
                go_meet
                exact ⟨congrArg Value.bool (by rw [HBD.out, Bool.eq_iff_iff]; simp; omega), rfl⟩
              · go_wp2_with fail
                go_meet
                exact ⟨congrArg Value.bool (by rw [HBD.out, Bool.eq_iff_iff]; simp; omega), rfl⟩
          case rest =>
            obtain ⟨rfl, rfl⟩ := hcut
            clear y1
            go_upto_if 58 with fail
            go_cut [58] from 6 to 63 (fun _ wx => ∃ h', (0 ≤ h' ∧ h' ≤ M) ∧ wx.heap[gr]? = some (.cells #[.int .i32 r', .int .i64 h'] 80 (0, 0)) ∧ Below w.heap.size w wx ∧ wx.ownsRow w.heap.size 80 2 u3 k (clCells cs))
            case first =>
              have f0 : w3.frozen? ⟨gr, 1, none⟩ = false := Lib.frozen_of_heap HY3.out 1
              have y0 : w3.cell? ⟨gr, 1, none⟩ = some (.int .i64 h) := by rw [Lib.cell_of_heap HY3.out]; rfl
              have f1 := (Array.getElem?_eq_some_iff.1 HY3.out).1
              cases bd with
              | false =>
                go_wp2_with fail
                go_meet
                have hb := HBD.out
                exact ⟨h, by simp at hb; unfold M; omega, HY3.out, HB3.out, HO3.out⟩
              | true =>
                go_wp2_with fail
                go_meet
                refine ⟨0, by unfold M; omega, ?_, HB3.out.setCell (p := ⟨gr, 1, none⟩) HGR.out _, own_set HO3.out HNE.out⟩
                simp [World.setCell, Array.getElem?_modify, HY3.out]
            case rest =>
              obtain ⟨h', hh', hy4, hb4, ho4⟩ := hcut
              obtain ⟨w4, hw4⟩ : ∃ w4, wc = w4 := ⟨_, rfl⟩
              rw [hw4] at hy4 hb4 ho4 ⊢
              have HH := Lib.hid hh'
              have HB4 := Lib.hid hb4
              have HO4 := Lib.hid ho4
              have y2 : w4.cell? ⟨gr, 0, none⟩ = some (.int .i32 r') := by rw [Lib.cell_of_heap hy4]; rfl
              have y3 : w4.cell? ⟨gr, 1, none⟩ = some (.int .i64 h') := by rw [Lib.cell_of_heap hy4]; rfl
              clear hw4 hh' hy4 hb4 ho4 HY3 HO3 HB3
              go_wp2_with (at_builtin; refine wpList_append_lies _ rfl (.tmp 60) (.tmp 62) 37 rfl w.heap.size 80 i0 (.agg #[.int .i32 0, .int .i64 0]) 2 16 Tryz.underlying37 HI.out.1 HI.out.2.1 HI.out.2.2.1 HI.out.2.2.2 rfl (by decide) _ _ _ rfl (own_below HO4.out (below_alloc1 _ _)) _ 1 1 [.int .i32 r', .int .i64 h'] rfl rfl (fun j u hj => news_alloc _ _ _ j u hj) (by simp [Value.oneCell']) (by decide) (by unfold maxLen; omega) (by omega) (by have := HB4.out.size; simp; omega) _ rfl ?_; intro g9 cap9 w9 hown hgrow hat hgl; have HO9 := Lib.hid hown; have HG9 := Lib.hid hgrow; clear hown hgrow hat hgl)
              go_roundw
              case rel => exact ⟨k + 1, cs ++ [(r', h')], by omega, by omega, by go_num, by rw [clCells_snoc]; exact HO9.out, by rw [List.length_append, HL.out]; rfl, HG.out.snoc HT.out HH.out, (HB4.out.alloc HB4.out.size _).grown HG9.out (by have := HB4.out.size; simp; omega) (fun k hk => (HO4.out.lt k hk).1)⟩
              case measure => simp [intOf]; omega
    · have hend : (k < n ∧ decide ((k : Int) < 400) = false) ∨ decide (k < n) = false := by
        by_cases g1 : k < n
        · exact .inl ⟨g1, by simp; omega⟩
        · exact .inr (by simp; omega)
      have hkm : k = min n 400 := by omega
      have HKM := Lib.hid hkm
      clear hlt hkm
      rcases hend with ⟨g1, g2⟩ | g1
      all_goals
        go_wp2_with fail
        go_ret
        exact ⟨⟨_, cs, rfl, by rw [HL.out]; exact HO.out, by rw [HL.out]; exact HKM.out, HG.out⟩, HB.out⟩
end Go.Proofs.YtkdhomiieenfnaaGreatDoor.Lw

namespace Go.Proofs.YtkdhomiieenfnaaGreatDoor.Lw
open Go.RowKit Go.Proofs Go.Proofs.YtkdhomiieenfnaaGreatDoor.U Go.Proofs.YtkdhomiieenfnaaGreatDoor.Txt Go.Proofs.YtkdhomiieenfnaaGreatDoor.Rp Go.Proofs.YtkdhomiieenfnaaGreatDoor.O
set_option linter.unusedVariables false
set_option linter.unusedSimpArgs false

theorem clCells_len (cs : List Cl) : (clCells cs).length = cs.length * 2 := by
  induction cs with
  | nil => rfl
  | cons c cs ih => simp only [clCells, List.flatMap_cons, List.length_append, List.length_cons, List.length_nil] at ih ⊢; omega
theorem clCells_get : ∀ (cs : List Cl) (j : Nat) (h : j < cs.length), (clCells cs)[j * 2]? = some (.int .i32 cs[j].1) ∧ (clCells cs)[j * 2 + 1]? = some (.int .i64 cs[j].2)
  | c :: cs, 0, _ => ⟨rfl, rfl⟩
  | c :: cs, j + 1, h => by
    have := clCells_get cs j (by simpa using h)
    simp only [clCells, List.flatMap_cons] at this ⊢
    refine ⟨?_, ?_⟩
    · rw [List.getElem?_append_right (by simp; omega)]
      simpa [show (j + 1) * 2 - 2 = j * 2 by omega] using this.1
    · rw [List.getElem?_append_right (by simp; omega)]
      simpa [show (j + 1) * 2 + 1 - 2 = j * 2 + 1 by omega] using this.2
/-- Cells behind a slice. -/
def CellsIn (w : World) (A : Option Addr) (cs : List Cl) : Prop := 0 < cs.length → ∃ g off, A = some ⟨g, off, none⟩ ∧ ∀ j (h : j < cs.length), w.cell? ⟨g, off + j * 2, none⟩ = some (.int .i32 cs[j].1) ∧ w.cell? ⟨g, off + j * 2 + 1, none⟩ = some (.int .i64 cs[j].2)
theorem CellsIn.of_own {w : World} {B : Nat} {v : Value} {cs : List Cl} (h : w.ownsRow B 80 2 v cs.length (clCells cs)) : ∃ A c, v = .slice A cs.length c ∧ cs.length ≤ c ∧ CellsIn w A cs := by
  rcases h.2 with ⟨hv, h0⟩ | ⟨g, cap, cur, hv, hbg, hg, hcap, hrest⟩
  · exact ⟨none, 0, by rw [hv, h0], by omega, fun hp => by omega⟩
  · refine ⟨_, cap, hv, hcap, fun hp => ⟨g, 0, rfl, fun j hj => ?_⟩⟩
    obtain ⟨a1, a2⟩ := clCells_get cs j hj
    have e : ∀ k, (⟨g, 0 + k, none⟩ : Addr) = (⟨g, 0, none⟩ : Addr).add k := fun k => by simp [Addr.add]
    exact ⟨by rw [e, h.cells (g := g) (by rw [hv]; rfl) _ _ a1], by rw [show 0 + j * 2 + 1 = 0 + (j * 2 + 1) by omega, e, h.cells (g := g) (by rw [hv]; rfl) _ _ a2]⟩
theorem CellsIn.below {w w1 : World} {A : Option Addr} {cs : List Cl} (h : CellsIn w A cs) (hb : Below w.heap.size w w1) : CellsIn w1 A cs :=
  fun h0 => by obtain ⟨b, off, e, hc⟩ := h h0; exact ⟨b, off, e, fun j hj => ⟨U.cell_below hb (hc j hj).1, U.cell_below hb (hc j hj).2⟩⟩
theorem own_grown {w w' : World} {B e size n B' e' s' n' : Nat} {v v' : Value} {xs xs' : List Value} (h : w.ownsRow B e size v n xs) (h' : w.ownsRow B' e' s' v' n' xs') (hne : e ≠ e') (hg : w.grownBy w' v'.ownBlock) : w'.ownsRow B e size v n xs := by
  refine ⟨h.1, h.2.imp id ?_⟩
  rintro ⟨g, cap, cur, hv, hbg, hgg, rest⟩
  refine ⟨g, cap, cur, hv, hbg, ?_, rest⟩
  rw [hg.block g (Array.getElem?_eq_some_iff.1 hgg).1 (fun e2 => ?_)]
  · exact hgg
  · rcases h'.2 with ⟨rfl, _⟩ | ⟨g', cap', cur', rfl, _, hgg', _⟩
    · simp [Value.ownBlock] at e2
    · simp only [Value.ownBlock, Option.some.injEq] at e2
      subst e2
      rw [hgg] at hgg'
      exact hne (Obj.cells.inj (Option.some.inj hgg')).2.1
/-- Where runs stands. -/
def RInv (cs : List Cl) (k : Nat) (out : List Pce) (l : List Int) : Prop :=
  (l = [] ∧ runsL (cs.take k) = out ∧ ∀ (hk : k < cs.length) q, out.getLast? = some q → q.2 ≠ cs[k].2) ∨ (l ≠ [] ∧ ∃ hk : k < cs.length, runsL (cs.take k) = out ++ [(l, cs[k].2)])
theorem RInv.next {cs : List Cl} {k : Nat} {out : List Pce} {l : List Int} (h : RInv cs k out l) (hk : k < cs.length) : runsL (cs.take (k + 1)) = out ++ [(l ++ [cs[k].1], cs[k].2)] := by
  rw [List.take_succ_eq_append_getElem hk, runsL_snoc]
  rcases h with ⟨rfl, h1, h2⟩ | ⟨h0, _, h1⟩
  · rw [h1]
    rcases List.eq_nil_or_concat out with rfl | ⟨r, x, rfl⟩
    · rfl
    · rw [List.concat_eq_append, addP_snoc, if_neg (h2 hk x (by simp))]; rfl
  · rw [h1, addP_snoc, if_pos rfl]
theorem RInv.end_ {cs : List Cl} {out : List Pce} {l : List Int} (h : RInv cs cs.length out l) : l = [] ∧ runsL cs = out := by
  rcases h with ⟨h0, h1, _⟩ | ⟨_, hk, _⟩
  · rw [List.take_length] at h1; exact ⟨h0, h1⟩
  · omega
theorem runCells_len (l : List Pce) : (runCells l).length = l.length * 2 := by
  induction l with
  | nil => rfl
  | cons r rs ih => simp only [runCells, List.flatMap_cons, List.length_append, List.length_cons, List.length_nil] at ih ⊢; omega
theorem runsL_len : ∀ cs : List Cl, (runsL cs).length ≤ cs.length
  | [] => Nat.le_refl _
  | c :: l => by
    have := runsL_len l
    rw [runsL_cons]
    unfold consP
    split
    · simp
    · rename_i q r h
      rw [h] at this
      split <;> simp only [List.length_cons] at this ⊢ <;> omega
theorem runs_grown {w w3 w9 : World} {n : Nat} {v : Value} {xs : List Value} {o : Obj} (hb : Below w.heap.size w w3) (ho : w3.ownsRow w.heap.size 68 2 v n xs) (hg : (w3.drew.alloc o).grownBy w9 v.ownBlock) : Below w.heap.size w w9 :=
  (hb.drew.alloc hb.size o).grown hg (by have := hb.size; simp; omega) (fun k hk => (ho.lt k hk).1)
set_option maxRecDepth 100000 in
set_option maxHeartbeats 8000000 in
theorem runs_any (A : Option Addr) (c : Nat) (cs : List Cl) (w : World) (hr : CellsIn w A cs) (hl : cs.length ≤ 65536) : Calls Tryz.prog 11 #[.slice A cs.length c] w fun e w' => (∃ v, e = .returned v ∧ w'.ownsRow w.heap.size 68 2 v (runsL cs).length (runCells (runsL cs))) ∧ Below w.heap.size w w' := by
  have HR := Lib.hid hr
  obtain ⟨i0, hi0, hz0, hz1, hz2⟩ := info_parts infoRun
  have HI := Lib.hid (And.intro hi0 (And.intro hz0 (And.intro hz1 hz2)))
  obtain ⟨j0, hj0, hy0, hy1, hy2⟩ := info_parts info32
  have HI2 := Lib.hid (And.intro hj0 (And.intro hy0 (And.intro hy1 hy2)))
  have HRL := Lib.hid (runsL_len cs)
  obtain ⟨n, hn⟩ : ∃ n, cs.length = n := ⟨_, rfl⟩
  rw [hn] at hl ⊢
  have HN := Lib.hid hn
  clear hr hi0 hz0 hz1 hz2 hj0 hy0 hy1 hy2 hn
  go_enter Tryz.func11, Tryz.ntmps11
  go_wp2_with fail
  go_loopw [3, 4, 5] (fun v u i wr => ∃ (k : Nat) (out : List Pce) (l : List Int), k ≤ n ∧ i = .int .i64 k ∧ wr.ownsRow w.heap.size 68 2 v out.length (runCells out) ∧ wr.ownsRow w.heap.size 21 1 u l.length (i32s l) ∧ RInv cs k out l ∧ out.length ≤ k ∧ l.length ≤ k ∧ Below w.heap.size w wr) (fun _ _ i _ => n - (intOf i).toNat)
  case atStart => exact ⟨0, [], [], Nat.zero_le _, rfl, ⟨rfl, .inl ⟨rfl, rfl⟩⟩, ⟨rfl, .inl ⟨rfl, rfl⟩⟩, .inl ⟨rfl, rfl, fun _ q h => by cases h⟩, Nat.le_refl _, Nat.le_refl _, Below.refl _ _⟩
  case round =>
    obtain ⟨k, out, l, hk, rfl, howo, howl, hinv, hol, hll, hb⟩ := hrel
    have HO := Lib.hid howo
    have HL := Lib.hid howl
    have HINV := Lib.hid hinv
    have HB := Lib.hid hb
    clear howo howl hinv hb
    by_cases hlt : k < n
    · have hkl : k < cs.length := by have := HN.out; omega
      obtain ⟨g, off, rfl, hce⟩ := HR.out (by omega)
      have hc := hce k hkl
      have hnx := HINV.out.next hkl
      have hnb : ∀ h : k + 1 < cs.length, wr.cell? ⟨g, off + (k + 1) * 2 + 1, none⟩ = some (.int .i64 cs[k + 1].2) := fun h => U.cell_below HB.out (hce (k + 1) h).2
      have HNB := Lib.hid hnb
      have HCE := Lib.hid (fun (W : World) (hW : Below w.heap.size w W) => And.intro (U.cell_below hW hc.1) (U.cell_below hW hc.2))
      obtain ⟨⟨r, h⟩, hrh⟩ : ∃ c, cs[k] = c := ⟨_, rfl⟩
      rw [hrh] at hc hnx HCE
      simp only at hc hnx HCE
      have HNX := Lib.hid hnx
      have HRH := Lib.hid hrh
      have e1 := U.cell_below HB.out hc.1
      have z1 : (k : Int) < (n : Int) := by omega
      have z2 : (0 : Int) ≤ (k : Int) := by omega
      have hl0 : ∃ A0 c0, u4 = .slice A0 l.length c0 := by
        rcases HL.out.2 with ⟨h1, h0⟩ | ⟨g', cap, cur, hv, _⟩
        · exact ⟨none, 0, by rw [h1, h0]⟩
        · exact ⟨_, cap, hv⟩
      obtain ⟨A0, c0, rfl⟩ := hl0
      obtain ⟨m, hm⟩ : ∃ m, l.length = m := ⟨_, rfl⟩
      rw [hm] at hll HL ⊢
      have HM := Lib.hid hm
      clear hce hc hnx hnb hrh hm
      go_upto_region 6 with fail
      go_wp2_with (at_builtin; refine wpList_append_lies _ rfl (.tmp 12) (.tmp 18) 49 rfl w.heap.size 21 j0 (.int .i32 0) 1 4 Tryz.underlying49 HI2.out.1 HI2.out.2.1 HI2.out.2.2.1 HI2.out.2.2.2 rfl (by decide) _ _ _ rfl (own_below HL.out (below_alloc1 _ _)) _ 1 1 [.int .i32 r] rfl rfl (fun j u hj => news_alloc _ _ _ j u hj) (by simp [Value.oneCell']) (by decide) (by unfold maxLen; omega) (by omega) (by have := HB.out.size; simp; omega) _ rfl ?_; intro g2 cap2 w2 hown2 hgrow2 _ _; have HO2 := Lib.hid hown2; have HG2 := Lib.hid hgrow2; clear hown2 hgrow2)
      have HB2 := Lib.hid (show Below w.heap.size w w2 from (HB.out.alloc HB.out.size _).grown HG2.out (by have := HB.out.size; simp; omega) (fun k hk => (HL.out.lt k hk).1))
      have HO3 := Lib.hid (own_grown (own_below HO.out (below_alloc1 wr (.cells #[.int .i32 r] 21))) (own_below HL.out (below_alloc1 wr (.cells #[.int .i32 r] 21))) (by decide) HG2.out)
      have HNB2 := Lib.hid (fun (hh : k + 1 < cs.length) => (show w2.cell? ⟨g, off + (k + 1) * 2 + 1, none⟩ = some (.int .i64 cs[k + 1].2) by
        obtain ⟨g', off', e, hce⟩ := HR.out (by omega)
        have e2 := Option.some.inj e
        simp only [Addr.mk.injEq] at e2
        rw [e2.1, e2.2.1]
        exact U.cell_below HB2.out (hce (k + 1) hh).2))
      have c1 := (HCE.out w2 HB2.out).2
      clear e1 HNB HG2 HO HL HB
      obtain ⟨bo, hbo⟩ : ∃ bo : Bool, bo = true ↔ (k + 1 = n ∨ ∃ hh : k + 1 < cs.length, cs[k + 1].2 ≠ h) := ⟨decide (k + 1 = n ∨ ∃ hh : k + 1 < cs.length, cs[k + 1].2 ≠ h), by simp⟩
      have HBO := Lib.hid hbo
      clear hbo
      go_upto_region 7 with fail
      have i1 : IntKind.i64.wrap ((k : Int) + 1) = ((k + 1 : Nat) : Int) := by rw [IntWalk.i64_in _ (by omega)]; omega
      obtain ⟨k1, hk1⟩ : ∃ k1, k + 1 = k1 := ⟨_, rfl⟩
      rw [hk1] at HNB2 i1 HBO
      have HK1 := Lib.hid hk1
      clear hk1
      go_cut [38] from 6 to 49 (fun b wx => b = .bool bo ∧ ∃ N, wx = w2.drewN N)
      case first =>
        by_cases hk1n : k1 = n
        · have b1 : ((k1 : Int) == (n : Int)) = true := by simp; omega
          have b1' : (k1 == n) = true := by simpa using hk1n
          have hbt : bo = true := HBO.out.2 (.inl hk1n)
          subst hbt
          clear hk1n
          go_quiet (fail)
          go_wp2_with fail
          go_meet
          exact ⟨rfl, _, rfl⟩
        · have b1 : ((k1 : Int) == (n : Int)) = false := by simp; omega
          have b1' : (k1 == n) = false := by simpa using hk1n
          have hk1l : k1 < cs.length := by have := HK1.out; have := HN.out; omega
          have hc2 := HNB2.out hk1l
          have hboi := HBO.out
          obtain ⟨x, hx⟩ : ∃ x, cs[k1].2 = x := ⟨_, rfl⟩
          rw [hx] at hc2
          have HBX := Lib.hid (show bo = true ↔ x ≠ h by
            rw [hboi]
            constructor
            · rintro (h1 | ⟨_, h1⟩)
              · exact absurd h1 hk1n
              · rw [← hx]; exact h1
            · intro h1; exact .inr ⟨hk1l, by rw [hx]; exact h1⟩)
          have z3 : (k1 : Int) < (n : Int) := by have := HN.out; omega
          have z4 : (0 : Int) ≤ (k1 : Int) := by omega
          clear hboi hx hk1n hk1l
          by_cases hxh : x = h
          · have b2 : (x != h) = false := by simp [hxh]
            have hbf : bo = false := by cases hbb : bo with
              | false => rfl
              | true => exact absurd hxh (HBX.out.1 hbb)
            subst hbf
            clear hxh
            go_quiet (fail)
            go_wp2_with fail
            go_meet
            exact ⟨rfl, _, rfl⟩
          · have b2 : (x != h) = true := by simp [hxh]
            have hbf : bo = true := HBX.out.2 hxh
            subst hbf
            clear hxh
            go_quiet (fail)
            go_wp2_with fail
            go_meet
            exact ⟨rfl, _, rfl⟩
      case rest =>
        obtain ⟨rfl, N, rfl⟩ := hcut
        have HB3 := Lib.hid (below_drewN HB2.out N)
        have HO4 := Lib.hid (show (w2.drewN N).ownsRow w.heap.size 68 2 u3 out.length (runCells out) from own_below HO3.out (below_drewN (Below.refl _ _) N))
        have HL4 := Lib.hid (show (w2.drewN N).ownsRow w.heap.size 21 1 (.slice (some ⟨g2, 0, none⟩) (m + 1) cap2) (m + 1) (i32s l ++ [.int .i32 r]) from own_below HO2.out (below_drewN (Below.refl _ _) N))
        obtain ⟨w3, hw3⟩ : ∃ w3, w2.drewN N = w3 := ⟨_, rfl⟩
        rw [hw3] at HB3 HO4 HL4 ⊢
        clear hw3 c1 HO3 HO2 HB2 HNB2
        have hlr : (l ++ [r]).length = m + 1 := by rw [List.length_append, HM.out]; rfl
        have hli : i32s l ++ [Value.int .i32 r] = i32s (l ++ [r]) := by simp [i32s]
        rw [hli] at HL4
        cases bo with
        | false =>
          have HBF := Lib.hid (show k1 ≠ n ∧ ∀ hh : k1 < cs.length, cs[k1].2 = h by
            have h5 := HBO.out
            simp only [Bool.false_eq_true, false_iff, not_or] at h5
            exact ⟨h5.1, fun hh => Decidable.byContradiction fun e => h5.2 ⟨hh, e⟩⟩)
          clear hlr hli
          go_wp2_with fail
          go_roundw
          case rel =>
            have hk1l : k1 < cs.length := by have := HK1.out; have := HN.out; have := HBF.out.1; omega
            refine ⟨k1, out, l ++ [r], by have := HK1.out; omega, by first | rfl | (have := HK1.out; go_num), HO4.out, by rw [List.length_append, HM.out]; exact HL4.out, ?_, by have := HK1.out; omega, by rw [List.length_append, HM.out]; have := HK1.out; simp; omega, HB3.out⟩
            refine .inr ⟨by simp, hk1l, ?_⟩
            have h9 := HNX.out
            rw [HK1.out] at h9
            rw [h9, HBF.out.2 hk1l]
          case measure => have := HK1.out; simp [intOf]; omega
        | true =>
          have HBT := Lib.hid (HBO.out.1 rfl)
          obtain ⟨K, hK⟩ : ∃ K, Str (l ++ [r]) = K := ⟨_, rfl⟩
          have HKK := Lib.hid hK
          have HCV := Lib.hid (fun (W : World) (ho : W.ownsRow w.heap.size 21 1 (.slice (some ⟨g2, 0, none⟩) (m + 1) cap2) (m + 1) (i32s (l ++ [r]))) => (show (convert 49 9 (.slice (some ⟨g2, 0, none⟩) (m + 1) cap2)).run Tryz.prog W = .ok (.string K) W by
            obtain ⟨A9, c9, hv9, _, hcells9⟩ := own_runes (xs := l ++ [r]) (by rw [hlr]; exact ho)
            have h9 := Value.slice.inj hv9
            have := conv_runes (c := c9) hcells9
            rw [← h9.1, ← h9.2.1, ← h9.2.2, hK] at this
            exact this))
          have HS := Lib.hid (fun (W : World) (hW : Below w3.heap.size w3 W) => And.intro (HCE.out W (HB3.out.trans (hW.mono HB3.out.size))).2 (HCV.out W (own_below HL4.out hW)))
          obtain ⟨s1, s2⟩ := HS.out w3 (Below.refl _ _)
          have z5 : (k : Int) < (n : Int) := by omega
          clear hlr hli hK
          go_upto_region 8 with fail
          go_region_held3 (fun w' => w'.cell? ⟨g, off + k * 2 + 1, none⟩ = some (.int .i64 h) ∧ (convert 49 9 (.slice (some ⟨g2, 0, none⟩) (m + 1) cap2)).run Tryz.prog w' = .ok (.string K) w')
            (first | (with_reducible exact HS9.out) | (with_reducible exact HS.out _ (Below.refl _ _).drew) | exact HS.out _ ((Below.refl _ _).drew.alloc (Nat.le_refl _) _))
            (first
            | (refine step_append_lies _ rfl (.tmp 39) (.tmp 48) 35 rfl w.heap.size 68 i0 (.agg #[.string ⟨#[]⟩, .int .i64 0]) 2 24 Tryz.underlying35 HI.out.1 HI.out.2.1 HI.out.2.2.1 HI.out.2.2.2 rfl (by decide) u3 out.length (runCells out) (by simp [Act.eval, Act.put]) (own_below HO4.out (by first | exact (Below.refl _ _).alloc (Nat.le_refl _) _ | exact (Below.refl _ _).drew.alloc (Nat.le_refl _) _)) _ 1 1 [.string K, .int .i64 h] (by simp [Act.eval, Act.put]) rfl (fun j u hj => news_alloc _ _ _ j u hj) (by simp [Value.oneCell']) (by decide) (by unfold maxLen; omega) (by omega) (by have := HB3.out.size; simp; omega) _ rfl ?_; intro g9 cap9 w9 hown hgrow hat hgl; have HO9 := Lib.hid hown; have HB9 := Lib.hid (runs_grown HB3.out HO4.out hgrow); have HL9 := Lib.hid (own_grown (own_below HL4.out ((Below.refl _ _).drew.alloc (Nat.le_refl _) _)) (own_below HO4.out ((Below.refl _ _).drew.alloc (Nat.le_refl _) _)) (by decide) hgrow); have HS9 := Lib.hid (And.intro (HCE.out w9 HB9.out).2 (HCV.out w9 HL9.out)); clear hown hgrow hat hgl))
          all_goals
            go_wp2_with fail
            go_roundw
            case rel =>
              refine ⟨k1, out ++ [(l ++ [r], h)], [], by have := HK1.out; omega, by first | rfl | (have := HK1.out; go_num), ?_, ⟨rfl, .inl ⟨rfl, rfl⟩⟩, ?_, by rw [List.length_append]; have := HK1.out; simp; omega, Nat.zero_le _, HB9.out⟩
              · rw [runCells_snoc, List.length_append, HKK.out]; exact HO9.out
              · have h9 := HNX.out
                rw [HK1.out] at h9
                refine .inl ⟨rfl, h9, fun hk2 q hq => ?_⟩
                rw [List.getLast?_concat] at hq
                obtain rfl := Option.some.inj hq
                rcases HBT.out with h8 | ⟨_, h8⟩
                · exact absurd hk2 (by have := HN.out; omega)
                · exact fun e => h8 e.symm
            case measure => have := HK1.out; simp [intOf]; omega
    · obtain rfl : k = n := by omega
      have HE := Lib.hid (HINV.out)
      go_wp2_with fail
      go_ret
      have h9 := HINV.out
      rw [← HN.out] at h9
      have h8 := h9.end_
      exact ⟨⟨_, rfl, by rw [h8.2]; exact HO.out⟩, HB.out⟩
end Go.Proofs.YtkdhomiieenfnaaGreatDoor.Lw
