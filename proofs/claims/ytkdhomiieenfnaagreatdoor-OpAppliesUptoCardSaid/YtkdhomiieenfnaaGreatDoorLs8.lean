/- Lists of pieces in memory; a run of cells cut up into pieces: cutUp. A tree of a list of pieces: build. -/
import Derived.Test.YtkdhomiieenfnaaGreatDoorRpS
import Derived.Deep.AppendLies
import Derived.Deep.RegionLaw
namespace Go.Proofs.YtkdhomiieenfnaaGreatDoor.Rp
open Go.RowKit Go.Proofs Go.Proofs.YtkdhomiieenfnaaGreatDoor.U Go.Proofs.YtkdhomiieenfnaaGreatDoor.Txt
set_option linter.unusedVariables false
set_option linter.unusedSimpArgs false

/-- A piece as it lies in a list: its runes' address and room, its runes, its counter. -/
structure PcV where
  A : Option Addr
  c : Nat
  rs : List Int
  h : Int
structure PcV.Ok (w : World) (p : PcV) : Prop where
  room : p.rs.length ≤ p.c
  runes : Rn w p.A p.rs
  ne : p.rs ≠ []
  h0 : 0 ≤ p.h ∧ p.h ≤ M
theorem PcV.Ok.below {w w' : World} {p : PcV} (h : p.Ok w) (hb : Below w.heap.size w w') : p.Ok w' := ⟨h.room, h.runes.below hb, h.ne, h.h0⟩
def pcCells (ps : List PcV) : List Value := ps.flatMap fun p => [.slice p.A p.rs.length p.c, .int .i64 p.h]
def cellsP (ps : List PcV) : List Cl := ps.flatMap fun p => run p.rs p.h
theorem pcCells_app (a b : List PcV) : pcCells (a ++ b) = pcCells a ++ pcCells b := by simp [pcCells]
theorem cellsP_app (a b : List PcV) : cellsP (a ++ b) = cellsP a ++ cellsP b := by simp [cellsP]
theorem pcCells_len (ps : List PcV) : (pcCells ps).length = 2 * ps.length := by
  induction ps with
  | nil => rfl
  | cons p ps ih => simp only [pcCells, List.flatMap_cons, List.length_append, List.length_cons, List.length_nil] at ih ⊢; omega
theorem pcCells_get : ∀ (ps : List PcV) (j : Nat) (hj : j < ps.length), (pcCells ps)[j * 2]? = some (.slice ps[j].A ps[j].rs.length ps[j].c) ∧ (pcCells ps)[j * 2 + 1]? = some (.int .i64 ps[j].h)
  | [], j, hj => by simp at hj
  | p :: ps, 0, hj => ⟨rfl, rfl⟩
  | p :: ps, j + 1, hj => by
    have := pcCells_get ps j (by simpa using hj)
    rw [show (j + 1) * 2 = j * 2 + 2 by omega]
    simpa [pcCells, List.flatMap_cons] using this
/-- A list of pieces behind a slice. -/
structure PV (w : World) (v : Value) (ps : List PcV) : Prop where
  form : ∃ A c, v = .slice A ps.length c ∧ ps.length ≤ c ∧ (A = none → c = 0) ∧ (0 < ps.length → ∃ g off, A = some ⟨g, off, none⟩ ∧ ∀ j (hj : j < ps.length), w.cell? ⟨g, off + j * 2, none⟩ = some (.slice ps[j].A ps[j].rs.length ps[j].c) ∧ w.cell? ⟨g, off + j * 2 + 1, none⟩ = some (.int .i64 ps[j].h))
  ok : ∀ p ∈ ps, p.Ok w
theorem PV.below {w w' : World} {v : Value} {ps : List PcV} (h : PV w v ps) (hb : Below w.heap.size w w') : PV w' v ps := by
  obtain ⟨A, c, h1, h2, h3, h4⟩ := h.form
  refine ⟨⟨A, c, h1, h2, h3, fun h0 => ?_⟩, fun p hp => (h.ok p hp).below hb⟩
  obtain ⟨g, off, e, hc⟩ := h4 h0
  exact ⟨g, off, e, fun j hj => ⟨cell_below hb (hc j hj).1, cell_below hb (hc j hj).2⟩⟩
/-- An own list of pieces. -/
theorem PV.of_own {w : World} {B : Nat} {v : Value} {ps : List PcV} (h : w.ownsRow B 114 2 v ps.length (pcCells ps)) (hk : ∀ p ∈ ps, p.Ok w) : PV w v ps := by
  refine ⟨?_, hk⟩
  rcases h.2 with ⟨hv, h0⟩ | ⟨g, cap, cur, hv, hbg, hg, hcap, hrest⟩
  · exact ⟨none, 0, by rw [hv, h0], by omega, fun _ => rfl, fun hp => by omega⟩
  · refine ⟨_, cap, hv, hcap, (fun e => by cases e), fun hp => ⟨g, 0, rfl, fun j hj => ?_⟩⟩
    obtain ⟨a1, a2⟩ := pcCells_get ps j hj
    have hc : ∀ k u, (pcCells ps)[k]? = some u → w.cell? ⟨g, k, none⟩ = some u := fun k u hu => by
      have := h.cells (g := g) (by rw [hv]; rfl) k u hu
      rwa [Addr.add_lit, Nat.zero_add] at this
    rw [Nat.zero_add]
    exact ⟨hc _ _ a1, hc _ _ a2⟩
theorem infoPc : (Tryz.prog.info? 114).map (fun i => (i.zero, i.size, i.bytes)) = some (some (.agg #[.slice none 0 0, .int .i64 0]), 2, 32) := by kernel_rfl
theorem rune_seg (A : Option Addr) (n c lo hi : Nat) (h0 : lo < hi) (h1 : hi ≤ n) (h2 : n ≤ c) : ∃ A', (∀ W : World, (Instr.slice 49 (.slice A n c) (some (.int .i64 lo)) (some (.int .i64 hi)) none).run Tryz.prog W = .ok (.slice A' (hi - lo) (c - lo)) W) ∧ ∀ (W : World) (rs : List Int), rs.length = n → Rn W A rs → Rn W A' ((rs.take hi).drop lo) := by
  refine ⟨if c = lo then A else A.map (·.add (lo * 1)), fun W => ?_, fun W rs hn hc => ⟨fun h0 => ?_, fun ad e => ?_⟩⟩
  · rw [run_slice_lh W 49 A n c (by kernel_rfl) .i64 .i64 lo hi (by omega) (by omega) (by omega)]
    kernel_rfl
  · rw [List.length_drop, List.length_take] at h0
    obtain ⟨ad, e, h⟩ := hc.cells (by omega)
    subst e
    rw [if_neg (by omega)]
    refine ⟨_, rfl, fun j hj => ?_⟩
    rw [List.length_drop, List.length_take] at hj
    show W.cell? ((ad.add (lo * 1)).add j) = _
    rw [Addr.add_add, Nat.mul_one, h (lo + j) (by omega)]
    simp [List.getD, List.getElem?_drop, List.getElem?_take, show lo + j < hi by omega]
  · split at e
    · exact hc.blk ad e
    · exact blk_map hc.blk e
theorem news_alloc (w : World) (cs : Array Value) (T : TypeId) (j : Nat) (u : Value) (h : cs.toList[j]? = some u) : (w.alloc (.cells cs T)).cell? ((⟨w.heap.size, 0, none⟩ : Addr).add j) = some u := by
  rw [Addr.add_lit, Nat.zero_add, Lib.cell_of_heap (heap_alloc_new w _)]
  simpa using h
theorem own_below {w w' : World} {B e size n : Nat} {v : Value} {xs : List Value} (h : w.ownsRow B e size v n xs) (hb : Below w.heap.size w w') : w'.ownsRow B e size v n xs := by
  refine ⟨h.1, ?_⟩
  rcases h.2 with hn | ⟨g, cap, cur, hv, hbg, hg, rest⟩
  · exact .inl hn
  · exact .inr ⟨g, cap, cur, hv, hbg, (hb.block g (Array.getElem?_eq_some_iff.1 hg).1).trans hg, rest⟩
theorem drop_step {rs : List Int} {a b : Nat} (h : a ≤ b) : (rs.take b) = rs.take a ++ (rs.take b).drop a := by
  conv => lhs; rw [← List.take_append_drop a (rs.take b)]
  rw [List.take_take, show min a b = a by omega]
theorem seg_lt {n k i : Nat} (hk : 0 < k) (hkn : k ≤ n) : i * n / k < (i + 1) * n / k := by
  rw [Nat.succ_mul]
  have : i * n + n ≥ i * n + k := by omega
  calc i * n / k < i * n / k + 1 := Nat.lt_succ_self _
    _ = (i * n + k) / k := (Nat.add_div_right _ hk).symm
    _ ≤ (i * n + n) / k := Nat.div_le_div_right this
theorem seg_le {n k i : Nat} (hk : 0 < k) (hi : i ≤ k) : i * n / k ≤ n := by
  rw [Nat.div_le_iff_le_mul_add_pred hk]
  have := Nat.mul_le_mul_right n hi
  omega
theorem seg_all {n k : Nat} (hk : 0 < k) : k * n / k = n := Nat.mul_div_cancel_left n hk

set_option maxRecDepth 100000 in
set_option maxHeartbeats 8000000 in
theorem cutUp_any (A : Option Addr) (c : Nat) (rs : List Int) (hd : Int) (w : World) (hl : rs.length ≤ 2097152) (hc : rs.length ≤ c) (hr : Rn w A rs) (h0 : 0 ≤ hd ∧ hd ≤ M) :
    Calls Tryz.prog 27 #[.slice A rs.length c, .int .i64 hd] w fun e w' => (∃ v ps, e = .returned v ∧ w'.ownsRow w.heap.size 114 2 v ps.length (pcCells ps) ∧ (∀ p ∈ ps, p.Ok w') ∧ cellsP ps = run rs hd ∧ ps.length ≤ rs.length) ∧ Below w.heap.size w w' := by
  have HR := Lib.hid hr
  have H0 := Lib.hid h0
  obtain ⟨n, hn⟩ : ∃ n, rs.length = n := ⟨_, rfl⟩
  rw [hn] at hl hc ⊢
  have HN := Lib.hid hn
  obtain ⟨k, hk⟩ : ∃ k, (n + 63) / 64 = k := ⟨_, rfl⟩
  have HK := Lib.hid hk
  have hkn : k ≤ n := by omega
  have hkn0 : 0 < n → 0 < k := by omega
  have e1 : ((n : Int) + 64 - 1) / 64 = (k : Int) := by omega
  obtain ⟨i0, hi0, hz0, hz1, hz2⟩ := info_parts infoPc
  have HI := Lib.hid (And.intro hi0 (And.intro hz0 (And.intro hz1 hz2)))
  have E1 := Lib.hid e1
  clear e1 hr h0 hn hk hi0 hz0 hz1 hz2
  go_enter Tryz.func27, Tryz.ntmps27
  go_wp2_with fail
  rw [E1.out]
  go_loopw [6, 14] (fun v x wr => ∃ (i : Nat) (ps : List PcV), i ≤ k ∧ x = .int .i64 i ∧ ps.length = i ∧ wr.ownsRow w.heap.size 114 2 v i (pcCells ps) ∧ (∀ p ∈ ps, p.Ok w) ∧ cellsP ps = run (rs.take (i * n / k)) hd ∧ Below w.heap.size w wr) (fun _ x _ => k - (intOf x).toNat)
  case atStart => exact ⟨0, [], Nat.zero_le _, rfl, rfl, ⟨rfl, .inl ⟨rfl, rfl⟩⟩, by simp, by simp [cellsP, run], Below.refl _ _⟩
  case round =>
    obtain ⟨i, ps, hi, rfl, hpl, hown, hok, hcs, hb⟩ := hrel
    have HPL := Lib.hid hpl
    have HOW := Lib.hid hown
    have HOK := Lib.hid hok
    have HCS := Lib.hid hcs
    have HB := Lib.hid hb
    clear hpl hown hok hcs hb
    by_cases hlt : i < k
    · have hk0 : 0 < k := by omega
      have hs1 := seg_lt (i := i) hk0 hkn
      have hs2 := seg_le (n := n) (i := i + 1) hk0 (by omega)
      obtain ⟨pr, hpr⟩ : ∃ pr, i * n = pr := ⟨_, rfl⟩
      obtain ⟨qr, hqr⟩ : ∃ qr, (i + 1) * n = qr := ⟨_, rfl⟩
      have hpb : pr ≤ 4398046511104 := by rw [← hpr]; exact Nat.le_trans (Nat.mul_le_mul (show i ≤ 2097152 by omega) hl) (by decide)
      have hqb : qr ≤ 4398046511104 := by rw [← hqr]; exact Nat.le_trans (Nat.mul_le_mul (show i + 1 ≤ 2097152 by omega) hl) (by decide)
      have m1 : IntKind.i64.wrap ((i : Int) * n) = (pr : Int) := by rw [show (i : Int) * n = (pr : Int) by rw [← hpr]; simp]; exact IntWalk.i64_in _ (by omega)
      have m2 : IntKind.i64.wrap (((i : Int) + 1) * n) = (qr : Int) := by rw [show ((i : Int) + 1) * n = (qr : Int) by rw [← hqr]; simp]; exact IntWalk.i64_in _ (by omega)
      rw [hpr] at hs1 HCS
      rw [hqr] at hs1 hs2
      obtain ⟨a, ha⟩ : ∃ a, pr / k = a := ⟨_, rfl⟩
      obtain ⟨b, hb⟩ : ∃ b, qr / k = b := ⟨_, rfl⟩
      have d1 : IntKind.i64.wrap ((pr : Int).tdiv k) = (a : Int) := by rw [← Int.ofNat_tdiv, ha]; exact IntWalk.i64_in _ (by omega)
      have d2 : IntKind.i64.wrap ((qr : Int).tdiv k) = (b : Int) := by rw [← Int.ofNat_tdiv, hb]; exact IntWalk.i64_in _ (by omega)
      have d3 : (pr : Int) / k = (a : Int) := by rw [← ha]; simp
      have d4 : (qr : Int) / k = (b : Int) := by rw [← hb]; simp
      rw [ha] at hs1 HCS
      rw [hb] at hs1 hs2
      have m3 : IntKind.i64.wrap (a : Int) = (a : Int) := IntWalk.i64_in _ (by omega)
      have m4 : IntKind.i64.wrap (b : Int) = (b : Int) := IntWalk.i64_in _ (by omega)
      obtain ⟨A', hsl, hcl⟩ := rune_seg A n c a b hs1 hs2 hc
      have hkz : ¬ k = 0 := by omega
      have m0 : IntKind.i64.wrap ((i : Int) + 1) = (i : Int) + 1 := IntWalk.i64_in _ (by omega)
      have HQR := Lib.hid (And.intro hqr hb)
      have HAB := Lib.hid (And.intro hs1 hs2)
      have HCL := Lib.hid hcl
      have HLT := Lib.hid hlt
      clear hpr hqr ha hb hcl hs1 hs2
      go_wp2_with fail
      go_region_law (refine step_append_lies _ rfl (.tmp 17) (.tmp 35) 72 rfl w.heap.size 114 i0 (.agg #[.slice none 0 0, .int .i64 0]) 2 32 Tryz.underlying72 HI.out.1 HI.out.2.1 HI.out.2.2.1 HI.out.2.2.2 rfl (by decide) u6 i (pcCells ps) (by simp [Act.eval, Act.put]) (by exact own_below HOW.out (by first | exact below_alloc1 _ _ | exact (Below.refl _ _).drew.alloc (Nat.le_refl _) _)) _ 1 1 [.slice A' (b - a) (c - a), .int .i64 hd] (by simp [Act.eval, Act.put]) rfl (fun j u hj => news_alloc _ _ _ j u hj) (by intro u hu; simp at hu; rcases hu with rfl | rfl <;> rfl) (by decide) (by unfold maxLen; omega) (by omega) (by have := HB.out.size; simp; omega) _ rfl ?_; intro g cap w9 hown hgrow hat hgl; have HO9 := Lib.hid hown; have HGR := Lib.hid hgrow; clear hown hgrow hat hgl)
      all_goals go_wp2_with fail
      all_goals
        go_roundw
        case rel =>
          have hb9 : Below w.heap.size w w9 := by
            first
            | exact (HB.out.alloc HB.out.size _).grown HGR.out (by have := HB.out.size; simp; omega) (fun k hk => (HOW.out.lt k hk).1)
            | exact (HB.out.drew.alloc HB.out.size _).grown HGR.out (by have := HB.out.size; simp; omega) (fun k hk => (HOW.out.lt k hk).1)
          refine ⟨i + 1, ps ++ [⟨A', c - a, (rs.take b).drop a, hd⟩], HLT.out, by go_num, by rw [List.length_append, HPL.out]; rfl, ?_, ?_, ?_, hb9⟩
          · have h9 := HO9.out
            have hsl2 : ((rs.take b).drop a).length = b - a := by rw [List.length_drop, List.length_take, HN.out]; have := HAB.out; omega
            rw [pcCells_app]
            simp only [pcCells, List.flatMap_cons, List.flatMap_nil, List.append_nil, hsl2]
            exact h9
          · intro p hp
            rcases List.mem_append.1 hp with h | h
            · exact HOK.out p h
            · rw [List.mem_singleton.1 h]
              have hsl2 : ((rs.take b).drop a).length = b - a := by rw [List.length_drop, List.length_take, HN.out]; have := HAB.out; omega
              refine ⟨by show ((rs.take b).drop a).length ≤ c - a; rw [hsl2]; have := HAB.out; omega, HCL.out w rs HN.out HR.out, fun e => by have h7 := congrArg List.length e; rw [hsl2, List.length_nil] at h7; have := HAB.out; omega, H0.out⟩
          · have e := drop_step (rs := rs) (Nat.le_of_lt HAB.out.1)
            rw [cellsP_app, HCS.out, HQR.out.1, HQR.out.2]
            simp only [cellsP, List.flatMap_cons, List.flatMap_nil, List.append_nil]
            unfold run
            rw [← List.map_append, ← e]
        case measure => have := HLT.out; simp [intOf]; omega
    · have hik : i = k := by omega
      go_wp2_with fail
      go_ret
      refine ⟨⟨_, ps, rfl, by rw [HPL.out]; exact HOW.out, fun p hp => (HOK.out p hp).below HB.out, ?_, by rw [HPL.out]; omega⟩, HB.out⟩
      rw [HCS.out, hik]
      rcases Nat.eq_zero_or_pos k with h | h
      · have : n = 0 := by have := hkn0; omega
        have : rs = [] := List.length_eq_zero_iff.1 (by rw [HN.out]; exact this)
        rw [this]; simp [run]
      · rw [seg_all h, List.take_of_length_le (by rw [HN.out]; exact Nat.le_refl _)]
end Go.Proofs.YtkdhomiieenfnaaGreatDoor.Rp

namespace Go.Proofs.YtkdhomiieenfnaaGreatDoor.Rp
open Go.RowKit Go.Proofs Go.Proofs.YtkdhomiieenfnaaGreatDoor.U Go.Proofs.YtkdhomiieenfnaaGreatDoor.Txt
set_option linter.unusedVariables false
set_option linter.unusedSimpArgs false

theorem ldP_cells {w : World} {g o : Nat} {v u : Value} (c0 : w.cell? ⟨g, o, none⟩ = some v) (c1 : w.cell? ⟨g, o + 1, none⟩ = some u) : (ldP (.pointer (some ⟨g, o, none⟩))).run Tryz.prog w = .ok (.agg #[v, u]) w := by
  unfold ldP
  go_simp
theorem PV.head {w : World} {v : Value} {ps : List PcV} (h : PV w v ps) (m : Nat) (hm : m ≤ ps.length) : ∃ v', (∀ W : World, (Instr.slice 72 v none (some (.int .i64 m)) none).run Tryz.prog W = .ok v' W) ∧ PV w v' (ps.take m) := by
  obtain ⟨A, c, rfl, h2, h3, h4⟩ := h.form
  have hlt : (ps.take m).length = m := by rw [List.length_take]; omega
  refine ⟨.slice (if c = 0 then A else A.map (·.add 0)) m c, fun W => ?_, ⟨⟨if c = 0 then A else A.map (·.add 0), c, by rw [hlt], by omega, fun e => ?_, fun h0 => ?_⟩, fun p hp => h.ok p (List.mem_of_mem_take hp)⟩⟩
  · rw [run_slice_h W 72 A ps.length c (by kernel_rfl) .i64 m (by omega) (by omega)]
    kernel_rfl
  · split at e
    · assumption
    · cases A with
      | none => exact h3 rfl
      | some a => cases e
  · rw [hlt] at h0
    obtain ⟨g, off, e, hc⟩ := h4 (by omega)
    subst e
    rw [if_neg (by omega)]
    refine ⟨g, off, by simp [Addr.add], fun j hj => ?_⟩
    rw [hlt] at hj
    have := hc j (by omega)
    rw [List.getElem_take]
    exact this
theorem PV.tail {w : World} {v : Value} {ps : List PcV} (h : PV w v ps) (m : Nat) (hm : m ≤ ps.length) : ∃ v', (∀ W : World, (Instr.slice 72 v (some (.int .i64 m)) none none).run Tryz.prog W = .ok v' W) ∧ PV w v' (ps.drop m) := by
  obtain ⟨A, c, rfl, h2, h3, h4⟩ := h.form
  have hlt : (ps.drop m).length = ps.length - m := by rw [List.length_drop]
  refine ⟨.slice (if c = m then A else A.map (·.add (m * 2))) (ps.length - m) (c - m), fun W => ?_, ⟨⟨if c = m then A else A.map (·.add (m * 2)), c - m, by rw [hlt], by omega, fun e => ?_, fun h0 => ?_⟩, fun p hp => h.ok p (List.mem_of_mem_drop hp)⟩⟩
  · rw [run_slice_l W 72 A ps.length c (by kernel_rfl) .i64 m (by omega) (by omega)]
    kernel_rfl
  · split at e
    · omega
    · cases A with
      | none => have := h3 rfl; omega
      | some a => cases e
  · rw [hlt] at h0
    obtain ⟨g, off, e, hc⟩ := h4 (by omega)
    subst e
    rw [if_neg (by omega)]
    refine ⟨g, off + m * 2, by simp [Addr.add], fun j hj => ?_⟩
    rw [hlt] at hj
    have := hc (m + j) (by omega)
    rw [List.getElem_drop, show off + m * 2 + j * 2 = off + (m + j) * 2 by omega]
    exact this
theorem PV.at {w : World} {v : Value} {ps : List PcV} (h : PV w v ps) (j : Nat) (hj : j < ps.length) : ∃ g off c, v = .slice (some ⟨g, off, none⟩) ps.length c ∧ w.cell? ⟨g, off + j * 2, none⟩ = some (.slice ps[j].A ps[j].rs.length ps[j].c) ∧ w.cell? ⟨g, off + j * 2 + 1, none⟩ = some (.int .i64 ps[j].h) := by
  obtain ⟨A, c, h1, h2, h3, h4⟩ := h.form
  obtain ⟨g, off, e, hc⟩ := h4 (by omega)
  subst e
  exact ⟨g, off, c, h1, (hc j hj).1, (hc j hj).2⟩
theorem cellsP_len {ps : List PcV} (h : ∀ p ∈ ps, p.rs ≠ []) : ps.length ≤ (cellsP ps).length := by
  induction ps with
  | nil => simp
  | cons p ps ih =>
    have h1 := ih (fun q hq => h q (by simp [hq]))
    have h2 := List.length_pos_iff.2 (h p (by simp))
    simp only [cellsP, List.flatMap_cons, List.length_append, run_len, List.length_cons] at h1 ⊢
    omega
theorem cellsP_mid (ps : List PcV) (k : Nat) (hk : k < ps.length) : cellsP ps = cellsP (ps.take k) ++ run ps[k].rs ps[k].h ++ cellsP (ps.drop (k + 1)) := by
  have e : ps = ps.take k ++ (ps[k] :: ps.drop (k + 1)) := by rw [← List.drop_eq_getElem_cons hk, List.take_append_drop]
  refine (congrArg cellsP e).trans ?_
  rw [cellsP_app, List.append_assoc]
  rfl
section
attribute [local go_sem ↓] ldP_fold

set_option maxRecDepth 100000 in
set_option maxHeartbeats 8000000 in
theorem build_step (v : Value) (ps : List PcV) (w : World) (h : PV w v ps) (hn : 0 < ps.length) (hlen : (cellsP ps).length ≤ 2097152)
    (IH : ∀ (vx : Value) (qs : List PcV) (w : World), qs.length < ps.length → (cellsP qs).length ≤ 2097152 → PV w vx qs → Calls Tryz.prog 29 #[vx] w (RetC (cellsP qs) w)) :
    Calls Tryz.prog 29 #[v] w (RetC (cellsP ps) w) := by
  obtain ⟨k, hk⟩ : ∃ k, ps.length / 2 = k := ⟨_, rfl⟩
  have hkl : k < ps.length := by omega
  have hsplit := cellsP_mid ps k hkl
  have hlen2 := hlen
  rw [hsplit, List.length_append, List.length_append, run_len] at hlen2
  have hpl := cellsP_len (ps := ps) (fun p hp => (h.ok p hp).ne)
  obtain ⟨v1, hs1, hv1⟩ := h.head k (by omega)
  obtain ⟨v2, hs2, hv2⟩ := h.tail (k + 1) (by omega)
  obtain ⟨g, off, c, rfl, c0, c1⟩ := h.at k hkl
  have hok := h.ok ps[k] (List.getElem_mem hkl)
  obtain ⟨p, hp⟩ : ∃ p, ps[k] = p := ⟨_, rfl⟩
  rw [hp] at c0 c1 hok hsplit hlen2
  have HPC := Lib.hid (show Pc w (.agg #[.slice p.A p.rs.length p.c, .int .i64 p.h]) p.rs p.h from ⟨p.A, p.c, rfl, hok.room, hok.runes⟩)
  have C1 := Lib.hid (fun (W : World) (hW : Below w.heap.size w W) => (IH v1 (ps.take k) W (by rw [List.length_take]; omega) (by omega) (hv1.below hW)).mono (R' := fun e w' => (∃ v t, e = .returned v ∧ TrW w' v t ∧ cells t = cellsP (ps.take k)) ∧ Below w.heap.size w w' ∧ Below W.heap.size W w') fun e w' ⟨h1, h2⟩ => ⟨h1, hW.trans (h2.mono hW.size), h2⟩)
  have C2 := Lib.hid (fun (W : World) (hW : Below w.heap.size w W) => (IH v2 (ps.drop (k + 1)) W (by rw [List.length_drop]; omega) (by omega) (hv2.below hW)).mono (R' := fun e w' => (∃ v t, e = .returned v ∧ TrW w' v t ∧ cells t = cellsP (ps.drop (k + 1))) ∧ Below w.heap.size w w' ∧ Below W.heap.size W w') fun e w' ⟨h1, h2⟩ => ⟨h1, hW.trans (h2.mono hW.size), h2⟩)
  have C3 := Lib.hid (fun (W : World) (hW : Below w.heap.size w W) (x y : Value) (t u : T) (hx : TrW W x t) (hy : TrW W y u) (ht : cells t = cellsP (ps.take k)) (hu : cells u = cellsP (ps.drop (k + 1))) => knot_from hx hy (HPC.out.below hW) hok.ne hok.h0 (by rw [ht, hu]; omega) W (Below.refl _ _))
  have HSS := Lib.hid (fun (W1 : World) (hW : Below w.heap.size w W1) => (show (ldP (.pointer (some ⟨g, off + k * 2, none⟩))).run Tryz.prog W1 = .ok (.agg #[.slice p.A p.rs.length p.c, .int .i64 p.h]) W1 from ldP_cells (cell_below hW c0) (cell_below hW c1)))
  have HSP := Lib.hid hsplit
  obtain ⟨n, hn'⟩ : ∃ n, ps.length = n := ⟨_, rfl⟩
  rw [hn'] at hs1 hs2 hk hkl hn hpl ⊢
  rw [show ((k + 1 : Nat) : Int) = (k : Int) + 1 by omega] at hs2
  have hnb : n ≤ 2097152 := by omega
  have e1 : (n : Int) / 2 = (k : Int) := by omega
  have e2 : IntKind.i64.wrap ((k : Int) + 1) = (k : Int) + 1 := IntWalk.i64_in _ (by omega)
  have b0 : ((n : Int) == 0) = false := by simp; omega
  have E1 := Lib.hid e1
  have s1 := HSS.out _ (Below.refl _ _)
  clear h hlen hlen2 hpl hv1 hv2 c0 c1 hok hp hsplit IH hk e1 hn'
  go_enter Tryz.func29, Tryz.ntmps29
  go_wp2_with fail
  rw [E1.out]
  go_region_held3 (fun w' => (ldP (.pointer (some ⟨g, off + k * 2, none⟩))).run Tryz.prog w' = .ok (.agg #[.slice p.A p.rs.length p.c, .int .i64 p.h]) w')
    (first | (with_reducible exact HSS.out _ hbT) | (with_reducible exact HSS.out _ hbR) | (with_reducible exact HSS.out _ hbL) | (with_reducible exact HSS.out _ (Below.refl _ _).drew))
    (first
    | ((with_reducible refine (C1.out _ (Below.refl _ _).drew).mono ?_); rintro e wL ⟨⟨vL, tL, rfl, htL, hcL⟩, hbL, -⟩)
    | ((with_reducible refine (C2.out _ hbL).mono ?_); rintro e wR ⟨⟨vR, tR, rfl, htR, hcR⟩, hbR, hkR⟩)
    | ((with_reducible refine (C3.out _ hbR vL vR tL tR (htL.below hkR) htR hcL hcR).mono ?_); rintro e wT ⟨⟨vT, rfl, htT⟩, hbT', -⟩; have hbT := hbR.trans (hbT'.mono hbR.size)))
  go_wp2_with fail
  go_ret
  exact ⟨⟨_, _, rfl, htT, by rw [cells_knot, hcL, hcR, HSP.out]⟩, hbT⟩
end
theorem build_all : ∀ (n : Nat) (v : Value) (ps : List PcV) (w : World), ps.length ≤ n → (cellsP ps).length ≤ 2097152 → PV w v ps → Calls Tryz.prog 29 #[v] w (RetC (cellsP ps) w)
  | n, v, [], w, hn, hl, h => by
    obtain ⟨A, c, rfl, _, _, _⟩ := h.form
    clear hn hl h
    go_enter Tryz.func29, Tryz.ntmps29
    go_wp2_with fail
    go_ret
    exact ⟨⟨_, .nil, rfl, ⟨rfl, trivial, by simp [cells]⟩, rfl⟩, Below.refl _ _⟩
  | 0, v, p :: ps, w, hn, hl, h => by simp at hn
  | n + 1, v, p :: ps, w, hn, hl, h => build_step v (p :: ps) w h (by simp) hl fun vx qs W hq hl' hv => build_all n vx qs W (by simp at hn hq; omega) hl' hv
/-- build's contract. -/
theorem build_any (v : Value) (ps : List PcV) (w : World) (hl : (cellsP ps).length ≤ 2097152) (h : PV w v ps) : Calls Tryz.prog 29 #[v] w (RetC (cellsP ps) w) := build_all _ v ps w (Nat.le_refl _) hl h
end Go.Proofs.YtkdhomiieenfnaaGreatDoor.Rp
