/- op.pair, op.parseID: two numbers of a text. -/
import Derived.Test.YtkdhomiieenfnaaGreatDoorLs24
import Derived.Test.YtkdhomiieenfnaaGreatDoorUErr
import Derived.Laws.Rows
import Derived.Lib.AtoiErrMem
namespace Go.Proofs.YtkdhomiieenfnaaGreatDoor.O
open Go.RowKit Go.Proofs Go.Joins Go.Proofs.YtkdhomiieenfnaaGreatDoor.U Go.Proofs.YtkdhomiieenfnaaGreatDoor.Txt
set_option linter.unusedVariables false
set_option linter.unusedSimpArgs false
attribute [local go_sem] id_eq

/-- What Parse reads of memory. -/
structure EnvP (w : World) : Prop where
  o : EnvO w
  q : EnvQ w
  rng : ∃ ev, w.cell? ⟨4, 0, none⟩ = some ev ∧ (ev = .nilIface ∨ ∃ te pe, ev = .iface te pe)
  ml : ∃ m, w.cell? ⟨2, 0, none⟩ = some (.int .i64 m)
theorem EnvP.below {w w' : World} (h : EnvP w) (hb : Below w.heap.size w w') : EnvP w' :=
  ⟨h.o.below hb, h.q.below hb, by obtain ⟨ev, h1, h2⟩ := h.rng; exact ⟨ev, cell_below hb h1, h2⟩, by obtain ⟨m, h1⟩ := h.ml; exact ⟨m, cell_below hb h1⟩⟩
/-- The number that Atoi hands back, beside an error or not. -/
def numOf (l : List UInt8) : Int := match Lib.atoiAll l with
  | .ok v => v
  | .range => Lib.atoiSat l
  | _ => 0
theorem Atoi_any (s : ByteArray) (w : World) (hs : s.size ≤ 1048576) (hE : EnvP w) : Calls Tryz.prog 114 #[.string s] w fun e w' => (∃ ev, e = .returned (.tuple #[.int .i64 (numOf s.data.toList), ev])) ∧ Below w.heap.size w w' := by
  unfold numOf
  cases h : Lib.atoiAll s.data.toList with
  | ok v =>
    refine (Tryz.strconv_Atoi_ok s (by omega) v h w).mono ?_
    rintro e w' ⟨rfl, hw⟩
    refine ⟨⟨_, rfl⟩, ?_⟩
    rcases hw with rfl | ⟨t, rfl⟩
    · exact Below.refl _ _
    · exact Lib.bytesWorld_below w _ t
  | range =>
    obtain ⟨ev, h1, h2⟩ := hE.rng
    refine (Tryz.strconv_Atoi_range s (by omega) h ev w h1 h2).mono ?_
    rintro e w' ⟨N, rfl, _, _, hb⟩
    exact ⟨⟨_, rfl⟩, hb⟩
  | _ =>
    obtain ⟨ev, h1, h2⟩ := hE.q.syn
    refine (Tryz.strconv_Atoi_none s (by omega) h ev w h1 h2).mono ?_
    rintro e w' ⟨N, rfl, _, _, hb⟩
    exact ⟨⟨_, rfl⟩, hb⟩
theorem Cut_any (s sep : ByteArray) (w : World) (hs : s.size ≤ 1048576) (hE : EnvP w) : Calls Tryz.prog 112 #[.string s, .string sep] w fun e w' => (∃ b, e = .returned (.tuple #[.string ⟨(Lib.cut s.data.toList sep.data.toList).1.toArray⟩, .string ⟨(Lib.cut s.data.toList sep.data.toList).2.1.toArray⟩, .bool b])) ∧ Below w.heap.size w w' := by
  obtain ⟨m, hm⟩ := hE.ml
  refine (Tryz.strings_Cut s sep m w (by omega) hm).mono ?_
  rintro e w' ⟨rfl, n, rfl⟩
  exact ⟨⟨_, rfl⟩, below_drewN (Below.refl _ _) n⟩
theorem cut_len (s sep : List UInt8) : (Lib.cut s sep).1.length ≤ s.length ∧ (Lib.cut s sep).2.1.length ≤ s.length := by
  unfold Lib.cut
  split <;> simp <;> omega
def pairL (s mark : List UInt8) : Int × Int := (numOf (Lib.cut s mark).1, numOf (Lib.cut s mark).2.1)

set_option maxRecDepth 100000 in
set_option maxHeartbeats 4000000 in
theorem pair_any (s mark : ByteArray) (w : World) (hs : s.size ≤ 1048576) (hE : EnvP w) : Calls Tryz.prog 117 #[.string s, .string mark] w fun e w' => e = .returned (.tuple #[.int .i64 (pairL s.data.toList mark.data.toList).1, .int .i64 (pairL s.data.toList mark.data.toList).2]) ∧ Below w.heap.size w w' := by
  have hc := cut_len s.data.toList mark.data.toList
  have HC := Lib.hid (Cut_any s mark w hs hE)
  unfold pairL
  rw [size_toList] at hc
  generalize (Lib.cut s.data.toList mark.data.toList).1 = a at hc HC ⊢
  generalize (Lib.cut s.data.toList mark.data.toList).2.1 = b at hc HC ⊢
  obtain ⟨x, hx⟩ : ∃ x : ByteArray, x = ⟨a.toArray⟩ := ⟨_, rfl⟩
  obtain ⟨y, hy⟩ : ∃ y : ByteArray, y = ⟨b.toArray⟩ := ⟨_, rfl⟩
  have hxl : x.data.toList = a := by rw [hx]
  have hyl : y.data.toList = b := by rw [hy]
  rw [← hx, ← hy] at HC
  have h1 : x.size ≤ 1048576 := by rw [← size_toList, hxl]; omega
  have h2 : y.size ≤ 1048576 := by rw [← size_toList, hyl]; omega
  have A1 := Lib.hid (fun W hW => Atoi_any x W h1 hW)
  have A2 := Lib.hid (fun W hW => Atoi_any y W h2 hW)
  rw [hxl] at A1
  rw [hyl] at A2
  have HE := Lib.hid hE
  clear hE hx hy hxl hyl hc h1 h2
  generalize numOf a = p at A1 ⊢
  generalize numOf b = q at A2 ⊢
  go_enter Tryz.func117, Tryz.ntmps117
  go_wp2_with fail
  refine HC.out.mono ?_
  rintro e w1 ⟨⟨ok, rfl⟩, hb1⟩
  have HB1 := Lib.hid hb1
  clear hb1
  go_wp2_with fail
  refine (A1.out _ (HE.out.below HB1.out)).mono ?_
  rintro e w2 ⟨⟨e1, rfl⟩, hb2⟩
  have HB2 := Lib.hid (HB1.out.trans (hb2.mono HB1.out.size))
  clear hb2
  go_wp2_with fail
  refine (A2.out _ (HE.out.below HB2.out)).mono ?_
  rintro e w3 ⟨⟨e2, rfl⟩, hb3⟩
  have HB3 := Lib.hid (HB2.out.trans (hb3.mono HB2.out.size))
  clear hb3
  go_wp2_with fail
  go_ret2
  exact ⟨rfl, HB3.out⟩
set_option maxRecDepth 100000 in
set_option maxHeartbeats 4000000 in
theorem parseID_any (s : ByteArray) (w : World) (hs : s.size ≤ 1048576) (hE : EnvP w) : Calls Tryz.prog 113 #[.string s] w fun e w' => e = .returned (.agg #[.int .i64 (pairL s.data.toList [46]).1, .int .i64 (pairL s.data.toList [46]).2]) ∧ Below w.heap.size w w' := by
  have HB0 := Lib.hid (below_alloc1 w (.cells #[.int .i64 0, .int .i64 0] 41))
  have HP := Lib.hid (pair_any s ⟨#[46]⟩ _ hs (hE.below HB0.out))
  rw [show (⟨#[46]⟩ : ByteArray).data.toList = [46] from rfl] at HP
  clear hE
  generalize (pairL s.data.toList [46]).1 = p at HP ⊢
  generalize (pairL s.data.toList [46]).2 = q at HP ⊢
  go_enter Tryz.func113, Tryz.ntmps113
  go_wp2_with fail
  refine HP.out.mono ?_
  rintro e w1 ⟨rfl, hb1⟩
  have hbx : w1.heap[w.heap.size]? = some (.cells #[.int .i64 0, .int .i64 0] 41 (0, 0)) := by rw [hb1.block _ (by simp)]; exact heap_alloc_new w _
  have f0 : w1.frozen? ⟨w.heap.size, 0, none⟩ = false := Lib.frozen_of_heap hbx 0
  have f1 : w1.frozen? ⟨w.heap.size, 1, none⟩ = false := Lib.frozen_of_heap hbx 1
  have d0 : w1.cell? ⟨w.heap.size, 0, none⟩ = some (.int .i64 0) := by rw [Lib.cell_of_heap hbx]; rfl
  have d1 : w1.cell? ⟨w.heap.size, 1, none⟩ = some (.int .i64 0) := by rw [Lib.cell_of_heap hbx]; rfl
  have HBX := Lib.hid hbx
  have HB1 := Lib.hid (HB0.out.trans (hb1.mono HB0.out.size))
  clear hb1 hbx
  go_wp2_with fail
  try simp only [Exit.inBlock, Exit.then]
  refine bodyPost_ret (v := .agg #[.int .i64 p, .int .i64 q]) ?hr ?hd ?hb
  case hd => rfl
  case hr => exact results_cell_row rfl _ _ w.heap.size 41 _ (0, 0) _ rfl (by have := HBX.out; simp [World.setCell, Array.getElem?_modify, this]) Tryz.underlying41 rfl (by kernel_rfl)
  case hb => exact ⟨rfl, (HB1.out.setCell (p := ⟨w.heap.size, 0, none⟩) (Nat.le_refl _) _).setCell (p := ⟨w.heap.size, 1, none⟩) (Nat.le_refl _) _⟩
end Go.Proofs.YtkdhomiieenfnaaGreatDoor.O
