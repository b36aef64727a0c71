/- op.Clone. op.Clone of an operation whose ranges lie at an address, be they none. -/
import Derived.Test.YtkdhomiieenfnaaGreatDoorOrRight
import Derived.Test.YtkdhomiieenfnaaGreatDoorLs32
import Derived.Laws.AppendOwnNone
import Derived.OwnWalk
namespace Go.Proofs.YtkdhomiieenfnaaGreatDoor.O
open Go.RowKit Go.Proofs Go.Joins Go.Proofs.YtkdhomiieenfnaaGreatDoor.U Go.Proofs.YtkdhomiieenfnaaGreatDoor.Txt
set_option linter.unusedVariables false
set_option linter.unusedSimpArgs false
attribute [local go_sem] id_eq
attribute [local go_sem ↓] Go.wp_at_zero Go.wp_at_succ

theorem two_new2 (w : World) (a b : Obj) : ((w.alloc a).alloc b).heap[w.heap.size + 1]? = some b := by
  have := heap_alloc_new (w.alloc a) b
  simpa using this
theorem clone_world {w W2 w9 : World} {o1 o2 : Obj} (hb : Below w.heap.size w W2) (h1 : W2.heap[w.heap.size]? = some o1) (h2 : W2.heap[w.heap.size + 1]? = some o2) (hs : W2.heap.size = w.heap.size + 2) (hg : W2.grownBy w9 (Value.slice none 0 0).ownBlock) : Below w.heap.size w w9 ∧ w9.heap[w.heap.size]? = some o1 ∧ w9.heap[w.heap.size + 1]? = some o2 :=
  ⟨hb.grown hg hb.size (fun k hk => by cases hk), by rw [hg.block _ (by omega) (fun e => by cases e)]; exact h1, by rw [hg.block _ (by omega) (fun e => by cases e)]; exact h2⟩
theorem own_fin9 {w : World} {B b e size n : Nat} {v : Value} {xs : List Value} (h : w.ownsRow B e size v n xs) (hb : b < B) (x0 x1 x2 x3 x4 x5 x6 x7 x8 : Value) :
    (((((((((w.setCell ⟨b, 0, none⟩ x0).setCell ⟨b, 1, none⟩ x1).setCell ⟨b, 2, none⟩ x2).setCell ⟨b, 3, none⟩ x3).setCell ⟨b, 4, none⟩ x4).setCell ⟨b, 5, none⟩ x5).setCell ⟨b, 6, none⟩ x6).setCell ⟨b, 7, none⟩ x7).setCell ⟨b, 8, none⟩ x8).ownsRow B e size v n xs :=
  own_other (own_other (own_other (own_other (own_other (own_other (own_other (own_other (own_other h hb) hb) hb) hb) hb) hb) hb) hb) hb
/-- What Clone hands back: the same, its ranges in new memory. -/
def CloneRes (w : World) (L : OpL) (e : Ending) (w' : World) : Prop :=
  (∃ (v : Value), e = .returned (opV L.i0 L.i1 L.kd L.a ⟨L.tx.toArray⟩ v L.t0 L.t1 L.on) ∧ w'.ownsRow w.heap.size 102 2 v L.rs.length (rsCells L.rs)) ∧ Below w.heap.size w w'
theorem rsCells_at {w : World} {b off : Nat} {rs : List (Int × Int)} (hc : ∀ j (h : j < rs.length), w.cell? ⟨b, off + j * 2, none⟩ = some (.int .i64 rs[j].1) ∧ w.cell? ⟨b, off + j * 2 + 1, none⟩ = some (.int .i64 rs[j].2)) : ∀ (j : Nat) u, (rsCells rs)[j]? = some u → w.cell? ((⟨b, off, none⟩ : Addr).add j) = some u := fun j u hu => by
  have hlt := (List.getElem?_eq_some_iff.1 hu).1
  rw [rsCells_len] at hlt
  have e1 : ((⟨b, off, none⟩ : Addr).add j) = ⟨b, off + j, none⟩ := by simp [Addr.add]
  rw [e1]
  have hq := rsCells_get rs (j / 2) (by omega)
  have h2 := hc (j / 2) (by omega)
  rcases Nat.mod_two_eq_zero_or_one j with hm | hm
  · rw [show j / 2 * 2 = j by omega] at hq h2
    rw [hq.1] at hu
    rw [h2.1]; exact hu
  · rw [show off + j / 2 * 2 + 1 = off + j by omega] at h2
    rw [show j / 2 * 2 + 1 = j by omega] at hq
    rw [hq.2] at hu
    rw [h2.2]; exact hu
theorem rsCells_one (rs : List (Int × Int)) : ∀ u ∈ rsCells rs, u.oneCell' = true := by
  intro u hu
  unfold rsCells at hu
  rcases List.mem_flatMap.1 hu with ⟨r, _, h⟩
  rcases List.mem_cons.1 h with rfl | h
  · rfl
  · rw [List.mem_singleton.1 h]; rfl
set_option maxRecDepth 100000 in
set_option maxHeartbeats 8000000 in
theorem Clone_any (L : OpL) (A : Option Addr) (c : Nat) (w : World) (hn : L.rs.length ≤ 1048577) (hR : Ranges w A L.rs.length L.rs) (hA : L.rs = [] → A = none ∧ c = 0) :
    Calls Tryz.prog 60 #[L.val A c] w (CloneRes w L) := by
  obtain ⟨i0, i1, kd, a, tx, rs, t0, t1, on⟩ := L
  unfold OpL.val opV CloneRes
  simp only at hn hR hA ⊢
  obtain ⟨i0', hi0, hz0, hz1, hz2⟩ := info_parts infoRange'
  have HI := Lib.hid (And.intro hi0 (And.intro hz0 (And.intro hz1 hz2)))
  have HR := Lib.hid hR
  clear hR hi0 hz0 hz1 hz2
  by_cases h0 : rs = []
  · subst h0
    obtain ⟨rfl, rfl⟩ := hA rfl
    have H1 := Lib.hid (heap_alloc_new (w.alloc (.cells #[.int .i64 i0, .int .i64 i1, .int .i64 kd, .int .i64 a, .string ⟨tx.toArray⟩, .slice none 0 0, .int .i64 t0, .int .i64 t1, .bool on] 47)) (.cells zOp 47))
    go_enter Tryz.func60, Tryz.ntmps60
    go_wp2_with (at_builtin; refine wpList_append_own_none _ rfl (.const (.slice none 0 0)) (.tmp 4) 45 rfl w.heap.size 102 i0' 2 Tryz.underlying45 HI.out.1 (.slice none 0 0) 0 [] rfl ⟨rfl, .inl ⟨rfl, rfl⟩⟩ rfl ?_)
    try simp only [Exit.inBlock, Exit.then]
    refine bodyPost_ret (v := .agg (opCells i0 i1 kd a ⟨tx.toArray⟩ (.slice none 0 0) t0 t1 on)) ?hr1 ?hd1 ?hb1
    case hd1 => rfl
    case hr1 => exact results_cell_row rfl _ _ (w.heap.size + 1) 47 _ (0, 0) _ rfl (two_new2 w _ _) Tryz.underlying47 rfl (by kernel_rfl)
    case hb1 => exact ⟨⟨_, rfl, rfl, .inl ⟨rfl, rfl⟩⟩, below_alloc2 _ _ _⟩
  · have hp : 0 < rs.length := List.length_pos_iff.2 h0
    obtain ⟨W2, hW2⟩ : ∃ W2, (w.alloc (.cells #[.int .i64 i0, .int .i64 i1, .int .i64 kd, .int .i64 a, .string ⟨tx.toArray⟩, .slice A rs.length c, .int .i64 t0, .int .i64 t1, .bool on] 47)).alloc (.cells #[.int .i64 0, .int .i64 0, .int .i64 0, .int .i64 0, .string ⟨#[]⟩, .slice none 0 0, .int .i64 0, .int .i64 0, .bool false] 47) = W2 := ⟨_, rfl⟩
    have hb2 : Below w.heap.size w W2 := by rw [← hW2]; exact below_alloc2 _ _ _
    have hsz : W2.heap.size = w.heap.size + 2 := by rw [← hW2]; simp
    have hx1 : W2.heap[w.heap.size]? = some (.cells (opCells i0 i1 kd a ⟨tx.toArray⟩ (.slice A rs.length c) t0 t1 on) 47 (0, 0)) := by rw [← hW2]; exact two_fst w _ _
    have hx2 : W2.heap[w.heap.size + 1]? = some (.cells (opCells 0 0 0 0 ⟨#[]⟩ (.slice none 0 0) 0 0 false) 47 (0, 0)) := by rw [← hW2]; exact two_new2 w _ _
    obtain ⟨b, off, rfl, hc⟩ := HR.out.at_ hp
    have HNW := Lib.hid (rsCells_at (w := W2) (rs := rs) (b := b) (off := off) (fun j hj => ⟨cell_below hb2 (hc j hj).1, cell_below hb2 (hc j hj).2⟩))
    have HB2 := Lib.hid hb2
    have HX1 := Lib.hid hx1
    have HX2 := Lib.hid hx2
    have HSZ := Lib.hid hsz
    have HW2 := Lib.hid hW2
    obtain ⟨d0, d1, d2, d3, d4, d5, d6, d7, d8⟩ := OpBox.cells9 hx1
    have HN := Lib.hid hn
    obtain ⟨n, hnn⟩ : ∃ n, rs.length = n := ⟨_, rfl⟩
    have HNN := Lib.hid hnn
    have HP := Lib.hid hp
    clear hb2 hx1 hx2 hsz hW2 hc hn hA h0 hp
    rw [hnn] at HX1 HN HW2 d5 ⊢
    clear hnn
    go_enter Tryz.func60, Tryz.ntmps60
    go_upto_region 1 with fail
    rw [HW2.out]
    clear HW2
    go_wp2_with (at_builtin; refine wpList_append_lies _ rfl (.const (.slice none 0 0)) (.tmp 4) 45 rfl (w.heap.size + 2) 102 i0' (.agg #[.int .i64 0, .int .i64 0]) 2 16 Tryz.underlying45 HI.out.1 HI.out.2.1 HI.out.2.2.1 HI.out.2.2.2 rfl (by decide) (.slice none 0 0) 0 [] rfl ⟨rfl, .inl ⟨rfl, rfl⟩⟩ ⟨b, off, none⟩ n c (rsCells rs) rfl (by rw [rsCells_len, HNN.out]) HNW.out (rsCells_one rs) (by have := HP.out; have := HNN.out; omega) (by have := HN.out; unfold maxLen; omega) (by have := HN.out; omega) (by rw [HSZ.out]; exact Nat.le_refl _) _ rfl ?_; intro g cap w9 hown hgrow hat hgl; have hw9 := clone_world HB2.out HX1.out HX2.out HSZ.out hgrow; have HO := Lib.hid hown; have HW9 := Lib.hid hw9; clear hown hgrow hat hgl hw9 d0 d1 d2 d3 d4 d5 d6 d7 d8; obtain ⟨f0, f1, f2, f3, f4, f5, f6, f7, f8⟩ := OpBox.frozen9 HW9.out.2.1; obtain ⟨d0, d1, d2, d3, d4, d5, d6, d7, d8⟩ := OpBox.cells9 HW9.out.2.1; obtain ⟨g0, g1, g2, g3, g4, g5, g6, g7, g8⟩ := OpBox.frozen9 HW9.out.2.2; obtain ⟨k0, k1, k2, k3, k4, k5, k6, k7, k8⟩ := OpBox.cells9 HW9.out.2.2)
    try simp only [Exit.inBlock, Exit.then]
    refine bodyPost_ret (v := .agg (opCells i0 i1 kd a ⟨tx.toArray⟩ (.slice (some ⟨g, 0, none⟩) n cap) t0 t1 on)) ?hr2 ?hd2 ?hb2
    case hd2 => rfl
    case hr2 => exact results_cell_row rfl _ _ (w.heap.size + 1) 47 _ (0, 0) _ rfl (fin_box (cs := opCells 0 0 0 0 ⟨#[]⟩ (.slice none 0 0) 0 0 false) rfl (blk_put HW9.out.2.2 (by omega)) _ _ _ _ _ _ _ _ _) Tryz.underlying47 rfl (by kernel_rfl)
    case hb2 =>
      refine ⟨⟨_, rfl, ?_⟩, fin_below9 (HW9.out.1.setCell (p := ⟨w.heap.size, 5, none⟩) (Nat.le_refl _) _) (by omega) _ _ _ _ _ _ _ _ _⟩
      have h1 := HO.out
      rw [Nat.zero_add, List.nil_append] at h1
      exact own_weak' (own_fin9 (own_other h1 (by omega)) (by omega) _ _ _ _ _ _ _ _ _) (by omega)
end Go.Proofs.YtkdhomiieenfnaaGreatDoor.O

namespace Go.Proofs.YtkdhomiieenfnaaGreatDoor.O
open Go.RowKit Go.Proofs Go.Joins Go.Proofs.YtkdhomiieenfnaaGreatDoor.U Go.Proofs.YtkdhomiieenfnaaGreatDoor.Txt
set_option linter.unusedVariables false
set_option linter.unusedSimpArgs false
attribute [local go_sem] id_eq
attribute [local go_sem ↓] Go.wp_at_zero Go.wp_at_succ

theorem own_slice {w : World} {B e size n : Nat} {v : Value} {xs : List Value} (h : w.ownsRow B e size v n xs) : ∃ A m c, v = .slice A m c := by
  rcases h.2 with ⟨e1, _⟩ | ⟨g, cap, cur, hv, _⟩
  · exact ⟨_, _, _, e1⟩
  · exact ⟨_, _, _, hv⟩
set_option maxRecDepth 100000 in
set_option maxHeartbeats 4000000 in
theorem Clone_some (L : OpL) (gl c : Nat) (w : World) (hn : L.rs.length ≤ 1048577) (hR : Ranges w (some ⟨gl, 0, none⟩) L.rs.length L.rs) :
    Calls Tryz.prog 60 #[L.val (some ⟨gl, 0, none⟩) c] w (CloneRes w L) := by
  obtain ⟨i0, i1, kd, a, tx, rs, t0, t1, on⟩ := L
  unfold OpL.val opV CloneRes
  simp only at hn hR ⊢
  obtain ⟨i0', hi0, hz0, hz1, hz2⟩ := info_parts infoRange'
  have HI := Lib.hid (And.intro hi0 (And.intro hz0 (And.intro hz1 hz2)))
  have HR := Lib.hid hR
  clear hR hi0 hz0 hz1 hz2
  obtain ⟨W2, hW2⟩ : ∃ W2, (w.alloc (.cells #[.int .i64 i0, .int .i64 i1, .int .i64 kd, .int .i64 a, .string ⟨tx.toArray⟩, .slice (some ⟨gl, 0, none⟩) rs.length c, .int .i64 t0, .int .i64 t1, .bool on] 47)).alloc (.cells #[.int .i64 0, .int .i64 0, .int .i64 0, .int .i64 0, .string ⟨#[]⟩, .slice none 0 0, .int .i64 0, .int .i64 0, .bool false] 47) = W2 := ⟨_, rfl⟩
  have hb2 : Below w.heap.size w W2 := by rw [← hW2]; exact below_alloc2 _ _ _
  have hsz : W2.heap.size = w.heap.size + 2 := by rw [← hW2]; simp
  have hx1 : W2.heap[w.heap.size]? = some (.cells (opCells i0 i1 kd a ⟨tx.toArray⟩ (.slice (some ⟨gl, 0, none⟩) rs.length c) t0 t1 on) 47 (0, 0)) := by rw [← hW2]; exact two_fst w _ _
  have hx2 : W2.heap[w.heap.size + 1]? = some (.cells (opCells 0 0 0 0 ⟨#[]⟩ (.slice none 0 0) 0 0 false) 47 (0, 0)) := by rw [← hW2]; exact two_new2 w _ _
  have HNW := Lib.hid (show ∀ (j : Nat) u, (rsCells rs)[j]? = some u → W2.cell? ((⟨gl, 0, none⟩ : Addr).add j) = some u from fun j u hu => by
    have hlt := (List.getElem?_eq_some_iff.1 hu).1
    rw [rsCells_len] at hlt
    obtain ⟨b, off, e, hc⟩ := HR.out.at_ (by omega)
    obtain ⟨rfl, rfl⟩ : gl = b ∧ 0 = off := by cases e; exact ⟨rfl, rfl⟩
    exact rsCells_at (w := W2) (rs := rs) (b := gl) (off := 0) (fun j hj => ⟨cell_below hb2 (hc j hj).1, cell_below hb2 (hc j hj).2⟩) j u hu)
  have HB2 := Lib.hid hb2
  have HX1 := Lib.hid hx1
  have HX2 := Lib.hid hx2
  have HSZ := Lib.hid hsz
  have HW2 := Lib.hid hW2
  obtain ⟨d0, d1, d2, d3, d4, d5, d6, d7, d8⟩ := OpBox.cells9 hx1
  have HN := Lib.hid hn
  obtain ⟨n, hnn⟩ : ∃ n, rs.length = n := ⟨_, rfl⟩
  have HNN := Lib.hid hnn
  clear hb2 hx1 hx2 hsz hW2 hn
  rw [hnn] at HX1 HN HW2 d5 ⊢
  clear hnn
  go_enter Tryz.func60, Tryz.ntmps60
  go_upto_region 1 with fail
  rw [HW2.out]
  clear HW2
  go_wp2_with (at_builtin; refine wpList_append_own _ rfl (.const (.slice none 0 0)) (.tmp 4) 45 rfl (w.heap.size + 2) 102 i0' (.agg #[.int .i64 0, .int .i64 0]) 2 16 Tryz.underlying45 HI.out.1 HI.out.2.1 HI.out.2.2.1 HI.out.2.2.2 rfl (by decide) (.slice none 0 0) 0 [] rfl ⟨rfl, .inl ⟨rfl, rfl⟩⟩ ⟨gl, 0, none⟩ n c (rsCells rs) rfl (by rw [rsCells_len, HNN.out]) HNW.out (rsCells_one rs) (by have := HN.out; unfold maxLen; omega) (by have := HN.out; omega) (by rw [HSZ.out]; exact Nat.le_refl _) ?_; intro v9 w9 hown hgrow _; have hw9 := clone_world HB2.out HX1.out HX2.out HSZ.out hgrow; obtain ⟨A9, m9, cap, rfl⟩ := own_slice hown; have HO := Lib.hid hown; have HW9 := Lib.hid hw9; clear hown hgrow hw9 d0 d1 d2 d3 d4 d5 d6 d7 d8; obtain ⟨f0, f1, f2, f3, f4, f5, f6, f7, f8⟩ := OpBox.frozen9 HW9.out.2.1; obtain ⟨d0, d1, d2, d3, d4, d5, d6, d7, d8⟩ := OpBox.cells9 HW9.out.2.1; obtain ⟨g0, g1, g2, g3, g4, g5, g6, g7, g8⟩ := OpBox.frozen9 HW9.out.2.2; obtain ⟨k0, k1, k2, k3, k4, k5, k6, k7, k8⟩ := OpBox.cells9 HW9.out.2.2)
  try simp only [Exit.inBlock, Exit.then]
  refine bodyPost_ret (v := .agg (opCells i0 i1 kd a ⟨tx.toArray⟩ (.slice A9 m9 cap) t0 t1 on)) ?hr2 ?hd2 ?hb2
  case hd2 => rfl
  case hr2 => exact results_cell_row rfl _ _ (w.heap.size + 1) 47 _ (0, 0) _ rfl (fin_box (cs := opCells 0 0 0 0 ⟨#[]⟩ (.slice none 0 0) 0 0 false) rfl (blk_put HW9.out.2.2 (by omega)) _ _ _ _ _ _ _ _ _) Tryz.underlying47 rfl (by kernel_rfl)
  case hb2 =>
    refine ⟨⟨_, rfl, ?_⟩, fin_below9 (HW9.out.1.setCell (p := ⟨w.heap.size, 5, none⟩) (Nat.le_refl _) _) (by omega) _ _ _ _ _ _ _ _ _⟩
    have h1 := HO.out
    rw [Nat.zero_add, List.nil_append] at h1
    exact own_weak' (own_fin9 (own_other h1 (by omega)) (by omega) _ _ _ _ _ _ _ _ _) (by omega)
end Go.Proofs.YtkdhomiieenfnaaGreatDoor.O
