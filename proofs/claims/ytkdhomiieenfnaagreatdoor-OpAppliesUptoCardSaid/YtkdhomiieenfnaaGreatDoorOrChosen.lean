/- redraftlaw04.chosen. -/
import Derived.Test.YtkdhomiieenfnaaGreatDoorLs27
import Derived.Test.YtkdhomiieenfnaaGreatDoorLs28
import Derived.Laws.OwnMore
import Derived.Laws.MakeOwn
import Derived.Below
namespace Go.Proofs.YtkdhomiieenfnaaGreatDoor.O
open Go.RowKit Go.Proofs Go.Joins Go.Proofs.YtkdhomiieenfnaaGreatDoor.U Go.Proofs.YtkdhomiieenfnaaGreatDoor.Txt
set_option linter.unusedVariables false
set_option linter.unusedSimpArgs false
attribute [local go_sem] frozen?_alloc_cells
attribute [local go_sem ↓] Go.wp_at_zero Go.wp_at_succ

theorem infoRange' : (Tryz.prog.info? 102).map (fun i => (i.zero, i.size, i.bytes)) = some (some (.agg #[.int .i64 0, .int .i64 0]), 2, 16) := by kernel_rfl
theorem infoBool : (Tryz.prog.info? 4).map (fun i => (i.zero, i.size, i.bytes)) = some (some (.bool false), 1, 1) := by kernel_rfl
theorem mk_falses (n : Nat) (h2 : n ≤ 1000000) : ∀ w' : World, (Instr.makeSlice 137 (.int .i64 n) (.int .i64 n)).run Tryz.prog w' = .ok (.slice (some ⟨w'.heap.size, 0, none⟩) n n) (w'.alloc (.cells (List.replicate n (.bool false)).toArray 4)) := fun w' => by
  obtain ⟨i0, hi, hz0, hz1, hz2⟩ := info_parts infoBool
  have e := run_makeSlice w' 137 4 i0 (.bool false) Tryz.underlying137 hi hz0 .i64 .i64 (n : Int) (n : Int) (by omega) (Int.le_refl _) (by rw [hz1]; omega) (by rw [hz2]; omega) (by omega)
  rw [e, hz1, show ((n : Int)).toNat = n by omega, Nat.mul_one]
  have : madeCells (Value.bool false).cells n = (List.replicate n (.bool false)).toArray := by
    rw [← toList_madeCells_one]; rfl
  rw [this]
/-- A list of numbers in memory. -/
def ReadsI (w : World) (A : Option Addr) (n : Nat) (xs : List Int) : Prop :=
  xs.length = n ∧ n ≤ 17592186044416 ∧ (∀ x ∈ xs, -9223372036854775808 ≤ x ∧ x ≤ 9223372036854775807) ∧ (0 < n → ∃ ad, A = some ad ∧ ad.block < w.heap.size ∧ ∀ j, j < n → w.cell? (ad.add j) = some (.int .i64 (xs.getD j 0)))
/-- The marks of the chosen places. -/
structure Marks (w wr : World) (T : Nat) (bs : Array Value) : Prop where
  box : wr.heap[w.heap.size]? = some (.cells bs 4 (0, 0))
  size : bs.size = T
  bool : ∀ j, j < T → ∃ b, bs[j]? = some (.bool b)
  below : Below w.heap.size w wr
theorem Marks.step {w wr w' : World} {T : Nat} {bs : Array Value} (h : Marks w wr T bs) (hb : Below wr.heap.size wr w') : Marks w w' T bs :=
  ⟨(hb.block _ (Array.getElem?_eq_some_iff.1 h.box).1).trans h.box, h.size, h.bool, h.below.trans (hb.mono h.below.size)⟩
theorem Marks.put {w wr : World} {T : Nat} {bs : Array Value} (h : Marks w wr T bs) (R : Nat) (hR : R < T) : Marks w (wr.setCell ⟨w.heap.size, R, none⟩ (.bool true)) T (bs.setIfInBounds R (.bool true)) := by
  refine ⟨?_, by rw [Array.size_setIfInBounds]; exact h.size, fun j hj => ?_, h.below.setCell (p := ⟨w.heap.size, R, none⟩) (Nat.le_refl _) _⟩
  · have := h.box
    simp [World.setCell, Array.getElem?_modify, this]
  · by_cases e : R = j
    · subst e; exact ⟨true, by rw [Array.getElem?_setIfInBounds_self, if_pos (by rw [h.size]; exact hR)]⟩
    · rw [Array.getElem?_setIfInBounds_ne e]; exact h.bool j hj
theorem marks_grow {w wr w9 : World} {T : Nat} {bs : Array Value} {e size n : Nat} {v : Value} {xs : List Value} {o : Obj} (h : Marks w wr T bs) (ho : wr.ownsRow (w.heap.size + 1) e size v n xs) (hg : (wr.alloc o).grownBy w9 v.ownBlock) : Marks w w9 T bs := by
  have hlt := (Array.getElem?_eq_some_iff.1 h.box).1
  have hv : ∀ k, v.ownBlock = some k → w.heap.size + 1 ≤ k := fun k hk => by
    rcases ho.2 with ⟨hn, _⟩ | ⟨b, cap, cur, hvv, hbg, _, _⟩
    · rw [hn] at hk; cases hk
    · rw [hvv] at hk
      obtain rfl := Option.some.inj hk
      exact hbg
  refine ⟨?_, h.size, h.bool, (h.below.alloc h.below.size o).grown hg (by have := h.below.size; simp; omega) (fun k hk => by have := hv k hk; omega)⟩
  rw [hg.block _ (by simp; omega) (fun e1 => by have := hv _ e1.symm; omega), Lib.alloc_old wr _ _ hlt]
  exact h.box
theorem marks_far {w wr : World} {T : Nat} {bs : Array Value} {g i : Nat} {x : Value} (h : Marks w wr T bs) (hg : w.heap.size < g) : Marks w (wr.setCell ⟨g, i, none⟩ x) T bs :=
  ⟨by have := h.box; have hn : g ≠ w.heap.size := by omega
      simpa [World.setCell, Array.getElem?_modify, hn] using this, h.size, h.bool, h.below.setCell (p := ⟨g, i, none⟩) (by simp; omega) x⟩
theorem snoc_cases (rs : List (Int × Int)) : rs = [] ∨ ∃ ys a h, rs = ys ++ [(a, h)] := by
  rcases List.eq_nil_or_concat rs with e | ⟨ys, ⟨a, h⟩, e⟩
  · exact .inl e
  · exact .inr ⟨ys, a, h, by rw [e, List.concat_eq_append]⟩
/-- What chosen hands back. -/
def ChosenRes (w : World) (T : Nat) (e : Ending) (w' : World) : Prop :=
  ∃ v rs, e = .returned v ∧ w'.ownsRow (w.heap.size + 1) 102 2 v rs.length (rsCells rs) ∧ Up (-1) rs ∧ (∀ r ∈ rs, r.2 ≤ T) ∧ rs ≠ [] ∧ rs.length ≤ T ∧ Below w.heap.size w w'

set_option maxRecDepth 100000 in
set_option maxHeartbeats 8000000 in
theorem chosen_any (A : Option Addr) (n c : Nat) (xs : List Int) (T : Nat) (w : World) (hT : 1 ≤ T ∧ T ≤ 1000000) (hn : 1 ≤ n) (hr : ReadsI w A n xs) :
    Calls Tryz.prog 41 #[.slice A n c, .int .i64 T] w (ChosenRes w T) := by
  obtain ⟨hl, hnb, hxb, hr⟩ := hr
  have hmk := mk_falses T hT.2
  have HMK := Lib.hid hmk
  have HXB := Lib.hid hxb
  obtain ⟨ad, hA, hbl, hcs⟩ := hr (by omega)
  have HCS := Lib.hid hcs
  have HL := Lib.hid hl
  subst hA
  clear hr hcs hl hxb
  obtain ⟨t1, t2⟩ := hT
  go_enter Tryz.func41, Tryz.ntmps41
  go_wp2_with fail
  have M0 := Lib.hid (show Marks w (w.alloc (.cells (List.replicate T (.bool false)).toArray 4)) T (List.replicate T (.bool false)).toArray from ⟨heap_alloc_new w _, by simp, fun j hj => ⟨false, by simp [hj]⟩, below_alloc1 w _⟩)
  clear hmk
  go_loopw [6] (fun i wr => ∃ (k : Nat) (bs : Array Value), k ≤ n ∧ k ≤ 40 ∧ i = .int .i64 k ∧ Marks w wr T bs ∧ (0 < k → ∃ p, p < T ∧ bs[p]? = some (.bool true))) (fun i _ => n - (intOf i).toNat)
  case atStart => exact ⟨0, _, Nat.zero_le _, by omega, rfl, M0.out, fun h => by omega⟩
  case round =>
    obtain ⟨k, bs, hk, hk2, rfl, hM, hp⟩ := hrel
    have HM := Lib.hid hM
    have HP := Lib.hid hp
    clear hM hp M0
    by_cases hgo : k < n ∧ k < 40
    · obtain ⟨g1, g2⟩ := hgo
      have g2' : decide ((k : Int) < 40) = true := by simp; omega
      have hc := HCS.out k g1
      have hx := HXB.out (xs.getD k 0) (by
        have := HL.out
        rw [List.getD_eq_getElem?_getD, List.getElem?_eq_getElem (by omega)]
        exact List.getElem_mem _)
      rw [← HM.out.below.cell (by rw [add_block]; exact hbl)] at hc
      generalize xs.getD k 0 = x at hc hx
      obtain ⟨x0, x1⟩ := hx
      go_wp2_with fail
      refine (pick_any x T _ (by omega)).mono ?_
      rintro e w' ⟨⟨r, rfl, r0, r1⟩, hw⟩
      obtain rfl := hw.symm
      obtain ⟨R, rfl⟩ : ∃ R : Nat, r = R := ⟨r.toNat, by omega⟩
      have hRT : R < T := by omega
      obtain ⟨b, hb⟩ := HM.out.bool R hRT
      have c1 : wr.cell? ⟨w.heap.size, R, none⟩ = some (.bool b) := by rw [Lib.cell_of_heap HM.out.box, hb]
      have f1 : wr.frozen? ⟨w.heap.size, R, none⟩ = false := Lib.frozen_of_heap HM.out.box R
      clear hb hc
      go_wp2_with fail
      go_roundw
      case rel => exact ⟨k + 1, _, by omega, by omega, by go_num, HM.out.put R hRT, fun _ => ⟨R, hRT, by rw [Array.getElem?_setIfInBounds_self, if_pos (by rw [HM.out.size]; exact hRT)]⟩⟩
      case measure => simp [intOf]; omega
    · have hk1 : 0 < k := by omega
      obtain ⟨p, hpT, hpt⟩ := HP.out hk1
      have HPT := Lib.hid hpt
      clear hpt HP
      have HQ : (k < n ∧ decide ((k : Int) < 40) = false) ∨ (decide (k < n) = false ∧ n ≤ k) := by
        by_cases g1 : k < n
        · exact .inl ⟨g1, by simp; omega⟩
        · exact .inr ⟨by simp; omega, by omega⟩
      obtain ⟨i0, hi0, hz0, hz1, hz2⟩ := info_parts infoRange'
      have HI := Lib.hid (And.intro hi0 (And.intro hz0 (And.intro hz1 hz2)))
      have HPB := Lib.hid hpT
      clear hi0 hz0 hz1 hz2 hgo hpT
      rcases HQ with ⟨g1, g2⟩ | ⟨g1, g2⟩
      all_goals (go_wp2_with fail)
      all_goals
        clear g1 g2
        go_loopw [7, 8] (fun v i wr2 => ∃ (j : Nat) (rs : List (Int × Int)), j ≤ T ∧ i = .int .i64 j ∧ Marks w wr2 T bs ∧ wr2.ownsRow (w.heap.size + 1) 102 2 v rs.length (rsCells rs) ∧ Up (-1) rs ∧ (∀ r ∈ rs, r.2 ≤ (j : Int)) ∧ rs.length ≤ j ∧ (p < j → rs ≠ [])) (fun _ i _ => T - (intOf i).toNat)
        case atStart => exact ⟨0, [], Nat.zero_le _, rfl, HM.out, ⟨rfl, .inl ⟨rfl, rfl⟩⟩, trivial, (fun r hr => by cases hr), Nat.zero_le _, fun h => by omega⟩
        case round =>
          obtain ⟨j, rs, hj, rfl, hM, hown, hup, hhi, hlen, hne⟩ := hrel
          have HM2 := Lib.hid hM
          have HO := Lib.hid hown
          have HU := Lib.hid hup
          have HH := Lib.hid hhi
          have HLN := Lib.hid hlen
          have HNE := Lib.hid hne
          clear hM hown hup hhi hlen hne
          have HJ := Lib.hid (show j ≤ 1000000 by omega)
          have hjb : (j : Int) ≤ 1000000 := by omega
          by_cases hlt : j < T
          · obtain ⟨b, hb⟩ := HM2.out.bool j hlt
            have c0 := (Lib.cell_of_heap HM2.out.box (j := j)).trans hb
            have HLT := Lib.hid (Array.getElem?_eq_some_iff.1 HM2.out.box).1
            cases b with
            | false =>
              have hpj : p ≠ j := fun e => by have := HPT.out; rw [e, hb] at this; cases this
              have HPJ := Lib.hid hpj
              clear hb hpj
              go_wp2_with fail
              go_roundw
              case rel => exact ⟨j + 1, rs, by omega, by go_num, HM2.out, HO.out, HU.out, (fun r hr => by have := HH.out r hr; omega), by have := HLN.out; omega, fun h => HNE.out (by have := HPJ.out; omega)⟩
              case measure => simp [intOf]; omega
            | true =>
              clear hb
              rcases snoc_cases rs with rfl | ⟨ys, a, h, rfl⟩
              · obtain ⟨A', cap, rfl⟩ : ∃ A' cap, u7 = .slice A' 0 cap := by
                  rcases HO.out.2 with ⟨e1, h0⟩ | ⟨g, cap, cur, hv, _⟩
                  · exact ⟨_, _, e1⟩
                  · exact ⟨_, cap, hv⟩
                go_wp2_with (at_builtin; refine wpList_append_lies _ rfl (.tmp 61) (.tmp 66) 45 rfl (w.heap.size + 1) 102 i0 (.agg #[.int .i64 0, .int .i64 0]) 2 16 Tryz.underlying45 HI.out.1 HI.out.2.1 HI.out.2.2.1 HI.out.2.2.2 rfl (by decide) _ _ _ rfl (own_below HO.out (below_alloc1 _ _)) _ 1 1 [.int .i64 j, .int .i64 ((j : Int) + 1)] rfl rfl (fun j u hj => news_alloc _ _ _ j u hj) (by simp [Value.oneCell']) (by decide) (by have := HLN.out; have := HJ.out; unfold maxLen; skip; omega) (by have := HLN.out; have := HJ.out; skip; omega) (by have h3 := HLT.out; simp; omega) _ rfl ?_; intro g9 cap9 w9 hown hgrow hat hgl; have HO9 := Lib.hid hown; have HM9 := Lib.hid (marks_grow HM2.out HO.out hgrow); clear hown hgrow hat hgl)
                go_roundw
                case rel => exact ⟨j + 1, [((j : Int), (j : Int) + 1)], by omega, by go_num, HM9.out, HO9.out, ⟨by omega, by omega, trivial⟩, (fun r hr => by rw [List.mem_singleton.1 hr]; simp), by simp, fun _ => by simp⟩
                case measure => simp [intOf]; omega
              · obtain ⟨m, hm⟩ : ∃ m, ys.length = m := ⟨_, rfl⟩
                have hml : (ys ++ [(a, h)]).length = m + 1 := by rw [List.length_append, hm]; rfl
                have HLEN := Lib.hid (show m + 1 ≤ j by have := HLN.out; rw [hml] at this; exact this)
                rw [hml] at HO
                have HYM := Lib.hid hm
                obtain ⟨g, cap, rfl⟩ : ∃ g cap, u7 = .slice (some ⟨g, 0, none⟩) (m + 1) cap := by
                  rcases HO.out.2 with ⟨e1, h0⟩ | ⟨g, cap, cur, hv, _⟩
                  · omega
                  · exact ⟨g, cap, hv⟩
                have hg : w.heap.size + 1 ≤ g := by
                  rcases HO.out.2 with ⟨e1, h0⟩ | ⟨g', cap', cur, hv, hbg, _⟩
                  · omega
                  · cases hv; exact hbg
                have HGB := Lib.hid hg
                have x1 : wr.cell? ⟨g, m * 2 + 1, none⟩ = some (.int .i64 h) := by
                  have h5 := (rsCells_get (ys ++ [(a, h)]) m (by rw [hml]; omega)).2
                  have h6 := HO.out.cells (g := g) rfl (m * 2 + 1) _ h5
                  have e2 : (⟨g, m * 2 + 1, none⟩ : Addr) = (⟨g, 0, none⟩ : Addr).add (m * 2 + 1) := by simp [Addr.add]
                  rw [e2, h6]
                  subst hm
                  simp
                have f1 : wr.frozen? ⟨g, m * 2 + 1, none⟩ = false := HO.out.frozenAt (m * 2 + 1)
                have hmb : (m : Int) ≤ 1000000 := by have := HLEN.out; omega
                have hup2 := (up_snoc (-1) ys a h).1 HU.out
                have hhj := HH.out (a, h) (by simp)
                simp only at hhj
                have HUP2 := Lib.hid hup2
                clear hm hml hg hup2
                by_cases hhe : h = (j : Int)
                · subst hhe
                  have b1 : ((j : Int) == (j : Int)) = true := by simp
                  go_wp2_with fail
                  go_roundw
                  case rel =>
                    refine ⟨j + 1, ys ++ [(a, (j : Int) + 1)], by omega, by go_num, marks_far HM2.out (by have := HGB.out; omega), ?_, ?_, ?_, ?_, fun _ => by simp⟩
                    · have h7 := (HO.out.stored (m * 2 + 1) (.int .i64 ((j : Int) + 1))).1
                      rw [List.length_append, HYM.out]
                      have e3 : (rsCells (ys ++ [(a, (j : Int))])).set (m * 2 + 1) (.int .i64 ((j : Int) + 1)) = rsCells (ys ++ [(a, (j : Int) + 1)]) := by
                        rw [rsCells_snoc, rsCells_snoc, ← HYM.out]
                        have := rsCells_len ys
                        rw [List.set_append_right _ _ (by omega), show ys.length * 2 + 1 - (rsCells ys).length = 1 by omega]
                        rfl
                      rw [e3] at h7
                      exact h7
                    · exact (up_snoc (-1) ys a _).2 ⟨HUP2.out.1, HUP2.out.2.1, by have := HUP2.out.2.2; omega⟩
                    · intro r hr
                      rcases List.mem_append.1 hr with h8 | h8
                      · have := HH.out r (List.mem_append.2 (.inl h8)); omega
                      · rw [List.mem_singleton.1 h8]; simp
                    · rw [List.length_append, HYM.out]; have := HLEN.out; simp; omega
                  case measure => simp [intOf]; omega
                · have b1 : (h == (j : Int)) = false := by simpa using hhe
                  have HNH := Lib.hid hhe
                  have HHJ := Lib.hid hhj
                  clear hhe hhj
                  go_wp2_with (at_builtin; refine wpList_append_lies _ rfl (.tmp 61) (.tmp 66) 45 rfl (w.heap.size + 1) 102 i0 (.agg #[.int .i64 0, .int .i64 0]) 2 16 Tryz.underlying45 HI.out.1 HI.out.2.1 HI.out.2.2.1 HI.out.2.2.2 rfl (by decide) _ _ _ rfl (own_below HO.out (below_alloc1 _ _)) _ 1 1 [.int .i64 j, .int .i64 ((j : Int) + 1)] rfl rfl (fun j u hj => news_alloc _ _ _ j u hj) (by simp [Value.oneCell']) (by decide) (by have h1 := HLEN.out; have := HJ.out; unfold maxLen; omega) (by have h1 := HLEN.out; have := HJ.out; omega) (by have h3 := HLT.out; simp; omega) _ rfl ?_; intro g9 cap9 w9 hown hgrow hat hgl; have HO9 := Lib.hid hown; have HM9 := Lib.hid (marks_grow HM2.out HO.out hgrow); clear hown hgrow hat hgl)
                  go_roundw
                  case rel =>
                    refine ⟨j + 1, ys ++ [(a, h)] ++ [((j : Int), (j : Int) + 1)], by omega, by go_num, HM9.out, ?_, ?_, ?_, ?_, fun _ => by simp⟩
                    · rw [List.length_append, List.length_append, HYM.out, rsCells_snoc]; exact HO9.out
                    · exact (up_snoc (-1) _ _ _).2 ⟨HU.out, by rw [lastHi_snoc]; have := HHJ.out; have := HNH.out; omega, by omega⟩
                    · intro r hr
                      rcases List.mem_append.1 hr with h8 | h8
                      · have := HH.out r h8; omega
                      · rw [List.mem_singleton.1 h8]; simp
                    · rw [List.length_append, List.length_append, HYM.out]; have := HLEN.out; simp; omega
                  case measure => simp [intOf]; omega
          · obtain rfl : j = T := by omega
            go_wp2_with fail
            go_ret
            exact ⟨_, rs, rfl, HO.out, HU.out, HH.out, HNE.out HPB.out, HLN.out, HM2.out.below⟩
end Go.Proofs.YtkdhomiieenfnaaGreatDoor.O
