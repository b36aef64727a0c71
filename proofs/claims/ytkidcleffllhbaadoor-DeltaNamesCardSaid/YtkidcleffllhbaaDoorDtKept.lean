/- delta.kept. -/
import Derived.Test.YtkidcleffllhbaaDoorDtKeptP
import Derived.Test.YtkidcleffllhbaaDoorDtChgS
import Derived.Test.YtkidcleffllhbaaDoorDtSplices
namespace Go.Proofs.YtkidcleffllhbaaDoor.Dt
open Go.RowKit Go.Proofs Go.Proofs.YtkidcleffllhbaaDoor.U Go.Proofs.YtkidcleffllhbaaDoor.Txt
set_option linter.unusedVariables false
set_option linter.unusedSimpArgs false

theorem infoInt : (Tryd.prog.info? 3).map (fun i => (i.zero, i.size, i.bytes)) = some (some (.int .i64 0), 1, 8) := by kernel_rfl
def kCells (l : List Int) : Array Value := (i64s l).toArray
theorem mk_ints (n : Nat) (h2 : n ≤ 10000000) : ∀ w' : World, (Instr.makeSlice 46 (.int .i64 n) (.int .i64 n)).run Tryd.prog w' = .ok (.slice (some ⟨w'.heap.size, 0, none⟩) n n) (w'.alloc (.cells (kCells (List.replicate n 0)) 3)) := fun w' => by
  obtain ⟨i0, hi, hz0, hz1, hz2⟩ := info_parts infoInt
  have e := run_makeSlice w' 46 3 i0 (.int .i64 0) Tryd.underlying46 hi hz0 .i64 .i64 (n : Int) (n : Int) (by omega) (Int.le_refl _) (by rw [hz1]; omega) (by rw [hz2]; omega) (by omega)
  rw [e, hz1, show ((n : Int)).toNat = n by omega, Nat.mul_one]
  have : madeCells (Value.int .i64 0).cells n = kCells (List.replicate n 0) := by
    unfold kCells i64s
    rw [List.map_replicate]
    show _ = (List.replicate n (Value.int .i64 0)).toArray
    rw [← toList_madeCells_one]; rfl
  rw [this]
/-- The list under way: what is decided, and noughts. -/
structure KIn (w0 w : World) (kb n : Nat) (D : List Int) (v : Value) (M : Nat) (cs : List Value) : Prop where
  box : w.heap[kb]? = some (.cells (kCells (D ++ List.replicate (n - D.length) 0)) 3 (0, 0))
  row : w.ownsRow (kb + 1) 82 4 v M cs
  le : D.length ≤ n
  below : Below kb w0 w
theorem KIn.later {w0 w w' : World} {kb n M : Nat} {D : List Int} {v : Value} {cs : List Value} (h : KIn w0 w kb n D v M cs) (hk : kb ≤ w.heap.size) (hb : Below w.heap.size w w') : KIn w0 w' kb n D v M cs :=
  ⟨(hb.block _ (Array.getElem?_eq_some_iff.1 h.box).1).trans h.box, own_below h.row hb, h.le, h.below.trans (hb.mono hk)⟩
theorem KIn.lt {w0 w : World} {kb n M : Nat} {D : List Int} {v : Value} {cs : List Value} (h : KIn w0 w kb n D v M cs) : kb < w.heap.size := (Array.getElem?_eq_some_iff.1 h.box).1
theorem KIn.cell {w0 w : World} {kb n M : Nat} {D : List Int} {v : Value} {cs : List Value} (h : KIn w0 w kb n D v M cs) (hl : D.length < n) : w.cell? ⟨kb, D.length, none⟩ = some (.int .i64 0) ∧ w.frozen? ⟨kb, D.length, none⟩ = false := by
  refine ⟨?_, Lib.frozen_of_heap h.box _⟩
  rw [Lib.cell_of_heap h.box]
  have : (kCells (D ++ List.replicate (n - D.length) 0))[D.length]? = some (.int .i64 0) := by
    simp only [kCells, i64s, List.getElem?_toArray, List.getElem?_map]
    rw [List.getElem?_append_right (Nat.le_refl _), Nat.sub_self, List.getElem?_replicate, if_pos (by omega)]
    rfl
  rw [this]
theorem KIn.put {w0 w : World} {kb n M : Nat} {D : List Int} {v : Value} {cs : List Value} (h : KIn w0 w kb n D v M cs) (hl : D.length < n) (z : Int) : KIn w0 (w.setCell ⟨kb, D.length, none⟩ (.int .i64 z)) kb n (D ++ [z]) v M cs := by
  refine ⟨?_, ?_, by simp; omega, h.below.setCell (p := ⟨kb, D.length, none⟩) (Nat.le_refl _) _⟩
  · have hb := h.box
    simp only [World.setCell, Array.getElem?_modify, hb, if_true, Option.map_some]
    have e : n - D.length = (n - (D ++ [z]).length) + 1 := by simp; omega
    have e2 : (kCells (D ++ List.replicate (n - D.length) 0)).setIfInBounds D.length (.int .i64 z) = kCells (D ++ [z] ++ List.replicate (n - (D ++ [z]).length) 0) := by
      rw [e, List.replicate_succ]
      simp [kCells, i64s, List.map_append]
    simp [e2]
  · refine ⟨h.row.1, ?_⟩
    rcases h.row.2 with hn | ⟨b, cap, cur, hv, hbg, hb, rest⟩
    · exact .inl hn
    · refine .inr ⟨b, cap, cur, hv, hbg, ?_, rest⟩
      have : kb ≠ b := by omega
      simpa [World.setCell, Array.getElem?_modify, this] using hb
theorem KIn.drew {w0 w : World} {kb n M : Nat} {D : List Int} {v : Value} {cs : List Value} (h : KIn w0 w kb n D v M cs) (N : Nat) : KIn w0 (w.drewN N) kb n D v M cs := ⟨h.box, h.row, h.le, ⟨h.below.os, h.below.tape, h.below.output, h.below.size, h.below.block⟩⟩
/-- The whole loop's list, from a place on. -/
def From (x y : List ByteArray) (k i j : Nat) (D : List Int) : Prop :=
  (k ≤ (chL x y).length ∧ D ++ kfL i j ((chL x y).drop k) x.length = keptL x y ∧ Segs x y i j ((chL x y).drop k) x.length y.length) ∨ (k = (chL x y).length + 1 ∧ D = keptL x y)
/-- The changes, closed by the end. -/
def chgE (x y : List ByteArray) : List Chg := chL x y ++ [⟨x.length, 0, 0, 0⟩]
theorem From.step {x y : List ByteArray} {k i j : Nat} {D : List Int} (h : From x y k i j D) (hk : k < (chgE x y).length) : i ≤ (chgE x y)[k].at_ ∧ (chgE x y)[k].at_ + (chgE x y)[k].del ≤ x.length ∧ (chgE x y)[k].ins ≤ y.length ∧ j ≤ y.length ∧ j + ((chgE x y)[k].at_ - i) ≤ y.length ∧
    From x y (k + 1) ((chgE x y)[k].at_ + (chgE x y)[k].del) (j + ((chgE x y)[k].at_ - i) + (chgE x y)[k].ins) (D ++ upL ((chgE x y)[k].at_ - i) j ++ List.replicate (chgE x y)[k].del (-1)) := by
  have hlen : (chgE x y).length = (chL x y).length + 1 := by simp [chgE]
  rcases h with ⟨h1, h2, h3⟩ | ⟨h1, _⟩
  · by_cases hk2 : k < (chL x y).length
    · have e : (chgE x y)[k] = (chL x y)[k] := by simp [chgE, List.getElem_append_left hk2]
      rw [e]
      rw [List.drop_eq_getElem_cons hk2] at h2 h3
      obtain ⟨g1, g2, g3, g4⟩ := h3
      have b1 := (kf_ok _ _ _ g4).len
      have b2 := segs_le _ g4
      refine ⟨g1, by omega, by omega, by omega, by omega, .inl ⟨hk2, ?_, ?_⟩⟩
      · rw [← h2, kfL, ← g2]; simp [List.append_assoc]
      · rw [← g2]; exact g4
    · obtain rfl : k = (chL x y).length := by omega
      have e : (chgE x y)[(chL x y).length] = ⟨x.length, 0, 0, 0⟩ := by simp [chgE]
      rw [e]
      rw [List.drop_length] at h2 h3
      obtain ⟨g1, g2, g3⟩ := h3
      refine ⟨g1, by simp, by simp, by omega, by simp; omega, .inr ⟨rfl, ?_⟩⟩
      rw [← h2, kfL]; simp
  · omega
theorem chgE_small {x y : List ByteArray} (k : Nat) (hk : k < (chgE x y).length) : True := trivial
set_option maxRecDepth 100000 in
set_option maxHeartbeats 8000000 in
theorem kept_any (A B : Option Addr) (c d : Nat) (x y : List ByteArray) (w : World) (hx : CellsS w A x) (hy : CellsS w B y) (hn : x.length ≤ 2048) (hm : y.length ≤ 2048) :
    Calls Tryd.prog 33 #[.slice A x.length c, .slice B y.length d] w fun e w' => ∃ v, e = .returned v ∧ w'.ownsRow w.heap.size 3 1 v x.length (i64s (keptL x y)) ∧ Below w.heap.size w w' := by
  have hmk := mk_ints x.length (by omega)
  have HMK := Lib.hid hmk
  have hb0 : Below w.heap.size w (w.alloc (.cells (kCells (List.replicate x.length 0)) 3)) := (Below.refl _ _).alloc (Nat.le_refl _) _
  have HC := Lib.hid (changesS_any A B c d x y _ (hx.below hb0) (hy.below hb0) hn hm)
  have hbx := heap_alloc_new w (.cells (kCells (List.replicate x.length 0)) 3)
  have hsz : (w.alloc (.cells (kCells (List.replicate x.length 0)) 3)).heap.size = w.heap.size + 1 := by simp
  obtain ⟨w1, hw1⟩ : ∃ w1, w.alloc (.cells (kCells (List.replicate x.length 0)) 3) = w1 := ⟨_, rfl⟩
  rw [hw1] at hb0 HC hbx hsz
  have HW1 := Lib.hid hw1
  obtain ⟨i0, hi, hz0, hz1, hz2⟩ := info_parts infoChg
  have HI := Lib.hid (And.intro hi (And.intro hz0 (And.intro hz1 hz2)))
  have HB0 := Lib.hid hb0
  have HBX := Lib.hid hbx
  have HSZ := Lib.hid hsz
  clear hi hz0 hz1 hz2 hx hy hb0 hbx hsz hw1
  obtain ⟨n, hn'⟩ : ∃ n, x.length = n := ⟨_, rfl⟩
  have HNX := Lib.hid hn'
  rw [hn'] at hn hmk HBX HC HW1 ⊢
  obtain ⟨kb, hkb⟩ : ∃ kb, w.heap.size = kb := ⟨_, rfl⟩
  have HKB := Lib.hid hkb
  rw [hkb] at HBX
  go_enter Tryd.func33, Tryd.ntmps33
  go_upto_region 3 with fail
  rw [HW1.out]
  go_wp2_with fail
  refine HC.out.mono ?_
  rintro e w2 ⟨vc, rfl, hown, hb2⟩
  have HL := Lib.hid (show (chL x y).length ≤ 4096 by obtain ⟨⟨o', h⟩, _⟩ := chL_cut x y; have := h.length_le; rw [HNX.out] at this; omega)
  have HO := Lib.hid hown
  have HB2 := Lib.hid hb2
  obtain ⟨M, hM⟩ : ∃ M, (chL x y).length = M := ⟨_, rfl⟩
  have HMM := Lib.hid hM
  rw [hM] at HO HL
  clear hown hb2 hM hmk HC HW1
  go_wp2_with (at_builtin; refine wpList_append_lies _ rfl (.tmp 15) (.tmp 19) 79 rfl w1.heap.size 82 i0 (.agg #[.int .i64 0, .int .i64 0, .int .i64 0, .int .i64 0]) 4 32 Tryd.underlying79 HI.out.1 HI.out.2.1 HI.out.2.2.1 HI.out.2.2.2 rfl (by decide) vc M (chgCells (chL x y)) rfl (own_below HO.out ((Below.refl _ _).alloc (Nat.le_refl _) _)) _ 1 1 [.int .i64 n, .int .i64 0, .int .i64 0, .int .i64 0] rfl rfl (fun j u hj => news_alloc _ _ _ j u hj) (by simp [Value.oneCell']) (by decide) (by have := HL.out; unfold maxLen; omega) (by have := HL.out; omega) (by have h3 := HB2.out.size; simp; omega) _ rfl ?_; intro g cap w9 hown hgrow hat hgl; have HO9 := Lib.hid hown; have HB9 := Lib.hid (grown_own HB2.out HO.out hgrow); clear hown hgrow hat hgl)
  have hK0 : KIn w w9 kb n [] (.slice (some ⟨g, 0, none⟩) (M + 1) cap) (M + 1) (chgCells (chgE x y)) := by
    refine ⟨(HB9.out.block kb (by rw [HSZ.out, HKB.out]; omega)).trans HBX.out, ?_, Nat.zero_le _, ?_⟩
    · have h9 := HO9.out
      rw [HSZ.out, HKB.out] at h9
      unfold chgE
      rw [chgCells_snoc, HNX.out]
      exact h9
    · have h1 := HB0.out.trans (HB9.out.mono HB0.out.size)
      rw [HKB.out] at h1
      exact h1
  have HK0 := Lib.hid hK0
  have HEL := Lib.hid (show (chgE x y).length = M + 1 by simp [chgE, HMM.out])
  have HF0 := Lib.hid (show From x y 0 0 0 [] from .inl ⟨Nat.zero_le _, by simp [keptL], by obtain ⟨⟨o', h⟩, _⟩ := chL_cut x y; exact h.segs⟩)
  clear hK0 HO HO9 HB2 HB9 HBX HB0
  go_wp2_with fail
  go_loopw [6, 7, 22] (fun i j k wr => ∃ (kk ii jj : Nat) (D : List Int), k = .int .i64 kk ∧ i = .int .i64 ii ∧ j = .int .i64 jj ∧ kk ≤ M + 1 ∧ D.length = ii ∧ ii ≤ n ∧ jj ≤ 4096 ∧ From x y kk ii jj D ∧ KIn w wr kb n D (.slice (some ⟨g, 0, none⟩) (M + 1) cap) (M + 1) (chgCells (chgE x y))) (fun _ _ k _ => M + 1 - (intOf k).toNat)
  case atStart => exact ⟨0, 0, 0, [], rfl, rfl, rfl, Nat.zero_le _, rfl, Nat.zero_le _, Nat.zero_le _, HF0.out, HK0.out⟩
  case round =>
    obtain ⟨kk, ii, jj, D, rfl, rfl, rfl, hkk, hDl, hii, hjj, hfr, hK⟩ := hrel
    have HFR := Lib.hid hfr
    have HK := Lib.hid hK
    have HDL := Lib.hid hDl
    clear hfr hK hDl HF0 HK0
    have hml := HL.out
    by_cases hlt : kk < M + 1
    · have hkl : kk < (chgE x y).length := by rw [HEL.out]; exact hlt
      obtain ⟨s1, s2, s3, s4, s5, s6⟩ := HFR.out.step hkl
      have hg4 := chgCells_get (chgE x y) kk hkl
      have y0 := HK.out.row.cellAt (kk * 4) (by omega)
      have y1 := HK.out.row.cellAt (kk * 4 + 1) (by omega)
      have y2 := HK.out.row.cellAt (kk * 4 + 2) (by omega)
      have y3 := HK.out.row.cellAt (kk * 4 + 3) (by omega)
      rw [hg4.1] at y0
      rw [hg4.2.1] at y1
      rw [hg4.2.2.1] at y2
      rw [hg4.2.2.2] at y3
      generalize (chgE x y)[kk] = ch at y0 y1 y2 y3 s1 s2 s3 s5 s6
      obtain ⟨ca, cd, cf, ci⟩ := ch
      simp only at y0 y1 y2 y3 s1 s2 s3 s5 s6
      rw [HNX.out] at s2
      have HS6 := Lib.hid s6
      clear hg4 hkl s6
      go_wp2_with fail
      have hxa := heap_alloc_new wr (.cells #[.int .i64 ca, .int .i64 cd, .int .i64 cf, .int .i64 ci] 82)
      have hka := HK.out.later (Nat.le_of_lt HK.out.lt) ((Below.refl wr.heap.size wr).alloc (Nat.le_refl _) (.cells #[.int .i64 ca, .int .i64 cd, .int .i64 cf, .int .i64 ci] 82))
      have hlk := HK.out.lt
      generalize wr.alloc (.cells #[.int .i64 ca, .int .i64 cd, .int .i64 cf, .int .i64 ci] 82) = wa at hxa hka ⊢
      generalize wr.heap.size = bx at hxa hlk ⊢
      have HXA := Lib.hid hxa
      have HKA := Lib.hid hka
      have HBK := Lib.hid (show kb ≠ bx by omega)
      clear hxa hka hlk y0 y1 y2 y3
      go_loopw [6, 7] (fun i j w2 => ∃ (I J : Nat), i = .int .i64 I ∧ j = .int .i64 J ∧ ii ≤ I ∧ I ≤ ca ∧ J = jj + (I - ii) ∧ KIn w w2 kb n (D ++ upL (I - ii) jj) (.slice (some ⟨g, 0, none⟩) (M + 1) cap) (M + 1) (chgCells (chgE x y)) ∧ w2.heap[bx]? = some (.cells #[.int .i64 ca, .int .i64 cd, .int .i64 cf, .int .i64 ci] 82 (0, 0))) (fun i _ _ => ca - (intOf i).toNat)
      case atStart => exact ⟨ii, jj, rfl, rfl, Nat.le_refl _, s1, by omega, by rw [Nat.sub_self]; simpa [upL] using HKA.out, HXA.out⟩
      case round =>
        obtain ⟨I, J, rfl, rfl, t1, t2, t3, hk2, hx2⟩ := hrel
        have HK2 := Lib.hid hk2
        have HX2 := Lib.hid hx2
        have z0 : wr.cell? ⟨bx, 0, none⟩ = some (.int .i64 ca) := by rw [Lib.cell_of_heap hx2]; rfl
        have hDI : (D ++ upL (I - ii) jj).length = I := by rw [List.length_append, upL_len, HDL.out]; omega
        have HDI := Lib.hid hDI
        clear hk2 hx2 hDI
        by_cases hI : I < ca
        · obtain ⟨k1, k2⟩ := HK2.out.cell (by rw [HDI.out]; omega)
          rw [HDI.out] at k1 k2
          have hput := HK2.out.put (by rw [HDI.out]; omega) (J : Int)
          rw [HDI.out] at hput
          have HPUT := Lib.hid hput
          clear hput
          go_wp2_with fail
          go_roundw
          case rel =>
            refine ⟨I + 1, J + 1, by go_num, by go_num, by omega, by omega, by omega, ?_, ?_⟩
            · have h9 := HPUT.out
              rw [show I + 1 - ii = (I - ii) + 1 by omega, upL_snoc, ← List.append_assoc, show (jj : Int) + ((I - ii : Nat) : Int) = (J : Int) by omega]
              exact h9
            · have := HBK.out
              simpa [World.setCell, Array.getElem?_modify, this] using HX2.out
          case measure => simp [intOf]; omega
        · obtain rfl : I = ca := by omega
          have z1 : wr.cell? ⟨bx, 1, none⟩ = some (.int .i64 cd) := by rw [Lib.cell_of_heap HX2.out]; rfl
          have hJ : J ≤ 2048 := by omega
          go_wp2_with fail
          obtain ⟨wo, hwo⟩ : ∃ wo : World, wo = wr := ⟨_, rfl⟩
          rw [← hwo] at HK2 HX2 ⊢
          clear z0 z1 hwo wr
          go_loopw [6, 40] (fun i p w2 => ∃ (P : Nat), i = .int .i64 ((I + P : Nat) : Int) ∧ p = .int .i64 P ∧ P ≤ cd ∧ KIn w w2 kb n (D ++ upL (I - ii) jj ++ List.replicate P (-1)) (.slice (some ⟨g, 0, none⟩) (M + 1) cap) (M + 1) (chgCells (chgE x y)) ∧ w2.heap[bx]? = some (.cells #[.int .i64 I, .int .i64 cd, .int .i64 cf, .int .i64 ci] 82 (0, 0))) (fun _ p _ => cd - (intOf p).toNat)
          case atStart => exact ⟨0, by simp, rfl, Nat.zero_le _, by simpa using HK2.out, HX2.out⟩
          case round =>
            obtain ⟨P, rfl, rfl, hP, hk3, hx3⟩ := hrel
            have HK3 := Lib.hid hk3
            have HX3 := Lib.hid hx3
            obtain ⟨I2, hI2⟩ : ∃ I2, I + P = I2 := ⟨_, rfl⟩
            have hDI2 : (D ++ upL (I - ii) jj ++ List.replicate P (-1)).length = I2 := by rw [List.length_append, HDI.out, List.length_replicate]; exact hI2
            have HDI2 := Lib.hid hDI2
            have HI2 := Lib.hid hI2
            rw [hI2]
            have z3 : wr.cell? ⟨bx, 3, none⟩ = some (.int .i64 ci) := by rw [Lib.cell_of_heap HX3.out]; rfl
            clear hk3 hx3 hDI2
            by_cases hPl : P < cd
            · obtain ⟨k1, k2⟩ := HK3.out.cell (by rw [HDI2.out]; omega)
              rw [HDI2.out] at k1 k2
              have hput := HK3.out.put (by rw [HDI2.out]; omega) (-1)
              rw [HDI2.out] at hput
              have HPUT := Lib.hid hput
              have hi2 : (I2 : Int) < n := by omega
              have hi3 : I2 < n := by omega
              clear hput hI2
              go_wp2_with fail
              go_roundw
              case rel =>
                refine ⟨P + 1, ?_, by go_num, by omega, ?_, ?_⟩
                · exact congrArg (Value.int .i64) (by have := HI2.out; omega)
                · have h9 := HPUT.out
                  rw [List.replicate_succ', ← List.append_assoc]
                  exact h9
                · have := HBK.out
                  simpa [World.setCell, Array.getElem?_modify, this] using HX3.out
              case measure => simp [intOf]; omega
            · obtain rfl : P = cd := by omega
              have hi3 : I2 ≤ n := by omega
              clear hI2
              go_wp2_with fail
              go_roundw
              case rel =>
                refine ⟨kk + 1, I2, J + ci, _, by go_num, rfl, by go_num, by omega, HDI2.out, hi3, by omega, ?_, HK3.out⟩
                have h9 := HS6.out
                rw [← t3, HI2.out] at h9
                exact h9
              case measure => simp [intOf]; omega
    · obtain rfl : kk = M + 1 := by omega
      go_wp2_with fail
      go_ret
      have hend : D = keptL x y := by
        rcases HFR.out with ⟨h1, _⟩ | ⟨_, h1⟩
        · have := HMM.out; omega
        · exact h1
      have hlen : (keptL x y).length = n := by have := (kept_ok x y).len; have := HNX.out; omega
      have hb := HK.out.box
      have hle := HK.out.lt
      rw [hend, hlen, Nat.sub_self, List.replicate_zero, List.append_nil] at hb
      refine ⟨_, rfl, ⟨by simp [i64s, hlen], .inr ⟨kb, n, _, rfl, by rw [HKB.out]; exact Nat.le_refl _, hb, Nat.le_refl _, by unfold maxLen; omega, by simp [kCells, i64s, hlen], ?_⟩⟩, by rw [HKB.out]; exact HK.out.below⟩
      simp only [kCells, i64s]
      rw [Nat.mul_one, List.take_of_length_le (by simp [hlen])]
end Go.Proofs.YtkidcleffllhbaaDoor.Dt
