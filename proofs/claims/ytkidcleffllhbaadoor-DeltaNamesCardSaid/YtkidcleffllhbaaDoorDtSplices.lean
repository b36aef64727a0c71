/- delta.Splices. -/
import Derived.Test.YtkidcleffllhbaaDoorDtChg
import Derived.Test.YtkidcleffllhbaaDoorDtRev
import Derived.Deep.RegionHeld3
namespace Go.Proofs.YtkidcleffllhbaaDoor.Dt
open Go.RowKit Go.Proofs Go.Proofs.YtkidcleffllhbaaDoor.U Go.Proofs.YtkidcleffllhbaaDoor.Txt
set_option linter.unusedVariables false
set_option linter.unusedSimpArgs false

/-- The splice of a change. -/
def chgSpl (y : List Int) (c : Chg) : Spl := ⟨c.at_, c.del, (y.take (c.from_ + c.ins)).drop c.from_⟩
/-- The splices that make y of x, the last one first. -/
def splL (x y : List Int) : List Spl := ((chL x y).map (chgSpl y)).reverse
theorem chgCells_get : ∀ (l : List Chg) (j : Nat) (h : j < l.length), (chgCells l)[j * 4]? = some (.int .i64 l[j].at_) ∧ (chgCells l)[j * 4 + 1]? = some (.int .i64 l[j].del) ∧ (chgCells l)[j * 4 + 2]? = some (.int .i64 l[j].from_) ∧ (chgCells l)[j * 4 + 3]? = some (.int .i64 l[j].ins)
  | s :: l, 0, h => ⟨rfl, rfl, rfl, rfl⟩
  | s :: l, j + 1, h => by
    have := chgCells_get l j (by simpa using h)
    have hl : (chgCell s).length = 4 := rfl
    rw [show chgCells (s :: l) = chgCell s ++ chgCells l from rfl]
    rw [List.getElem?_append_right (by omega), List.getElem?_append_right (by omega), List.getElem?_append_right (by omega), List.getElem?_append_right (by omega), hl, show (j + 1) * 4 - 4 = j * 4 by omega, show (j + 1) * 4 + 1 - 4 = j * 4 + 1 by omega, show (j + 1) * 4 + 2 - 4 = j * 4 + 2 by omega, show (j + 1) * 4 + 3 - 4 = j * 4 + 3 by omega]
    exact this
theorem cells_two (w : World) (s1 s2 : ByteArray) : CellsS (w.alloc (.cells #[.string s1, .string s2] 9)) (some ⟨w.heap.size, 0, none⟩) [s1, s2] := fun _ => by
  refine ⟨_, rfl, fun j hj => ?_⟩
  refine news_alloc w #[.string s1, .string s2] 9 j _ ?_
  have : j = 0 ∨ j = 1 := by simp at hj; omega
  rcases this with rfl | rfl <;> rfl
theorem three_one (a b : Int) (s : ByteArray) : ∀ u ∈ [Value.int .i64 a, Value.int .i64 b, Value.string s], u.oneCell' = true := by simp [Value.oneCell']
theorem box_grown {wa w9 : World} {bx : Nat} {o o' : Obj} {v : Value} (hx : wa.heap[bx]? = some o) (ho : ∀ k, v.ownBlock = some k → k < bx) (hg : (wa.alloc o').grownBy w9 v.ownBlock) : w9.heap[bx]? = some o := by
  have hlt := (Array.getElem?_eq_some_iff.1 hx).1
  rw [hg.block _ (by simp; omega) (fun e => by have := ho _ e.symm; omega), Lib.alloc_old _ _ _ hlt]
  exact hx
/-- What the region reads. -/
def SplS (bx : Nat) (ca cd cf ci : Int) (V : Value) (K : ByteArray) (w : World) : Prop :=
  (w.cell? ⟨bx, 0, none⟩ = some (.int .i64 ca) ∧ w.cell? ⟨bx, 1, none⟩ = some (.int .i64 cd) ∧ w.cell? ⟨bx, 2, none⟩ = some (.int .i64 cf) ∧ w.cell? ⟨bx, 3, none⟩ = some (.int .i64 ci)) ∧ (convert 22 9 V).run Tryd.prog w = .ok (.string K) w
theorem splS_of {w : World} {bx : Nat} {ca cd cf ci : Int} {V : Value} {K : ByteArray} {q : Addr} {b : List Int} (hx : w.heap[bx]? = some (.cells #[.int .i64 ca, .int .i64 cd, .int .i64 cf, .int .i64 ci] 82 (0, 0))) (hc : ∀ W : World, Cells32 W (some q) b → (convert 22 9 V).run Tryd.prog W = .ok (.string K) W) (hb : Cells32 w (some q) b) : SplS bx ca cd cf ci V K w := by
  refine ⟨⟨?_, ?_, ?_, ?_⟩, hc w hb⟩ <;> (rw [Lib.cell_of_heap hx]; rfl)
set_option maxRecDepth 100000 in
set_option maxHeartbeats 8000000 in
theorem Splices_any (S1 S2 : ByteArray) (a b : List Int) (w : World) (t1 : Text S1 a) (t2 : Text S2 b) (hl1 : a.length ≤ 2048) (hl2 : b.length ≤ 2048) (hg : Bars w) :
    Calls Tryd.prog 9 #[.string S1, .string S2] w fun e w' => ∃ v, e = .returned (.tuple #[v, .int .i64 0]) ∧ w'.ownsRow w.heap.size 37 3 v (splL a b).length (splCells (splL a b)) ∧ Below w.heap.size w w' := by
  have HT1 := Lib.hid t1
  have HT2 := Lib.hid t2
  have HG := Lib.hid hg
  obtain ⟨i0, hi, hz0, hz1, hz2⟩ := info_parts infoSpl
  have HI := Lib.hid (And.intro hi (And.intro hz0 (And.intro hz1 hz2)))
  clear t1 t2 hg hi hz0 hz1 hz2
  have CT := Lib.hid (fun (W : World) (A : Option Addr) (c : Nat) (hc : CellsS W A [S1, S2]) (hg : Bars W) => texts_ok A c [S1, S2] W hc (by simp) (fun s hs => by
    rcases List.mem_cons.1 hs with rfl | hs
    · exact ⟨_, HT1.out⟩
    · rw [List.mem_singleton.1 hs]; exact ⟨_, HT2.out⟩) hg)
  go_enter Tryd.func9, Tryd.ntmps9
  go_wp2_with fail
  refine (CT.out _ _ _ (cells_two w S1 S2) (HG.out.below ((Below.refl _ _).alloc (Nat.le_refl _) _))).mono ?_
  rintro e w1 ⟨rfl, hb1⟩
  have HB1 := Lib.hid (((Below.refl w.heap.size w).alloc (Nat.le_refl _) _).trans (hb1.mono (by simp)))
  clear hb1 CT
  obtain ⟨c1, w2, hcv1, hcap1, hb2, hcl1⟩ := conv_to_runes S1 a HT1.out (by omega) w1
  have HB2 := Lib.hid (HB1.out.trans (hb2.mono HB1.out.size))
  obtain ⟨c2, w3, hcv2, hcap2, hb3, hcl2⟩ := conv_to_runes S2 b HT2.out (by omega) w2
  have HB3 := Lib.hid (HB2.out.trans (hb3.mono HB2.out.size))
  have HC1 := Lib.hid (hcl1.below hb3)
  have HC2 := Lib.hid hcl2
  clear hb2 hb3 hcl1 hcl2
  generalize (⟨w1.heap.size, 0, none⟩ : Addr) = q1 at hcv1 HC1
  generalize (⟨w2.heap.size, 0, none⟩ : Addr) = q2 at hcv2 HC2
  have l1 : (a.length : Int) ≤ 2048 := by omega
  have l2 : (b.length : Int) ≤ 2048 := by omega
  go_wp2_with fail
  refine (changes_any (some q1) (some q2) c1 c2 a b _ HC1.out HC2.out hl1 hl2).mono ?_
  rintro e w4 ⟨u, rfl, hown, hb4⟩
  have HL := Lib.hid (show (chL a b).length ≤ 4096 by obtain ⟨⟨o', h⟩, _⟩ := chL_cut a b; have := h.length_le; omega)
  have HO := Lib.hid (own_weak hown HB3.out.size)
  have HB4 := Lib.hid (HB3.out.trans (hb4.mono HB3.out.size))
  have HC4 := Lib.hid (HC2.out.below hb4)
  obtain ⟨n, hn⟩ : ∃ n, (chL a b).length = n := ⟨_, rfl⟩
  have HN := Lib.hid hn
  rw [hn] at HO HL
  obtain ⟨A', cap', rfl⟩ := own_shape HO.out
  clear hown hb4 hn HC1 HC2 hcv1 hcv2 HB1 HB2 HB3
  go_wp2_with fail
  go_loopw [9, 35] (fun v i wr => ∃ k : Nat, i = .int .i64 k ∧ k ≤ n ∧ wr.ownsRow w4.heap.size 37 3 v k (splCells ((chL a b).take k |>.map (chgSpl b))) ∧ Below w4.heap.size w4 wr) (fun _ i _ => n - (intOf i).toNat)
  case atStart => exact ⟨0, rfl, Nat.zero_le _, ⟨rfl, .inl ⟨rfl, rfl⟩⟩, Below.refl _ _⟩
  case round =>
    obtain ⟨k, rfl, hk, hown, hb⟩ := hrel
    have HOS := Lib.hid hown
    have HB := Lib.hid hb
    clear hown hb
    by_cases hlt : k < n
    · have hkl : k < (chL a b).length := by rw [HN.out]; exact hlt
      obtain ⟨g, cap, hv⟩ := own_some HO.out (by omega)
      cases hv
      have hg4 := chgCells_get (chL a b) k hkl
      have hO2 := own_below HO.out HB.out
      have y0 := hO2.cellAt (k * 4) (by omega)
      have y1 := hO2.cellAt (k * 4 + 1) (by omega)
      have y2 := hO2.cellAt (k * 4 + 2) (by omega)
      have y3 := hO2.cellAt (k * 4 + 3) (by omega)
      rw [hg4.1] at y0
      rw [hg4.2.1] at y1
      rw [hg4.2.2.1] at y2
      rw [hg4.2.2.2] at y3
      have HTK := Lib.hid (show ((chL a b).take (k + 1)).map (chgSpl b) = ((chL a b).take k).map (chgSpl b) ++ [chgSpl b (chL a b)[k]] by rw [List.take_succ_eq_append_getElem hkl, List.map_append]; rfl)
      obtain ⟨p1, p2, p3⟩ : 0 < (chL a b)[k].del + (chL a b)[k].ins ∧ (chL a b)[k].at_ + (chL a b)[k].del ≤ a.length ∧ (chL a b)[k].from_ + (chL a b)[k].ins ≤ b.length := by
        obtain ⟨⟨o', h⟩, _⟩ := chL_cut a b
        exact h.apart.pos _ (List.getElem_mem _)
      generalize (chL a b)[k] = ch at y0 y1 y2 y3 HTK p1 p2 p3
      obtain ⟨ca, cd, cf, ci⟩ := ch
      simp only at y0 y1 y2 y3 p1 p2 p3
      clear hg4 hO2 hkl p1
      go_upto_region 11 with fail
      have HB1 := Lib.hid (HB.out.alloc HB.out.size (.cells #[.int .i64 ca, .int .i64 cd, .int .i64 cf, .int .i64 ci] 82))
      have HOK := Lib.hid (fun k hk => (own_lt HOS.out k hk).2)
      have HOA := Lib.hid (own_below HOS.out ((Below.refl wr.heap.size wr).alloc (Nat.le_refl _) (.cells #[.int .i64 ca, .int .i64 cd, .int .i64 cf, .int .i64 ci] 82)))
      have HCA := Lib.hid ((HC4.out.below HB.out).below ((Below.refl wr.heap.size wr).alloc (Nat.le_refl _) (.cells #[.int .i64 ca, .int .i64 cd, .int .i64 cf, .int .i64 ci] 82)))
      have hx := heap_alloc_new wr (.cells #[.int .i64 ca, .int .i64 cd, .int .i64 cf, .int .i64 ci] 82)
      generalize wr.alloc (.cells #[.int .i64 ca, .int .i64 cd, .int .i64 cf, .int .i64 ci] 82) = wa at HB1 HOA HCA hx ⊢
      generalize wr.heap.size = bx at hx HOK ⊢
      have HXA := Lib.hid hx
      obtain ⟨m, hm⟩ : ∃ m, cf + ci = m := ⟨_, rfl⟩
      have HM := Lib.hid hm
      have hw : IntKind.i64.wrap ((cf : Int) + (ci : Int)) = (m : Int) := by rw [IntWalk.i64_in _ (by omega)]; omega
      obtain ⟨V, hsl, hcv⟩ := slice_mid q2 b c2 cf m (by omega) (by omega) (by omega)
      obtain ⟨K, hK⟩ : ∃ K, Str ((b.take m).drop cf) = K := ⟨_, rfl⟩
      rw [hK] at hcv
      have HK := Lib.hid hK
      have HS0 := Lib.hid (splS_of (w := wa.drew) hx hcv HCA.out)
      have HS1 := Lib.hid (fun (o : Obj) => splS_of (w := wa.drew.alloc o) ((Lib.alloc_old wa.drew o _ (Array.getElem?_eq_some_iff.1 hx).1).trans hx) hcv (HCA.out.below ((Below.refl _ _).drew.alloc (Nat.le_refl _) _)))
      have HS9 := Lib.hid (fun (o : Obj) (w9 : World) (hg : (wa.drew.alloc o).grownBy w9 u9.ownBlock) (hb : Below w4.heap.size w4 w9) => splS_of (w := w9) (box_grown (wa := wa.drew) hx HOK.out hg) hcv (HC4.out.below hb))
      obtain ⟨⟨z0, z1, z2, z3⟩, z4⟩ := HS0.out
      clear hx hcv hK hm y0 y1 y2 y3
      go_region_held3 (fun w' => (w'.cell? ⟨bx, 0, none⟩ = some (.int .i64 ca) ∧ w'.cell? ⟨bx, 1, none⟩ = some (.int .i64 cd) ∧ w'.cell? ⟨bx, 2, none⟩ = some (.int .i64 cf) ∧ w'.cell? ⟨bx, 3, none⟩ = some (.int .i64 ci)) ∧ (convert 22 9 V).run Tryd.prog w' = .ok (.string K) w')
        (first | exact HS0.out | exact HS1.out _ | exact HS9.out _ _ hgrow HB9.out)
        (first
        | (refine step_append_lies _ rfl (.tmp 39) (.tmp 55) 28 rfl w4.heap.size 37 i0 (.agg #[.int .i64 0, .int .i64 0, .string ⟨#[]⟩]) 3 32 Tryd.underlying28 HI.out.1 HI.out.2.1 HI.out.2.2.1 HI.out.2.2.2 rfl (by decide) u9 k (splCells (((chL a b).take k).map (chgSpl b))) (by simp [Act.eval, Act.put]) (by exact own_below HOA.out (by first | exact (Below.refl _ _).alloc (Nat.le_refl _) _ | exact (Below.refl _ _).drew.alloc (Nat.le_refl _) _)) _ 1 1 [.int .i64 ca, .int .i64 cd, .string K] (by simp [Act.eval, Act.put]) rfl (fun j u hj => news_alloc _ _ _ j u hj) (three_one _ _ _) (by decide) (by have := HL.out; unfold maxLen; omega) (by have := HL.out; omega) (by have h3 := HB1.out.size; simp; omega) _ rfl ?_; intro g cap w9 hown hgrow hat hgl; have HO9 := Lib.hid hown; have HB9 := Lib.hid (show Below w4.heap.size w4 w9 by first | exact grown_own HB1.out HOA.out hgrow | exact grown_own HB1.out.drew (own_drew1 HOA.out) hgrow); clear hown hat hgl))
      all_goals have hnk : (k : Int) ≤ 4096 := by have := HL.out; omega
      all_goals go_wp2_with fail
      all_goals
        go_roundw
        case rel =>
          refine ⟨k + 1, by go_num, by omega, ?_, HB9.out⟩
          rw [HTK.out, splCells_snoc]
          have h9 := HO9.out
          rw [← HK.out, ← HM.out] at h9
          exact h9
        case measure => simp [intOf]; omega
    · obtain rfl : k = n := by omega
      have he : ((chL a b).take k).map (chgSpl b) = (chL a b).map (chgSpl b) := by rw [← HN.out, List.take_length]
      have HRV := Lib.hid (fun (v : Value) (h : wr.ownsRow w4.heap.size 37 3 v k (splCells ((chL a b).map (chgSpl b)))) => Reverse_any v ((chL a b).map (chgSpl b)) w4.heap.size wr (by rw [List.length_map, HN.out]; exact h) (by rw [List.length_map, HN.out]; have := HL.out; omega))
      rw [he] at HOS
      go_wp2_with fail
      refine (HRV.out _ HOS.out).mono ?_
      rintro e w5 ⟨⟨r, rfl⟩, ho5, hb5⟩
      have HO5 := Lib.hid ho5
      have HB5 := Lib.hid (HB4.out.trans ((HB.out.trans hb5).mono HB4.out.size))
      clear ho5 hb5
      go_wp2_with fail
      refine bodyPost_ret (results_tmp2 rfl _ _ _) rfl ?_
      refine ⟨_, rfl, ?_, HB5.out⟩
      have h9 := own_weak HO5.out HB4.out.size
      rw [List.length_map] at h9
      unfold splL
      rw [List.length_reverse, List.length_map]
      exact h9
end Go.Proofs.YtkidcleffllhbaaDoor.Dt
