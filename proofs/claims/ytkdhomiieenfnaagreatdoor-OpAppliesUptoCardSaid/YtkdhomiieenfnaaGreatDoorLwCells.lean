/- redraftlaw04.cells: the cells of runs. -/
import Derived.Test.YtkdhomiieenfnaaGreatDoorLs36
import Derived.Test.YtkdhomiieenfnaaGreatDoorLs37
namespace Go.Proofs.YtkdhomiieenfnaaGreatDoor.Lw
open Go.RowKit Go.Proofs Go.Proofs.YtkdhomiieenfnaaGreatDoor.U Go.Proofs.YtkdhomiieenfnaaGreatDoor.Txt Go.Proofs.YtkdhomiieenfnaaGreatDoor.Rp Go.Proofs.YtkdhomiieenfnaaGreatDoor.O
set_option linter.unusedVariables false
set_option linter.unusedSimpArgs false

theorem runCells_get : ∀ (l : List Pce) (j : Nat) (h : j < l.length), (runCells l)[j * 2]? = some (.string (Str l[j].1)) ∧ (runCells l)[j * 2 + 1]? = some (.int .i64 l[j].2)
  | c :: cs, 0, _ => ⟨rfl, rfl⟩
  | c :: cs, j + 1, h => by
    have := runCells_get cs j (by simpa using h)
    simp only [runCells, List.flatMap_cons] at this ⊢
    refine ⟨?_, ?_⟩
    · rw [List.getElem?_append_right (by simp; omega)]
      simpa [show (j + 1) * 2 - 2 = j * 2 by omega] using this.1
    · rw [List.getElem?_append_right (by simp; omega)]
      simpa [show (j + 1) * 2 + 1 - 2 = j * 2 + 1 by omega] using this.2
/-- Runs behind a slice. -/
def PcesIn (w : World) (A : Option Addr) (l : List Pce) : Prop := 0 < l.length → ∃ g off, A = some ⟨g, off, none⟩ ∧ ∀ j (h : j < l.length), w.cell? ⟨g, off + j * 2, none⟩ = some (.string (Str l[j].1)) ∧ w.cell? ⟨g, off + j * 2 + 1, none⟩ = some (.int .i64 l[j].2)
theorem PcesIn.of_own {w : World} {B : Nat} {v : Value} {l : List Pce} (h : w.ownsRow B 68 2 v l.length (runCells l)) : ∃ A c, v = .slice A l.length c ∧ l.length ≤ c ∧ PcesIn w A l := by
  rcases h.2 with ⟨hv, h0⟩ | ⟨g, cap, cur, hv, hbg, hg, hcap, hrest⟩
  · exact ⟨none, 0, by rw [hv, h0], by omega, fun hp => by omega⟩
  · refine ⟨_, cap, hv, hcap, fun hp => ⟨g, 0, rfl, fun j hj => ?_⟩⟩
    obtain ⟨a1, a2⟩ := runCells_get l j hj
    have e : ∀ k, (⟨g, 0 + k, none⟩ : Addr) = (⟨g, 0, none⟩ : Addr).add k := fun k => by simp [Addr.add]
    exact ⟨by rw [e, h.cells (g := g) (by rw [hv]; rfl) _ _ a1], by rw [show 0 + j * 2 + 1 = 0 + (j * 2 + 1) by omega, e, h.cells (g := g) (by rw [hv]; rfl) _ _ a2]⟩
theorem PcesIn.below {w w1 : World} {A : Option Addr} {l : List Pce} (h : PcesIn w A l) (hb : Below w.heap.size w w1) : PcesIn w1 A l :=
  fun h0 => by obtain ⟨b, off, e, hc⟩ := h h0; exact ⟨b, off, e, fun j hj => ⟨U.cell_below hb (hc j hj).1, U.cell_below hb (hc j hj).2⟩⟩
/-- Runs as From takes them. -/
theorem PcesIn.runs {w : World} {A : Option Addr} {l : List Pce} (h : PcesIn w A l) : RunsIn w A (l.map fun q => ⟨Str q.1, q.1, q.2⟩) := ⟨fun h0 => by
  rw [List.length_map] at h0
  obtain ⟨g, off, e, hc⟩ := h h0
  exact ⟨g, off, e, fun j hj => by
    rw [List.length_map] at hj
    simpa using hc j hj⟩⟩
theorem flat_take_snoc (l : List Pce) (k : Nat) (hk : k < l.length) : flat (l.take (k + 1)) = flat (l.take k) ++ run l[k].1 l[k].2 := by
  rw [List.take_succ_eq_append_getElem hk, flat_app]; simp [flat]
theorem flat_take_le (l : List Pce) (k : Nat) : (flat (l.take k)).length ≤ (flat l).length := by
  conv => rhs; rw [← List.take_append_drop k l]
  rw [flat_app, List.length_append]; omega
theorem text_str' {xs : List Int} (h : ∀ r ∈ xs, TxtRune r) (hl : xs.length ≤ 35184372087808) : Text (Str xs) xs := ⟨str_list xs, h, by rw [str_size]; have := enc_len_le xs; omega⟩
theorem cells_grown {w w3 w9 : World} {n : Nat} {v : Value} {xs : List Value} {o : Obj} (hb : Below w.heap.size w w3) (ho : w3.ownsRow w.heap.size 80 2 v n xs) (hg : (w3.drew.alloc o).grownBy w9 v.ownBlock) : Below w.heap.size w w9 :=
  (hb.drew.alloc hb.size o).grown hg (by have := hb.size; simp; omega) (fun k hk => (ho.lt k hk).1)
theorem cell_far {w3 w9 : World} {v x : Value} {o : Obj} {ga t : Nat} (hne : v.ownBlock ≠ some ga) (hc : w3.cell? ⟨ga, t, none⟩ = some x) (hg : (w3.drew.alloc o).grownBy w9 v.ownBlock) : w9.cell? ⟨ga, t, none⟩ = some x := by
  have hlt := World.block_lt_of_cell? w3 _ hc
  have e : w9.heap[ga]? = w3.heap[ga]? := by
    rw [hg.block ga (by simp at hlt ⊢; omega) (fun e => hne e.symm)]
    exact Lib.alloc_old w3.drew o ga hlt
  rw [← hc]
  unfold World.cell?
  rw [e]
theorem cells_far {w w3 w9 : World} {v : Value} {o : Obj} {ga g9 : Nat} {xs : List Int} (hga : w.heap.size ≤ ga) (hne : v.ownBlock ≠ some ga) (hc : ∀ jj, jj < xs.length → w3.cell? ⟨ga, jj, none⟩ = some (.int .i32 (xs.getD jj 0))) (hg : (w3.drew.alloc o).grownBy w9 v.ownBlock) (hat : v.ownBlock = some g9 ∨ g9 = (w3.drew.alloc o).heap.size) :
    (∀ jj, jj < xs.length → w9.cell? ⟨ga, jj, none⟩ = some (.int .i32 (xs.getD jj 0))) ∧ (∀ n cap, 0 < xs.length → (Value.slice (some ⟨g9, 0, none⟩) n cap).ownBlock ≠ some ga) := by
  refine ⟨fun jj hj => cell_far hne (hc jj hj) hg, fun n cap hp e => ?_⟩
  simp only [Value.ownBlock, Option.some.injEq] at e
  subst e
  rcases hat with h | h
  · exact hne h
  · have := World.block_lt_of_cell? w3 _ (hc 0 hp)
    rw [h] at this
    simp at this
    omega
set_option maxRecDepth 100000 in
set_option maxHeartbeats 8000000 in
theorem cells_any (A : Option Addr) (c : Nat) (l : List Pce) (w : World) (hr : PcesIn w A l) (htx : ∀ q ∈ l, ∀ r ∈ q.1, TxtRune r) (hl : (flat l).length ≤ 65536) (hl2 : l.length ≤ 65536) : Calls Tryz.prog 30 #[.slice A l.length c] w fun e w' => (∃ v, e = .returned v ∧ w'.ownsRow w.heap.size 80 2 v (flat l).length (clCells (flat l))) ∧ Below w.heap.size w w' := by
  have HR := Lib.hid hr
  have HTX := Lib.hid htx
  have HFL := Lib.hid hl
  obtain ⟨i0, hi0, hz0, hz1, hz2⟩ := info_parts infoCell
  have HI := Lib.hid (And.intro hi0 (And.intro hz0 (And.intro hz1 hz2)))
  obtain ⟨n, hn⟩ : ∃ n, l.length = n := ⟨_, rfl⟩
  rw [hn] at hl2 ⊢
  have HN := Lib.hid hn
  clear hr htx hl hi0 hz0 hz1 hz2 hn
  go_enter Tryz.func30, Tryz.ntmps30
  go_wp2_with fail
  go_loopw [3, 4] (fun v i wr => ∃ k : Nat, k ≤ n ∧ i = .int .i64 k ∧ wr.ownsRow w.heap.size 80 2 v (flat (l.take k)).length (clCells (flat (l.take k))) ∧ Below w.heap.size w wr) (fun _ i _ => n - (intOf i).toNat)
  case atStart => exact ⟨0, Nat.zero_le _, rfl, ⟨rfl, .inl ⟨rfl, rfl⟩⟩, Below.refl _ _⟩
  case round =>
    obtain ⟨k, hk, rfl, hown, hb⟩ := hrel
    have HO := Lib.hid hown
    have HB := Lib.hid hb
    clear hown hb
    by_cases hlt : k < n
    · have hkl : k < l.length := by have := HN.out; omega
      obtain ⟨g, off, rfl, hce⟩ := HR.out (by omega)
      have hc := hce k hkl
      have hsn := flat_take_snoc l k hkl
      have hfl := flat_take_le l (k + 1)
      have htx := HTX.out _ (List.getElem_mem hkl)
      obtain ⟨⟨xs, h⟩, hq⟩ : ∃ q, l[k] = q := ⟨_, rfl⟩
      rw [hq] at hc hsn htx
      simp only at hc hsn htx
      rw [hsn, List.length_append, run_len] at hfl
      have HSN := Lib.hid hsn
      have HC2 := Lib.hid hc.2
      have e1 := U.cell_below HB.out hc.1
      have hfl2 := HFL.out
      obtain ⟨m, hm⟩ : ∃ m, xs.length = m := ⟨_, rfl⟩
      rw [hm] at hfl
      have HM := Lib.hid hm
      obtain ⟨F, hF⟩ : ∃ F, flat (l.take k) = F := ⟨_, rfl⟩
      rw [hF] at HO HSN hfl
      have HFF := Lib.hid hF
      obtain ⟨f, hf⟩ : ∃ f, F.length = f := ⟨_, rfl⟩
      rw [hf] at HO hfl
      have HF := Lib.hid hf
      have hfm : f + m ≤ 65536 := by omega
      obtain ⟨ccap, w2, hcv, hcap, hb2, hcl⟩ := conv_to_runes (Str xs) xs (text_str' htx (by omega)) (by omega) wr
      rw [hm] at hcv hcap
      have HB2 := Lib.hid (HB.out.trans (hb2.mono HB.out.size))
      have HO2 := Lib.hid (own_below HO.out hb2)
      have HCL := Lib.hid hcl
      have z1 : (k : Int) < (n : Int) := by omega
      have z2 : (0 : Int) ≤ (k : Int) := by omega
      obtain ⟨ga, hga⟩ : ∃ ga, wr.heap.size = ga := ⟨_, rfl⟩
      have HNE := Lib.hid (show u3.ownBlock ≠ some ga from fun e => by have := (HO.out.lt _ e).2; omega)
      have HGA := Lib.hid (show w.heap.size ≤ ga by rw [← hga]; exact HB.out.size)
      rw [hga] at hcv HCL
      clear hce hc hq hsn hfl hfl2 htx hm hF hf hb2 hcl hga
      obtain ⟨wo, rfl⟩ : ∃ wo : World, wo = wr := ⟨_, rfl⟩
      go_wp2_with fail
      clear hcv e1
      go_loopw [3, 6] (fun v j wr2 => ∃ t : Nat, t ≤ m ∧ j = .int .i64 t ∧ wr2.ownsRow w.heap.size 80 2 v (f + t) (clCells (F ++ run (xs.take t) h)) ∧ Below w.heap.size w wr2 ∧ (∀ jj, jj < xs.length → wr2.cell? ⟨ga, jj, none⟩ = some (.int .i32 (xs.getD jj 0))) ∧ v.ownBlock ≠ some ga) (fun _ j _ => m - (intOf j).toNat)
      case atStart =>
        refine ⟨0, Nat.zero_le _, rfl, by rw [List.take_zero, show run [] h = [] from rfl, List.append_nil]; exact HO2.out, HB2.out, fun jj hj => ?_, HNE.out⟩
        obtain ⟨ad, e, hcs⟩ := HCL.out (by omega)
        obtain rfl := Option.some.inj e
        have h8 := hcs jj hj
        rw [show (⟨ga, 0, none⟩ : Addr).add jj = ⟨ga, jj, none⟩ by unfold Addr.add; split <;> simp_all] at h8
        exact h8
      case round =>
        obtain ⟨t, ht, rfl, hown3, hb3, hrn, hne⟩ := hrel
        have HO3 := Lib.hid hown3
        have HB3 := Lib.hid hb3
        have HRN := Lib.hid hrn
        have HNE3 := Lib.hid hne
        clear hown3 hb3 hrn hne
        by_cases htm : t < m
        · have htl : t < xs.length := by have := HM.out; omega
          have hc0 := HRN.out t htl
          have hgd : xs.getD t 0 = xs[t] := by simp [List.getD, List.getElem?_eq_getElem htl]
          have hts : xs.take (t + 1) = xs.take t ++ [xs[t]] := List.take_succ_eq_append_getElem htl
          rw [hgd] at hc0
          obtain ⟨r, hr⟩ : ∃ r, xs[t] = r := ⟨_, rfl⟩
          rw [hr] at hc0 hts
          have HTS := Lib.hid (show clCells (F ++ run (xs.take (t + 1)) h) = clCells (F ++ run (xs.take t) h) ++ [.int .i32 r, .int .i64 h] by
            rw [hts, show run (xs.take t ++ [r]) h = run (xs.take t) h ++ [(r, h)] by simp [run], ← List.append_assoc, clCells_snoc])
          have hc1 := U.cell_below HB3.out HC2.out
          have HS := Lib.hid (fun (W : World) (hW : Below wr.heap.size wr W) => And.intro (U.cell_below hW hc0) (U.cell_below hW hc1))
          have HC0 := Lib.hid hc0
          have z3 : (t : Int) < (m : Int) := by omega
          have z4 : (0 : Int) ≤ (t : Int) := by omega
          clear hgd hts hr htl
          obtain ⟨u, hu⟩ : ∃ u, clCells (F ++ run (xs.take t) h) = u := ⟨_, rfl⟩
          rw [hu] at HO3 HTS
          clear hu
          go_upto_region 9 with fail
          go_region_held3 (fun w' => w'.cell? ⟨ga, t, none⟩ = some (.int .i32 r) ∧ w'.cell? ⟨g, off + k * 2 + 1, none⟩ = some (.int .i64 h))
            (first | (with_reducible exact HS9.out) | (with_reducible exact HS.out _ (Below.refl _ _).drew) | exact HS.out _ ((Below.refl _ _).drew.alloc (Nat.le_refl _) _))
            (first
            | (refine step_append_lies _ rfl (.tmp 25) (.tmp 36) 37 rfl w.heap.size 80 i0 (.agg #[.int .i32 0, .int .i64 0]) 2 16 Tryz.underlying37 HI.out.1 HI.out.2.1 HI.out.2.2.1 HI.out.2.2.2 rfl (by decide) u3 (f + t) u (by simp [Act.eval, Act.put]) (own_below HO3.out ((Below.refl _ _).drew.alloc (Nat.le_refl _) _)) _ 1 1 [.int .i32 r, .int .i64 h] (by simp [Act.eval, Act.put]) rfl (fun j u hj => news_alloc _ _ _ j u hj) (by simp [Value.oneCell']) (by decide) (by unfold maxLen; omega) (by omega) (by have := HB3.out.size; simp; omega) _ rfl ?_; intro g9 cap9 w9 hown hgrow hat hgl; have HO9 := Lib.hid hown; have HB9 := Lib.hid (cells_grown HB3.out HO3.out hgrow); have HA9 := Lib.hid (cells_far HGA.out HNE3.out HRN.out hgrow hat); have HS9 := Lib.hid (And.intro (cell_far HNE3.out HC0.out hgrow) (U.cell_below HB9.out HC2.out)); clear hown hgrow hat hgl))
          all_goals
            go_wp2_with fail
            go_roundw
            case rel => exact ⟨t + 1, by omega, by go_num, by rw [HTS.out]; exact HO9.out, HB9.out, HA9.out.1, HA9.out.2 _ _ (by have := HM.out; omega)⟩
            case measure => simp [intOf]; omega
        · obtain rfl : t = m := by omega
          go_wp2_with fail
          go_roundw
          case rel =>
            refine ⟨k + 1, hlt, by go_num, ?_, HB3.out⟩
            have h9 := HO3.out
            rw [List.take_of_length_le (by have := HM.out; omega)] at h9
            rw [HSN.out, List.length_append, run_len, HF.out, HM.out]
            exact h9
          case measure => simp [intOf]; omega
    · obtain rfl : k = n := by omega
      go_wp2_with fail
      go_ret
      have h9 := HO.out
      rw [List.take_of_length_le (by have := HN.out; omega)] at h9
      exact ⟨⟨_, rfl, h9⟩, HB.out⟩
end Go.Proofs.YtkdhomiieenfnaaGreatDoor.Lw
