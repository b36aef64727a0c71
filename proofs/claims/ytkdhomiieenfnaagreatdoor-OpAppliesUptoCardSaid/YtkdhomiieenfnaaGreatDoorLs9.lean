/- Neighbours of one counter laid together and cut up anew: evened. Two trees with neighbours laid together anew: mend. The ranges of visible cells, and what hiding them leaves; the fewest runs; plain Lean. -/
import Derived.Test.YtkdhomiieenfnaaGreatDoorLs8
import Derived.Laws.AppendOwnNone
import Derived.Test.YtkdhomiieenfnaaGreatDoorLs4
namespace Go.Proofs.YtkdhomiieenfnaaGreatDoor.Rp
open Go.RowKit Go.Proofs Go.Proofs.YtkdhomiieenfnaaGreatDoor.U Go.Proofs.YtkdhomiieenfnaaGreatDoor.Txt
set_option linter.unusedVariables false
set_option linter.unusedSimpArgs false

theorem infoRn : (Tryz.prog.info? 21).map (fun i => (i.zero, i.size, i.bytes)) = some (some (.int .i32 0), 1, 4) := by kernel_rfl
/-- An append of one list of runes to another in own memory. -/
theorem wpList_appR {w : World} {ops : Array Oper} {rest : List Oper} {o : Oper} {a : Act} {Q : Exit → Act → World → Prop} (hgd : o.guard = none) (s x : Operand)
    (ho : o.op = .call { callee := .builtin .append, args := #[s, x], argTypes := #[49, 49] }) (base : Nat) (v : Value) (xs ys : List Int) (hs : a.eval s = v) (hown : w.ownsRow base 21 1 v xs.length (i32s xs))
    (A : Option Addr) (m c : Nat) (hx : a.eval x = .slice A m c) (hm : ys.length = m) (hne : 0 < m) (hc : Cells32 w A ys) (hl : xs.length + m ≤ 16777216) (hbase : base ≤ w.heap.size)
    (h : ∀ v' w', w'.ownsRow base 21 1 v' (xs ++ ys).length (i32s (xs ++ ys)) → w.grownBy w' v.ownBlock → wpList Tryz.prog ops Q rest (a.put o.dst v') w') : wpList Tryz.prog ops Q (o :: rest) a w := by
  obtain ⟨i0, hi, hz0, hz1, hz2⟩ := info_parts infoRn
  obtain ⟨ad, rfl, hcs⟩ := hc (by omega)
  have hlen : (i32s ys).length = ys.length := by simp [i32s]
  refine wpList_append_own _ hgd s x 49 ho base 21 i0 (.int .i32 0) 1 4 Tryz.underlying49 hi hz0 hz1 hz2 rfl (by decide) v xs.length (i32s xs) hs hown ad m c (i32s ys) hx (by rw [hlen, hm, Nat.mul_one]) ?_ ?_ (by unfold maxLen; omega) (by omega) hbase (fun v' w' h1 h2 _ => h v' w' (by rw [List.length_append, hm]; simpa [i32s] using h1) h2)
  · intro j u hu
    have hj := (List.getElem?_eq_some_iff.1 hu).1
    rw [hlen] at hj
    rw [hcs j hj, ← hu]
    simp [i32s, List.getD, List.getElem?_eq_getElem hj]
  · intro u hu
    simp only [i32s, List.mem_map] at hu
    obtain ⟨y, _, rfl⟩ := hu
    rfl
/-- An append of one own list of pieces to another. -/
theorem wpList_appP {w : World} {ops : Array Oper} {rest : List Oper} {o : Oper} {a : Act} {Q : Exit → Act → World → Prop} (hgd : o.guard = none) (s x : Operand)
    (ho : o.op = .call { callee := .builtin .append, args := #[s, x], argTypes := #[72, 72] }) (base base2 : Nat) (v u : Value) (xs ys : List PcV) (hs : a.eval s = v) (hown : w.ownsRow base 114 2 v xs.length (pcCells xs))
    (hx : a.eval x = u) (hown2 : w.ownsRow base2 114 2 u ys.length (pcCells ys)) (hl : xs.length + ys.length ≤ 16777216) (hbase : base ≤ w.heap.size)
    (h : ∀ v' w', w'.ownsRow base 114 2 v' (xs ++ ys).length (pcCells (xs ++ ys)) → w.grownBy w' v.ownBlock → wpList Tryz.prog ops Q rest (a.put o.dst v') w') : wpList Tryz.prog ops Q (o :: rest) a w := by
  obtain ⟨i0, hi, hz0, hz1, hz2⟩ := info_parts infoPc
  rcases hown2.2 with ⟨hv, h0⟩ | ⟨g, cap, cur, hv, hbg, hg, hcap, hrest⟩
  · subst hv
    obtain rfl : ys = [] := List.length_eq_zero_iff.1 h0
    refine wpList_append_own_none hgd s x 72 ho base 114 i0 2 Tryz.underlying72 hi v xs.length (pcCells xs) hs hown hx (h v w (by rw [List.append_nil]; exact hown) ⟨rfl, rfl, rfl, Nat.le_refl _, fun k hk _ => rfl⟩)
  · have hlen : (pcCells ys).length = ys.length * 2 := by rw [pcCells_len]; omega
    subst hv
    refine wpList_append_own _ hgd s x 72 ho base 114 i0 (.agg #[.slice none 0 0, .int .i64 0]) 2 32 Tryz.underlying72 hi hz0 hz1 hz2 rfl (by decide) v xs.length (pcCells xs) hs hown ⟨g, 0, none⟩ ys.length cap (pcCells ys) hx hlen ?_ ?_ (by unfold maxLen; omega) (by omega) hbase (fun v' w' h1 h2 _ => h v' w' (by rw [List.length_append, pcCells_app]; exact h1) h2)
    · intro j y hy
      exact hown2.cells (g := g) rfl j y hy
    · intro y hy
      simp only [pcCells, List.mem_flatMap] at hy
      obtain ⟨p, _, hp⟩ := hy
      simp at hp
      rcases hp with rfl | rfl <;> rfl
theorem Rn.kept {w w' : World} {A : Option Addr} {rs : List Int} (h : Rn w A rs) (hk : ∀ ad, A = some ad → w'.heap[ad.block]? = w.heap[ad.block]?) : Rn w' A rs := ⟨fun h0 => by
  obtain ⟨ad, e, hc⟩ := h.cells h0
  refine ⟨ad, e, fun j hj => ?_⟩
  have h1 := hc j hj
  unfold World.cell? at h1 ⊢
  rw [addr_block] at h1 ⊢
  rw [hk ad e]
  exact h1, fun ad e => by rw [hk ad e]; exact h.blk ad e⟩
theorem PcV.Ok.kept {w w' : World} {p : PcV} (h : p.Ok w) (hk : ∀ ad, p.A = some ad → w'.heap[ad.block]? = w.heap[ad.block]?) : p.Ok w' := ⟨h.room, h.runes.kept hk, h.ne, h.h0⟩
/-- A list of pieces that grows keeps the pieces' runes. -/
theorem grown_keeps {w w' : World} {B : Nat} {v : Value} {n : Nat} {xs : List Value} {p : PcV} (hb : p.Ok w) (hown : w.ownsRow B 114 2 v n xs) (hg : w.grownBy w' v.ownBlock) : ∀ ad, p.A = some ad → w'.heap[ad.block]? = w.heap[ad.block]? := fun ad e => by
  obtain ⟨cs, fz, h1⟩ := hb.runes.blk ad e
  refine hg.block _ (Array.getElem?_eq_some_iff.1 h1).1 (fun e2 => ?_)
  rcases hown.2 with ⟨rfl, _⟩ | ⟨g, cap, cur, rfl, _, hgg, _⟩
  · simp [Value.ownBlock] at e2
  · simp only [Value.ownBlock, Option.some.injEq] at e2
    rw [← e2, h1] at hgg
    have := (Obj.cells.inj (Option.some.inj hgg)).2.1
    exact absurd this (by decide)
/-- A tree stays where no block of nodes or runes turns. -/
theorem Tr.kept {w w' : World} (hk : ∀ (k : Nat) (cs : Array Value) (T : TypeId) (fz : Nat × Nat), w.heap[k]? = some (Obj.cells cs T fz) → T ≠ 114 → w'.heap[k]? = w.heap[k]?) : ∀ {t : T} {v : Value}, Tr w v t → Tr w' v t
  | .nil, v, h => h
  | .node l rs k r p, v, ⟨b, A, c, vl, vr, h, c0, c1, c2, c3, c4, c5, c6, c7, c8, c9, c10, hc, hr, hl, hrr, cs, fz, hnd⟩ => by
    have hb := hk b cs _ fz hnd (by decide)
    have f : ∀ j, w'.cell? ⟨b, j, none⟩ = w.cell? ⟨b, j, none⟩ := fun j => by unfold World.cell?; rw [hb]
    exact ⟨b, A, c, vl, vr, h, (f 0).trans c0, (f 1).trans c1, (f 2).trans c2, (f 3).trans c3, (f 4).trans c4, (f 5).trans c5, (f 6).trans c6, (f 7).trans c7, (f 8).trans c8, (f 9).trans c9, (f 10).trans c10, hc, hr.kept (fun ad e => by
      obtain ⟨cs', fz', h1⟩ := hr.blk ad e
      exact hk _ cs' _ fz' h1 (by decide)), Tr.kept hk hl, Tr.kept hk hrr, cs, fz, hb.trans hnd⟩
theorem TrW.kept {w w' : World} (hk : ∀ (k : Nat) (cs : Array Value) (T : TypeId) (fz : Nat × Nat), w.heap[k]? = some (Obj.cells cs T fz) → T ≠ 114 → w'.heap[k]? = w.heap[k]?) {t : T} {v : Value} (h : TrW w v t) : TrW w' v t := ⟨Tr.kept hk h.tr, h.wf, h.len⟩
/-- A list of pieces that grows turns no block of another kind. -/
theorem grown_kind {w w' : World} {B : Nat} {v : Value} {n : Nat} {xs : List Value} (hown : w.ownsRow B 114 2 v n xs) (hg : w.grownBy w' v.ownBlock) : ∀ (k : Nat) (cs : Array Value) (T : TypeId) (fz : Nat × Nat), w.heap[k]? = some (Obj.cells cs T fz) → T ≠ 114 → w'.heap[k]? = w.heap[k]? := fun k cs T fz h hT => by
  refine hg.block _ (Array.getElem?_eq_some_iff.1 h).1 (fun e2 => ?_)
  rcases hown.2 with ⟨rfl, _⟩ | ⟨g, cap, cur, rfl, _, hgg, _⟩
  · simp [Value.ownBlock] at e2
  · simp only [Value.ownBlock, Option.some.injEq] at e2
    rw [← e2, h] at hgg
    exact hT (Obj.cells.inj (Option.some.inj hgg)).2.1
/-- Those from i on up to kk have one counter, and these runes. -/
theorem seg_snoc {ps : List PcV} {i kk : Nat} (h : i ≤ kk) (hk : kk < ps.length) : (ps.take (kk + 1)).drop i = (ps.take kk).drop i ++ [ps[kk]] := by
  rw [List.take_succ_eq_append_getElem hk, List.drop_append_of_le_length (by rw [List.length_take]; omega)]
theorem run_app (a b : List Int) (h : Int) : run (a ++ b) h = run a h ++ run b h := by simp [run]
theorem take_seg {ps : List PcV} {i kk : Nat} (h : i ≤ kk) : cellsP (ps.take kk) = cellsP (ps.take i) ++ cellsP ((ps.take kk).drop i) := by
  rw [← cellsP_app]
  congr 1
  conv => lhs; rw [← List.take_append_drop i (ps.take kk)]
  rw [List.take_take, show min i kk = i by omega]
theorem seg_first {ps : List PcV} {i kk : Nat} (h : i < kk) (hi : i < ps.length) : (ps.take kk).drop i = ps[i] :: (ps.take kk).drop (i + 1) := by
  rw [List.drop_eq_getElem_cons (by rw [List.length_take]; omega), List.getElem_take]
theorem cellsP_take_le (ps : List PcV) (k : Nat) : (cellsP (ps.take k)).length ≤ (cellsP ps).length := by
  conv => rhs; rw [← List.take_append_drop k ps]
  rw [cellsP_app, List.length_append]; omega

set_option maxRecDepth 100000 in
set_option maxHeartbeats 8000000 in
theorem evened_any (v0 : Value) (ps : List PcV) (w : World) (hp : PV w v0 ps) (hl : (cellsP ps).length ≤ 2097152) :
    Calls Tryz.prog 121 #[v0] w fun e w' => (∃ v qs, e = .returned v ∧ w'.ownsRow w.heap.size 114 2 v qs.length (pcCells qs) ∧ (∀ q ∈ qs, q.Ok w') ∧ cellsP qs = cellsP ps) ∧ Below w.heap.size w w' := by
  have HP := Lib.hid hp
  have HL := Lib.hid hl
  have hpl := cellsP_len (ps := ps) (fun p hp' => (hp.ok p hp').ne)
  obtain ⟨A0, c0, hv0, hc0, hA0, hcells⟩ := hp.form
  subst hv0
  obtain ⟨n, hn⟩ : ∃ n, ps.length = n := ⟨_, rfl⟩
  have HCE := Lib.hid hcells
  rw [hn] at hpl hc0 ⊢
  have HN := Lib.hid hn
  have hnb : n ≤ 2097152 := by omega
  clear hp hl hpl hn hcells hA0
  go_enter Tryz.func121, Tryz.ntmps121
  go_wp2_with fail
  go_loopw [3, 4] (fun v x wr => ∃ (i : Nat) (qs : List PcV), i ≤ n ∧ x = .int .i64 i ∧ wr.ownsRow w.heap.size 114 2 v qs.length (pcCells qs) ∧ (∀ q ∈ qs, q.Ok wr) ∧ cellsP qs = cellsP (ps.take i) ∧ Below w.heap.size w wr) (fun _ x _ => n - (intOf x).toNat)
  case atStart => exact ⟨0, [], Nat.zero_le _, rfl, ⟨rfl, .inl ⟨rfl, rfl⟩⟩, by simp, by simp [cellsP], Below.refl _ _⟩
  case round =>
    obtain ⟨i, qs, hi, rfl, hown, hok, hcs, hb⟩ := hrel
    have HOW := Lib.hid hown
    have HOK := Lib.hid hok
    have HCS := Lib.hid hcs
    have HB := Lib.hid hb
    clear hown hok hcs hb
    obtain ⟨wo, rfl⟩ : ∃ wo : World, wo = wr := ⟨_, rfl⟩
    by_cases hlt : i < n
    · have hip : i < ps.length := by have := HN.out; omega
      obtain ⟨g, off, rfl, hce⟩ := HCE.out (by omega)
      have HCI := Lib.hid (hce i hip)
      have HCA := Lib.hid (fun j (hj : j < ps.length) => hce j hj)
      obtain ⟨hh, hhh⟩ : ∃ hh, ps[i].h = hh := ⟨_, rfl⟩
      rw [hhh] at HCI
      have HHH := Lib.hid hhh
      have HLT := Lib.hid hlt
      clear hce hhh
      go_wp2_with fail
      go_loopw [5, 6] (fun v x wr => ∃ (kk : Nat) (rr : List Int), i ≤ kk ∧ kk ≤ n ∧ x = .int .i64 kk ∧ wr.ownsRow wo.heap.size 21 1 v rr.length (i32s rr) ∧ run rr hh = cellsP ((ps.take kk).drop i) ∧ Below wo.heap.size wo wr) (fun _ x _ => n - (intOf x).toNat)
      case atStart => exact ⟨i, [], Nat.le_refl _, by omega, rfl, ⟨rfl, .inl ⟨rfl, rfl⟩⟩, by simp [run, cellsP], Below.refl _ _⟩
      case round =>
        obtain ⟨kk, rr, hik, hkn, rfl, hown2, hrun, hb2⟩ := hrel
        have HO2 := Lib.hid hown2
        have HRN := Lib.hid hrun
        have HB2 := Lib.hid hb2
        have HB02 := Lib.hid (HB.out.trans (hb2.mono HB.out.size))
        have d1 := cell_below HB02.out HCI.out.2
        have HIK := Lib.hid hik
        have hrl : rr.length ≤ 2097152 := by
          have h1 := congrArg List.length hrun
          rw [run_len] at h1
          have h2 := take_seg (ps := ps) hik
          have h3 := congrArg List.length h2
          rw [List.length_append] at h3
          have h4 := cellsP_take_le ps kk
          have := HL.out
          omega
        have HRL := Lib.hid hrl
        clear hown2 hrun hb2 hik hrl
        by_cases hgo : ∃ hkp : kk < ps.length, ps[kk].h = hh
        · obtain ⟨hkp, heq⟩ := hgo
          have hk2 : kk < n := by have := HN.out; omega
          obtain ⟨k0, k1⟩ := HCA.out kk hkp
          have e0 := cell_below HB02.out k0
          have e1 := cell_below HB02.out k1
          have hpo := (HP.out.ok ps[kk] (List.getElem_mem hkp)).below HB02.out
          have HSG := Lib.hid (seg_snoc (ps := ps) HIK.out hkp)
          have hpt := cellsP_take_le ps (kk + 1)
          rw [take_seg (ps := ps) (show i ≤ kk + 1 by have := HIK.out; omega), List.length_append, HSG.out, cellsP_app, List.length_append, ← HRN.out, run_len] at hpt
          obtain ⟨p, hp⟩ : ∃ p, ps[kk] = p := ⟨_, rfl⟩
          rw [hp] at e0 e1 hpo heq HSG hpt
          have hpr : rr.length + p.rs.length ≤ 2097152 := by
            simp only [cellsP, List.flatMap_cons, List.flatMap_nil, List.append_nil, run_len] at hpt
            have := HL.out
            simp only [cellsP] at this
            omega
          have HPR := Lib.hid hpr
          have HPO := Lib.hid hpo
          have HEQ := Lib.hid heq
          have HK2 := Lib.hid hk2
          have b1 : (p.h == hh) = true := by simp [heq]
          have hplen := List.length_pos_iff.2 hpo.ne
          have HPL := Lib.hid hplen
          clear k0 k1 hpo hp heq hpr hpt hplen hkp
          go_wp2_with fail
          go_quiet (fail)
          go_wp2_with (at_builtin; refine wpList_appR rfl (.tmp 29) (.tmp 34) rfl wo.heap.size _ rr p.rs rfl (own_below HO2.out (below_drewN (Below.refl _ _) _)) _ _ _ rfl rfl HPL.out (HPO.out.runes.cells.below (below_drewN (Below.refl _ _) _)) (by have := HPR.out; omega) HB2.out.size ?_; intro v' w7 hown' hgrow; have HO7 := Lib.hid hown'; have HG7 := Lib.hid hgrow; clear hown' hgrow)
          go_roundw
          case rel =>
            refine ⟨kk + 1, rr ++ p.rs, by have := HIK.out; omega, HK2.out, by go_num, HO7.out, ?_, (below_drewN HB2.out _).grown HG7.out HB2.out.size (fun k hk => (HO2.out.lt k hk).1)⟩
            rw [HSG.out, cellsP_app, run_app, HRN.out]
            simp [cellsP, HEQ.out]
          case measure => have := HK2.out; simp [intOf]; omega
        · have hik : i < kk := by
            rcases Nat.lt_or_ge i kk with h | h
            · exact h
            · have hie : kk = i := by have := HIK.out; omega
              subst hie
              exact absurd ⟨hip, HHH.out⟩ hgo
          have HIK2 := Lib.hid hik
          have HGO := Lib.hid hgo
          clear hgo hik
          go_upto_region 6 with fail
          go_cut [28] from 12 to 37 (fun b wx => b = .bool false ∧ ∃ N, wx = wr.drewN N)
          case first =>
            by_cases hk2 : kk < n
            · have hkp : kk < ps.length := by have := HN.out; omega
              obtain ⟨k0, k1⟩ := HCA.out kk hkp
              have e1 := cell_below HB02.out k1
              have hne : ¬ ps[kk].h = hh := fun h => HGO.out ⟨hkp, h⟩
              obtain ⟨p, hp⟩ : ∃ p, ps[kk] = p := ⟨_, rfl⟩
              rw [hp] at e1 hne
              have b1 : (p.h == hh) = false := by simp [hne]
              clear k0 k1 hne hp hkp
              go_quiet (fail)
              go_wp2_with fail
              go_meet
              exact ⟨rfl, _, rfl⟩
            · have b1 : decide (kk < n) = false := decide_eq_false hk2
              go_quiet (fail)
              go_wp2_with fail
              go_meet
              exact ⟨rfl, _, rfl⟩
          case rest =>
            obtain ⟨rfl, N, rfl⟩ := hcut
            have d2 : (wr.drewN N).cell? ⟨g, off + i * 2 + 1, none⟩ = some (.int .i64 hh) := d1
            clear d1
            obtain ⟨A5, c5, rfl, hc5, hcells5⟩ := own_runes HO2.out
            have hsegl : rr ≠ [] := by
              intro e
              have h1 := HRN.out
              rw [e] at h1
              have h2 := congrArg List.length h1
              rw [seg_first HIK2.out hip] at h2
              simp only [cellsP, List.flatMap_cons, List.length_append, run_len, List.length_nil] at h2
              have := List.length_pos_iff.2 (HP.out.ok _ (List.getElem_mem hip)).ne
              omega
            have h0h : 0 ≤ hh ∧ hh ≤ M := by rw [← HHH.out]; exact (HP.out.ok _ (List.getElem_mem hip)).h0
            have HRNE := Lib.hid hsegl
            have hblk : ∀ ad, A5 = some ad → ∃ cs fz, wr.heap[ad.block]? = some (.cells cs 21 fz) := fun ad e => by
              rcases HO2.out.2 with ⟨hv, h0⟩ | ⟨g', cap, cur, hv, _, hg', _⟩
              · exact absurd (List.length_eq_zero_iff.1 h0) hsegl
              · have := (Value.slice.inj hv).1
                rw [e] at this
                rw [Option.some.inj this]
                exact ⟨_, _, hg'⟩
            have HC := Lib.hid (cutUp_any A5 c5 rr hh (wr.drewN N) HRL.out hc5 ((show Rn wr A5 rr from ⟨hcells5, hblk⟩).below (below_drewN (Below.refl _ _) _)) h0h)
            obtain ⟨nr, hnr⟩ : ∃ nr, rr.length = nr := ⟨_, rfl⟩
            rw [hnr] at HC ⊢
            have HNR := Lib.hid hnr
            clear hc5 hcells5 hsegl h0h hblk hnr
            go_wp2_with fail
            refine HC.out.mono ?_
            rintro e w5 ⟨⟨v5, qs5, rfl, hown5, hok5, hcs5, hln5⟩, hb5⟩
            have HO5 := Lib.hid hown5
            have HOK5 := Lib.hid hok5
            have HCS5 := Lib.hid hcs5
            have HB5 := Lib.hid hb5
            have hq5 : 0 < qs5.length := by
              rcases Nat.eq_zero_or_pos qs5.length with h | h
              · rw [List.length_eq_zero_iff.1 h] at hcs5
                have := congrArg List.length hcs5
                rw [run_len] at this
                simp only [cellsP, List.flatMap_nil, List.length_nil] at this
                exact absurd (List.length_eq_zero_iff.1 this.symm) HRNE.out
              · exact h
            have HQ5 := Lib.hid hq5
            have HL5 := Lib.hid hln5
            have hqsl : qs.length ≤ 2097152 := by
              have h1 := cellsP_len (ps := qs) (fun q hq => (HOK.out q hq).ne)
              rw [HCS.out] at h1
              have h2 := cellsP_take_le ps i
              have := HL.out
              omega
            have HQSL := Lib.hid hqsl
            have HB15 := Lib.hid (HB2.out.trans ((below_drewN (Below.refl wr.heap.size wr) N).trans (show Below wr.heap.size (wr.drewN N) w5 from hb5) |>.mono HB2.out.size))
            clear hown5 hok5 hcs5 hb5 hq5 hln5 hqsl d2
            go_wp2_with (at_builtin; refine wpList_appP rfl (.tmp 38) (.tmp 45) rfl w.heap.size _ _ _ qs qs5 rfl (own_below HOW.out HB15.out) rfl HO5.out (by have := HQSL.out; have := HL5.out; have := HRL.out; have := HNR.out; omega) (by have := HB.out.size; have := HB15.out.size; omega) ?_; intro v' w7 hown' hgrow; have HO7 := Lib.hid hown'; have HG7 := Lib.hid hgrow; clear hown' hgrow)
            go_roundw
            case rel =>
              refine ⟨kk, qs ++ qs5, by have := HB2.out; omega, rfl, HO7.out, fun q hq => ?_, ?_, (HB.out.trans (HB15.out.mono HB.out.size)).grown HG7.out (by have := HB.out.size; have := HB15.out.size; omega) (fun k hk => (HOW.out.lt k hk).1)⟩
              · have hown5 := own_below HOW.out HB15.out
                rcases List.mem_append.1 hq with h | h
                · have o1 := (HOK.out q h).below HB15.out
                  exact o1.kept (grown_keeps o1 hown5 HG7.out)
                · exact (HOK5.out q h).kept (grown_keeps (HOK5.out q h) hown5 HG7.out)
              · rw [cellsP_app, HCS.out, HCS5.out, HRN.out, ← take_seg (Nat.le_of_lt HIK2.out)]
            case measure => have := HIK2.out; simp [intOf]; omega
    · go_wp2_with fail
      go_ret
      exact ⟨⟨_, qs, rfl, HOW.out, fun q hq => (HOK.out q hq), by rw [HCS.out, List.take_of_length_le (by have := HN.out; omega)]⟩, HB.out⟩
end Go.Proofs.YtkdhomiieenfnaaGreatDoor.Rp

namespace Go.Proofs.YtkdhomiieenfnaaGreatDoor.Rp
open Go.RowKit Go.Proofs Go.Proofs.YtkdhomiieenfnaaGreatDoor.U Go.Proofs.YtkdhomiieenfnaaGreatDoor.Txt
set_option linter.unusedVariables false
set_option linter.unusedSimpArgs false

theorem TrW.node_ptr {w : World} {v : Value} {t : T} (h : TrW w v t) (hn : t ≠ .nil) : ∃ a, v = .pointer (some a) := by
  have h := h.tr
  cases t with
  | nil => exact absurd rfl hn
  | node a b c d e => obtain ⟨b', _, _, _, _, h1, _⟩ := h; exact ⟨_, h1⟩
theorem own_one {W : World} (p : PcV) {n B : Nat} (hn : p.rs.length = n) (hB : W.heap.size = B) : (W.alloc (.cells #[.slice p.A n p.c, .int .i64 p.h] 114)).ownsRow B 114 2 (.slice (some ⟨B, 0, none⟩) 1 1) 1 (pcCells [p]) := by
  subst hn hB
  exact ⟨rfl, .inr ⟨_, 1, _, rfl, Nat.le_refl _, heap_at rfl, Nat.le_refl _, by decide, rfl, rfl⟩⟩
theorem own_base {w : World} {B B' e size n : Nat} {v : Value} {xs : List Value} (h : w.ownsRow B e size v n xs) (hb : B' ≤ B) : w.ownsRow B' e size v n xs := by
  refine ⟨h.1, ?_⟩
  rcases h.2 with hn | ⟨g, cap, cur, hv, hbg, rest⟩
  · exact .inl hn
  · exact .inr ⟨g, cap, cur, hv, Nat.le_trans hb hbg, rest⟩
theorem run_pos {rs : List Int} (h : rs ≠ []) (k : Int) : 0 < (run rs k).length := by
  rw [run_len]; exact List.length_pos_iff.2 h
section
attribute [local go_sem ↓] ldP_fold

set_option maxRecDepth 100000 in
set_option maxHeartbeats 8000000 in
theorem mend_any (vl vr : Value) (l r : T) (w : World) (hl : TrW w vl l) (hr : TrW w vr r) (hlen : (cells l).length + (cells r).length ≤ 2097152) :
    Calls Tryz.prog 80 #[vl, vr] w (RetC (cells l ++ cells r) w) := by
  have HL := Lib.hid hl
  have HR := Lib.hid hr
  have HN := Lib.hid hlen
  clear hl hr hlen
  go_enter Tryz.func80, Tryz.ntmps80
  go_wp2_with fail
  go_loopw [0, 5, 14] (fun vl' vs x wr => ∃ (i : Nat) (t : T) (ps : List PcV), i ≤ 2 ∧ x = .int .i64 i ∧ TrW wr vl' t ∧ wr.ownsRow w.heap.size 114 2 vs ps.length (pcCells ps) ∧ (∀ p ∈ ps, p.Ok wr) ∧ cells t ++ cellsP ps = cells l ∧ Below w.heap.size w wr) (fun _ _ x _ => 2 - (intOf x).toNat)
  case atStart => exact ⟨0, l, [], by omega, rfl, HL.out, ⟨rfl, .inl ⟨rfl, rfl⟩⟩, by simp, by simp [cellsP], Below.refl _ _⟩
  case round =>
    obtain ⟨i, t, ps, hi, rfl, ht, hown, hok, hcs, hb⟩ := hrel
    have HT := Lib.hid ht
    have HOW := Lib.hid hown
    have HOK := Lib.hid hok
    have HCS := Lib.hid hcs
    have HB := Lib.hid hb
    clear hown hok hcs hb
    by_cases hlt : i < 2
    · have HLT := Lib.hid hlt
      by_cases htn : t = .nil
      · subst htn
        obtain rfl : u0 = .pointer none := ht.tr
        clear ht
        go_wp2_with fail
        go_roundw
        case rel => exact ⟨i + 1, .nil, ps, HLT.out, by go_num, HT.out, HOW.out, HOK.out, HCS.out, HB.out⟩
        case measure => have := HLT.out; simp [intOf]; omega
      · obtain ⟨a', rfl⟩ := ht.node_ptr htn
        have HC := Lib.hid (popLast_any _ t wr htn ht)
        clear ht htn
        go_wp2_with fail
        refine HC.out.mono ?_
        rintro e w1 ⟨⟨v1, t1, vp, rs, hd, rfl, ht1, ⟨A, c, rfl, hc, hrn⟩, hne, h0, hcs1⟩, hb1⟩
        have hpl := List.length_pos_iff.2 hne
        obtain ⟨n, hn⟩ : ∃ n, rs.length = n := ⟨_, rfl⟩
        have HP1 := Lib.hid (show PcV.Ok w1 ⟨A, c, rs, hd⟩ from ⟨hc, hrn, hne, h0⟩)
        have HT1 := Lib.hid ht1
        have HCS1 := Lib.hid hcs1
        have HB1 := Lib.hid hb1
        have HNN := Lib.hid hn
        rw [hn]
        clear ht1 hc hrn hne h0 hcs1 hb1 hn hpl
        have s1 := ldP_run (w := w1.alloc (.cells #[.slice A n c, .int .i64 hd] 114)) (heap_at rfl)
        have hpl : 1 + ps.length ≤ 2097152 := by
          have h1 := cellsP_len (ps := ps) (fun q hq => (HOK.out q hq).ne)
          have h2 := congrArg List.length HCS.out
          have h3 := congrArg List.length HCS1.out
          have h4 := run_pos HP1.out.ne hd
          rw [List.length_append] at h2 h3
          have := HN.out
          simp only at h4
          omega
        have HPL := Lib.hid hpl
        clear hpl
        go_wp2_with (at_builtin; (refine wpList_appP rfl (.tmp 25) (.tmp 26) rfl (w1.heap.size + 1) w.heap.size _ _ [⟨A, c, rs, hd⟩] ps rfl (own_one (W := w1.alloc (.cells #[.slice A n c, .int .i64 hd] 114)) ⟨A, c, rs, hd⟩ HNN.out (by simp)) rfl (own_below (own_below HOW.out HB1.out) (below_drewN (((Below.refl _ _).alloc (Nat.le_refl _) _).alloc (by simp) _) 0)) (by have := HPL.out; simp; omega) (by simp) ?_; intro v' w7 hown' hgrow; have HO7 := Lib.hid hown'; have HG7 := Lib.hid hgrow; clear hown' hgrow))
        go_roundw
        case rel =>
          have hb7 : Below w1.heap.size w1 w7 := Below.grown (((Below.refl _ _).alloc (Nat.le_refl _) _).alloc (by simp) _) HG7.out (by simp; omega) (fun k hk => by have := Option.some.inj (show some (w1.heap.size + 1) = some k from hk); omega)
          refine ⟨i + 1, t1, ⟨A, c, rs, hd⟩ :: ps, HLT.out, by go_num, HT1.out.below hb7, own_base HO7.out (by have := HB.out.size; have := HB1.out.size; omega), fun q hq => ?_, ?_, (HB.out.trans (HB1.out.mono HB.out.size)).trans (hb7.mono (by have := HB.out.size; have := HB1.out.size; omega))⟩
          · rcases List.mem_cons.1 hq with h | h
            · subst h; exact HP1.out.below hb7
            · exact ((HOK.out q h).below HB1.out).below hb7
          · have h1 := HCS.out
            rw [← HCS1.out, List.append_assoc] at h1
            exact h1
        case measure => have := HLT.out; simp [intOf]; omega
    · clear hi
      obtain ⟨al, rfl⟩ := ht.tr.ptr
      clear ht
      have HR1 := Lib.hid (HR.out.below HB.out)
      go_wp2_with fail
      clear hlt
      go_loopw [1, 5, 29] (fun vr' vs x wx => ∃ (j : Nat) (u : T) (qs : List PcV), j ≤ 2 ∧ x = .int .i64 j ∧ TrW wx vr' u ∧ TrW wx (.pointer al) t ∧ wx.ownsRow w.heap.size 114 2 vs qs.length (pcCells qs) ∧ (∀ p ∈ qs, p.Ok wx) ∧ cellsP qs ++ cells u = cellsP ps ++ cells r ∧ Below w.heap.size w wx) (fun _ _ x _ => 2 - (intOf x).toNat)
      case atStart => exact ⟨0, r, ps, by omega, rfl, HR1.out, HT.out, HOW.out, HOK.out, rfl, HB.out⟩
      case round =>
        obtain ⟨j, u, qs, hj, rfl, hu, ht2, hown2, hok2, hcs2, hb2⟩ := hrel
        have HU := Lib.hid hu
        have HT2 := Lib.hid ht2
        have HO2 := Lib.hid hown2
        have HK2 := Lib.hid hok2
        have HC2 := Lib.hid hcs2
        have HB2 := Lib.hid hb2
        clear ht2 hown2 hok2 hcs2 hb2
        by_cases hlt : j < 2
        · have HLT := Lib.hid hlt
          by_cases hun : u = .nil
          · subst hun
            obtain rfl : u1 = .pointer none := hu.tr
            clear hu
            go_wp2_with fail
            go_roundw
            case rel => exact ⟨j + 1, .nil, qs, HLT.out, by go_num, HU.out, HT2.out, HO2.out, HK2.out, HC2.out, HB2.out⟩
            case measure => have := HLT.out; simp [intOf]; omega
          · obtain ⟨a', rfl⟩ := hu.node_ptr hun
            have HC := Lib.hid (popFirst_any _ u wr hun hu)
            clear hu hun
            go_wp2_with fail
            refine HC.out.mono ?_
            rintro e w1 ⟨⟨v1, t1, vp, rs, hd, rfl, ht1, ⟨A, c, rfl, hc, hrn⟩, hne, h0, hcs1⟩, hb1⟩
            obtain ⟨n, hn⟩ : ∃ n, rs.length = n := ⟨_, rfl⟩
            have HP1 := Lib.hid (show PcV.Ok w1 ⟨A, c, rs, hd⟩ from ⟨hc, hrn, hne, h0⟩)
            have HT1 := Lib.hid ht1
            have HCS1 := Lib.hid hcs1
            have HB1 := Lib.hid hb1
            have HNN := Lib.hid hn
            rw [hn]
            clear ht1 hc hrn hne h0 hcs1 hb1 hn
            have s1 := ldP_run (w := w1.alloc (.cells #[.slice A n c, .int .i64 hd] 114)) (heap_at rfl)
            have hpl : qs.length + 1 ≤ 2097152 := by
              have h1 := cellsP_len (ps := qs) (fun q hq => (HK2.out q hq).ne)
              have h2 := congrArg List.length HC2.out
              have h3 := congrArg List.length HCS1.out
              have h4 := run_pos HP1.out.ne hd
              have h5 := congrArg List.length HCS.out
              rw [List.length_append, List.length_append] at h2
              rw [List.length_append] at h3 h5
              have := HN.out
              simp only at h4
              omega
            have HPL := Lib.hid hpl
            clear hpl
            have HB21 := Lib.hid (HB2.out.trans (HB1.out.mono HB2.out.size))
            have HS1 := Lib.hid (Nat.le_trans HB2.out.size HB1.out.size)
            have HO8 := Lib.hid (show ((w1.alloc (.cells #[.slice A n c, .int .i64 hd] 114)).alloc (.cells #[.slice A n c, .int .i64 hd] 114)).ownsRow w.heap.size 114 2 u5 qs.length (pcCells qs) from own_below (own_below HO2.out HB1.out) (((Below.refl _ _).alloc (Nat.le_refl _) _).alloc (by simp) _))
            go_wp2_with (at_builtin; (refine wpList_appP rfl (.tmp 39) (.tmp 41) rfl w.heap.size (w1.heap.size + 1) _ _ qs [⟨A, c, rs, hd⟩] rfl HO8.out rfl (own_one (W := w1.alloc (.cells #[.slice A n c, .int .i64 hd] 114)) ⟨A, c, rs, hd⟩ HNN.out (by simp)) (by have := HPL.out; simp; omega) (by have := HS1.out; simp; omega) ?_; intro v' w7 hown' hgrow; have HO7 := Lib.hid hown'; have HG7 := Lib.hid hgrow; clear hown' hgrow))
            go_roundw
            case rel =>
              obtain ⟨w8, hw8⟩ : ∃ w8, (w1.alloc (.cells #[.slice A n c, .int .i64 hd] 114)).alloc (.cells #[.slice A n c, .int .i64 hd] 114) = w8 := ⟨_, rfl⟩
              have HB8 := Lib.hid (show Below w1.heap.size w1 w8 from hw8 ▸ (((Below.refl _ _).alloc (Nat.le_refl _) _).alloc (by simp) _))
              rw [hw8] at HO8 HG7
              clear hw8
              have hkk := grown_kind HO8.out HG7.out
              have hP := HP1.out.below HB8.out
              refine ⟨j + 1, t1, qs ++ [⟨A, c, rs, hd⟩], HLT.out, by go_num, (HT1.out.below HB8.out).kept hkk, ((HT2.out.below HB1.out).below HB8.out).kept hkk, HO7.out, fun q hq => ?_, ?_, (HB21.out.trans (HB8.out.mono HS1.out)).grown HG7.out (Nat.le_trans HS1.out HB8.out.size) (fun k hk => (HO2.out.lt k hk).1)⟩
              · rcases List.mem_append.1 hq with h | h
                · have o1 := ((HK2.out q h).below HB1.out).below HB8.out
                  exact o1.kept (grown_keeps o1 HO8.out HG7.out)
                · rw [List.mem_singleton.1 h]
                  exact hP.kept (grown_keeps hP HO8.out HG7.out)
              · rw [cellsP_app, ← HC2.out, ← HCS1.out]
                simp [cellsP]
            case measure => have := HLT.out; simp [intOf]; omega
        · clear hj
          obtain ⟨ar, rfl⟩ := hu.tr.ptr
          clear hu
          have HLN := Lib.hid (show (cells t).length + (cellsP qs).length + (cells u).length ≤ 2097152 by
            have h1 := congrArg List.length HCS.out
            have h2 := congrArg List.length HC2.out
            rw [List.length_append] at h1
            rw [List.length_append, List.length_append] at h2
            have := HN.out
            omega)
          have HC := Lib.hid (evened_any u5 qs wr (PV.of_own HO2.out HK2.out) (by have := HLN.out; omega))
          go_wp2_with fail
          refine HC.out.mono ?_
          rintro e w3 ⟨⟨v3, es, rfl, hown3, hok3, hcs3⟩, hb3⟩
          have HE := Lib.hid (PV.of_own hown3 hok3)
          have HCE := Lib.hid hcs3
          have HB3 := Lib.hid hb3
          have HT3 := Lib.hid (HT2.out.below hb3)
          have HU3 := Lib.hid (HU.out.below hb3)
          obtain ⟨A3, c3, rfl, hc3, hA3, hce3⟩ := HE.out.form
          obtain ⟨m, hm⟩ : ∃ m, es.length = m := ⟨_, rfl⟩
          have HX := Lib.hid hce3
          have hm2 : m ≤ 2097152 := by
            have h1 := cellsP_len (ps := es) (fun q hq => (HE.out.ok q hq).ne)
            have := HLN.out
            rw [hcs3] at h1
            omega
          rw [hm] at hc3 ⊢
          have HM := Lib.hid hm
          clear hown3 hok3 hcs3 hb3 hA3 hce3 hm
          go_wp2_with fail
          clear hlt
          go_loopw [0, 47] (fun vl' x wx => ∃ (k : Nat) (y : T), k ≤ m ∧ x = .int .i64 k ∧ TrW wx vl' y ∧ cells y = cells t ++ cellsP (es.take k) ∧ Below w3.heap.size w3 wx) (fun _ x _ => m - (intOf x).toNat)
          case atStart => exact ⟨0, t, by omega, rfl, HT3.out, by simp [cellsP], Below.refl _ _⟩
          case round =>
            obtain ⟨k, y, hk, rfl, hy, hcy, hb4⟩ := hrel
            obtain ⟨ay, rfl⟩ := hy.tr.ptr
            have HY := Lib.hid hy
            have HCY := Lib.hid hcy
            have HB4 := Lib.hid hb4
            clear hy hcy hb4
            by_cases hlt : k < m
            · have HLT := Lib.hid hlt
              have hkp : k < es.length := by have := HM.out; omega
              obtain ⟨g, off, rfl, hce⟩ := HX.out (by omega)
              have s1 := ldP_cells (cell_below HB4.out (hce k hkp).1) (cell_below HB4.out (hce k hkp).2)
              have hpo := (HE.out.ok es[k] (List.getElem_mem hkp)).below HB4.out
              have HTK := Lib.hid (show cellsP (es.take (k + 1)) = cellsP (es.take k) ++ run es[k].rs es[k].h by rw [List.take_succ_eq_append_getElem hkp, cellsP_app]; simp [cellsP])
              have hlk := cellsP_take_le es (k + 1)
              rw [HTK.out, List.length_append, run_len] at hlk
              obtain ⟨p, hp⟩ : ∃ p, es[k] = p := ⟨_, rfl⟩
              rw [hp] at s1 hpo HTK hlk
              have HPO := Lib.hid hpo
              have hjl : (cells y).length + p.rs.length + (cells T.nil).length ≤ 2097152 := by
                have h1 := congrArg List.length HCY.out
                rw [List.length_append] at h1
                have h2 := HLN.out
                rw [← HCE.out] at h2
                simp [cells]
                omega
              have HC := Lib.hid (join_any (.pointer ay) (.pointer none) (.agg #[.slice p.A p.rs.length p.c, .int .i64 p.h]) y .nil p.rs p.h (wr.alloc (.cells #[.slice p.A p.rs.length p.c, .int .i64 p.h] 114)) (HY.out.below (below_alloc1 _ _)) ⟨rfl, trivial, by simp [cells]⟩ ⟨_, _, rfl, hpo.room, hpo.runes.below (below_alloc1 _ _)⟩ hpo.ne hpo.h0 hjl)
              have s2 := ldP_run (w := wr.alloc (.cells #[.slice p.A p.rs.length p.c, .int .i64 p.h] 114)) (heap_at rfl)
              clear hce hpo hp hlk hjl hkp
              go_wp2_with fail
              refine HC.out.mono ?_
              rintro e w5 ⟨⟨v5, t5, rfl, ht5, hc5⟩, hb5⟩
              go_wp2_with fail
              go_roundw
              case rel =>
                have hb45 := HB4.out.trans (((below_alloc1 wr (.cells #[.slice p.A p.rs.length p.c, .int .i64 p.h] 114)).trans (hb5.mono (by simp))).mono HB4.out.size)
                refine ⟨k + 1, t5, HLT.out, by go_num, ht5, ?_, hb45⟩
                rw [hc5, HCY.out, HTK.out]
                simp [cells]
              case measure => have := HLT.out; simp [intOf]; omega
            · have hkm : k = m := by omega
              have HCY2 := Lib.hid (show cells y = cells t ++ cellsP qs by rw [HCY.out, List.take_of_length_le (by rw [HM.out, hkm]; exact Nat.le_refl _), HCE.out])
              have HALL := Lib.hid (show cells y ++ cells u = cells l ++ cells r by rw [HCY2.out, List.append_assoc, HC2.out, ← HCS.out, List.append_assoc])
              have HB14 := Lib.hid (HB2.out.trans ((HB3.out.trans (HB4.out.mono HB3.out.size)).mono HB2.out.size))
              have hu4 := HU3.out.below HB4.out
              clear hkm hk
              by_cases hun : u = .nil
              · subst hun
                obtain rfl : ar = none := by have := hu4.tr; exact Value.pointer.inj this
                clear hu4
                go_wp2_with fail
                go_ret
                exact ⟨⟨_, y, rfl, HY.out, by rw [← HALL.out]; simp [cells]⟩, HB14.out⟩
              · obtain ⟨a', ha'⟩ := hu4.node_ptr hun
                obtain rfl : ar = some a' := Value.pointer.inj ha'
                have HC := Lib.hid (popFirst_any _ u wr hun hu4)
                clear hu4 hun ha'
                go_wp2_with fail
                refine HC.out.mono ?_
                rintro e w6 ⟨⟨v1, t1, vp, rs, hd, rfl, ht1, ⟨A, c, rfl, hc, hrn⟩, hne, h0, hcs1⟩, hb6⟩
                have HJL := Lib.hid (show (cells y).length + rs.length + (cells t1).length ≤ 2097152 by
                  have h1 := congrArg List.length hcs1
                  have h2 := congrArg List.length HCY2.out
                  have := HLN.out
                  rw [List.length_append, run_len] at h1
                  rw [List.length_append] at h2
                  omega)
                have HCJ := Lib.hid (join_any (.pointer ay) v1 (.agg #[.slice A rs.length c, .int .i64 hd]) y t1 rs hd (w6.alloc (.cells #[.slice A rs.length c, .int .i64 hd] 114)) ((HY.out.below hb6).below (below_alloc1 _ _)) (ht1.below (below_alloc1 _ _)) ⟨_, _, rfl, hc, hrn.below (below_alloc1 _ _)⟩ hne h0 HJL.out)
                have s2 := ldP_run (w := w6.alloc (.cells #[.slice A rs.length c, .int .i64 hd] 114)) (heap_at rfl)
                have HB6 := Lib.hid (HB14.out.trans (hb6.mono HB14.out.size))
                have HCS6 := Lib.hid hcs1
                clear hne h0 hcs1 hb6 hc hrn ht1
                go_wp2_with fail
                refine HCJ.out.mono ?_
                rintro e w7 ⟨⟨v7, t7, rfl, ht7, hc7⟩, hb7⟩
                go_wp2_with fail
                go_ret
                refine ⟨⟨_, t7, rfl, ht7, ?_⟩, HB6.out.trans (((below_alloc1 w6 (.cells #[.slice A rs.length c, .int .i64 hd] 114)).trans (hb7.mono (by simp))).mono HB6.out.size)⟩
                rw [hc7, List.append_assoc, HCS6.out, HALL.out]
end
end Go.Proofs.YtkdhomiieenfnaaGreatDoor.Rp

namespace Go.Proofs.YtkdhomiieenfnaaGreatDoor.Rp
set_option linter.unusedVariables false
set_option linter.unusedSimpArgs false

theorem Nrm_snoc : ∀ (r : List (Int × Int)) (m : Int) (x : Int × Int), Nrm m (r ++ [x]) ↔ Nrm m r ∧ (∀ y ∈ r, y.2 + 1 ≤ x.1) ∧ m ≤ x.1 ∧ x.1 < x.2
  | [], m, x => by simp [Nrm]
  | z :: r, m, x => by
    show (m ≤ z.1 ∧ z.1 < z.2 ∧ Nrm (z.2 + 1) (r ++ [x])) ↔ _
    rw [Nrm_snoc r]
    constructor
    · rintro ⟨h1, h2, h3, h4, h5, h6⟩
      refine ⟨⟨h1, h2, h3⟩, ?_, by omega, h6⟩
      intro y hy
      rcases List.mem_cons.1 hy with rfl | hy
      · exact h5
      · exact h4 y hy
    · rintro ⟨⟨h1, h2, h3⟩, h4, h5, h6⟩
      exact ⟨h1, h2, h3, fun y hy => h4 y (by simp [hy]), h4 z (by simp), h6⟩
theorem cov_one (x : Int × Int) (i : Nat) : cov [x] i = decide (x.1 ≤ (i : Int) ∧ (i : Int) < x.2) := by simp [cov]
theorem addR_one {s : List (Int × Int)} {a : Nat} (hn : Nrm 0 s) (hs : ∀ x ∈ s, x.2 ≤ (a : Int)) : Nrm 0 (addR s a 1) ∧ (∀ x ∈ addR s a 1, x.2 ≤ (a : Int) + 1) ∧ ∀ i, cov (addR s a 1) i = (cov s i || decide (i = a)) := by
  rcases List.eq_nil_or_concat s with rfl | ⟨r, x, rfl⟩
  · refine ⟨⟨by simp, by simp; omega, trivial⟩, ?_, ?_⟩
    · intro x hx
      obtain rfl : x = ((a : Int), (a : Int) + 1) := by simpa [addR] using hx
      simp
    · intro i
      show cov [((a : Int), (a : Int) + 1)] i = _
      rw [cov_one, cov_nil, Bool.false_or, Bool.eq_iff_iff]
      simp; omega
  · rw [List.concat_eq_append] at hn hs ⊢
    rw [addR_snoc]
    have hn' := (Nrm_snoc r 0 x).1 hn
    have hx := hs x (by simp)
    split
    · rename_i e
      refine ⟨(Nrm_snoc _ _ _).2 ⟨hn'.1, hn'.2.1, hn'.2.2.1, by have := hn'.2.2.2; simp only; omega⟩, ?_, ?_⟩
      · intro y hy
        rcases List.mem_append.1 hy with hy | hy
        · have := hs y (by simp [hy]); omega
        · obtain rfl := List.mem_singleton.1 hy; simp
      · intro i
        rw [cov_app, cov_app, cov_one, cov_one, Bool.or_assoc]
        congr 1
        rw [Bool.eq_iff_iff]
        have := hn'.2.2.2
        simp; omega
    · rename_i e
      refine ⟨(Nrm_snoc _ _ _).2 ⟨hn, ?_, by simp, by simp; omega⟩, ?_, ?_⟩
      · intro y hy
        rcases List.mem_append.1 hy with h | h
        · have := hn'.2.1 y h; have := hn'.2.2.2; simp only; omega
        · obtain rfl := List.mem_singleton.1 h; simp only; omega
      · intro y hy
        rcases List.mem_append.1 hy with hy | hy
        · have := hs y hy; omega
        · obtain rfl := List.mem_singleton.1 hy; simp
      · intro i
        rw [cov_app, cov_one]
        congr 1
        rw [Bool.eq_iff_iff]
        simp; omega
theorem addR_len (s : List (Int × Int)) (a n : Nat) : (addR s a n).length ≤ s.length + 1 ∧ 0 < (addR s a n).length := by
  rcases List.eq_nil_or_concat s with rfl | ⟨r, x, rfl⟩
  · simp [addR]
  · rw [List.concat_eq_append, addR_snoc]
    split <;> simp
/-- The stretches of places that rise. -/
theorem ranges_of : ∀ (V : List (Nat × Int)) (s : List (Int × Int)) (a : Nat), V.Pairwise (fun x y => x.1 < y.1) → (∀ x ∈ V, a ≤ x.1) → Nrm 0 s → (∀ x ∈ s, x.2 ≤ (a : Int)) →
    Nrm 0 (inner1 innerR s V) ∧ (∀ m : Nat, a ≤ m → (∀ x ∈ V, x.1 < m) → ∀ x ∈ inner1 innerR s V, x.2 ≤ (m : Int)) ∧ (∀ i, cov (inner1 innerR s V) i = (cov s i || V.any fun x => decide (x.1 = i))) ∧ (inner1 innerR s V).length ≤ s.length + V.length ∧ (V ≠ [] → inner1 innerR s V ≠ [])
  | [], s, a, _, _, hn, hs => ⟨hn, fun m hm _ x hx => by have := hs x hx; omega, fun i => by simp [inner1], by simp [inner1], fun h => absurd rfl h⟩
  | v :: V, s, a, hp, hV, hn, hs => by
    have hv := hV v (by simp)
    have h1 := addR_one (a := v.1) hn (fun x hx => by have := hs x hx; omega)
    have hp' := List.pairwise_cons.1 hp
    have IH := ranges_of V (addR s v.1 1) (v.1 + 1) hp'.2 (fun x hx => hp'.1 x hx) h1.1 (fun x hx => by have := h1.2.1 x hx; omega)
    have hl := addR_len s v.1 1
    refine ⟨IH.1, fun m hm hV' x hx => IH.2.1 m (by have := hV' v (by simp); omega) (fun x hx => hV' x (by simp [hx])) x hx, fun i => ?_, ?_, fun _ => ?_⟩
    · show cov (inner1 innerR (addR s v.1 1) V) i = _
      rw [IH.2.2.1 i, h1.2.2 i, List.any_cons, Bool.or_assoc, show decide (i = v.1) = decide (v.1 = i) by rw [Bool.eq_iff_iff]; simp; omega]
    · show (inner1 innerR (addR s v.1 1) V).length ≤ _
      have := IH.2.2.2.1
      rw [List.length_cons]; omega
    · show inner1 innerR (addR s v.1 1) V ≠ []
      by_cases h0 : V = []
      · subst h0
        show addR s v.1 1 ≠ []
        exact List.length_pos_iff.1 hl.2
      · exact IH.2.2.2.2 h0
theorem vpos_sorted : ∀ (a : Nat) (cs : List Cl), (vpos a cs).Pairwise fun x y => x.1 < y.1
  | a, [] => List.Pairwise.nil
  | a, c :: l => by
    rw [vpos]
    split
    · refine List.pairwise_cons.2 ⟨fun x hx => ?_, vpos_sorted _ _⟩
      have := vpos_ge _ _ x hx
      show a < x.1; omega
    · exact vpos_sorted _ _
/-- What Visible answers: the ranges of the visible cells lo to hi - 1. -/
def visR (cs : List Cl) (lo hi : Nat) : List (Int × Int) := inner1 innerR [] (((vpos 0 cs).drop lo).take (hi - lo))
theorem visR_spec (cs : List Cl) (lo hi : Nat) : Nrm 0 (visR cs lo hi) ∧ (∀ x ∈ visR cs lo hi, x.2 ≤ (cs.length : Int)) ∧ (∀ i, cov (visR cs lo hi) i = (((vpos 0 cs).drop lo).take (hi - lo)).any fun x => decide (x.1 = i)) ∧ (visR cs lo hi).length ≤ hi - lo ∧ (lo < hi → hi ≤ shown cs → visR cs lo hi ≠ []) := by
  have hsub : (((vpos 0 cs).drop lo).take (hi - lo)).Sublist (vpos 0 cs) := (List.take_sublist _ _).trans (List.drop_sublist _ _)
  have h := ranges_of (((vpos 0 cs).drop lo).take (hi - lo)) [] 0 ((vpos_sorted 0 cs).sublist hsub) (fun x hx => Nat.zero_le _) trivial (fun x hx => by cases hx)
  refine ⟨h.1, fun x hx => h.2.1 cs.length (Nat.zero_le _) (fun y hy => by have := vpos_ge 0 cs y (hsub.subset hy); omega) x hx, fun i => by rw [visR, h.2.2.1 i, cov_nil, Bool.false_or], ?_, fun h1 h2 => h.2.2.2.2 ?_⟩
  · have := h.2.2.2.1
    rw [List.length_take, List.length_nil, Nat.zero_add] at this
    unfold visR; omega
  · intro e
    have := congrArg List.length e
    rw [List.length_take, List.length_drop, vpos_len, List.length_nil] at this
    omega
/-- A row with the ranges' counters turned, from place a on. -/
def bumpA (d : Int) (rs : List (Int × Int)) : Nat → List Cl → List Cl
  | _, [] => []
  | a, c :: l => (if cov rs a then (c.1, c.2 + d) else c) :: bumpA d rs (a + 1) l
theorem bumpA_get (d : Int) (rs : List (Int × Int)) : ∀ (cs : List Cl) (a i : Nat), (bumpA d rs a cs)[i]? = (cs[i]?).map fun c => if cov rs (a + i) then (c.1, c.2 + d) else c
  | [], a, i => by simp [bumpA]
  | c :: l, a, 0 => by simp [bumpA]
  | c :: l, a, i + 1 => by
    rw [bumpA, List.getElem?_cons_succ, List.getElem?_cons_succ, bumpA_get d rs l, show a + 1 + i = a + (i + 1) by omega]
theorem bumpC_eq (d : Int) (rs : List (Int × Int)) (cs : List Cl) : bumpC d rs cs = bumpA d rs 0 cs := by
  apply List.ext_getElem?
  intro i
  rw [bumpC_get, bumpA_get, Nat.zero_add]
theorem vpos_bump (rs : List (Int × Int)) : ∀ (cs : List Cl) (a : Nat), Cok cs → vpos a (bumpA 1 rs a cs) = (vpos a cs).filter fun x => !cov rs x.1
  | [], a, _ => rfl
  | c :: l, a, hk => by
    have IH := vpos_bump rs l (a + 1) (fun x hx => hk x (by simp [hx]))
    have hc := (hk c (by simp)).1
    rw [bumpA, vpos, vpos, IH]
    by_cases h : cov rs a = true
    · rw [h]
      simp only [if_true]
      rw [if_neg (by omega)]
      by_cases h0 : c.2 = 0
      · rw [if_pos h0, List.filter_cons, h]; simp
      · rw [if_neg h0]
    · rw [Bool.not_eq_true] at h
      rw [h]
      simp only [Bool.false_eq_true, if_false]
      by_cases h0 : c.2 = 0
      · rw [if_pos h0, if_pos h0, List.filter_cons, h]; simp
      · rw [if_neg h0, if_neg h0]
theorem filter_mid (A V B : List (Nat × Int)) (h : (A ++ V ++ B).Pairwise fun x y => x.1 < y.1) : (A ++ V ++ B).filter (fun x => !(V.any fun y => decide (y.1 = x.1))) = A ++ B := by
  have h1 := List.pairwise_append.1 h
  have h2 := List.pairwise_append.1 h1.1
  rw [List.filter_append, List.filter_append]
  have ha : A.filter (fun x => !(V.any fun y => decide (y.1 = x.1))) = A := by
    rw [List.filter_eq_self]
    intro x hx
    rw [Bool.not_eq_true', List.any_eq_false]
    intro y hy
    have := h2.2.2 x hx y hy
    simp; omega
  have hb : B.filter (fun x => !(V.any fun y => decide (y.1 = x.1))) = B := by
    rw [List.filter_eq_self]
    intro x hx
    rw [Bool.not_eq_true', List.any_eq_false]
    intro y hy
    have := h1.2.2 y (by simp [hy]) x hx
    simp; omega
  have hv : V.filter (fun x => !(V.any fun y => decide (y.1 = x.1))) = [] := by
    rw [List.filter_eq_nil_iff]
    intro x hx
    rw [Bool.not_eq_true', Bool.not_eq_false, List.any_eq_true]
    exact ⟨x, hx, by simp⟩
  rw [ha, hb, hv, List.append_nil]
/-- What hiding visible cells leaves of the text. -/
theorem vis_hide {cs : List Cl} (hk : Cok cs) {lo hi : Nat} (h : lo ≤ hi) : vis (bumpC 1 (visR cs lo hi) cs) = (vis cs).take lo ++ (vis cs).drop hi := by
  rw [← vpos_vis 0, bumpC_eq, vpos_bump _ _ _ hk]
  have e : (vpos 0 cs).filter (fun x => !cov (visR cs lo hi) x.1) = (vpos 0 cs).filter (fun x => !((((vpos 0 cs).drop lo).take (hi - lo)).any fun y => decide (y.1 = x.1))) := by
    apply List.filter_congr
    intro x _
    rw [(visR_spec cs lo hi).2.2.1]
  have hs := vpos_sorted 0 cs
  have hv := vpos_vis 0 cs
  rw [e]
  obtain ⟨L, hL⟩ : ∃ L, vpos 0 cs = L := ⟨_, rfl⟩
  rw [hL] at hs hv ⊢
  have e2 : L = L.take lo ++ (L.drop lo).take (hi - lo) ++ L.drop hi := by
    have e3 : L.drop hi = (L.drop lo).drop (hi - lo) := by rw [List.drop_drop]; congr 1; omega
    rw [e3, List.append_assoc, List.take_append_drop, List.take_append_drop]
  have h3 := filter_mid (L.take lo) ((L.drop lo).take (hi - lo)) (L.drop hi) (by rw [← e2]; exact hs)
  rw [← e2] at h3
  rw [h3, List.map_append, ← hv, List.map_take, List.map_drop]
theorem cov_vis {cs : List Cl} {lo hi i : Nat} (h : cov (visR cs lo hi) i = true) : ∃ r, cs[i]? = some (r, 0) := by
  rw [(visR_spec cs lo hi).2.2.1, List.any_eq_true] at h
  obtain ⟨x, hx, e⟩ := h
  have e : x.1 = i := by simpa using e
  have hm : x ∈ vpos 0 cs := ((List.take_sublist _ _).trans (List.drop_sublist _ _)).subset hx
  have key : ∀ (cs : List Cl) (a : Nat), ∀ x ∈ vpos a cs, cs[x.1 - a]? = some (x.2, 0) ∧ a ≤ x.1 := by
    intro cs
    induction cs with
    | nil => intro a x h; cases h
    | cons c l ih =>
      intro a x h
      rw [vpos] at h
      have : ∀ x ∈ vpos (a + 1) l, (c :: l)[x.1 - a]? = some (x.2, 0) ∧ a ≤ x.1 := fun x hx => by
        have h1 := ih (a + 1) x hx
        rw [show x.1 - a = (x.1 - (a + 1)) + 1 by omega, List.getElem?_cons_succ]
        exact ⟨h1.1, by omega⟩
      split at h
      · rename_i h0
        rcases List.mem_cons.1 h with rfl | h
        · simp only [Nat.sub_self, List.getElem?_cons_zero]
          exact ⟨by rw [← h0], Nat.le_refl _⟩
        · exact this x h
      · exact this x h
  have := (key cs 0 x hm).1
  rw [Nat.sub_zero, e] at this
  exact ⟨_, this⟩
/-- Hiding visible cells is not forbidden, nor is showing them again. -/
theorem hide_free (cs : List Cl) (lo hi : Nat) : ¬ stopC 1 (visR cs lo hi) cs ∧ ¬ stopC (-1) (visR cs lo hi) (bumpC 1 (visR cs lo hi) cs) := by
  constructor
  · rintro ⟨i, h1, c, h2, h3⟩
    obtain ⟨r, h4⟩ := cov_vis h1
    rw [h2] at h4
    obtain rfl := Option.some.inj h4
    rcases h3 with ⟨h5, _⟩ | ⟨_, h5⟩
    · omega
    · simp [M] at h5
  · rintro ⟨i, h1, c, h2, h3⟩
    obtain ⟨r, h4⟩ := cov_vis h1
    rw [bumpC_get, h4, h1] at h2
    simp at h2
    subst h2
    rcases h3 with ⟨_, h5⟩ | ⟨h5, _⟩
    · simp at h5
    · omega

/-! ### The fewest runs -/
def runsL : List Cl → List Pce
  | [] => []
  | c :: l => match runsL l with
    | [] => [([c.1], c.2)]
    | q :: r => if q.2 = c.2 then (c.1 :: q.1, q.2) :: r else ([c.1], c.2) :: q :: r
theorem flat_runsL : ∀ cs : List Cl, flat (runsL cs) = cs
  | [] => rfl
  | c :: l => by
    have IH := flat_runsL l
    rw [runsL]
    cases h : runsL l with
    | nil =>
      rw [h] at IH
      simp only
      rw [flat_cons, flat_nil, ← IH]
      rfl
    | cons q r =>
      rw [h, flat_cons] at IH
      simp only
      split
      · rename_i e
        rw [flat_cons, ← IH]
        show (c.1, q.2) :: _ = _
        rw [e]; rfl
      · rw [flat_cons, flat_cons, IH]; rfl
theorem runsL_ne : ∀ (cs : List Cl), ∀ q ∈ runsL cs, q.1 ≠ []
  | [], q, h => by cases h
  | c :: l, q, h => by
    have IH := runsL_ne l
    rw [runsL] at h
    cases h2 : runsL l with
    | nil => rw [h2] at h; simp at h; subst h; simp
    | cons q' r =>
      rw [h2] at h IH
      simp only at h
      split at h
      · rcases List.mem_cons.1 h with rfl | h
        · simp
        · exact IH q (by simp [h])
      · rcases List.mem_cons.1 h with rfl | h
        · simp
        · exact IH q h
/-- A piece laid behind runs. -/
def addP (L : List Pce) (q : Pce) : List Pce := match L.getLast? with
  | some x => if x.2 = q.2 then L.dropLast ++ [(x.1 ++ q.1, q.2)] else L ++ [q]
  | none => [q]
theorem addP_nil (q : Pce) : addP [] q = [q] := rfl
theorem addP_snoc (L : List Pce) (x q : Pce) : addP (L ++ [x]) q = if x.2 = q.2 then L ++ [(x.1 ++ q.1, q.2)] else (L ++ [x]) ++ [q] := by simp [addP]
theorem addP_cons (y x q : Pce) (L : List Pce) : addP (y :: (L ++ [x])) q = y :: addP (L ++ [x]) q := by
  rw [← List.cons_append, addP_snoc, addP_snoc]
  split <;> simp
theorem addP_more (L : List Pce) (a b : List Int) (h : Int) : addP (addP L (a, h)) (b, h) = addP L (a ++ b, h) := by
  rcases List.eq_nil_or_concat L with rfl | ⟨r, x, rfl⟩
  · show addP ([] ++ [(a, h)]) (b, h) = _
    rw [addP_snoc, if_pos rfl]; rfl
  · rw [List.concat_eq_append, addP_snoc, addP_snoc]
    split
    · rw [addP_snoc, if_pos rfl]; simp
    · rw [addP_snoc, if_pos rfl]
/-- A cell laid ahead of runs. -/
def consP (c : Cl) (L : List Pce) : List Pce := match L with
  | [] => [([c.1], c.2)]
  | q :: r => if q.2 = c.2 then (c.1 :: q.1, q.2) :: r else ([c.1], c.2) :: q :: r
theorem consP_addP (c : Cl) (L : List Pce) (q : Pce) (hq : L ≠ []) : consP c (addP L q) = addP (consP c L) q := by
  rcases List.eq_nil_or_concat L with rfl | ⟨r, x, rfl⟩
  · exact absurd rfl hq
  · rw [List.concat_eq_append]
    cases r with
    | nil =>
      rw [addP_snoc]
      show consP c (if x.2 = q.2 then [(x.1 ++ q.1, q.2)] else [x, q]) = addP (if x.2 = c.2 then [(c.1 :: x.1, x.2)] else [([c.1], c.2), x]) q
      by_cases e : x.2 = q.2
      · rw [if_pos e]
        show (if q.2 = c.2 then _ else _) = _
        by_cases e2 : x.2 = c.2
        · rw [if_pos e2, if_pos (e ▸ e2)]
          show _ = addP ([] ++ [(c.1 :: x.1, x.2)]) q
          rw [addP_snoc, if_pos e]; rfl
        · rw [if_neg e2, if_neg (e ▸ e2)]
          show _ = addP ([([c.1], c.2)] ++ [x]) q
          rw [addP_snoc, if_pos e]; rfl
      · rw [if_neg e]
        show (if x.2 = c.2 then _ else _) = _
        by_cases e2 : x.2 = c.2
        · rw [if_pos e2, if_pos e2]
          show _ = addP ([] ++ [(c.1 :: x.1, x.2)]) q
          rw [addP_snoc, if_neg e]; rfl
        · rw [if_neg e2, if_neg e2]
          show _ = addP ([([c.1], c.2)] ++ [x]) q
          rw [addP_snoc, if_neg e]; rfl
    | cons y r =>
      rw [List.cons_append, addP_cons]
      show (if y.2 = c.2 then (c.1 :: y.1, y.2) :: addP (r ++ [x]) q else ([c.1], c.2) :: y :: addP (r ++ [x]) q) = addP (if y.2 = c.2 then (c.1 :: y.1, y.2) :: (r ++ [x]) else ([c.1], c.2) :: y :: (r ++ [x])) q
      split
      · rw [addP_cons]
      · rw [← List.cons_append, addP_cons, List.cons_append, addP_cons]
theorem runsL_cons (c : Cl) (l : List Cl) : runsL (c :: l) = consP c (runsL l) := by
  rw [runsL]
  cases runsL l <;> rfl
theorem runsL_nil_iff {cs : List Cl} : runsL cs = [] ↔ cs = [] := by
  constructor
  · intro h
    have := flat_runsL cs
    rw [h] at this
    exact this.symm
  · rintro rfl; rfl
theorem runsL_snoc : ∀ (cs : List Cl) (c : Cl), runsL (cs ++ [c]) = addP (runsL cs) ([c.1], c.2)
  | [], c => rfl
  | d :: l, c => by
    rw [List.cons_append, runsL_cons, runsL_cons, runsL_snoc l c]
    by_cases h : l = []
    · subst h
      show consP d [([c.1], c.2)] = addP ([] ++ [([d.1], d.2)]) ([c.1], c.2)
      rw [addP_snoc]
      show (if c.2 = d.2 then [(d.1 :: [c.1], c.2)] else _) = if d.2 = c.2 then _ else _
      by_cases e : c.2 = d.2
      · rw [if_pos e, if_pos e.symm]; rfl
      · rw [if_neg e, if_neg (fun h => e h.symm)]; rfl
    · exact consP_addP d _ _ (fun e => h (runsL_nil_iff.1 e))
theorem runsL_run : ∀ (rs : List Int) (cs : List Cl) (h : Int), rs ≠ [] → runsL (cs ++ run rs h) = addP (runsL cs) (rs, h) := by
  intro rs
  induction rs with
  | nil => intro cs h h2; exact absurd rfl h2
  | cons r l ih =>
    intro cs h _
    have e : cs ++ run (r :: l) h = (cs ++ [(r, h)]) ++ run l h := by simp [run]
    rw [e]
    by_cases hl : l = []
    · subst hl
      rw [show run [] h = [] from rfl, List.append_nil, runsL_snoc]
    · rw [ih _ _ hl, runsL_snoc, addP_more]; rfl
/-- The state of Runs: what is told, the run that grows, its counter. -/
structure RunS where
  out : List Pce
  b : List Int
  hid : Int
def endR (s : RunS) : List Pce := s.out ++ if s.b = [] then [] else [(s.b, s.hid)]
def stepR (s : RunS) (_ : Nat) (q : Pce) : RunS × Bool := (if q.2 = s.hid then ⟨s.out, s.b ++ q.1, s.hid⟩ else ⟨endR s, q.1, q.2⟩, true)
theorem endR_step (s : RunS) (a : Nat) (q : Pce) (hq : q.1 ≠ []) (h : s.b = [] → s.out = []) : endR (stepR s a q).1 = addP (endR s) q ∧ (stepR s a q).1.b ≠ [] := by
  unfold stepR
  by_cases e : q.2 = s.hid
  · rw [if_pos e]
    refine ⟨?_, by simp [hq]⟩
    unfold endR
    simp only
    rw [if_neg (by simp [hq])]
    by_cases hb : s.b = []
    · rw [if_pos hb, h hb, hb, ← e]; rfl
    · rw [if_neg hb, addP_snoc, if_pos e.symm, ← e]
  · rw [if_neg e]
    refine ⟨?_, hq⟩
    show (endR s) ++ (if q.1 = [] then [] else [(q.1, q.2)]) = _
    rw [if_neg hq]
    unfold endR
    by_cases hb : s.b = []
    · rw [if_pos hb, h hb]; rfl
    · rw [if_neg hb, addP_snoc, if_neg (fun x => e x.symm)]
theorem walkR (cs : List Cl) : ∀ (ps : List Pce) (a : Nat) (x : List Cl) (s : RunS), POk ps → runsL x = endR s → (s.b = [] → s.out = []) → (walkF stepR 0 a ps s).2 = true ∧ endR (walkF stepR 0 a ps s).1 = runsL (x ++ flat ps)
  | [], a, x, s, _, h, _ => by rw [walkF, flat_nil, List.append_nil]; exact ⟨rfl, h.symm⟩
  | q :: ps, a, x, s, hp, h, hb => by
    have hq := (hp q (by simp)).1
    have hpos := List.length_pos_iff.2 hq
    have h1 := endR_step s a q hq hb
    have IH := walkR cs ps (a + q.1.length) (x ++ run q.1 q.2) (stepR s a q).1 (fun y hy => hp y (by simp [hy])) (by rw [runsL_run _ _ _ hq, h, h1.1]) (fun e => absurd e h1.2)
    rw [walkF, if_pos (by omega), if_pos (show (stepR s a q).2 = true from rfl), flat_cons, ← List.append_assoc]
    exact IH
/-- Runs over a row of pieces. -/
theorem runs_all (ps : List Pce) (hp : POk ps) : endR (walkF stepR 0 0 ps ⟨[], [], 0⟩).1 = runsL (flat ps) := (walkR [] ps 0 [] ⟨[], [], 0⟩ hp rfl (fun _ => rfl)).2
end Go.Proofs.YtkdhomiieenfnaaGreatDoor.Rp
