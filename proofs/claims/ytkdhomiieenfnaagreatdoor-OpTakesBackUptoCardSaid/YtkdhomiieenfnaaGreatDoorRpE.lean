/- Neighbours of one counter laid together and cut up anew: evened. -/
import Derived.Test.YtkdhomiieenfnaaGreatDoorLt8
import Derived.Laws.AppendOwnNone
namespace Go.Proofs.YtkdhomiieenfnaaGreatDoor.Rp
open Go.RowKit Go.Proofs Go.Proofs.YtkdhomiieenfnaaGreatDoor.U Go.Proofs.YtkdhomiieenfnaaGreatDoor.Txt
set_option linter.unusedVariables false
set_option linter.unusedSimpArgs false

theorem infoRn : (Tryz.prog.info? 21).map (fun i => (i.zero, i.size, i.bytes)) = some (some (.int .i32 0), 1, 4) := by kernel_rfl
/-- An append of one list of runes to another in own memory. -/
theorem wpList_appR {w : World} {ops : Array Oper} {rest : List Oper} {o : Oper} {a : Act} {Q : Exit → Act → World → Prop} (hgd : o.guard = none) (s x : Operand)
    (ho : o.op = .call { callee := .builtin .append, args := #[s, x], argTypes := #[49, 49] }) (base : Nat) (v : Value) (xs ys : List Int) (hs : a.eval s = v) (hown : w.ownsRow base 21 1 v xs.length (i32s xs))
    (A : Option Addr) (m c : Nat) (hx : a.eval x = .slice A m c) (hm : ys.length = m) (hne : 0 < m) (hc : Cells32 w A ys) (hl : xs.length + m ≤ 16777216) (hbase : base ≤ w.heap.size)
    (h : ∀ v' w', w'.ownsRow base 21 1 v' (xs ++ ys).length (i32s (xs ++ ys)) → w.grownBy w' v.ownBlock → wpList Tryz.prog ops Q rest (a.put o.dst v') w') : wpList Tryz.prog ops Q (o :: rest) a w := by
  obtain ⟨i0, hi, hz0, hz1, hz2⟩ := info_parts infoRn
  obtain ⟨ad, rfl, hcs⟩ := hc (by omega)
  have hlen : (i32s ys).length = ys.length := by simp [i32s]
  refine wpList_append_own _ hgd s x 49 ho base 21 i0 (.int .i32 0) 1 4 Tryz.underlying49 hi hz0 hz1 hz2 rfl (by decide) v xs.length (i32s xs) hs hown ad m c (i32s ys) hx (by rw [hlen, hm, Nat.mul_one]) ?_ ?_ (by unfold maxLen; omega) (by omega) hbase (fun v' w' h1 h2 _ => h v' w' (by rw [List.length_append, hm]; simpa [i32s] using h1) h2)
  · intro j u hu
    have hj := (List.getElem?_eq_some_iff.1 hu).1
    rw [hlen] at hj
    rw [hcs j hj, ← hu]
    simp [i32s, List.getD, List.getElem?_eq_getElem hj]
  · intro u hu
    simp only [i32s, List.mem_map] at hu
    obtain ⟨y, _, rfl⟩ := hu
    rfl
/-- An append of one own list of pieces to another. -/
theorem wpList_appP {w : World} {ops : Array Oper} {rest : List Oper} {o : Oper} {a : Act} {Q : Exit → Act → World → Prop} (hgd : o.guard = none) (s x : Operand)
    (ho : o.op = .call { callee := .builtin .append, args := #[s, x], argTypes := #[72, 72] }) (base base2 : Nat) (v u : Value) (xs ys : List PcV) (hs : a.eval s = v) (hown : w.ownsRow base 114 2 v xs.length (pcCells xs))
    (hx : a.eval x = u) (hown2 : w.ownsRow base2 114 2 u ys.length (pcCells ys)) (hl : xs.length + ys.length ≤ 16777216) (hbase : base ≤ w.heap.size)
    (h : ∀ v' w', w'.ownsRow base 114 2 v' (xs ++ ys).length (pcCells (xs ++ ys)) → w.grownBy w' v.ownBlock → wpList Tryz.prog ops Q rest (a.put o.dst v') w') : wpList Tryz.prog ops Q (o :: rest) a w := by
  obtain ⟨i0, hi, hz0, hz1, hz2⟩ := info_parts infoPc
  rcases hown2.2 with ⟨hv, h0⟩ | ⟨g, cap, cur, hv, hbg, hg, hcap, hrest⟩
  · subst hv
    obtain rfl : ys = [] := List.length_eq_zero_iff.1 h0
    refine wpList_append_own_none hgd s x 72 ho base 114 i0 2 Tryz.underlying72 hi v xs.length (pcCells xs) hs hown hx (h v w (by rw [List.append_nil]; exact hown) ⟨rfl, rfl, rfl, Nat.le_refl _, fun k hk _ => rfl⟩)
  · have hlen : (pcCells ys).length = ys.length * 2 := by rw [pcCells_len]; omega
    subst hv
    refine wpList_append_own _ hgd s x 72 ho base 114 i0 (.agg #[.slice none 0 0, .int .i64 0]) 2 32 Tryz.underlying72 hi hz0 hz1 hz2 rfl (by decide) v xs.length (pcCells xs) hs hown ⟨g, 0, none⟩ ys.length cap (pcCells ys) hx hlen ?_ ?_ (by unfold maxLen; omega) (by omega) hbase (fun v' w' h1 h2 _ => h v' w' (by rw [List.length_append, pcCells_app]; exact h1) h2)
    · intro j y hy
      exact hown2.cells (g := g) rfl j y hy
    · intro y hy
      simp only [pcCells, List.mem_flatMap] at hy
      obtain ⟨p, _, hp⟩ := hy
      simp at hp
      rcases hp with rfl | rfl <;> rfl
theorem Rn.kept {w w' : World} {A : Option Addr} {rs : List Int} (h : Rn w A rs) (hk : ∀ ad, A = some ad → w'.heap[ad.block]? = w.heap[ad.block]?) : Rn w' A rs := ⟨fun h0 => by
  obtain ⟨ad, e, hc⟩ := h.cells h0
  refine ⟨ad, e, fun j hj => ?_⟩
  have h1 := hc j hj
  unfold World.cell? at h1 ⊢
  rw [addr_block] at h1 ⊢
  rw [hk ad e]
  exact h1, fun ad e => by rw [hk ad e]; exact h.blk ad e⟩
theorem PcV.Ok.kept {w w' : World} {p : PcV} (h : p.Ok w) (hk : ∀ ad, p.A = some ad → w'.heap[ad.block]? = w.heap[ad.block]?) : p.Ok w' := ⟨h.room, h.runes.kept hk, h.ne, h.h0⟩
/-- A list of pieces that grows keeps the pieces' runes. -/
theorem grown_keeps {w w' : World} {B : Nat} {v : Value} {n : Nat} {xs : List Value} {p : PcV} (hb : p.Ok w) (hown : w.ownsRow B 114 2 v n xs) (hg : w.grownBy w' v.ownBlock) : ∀ ad, p.A = some ad → w'.heap[ad.block]? = w.heap[ad.block]? := fun ad e => by
  obtain ⟨cs, fz, h1⟩ := hb.runes.blk ad e
  refine hg.block _ (Array.getElem?_eq_some_iff.1 h1).1 (fun e2 => ?_)
  rcases hown.2 with ⟨rfl, _⟩ | ⟨g, cap, cur, rfl, _, hgg, _⟩
  · simp [Value.ownBlock] at e2
  · simp only [Value.ownBlock, Option.some.injEq] at e2
    rw [← e2, h1] at hgg
    have := (Obj.cells.inj (Option.some.inj hgg)).2.1
    exact absurd this (by decide)
/-- A tree stays where no block of nodes or runes turns. -/
theorem Tr.kept {w w' : World} (hk : ∀ (k : Nat) (cs : Array Value) (T : TypeId) (fz : Nat × Nat), w.heap[k]? = some (Obj.cells cs T fz) → T ≠ 114 → w'.heap[k]? = w.heap[k]?) : ∀ {t : T} {v : Value}, Tr w v t → Tr w' v t
  | .nil, v, h => h
  | .node l rs k r p, v, ⟨b, A, c, vl, vr, h, c0, c1, c2, c3, c4, c5, c6, c7, c8, c9, c10, hc, hr, hl, hrr, cs, fz, hnd⟩ => by
    have hb := hk b cs _ fz hnd (by decide)
    have f : ∀ j, w'.cell? ⟨b, j, none⟩ = w.cell? ⟨b, j, none⟩ := fun j => by unfold World.cell?; rw [hb]
    exact ⟨b, A, c, vl, vr, h, (f 0).trans c0, (f 1).trans c1, (f 2).trans c2, (f 3).trans c3, (f 4).trans c4, (f 5).trans c5, (f 6).trans c6, (f 7).trans c7, (f 8).trans c8, (f 9).trans c9, (f 10).trans c10, hc, hr.kept (fun ad e => by
      obtain ⟨cs', fz', h1⟩ := hr.blk ad e
      exact hk _ cs' _ fz' h1 (by decide)), Tr.kept hk hl, Tr.kept hk hrr, cs, fz, hb.trans hnd⟩
theorem TrW.kept {w w' : World} (hk : ∀ (k : Nat) (cs : Array Value) (T : TypeId) (fz : Nat × Nat), w.heap[k]? = some (Obj.cells cs T fz) → T ≠ 114 → w'.heap[k]? = w.heap[k]?) {t : T} {v : Value} (h : TrW w v t) : TrW w' v t := ⟨Tr.kept hk h.tr, h.wf, h.len⟩
/-- A list of pieces that grows turns no block of another kind. -/
theorem grown_kind {w w' : World} {B : Nat} {v : Value} {n : Nat} {xs : List Value} (hown : w.ownsRow B 114 2 v n xs) (hg : w.grownBy w' v.ownBlock) : ∀ (k : Nat) (cs : Array Value) (T : TypeId) (fz : Nat × Nat), w.heap[k]? = some (Obj.cells cs T fz) → T ≠ 114 → w'.heap[k]? = w.heap[k]? := fun k cs T fz h hT => by
  refine hg.block _ (Array.getElem?_eq_some_iff.1 h).1 (fun e2 => ?_)
  rcases hown.2 with ⟨rfl, _⟩ | ⟨g, cap, cur, rfl, _, hgg, _⟩
  · simp [Value.ownBlock] at e2
  · simp only [Value.ownBlock, Option.some.injEq] at e2
    rw [← e2, h] at hgg
    exact hT (Obj.cells.inj (Option.some.inj hgg)).2.1
/-- Those from i on up to kk have one counter, and these runes. -/
theorem seg_snoc {ps : List PcV} {i kk : Nat} (h : i ≤ kk) (hk : kk < ps.length) : (ps.take (kk + 1)).drop i = (ps.take kk).drop i ++ [ps[kk]] := by
  rw [List.take_succ_eq_append_getElem hk, List.drop_append_of_le_length (by rw [List.length_take]; omega)]
theorem run_app (a b : List Int) (h : Int) : run (a ++ b) h = run a h ++ run b h := by simp [run]
theorem take_seg {ps : List PcV} {i kk : Nat} (h : i ≤ kk) : cellsP (ps.take kk) = cellsP (ps.take i) ++ cellsP ((ps.take kk).drop i) := by
  rw [← cellsP_app]
  congr 1
  conv => lhs; rw [← List.take_append_drop i (ps.take kk)]
  rw [List.take_take, show min i kk = i by omega]
theorem seg_first {ps : List PcV} {i kk : Nat} (h : i < kk) (hi : i < ps.length) : (ps.take kk).drop i = ps[i] :: (ps.take kk).drop (i + 1) := by
  rw [List.drop_eq_getElem_cons (by rw [List.length_take]; omega), List.getElem_take]
theorem cellsP_take_le (ps : List PcV) (k : Nat) : (cellsP (ps.take k)).length ≤ (cellsP ps).length := by
  conv => rhs; rw [← List.take_append_drop k ps]
  rw [cellsP_app, List.length_append]; omega

set_option maxRecDepth 100000 in
set_option maxHeartbeats 8000000 in
theorem evened_any (v0 : Value) (ps : List PcV) (w : World) (hp : PV w v0 ps) (hl : (cellsP ps).length ≤ 2097152) :
    Calls Tryz.prog 121 #[v0] w fun e w' => (∃ v qs, e = .returned v ∧ w'.ownsRow w.heap.size 114 2 v qs.length (pcCells qs) ∧ (∀ q ∈ qs, q.Ok w') ∧ cellsP qs = cellsP ps) ∧ Below w.heap.size w w' := by
  have HP := Lib.hid hp
  have HL := Lib.hid hl
  have hpl := cellsP_len (ps := ps) (fun p hp' => (hp.ok p hp').ne)
  obtain ⟨A0, c0, hv0, hc0, hA0, hcells⟩ := hp.form
  subst hv0
  obtain ⟨n, hn⟩ : ∃ n, ps.length = n := ⟨_, rfl⟩
  have HCE := Lib.hid hcells
  rw [hn] at hpl hc0 ⊢
  have HN := Lib.hid hn
  have hnb : n ≤ 2097152 := by omega
  clear hp hl hpl hn hcells hA0
  go_enter Tryz.func121, Tryz.ntmps121
  go_wp2_with fail
  go_loopw [3, 4] (fun v x wr => ∃ (i : Nat) (qs : List PcV), i ≤ n ∧ x = .int .i64 i ∧ wr.ownsRow w.heap.size 114 2 v qs.length (pcCells qs) ∧ (∀ q ∈ qs, q.Ok wr) ∧ cellsP qs = cellsP (ps.take i) ∧ Below w.heap.size w wr) (fun _ x _ => n - (intOf x).toNat)
  case atStart => exact ⟨0, [], Nat.zero_le _, rfl, ⟨rfl, .inl ⟨rfl, rfl⟩⟩, by simp, by simp [cellsP], Below.refl _ _⟩
  case round =>
    obtain ⟨i, qs, hi, rfl, hown, hok, hcs, hb⟩ := hrel
    have HOW := Lib.hid hown
    have HOK := Lib.hid hok
    have HCS := Lib.hid hcs
    have HB := Lib.hid hb
    clear hown hok hcs hb
    obtain ⟨wo, rfl⟩ : ∃ wo : World, wo = wr := ⟨_, rfl⟩
    by_cases hlt : i < n
    · have hip : i < ps.length := by have := HN.out; omega
      obtain ⟨g, off, rfl, hce⟩ := HCE.out (by omega)
      have HCI := Lib.hid (hce i hip)
      have HCA := Lib.hid (fun j (hj : j < ps.length) => hce j hj)
      obtain ⟨hh, hhh⟩ : ∃ hh, ps[i].h = hh := ⟨_, rfl⟩
      rw [hhh] at HCI
      have HHH := Lib.hid hhh
      have HLT := Lib.hid hlt
      clear hce hhh
      go_wp2_with fail
      go_loopw [5, 6] (fun v x wr => ∃ (kk : Nat) (rr : List Int), i ≤ kk ∧ kk ≤ n ∧ x = .int .i64 kk ∧ wr.ownsRow wo.heap.size 21 1 v rr.length (i32s rr) ∧ run rr hh = cellsP ((ps.take kk).drop i) ∧ Below wo.heap.size wo wr) (fun _ x _ => n - (intOf x).toNat)
      case atStart => exact ⟨i, [], Nat.le_refl _, by omega, rfl, ⟨rfl, .inl ⟨rfl, rfl⟩⟩, by simp [run, cellsP], Below.refl _ _⟩
      case round =>
        obtain ⟨kk, rr, hik, hkn, rfl, hown2, hrun, hb2⟩ := hrel
        have HO2 := Lib.hid hown2
        have HRN := Lib.hid hrun
        have HB2 := Lib.hid hb2
        have HB02 := Lib.hid (HB.out.trans (hb2.mono HB.out.size))
        have d1 := cell_below HB02.out HCI.out.2
        have HIK := Lib.hid hik
        have hrl : rr.length ≤ 2097152 := by
          have h1 := congrArg List.length hrun
          rw [run_len] at h1
          have h2 := take_seg (ps := ps) hik
          have h3 := congrArg List.length h2
          rw [List.length_append] at h3
          have h4 := cellsP_take_le ps kk
          have := HL.out
          omega
        have HRL := Lib.hid hrl
        clear hown2 hrun hb2 hik hrl
        by_cases hgo : ∃ hkp : kk < ps.length, ps[kk].h = hh
        · obtain ⟨hkp, heq⟩ := hgo
          have hk2 : kk < n := by have := HN.out; omega
          obtain ⟨k0, k1⟩ := HCA.out kk hkp
          have e0 := cell_below HB02.out k0
          have e1 := cell_below HB02.out k1
          have hpo := (HP.out.ok ps[kk] (List.getElem_mem hkp)).below HB02.out
          have HSG := Lib.hid (seg_snoc (ps := ps) HIK.out hkp)
          have hpt := cellsP_take_le ps (kk + 1)
          rw [take_seg (ps := ps) (show i ≤ kk + 1 by have := HIK.out; omega), List.length_append, HSG.out, cellsP_app, List.length_append, ← HRN.out, run_len] at hpt
          obtain ⟨p, hp⟩ : ∃ p, ps[kk] = p := ⟨_, rfl⟩
          rw [hp] at e0 e1 hpo heq HSG hpt
          have hpr : rr.length + p.rs.length ≤ 2097152 := by
            simp only [cellsP, List.flatMap_cons, List.flatMap_nil, List.append_nil, run_len] at hpt
            have := HL.out
            simp only [cellsP] at this
            omega
          have HPR := Lib.hid hpr
          have HPO := Lib.hid hpo
          have HEQ := Lib.hid heq
          have HK2 := Lib.hid hk2
          have b1 : (p.h == hh) = true := by simp [heq]
          have hplen := List.length_pos_iff.2 hpo.ne
          have HPL := Lib.hid hplen
          clear k0 k1 hpo hp heq hpr hpt hplen hkp
          go_wp2_with fail
          go_quiet (fail)
          go_wp2_with (at_builtin; refine wpList_appR rfl (.tmp 29) (.tmp 34) rfl wo.heap.size _ rr p.rs rfl (own_below HO2.out (below_drewN (Below.refl _ _) _)) _ _ _ rfl rfl HPL.out (HPO.out.runes.cells.below (below_drewN (Below.refl _ _) _)) (by have := HPR.out; omega) HB2.out.size ?_; intro v' w7 hown' hgrow; have HO7 := Lib.hid hown'; have HG7 := Lib.hid hgrow; clear hown' hgrow)
          go_roundw
          case rel =>
            refine ⟨kk + 1, rr ++ p.rs, by have := HIK.out; omega, HK2.out, by go_num, HO7.out, ?_, (below_drewN HB2.out _).grown HG7.out HB2.out.size (fun k hk => (HO2.out.lt k hk).1)⟩
            rw [HSG.out, cellsP_app, run_app, HRN.out]
            simp [cellsP, HEQ.out]
          case measure => have := HK2.out; simp [intOf]; omega
        · have hik : i < kk := by
            rcases Nat.lt_or_ge i kk with h | h
            · exact h
            · have hie : kk = i := by have := HIK.out; omega
              subst hie
              exact absurd ⟨hip, HHH.out⟩ hgo
          have HIK2 := Lib.hid hik
          have HGO := Lib.hid hgo
          clear hgo hik
          go_upto_region 6 with fail
          go_cut [28] from 12 to 37 (fun b wx => b = .bool false ∧ ∃ N, wx = wr.drewN N)
          case first =>
            by_cases hk2 : kk < n
            · have hkp : kk < ps.length := by have := HN.out; omega
              obtain ⟨k0, k1⟩ := HCA.out kk hkp
              have e1 := cell_below HB02.out k1
              have hne : ¬ ps[kk].h = hh := fun h => HGO.out ⟨hkp, h⟩
              obtain ⟨p, hp⟩ : ∃ p, ps[kk] = p := ⟨_, rfl⟩
              rw [hp] at e1 hne
              have b1 : (p.h == hh) = false := by simp [hne]
              clear k0 k1 hne hp hkp
              go_quiet (fail)
              go_wp2_with fail
              go_meet
              exact ⟨rfl, _, rfl⟩
            · have b1 : decide (kk < n) = false := decide_eq_false hk2
              go_quiet (fail)
              go_wp2_with fail
              go_meet
              exact ⟨rfl, _, rfl⟩
          case rest =>
            obtain ⟨rfl, N, rfl⟩ := hcut
            have d2 : (wr.drewN N).cell? ⟨g, off + i * 2 + 1, none⟩ = some (.int .i64 hh) := d1
            clear d1
            obtain ⟨A5, c5, rfl, hc5, hcells5⟩ := own_runes HO2.out
            have hsegl : rr ≠ [] := by
              intro e
              have h1 := HRN.out
              rw [e] at h1
              have h2 := congrArg List.length h1
              rw [seg_first HIK2.out hip] at h2
              simp only [cellsP, List.flatMap_cons, List.length_append, run_len, List.length_nil] at h2
              have := List.length_pos_iff.2 (HP.out.ok _ (List.getElem_mem hip)).ne
              omega
            have h0h : 0 ≤ hh ∧ hh ≤ M := by rw [← HHH.out]; exact (HP.out.ok _ (List.getElem_mem hip)).h0
            have HRNE := Lib.hid hsegl
            have hblk : ∀ ad, A5 = some ad → ∃ cs fz, wr.heap[ad.block]? = some (.cells cs 21 fz) := fun ad e => by
              rcases HO2.out.2 with ⟨hv, h0⟩ | ⟨g', cap, cur, hv, _, hg', _⟩
              · exact absurd (List.length_eq_zero_iff.1 h0) hsegl
              · have := (Value.slice.inj hv).1
                rw [e] at this
                rw [Option.some.inj this]
                exact ⟨_, _, hg'⟩
            have HC := Lib.hid (cutUp_any A5 c5 rr hh (wr.drewN N) HRL.out hc5 ((show Rn wr A5 rr from ⟨hcells5, hblk⟩).below (below_drewN (Below.refl _ _) _)) h0h)
            obtain ⟨nr, hnr⟩ : ∃ nr, rr.length = nr := ⟨_, rfl⟩
            rw [hnr] at HC ⊢
            have HNR := Lib.hid hnr
            clear hc5 hcells5 hsegl h0h hblk hnr
            go_wp2_with fail
            refine HC.out.mono ?_
            rintro e w5 ⟨⟨v5, qs5, rfl, hown5, hok5, hcs5, hln5⟩, hb5⟩
            have HO5 := Lib.hid hown5
            have HOK5 := Lib.hid hok5
            have HCS5 := Lib.hid hcs5
            have HB5 := Lib.hid hb5
            have hq5 : 0 < qs5.length := by
              rcases Nat.eq_zero_or_pos qs5.length with h | h
              · rw [List.length_eq_zero_iff.1 h] at hcs5
                have := congrArg List.length hcs5
                rw [run_len] at this
                simp only [cellsP, List.flatMap_nil, List.length_nil] at this
                exact absurd (List.length_eq_zero_iff.1 this.symm) HRNE.out
              · exact h
            have HQ5 := Lib.hid hq5
            have HL5 := Lib.hid hln5
            have hqsl : qs.length ≤ 2097152 := by
              have h1 := cellsP_len (ps := qs) (fun q hq => (HOK.out q hq).ne)
              rw [HCS.out] at h1
              have h2 := cellsP_take_le ps i
              have := HL.out
              omega
            have HQSL := Lib.hid hqsl
            have HB15 := Lib.hid (HB2.out.trans ((below_drewN (Below.refl wr.heap.size wr) N).trans (show Below wr.heap.size (wr.drewN N) w5 from hb5) |>.mono HB2.out.size))
            clear hown5 hok5 hcs5 hb5 hq5 hln5 hqsl d2
            go_wp2_with (at_builtin; refine wpList_appP rfl (.tmp 38) (.tmp 45) rfl w.heap.size _ _ _ qs qs5 rfl (own_below HOW.out HB15.out) rfl HO5.out (by have := HQSL.out; have := HL5.out; have := HRL.out; have := HNR.out; omega) (by have := HB.out.size; have := HB15.out.size; omega) ?_; intro v' w7 hown' hgrow; have HO7 := Lib.hid hown'; have HG7 := Lib.hid hgrow; clear hown' hgrow)
            go_roundw
            case rel =>
              refine ⟨kk, qs ++ qs5, by have := HB2.out; omega, rfl, HO7.out, fun q hq => ?_, ?_, (HB.out.trans (HB15.out.mono HB.out.size)).grown HG7.out (by have := HB.out.size; have := HB15.out.size; omega) (fun k hk => (HOW.out.lt k hk).1)⟩
              · have hown5 := own_below HOW.out HB15.out
                rcases List.mem_append.1 hq with h | h
                · have o1 := (HOK.out q h).below HB15.out
                  exact o1.kept (grown_keeps o1 hown5 HG7.out)
                · exact (HOK5.out q h).kept (grown_keeps (HOK5.out q h) hown5 HG7.out)
              · rw [cellsP_app, HCS.out, HCS5.out, HRN.out, ← take_seg (Nat.le_of_lt HIK2.out)]
            case measure => have := HIK2.out; simp [intOf]; omega
    · go_wp2_with fail
      go_ret
      exact ⟨⟨_, qs, rfl, HOW.out, fun q hq => (HOK.out q hq), by rw [HCS.out, List.take_of_length_le (by have := HN.out; omega)]⟩, HB.out⟩
end Go.Proofs.YtkdhomiieenfnaaGreatDoor.Rp
