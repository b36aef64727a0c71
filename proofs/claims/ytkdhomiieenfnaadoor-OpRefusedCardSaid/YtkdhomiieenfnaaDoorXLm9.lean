/- Neighbours of one counter laid together and cut up anew: evened. Two trees with neighbours laid together anew: mend. A text's runes; a counter's bounds: runesOf, counter. A rope: Total, Shown. A text put into a rope: Insert. A text put into a rope: what Insert refuses. -/
import Derived.Test.YtkdhomiieenfnaaDoorXLm8
import Derived.Laws.AppendOwnNone
import Derived.Test.YtkdhomiieenfnaaDoorXLm3
import Derived.Test.YtkdhomiieenfnaaDoorXLm4
namespace Go.Proofs.YtkdhomiieenfnaaDoor.Rp
open Go.RowKit Go.Proofs Go.Proofs.YtkdhomiieenfnaaDoor.U Go.Proofs.YtkdhomiieenfnaaDoor.Txt
set_option linter.unusedVariables false
set_option linter.unusedSimpArgs false

theorem infoRn : (Tryd.prog.info? 21).map (fun i => (i.zero, i.size, i.bytes)) = some (some (.int .i32 0), 1, 4) := by kernel_rfl
/-- An append of one list of runes to another in own memory. -/
theorem wpList_appR {w : World} {ops : Array Oper} {rest : List Oper} {o : Oper} {a : Act} {Q : Exit → Act → World → Prop} (hgd : o.guard = none) (s x : Operand)
    (ho : o.op = .call { callee := .builtin .append, args := #[s, x], argTypes := #[34, 34] }) (base : Nat) (v : Value) (xs ys : List Int) (hs : a.eval s = v) (hown : w.ownsRow base 21 1 v xs.length (i32s xs))
    (A : Option Addr) (m c : Nat) (hx : a.eval x = .slice A m c) (hm : ys.length = m) (hne : 0 < m) (hc : Cells32 w A ys) (hl : xs.length + m ≤ 16777216) (hbase : base ≤ w.heap.size)
    (h : ∀ v' w', w'.ownsRow base 21 1 v' (xs ++ ys).length (i32s (xs ++ ys)) → w.grownBy w' v.ownBlock → wpList Tryd.prog ops Q rest (a.put o.dst v') w') : wpList Tryd.prog ops Q (o :: rest) a w := by
  obtain ⟨i0, hi, hz0, hz1, hz2⟩ := info_parts infoRn
  obtain ⟨ad, rfl, hcs⟩ := hc (by omega)
  have hlen : (i32s ys).length = ys.length := by simp [i32s]
  refine wpList_append_own _ hgd s x 34 ho base 21 i0 (.int .i32 0) 1 4 Tryd.underlying34 hi hz0 hz1 hz2 rfl (by decide) v xs.length (i32s xs) hs hown ad m c (i32s ys) hx (by rw [hlen, hm, Nat.mul_one]) ?_ ?_ (by unfold maxLen; omega) (by omega) hbase (fun v' w' h1 h2 _ => h v' w' (by rw [List.length_append, hm]; simpa [i32s] using h1) h2)
  · intro j u hu
    have hj := (List.getElem?_eq_some_iff.1 hu).1
    rw [hlen] at hj
    rw [hcs j hj, ← hu]
    simp [i32s, List.getD, List.getElem?_eq_getElem hj]
  · intro u hu
    simp only [i32s, List.mem_map] at hu
    obtain ⟨y, _, rfl⟩ := hu
    rfl
/-- An append of one own list of pieces to another. -/
theorem wpList_appP {w : World} {ops : Array Oper} {rest : List Oper} {o : Oper} {a : Act} {Q : Exit → Act → World → Prop} (hgd : o.guard = none) (s x : Operand)
    (ho : o.op = .call { callee := .builtin .append, args := #[s, x], argTypes := #[87, 87] }) (base base2 : Nat) (v u : Value) (xs ys : List PcV) (hs : a.eval s = v) (hown : w.ownsRow base 103 2 v xs.length (pcCells xs))
    (hx : a.eval x = u) (hown2 : w.ownsRow base2 103 2 u ys.length (pcCells ys)) (hl : xs.length + ys.length ≤ 16777216) (hbase : base ≤ w.heap.size)
    (h : ∀ v' w', w'.ownsRow base 103 2 v' (xs ++ ys).length (pcCells (xs ++ ys)) → w.grownBy w' v.ownBlock → wpList Tryd.prog ops Q rest (a.put o.dst v') w') : wpList Tryd.prog ops Q (o :: rest) a w := by
  obtain ⟨i0, hi, hz0, hz1, hz2⟩ := info_parts infoPc
  rcases hown2.2 with ⟨hv, h0⟩ | ⟨g, cap, cur, hv, hbg, hg, hcap, hrest⟩
  · subst hv
    obtain rfl : ys = [] := List.length_eq_zero_iff.1 h0
    refine wpList_append_own_none hgd s x 87 ho base 103 i0 2 Tryd.underlying87 hi v xs.length (pcCells xs) hs hown hx (h v w (by rw [List.append_nil]; exact hown) ⟨rfl, rfl, rfl, Nat.le_refl _, fun k hk _ => rfl⟩)
  · have hlen : (pcCells ys).length = ys.length * 2 := by rw [pcCells_len]; omega
    subst hv
    refine wpList_append_own _ hgd s x 87 ho base 103 i0 (.agg #[.slice none 0 0, .int .i64 0]) 2 32 Tryd.underlying87 hi hz0 hz1 hz2 rfl (by decide) v xs.length (pcCells xs) hs hown ⟨g, 0, none⟩ ys.length cap (pcCells ys) hx hlen ?_ ?_ (by unfold maxLen; omega) (by omega) hbase (fun v' w' h1 h2 _ => h v' w' (by rw [List.length_append, pcCells_app]; exact h1) h2)
    · intro j y hy
      exact hown2.cells (g := g) rfl j y hy
    · intro y hy
      simp only [pcCells, List.mem_flatMap] at hy
      obtain ⟨p, _, hp⟩ := hy
      simp at hp
      rcases hp with rfl | rfl <;> rfl
theorem Rn.kept {w w' : World} {A : Option Addr} {rs : List Int} (h : Rn w A rs) (hk : ∀ ad, A = some ad → w'.heap[ad.block]? = w.heap[ad.block]?) : Rn w' A rs := ⟨fun h0 => by
  obtain ⟨ad, e, hc⟩ := h.cells h0
  refine ⟨ad, e, fun j hj => ?_⟩
  have h1 := hc j hj
  unfold World.cell? at h1 ⊢
  rw [addr_block] at h1 ⊢
  rw [hk ad e]
  exact h1, fun ad e => by rw [hk ad e]; exact h.blk ad e⟩
theorem PcV.Ok.kept {w w' : World} {p : PcV} (h : p.Ok w) (hk : ∀ ad, p.A = some ad → w'.heap[ad.block]? = w.heap[ad.block]?) : p.Ok w' := ⟨h.room, h.runes.kept hk, h.ne, h.h0⟩
/-- A list of pieces that grows keeps the pieces' runes. -/
theorem grown_keeps {w w' : World} {B : Nat} {v : Value} {n : Nat} {xs : List Value} {p : PcV} (hb : p.Ok w) (hown : w.ownsRow B 103 2 v n xs) (hg : w.grownBy w' v.ownBlock) : ∀ ad, p.A = some ad → w'.heap[ad.block]? = w.heap[ad.block]? := fun ad e => by
  obtain ⟨cs, fz, h1⟩ := hb.runes.blk ad e
  refine hg.block _ (Array.getElem?_eq_some_iff.1 h1).1 (fun e2 => ?_)
  rcases hown.2 with ⟨rfl, _⟩ | ⟨g, cap, cur, rfl, _, hgg, _⟩
  · simp [Value.ownBlock] at e2
  · simp only [Value.ownBlock, Option.some.injEq] at e2
    rw [← e2, h1] at hgg
    have := (Obj.cells.inj (Option.some.inj hgg)).2.1
    exact absurd this (by decide)
/-- A tree stays where no block of nodes or runes turns. -/
theorem Tr.kept {w w' : World} (hk : ∀ (k : Nat) (cs : Array Value) (T : TypeId) (fz : Nat × Nat), w.heap[k]? = some (Obj.cells cs T fz) → T ≠ 103 → w'.heap[k]? = w.heap[k]?) : ∀ {t : T} {v : Value}, Tr w v t → Tr w' v t
  | .nil, v, h => h
  | .node l rs k r p, v, ⟨b, A, c, vl, vr, h, c0, c1, c2, c3, c4, c5, c6, c7, c8, c9, c10, hc, hr, hl, hrr, cs, fz, hnd⟩ => by
    have hb := hk b cs _ fz hnd (by decide)
    have f : ∀ j, w'.cell? ⟨b, j, none⟩ = w.cell? ⟨b, j, none⟩ := fun j => by unfold World.cell?; rw [hb]
    exact ⟨b, A, c, vl, vr, h, (f 0).trans c0, (f 1).trans c1, (f 2).trans c2, (f 3).trans c3, (f 4).trans c4, (f 5).trans c5, (f 6).trans c6, (f 7).trans c7, (f 8).trans c8, (f 9).trans c9, (f 10).trans c10, hc, hr.kept (fun ad e => by
      obtain ⟨cs', fz', h1⟩ := hr.blk ad e
      exact hk _ cs' _ fz' h1 (by decide)), Tr.kept hk hl, Tr.kept hk hrr, cs, fz, hb.trans hnd⟩
theorem TrW.kept {w w' : World} (hk : ∀ (k : Nat) (cs : Array Value) (T : TypeId) (fz : Nat × Nat), w.heap[k]? = some (Obj.cells cs T fz) → T ≠ 103 → w'.heap[k]? = w.heap[k]?) {t : T} {v : Value} (h : TrW w v t) : TrW w' v t := ⟨Tr.kept hk h.tr, h.wf, h.len⟩
/-- A list of pieces that grows turns no block of another kind. -/
theorem grown_kind {w w' : World} {B : Nat} {v : Value} {n : Nat} {xs : List Value} (hown : w.ownsRow B 103 2 v n xs) (hg : w.grownBy w' v.ownBlock) : ∀ (k : Nat) (cs : Array Value) (T : TypeId) (fz : Nat × Nat), w.heap[k]? = some (Obj.cells cs T fz) → T ≠ 103 → w'.heap[k]? = w.heap[k]? := fun k cs T fz h hT => by
  refine hg.block _ (Array.getElem?_eq_some_iff.1 h).1 (fun e2 => ?_)
  rcases hown.2 with ⟨rfl, _⟩ | ⟨g, cap, cur, rfl, _, hgg, _⟩
  · simp [Value.ownBlock] at e2
  · simp only [Value.ownBlock, Option.some.injEq] at e2
    rw [← e2, h] at hgg
    exact hT (Obj.cells.inj (Option.some.inj hgg)).2.1
/-- Those from i on up to kk have one counter, and these runes. -/
theorem seg_snoc {ps : List PcV} {i kk : Nat} (h : i ≤ kk) (hk : kk < ps.length) : (ps.take (kk + 1)).drop i = (ps.take kk).drop i ++ [ps[kk]] := by
  rw [List.take_succ_eq_append_getElem hk, List.drop_append_of_le_length (by rw [List.length_take]; omega)]
theorem run_app (a b : List Int) (h : Int) : run (a ++ b) h = run a h ++ run b h := by simp [run]
theorem take_seg {ps : List PcV} {i kk : Nat} (h : i ≤ kk) : cellsP (ps.take kk) = cellsP (ps.take i) ++ cellsP ((ps.take kk).drop i) := by
  rw [← cellsP_app]
  congr 1
  conv => lhs; rw [← List.take_append_drop i (ps.take kk)]
  rw [List.take_take, show min i kk = i by omega]
theorem seg_first {ps : List PcV} {i kk : Nat} (h : i < kk) (hi : i < ps.length) : (ps.take kk).drop i = ps[i] :: (ps.take kk).drop (i + 1) := by
  rw [List.drop_eq_getElem_cons (by rw [List.length_take]; omega), List.getElem_take]
theorem cellsP_take_le (ps : List PcV) (k : Nat) : (cellsP (ps.take k)).length ≤ (cellsP ps).length := by
  conv => rhs; rw [← List.take_append_drop k ps]
  rw [cellsP_app, List.length_append]; omega

set_option maxRecDepth 100000 in
set_option maxHeartbeats 8000000 in
theorem evened_any (v0 : Value) (ps : List PcV) (w : World) (hp : PV w v0 ps) (hl : (cellsP ps).length ≤ 2097152) :
    Calls Tryd.prog 93 #[v0] w fun e w' => (∃ v qs, e = .returned v ∧ w'.ownsRow w.heap.size 103 2 v qs.length (pcCells qs) ∧ (∀ q ∈ qs, q.Ok w') ∧ cellsP qs = cellsP ps) ∧ Below w.heap.size w w' := by
  have HP := Lib.hid hp
  have HL := Lib.hid hl
  have hpl := cellsP_len (ps := ps) (fun p hp' => (hp.ok p hp').ne)
  obtain ⟨A0, c0, hv0, hc0, hA0, hcells⟩ := hp.form
  subst hv0
  obtain ⟨n, hn⟩ : ∃ n, ps.length = n := ⟨_, rfl⟩
  have HCE := Lib.hid hcells
  rw [hn] at hpl hc0 ⊢
  have HN := Lib.hid hn
  have hnb : n ≤ 2097152 := by omega
  clear hp hl hpl hn hcells hA0
  go_enter Tryd.func93, Tryd.ntmps93
  go_wp2_with fail
  go_loopw [3, 4] (fun v x wr => ∃ (i : Nat) (qs : List PcV), i ≤ n ∧ x = .int .i64 i ∧ wr.ownsRow w.heap.size 103 2 v qs.length (pcCells qs) ∧ (∀ q ∈ qs, q.Ok wr) ∧ cellsP qs = cellsP (ps.take i) ∧ Below w.heap.size w wr) (fun _ x _ => n - (intOf x).toNat)
  case atStart => exact ⟨0, [], Nat.zero_le _, rfl, ⟨rfl, .inl ⟨rfl, rfl⟩⟩, by simp, by simp [cellsP], Below.refl _ _⟩
  case round =>
    obtain ⟨i, qs, hi, rfl, hown, hok, hcs, hb⟩ := hrel
    have HOW := Lib.hid hown
    have HOK := Lib.hid hok
    have HCS := Lib.hid hcs
    have HB := Lib.hid hb
    clear hown hok hcs hb
    obtain ⟨wo, rfl⟩ : ∃ wo : World, wo = wr := ⟨_, rfl⟩
    by_cases hlt : i < n
    · have hip : i < ps.length := by have := HN.out; omega
      obtain ⟨g, off, rfl, hce⟩ := HCE.out (by omega)
      have HCI := Lib.hid (hce i hip)
      have HCA := Lib.hid (fun j (hj : j < ps.length) => hce j hj)
      obtain ⟨hh, hhh⟩ : ∃ hh, ps[i].h = hh := ⟨_, rfl⟩
      rw [hhh] at HCI
      have HHH := Lib.hid hhh
      have HLT := Lib.hid hlt
      clear hce hhh
      go_wp2_with fail
      go_loopw [5, 6] (fun v x wr => ∃ (kk : Nat) (rr : List Int), i ≤ kk ∧ kk ≤ n ∧ x = .int .i64 kk ∧ wr.ownsRow wo.heap.size 21 1 v rr.length (i32s rr) ∧ run rr hh = cellsP ((ps.take kk).drop i) ∧ Below wo.heap.size wo wr) (fun _ x _ => n - (intOf x).toNat)
      case atStart => exact ⟨i, [], Nat.le_refl _, by omega, rfl, ⟨rfl, .inl ⟨rfl, rfl⟩⟩, by simp [run, cellsP], Below.refl _ _⟩
      case round =>
        obtain ⟨kk, rr, hik, hkn, rfl, hown2, hrun, hb2⟩ := hrel
        have HO2 := Lib.hid hown2
        have HRN := Lib.hid hrun
        have HB2 := Lib.hid hb2
        have HB02 := Lib.hid (HB.out.trans (hb2.mono HB.out.size))
        have d1 := cell_below HB02.out HCI.out.2
        have HIK := Lib.hid hik
        have hrl : rr.length ≤ 2097152 := by
          have h1 := congrArg List.length hrun
          rw [run_len] at h1
          have h2 := take_seg (ps := ps) hik
          have h3 := congrArg List.length h2
          rw [List.length_append] at h3
          have h4 := cellsP_take_le ps kk
          have := HL.out
          omega
        have HRL := Lib.hid hrl
        clear hown2 hrun hb2 hik hrl
        by_cases hgo : ∃ hkp : kk < ps.length, ps[kk].h = hh
        · obtain ⟨hkp, heq⟩ := hgo
          have hk2 : kk < n := by have := HN.out; omega
          obtain ⟨k0, k1⟩ := HCA.out kk hkp
          have e0 := cell_below HB02.out k0
          have e1 := cell_below HB02.out k1
          have hpo := (HP.out.ok ps[kk] (List.getElem_mem hkp)).below HB02.out
          have HSG := Lib.hid (seg_snoc (ps := ps) HIK.out hkp)
          have hpt := cellsP_take_le ps (kk + 1)
          rw [take_seg (ps := ps) (show i ≤ kk + 1 by have := HIK.out; omega), List.length_append, HSG.out, cellsP_app, List.length_append, ← HRN.out, run_len] at hpt
          obtain ⟨p, hp⟩ : ∃ p, ps[kk] = p := ⟨_, rfl⟩
          rw [hp] at e0 e1 hpo heq HSG hpt
          have hpr : rr.length + p.rs.length ≤ 2097152 := by
            simp only [cellsP, List.flatMap_cons, List.flatMap_nil, List.append_nil, run_len] at hpt
            have := HL.out
            simp only [cellsP] at this
            omega
          have HPR := Lib.hid hpr
          have HPO := Lib.hid hpo
          have HEQ := Lib.hid heq
          have HK2 := Lib.hid hk2
          have b1 : (p.h == hh) = true := by simp [heq]
          have hplen := List.length_pos_iff.2 hpo.ne
          have HPL := Lib.hid hplen
          clear k0 k1 hpo hp heq hpr hpt hplen hkp
          go_wp2_with fail
          go_quiet (fail)
          go_wp2_with (at_builtin; refine wpList_appR rfl (.tmp 29) (.tmp 34) rfl wo.heap.size _ rr p.rs rfl (own_below HO2.out (below_drewN (Below.refl _ _) _)) _ _ _ rfl rfl HPL.out (HPO.out.runes.cells.below (below_drewN (Below.refl _ _) _)) (by have := HPR.out; omega) HB2.out.size ?_; intro v' w7 hown' hgrow; have HO7 := Lib.hid hown'; have HG7 := Lib.hid hgrow; clear hown' hgrow)
          go_roundw
          case rel =>
            refine ⟨kk + 1, rr ++ p.rs, by have := HIK.out; omega, HK2.out, by go_num, HO7.out, ?_, (below_drewN HB2.out _).grown HG7.out HB2.out.size (fun k hk => (HO2.out.lt k hk).1)⟩
            rw [HSG.out, cellsP_app, run_app, HRN.out]
            simp [cellsP, HEQ.out]
          case measure => have := HK2.out; simp [intOf]; omega
        · have hik : i < kk := by
            rcases Nat.lt_or_ge i kk with h | h
            · exact h
            · have hie : kk = i := by have := HIK.out; omega
              subst hie
              exact absurd ⟨hip, HHH.out⟩ hgo
          have HIK2 := Lib.hid hik
          have HGO := Lib.hid hgo
          clear hgo hik
          go_upto_region 6 with fail
          go_cut [28] from 12 to 37 (fun b wx => b = .bool false ∧ ∃ N, wx = wr.drewN N)
          case first =>
            by_cases hk2 : kk < n
            · have hkp : kk < ps.length := by have := HN.out; omega
              obtain ⟨k0, k1⟩ := HCA.out kk hkp
              have e1 := cell_below HB02.out k1
              have hne : ¬ ps[kk].h = hh := fun h => HGO.out ⟨hkp, h⟩
              obtain ⟨p, hp⟩ : ∃ p, ps[kk] = p := ⟨_, rfl⟩
              rw [hp] at e1 hne
              have b1 : (p.h == hh) = false := by simp [hne]
              clear k0 k1 hne hp hkp
              go_quiet (fail)
              go_wp2_with fail
              go_meet
              exact ⟨rfl, _, rfl⟩
            · have b1 : decide (kk < n) = false := decide_eq_false hk2
              go_quiet (fail)
              go_wp2_with fail
              go_meet
              exact ⟨rfl, _, rfl⟩
          case rest =>
            obtain ⟨rfl, N, rfl⟩ := hcut
            have d2 : (wr.drewN N).cell? ⟨g, off + i * 2 + 1, none⟩ = some (.int .i64 hh) := d1
            clear d1
            obtain ⟨A5, c5, rfl, hc5, hcells5⟩ := own_runes HO2.out
            have hsegl : rr ≠ [] := by
              intro e
              have h1 := HRN.out
              rw [e] at h1
              have h2 := congrArg List.length h1
              rw [seg_first HIK2.out hip] at h2
              simp only [cellsP, List.flatMap_cons, List.length_append, run_len, List.length_nil] at h2
              have := List.length_pos_iff.2 (HP.out.ok _ (List.getElem_mem hip)).ne
              omega
            have h0h : 0 ≤ hh ∧ hh ≤ M := by rw [← HHH.out]; exact (HP.out.ok _ (List.getElem_mem hip)).h0
            have HRNE := Lib.hid hsegl
            have hblk : ∀ ad, A5 = some ad → ∃ cs fz, wr.heap[ad.block]? = some (.cells cs 21 fz) := fun ad e => by
              rcases HO2.out.2 with ⟨hv, h0⟩ | ⟨g', cap, cur, hv, _, hg', _⟩
              · exact absurd (List.length_eq_zero_iff.1 h0) hsegl
              · have := (Value.slice.inj hv).1
                rw [e] at this
                rw [Option.some.inj this]
                exact ⟨_, _, hg'⟩
            have HC := Lib.hid (cutUp_any A5 c5 rr hh (wr.drewN N) HRL.out hc5 ((show Rn wr A5 rr from ⟨hcells5, hblk⟩).below (below_drewN (Below.refl _ _) _)) h0h)
            obtain ⟨nr, hnr⟩ : ∃ nr, rr.length = nr := ⟨_, rfl⟩
            rw [hnr] at HC ⊢
            have HNR := Lib.hid hnr
            clear hc5 hcells5 hsegl h0h hblk hnr
            go_wp2_with fail
            refine HC.out.mono ?_
            rintro e w5 ⟨⟨v5, qs5, rfl, hown5, hok5, hcs5, hln5⟩, hb5⟩
            have HO5 := Lib.hid hown5
            have HOK5 := Lib.hid hok5
            have HCS5 := Lib.hid hcs5
            have HB5 := Lib.hid hb5
            have hq5 : 0 < qs5.length := by
              rcases Nat.eq_zero_or_pos qs5.length with h | h
              · rw [List.length_eq_zero_iff.1 h] at hcs5
                have := congrArg List.length hcs5
                rw [run_len] at this
                simp only [cellsP, List.flatMap_nil, List.length_nil] at this
                exact absurd (List.length_eq_zero_iff.1 this.symm) HRNE.out
              · exact h
            have HQ5 := Lib.hid hq5
            have HL5 := Lib.hid hln5
            have hqsl : qs.length ≤ 2097152 := by
              have h1 := cellsP_len (ps := qs) (fun q hq => (HOK.out q hq).ne)
              rw [HCS.out] at h1
              have h2 := cellsP_take_le ps i
              have := HL.out
              omega
            have HQSL := Lib.hid hqsl
            have HB15 := Lib.hid (HB2.out.trans ((below_drewN (Below.refl wr.heap.size wr) N).trans (show Below wr.heap.size (wr.drewN N) w5 from hb5) |>.mono HB2.out.size))
            clear hown5 hok5 hcs5 hb5 hq5 hln5 hqsl d2
            go_wp2_with (at_builtin; refine wpList_appP rfl (.tmp 38) (.tmp 45) rfl w.heap.size _ _ _ qs qs5 rfl (own_below HOW.out HB15.out) rfl HO5.out (by have := HQSL.out; have := HL5.out; have := HRL.out; have := HNR.out; omega) (by have := HB.out.size; have := HB15.out.size; omega) ?_; intro v' w7 hown' hgrow; have HO7 := Lib.hid hown'; have HG7 := Lib.hid hgrow; clear hown' hgrow)
            go_roundw
            case rel =>
              refine ⟨kk, qs ++ qs5, by have := HB2.out; omega, rfl, HO7.out, fun q hq => ?_, ?_, (HB.out.trans (HB15.out.mono HB.out.size)).grown HG7.out (by have := HB.out.size; have := HB15.out.size; omega) (fun k hk => (HOW.out.lt k hk).1)⟩
              · have hown5 := own_below HOW.out HB15.out
                rcases List.mem_append.1 hq with h | h
                · have o1 := (HOK.out q h).below HB15.out
                  exact o1.kept (grown_keeps o1 hown5 HG7.out)
                · exact (HOK5.out q h).kept (grown_keeps (HOK5.out q h) hown5 HG7.out)
              · rw [cellsP_app, HCS.out, HCS5.out, HRN.out, ← take_seg (Nat.le_of_lt HIK2.out)]
            case measure => have := HIK2.out; simp [intOf]; omega
    · go_wp2_with fail
      go_ret
      exact ⟨⟨_, qs, rfl, HOW.out, fun q hq => (HOK.out q hq), by rw [HCS.out, List.take_of_length_le (by have := HN.out; omega)]⟩, HB.out⟩
end Go.Proofs.YtkdhomiieenfnaaDoor.Rp

namespace Go.Proofs.YtkdhomiieenfnaaDoor.Rp
open Go.RowKit Go.Proofs Go.Proofs.YtkdhomiieenfnaaDoor.U Go.Proofs.YtkdhomiieenfnaaDoor.Txt
set_option linter.unusedVariables false
set_option linter.unusedSimpArgs false

theorem TrW.node_ptr {w : World} {v : Value} {t : T} (h : TrW w v t) (hn : t ≠ .nil) : ∃ a, v = .pointer (some a) := by
  have h := h.tr
  cases t with
  | nil => exact absurd rfl hn
  | node a b c d e => obtain ⟨b', _, _, _, _, h1, _⟩ := h; exact ⟨_, h1⟩
theorem own_one {W : World} (p : PcV) {n B : Nat} (hn : p.rs.length = n) (hB : W.heap.size = B) : (W.alloc (.cells #[.slice p.A n p.c, .int .i64 p.h] 103)).ownsRow B 103 2 (.slice (some ⟨B, 0, none⟩) 1 1) 1 (pcCells [p]) := by
  subst hn hB
  exact ⟨rfl, .inr ⟨_, 1, _, rfl, Nat.le_refl _, heap_at rfl, Nat.le_refl _, by decide, rfl, rfl⟩⟩
theorem own_base {w : World} {B B' e size n : Nat} {v : Value} {xs : List Value} (h : w.ownsRow B e size v n xs) (hb : B' ≤ B) : w.ownsRow B' e size v n xs := by
  refine ⟨h.1, ?_⟩
  rcases h.2 with hn | ⟨g, cap, cur, hv, hbg, rest⟩
  · exact .inl hn
  · exact .inr ⟨g, cap, cur, hv, Nat.le_trans hb hbg, rest⟩
theorem run_pos {rs : List Int} (h : rs ≠ []) (k : Int) : 0 < (run rs k).length := by
  rw [run_len]; exact List.length_pos_iff.2 h
section
attribute [local go_sem ↓] ldP_fold

set_option maxRecDepth 100000 in
set_option maxHeartbeats 8000000 in
theorem mend_any (vl vr : Value) (l r : T) (w : World) (hl : TrW w vl l) (hr : TrW w vr r) (hlen : (cells l).length + (cells r).length ≤ 2097152) :
    Calls Tryd.prog 70 #[vl, vr] w (RetC (cells l ++ cells r) w) := by
  have HL := Lib.hid hl
  have HR := Lib.hid hr
  have HN := Lib.hid hlen
  clear hl hr hlen
  go_enter Tryd.func70, Tryd.ntmps70
  go_wp2_with fail
  go_loopw [0, 5, 14] (fun vl' vs x wr => ∃ (i : Nat) (t : T) (ps : List PcV), i ≤ 2 ∧ x = .int .i64 i ∧ TrW wr vl' t ∧ wr.ownsRow w.heap.size 103 2 vs ps.length (pcCells ps) ∧ (∀ p ∈ ps, p.Ok wr) ∧ cells t ++ cellsP ps = cells l ∧ Below w.heap.size w wr) (fun _ _ x _ => 2 - (intOf x).toNat)
  case atStart => exact ⟨0, l, [], by omega, rfl, HL.out, ⟨rfl, .inl ⟨rfl, rfl⟩⟩, by simp, by simp [cellsP], Below.refl _ _⟩
  case round =>
    obtain ⟨i, t, ps, hi, rfl, ht, hown, hok, hcs, hb⟩ := hrel
    have HT := Lib.hid ht
    have HOW := Lib.hid hown
    have HOK := Lib.hid hok
    have HCS := Lib.hid hcs
    have HB := Lib.hid hb
    clear hown hok hcs hb
    by_cases hlt : i < 2
    · have HLT := Lib.hid hlt
      by_cases htn : t = .nil
      · subst htn
        obtain rfl : u0 = .pointer none := ht.tr
        clear ht
        go_wp2_with fail
        go_roundw
        case rel => exact ⟨i + 1, .nil, ps, HLT.out, by go_num, HT.out, HOW.out, HOK.out, HCS.out, HB.out⟩
        case measure => have := HLT.out; simp [intOf]; omega
      · obtain ⟨a', rfl⟩ := ht.node_ptr htn
        have HC := Lib.hid (popLast_any _ t wr htn ht)
        clear ht htn
        go_wp2_with fail
        refine HC.out.mono ?_
        rintro e w1 ⟨⟨v1, t1, vp, rs, hd, rfl, ht1, ⟨A, c, rfl, hc, hrn⟩, hne, h0, hcs1⟩, hb1⟩
        have hpl := List.length_pos_iff.2 hne
        obtain ⟨n, hn⟩ : ∃ n, rs.length = n := ⟨_, rfl⟩
        have HP1 := Lib.hid (show PcV.Ok w1 ⟨A, c, rs, hd⟩ from ⟨hc, hrn, hne, h0⟩)
        have HT1 := Lib.hid ht1
        have HCS1 := Lib.hid hcs1
        have HB1 := Lib.hid hb1
        have HNN := Lib.hid hn
        rw [hn]
        clear ht1 hc hrn hne h0 hcs1 hb1 hn hpl
        have s1 := ldP_run (w := w1.alloc (.cells #[.slice A n c, .int .i64 hd] 103)) (heap_at rfl)
        have hpl : 1 + ps.length ≤ 2097152 := by
          have h1 := cellsP_len (ps := ps) (fun q hq => (HOK.out q hq).ne)
          have h2 := congrArg List.length HCS.out
          have h3 := congrArg List.length HCS1.out
          have h4 := run_pos HP1.out.ne hd
          rw [List.length_append] at h2 h3
          have := HN.out
          simp only at h4
          omega
        have HPL := Lib.hid hpl
        clear hpl
        go_wp2_with (at_builtin; (refine wpList_appP rfl (.tmp 25) (.tmp 26) rfl (w1.heap.size + 1) w.heap.size _ _ [⟨A, c, rs, hd⟩] ps rfl (own_one (W := w1.alloc (.cells #[.slice A n c, .int .i64 hd] 103)) ⟨A, c, rs, hd⟩ HNN.out (by simp)) rfl (own_below (own_below HOW.out HB1.out) (below_drewN (((Below.refl _ _).alloc (Nat.le_refl _) _).alloc (by simp) _) 0)) (by have := HPL.out; simp; omega) (by simp) ?_; intro v' w7 hown' hgrow; have HO7 := Lib.hid hown'; have HG7 := Lib.hid hgrow; clear hown' hgrow))
        go_roundw
        case rel =>
          have hb7 : Below w1.heap.size w1 w7 := Below.grown (((Below.refl _ _).alloc (Nat.le_refl _) _).alloc (by simp) _) HG7.out (by simp; omega) (fun k hk => by have := Option.some.inj (show some (w1.heap.size + 1) = some k from hk); omega)
          refine ⟨i + 1, t1, ⟨A, c, rs, hd⟩ :: ps, HLT.out, by go_num, HT1.out.below hb7, own_base HO7.out (by have := HB.out.size; have := HB1.out.size; omega), fun q hq => ?_, ?_, (HB.out.trans (HB1.out.mono HB.out.size)).trans (hb7.mono (by have := HB.out.size; have := HB1.out.size; omega))⟩
          · rcases List.mem_cons.1 hq with h | h
            · subst h; exact HP1.out.below hb7
            · exact ((HOK.out q h).below HB1.out).below hb7
          · have h1 := HCS.out
            rw [← HCS1.out, List.append_assoc] at h1
            exact h1
        case measure => have := HLT.out; simp [intOf]; omega
    · clear hi
      obtain ⟨al, rfl⟩ := ht.tr.ptr
      clear ht
      have HR1 := Lib.hid (HR.out.below HB.out)
      go_wp2_with fail
      clear hlt
      go_loopw [1, 5, 29] (fun vr' vs x wx => ∃ (j : Nat) (u : T) (qs : List PcV), j ≤ 2 ∧ x = .int .i64 j ∧ TrW wx vr' u ∧ TrW wx (.pointer al) t ∧ wx.ownsRow w.heap.size 103 2 vs qs.length (pcCells qs) ∧ (∀ p ∈ qs, p.Ok wx) ∧ cellsP qs ++ cells u = cellsP ps ++ cells r ∧ Below w.heap.size w wx) (fun _ _ x _ => 2 - (intOf x).toNat)
      case atStart => exact ⟨0, r, ps, by omega, rfl, HR1.out, HT.out, HOW.out, HOK.out, rfl, HB.out⟩
      case round =>
        obtain ⟨j, u, qs, hj, rfl, hu, ht2, hown2, hok2, hcs2, hb2⟩ := hrel
        have HU := Lib.hid hu
        have HT2 := Lib.hid ht2
        have HO2 := Lib.hid hown2
        have HK2 := Lib.hid hok2
        have HC2 := Lib.hid hcs2
        have HB2 := Lib.hid hb2
        clear ht2 hown2 hok2 hcs2 hb2
        by_cases hlt : j < 2
        · have HLT := Lib.hid hlt
          by_cases hun : u = .nil
          · subst hun
            obtain rfl : u1 = .pointer none := hu.tr
            clear hu
            go_wp2_with fail
            go_roundw
            case rel => exact ⟨j + 1, .nil, qs, HLT.out, by go_num, HU.out, HT2.out, HO2.out, HK2.out, HC2.out, HB2.out⟩
            case measure => have := HLT.out; simp [intOf]; omega
          · obtain ⟨a', rfl⟩ := hu.node_ptr hun
            have HC := Lib.hid (popFirst_any _ u wr hun hu)
            clear hu hun
            go_wp2_with fail
            refine HC.out.mono ?_
            rintro e w1 ⟨⟨v1, t1, vp, rs, hd, rfl, ht1, ⟨A, c, rfl, hc, hrn⟩, hne, h0, hcs1⟩, hb1⟩
            obtain ⟨n, hn⟩ : ∃ n, rs.length = n := ⟨_, rfl⟩
            have HP1 := Lib.hid (show PcV.Ok w1 ⟨A, c, rs, hd⟩ from ⟨hc, hrn, hne, h0⟩)
            have HT1 := Lib.hid ht1
            have HCS1 := Lib.hid hcs1
            have HB1 := Lib.hid hb1
            have HNN := Lib.hid hn
            rw [hn]
            clear ht1 hc hrn hne h0 hcs1 hb1 hn
            have s1 := ldP_run (w := w1.alloc (.cells #[.slice A n c, .int .i64 hd] 103)) (heap_at rfl)
            have hpl : qs.length + 1 ≤ 2097152 := by
              have h1 := cellsP_len (ps := qs) (fun q hq => (HK2.out q hq).ne)
              have h2 := congrArg List.length HC2.out
              have h3 := congrArg List.length HCS1.out
              have h4 := run_pos HP1.out.ne hd
              have h5 := congrArg List.length HCS.out
              rw [List.length_append, List.length_append] at h2
              rw [List.length_append] at h3 h5
              have := HN.out
              simp only at h4
              omega
            have HPL := Lib.hid hpl
            clear hpl
            have HB21 := Lib.hid (HB2.out.trans (HB1.out.mono HB2.out.size))
            have HS1 := Lib.hid (Nat.le_trans HB2.out.size HB1.out.size)
            have HO8 := Lib.hid (show ((w1.alloc (.cells #[.slice A n c, .int .i64 hd] 103)).alloc (.cells #[.slice A n c, .int .i64 hd] 103)).ownsRow w.heap.size 103 2 u5 qs.length (pcCells qs) from own_below (own_below HO2.out HB1.out) (((Below.refl _ _).alloc (Nat.le_refl _) _).alloc (by simp) _))
            go_wp2_with (at_builtin; (refine wpList_appP rfl (.tmp 39) (.tmp 41) rfl w.heap.size (w1.heap.size + 1) _ _ qs [⟨A, c, rs, hd⟩] rfl HO8.out rfl (own_one (W := w1.alloc (.cells #[.slice A n c, .int .i64 hd] 103)) ⟨A, c, rs, hd⟩ HNN.out (by simp)) (by have := HPL.out; simp; omega) (by have := HS1.out; simp; omega) ?_; intro v' w7 hown' hgrow; have HO7 := Lib.hid hown'; have HG7 := Lib.hid hgrow; clear hown' hgrow))
            go_roundw
            case rel =>
              obtain ⟨w8, hw8⟩ : ∃ w8, (w1.alloc (.cells #[.slice A n c, .int .i64 hd] 103)).alloc (.cells #[.slice A n c, .int .i64 hd] 103) = w8 := ⟨_, rfl⟩
              have HB8 := Lib.hid (show Below w1.heap.size w1 w8 from hw8 ▸ (((Below.refl _ _).alloc (Nat.le_refl _) _).alloc (by simp) _))
              rw [hw8] at HO8 HG7
              clear hw8
              have hkk := grown_kind HO8.out HG7.out
              have hP := HP1.out.below HB8.out
              refine ⟨j + 1, t1, qs ++ [⟨A, c, rs, hd⟩], HLT.out, by go_num, (HT1.out.below HB8.out).kept hkk, ((HT2.out.below HB1.out).below HB8.out).kept hkk, HO7.out, fun q hq => ?_, ?_, (HB21.out.trans (HB8.out.mono HS1.out)).grown HG7.out (Nat.le_trans HS1.out HB8.out.size) (fun k hk => (HO2.out.lt k hk).1)⟩
              · rcases List.mem_append.1 hq with h | h
                · have o1 := ((HK2.out q h).below HB1.out).below HB8.out
                  exact o1.kept (grown_keeps o1 HO8.out HG7.out)
                · rw [List.mem_singleton.1 h]
                  exact hP.kept (grown_keeps hP HO8.out HG7.out)
              · rw [cellsP_app, ← HC2.out, ← HCS1.out]
                simp [cellsP]
            case measure => have := HLT.out; simp [intOf]; omega
        · clear hj
          obtain ⟨ar, rfl⟩ := hu.tr.ptr
          clear hu
          have HLN := Lib.hid (show (cells t).length + (cellsP qs).length + (cells u).length ≤ 2097152 by
            have h1 := congrArg List.length HCS.out
            have h2 := congrArg List.length HC2.out
            rw [List.length_append] at h1
            rw [List.length_append, List.length_append] at h2
            have := HN.out
            omega)
          have HC := Lib.hid (evened_any u5 qs wr (PV.of_own HO2.out HK2.out) (by have := HLN.out; omega))
          go_wp2_with fail
          refine HC.out.mono ?_
          rintro e w3 ⟨⟨v3, es, rfl, hown3, hok3, hcs3⟩, hb3⟩
          have HE := Lib.hid (PV.of_own hown3 hok3)
          have HCE := Lib.hid hcs3
          have HB3 := Lib.hid hb3
          have HT3 := Lib.hid (HT2.out.below hb3)
          have HU3 := Lib.hid (HU.out.below hb3)
          obtain ⟨A3, c3, rfl, hc3, hA3, hce3⟩ := HE.out.form
          obtain ⟨m, hm⟩ : ∃ m, es.length = m := ⟨_, rfl⟩
          have HX := Lib.hid hce3
          have hm2 : m ≤ 2097152 := by
            have h1 := cellsP_len (ps := es) (fun q hq => (HE.out.ok q hq).ne)
            have := HLN.out
            rw [hcs3] at h1
            omega
          rw [hm] at hc3 ⊢
          have HM := Lib.hid hm
          clear hown3 hok3 hcs3 hb3 hA3 hce3 hm
          go_wp2_with fail
          clear hlt
          go_loopw [0, 47] (fun vl' x wx => ∃ (k : Nat) (y : T), k ≤ m ∧ x = .int .i64 k ∧ TrW wx vl' y ∧ cells y = cells t ++ cellsP (es.take k) ∧ Below w3.heap.size w3 wx) (fun _ x _ => m - (intOf x).toNat)
          case atStart => exact ⟨0, t, by omega, rfl, HT3.out, by simp [cellsP], Below.refl _ _⟩
          case round =>
            obtain ⟨k, y, hk, rfl, hy, hcy, hb4⟩ := hrel
            obtain ⟨ay, rfl⟩ := hy.tr.ptr
            have HY := Lib.hid hy
            have HCY := Lib.hid hcy
            have HB4 := Lib.hid hb4
            clear hy hcy hb4
            by_cases hlt : k < m
            · have HLT := Lib.hid hlt
              have hkp : k < es.length := by have := HM.out; omega
              obtain ⟨g, off, rfl, hce⟩ := HX.out (by omega)
              have s1 := ldP_cells (cell_below HB4.out (hce k hkp).1) (cell_below HB4.out (hce k hkp).2)
              have hpo := (HE.out.ok es[k] (List.getElem_mem hkp)).below HB4.out
              have HTK := Lib.hid (show cellsP (es.take (k + 1)) = cellsP (es.take k) ++ run es[k].rs es[k].h by rw [List.take_succ_eq_append_getElem hkp, cellsP_app]; simp [cellsP])
              have hlk := cellsP_take_le es (k + 1)
              rw [HTK.out, List.length_append, run_len] at hlk
              obtain ⟨p, hp⟩ : ∃ p, es[k] = p := ⟨_, rfl⟩
              rw [hp] at s1 hpo HTK hlk
              have HPO := Lib.hid hpo
              have hjl : (cells y).length + p.rs.length + (cells T.nil).length ≤ 2097152 := by
                have h1 := congrArg List.length HCY.out
                rw [List.length_append] at h1
                have h2 := HLN.out
                rw [← HCE.out] at h2
                simp [cells]
                omega
              have HC := Lib.hid (join_any (.pointer ay) (.pointer none) (.agg #[.slice p.A p.rs.length p.c, .int .i64 p.h]) y .nil p.rs p.h (wr.alloc (.cells #[.slice p.A p.rs.length p.c, .int .i64 p.h] 103)) (HY.out.below (below_alloc1 _ _)) ⟨rfl, trivial, by simp [cells]⟩ ⟨_, _, rfl, hpo.room, hpo.runes.below (below_alloc1 _ _)⟩ hpo.ne hpo.h0 hjl)
              have s2 := ldP_run (w := wr.alloc (.cells #[.slice p.A p.rs.length p.c, .int .i64 p.h] 103)) (heap_at rfl)
              clear hce hpo hp hlk hjl hkp
              go_wp2_with fail
              refine HC.out.mono ?_
              rintro e w5 ⟨⟨v5, t5, rfl, ht5, hc5⟩, hb5⟩
              go_wp2_with fail
              go_roundw
              case rel =>
                have hb45 := HB4.out.trans (((below_alloc1 wr (.cells #[.slice p.A p.rs.length p.c, .int .i64 p.h] 103)).trans (hb5.mono (by simp))).mono HB4.out.size)
                refine ⟨k + 1, t5, HLT.out, by go_num, ht5, ?_, hb45⟩
                rw [hc5, HCY.out, HTK.out]
                simp [cells]
              case measure => have := HLT.out; simp [intOf]; omega
            · have hkm : k = m := by omega
              have HCY2 := Lib.hid (show cells y = cells t ++ cellsP qs by rw [HCY.out, List.take_of_length_le (by rw [HM.out, hkm]; exact Nat.le_refl _), HCE.out])
              have HALL := Lib.hid (show cells y ++ cells u = cells l ++ cells r by rw [HCY2.out, List.append_assoc, HC2.out, ← HCS.out, List.append_assoc])
              have HB14 := Lib.hid (HB2.out.trans ((HB3.out.trans (HB4.out.mono HB3.out.size)).mono HB2.out.size))
              have hu4 := HU3.out.below HB4.out
              clear hkm hk
              by_cases hun : u = .nil
              · subst hun
                obtain rfl : ar = none := by have := hu4.tr; exact Value.pointer.inj this
                clear hu4
                go_wp2_with fail
                go_ret
                exact ⟨⟨_, y, rfl, HY.out, by rw [← HALL.out]; simp [cells]⟩, HB14.out⟩
              · obtain ⟨a', ha'⟩ := hu4.node_ptr hun
                obtain rfl : ar = some a' := Value.pointer.inj ha'
                have HC := Lib.hid (popFirst_any _ u wr hun hu4)
                clear hu4 hun ha'
                go_wp2_with fail
                refine HC.out.mono ?_
                rintro e w6 ⟨⟨v1, t1, vp, rs, hd, rfl, ht1, ⟨A, c, rfl, hc, hrn⟩, hne, h0, hcs1⟩, hb6⟩
                have HJL := Lib.hid (show (cells y).length + rs.length + (cells t1).length ≤ 2097152 by
                  have h1 := congrArg List.length hcs1
                  have h2 := congrArg List.length HCY2.out
                  have := HLN.out
                  rw [List.length_append, run_len] at h1
                  rw [List.length_append] at h2
                  omega)
                have HCJ := Lib.hid (join_any (.pointer ay) v1 (.agg #[.slice A rs.length c, .int .i64 hd]) y t1 rs hd (w6.alloc (.cells #[.slice A rs.length c, .int .i64 hd] 103)) ((HY.out.below hb6).below (below_alloc1 _ _)) (ht1.below (below_alloc1 _ _)) ⟨_, _, rfl, hc, hrn.below (below_alloc1 _ _)⟩ hne h0 HJL.out)
                have s2 := ldP_run (w := w6.alloc (.cells #[.slice A rs.length c, .int .i64 hd] 103)) (heap_at rfl)
                have HB6 := Lib.hid (HB14.out.trans (hb6.mono HB14.out.size))
                have HCS6 := Lib.hid hcs1
                clear hne h0 hcs1 hb6 hc hrn ht1
                go_wp2_with fail
                refine HCJ.out.mono ?_
                rintro e w7 ⟨⟨v7, t7, rfl, ht7, hc7⟩, hb7⟩
                go_wp2_with fail
                go_ret
                refine ⟨⟨_, t7, rfl, ht7, ?_⟩, HB6.out.trans (((below_alloc1 w6 (.cells #[.slice A rs.length c, .int .i64 hd] 103)).trans (hb7.mono (by simp))).mono HB6.out.size)⟩
                rw [hc7, List.append_assoc, HCS6.out, HALL.out]
end
end Go.Proofs.YtkdhomiieenfnaaDoor.Rp

namespace Go.Proofs.YtkdhomiieenfnaaDoor.Rp
open Go.RowKit Go.Proofs Go.Proofs.YtkdhomiieenfnaaDoor.U Go.Proofs.YtkdhomiieenfnaaDoor.Txt
set_option linter.unusedVariables false
set_option linter.unusedSimpArgs false

theorem iterPos_at {w : World} {I : Nat} {S : ByteArray} {p : Nat} (h : w.heap[I]? = some (.stringIter S p)) : w.iterPos I = p := by
  unfold World.iterPos; rw [h]
/-- Where the loop over a text's runes stands. -/
structure RAt (I : Nat) (S : ByteArray) (xs : List Int) (k : Nat) (v : Value) (wr : World) : Prop where
  it : wr.heap[I]? = some (.stringIter S (psz xs k))
  own : wr.ownsRow I 21 1 v k (i32s (xs.take k))
theorem RAt.iterAt {I : Nat} {S : ByteArray} {xs : List Int} {k : Nat} {v : Value} {w : World} (h : RAt I S xs k v w) (pos' : Nat) : (w.iterAt I S pos').ownsRow I 21 1 v k (i32s (xs.take k)) ∧ (w.iterAt I S pos').heap[I]? = some (.stringIter S pos') := by
  refine ⟨⟨h.own.1, ?_⟩, Lib.iterAt_heap w I S _ pos' h.it⟩
  rcases h.own.2 with hn | ⟨g, cap, cur, hv, hbg, hg, rest⟩
  · exact .inl hn
  · refine .inr ⟨g, cap, cur, hv, hbg, (Lib.iterAt_other w I g S pos' ?_).trans hg, rest⟩
    intro e
    subst e
    rw [h.it] at hg
    cases hg
theorem own_not_iter {w : World} {B e n : Nat} {v : Value} {xs : List Value} {I : Nat} {S : ByteArray} {p : Nat} (h : w.ownsRow B e 1 v n xs) (hI : w.heap[I]? = some (.stringIter S p)) : v.ownBlock ≠ some I := by
  intro e
  rcases h.2 with ⟨rfl, _⟩ | ⟨g, cap, cur, rfl, _, hg, _⟩
  · simp [Value.ownBlock] at e
  · simp only [Value.ownBlock, Option.some.injEq] at e
    subst e
    rw [hI] at hg
    cases hg
set_option maxRecDepth 100000 in
set_option maxHeartbeats 4000000 in
theorem runesOf_any (S : ByteArray) (xs : List Int) (w : World) (hT : Text S xs) (hl : xs.length ≤ 2097152) : Calls Tryd.prog 34 #[.string S] w fun e w' => (∃ v, e = .returned v ∧ w'.ownsRow w.heap.size 21 1 v xs.length (i32s xs)) ∧ Below w.heap.size w w' := by
  have HT := Lib.hid hT
  have HL := Lib.hid hl
  obtain ⟨i0, hi0, hz0, hz1, hz2⟩ := info_parts infoRn
  have HI := Lib.hid (And.intro hi0 (And.intro hz0 (And.intro hz1 hz2)))
  clear hT hl hi0 hz0 hz1 hz2
  go_enter Tryd.func34, Tryd.ntmps34
  go_wp2_with fail
  obtain ⟨I, hI⟩ : ∃ I, w.heap.size = I := ⟨_, rfl⟩
  have HA0 := Lib.hid (show RAt I S xs 0 (.slice none 0 0) (w.alloc (.stringIter S 0)) from ⟨by rw [← hI]; rw [psz_zero]; exact heap_alloc_new w _, ⟨rfl, .inl ⟨rfl, rfl⟩⟩⟩)
  have HB0 := Lib.hid (show Below I w (w.alloc (.stringIter S 0)) by rw [← hI]; exact (Below.refl _ _).alloc (Nat.le_refl _) _)
  rw [hI]
  have HII := Lib.hid hI
  clear hI
  go_loopw [3] (fun v wr => ∃ k : Nat, k ≤ xs.length ∧ RAt I S xs k v wr ∧ Below I w wr) (fun _ wr => S.size - wr.iterPos I)
  case atStart => exact ⟨0, Nat.zero_le _, HA0.out, HB0.out⟩
  case round =>
    obtain ⟨k, hk, hA, hb⟩ := hrel
    have HA := Lib.hid hA
    have HB := Lib.hid hb
    clear hA hb HA0 HB0
    by_cases hlt : k < xs.length
    · have hlt2 : psz xs k < S.size := by rw [HT.out.len]; exact psz_lt xs k hlt
      have hdec := HT.out.dec k hlt
      have hnn : (((xs.getD k 0).toNat : Nat) : Int) = xs.getD k 0 := getD_nonneg xs HT.out.ok k hlt
      have hps := psz_succ xs k hlt
      have hX := HA.out.iterAt (psz xs (k + 1))
      have hnx := fun ty => Lib.run_next_any_at (P := Tryd.prog) wr I S (psz xs k) ty HA.out.it hlt2
      rw [hdec] at hnx
      simp only [hnn] at hnx
      rw [← hps] at hnx
      have hb7 : Below I w (wr.iterAt I S (psz xs (k + 1))) := Lib.below_iterAt HB.out (Nat.le_refl _) S _
      have HSN := Lib.hid (show xs.take (k + 1) = xs.take k ++ [xs.getD k 0] by rw [List.take_add_one]; simp [List.getD, List.getElem?_eq_getElem hlt])
      obtain ⟨r, hr⟩ : ∃ r, xs.getD k 0 = r := ⟨_, rfl⟩
      rw [hr] at hnx HSN
      have HLT := Lib.hid hlt
      have HPS := Lib.hid (psz_mono xs k (k + 1) (Nat.lt_succ_self k) hlt)
      obtain ⟨w7, hw7⟩ : ∃ w7, wr.iterAt I S (psz xs (k + 1)) = w7 := ⟨_, rfl⟩
      rw [hw7] at hnx hX hb7
      have HX := Lib.hid hX
      have HB7 := Lib.hid hb7
      have hI7 : I < w7.heap.size := (Array.getElem?_eq_some_iff.1 hX.2).1
      have HI7 := Lib.hid hI7
      clear hdec hnn hps hX hb7 hr hw7 hI7 hlt hlt2 hk
      go_wp2_with (at_builtin; refine wpList_append_lies _ rfl (.tmp 11) (.tmp 13) 34 rfl I 21 i0 (.int .i32 0) 1 4 Tryd.underlying34 HI.out.1 HI.out.2.1 HI.out.2.2.1 HI.out.2.2.2 rfl (by decide) _ k (i32s (xs.take k)) rfl (own_below HX.out.1 (below_alloc1 _ _)) _ 1 1 [.int .i32 r] rfl rfl (fun j u hj => news_alloc _ _ _ j u hj) (by intro u hu; simp at hu; subst hu; rfl) (by decide) (by have h1 := HL.out; have := HLT.out; unfold maxLen; omega) (by have h1 := HL.out; have := HLT.out; omega) (by have := HI7.out; simp; omega) _ rfl ?_; intro g cap w9 hown hgrow hat hgl; have HO9 := Lib.hid hown; have HGR := Lib.hid hgrow; clear hown hgrow hat hgl)
      have HI9 := Lib.hid (show w9.heap[I]? = some (.stringIter S (psz xs (k + 1))) by
        rw [HGR.out.block I (by have := HI7.out; simp; omega) (fun e => own_not_iter HX.out.1 HX.out.2 e.symm), Lib.alloc_old w7 _ I HI7.out]
        exact HX.out.2)
      go_roundw
      case rel => exact ⟨k + 1, HLT.out, ⟨HI9.out, by have := HO9.out; rw [HSN.out, show i32s (xs.take k ++ [r]) = i32s (xs.take k) ++ [.int .i32 r] by simp [i32s]]; exact this⟩, (HB7.out.alloc (Nat.le_of_lt HI7.out) _).grown HGR.out (by have := HI7.out; simp; omega) (fun k hk => (HX.out.1.lt k hk).1)⟩
      case measure =>
        rw [iterPos_at HI9.out, iterPos_at HA.out.it]
        have h1 := HPS.out
        have h2 := psz_lt xs k HLT.out
        have h4 := HT.out.len
        omega
    · obtain rfl : k = xs.length := by omega
      have hend : ¬ psz xs xs.length < S.size := by
        rw [psz_all, HT.out.len]
        exact Nat.lt_irrefl _
      have hnx := fun ty => Lib.run_next_end_at (P := Tryd.prog) wr I S (psz xs xs.length) ty HA.out.it hend
      go_wp2_with fail
      go_ret
      rw [HII.out]
      exact ⟨⟨_, rfl, by have := HA.out.own; rwa [List.take_length] at this⟩, HB.out⟩
/-- counter's contract. -/
theorem counter_any (n : Int) (w : World) : Calls Tryd.prog 32 #[.int .i64 n] w fun e w' => e = .returned (.int .i64 (if n < 0 then 30 else if 1048576 < n then 31 else 0)) ∧ Below w.heap.size w w' := by
  by_cases h1 : n < 0
  · rw [if_pos h1]
    go_enter Tryd.func32, Tryd.ntmps32
    go_wp2_with fail
    go_ret
    exact ⟨rfl, Below.refl _ _⟩
  · by_cases h2 : 1048576 < n
    · rw [if_neg h1, if_pos h2]
      go_enter Tryd.func32, Tryd.ntmps32
      go_wp2_with fail
      go_ret
      exact ⟨rfl, Below.refl _ _⟩
    · rw [if_neg h1, if_neg h2]
      go_enter Tryd.func32, Tryd.ntmps32
      go_wp2_with fail
      go_ret
      exact ⟨rfl, Below.refl _ _⟩
end Go.Proofs.YtkdhomiieenfnaaDoor.Rp

namespace Go.Proofs.YtkdhomiieenfnaaDoor.Rp
open Go.RowKit Go.Proofs Go.Proofs.YtkdhomiieenfnaaDoor.U Go.Proofs.YtkdhomiieenfnaaDoor.Txt
set_option linter.unusedVariables false
set_option linter.unusedSimpArgs false

/-- A rope in memory: its block, its cells. -/
def Rope (w : World) (b : Nat) (cs : List Cl) : Prop := ∃ v t, w.heap[b]? = some (.cells #[v] 93 (0, 0)) ∧ TrW w v t ∧ cells t = cs
theorem Rope.below {w w' : World} {b : Nat} {cs : List Cl} (h : Rope w b cs) (hb : Below w.heap.size w w') : Rope w' b cs := by
  obtain ⟨v, t, h1, h2, h3⟩ := h
  exact ⟨v, t, (hb.block b (Array.getElem?_eq_some_iff.1 h1).1).trans h1, h2.below hb, h3⟩
theorem shown_lo {cs : List Cl} (h : Cok cs) : (if lo cs = 0 then ((at_ cs : Nat) : Int) else 0) = (shown cs : Nat) := by
  by_cases h0 : lo cs = 0
  · rw [if_pos h0]; unfold at_ shown; rw [h0]
  · rw [if_neg h0]
    have : shown cs = 0 := by
      unfold shown
      rw [List.countP_eq_zero]
      intro c hc
      have h1 := lo_le hc
      have h2 := (h c hc).1
      have hn : cs ≠ [] := by intro e; rw [e] at hc; cases hc
      obtain ⟨d, hd, hd2⟩ := lo_mem hn
      have h3 := (h d hd).1
      simp
      omega
    rw [this]; rfl
section
attribute [local go_sem] fldN
set_option maxRecDepth 100000 in
set_option maxHeartbeats 4000000 in
theorem Total_any (b : Nat) (cs : List Cl) (w : World) (h : Rope w b cs) : Calls Tryd.prog 39 #[.pointer (some ⟨b, 0, none⟩)] w fun e w' => e = .returned (.int .i64 (cs.length : Nat)) ∧ Below w.heap.size w w' := by
  obtain ⟨v, t, h1, h2, h3⟩ := h
  have c0 : w.cell? ⟨b, 0, none⟩ = some v := by rw [Lib.cell_of_heap h1]; rfl
  obtain ⟨a, rfl⟩ := h2.tr.ptr
  have HC := Lib.hid (all_any _ t w h2.tr)
  have HS := Lib.hid h3
  clear h1 h2 h3
  go_enter Tryd.func39, Tryd.ntmps39
  go_wp2_with fail
  refine HC.out.mono ?_
  rintro e w1 ⟨rfl, hb⟩
  have HB := Lib.hid hb
  clear hb
  obtain ⟨n, hn⟩ : ∃ n : Int, ((cells t).length : Int) = n := ⟨_, rfl⟩
  have HN := Lib.hid hn
  unfold Sm.v smT
  rw [hn]
  clear hn
  go_wp2_with fail
  go_ret
  exact ⟨by rw [← HS.out, HN.out]; rfl, HB.out⟩
end
set_option maxRecDepth 100000 in
set_option maxHeartbeats 4000000 in
theorem Shown_any (b : Nat) (cs : List Cl) (w : World) (h : Rope w b cs) : Calls Tryd.prog 10 #[.pointer (some ⟨b, 0, none⟩)] w fun e w' => e = .returned (.int .i64 (shown cs : Nat)) ∧ Below w.heap.size w w' := by
  obtain ⟨v, t, h1, h2, h3⟩ := h
  have c0 : w.cell? ⟨b, 0, none⟩ = some v := by rw [Lib.cell_of_heap h1]; rfl
  obtain ⟨a, rfl⟩ := h2.tr.ptr
  have HC := Lib.hid (all_any _ t w h2.tr)
  have hs : (if (smT t).lo = 0 then (smT t).c else 0) = (shown cs : Nat) := by rw [← h3]; exact shown_lo h2.wf.ok
  have HD := Lib.hid (fun W => shown_any (smT t) W)
  rw [hs] at HD
  clear h1 h2 h3 hs
  go_enter Tryd.func10, Tryd.ntmps10
  go_wp2_with fail
  refine HC.out.mono ?_
  rintro e w1 ⟨rfl, hb⟩
  have HB := Lib.hid hb
  clear hb
  go_wp2_with fail
  refine (HD.out w1).mono ?_
  rintro e w2 ⟨rfl, hb2⟩
  have HB2 := Lib.hid hb2
  clear hb2
  go_wp2_with fail
  go_ret
  exact ⟨rfl, HB.out.trans (HB2.out.mono HB.out.size)⟩
end Go.Proofs.YtkdhomiieenfnaaDoor.Rp

namespace Go.Proofs.YtkdhomiieenfnaaDoor.Rp
open Go.RowKit Go.Proofs Go.Proofs.YtkdhomiieenfnaaDoor.U Go.Proofs.YtkdhomiieenfnaaDoor.Txt
set_option linter.unusedVariables false
set_option linter.unusedSimpArgs false

theorem Few.of1 {w : World} {B : Nat} {x : Value} {T : TypeId} {fz : Nat × Nat} (h : w.heap[B]? = some (.cells #[x] T fz)) (hx : ∀ r, x ≠ .int .i32 r) : Few w B := ⟨_, _, _, h, by show 1 < 7; omega, fun j r hj => by
  match j, hj with
  | 0, hj => simp at hj; exact hx r hj
  | j + 1, hj => simp at hj⟩
theorem one_facts {w : World} {B : Nat} {x : Value} {T : TypeId} (h : w.heap[B]? = some (.cells #[x] T (0, 0))) : w.cell? ⟨B, 0, none⟩ = some x ∧ w.frozen? ⟨B, 0, none⟩ = false ∧ B < w.heap.size :=
  ⟨by rw [Lib.cell_of_heap h]; rfl, Lib.frozen_of_heap h 0, (Array.getElem?_eq_some_iff.1 h).1⟩
/-- A rope's root set anew. -/
theorem Rope.set {w w1 : World} {b : Nat} {x v : Value} {t : T} {cs : List Cl} (hb : Below w.heap.size w w1) (h : w1.heap[b]? = some (.cells #[x] 93 (0, 0))) (hx : ∀ r, x ≠ .int .i32 r) (ht : TrW w1 v t) (hc : cells t = cs) : Rope (w1.setCell ⟨b, 0, none⟩ v) b cs ∧ w.grownBy (w1.setCell ⟨b, 0, none⟩ v) (some b) := by
  refine ⟨⟨v, t, by simp [World.setCell, Array.getElem?_modify, h], ht.put (Few.of1 h hx) 0 v, hc⟩, ⟨hb.os, hb.tape, hb.output, by simpa [World.setCell] using hb.size, fun k hk hne => ?_⟩⟩
  have : k ≠ b := fun e => hne (by rw [e])
  rw [← hb.block k hk]
  simp [World.setCell, Array.getElem?_modify, Ne.symm this]
set_option maxRecDepth 100000 in
set_option maxHeartbeats 8000000 in
theorem insert_in (b : Nat) (cs : List Cl) (S : ByteArray) (rs : List Int) (p : Nat) (n : Int) (w : World) (h : Rope w b cs) (hT : Text S rs) (hB : Bars w) (hp : p ≤ cs.length) (hn : 0 ≤ n ∧ n ≤ M) (hl : cs.length + rs.length ≤ 1048576) (hr : rs ≠ []) :
    Calls Tryd.prog 41 #[.pointer (some ⟨b, 0, none⟩), .int .i64 p, .string S, .int .i64 n] w fun e w' => e = .returned (.int .i64 0) ∧ Rope w' b (cs.take p ++ run rs n ++ cs.drop p) ∧ w.grownBy w' (some b) := by
  have HT := Lib.hid hT
  have HBA := Lib.hid hB
  have HN := Lib.hid hn
  have HR := Lib.hid hr
  have HRO := Lib.hid h
  obtain ⟨k, hk⟩ : ∃ k, cs.length = k := ⟨_, rfl⟩
  obtain ⟨m, hm⟩ : ∃ m, rs.length = m := ⟨_, rfl⟩
  have hm0 : 0 < m := by rw [← hm]; exact List.length_pos_iff.2 hr
  have HK := Lib.hid hk
  have HM := Lib.hid hm
  have HC1 := Lib.hid (fun (W : World) (hW : Below w.heap.size w W) => Total_any b cs W (h.below hW))
  rw [hk] at hp hl HC1
  rw [hm] at hl
  have h2 : ¬ (p : Int) < 0 := by omega
  have h3 : ¬ (k : Int) < p := by omega
  clear hT hB hr h hk hm
  have hn1 : ¬ n < 0 := by have := HN.out; omega
  have hn2 : ¬ 1048576 < n := by have := HN.out.2; unfold M at this; omega
  have HCN := Lib.hid (fun (W : World) => show Calls Tryd.prog 32 #[.int .i64 n] W fun e w' => e = .returned (.int .i64 0) ∧ Below W.heap.size W w' by have := counter_any n W; rw [if_neg hn1, if_neg hn2] at this; exact this)
  clear hn hn1 hn2
  go_enter Tryd.func41, Tryd.ntmps41
  go_wp2_with fail
  refine (HC1.out w (Below.refl _ _)).mono ?_
  rintro e w1 ⟨rfl, hb1⟩
  have HB1 := Lib.hid hb1
  clear hb1
  go_wp2_with fail
  refine (check_at S m 0 0 w1 (by have := HT.out.size; unfold maxLen; omega) (HBA.out.below HB1.out) (by have := HT.out.chk; rw [HM.out] at this; exact this)).mono ?_
  rintro e w2 ⟨rfl, hb2⟩
  have HB2 := Lib.hid (HB1.out.trans (hb2.mono HB1.out.size))
  clear hb2 HB1
  go_wp2_with fail
  refine (HCN.out w2).mono ?_
  rintro e w3 ⟨rfl, hb3⟩
  have HB3 := Lib.hid (HB2.out.trans (hb3.mono HB2.out.size))
  clear hb3 HB2
  go_wp2_with fail
  refine (HC1.out w3 HB3.out).mono ?_
  rintro e w4 ⟨rfl, hb4⟩
  have HB4 := Lib.hid (HB3.out.trans (hb4.mono HB3.out.size))
  clear hb4 HB3
  have i1 : IntKind.i64.wrap ((k : Int) + m) = (k : Int) + m := IntWalk.i64_in _ (by omega)
  have i2 : ¬ (1048576 : Int) < (k : Int) + m := by omega
  have i3 : ((m : Int) == 0) = false := by simp; omega
  obtain ⟨v, t, h1, h2', h3'⟩ := HRO.out.below HB4.out
  have c0 : w4.cell? ⟨b, 0, none⟩ = some v := by rw [Lib.cell_of_heap h1]; rfl
  obtain ⟨a, rfl⟩ := h2'.tr.ptr
  have HC5 := Lib.hid (split_any _ t p w4 (by omega) h2')
  have HX4 := Lib.hid h1
  have HT4 := Lib.hid h2'
  have HCT := Lib.hid h3'
  clear h1 h2' h3'
  go_wp2_with fail
  refine HC5.out.mono ?_
  rintro e w5 ⟨⟨va, ta, vb, tb, rfl, hta, htb, hca, hcb⟩, hb5⟩
  rw [HCT.out] at hca hcb
  have HA5 := Lib.hid hta
  have HE5 := Lib.hid htb
  have HCA := Lib.hid hca
  have HCB := Lib.hid hcb
  have HB5 := Lib.hid hb5
  have HX5 := Lib.hid ((hb5.block _ (Array.getElem?_eq_some_iff.1 HX4.out).1).trans HX4.out)
  have HB15 := Lib.hid (HB4.out.trans (hb5.mono HB4.out.size))
  clear hta htb hca hcb hb5 c0
  go_wp2_with fail
  refine (runesOf_any S rs w5 HT.out (by rw [HM.out]; omega)).mono ?_
  rintro e w6 ⟨⟨v6, rfl, hown6⟩, hb6⟩
  obtain ⟨A6, c6, rfl, hc6, hcells6⟩ := own_runes hown6
  have hblk : ∀ ad, A6 = some ad → ∃ cs fz, w6.heap[ad.block]? = some (.cells cs 21 fz) := fun ad e => by
    rcases hown6.2 with ⟨hv, h0⟩ | ⟨g', cap, cur, hv, _, hg', _⟩
    · exact absurd (List.length_eq_zero_iff.1 h0) HR.out
    · have := (Value.slice.inj hv).1
      rw [e] at this
      rw [Option.some.inj this]
      exact ⟨_, _, hg'⟩
  have HC7 := Lib.hid (cutUp_any A6 c6 rs n w6 (by rw [HM.out]; omega) hc6 ⟨hcells6, hblk⟩ HN.out)
  rw [HM.out] at HC7
  rw [HM.out]
  have HB56 := Lib.hid hb6
  clear hown6 hcells6 hblk hb6
  go_wp2_with fail
  refine HC7.out.mono ?_
  rintro e w7 ⟨⟨v7, ps, rfl, hown7, hok7, hcs7, hln7⟩, hb7⟩
  have HC8 := Lib.hid (build_any v7 ps w7 (by rw [hcs7, run_len, HM.out]; omega) (PV.of_own hown7 hok7))
  have HCS7 := Lib.hid hcs7
  have HB57 := Lib.hid (HB56.out.trans (hb7.mono HB56.out.size))
  clear hown7 hok7 hcs7 hln7 hb7
  go_wp2_with fail
  refine HC8.out.mono ?_
  rintro e w8 ⟨⟨v8, t8, rfl, ht8, hc8⟩, hb8⟩
  have HB58 := Lib.hid (HB57.out.trans (hb8.mono HB57.out.size))
  rw [HCS7.out] at hc8
  have HL := Lib.hid (show (cells ta).length + (cells t8).length + (cells tb).length ≤ 2097152 by
    rw [HCA.out, hc8, HCB.out, run_len, List.length_take, List.length_drop, HK.out, HM.out]
    omega)
  have HC9 := Lib.hid (mend_any va v8 ta t8 w8 (HA5.out.below HB58.out) ht8 (by have := HL.out; omega))
  have HC8' := Lib.hid hc8
  clear ht8 hc8 hb8
  go_wp2_with fail
  refine HC9.out.mono ?_
  rintro e w9 ⟨⟨v9, t9, rfl, ht9, hc9⟩, hb9⟩
  have HB59 := Lib.hid (HB58.out.trans (hb9.mono HB58.out.size))
  have HC10 := Lib.hid (mend_any v9 vb t9 tb w9 ht9 (HE5.out.below HB59.out) (by rw [hc9, List.length_append]; have := HL.out; omega))
  have HC9' := Lib.hid hc9
  clear ht9 hc9 hb9
  go_wp2_with fail
  refine HC10.out.mono ?_
  rintro e w10 ⟨⟨v10, t10, rfl, ht10, hc10⟩, hb10⟩
  have HB510 := Lib.hid (HB59.out.trans (hb10.mono HB59.out.size))
  have HX10 := Lib.hid ((HB510.out.block _ (Array.getElem?_eq_some_iff.1 HX5.out).1).trans HX5.out)
  obtain ⟨y0, f0, ys⟩ := one_facts HX10.out
  have HF := Lib.hid (Rope.set (HB15.out.trans (HB510.out.mono HB15.out.size)) HX10.out (fun r => by simp) ht10 (cs := cs.take p ++ run rs n ++ cs.drop p) (by rw [hc10, HC9'.out, HC8'.out, HCA.out, HCB.out]))
  obtain ⟨a10, rfl⟩ := ht10.tr.ptr
  clear ht10 hc10 hb10
  go_wp2_with fail
  go_ret
  exact ⟨rfl, HF.out⟩
end Go.Proofs.YtkdhomiieenfnaaDoor.Rp

namespace Go.Proofs.YtkdhomiieenfnaaDoor.Rp
open Go.RowKit Go.Proofs Go.Proofs.YtkdhomiieenfnaaDoor.U Go.Proofs.YtkdhomiieenfnaaDoor.Txt
set_option linter.unusedVariables false
set_option linter.unusedSimpArgs false

/-- The error of Insert: cells, place, the text's check, counter. -/
def insErr (k : Nat) (p : Int) (c : Nat × Nat × Nat) (n : Int) : Int :=
  if p < 0 ∨ (k : Int) < p then 12 else if c.2.2 ≠ 0 then (c.2.2 : Nat) else if n < 0 then 30 else if 1048576 < n then 31 else if 1048576 < (k : Int) + (c.1 : Nat) then 24 else 0
set_option maxRecDepth 100000 in
set_option maxHeartbeats 8000000 in
theorem insert_out (b : Nat) (cs : List Cl) (S : ByteArray) (p n : Int) (w : World) (h : Rope w b cs) (hB : Bars w) (hS : S.size ≤ maxLen) (hk : cs.length ≤ 2097152) (hm : (chk S.data.toList).1 ≤ 1152921504606846976) (he : insErr cs.length p (chk S.data.toList) n ≠ 0 ∨ (chk S.data.toList).1 = 0) :
    Calls Tryd.prog 41 #[.pointer (some ⟨b, 0, none⟩), .int .i64 p, .string S, .int .i64 n] w fun e w' => e = .returned (.int .i64 (insErr cs.length p (chk S.data.toList) n)) ∧ Below w.heap.size w w' := by
  obtain ⟨⟨m, a, f⟩, hc⟩ : ∃ c, chk S.data.toList = c := ⟨_, rfl⟩
  have HCH := Lib.hid (fun (W : World) (hW : Below w.heap.size w W) => check_at S m a f W hS (hB.below hW) (by rw [hc]; exact ⟨rfl, rfl, rfl⟩))
  have HC1 := Lib.hid (fun (W : World) (hW : Below w.heap.size w W) => Total_any b cs W (h.below hW))
  obtain ⟨k, hk'⟩ : ∃ k, cs.length = k := ⟨_, rfl⟩
  rw [hk', hc] at he ⊢
  rw [hk'] at hk HC1
  rw [hc] at hm
  simp only at hm he
  clear hc h hB hS hk'
  unfold insErr at he ⊢
  simp only at he ⊢
  by_cases hp0 : p < 0
  · rw [if_pos (.inl hp0)]
    clear he
    go_enter Tryd.func41, Tryd.ntmps41
    go_wp2_with fail
    go_ret
    exact ⟨rfl, Below.refl _ _⟩
  by_cases hp1 : (k : Int) < p
  · rw [if_pos (.inr hp1)]
    clear he
    go_enter Tryd.func41, Tryd.ntmps41
    go_wp2_with fail
    refine (HC1.out w (Below.refl _ _)).mono ?_
    rintro e w1 ⟨rfl, hb1⟩
    go_wp2_with fail
    go_ret
    exact ⟨rfl, hb1⟩
  rw [if_neg (by omega)] at he ⊢
  by_cases hf : f = 0
  · subst hf
    rw [if_neg (by simp)] at he ⊢
    obtain ⟨r, hr⟩ : ∃ r : Int, (if n < 0 then 30 else if 1048576 < n then 31 else 0) = r := ⟨_, rfl⟩
    have HCN := Lib.hid (fun (W : World) => show Calls Tryd.prog 32 #[.int .i64 n] W fun e w' => e = .returned (.int .i64 r) ∧ Below W.heap.size W w' by have := counter_any n W; rw [hr] at this; exact this)
    by_cases hr0 : r = 0
    · have hn : ¬ n < 0 ∧ ¬ 1048576 < n := by
        rw [hr0] at hr
        split at hr
        · omega
        · split at hr <;> omega
      subst hr0
      rw [if_neg hn.1, if_neg hn.2] at he ⊢
      have i1 : IntKind.i64.wrap ((k : Int) + m) = (k : Int) + m := IntWalk.i64_in _ (by omega)
      clear hr hn
      by_cases hs : 1048576 < (k : Int) + m
      · rw [if_pos hs]
        clear he
        go_enter Tryd.func41, Tryd.ntmps41
        go_wp2_with fail
        refine (HC1.out w (Below.refl _ _)).mono ?_
        rintro e w1 ⟨rfl, hb1⟩
        have HB1 := Lib.hid hb1
        clear hb1
        go_wp2_with fail
        refine (HCH.out w1 HB1.out).mono ?_
        rintro e w2 ⟨rfl, hb2⟩
        have HB2 := Lib.hid (HB1.out.trans (hb2.mono HB1.out.size))
        clear hb2 HB1
        go_wp2_with fail
        refine (HCN.out w2).mono ?_
        rintro e w3 ⟨rfl, hb3⟩
        have HB3 := Lib.hid (HB2.out.trans (hb3.mono HB2.out.size))
        clear hb3 HB2
        go_wp2_with fail
        refine (HC1.out w3 HB3.out).mono ?_
        rintro e w4 ⟨rfl, hb4⟩
        have HB4 := Lib.hid (HB3.out.trans (hb4.mono HB3.out.size))
        clear hb4 HB3
        go_wp2_with fail
        go_ret
        exact ⟨rfl, HB4.out⟩
      · rw [if_neg hs] at he ⊢
        obtain rfl : m = 0 := he.elim (fun h => absurd rfl h) id
        clear he
        go_enter Tryd.func41, Tryd.ntmps41
        go_wp2_with fail
        refine (HC1.out w (Below.refl _ _)).mono ?_
        rintro e w1 ⟨rfl, hb1⟩
        have HB1 := Lib.hid hb1
        clear hb1
        go_wp2_with fail
        refine (HCH.out w1 HB1.out).mono ?_
        rintro e w2 ⟨rfl, hb2⟩
        have HB2 := Lib.hid (HB1.out.trans (hb2.mono HB1.out.size))
        clear hb2 HB1
        go_wp2_with fail
        refine (HCN.out w2).mono ?_
        rintro e w3 ⟨rfl, hb3⟩
        have HB3 := Lib.hid (HB2.out.trans (hb3.mono HB2.out.size))
        clear hb3 HB2
        go_wp2_with fail
        refine (HC1.out w3 HB3.out).mono ?_
        rintro e w4 ⟨rfl, hb4⟩
        have HB4 := Lib.hid (HB3.out.trans (hb4.mono HB3.out.size))
        clear hb4 HB3
        go_wp2_with fail
        go_ret
        exact ⟨rfl, HB4.out⟩
    · have hn : (if n < 0 then (30 : Int) else if 1048576 < n then 31 else if 1048576 < (k : Int) + m then 24 else 0) = r := by
        split at hr
        · rw [if_pos (by assumption)]; exact hr
        · split at hr
          · rw [if_neg (by assumption), if_pos (by assumption)]; exact hr
          · exact absurd hr.symm hr0
      rw [hn]
      have b1 : (r == 0) = false := by simp [hr0]
      clear he hn hr hr0
      go_enter Tryd.func41, Tryd.ntmps41
      go_wp2_with fail
      refine (HC1.out w (Below.refl _ _)).mono ?_
      rintro e w1 ⟨rfl, hb1⟩
      have HB1 := Lib.hid hb1
      clear hb1
      go_wp2_with fail
      refine (HCH.out w1 HB1.out).mono ?_
      rintro e w2 ⟨rfl, hb2⟩
      have HB2 := Lib.hid (HB1.out.trans (hb2.mono HB1.out.size))
      clear hb2 HB1
      go_wp2_with fail
      refine (HCN.out w2).mono ?_
      rintro e w3 ⟨rfl, hb3⟩
      have HB3 := Lib.hid (HB2.out.trans (hb3.mono HB2.out.size))
      clear hb3 HB2
      go_wp2_with fail
      go_ret
      exact ⟨rfl, HB3.out⟩
  · rw [if_pos hf]
    have b1 : ((f : Int) == 0) = false := by simp [hf]
    clear he hf
    go_enter Tryd.func41, Tryd.ntmps41
    go_wp2_with fail
    refine (HC1.out w (Below.refl _ _)).mono ?_
    rintro e w1 ⟨rfl, hb1⟩
    have HB1 := Lib.hid hb1
    clear hb1
    go_wp2_with fail
    refine (HCH.out w1 HB1.out).mono ?_
    rintro e w2 ⟨rfl, hb2⟩
    have HB2 := Lib.hid (HB1.out.trans (hb2.mono HB1.out.size))
    clear hb2 HB1
    go_wp2_with fail
    go_ret
    exact ⟨rfl, HB2.out⟩
end Go.Proofs.YtkdhomiieenfnaaDoor.Rp
