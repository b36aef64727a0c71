/- The places of visible cells: Visible. -/
import Derived.Test.YtkdhomiieenfnaaDoorRpBt
import Derived.Test.YtkdhomiieenfnaaDoorORs
namespace Go.Proofs.YtkdhomiieenfnaaDoor.Rp
open Go.RowKit Go.Proofs Go.Proofs.YtkdhomiieenfnaaDoor.U Go.Proofs.YtkdhomiieenfnaaDoor.Txt
set_option linter.unusedVariables false
set_option linter.unusedSimpArgs false

theorem own_keepN {w w' : World} {B e size n : Nat} {v : Value} {xs : List Value} (he : e ≠ 3) (hk : KeepN w w') (h : w.ownsRow B e size v n xs) : w'.ownsRow B e size v n xs := by
  refine ⟨h.1, h.2.imp id ?_⟩
  rintro ⟨g, cap, cur, hv, hbg, hg, rest⟩
  exact ⟨g, cap, cur, hv, hbg, hk.2 _ _ hg (fun cs fz e2 => he (Obj.cells.inj e2).2.1), rest⟩
theorem KeepU.set {w : World} {g i : Nat} {cs : Array Value} {v : Value} {T : TypeId} {fz : Nat × Nat} (h : w.heap[g]? = some (.cells cs T fz)) (hT : ¬ (RopeT T ∨ T = 3 ∨ T = 111)) : KeepU w (w.setCell ⟨g, i, none⟩ v) := ⟨by simp [World.setCell], fun k cs' T' fz' hk hT' => by
  have hne : k ≠ g := by rintro rfl; rw [h] at hk; exact hT ((Obj.cells.inj (Option.some.inj hk)).2.1 ▸ hT')
  simp [World.setCell, Array.getElem?_modify, Ne.symm hne]⟩
theorem KeepU.grown {w w' : World} {B e size n : Nat} {v : Value} {xs : List Value} (ho : w.ownsRow B e size v n xs) (hT : ¬ (RopeT e ∨ e = 3 ∨ e = 111)) (hg : w.grownBy w' v.ownBlock) : KeepU w w' := ⟨hg.size, fun k cs T fz hk hT' => by
  refine hg.block k (Array.getElem?_eq_some_iff.1 hk).1 (fun e2 => ?_)
  rcases ho.2 with ⟨rfl, _⟩ | ⟨g, cap, cur, rfl, _, hgg, _⟩
  · simp [Value.ownBlock] at e2
  · simp only [Value.ownBlock, Option.some.injEq] at e2
    rw [← e2, hk] at hgg
    exact hT ((Obj.cells.inj (Option.some.inj hgg)).2.1 ▸ hT')⟩
/-- What Visible keeps. -/
structure JV (W0 : World) (p : Nat) (s : List (Int × Int)) (w : World) : Prop where
  box : ∃ v, w.heap[W0.heap.size]? = some (.cells #[v] 46 (0, 0)) ∧ w.ownsRow (W0.heap.size + 1) 110 2 v s.length (O.rsCells s)
  len : s.length ≤ p
  hi : ∀ x ∈ s, x.2 ≤ (p : Int)
  below : Below W0.heap.size W0 w
theorem JV.keep {W0 w w' : World} {p : Nat} {s : List (Int × Int)} (h : JV W0 p s w) (hb : Below W0.heap.size w w') (hk : KeepN w w') : JV W0 p s w' := by
  obtain ⟨v, h1, h2⟩ := h.box
  exact ⟨⟨v, hk.2 _ _ h1 (fun cs fz e => absurd (Obj.cells.inj e).2.1 (by decide)), own_keepN (by decide) hk h2⟩, h.len, h.hi, h.below.trans hb⟩
theorem JV.mono {W0 w : World} {p p' : Nat} {s : List (Int × Int)} (hp : p ≤ p') (h : JV W0 p s w) : JV W0 p' s w := ⟨h.box, Nat.le_trans h.len hp, fun x hx => by have := h.hi x hx; omega, h.below⟩
theorem JV.put {W0 w w' : World} {p : Nat} {s' : List (Int × Int)} {v' : Value} (hb : Below W0.heap.size w w') (hx : ∃ v, w'.heap[W0.heap.size]? = some (.cells #[v] 46 (0, 0))) (hown : w'.ownsRow (W0.heap.size + 1) 110 2 v' s'.length (O.rsCells s')) (h : Below W0.heap.size W0 w) (hl : s'.length ≤ p) (hh : ∀ x ∈ s', x.2 ≤ (p : Int)) : JV W0 p s' (w'.setCell ⟨W0.heap.size, 0, none⟩ v') := by
  obtain ⟨v, hx⟩ := hx
  refine ⟨⟨v', by simp [World.setCell, Array.getElem?_modify, hx], ⟨hown.1, hown.2.imp id ?_⟩⟩, hl, hh, (h.trans hb).setCell (p := ⟨W0.heap.size, 0, none⟩) (Nat.le_refl _) _⟩
  rintro ⟨g, cap, cur, hv, hbg, hg, rest⟩
  exact ⟨g, cap, cur, hv, hbg, by rw [← hg]; simp [World.setCell, Array.getElem?_modify]; omega, rest⟩
theorem vis_after {w w9 : World} {bo n : Nat} {v v0 : Value} {xs : List Value} {o : Obj} (ho : w.ownsRow (bo + 1) 110 2 v n xs) (hb : w.heap[bo]? = some (.cells #[v0] 46 (0, 0))) (hg : (w.alloc o).grownBy w9 v.ownBlock) :
    w9.heap[bo]? = some (.cells #[v0] 46 (0, 0)) ∧ Below bo w w9 ∧ KeepU w w9 := by
  have hlt := (Array.getElem?_eq_some_iff.1 hb).1
  have ho' := own_below ho (below_alloc1 w o)
  refine ⟨?_, ?_, (KeepU.of_below (below_alloc1 w o)).trans (KeepU.grown ho' (by unfold RopeT; decide) hg)⟩
  · rw [hg.block bo (by simp; omega) (fun e => by have := ho.lt _ e.symm; omega), Lib.alloc_old w _ _ hlt]; exact hb
  · exact ((Below.refl _ _).alloc (by omega) o).grown hg (by simp; omega) (fun k hk => by have := (ho.lt k hk).1; omega)
set_option maxRecDepth 100000 in
set_option maxHeartbeats 8000000 in
theorem vis_step (W0 : World) (s : List (Int × Int)) (a : Nat) (l : List Int) (A : Option Addr) (c : Nat) (w : World) (hj : JV W0 a s w) (hne : l ≠ []) (ha : a + l.length ≤ 2097152) :
    Calls Tryd.prog 44 (#[.int .i64 (a : Nat), .slice A l.length c] ++ #[.pointer (some ⟨W0.heap.size, 0, none⟩)]) w fun e w' => e = .returned (.tuple #[]) ∧ JV W0 (a + l.length) (innerR s a l) w' ∧ KeepU w w' := by
  have HJ := Lib.hid hj
  obtain ⟨v, hbx, hown⟩ := hj.box
  obtain ⟨bo, hbo⟩ : ∃ bo, W0.heap.size = bo := ⟨_, rfl⟩
  rw [hbo] at hbx hown ⊢
  have HBO := Lib.hid hbo
  have hlp := List.length_pos_iff.2 hne
  unfold innerR
  obtain ⟨n, hn⟩ : ∃ n, l.length = n := ⟨_, rfl⟩
  rw [hn] at ha hlp ⊢
  have x0 := one_cell hbx
  have f0 := (one_facts hbx).2.1
  have z0 := (one_facts hbx).2.2
  have HBX := Lib.hid hbx
  have HO := Lib.hid hown
  have hsl := hj.len
  have hhi := hj.hi
  have i1 : IntKind.i64.wrap ((a : Int) + n) = (a : Int) + n := IntWalk.i64_in _ (by omega)
  obtain ⟨i0, hi0, hz0, hz1, hz2⟩ := info_parts O.infoRg
  have HI := Lib.hid (And.intro hi0 (And.intro hz0 (And.intro hz1 hz2)))
  have HZ := Lib.hid z0
  clear hbx hown hbo hi0 hz0 hz1 hz2 hn hne z0
  rcases List.eq_nil_or_concat s with rfl | ⟨ys, ⟨x, h⟩, rfl⟩
  · obtain ⟨A', cap, rfl⟩ : ∃ A' cap, v = .slice A' 0 cap := by
      rcases HO.out.2 with ⟨e1, h0⟩ | ⟨g, cap, cur, hv, _⟩
      · exact ⟨_, _, e1⟩
      · exact ⟨_, cap, hv⟩
    clear hhi hsl hj
    go_enter Tryd.func44, Tryd.ntmps44
    go_wp2_with (at_builtin; refine wpList_append_lies _ rfl (.tmp 29) (.tmp 36) 46 rfl (bo + 1) 110 i0 (.agg #[.int .i64 0, .int .i64 0]) 2 16 Tryd.underlying46 HI.out.1 HI.out.2.1 HI.out.2.2.1 HI.out.2.2.2 rfl (by decide) _ _ _ rfl (own_below HO.out (below_alloc1 _ _)) _ 1 1 [.int .i64 a, .int .i64 ((a : Int) + n)] rfl rfl (fun j u hj => news_alloc _ _ _ j u hj) (by simp [Value.oneCell']) (by decide) (by unfold maxLen; simp) (by simp) (by have h3 := HZ.out; simp; omega) _ rfl ?_; intro g9 cap9 w9 hown hgrow hat hgl; have HO9 := Lib.hid hown; have HA9 := Lib.hid (vis_after HO.out HBX.out hgrow); have y0 := one_cell HA9.out.1; have y1 := (one_facts HA9.out.1).2.1; have y2 := (one_facts HA9.out.1).2.2; clear hown hgrow hat hgl x0 f0)
    go_end0
    have h8 := HA9.out
    have h9 := HO9.out
    refine ⟨rfl, ?_, h8.2.2.trans (KeepU.set h8.1 (by unfold RopeT; decide))⟩
    have hbo := HBO.out
    subst hbo
    exact JV.put (s' := [((a : Int), (a : Int) + n)]) h8.2.1 ⟨_, h8.1⟩ h9 HJ.out.below (by simp; omega) (by simp)
  · rw [List.concat_eq_append] at HJ HO hhi hsl ⊢
    have hh := hhi (x, h) (by simp)
    simp only at hh
    rw [addR_snoc]
    obtain ⟨m, hm⟩ : ∃ m, ys.length = m := ⟨_, rfl⟩
    have hml : (ys ++ [(x, h)]).length = m + 1 := by rw [List.length_append, hm]; rfl
    rw [hml] at HO hsl
    obtain ⟨g, cap, rfl⟩ : ∃ g cap, v = .slice (some ⟨g, 0, none⟩) (m + 1) cap := by
      rcases HO.out.2 with ⟨e1, h0⟩ | ⟨g, cap, cur, hv, _⟩
      · omega
      · exact ⟨g, cap, hv⟩
    obtain ⟨hg, cur, hgb⟩ : bo + 1 ≤ g ∧ ∃ cur, w.heap[g]? = some (.cells cur 110 (0, 0)) := by
      rcases HO.out.2 with ⟨e1, h0⟩ | ⟨g', cap', cur, hv, hbg, hgb, _⟩
      · omega
      · cases hv; exact ⟨hbg, cur, hgb⟩
    have x1 : w.cell? ⟨g, m * 2 + 1, none⟩ = some (.int .i64 h) := by
      have h5 := (O.rsCells_get (ys ++ [(x, h)]) m (by rw [hml]; omega)).2
      have h6 := HO.out.cells (g := g) rfl (m * 2 + 1) _ h5
      have e2 : (⟨g, m * 2 + 1, none⟩ : Addr) = (⟨g, 0, none⟩ : Addr).add (m * 2 + 1) := by simp [Addr.add]
      rw [e2, h6]
      subst hm
      simp
    have f1 : w.frozen? ⟨g, m * 2 + 1, none⟩ = false := HO.out.frozenAt (m * 2 + 1)
    have HGB := Lib.hid (And.intro hg hgb)
    have HYM := Lib.hid hm
    have HH := Lib.hid hh
    have hmb : (m : Int) ≤ 2097152 := by omega
    have hml0 : m + 1 ≤ 2097152 := by omega
    have HSL := Lib.hid hsl
    clear hm hml hg hgb hhi hh hsl hj
    by_cases hhe : h = (a : Int)
    · subst hhe
      rw [if_pos rfl]
      have b1 : ((a : Int) == (a : Int)) = true := by simp
      go_enter Tryd.func44, Tryd.ntmps44
      go_wp2_with fail
      refine bodyPost_ret (results_none rfl _ _ _) rfl ?_
      have hbo := HBO.out
      subst hbo
      have h7 := (HO.out.stored (m * 2 + 1) (.int .i64 ((a : Int) + n))).1
      have e3 := O.rsCells_put ys x (a : Int) ((a : Int) + n)
      rw [HYM.out] at e3
      rw [e3] at h7
      have hne : W0.heap.size ≠ g := by have := HGB.out.1; omega
      have hgl := (Array.getElem?_eq_some_iff.1 HGB.out.2).1
      refine ⟨rfl, ⟨⟨_, by rw [← HBX.out]; simp [World.setCell, Array.getElem?_modify, Ne.symm hne], by rw [List.length_append, HYM.out]; exact h7⟩, ?_, ?_, HJ.out.below.setCell (p := ⟨g, m * 2 + 1, none⟩) (by have := HGB.out.1; simp; omega) _⟩, KeepU.set HGB.out.2 (by unfold RopeT; decide)⟩
      · rw [List.length_append, HYM.out]; have := HSL.out; simp; omega
      · intro y hy
        rcases List.mem_append.1 hy with hy | hy
        · have := HJ.out.hi y (by simp [hy]); omega
        · rw [List.mem_singleton.1 hy]; simp
    · rw [if_neg hhe]
      have b1 : (h == (a : Int)) = false := by simpa using hhe
      clear hhe
      go_enter Tryd.func44, Tryd.ntmps44
      go_wp2_with (at_builtin; refine wpList_append_lies _ rfl (.tmp 29) (.tmp 36) 46 rfl (bo + 1) 110 i0 (.agg #[.int .i64 0, .int .i64 0]) 2 16 Tryd.underlying46 HI.out.1 HI.out.2.1 HI.out.2.2.1 HI.out.2.2.2 rfl (by decide) _ _ _ rfl (own_below HO.out (below_alloc1 _ _)) _ 1 1 [.int .i64 a, .int .i64 ((a : Int) + n)] rfl rfl (fun j u hj => news_alloc _ _ _ j u hj) (by simp [Value.oneCell']) (by decide) (by unfold maxLen; have := HSL.out; omega) (by have := HSL.out; omega) (by have h3 := HZ.out; simp; omega) _ rfl ?_; intro g9 cap9 w9 hown hgrow hat hgl; have HO9 := Lib.hid hown; have HA9 := Lib.hid (vis_after HO.out HBX.out hgrow); have y0 := one_cell HA9.out.1; have y1 := (one_facts HA9.out.1).2.1; have y2 := (one_facts HA9.out.1).2.2; clear hown hgrow hat hgl x0 f0)
      go_end0
      have h8 := HA9.out
      have h9 := HO9.out
      refine ⟨rfl, ?_, h8.2.2.trans (KeepU.set h8.1 (by unfold RopeT; decide))⟩
      have hbo := HBO.out
      subst hbo
      refine JV.put (s' := ys ++ [(x, h)] ++ [((a : Int), (a : Int) + n)]) h8.2.1 ⟨_, h8.1⟩ ?_ HJ.out.below ?_ ?_
      · rw [List.length_append, List.length_append, HYM.out, O.rsCells_snoc]; exact h9
      · rw [List.length_append, List.length_append, HYM.out]; have := HSL.out; simp; omega
      · intro y hy
        rcases List.mem_append.1 hy with hy | hy
        · have := HJ.out.hi y hy; omega
        · rw [List.mem_singleton.1 hy]; simp
set_option maxRecDepth 100000 in
set_option maxHeartbeats 8000000 in
/-- Visible's contract. -/
theorem Visible_any (b : Nat) (cs : List Cl) (lo hi : Nat) (w : World) (hR : Rope w b cs) (hlh : lo ≤ hi) (hh : hi ≤ shown cs) (hm : (visR cs lo hi).length ≤ 32768) :
    Calls Tryd.prog 15 #[.pointer (some ⟨b, 0, none⟩), .int .i64 lo, .int .i64 hi] w fun e w' => (∃ v, e = .returned (.tuple #[v, .int .i64 0]) ∧ w'.ownsRow w.heap.size 110 2 v (visR cs lo hi).length (O.rsCells (visR cs lo hi))) ∧ Below w.heap.size w w' := by
  have HR := Lib.hid hR
  have HC1 := Lib.hid (fun (W : World) (hW : Below w.heap.size w W) => Shown_any b cs W (hR.below hW))
  have hmf : ∀ (fn : Fn) (first cap : Array Value) (w : World), (Instr.makeFunc fn first cap).run Tryd.prog w = .ok (.func fn first cap) w := fun _ _ _ _ => rfl
  have hsl := shown_le cs
  have hcl : cs.length ≤ 2097152 := by obtain ⟨v, t, h1, h2, h3⟩ := hR; rw [← h3]; exact h2.len
  have HB := Lib.hid (fun (W0 W : World) (hb0 : Below w.heap.size w W0) (hj : JV W0 0 [] W) (hb : Below W0.heap.size W0 W) => between_any 44 #[.pointer (some ⟨W0.heap.size, 0, none⟩)] innerR (JV W0) (fun _ => True) W0.heap.size (enters_of Tryd.func44 (by kernel_rfl) rfl) innerR_hin
    (fun p s w1 w2 h h0 h1 h2 => h.keep h1 h2) (fun p p' s w1 hp h => h.mono hp) (fun s a l A c W h h0 h1 h2 h3 _ h4 => vis_step W0 s a l A c W h h3 h4) b cs lo hi [] W ((hR.below hb0).below hb) hlh hh hj (fun _ _ => trivial) hb.size)
  have hfn : inner1 innerR [] (((vpos 0 cs).drop lo).take (hi - lo)) = visR cs lo hi := rfl
  rw [hfn] at HB
  clear hfn
  obtain ⟨n, hn⟩ : ∃ n, shown cs = n := ⟨_, rfl⟩
  rw [hn] at hh hsl HC1
  obtain ⟨L, hL⟩ : ∃ L, visR cs lo hi = L := ⟨_, rfl⟩
  rw [hL] at HB hm ⊢
  have b1 : decide ((lo : Int) < 0) = false := by simp
  have b2 : ¬ (hi : Int) < (lo : Int) := by omega
  have b3 : ¬ (n : Int) < (hi : Int) := by omega
  have b2' : ¬ hi < lo := by omega
  have b3' : ¬ n < hi := by omega
  obtain ⟨cl, hcl2⟩ : ∃ cl, cs.length = cl := ⟨_, rfl⟩
  rw [hcl2] at HB
  have HM := Lib.hid hm
  clear hR hlh hh hm hsl hcl hn hL hcl2
  go_enter Tryd.func15, Tryd.ntmps15
  go_wp2_with fail
  refine (HC1.out w (Below.refl _ _)).mono ?_
  rintro e w1 ⟨rfl, hb1⟩
  have HB1 := Lib.hid hb1
  clear hb1
  go_wp2_with fail
  refine (HB.out w1 _ HB1.out ⟨⟨_, heap_at rfl, ⟨rfl, .inl ⟨rfl, rfl⟩⟩⟩, Nat.le_refl _, (fun x hx => by cases hx), below_alloc1 _ _⟩ (below_alloc1 _ _)).mono ?_
  rintro e w2 ⟨rfl, hj2, hk2⟩
  obtain ⟨v, hbx, hown⟩ := hj2.box
  have HBW := Lib.hid (HB1.out.trans (hj2.below.mono HB1.out.size))
  have HO := Lib.hid hown
  have y0 := one_cell hbx
  obtain ⟨A, cap, rfl⟩ : ∃ A cap, v = .slice A L.length cap := by
    rcases hown.2 with ⟨e1, h0⟩ | ⟨g, cap, cur, hv, _⟩
    · rw [h0]; exact ⟨_, _, e1⟩
    · exact ⟨_, cap, hv⟩
  obtain ⟨m, hmm⟩ : ∃ m, L.length = m := ⟨_, rfl⟩
  have hmb := HM.out
  rw [hmm] at y0 HO hmb
  have HMM := Lib.hid hmm
  have b4 : ¬ (32768 : Int) < (m : Int) := by omega
  clear hj2 hk2 hbx hown hmm
  go_wp2_with fail
  go_ret2
  exact ⟨⟨_, rfl, by rw [HMM.out]; exact own_base HO.out (by have := HB1.out.size; omega)⟩, HBW.out⟩
end Go.Proofs.YtkdhomiieenfnaaDoor.Rp
