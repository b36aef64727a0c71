/- delta.Hunks. -/
import Derived.Test.YtkidcleffllhbaaDoorDtHunkP
import Derived.Test.YtkidcleffllhbaaDoorDtCopied
import Derived.Test.YtkidcleffllhbaaDoorDtChgS
import Derived.Test.YtkidcleffllhbaaDoorDtSplices
import Derived.Test.YtkidcleffllhbaaDoorDtMerge
namespace Go.Proofs.YtkidcleffllhbaaDoor.Dt
open Go.RowKit Go.Proofs Go.Proofs.YtkidcleffllhbaaDoor.U Go.Proofs.YtkidcleffllhbaaDoor.Txt
set_option linter.unusedVariables false
set_option linter.unusedSimpArgs false

/-- A hunk and its four lists' slices. -/
structure HP where
  h : Hk ByteArray
  va : Value
  vb : Value
  vm : Value
  vp : Value
def hpCell (p : HP) : List Value := [.int .i64 p.h.old, .int .i64 p.h.new, p.va, p.vb, p.vm, p.vp]
def hpCells (l : List HP) : List Value := l.flatMap hpCell
theorem hpCells_snoc (ys : List HP) (c : HP) : hpCells (ys ++ [c]) = hpCells ys ++ hpCell c := by simp [hpCells]
/-- A list of strings in memory of its own. -/
def OwnS (w : World) (B : Nat) (v : Value) (ss : List ByteArray) : Prop := w.ownsRow B 9 1 v ss.length (strs ss)
structure HPIn (w : World) (B : Nat) (p : HP) : Prop where
  a : OwnS w B p.va p.h.ahead
  b : OwnS w B p.vb p.h.behind
  m : OwnS w B p.vm p.h.minus
  p : OwnS w B p.vp p.h.plus
theorem HPIn.below {w w' : World} {B : Nat} {p : HP} (h : HPIn w B p) (hb : Below w.heap.size w w') : HPIn w' B p := ⟨own_below h.a hb, own_below h.b hb, own_below h.m hb, own_below h.p hb⟩
/-- An append onto a row of another kind leaves a row as it was. -/
theorem own_kind {w w9 : World} {B e size n : Nat} {v : Value} {xs : List Value} {B' e' size' n' : Nat} {v' : Value} {xs' : List Value} (hg : w.grownBy w9 v.ownBlock) (ho : w.ownsRow B e size v n xs) (ho' : w.ownsRow B' e' size' v' n' xs') (hne : e ≠ e') : w9.ownsRow B' e' size' v' n' xs' := by
  refine ⟨ho'.1, ?_⟩
  rcases ho'.2 with hn | ⟨g', cap', cur', hv', hb', hh', rest'⟩
  · exact .inl hn
  · refine .inr ⟨g', cap', cur', hv', hb', ?_, rest'⟩
    rw [hg.block g' (Array.getElem?_eq_some_iff.1 hh').1 (fun eq => ?_)]
    · exact hh'
    · rcases ho.2 with ⟨hv, _⟩ | ⟨g, cap, cur, hv, _, hh, _⟩
      · rw [hv] at eq; cases eq
      · rw [hv] at eq
        obtain rfl : g' = g := Option.some.inj eq
        rw [hh] at hh'
        cases hh'
        exact hne rfl
theorem HPIn.kind {w w9 : World} {B B' e size n : Nat} {v : Value} {xs : List Value} {p : HP} (hp : HPIn w B' p) (hg : w.grownBy w9 v.ownBlock) (ho : w.ownsRow B e size v n xs) (hne : e ≠ 9) : HPIn w9 B' p :=
  ⟨own_kind hg ho hp.a hne, own_kind hg ho hp.b hne, own_kind hg ho hp.m hne, own_kind hg ho hp.p hne⟩
theorem infoHunk : (Tryd.prog.info? 94).map (fun i => (i.zero, i.size, i.bytes)) = some (some (.agg #[.int .i64 0, .int .i64 0, .slice none 0 0, .slice none 0 0, .slice none 0 0, .slice none 0 0]), 6, 112) := by kernel_rfl
theorem six_one (a b : Int) (A1 A2 A3 A4 : Option Addr) (n1 n2 n3 n4 c1 c2 c3 c4 : Nat) : ∀ u ∈ [Value.int .i64 a, Value.int .i64 b, Value.slice A1 n1 c1, Value.slice A2 n2 c2, Value.slice A3 n3 c3, Value.slice A4 n4 c4], u.oneCell' = true := by simp [Value.oneCell']
set_option maxRecDepth 100000 in
set_option maxHeartbeats 8000000 in
theorem Hunks_any (S T : ByteArray) (r1 r2 : List Int) (ar : Nat) (w : World) (t1 : Text S r1) (t2 : Text T r2) (hs1 : S.size ≤ 1000000000) (hs2 : T.size ≤ 1000000000)
    (har : ar ≤ 1048576) (hl1 : (linesB S).length ≤ 2048) (hl2 : (linesB T).length ≤ 2048) (hg : Bars w) (hm : MaxIn w) :
    Calls Tryd.prog 14 #[.string S, .string T, .int .i64 ar] w fun e w' => ∃ v P, e = .returned (.tuple #[v, .int .i64 0]) ∧ P.map HP.h = hunksL (linesB S) (linesB T) ar ∧ w'.ownsRow w.heap.size 94 6 v P.length (hpCells P) ∧ (∀ p ∈ P, HPIn w' w.heap.size p) ∧ Below w.heap.size w w' := by
  have CT := Lib.hid (fun (W : World) (A : Option Addr) (c : Nat) (hc : CellsS W A [S, T]) (hg : Bars W) => texts_ok A c [S, T] W hc (by simp) (fun s hs => by
    rcases List.mem_cons.1 hs with rfl | hs
    · exact ⟨_, t1⟩
    · rw [List.mem_singleton.1 hs]; exact ⟨_, t2⟩) hg)
  have HG := Lib.hid hg
  have HM := Lib.hid hm
  clear t1 t2 hg hm
  obtain ⟨i0, hi, hz0, hz1, hz2⟩ := info_parts infoHunk
  have HI := Lib.hid (And.intro hi (And.intro hz0 (And.intro hz1 hz2)))
  clear hi hz0 hz1 hz2
  go_enter Tryd.func14, Tryd.ntmps14
  go_wp2_with fail
  refine (CT.out _ _ _ (cells_two w S T) (HG.out.below ((Below.refl _ _).alloc (Nat.le_refl _) _))).mono ?_
  rintro e w1 ⟨rfl, hb1⟩
  have HB1 := Lib.hid (((Below.refl w.heap.size w).alloc (Nat.le_refl _) _).trans (hb1.mono (by simp)))
  clear hb1 CT
  have har0 : (0 : Int) ≤ ar := by omega
  have har1 : (ar : Int) ≤ 1048576 := by omega
  go_wp2_with fail
  refine (lines_any S _ (by omega) (HM.out.below HB1.out) (lines_len S)).mono ?_
  rintro e w2 ⟨A1, c1, rfl, k1, n1, hc1, hb2⟩
  have HC1' := Lib.hid hc1
  have HB2 := Lib.hid (HB1.out.trans (hb2.mono HB1.out.size))
  clear hc1 hb2
  go_wp2_with fail
  refine (lines_any T _ (by omega) (HM.out.below HB2.out) (lines_len T)).mono ?_
  rintro e w3 ⟨A2, c2, rfl, k2, n2, hc2, hb3⟩
  have HC1 := Lib.hid (HC1'.out.below hb3)
  have HC2 := Lib.hid hc2
  have HB3 := Lib.hid (HB2.out.trans (hb3.mono HB2.out.size))
  clear hc2 hb3 HC1' HB1 HB2 hs1 hs2
  obtain ⟨x, hx⟩ : ∃ x, linesB S = x := ⟨_, rfl⟩
  obtain ⟨y, hy⟩ : ∃ y, linesB T = y := ⟨_, rfl⟩
  have HLX := Lib.hid hx
  have HLY := Lib.hid hy
  rw [hx] at HC1 hl1 k1 ⊢
  rw [hy] at HC2 hl2 k2 ⊢
  clear hx hy
  have HK1 := Lib.hid (changesS_any A1 A2 c1 c2 x y w3 HC1.out HC2.out hl1 hl2)
  have i1 : (x.length : Int) ≤ 2048 := by omega
  have i2 : (y.length : Int) ≤ 2048 := by omega
  go_wp2_with fail
  refine HK1.out.mono ?_
  rintro e w4 ⟨vc, rfl, ho4, hb4⟩
  have HL := Lib.hid (show (chL x y).length ≤ 4096 by obtain ⟨⟨o', h⟩, _⟩ := chL_cut x y; have := h.length_le; omega)
  have HO4 := Lib.hid ho4
  have HC1w := Lib.hid (HC1.out.below hb4)
  have HC2w := Lib.hid (HC2.out.below hb4)
  have HBW := Lib.hid (HB3.out.trans (hb4.mono HB3.out.size))
  obtain ⟨M, hM⟩ : ∃ M, (chL x y).length = M := ⟨_, rfl⟩
  have HMM := Lib.hid hM
  rw [hM] at HO4 HL
  obtain ⟨A', cap', rfl⟩ := own_shape HO4.out
  clear ho4 hb4 hM HC1 HC2 HK1 HB3
  obtain ⟨n, hn⟩ : ∃ n, x.length = n := ⟨_, rfl⟩
  have HN := Lib.hid hn
  rw [hn] at hl1 k1 i1 ⊢
  clear hn
  go_wp2_with fail
  go_loopw [12, 13, 50] (fun v fr k wr => ∃ (kk F : Nat) (P : List HP), k = .int .i64 kk ∧ fr = .int .i64 F ∧ kk ≤ M ∧ HkAt x y ((chL x y).drop kk) F ∧ P.map HP.h ++ hkF x y ar ((chL x y).drop kk) F = hunksL x y ar ∧ P.length = kk ∧ wr.ownsRow w4.heap.size 94 6 v P.length (hpCells P) ∧ (∀ p ∈ P, HPIn wr w4.heap.size p) ∧ Below w4.heap.size w4 wr) (fun _ _ k _ => M - (intOf k).toNat)
  case atStart => exact ⟨0, 0, [], rfl, rfl, Nat.zero_le _, HkAt.new x y, rfl, rfl, ⟨rfl, .inl ⟨rfl, rfl⟩⟩, (fun p h => by cases h), Below.refl _ _⟩
  case round =>
    obtain ⟨kk, F, P, rfl, rfl, hkk, hat, hrest, hPl, hown, hps, hb⟩ := hrel
    have HREST := Lib.hid hrest
    have HPL := Lib.hid hPl
    have HO := Lib.hid hown
    have HPS := Lib.hid hps
    have HB := Lib.hid hb
    have hML := HL.out
    clear hrest hPl hown hps hb
    by_cases hlt : kk < M
    · have hkl : kk < (chL x y).length := by rw [HMM.out]; exact hlt
      obtain ⟨g, cap, hv⟩ := own_some HO4.out (by omega)
      cases hv
      have hg4 := chgCells_get (chL x y) kk hkl
      have hO2 := own_below HO4.out HB.out
      have y0 := hO2.cellAt (kk * 4) (by omega)
      have y1 := hO2.cellAt (kk * 4 + 1) (by omega)
      have y2 := hO2.cellAt (kk * 4 + 2) (by omega)
      have y3 := hO2.cellAt (kk * 4 + 3) (by omega)
      rw [hg4.1] at y0
      rw [hg4.2.1] at y1
      rw [hg4.2.2.1] at y2
      rw [hg4.2.2.2] at y3
      rw [List.drop_eq_getElem_cons hkl] at hat
      have hrest := HREST.out
      rw [List.drop_eq_getElem_cons hkl] at hrest
      obtain ⟨s1, s2, s3, s4, s5, s6⟩ := hat.step ar
      obtain ⟨NX, hNX⟩ : ∃ NX, nextAt x.length ((chL x y).drop (kk + 1)) = NX := ⟨_, rfl⟩
      have hcase : (kk + 1 < M ∧ wr.cell? ⟨g, (kk + 1) * 4, none⟩ = some (.int .i64 NX)) ∨ (M ≤ kk + 1 ∧ NX = n) := by
        by_cases h : kk + 1 < M
        · have hk1 : kk + 1 < (chL x y).length := by rw [HMM.out]; exact h
          refine .inl ⟨h, ?_⟩
          rw [hO2.cellAt ((kk + 1) * 4) (by omega), (chgCells_get (chL x y) (kk + 1) hk1).1, ← hNX, List.drop_eq_getElem_cons hk1]
          rfl
        · refine .inr ⟨by omega, ?_⟩
          rw [← hNX, List.drop_eq_nil_iff.2 (by rw [HMM.out]; omega)]
          exact HN.out
      rw [hNX] at s3 s4 s6
      rw [HN.out] at s4
      simp only [hkF] at hrest
      rw [hNX] at hrest
      generalize (chL x y)[kk] = ch at y0 y1 y2 y3 s1 s2 s3 s5 s6 hrest
      obtain ⟨ca, cd, cf, ci⟩ := ch
      simp only at y0 y1 y2 y3 s1 s2 s3 s5 s6 hrest
      obtain ⟨AH, hAH⟩ : ∃ AH, min ar (ca - F) = AH := ⟨_, rfl⟩
      obtain ⟨EN, hEN⟩ : ∃ EN, ca + cd = EN := ⟨_, rfl⟩
      rw [hEN] at s3 s6 hrest
      obtain ⟨BH, hBH⟩ : ∃ BH, min ar (NX - EN) = BH := ⟨_, rfl⟩
      rw [hBH] at s6 hrest
      have HREST2 := Lib.hid hrest
      have HS6 := Lib.hid s6
      clear hg4 hO2 hkl hat s6 hrest hNX HREST
      have hxa := heap_alloc_new wr (.cells #[.int .i64 ca, .int .i64 cd, .int .i64 cf, .int .i64 ci] 82)
      have hba : Below wr.heap.size wr (wr.alloc (.cells #[.int .i64 ca, .int .i64 cd, .int .i64 cf, .int .i64 ci] 82)) := (Below.refl _ _).alloc (Nat.le_refl _) _
      obtain ⟨wa, hwa⟩ : ∃ wa, wr.alloc (.cells #[.int .i64 ca, .int .i64 cd, .int .i64 cf, .int .i64 ci] 82) = wa := ⟨_, rfl⟩
      obtain ⟨bx, hbx⟩ : ∃ bx, wr.heap.size = bx := ⟨_, rfl⟩
      rw [hwa, hbx] at hxa
      rw [hwa] at hba
      have HWA := Lib.hid hwa
      have HXA := Lib.hid hxa
      have HBA := Lib.hid (HB.out.trans (hba.mono HB.out.size))
      have HOA := Lib.hid (own_below HO.out hba)
      have HPA := Lib.hid (fun p hp => (HPS.out p hp).below hba)
      have hcase2 : (kk + 1 < M ∧ wa.cell? ⟨g, (kk + 1) * 4, none⟩ = some (.int .i64 NX)) ∨ (M ≤ kk + 1 ∧ NX = n) := hcase.imp (fun h => ⟨h.1, cell_below hba h.2⟩) id
      have z0 : wa.cell? ⟨bx, 0, none⟩ = some (.int .i64 ca) := by rw [Lib.cell_of_heap hxa]; rfl
      have z1 : wa.cell? ⟨bx, 1, none⟩ = some (.int .i64 cd) := by rw [Lib.cell_of_heap hxa]; rfl
      have z2 : wa.cell? ⟨bx, 2, none⟩ = some (.int .i64 cf) := by rw [Lib.cell_of_heap hxa]; rfl
      have z3 : wa.cell? ⟨bx, 3, none⟩ = some (.int .i64 ci) := by rw [Lib.cell_of_heap hxa]; rfl
      clear hxa hwa hba hcase
      go_upto_region 15 with fail
      rw [HWA.out]
      try rw [hbx]
      clear y0 y1 y2 y3 HWA
      go_upto_if 61 with fail
      go_cut [16, 50] from 50 to 131 (fun v k wx => v = .int .i64 NX ∧ k = .int .i64 kk ∧ wa = wx)
      case first =>
        rcases hcase2 with ⟨h1, h2⟩ | ⟨h1, h2⟩
        · have h1' : (kk : Int) + 1 < M := by omega
          go_wp2_with fail
          go_meet
          exact ⟨rfl, rfl, rfl⟩
        · have h1' : decide ((kk : Int) + 1 < M) = false := by simp; omega
          subst h2
          go_wp2_with fail
          go_meet
          exact ⟨rfl, rfl, rfl⟩
      case rest =>
        obtain ⟨rfl, rfl, rfl⟩ := hcut
        go_upto_region 18 with fail
        go_cut [17, 50] from 50 to 131 (fun v k wx => v = .int .i64 AH ∧ k = .int .i64 kk ∧ wa = wx)
        case first =>
          go_wp2_with fail
          all_goals go_meet
          all_goals exact ⟨congrArg (Value.int .i64) (by omega), rfl, rfl⟩
        case rest =>
          obtain ⟨rfl, rfl, rfl⟩ := hcut
          have hENi : (ca : Int) + (cd : Int) = (EN : Int) := by omega
          have hw0 : IntKind.i64.wrap ((ca : Int) + (cd : Int)) = (EN : Int) := by rw [IntWalk.i64_in _ (by omega)]; omega
          go_upto_region 20 with fail
          go_cut [19, 50] from 50 to 131 (fun v k wx => v = .int .i64 BH ∧ k = .int .i64 kk ∧ wa = wx)
          case first =>
            go_wp2_with fail
            all_goals go_meet
            all_goals exact ⟨congrArg (Value.int .i64) (by omega), rfl, rfl⟩
          case rest =>
            obtain ⟨rfl, rfl, rfl⟩ := hcut
            obtain ⟨LO, hLO⟩ : ∃ LO, ca - AH = LO := ⟨_, rfl⟩
            obtain ⟨NF, hNF⟩ : ∃ NF, cf - AH = NF := ⟨_, rfl⟩
            obtain ⟨YE, hYE⟩ : ∃ YE, cf + ci = YE := ⟨_, rfl⟩
            obtain ⟨XE, hXE⟩ : ∃ XE, EN + BH = XE := ⟨_, rfl⟩
            have hw1 : IntKind.i64.wrap ((ca : Int) - (AH : Int)) = (LO : Int) := by rw [IntWalk.i64_in _ (by omega)]; omega
            have hw2 : IntKind.i64.wrap ((cf : Int) - (AH : Int)) = (NF : Int) := by rw [IntWalk.i64_in _ (by omega)]; omega
            have hw3 : IntKind.i64.wrap ((cf : Int) + (ci : Int)) = (YE : Int) := by rw [IntWalk.i64_in _ (by omega)]; omega
            have hw4 : IntKind.i64.wrap ((EN : Int) + (BH : Int)) = (XE : Int) := by rw [IntWalk.i64_in _ (by omega)]; omega
            obtain ⟨B1, q1, p1, d1⟩ := sliceS_mid A1 n c1 LO ca (by omega) (by omega) k1 n1
            obtain ⟨B2, q2, p2, d2⟩ := sliceS_mid A1 n c1 ca EN (by omega) (by omega) k1 n1
            obtain ⟨B3, q3, p3, d3⟩ := sliceS_mid A2 y.length c2 cf YE (by omega) (by omega) k2 n2
            obtain ⟨B4, q4, p4, d4⟩ := sliceS_mid A1 n c1 EN XE (by omega) (by omega) k1 n1
            have hcp : ∀ (l : List ByteArray) (B : Option Addr) (a z c : Nat) (W : World), z ≤ l.length → l.length ≤ 2048 → l.length ≤ c → B ≠ none → CellsS W B (seg l a z) → Calls Tryd.prog 37 #[.slice B (z - a) (c - a)] W fun e W' => ∃ v, e = .returned v ∧ W'.ownsRow W.heap.size 9 1 v (seg l a z).length (strs (seg l a z)) ∧ Below W.heap.size W W' := by
              intro l B a z c W e1 e2 e3 e4 e5
              have := copied_any B (c - a) (seg l a z) W (sin_seg e1 e3 e4 e5) (by rw [seg_len _ _ _ e1]; omega)
              rw [seg_len _ _ _ e1] at this ⊢
              exact this
            have hxn : x.length = n := HN.out
            have C1 := Lib.hid (fun (W : World) (h : Below wa.heap.size wa W) => hcp x B1 LO ca c1 W (by omega) (by omega) (by omega) p1 (d1 W x hxn ((HC1w.out.below HBA.out).below h)))
            have C2 := Lib.hid (fun (W : World) (h : Below wa.heap.size wa W) => hcp x B2 ca EN c1 W (by omega) (by omega) (by omega) p2 (d2 W x hxn ((HC1w.out.below HBA.out).below h)))
            have C3 := Lib.hid (fun (W : World) (h : Below wa.heap.size wa W) => hcp y B3 cf YE c2 W (by omega) (by omega) (by omega) p3 (d3 W y rfl ((HC2w.out.below HBA.out).below h)))
            have C4 := Lib.hid (fun (W : World) (h : Below wa.heap.size wa W) => hcp x B4 EN XE c1 W (by omega) (by omega) (by omega) p4 (d4 W x hxn ((HC1w.out.below HBA.out).below h)))
            have HZ := Lib.hid (fun (W : World) (h : Below wa.heap.size wa W) => (show W.cell? ⟨bx, 0, none⟩ = some (.int .i64 ca) ∧ W.cell? ⟨bx, 1, none⟩ = some (.int .i64 cd) ∧ W.cell? ⟨bx, 2, none⟩ = some (.int .i64 cf) ∧ W.cell? ⟨bx, 3, none⟩ = some (.int .i64 ci) from ⟨cell_below h z0, cell_below h z1, cell_below h z2, cell_below h z3⟩))
            have HZ9 := Lib.hid (fun (wB w9 : World) (o : Obj) (h : Below wa.heap.size wa wB) (hg : (wB.alloc o).grownBy w9 u12.ownBlock) => (show w9.cell? ⟨bx, 0, none⟩ = some (.int .i64 ca) ∧ w9.cell? ⟨bx, 1, none⟩ = some (.int .i64 cd) ∧ w9.cell? ⟨bx, 2, none⟩ = some (.int .i64 cf) ∧ w9.cell? ⟨bx, 3, none⟩ = some (.int .i64 ci) by
              have h9 := box_grown ((h.block _ (Array.getElem?_eq_some_iff.1 HXA.out).1).trans HXA.out) (fun k hk => by have := (own_lt HO.out k hk).2; omega) hg
              refine ⟨?_, ?_, ?_, ?_⟩ <;> (rw [Lib.cell_of_heap h9]; rfl)))
            have HSL := Lib.hid (show (seg x LO ca).length ≤ 2048 ∧ (seg x ca EN).length ≤ 2048 ∧ (seg y cf YE).length ≤ 2048 ∧ (seg x EN XE).length ≤ 2048 by
              rw [seg_len _ _ _ (by omega), seg_len _ _ _ (by omega), seg_len _ _ _ (by omega), seg_len _ _ _ (by omega)]; omega)
            have HEQS := Lib.hid (And.intro hLO (And.intro hNF (And.intro hYE (And.intro hXE (And.intro hAH (And.intro hEN hBH))))))
            clear hcp d1 d2 d3 d4 p1 p2 p3 p4
            go_upto_region 21 with fail
            go_region_held3 (fun w' => w'.cell? ⟨bx, 0, none⟩ = some (.int .i64 ca) ∧ w'.cell? ⟨bx, 1, none⟩ = some (.int .i64 cd) ∧ w'.cell? ⟨bx, 2, none⟩ = some (.int .i64 cf) ∧ w'.cell? ⟨bx, 3, none⟩ = some (.int .i64 ci))
              (first | exact ⟨z0, z1, z2, z3⟩ | exact HZ.out _ HP4.out | exact HZ.out _ HP3.out | exact HZ.out _ HP2.out | exact HZ.out _ HP1.out | exact HZ.out _ (HP4.out.alloc HP4.out.size _) | exact HZ9.out _ _ _ HP4.out HGR.out)
              (first
              | (go_simp; (with_reducible refine (C1.out _ (by first | exact HP3.out | exact HP2.out | exact HP1.out | exact (Below.refl _ _).drew | exact Below.refl _ _)).mono ?_); rintro e wA ⟨vA, rfl, oA, hA⟩; obtain ⟨aA, cA, rfl⟩ := own_shape oA; have OA := Lib.hid oA; have KA := Lib.hid hA; have HP1 := Lib.hid (show Below wa.heap.size wa wA from (Below.refl _ _).drew.trans hA); clear oA hA; dsimp only)
              | (go_simp; (with_reducible refine (C2.out _ (by first | exact HP3.out | exact HP2.out | exact HP1.out | exact (Below.refl _ _).drew | exact Below.refl _ _)).mono ?_); rintro e wM ⟨vM, rfl, oM, hM⟩; obtain ⟨aM, cM, rfl⟩ := own_shape oM; have OM := Lib.hid oM; have KM := Lib.hid hM; have HP2 := Lib.hid (HP1.out.trans (hM.mono HP1.out.size)); clear oM hM; dsimp only)
              | (go_simp; (with_reducible refine (C3.out _ (by first | exact HP3.out | exact HP2.out | exact HP1.out | exact (Below.refl _ _).drew | exact Below.refl _ _)).mono ?_); rintro e wP ⟨vP, rfl, oP, hP⟩; obtain ⟨aP, cP, rfl⟩ := own_shape oP; have OP := Lib.hid oP; have KP := Lib.hid hP; have HP3 := Lib.hid (HP2.out.trans (hP.mono HP2.out.size)); clear oP hP; dsimp only)
              | (go_simp; (with_reducible refine (C4.out _ (by first | exact HP3.out | exact HP2.out | exact HP1.out | exact (Below.refl _ _).drew | exact Below.refl _ _)).mono ?_); rintro e wB ⟨vB, rfl, oB, hB⟩; obtain ⟨aB, cB, rfl⟩ := own_shape oB; have OB := Lib.hid oB; have KB := Lib.hid hB; have HP4 := Lib.hid (HP3.out.trans (hB.mono HP3.out.size)); clear oB hB; dsimp only)
              | (refine step_append_lies _ rfl (.tmp 84) (.tmp 126) 43 rfl w4.heap.size 94 i0 (.agg #[.int .i64 0, .int .i64 0, .slice none 0 0, .slice none 0 0, .slice none 0 0, .slice none 0 0]) 6 112 Tryd.underlying43 HI.out.1 HI.out.2.1 HI.out.2.2.1 HI.out.2.2.2 rfl (by decide) u12 P.length (hpCells P) (by simp [Act.eval, Act.put]) (by exact own_below (own_below HOA.out HP4.out) ((Below.refl _ _).alloc (Nat.le_refl _) _)) _ 1 1 [.int .i64 LO, .int .i64 NF, .slice aA (seg x LO ca).length cA, .slice aB (seg x EN XE).length cB, .slice aM (seg x ca EN).length cM, .slice aP (seg y cf YE).length cP] (by simp [Act.eval, Act.put]) rfl (fun j u hj => news_alloc _ _ _ j u hj) (six_one _ _ _ _ _ _ _ _ _ _ _ _ _ _) (by decide) (by have := HPL.out; unfold maxLen; omega) (by have := HPL.out; omega) (by have h3 := HBA.out.size; have h4 := HP4.out.size; simp; omega) _ rfl ?_; intro g9 cap9 w9 hown hgrow hat hgl; have HO9 := Lib.hid hown; have HGR := Lib.hid hgrow; have HB9 := Lib.hid (show Below w4.heap.size w4 w9 from grown_own (HBA.out.trans (HP4.out.mono HBA.out.size)) (own_below HOA.out HP4.out) hgrow); clear hown hgrow hat hgl))
            have HOX := Lib.hid (own_below (own_below HOA.out HP4.out) ((Below.refl wB.heap.size wB).alloc (Nat.le_refl _) (.cells #[.int .i64 LO, .int .i64 NF, .slice aA (seg x LO ca).length cA, .slice aB (seg x EN XE).length cB, .slice aM (seg x ca EN).length cM, .slice aP (seg y cf YE).length cP] 94)))
            have hal : Below wB.heap.size wB (wB.alloc (.cells #[.int .i64 LO, .int .i64 NF, .slice aA (seg x LO ca).length cA, .slice aB (seg x EN XE).length cB, .slice aM (seg x ca EN).length cM, .slice aP (seg y cf YE).length cP] 94)) := (Below.refl _ _).alloc (Nat.le_refl _) _
            have hne : 94 ≠ 9 := by decide
            have HNEW := Lib.hid (show HPIn w9 w4.heap.size ⟨⟨LO, NF, seg x LO ca, seg x EN XE, seg x ca EN, seg y cf YE⟩, .slice aA (seg x LO ca).length cA, .slice aB (seg x EN XE).length cB, .slice aM (seg x ca EN).length cM, .slice aP (seg y cf YE).length cP⟩ from
              ⟨own_kind HGR.out HOX.out (own_below (own_below (own_below (own_below (own_weak OA.out HBA.out.size) KM.out) KP.out) KB.out) hal) hne,
               own_kind HGR.out HOX.out (own_below (own_weak OB.out (Nat.le_trans HBA.out.size HP3.out.size)) hal) hne,
               own_kind HGR.out HOX.out (own_below (own_below (own_below (own_weak OM.out (Nat.le_trans HBA.out.size HP1.out.size)) KP.out) KB.out) hal) hne,
               own_kind HGR.out HOX.out (own_below (own_below (own_weak OP.out (Nat.le_trans HBA.out.size HP2.out.size)) KB.out) hal) hne⟩)
            have HOLD := Lib.hid (fun p hp => (((HPA.out p hp).below HP4.out).below hal).kind HGR.out HOX.out hne)
            have HH := Lib.hid (show hkOf x y ar NX F ⟨ca, cd, cf, ci⟩ = ⟨LO, NF, seg x LO ca, seg x EN XE, seg x ca EN, seg y cf YE⟩ by
              obtain ⟨e1, e2, e3, e4, e5, e6, e7⟩ := HEQS.out
              unfold hkOf
              simp only
              rw [e5, e1, e2, e6, e7, e4, e3])
            have hXE2 : EN + BH = XE := HEQS.out.2.2.2.1
            have hkb : (kk : Int) ≤ 4096 := by omega
            clear hal
            go_wp2_with fail
            go_roundw
            case rel =>
              refine ⟨kk + 1, XE, P ++ [⟨⟨LO, NF, seg x LO ca, seg x EN XE, seg x ca EN, seg y cf YE⟩, .slice aA (seg x LO ca).length cA, .slice aB (seg x EN XE).length cB, .slice aM (seg x ca EN).length cM, .slice aP (seg y cf YE).length cP⟩], by go_num, by go_num, by omega, ?_, ?_, by rw [List.length_append, HPL.out]; rfl, ?_, ?_, HB9.out⟩
              · have h9 := HS6.out
                rw [hXE2] at h9
                exact h9
              · have h9 := HREST2.out
                rw [HH.out, hXE2] at h9
                rw [List.map_append, List.append_assoc]
                exact h9
              · have h9 := HO9.out
                rw [hpCells_snoc, List.length_append]
                exact h9
              · intro p hp
                rcases List.mem_append.1 hp with h | h
                · exact HOLD.out p h
                · rw [List.mem_singleton.1 h]; exact HNEW.out
            case measure => simp [intOf]; omega
    · obtain rfl : kk = M := by omega
      go_wp2_with fail
      refine bodyPost_ret (results_tmp2 rfl _ _ _) rfl ?_
      have hrest := HREST.out
      rw [List.drop_eq_nil_iff.2 (by rw [HMM.out]; exact Nat.le_refl _)] at hrest
      simp only [hkF, List.append_nil] at hrest
      rw [HLX.out, HLY.out]
      refine ⟨_, P, rfl, hrest, own_weak HO.out HBW.out.size, fun p hp => ?_, HBW.out.trans (HB.out.mono HBW.out.size)⟩
      have h9 := HPS.out p hp
      exact ⟨own_weak h9.a HBW.out.size, own_weak h9.b HBW.out.size, own_weak h9.m HBW.out.size, own_weak h9.p HBW.out.size⟩
end Go.Proofs.YtkidcleffllhbaaDoor.Dt
