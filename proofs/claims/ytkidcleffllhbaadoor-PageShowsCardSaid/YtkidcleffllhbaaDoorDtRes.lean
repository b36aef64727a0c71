/- Rows of strings; delta.resolved. -/
import Derived.Test.YtkidcleffllhbaaDoorDtLines
import Derived.Test.YtkidcleffllhbaaDoorDtMergeP
import Derived.Test.YtkidcleffllhbaaDoorDtApp
namespace Go.Proofs.YtkidcleffllhbaaDoor.Dt
open Go.RowKit Go.Proofs Go.Proofs.YtkidcleffllhbaaDoor.U Go.Proofs.YtkidcleffllhbaaDoor.Txt
set_option linter.unusedVariables false
set_option linter.unusedSimpArgs false

/-- A list of strings: what its slice holds. -/
def SIn (w : World) (v : Value) (ss : List ByteArray) : Prop := ∃ A c, v = .slice A ss.length c ∧ ss.length ≤ c ∧ (A = none → ss.length = 0 ∧ c = 0) ∧ CellsS w A ss
theorem SIn.below {w w' : World} {v : Value} {ss : List ByteArray} (h : SIn w v ss) (hb : Below w.heap.size w w') : SIn w' v ss := by
  obtain ⟨A, c, h1, h2, h3, h4⟩ := h
  exact ⟨A, c, h1, h2, h3, h4.below hb⟩
def strs (ss : List ByteArray) : List Value := ss.map Value.string
theorem strs_len (ss : List ByteArray) : (strs ss).length = ss.length := by simp [strs]
theorem own_sin {w : World} {B e : Nat} {v : Value} {ss : List ByteArray} (h : w.ownsRow B e 1 v ss.length (strs ss)) : SIn w v ss := by
  rcases h.2 with ⟨hv, h0⟩ | ⟨g, cap, cur, hv, hbg, hg, hc, hrest⟩
  · refine ⟨none, 0, by rw [hv, h0], by omega, fun _ => ⟨h0, rfl⟩, fun h1 => by omega⟩
  · subst hv
    refine ⟨_, cap, rfl, hc, fun hA => (by cases hA), fun _ => ⟨_, rfl, fun j hj => ?_⟩⟩
    rw [Addr.add_lit, Nat.zero_add, h.cellAt j (by omega)]
    simp [strs, List.getD, List.getElem?_eq_getElem hj]
theorem infoS : (Tryd.prog.info? 9).map (fun i => (i.zero, i.size, i.bytes)) = some (some (.string ⟨#[]⟩), 1, 16) := by kernel_rfl
/-- A slice of a list of strings. -/
theorem sliceS_mid (A : Option Addr) (n c l h : Nat) (h0 : l ≤ h) (h1 : h ≤ n) (h2 : n ≤ c) (hA : A ≠ none) : ∃ A', (∀ W : World, (Instr.slice 55 (.slice A n c) (some (.int .i64 l)) (some (.int .i64 h)) none).run Tryd.prog W = .ok (.slice A' (h - l) (c - l)) W) ∧ A' ≠ none ∧ ∀ (W : World) (ss : List ByteArray), ss.length = n → CellsS W A ss → CellsS W A' (seg ss l h) := by
  refine ⟨if c = l then A else A.map (·.add (l * 1)), fun W => ?_, ?_, fun W ss hn hc => ?_⟩
  · rw [run_slice_lh W 55 A n c (by kernel_rfl) .i64 .i64 l h (by omega) (by omega) (by omega)]
    kernel_rfl
  · split
    · exact hA
    · cases A with
      | none => exact absurd rfl hA
      | some ad => simp
  · intro h3
    simp only [seg, List.length_drop, List.length_take] at h3
    obtain ⟨ad, e, hcs⟩ := hc (by omega)
    subst e
    rw [if_neg (by omega)]
    refine ⟨_, rfl, fun j hj => ?_⟩
    simp only [seg, List.length_drop, List.length_take] at hj
    show W.cell? ((ad.add (l * 1)).add j) = _
    rw [Addr.add_add, Nat.mul_one, hcs (l + j) (by omega)]
    simp [seg, List.getD, List.getElem?_drop, List.getElem?_take, show l + j < h by omega]
theorem seg_len (ss : List ByteArray) (l h : Nat) (h1 : h ≤ ss.length) : (seg ss l h).length = h - l := by simp only [seg, List.length_drop, List.length_take]; omega
/-- An append of one list of strings to another in own memory. -/
theorem wpList_appS {w : World} {ops : Array Oper} {rest : List Oper} {o : Oper} {a : Act} {Q : Exit → Act → World → Prop} (hgd : o.guard = none) (s x : Operand)
    (ho : o.op = .call { callee := .builtin .append, args := #[s, x], argTypes := #[55, 55] }) (base : Nat) (v : Value) (xs ys : List ByteArray) (hs : a.eval s = v) (hown : w.ownsRow base 9 1 v xs.length (strs xs))
    (A : Option Addr) (m c : Nat) (hx : a.eval x = .slice A m c) (hm : ys.length = m) (hA : A = none → m = 0 ∧ c = 0) (hc : CellsS w A ys) (hl : xs.length + m ≤ 100000000) (hbase : base ≤ w.heap.size)
    (h : ∀ v' w', w'.ownsRow base 9 1 v' (xs ++ ys).length (strs (xs ++ ys)) → w.grownBy w' v.ownBlock → wpList Tryd.prog ops Q rest (a.put o.dst v') w') : wpList Tryd.prog ops Q (o :: rest) a w := by
  obtain ⟨i0, hi, hz0, hz1, hz2⟩ := info_parts infoS
  cases A with
  | none =>
    obtain ⟨rfl, rfl⟩ := hA rfl
    obtain rfl : ys = [] := List.length_eq_zero_iff.1 hm
    refine wpList_append_own_none hgd s x 55 ho base 9 i0 1 Tryd.underlying55 hi v xs.length (strs xs) hs hown hx (h v w (by rw [List.append_nil]; exact hown) ⟨rfl, rfl, rfl, Nat.le_refl _, fun k hk _ => rfl⟩)
  | some ad =>
    refine wpList_append_own _ hgd s x 55 ho base 9 i0 (.string ⟨#[]⟩) 1 16 Tryd.underlying55 hi hz0 hz1 hz2 rfl (by decide) v xs.length (strs xs) hs hown ad m c (strs ys) hx (by rw [strs_len, hm, Nat.mul_one]) ?_ ?_ (by unfold maxLen; omega) (by omega) hbase (fun v' w' h1 h2 _ => h v' w' (by rw [List.length_append, hm]; simpa [strs] using h1) h2)
    · intro j u hu
      have hj := (List.getElem?_eq_some_iff.1 hu).1
      rw [strs_len] at hj
      obtain ⟨ad', e, hcs⟩ := hc (by omega)
      cases e
      rw [hcs j hj]
      rw [← hu]
      simp [strs, List.getD, List.getElem?_eq_getElem hj]
    · intro u hu
      simp only [strs, List.mem_map] at hu
      obtain ⟨y, _, rfl⟩ := hu
      rfl
def Q1 : ByteArray := ⟨#[60, 60, 60, 60, 60, 60, 60, 32, 109, 105, 110, 101]⟩
def Q2 : ByteArray := ⟨#[124, 124, 124, 124, 124, 124, 124, 32, 98, 97, 115, 101]⟩
def Q3 : ByteArray := ⟨#[61, 61, 61, 61, 61, 61, 61]⟩
def Q4 : ByteArray := ⟨#[62, 62, 62, 62, 62, 62, 62, 32, 116, 104, 101, 105, 114, 115]⟩
theorem own_fresh (w : World) (s : ByteArray) (B : Nat) (hB : B ≤ w.heap.size) : (w.alloc (.cells #[.string s] 9)).ownsRow B 9 1 (.slice (some ⟨w.heap.size, 0, none⟩) 1 1) [s].length (strs [s]) :=
  ⟨rfl, .inr ⟨w.heap.size, 1, _, rfl, hB, heap_alloc_new w _, Nat.le_refl _, by unfold maxLen; omega, rfl, rfl⟩⟩
theorem cellsS_one (w : World) (s : ByteArray) : CellsS (w.alloc (.cells #[.string s] 9)) (some ⟨w.heap.size, 0, none⟩) [s] := fun _ =>
  ⟨_, rfl, fun j hj => by
    obtain rfl : j = 0 := by simpa using hj
    exact news_alloc w #[.string s] 9 0 _ rfl⟩
theorem grown_from {w3 w w9 : World} {e size n : Nat} {v : Value} {xs : List Value} (hb : Below w3.heap.size w3 w) (ho : w.ownsRow w3.heap.size e size v n xs) (hg : w.grownBy w9 v.ownBlock) : Below w3.heap.size w3 w9 :=
  hb.grown hg hb.size (fun k hk => (own_lt ho k hk).1)
set_option maxRecDepth 100000 in
set_option maxHeartbeats 8000000 in
theorem resolved_any (A1 A2 A3 : Option Addr) (c1 c2 c3 : Nat) (b m t : List ByteArray) (w : World) (h1 : SIn w (.slice A1 b.length c1) b) (h2 : SIn w (.slice A2 m.length c2) m) (h3 : SIn w (.slice A3 t.length c3) t) (l1 : b.length ≤ 2048) (l2 : m.length ≤ 2048) (l3 : t.length ≤ 2048) :
    Calls Tryd.prog 34 #[.slice A1 b.length c1, .slice A2 m.length c2, .slice A3 t.length c3] w fun e w' => ∃ v, e = .returned (.tuple #[v, .bool (resL Q1 Q2 Q3 Q4 b m t).2]) ∧ SIn w' v (resL Q1 Q2 Q3 Q4 b m t).1 ∧ Below w.heap.size w w' := by
  have HB := Lib.hid h1
  have HM := Lib.hid h2
  have HT := Lib.hid h3
  have CB : CellsS w A1 b := by obtain ⟨A, c, e, _, _, h⟩ := h1; cases e; exact h
  have CM : CellsS w A2 m := by obtain ⟨A, c, e, _, _, h⟩ := h2; cases e; exact h
  have CT : CellsS w A3 t := by obtain ⟨A, c, e, _, _, h⟩ := h3; cases e; exact h
  have HCB := Lib.hid CB
  have HCM := Lib.hid CM
  have HCT := Lib.hid CT
  have hE1 := EqualS_any A2 A3 c2 c3 m t w CM CT (by omega) (by omega)
  have HE1 := Lib.hid hE1
  have HE2 := Lib.hid (fun (W : World) (h : Below w.heap.size w W) => EqualS_any A3 A1 c3 c1 t b W (HCT.out.below h) (HCB.out.below h) (by omega) (by omega))
  have HE3 := Lib.hid (fun (W : World) (h : Below w.heap.size w W) => EqualS_any A2 A1 c2 c1 m b W (HCM.out.below h) (HCB.out.below h) (by omega) (by omega))
  clear h1 h2 h3 CB CM CT hE1
  go_enter Tryd.func34, Tryd.ntmps34
  go_wp2_with fail
  refine HE1.out.mono ?_
  rintro e w1 ⟨rfl, hb1⟩
  have HB1 := Lib.hid hb1
  clear hb1
  by_cases e1 : m = t
  · have hd : decide (m = t) = true := decide_eq_true e1
    rw [hd]
    have hr : resL Q1 Q2 Q3 Q4 b m t = (m, false) := by unfold resL; rw [if_pos (.inl e1)]
    clear e1 hd
    go_wp2_with fail
    refine bodyPost_ret (results_tmp2 rfl _ _ _) rfl ?_
    rw [hr]
    exact ⟨_, rfl, HM.out.below HB1.out, HB1.out⟩
  · have hd : decide (m = t) = false := decide_eq_false e1
    rw [hd]
    go_wp2_with fail
    refine (HE2.out _ HB1.out).mono ?_
    rintro e w2 ⟨rfl, hb2⟩
    have HB2 := Lib.hid (HB1.out.trans (hb2.mono HB1.out.size))
    clear hb2 hd
    by_cases e2 : t = b
    · have hd : decide (t = b) = true := decide_eq_true e2
      rw [hd]
      have hr : resL Q1 Q2 Q3 Q4 b m t = (m, false) := by unfold resL; rw [if_pos (.inr e2)]
      go_wp2_with fail
      refine bodyPost_ret (results_tmp2 rfl _ _ _) rfl ?_
      rw [hr]
      exact ⟨_, rfl, HM.out.below HB2.out, HB2.out⟩
    · have hd : decide (t = b) = false := decide_eq_false e2
      rw [hd]
      go_wp2_with fail
      refine (HE3.out _ HB2.out).mono ?_
      rintro e w3 ⟨rfl, hb3⟩
      have HB3 := Lib.hid (HB2.out.trans (hb3.mono HB2.out.size))
      clear hb3 hd
      by_cases e3 : m = b
      · have hd : decide (m = b) = true := decide_eq_true e3
        rw [hd]
        have hr : resL Q1 Q2 Q3 Q4 b m t = (t, false) := by unfold resL; rw [if_neg (by rintro (h | h); exact e1 h; exact e2 h), if_pos e3]
        go_wp2_with fail
        refine bodyPost_ret (results_tmp2 rfl _ _ _) rfl ?_
        rw [hr]
        exact ⟨_, rfl, HT.out.below HB3.out, HB3.out⟩
      · have hd : decide (m = b) = false := decide_eq_false e3
        rw [hd]
        have hr : resL Q1 Q2 Q3 Q4 b m t = ([Q1] ++ m ++ [Q2] ++ b ++ [Q3] ++ t ++ [Q4], true) := by unfold resL; rw [if_neg (by rintro (h | h); exact e1 h; exact e2 h), if_neg e3]
        have HR := Lib.hid hr
        clear hd hr e1 e2 e3
        have HA1 := Lib.hid ((Below.refl w3.heap.size w3).alloc (Nat.le_refl _) (.cells #[.string Q1] 9))
        obtain ⟨g1, g2, g3⟩ : (A2 = none → m.length = 0 ∧ c2 = 0) ∧ (A1 = none → b.length = 0 ∧ c1 = 0) ∧ (A3 = none → t.length = 0 ∧ c3 = 0) := by
          obtain ⟨_, _, x1, _, y1, _⟩ := HM.out
          obtain ⟨_, _, x2, _, y2, _⟩ := HB.out
          obtain ⟨_, _, x3, _, y3, _⟩ := HT.out
          cases x1; cases x2; cases x3
          exact ⟨y1, y2, y3⟩
        have G1 := Lib.hid g1
        have G2 := Lib.hid g2
        have G3 := Lib.hid g3
        have LL := Lib.hid (And.intro l1 (And.intro l2 l3))
        clear g1 g2 g3
        go_wp2_with (first
          | (at_builtin; refine wpList_appS rfl (.tmp 22) (.tmp 23) rfl w3.heap.size _ [Q1] m rfl (own_fresh w3 Q1 w3.heap.size (Nat.le_refl _)) A2 m.length c2 rfl rfl G1.out ((HCM.out.below HB3.out).below HA1.out) (by have := LL.out; simp; omega) HA1.out.size ?_; intro v4 w4 ho4 hg4; have HO4 := Lib.hid ho4; have HB4 := Lib.hid (grown_from HA1.out (own_fresh w3 Q1 w3.heap.size (Nat.le_refl _)) hg4); clear ho4 hg4)
          | (at_builtin; refine wpList_appS rfl (.tmp 25) (.tmp 26) rfl w3.heap.size v4 _ [Q2] rfl (own_below HO4.out ((Below.refl _ _).alloc (Nat.le_refl _) _)) _ 1 1 rfl rfl (fun h => by cases h) (cellsS_one _ Q2) (by have := LL.out; simp; omega) (Nat.le_trans HB4.out.size (by simp)) ?_; intro v5 w5 ho5 hg5; have HO5 := Lib.hid ho5; have HB5 := Lib.hid (grown_own HB4.out HO4.out hg5); clear ho5 hg5)
          | (at_builtin; refine wpList_appS rfl (.tmp 27) (.tmp 28) rfl w3.heap.size v5 _ b rfl HO5.out A1 b.length c1 rfl rfl G2.out ((HCB.out.below HB3.out).below HB5.out) (by have := LL.out; simp; omega) HB5.out.size ?_; intro v6 w6 ho6 hg6; have HO6 := Lib.hid ho6; have HB6 := Lib.hid (grown_from HB5.out HO5.out hg6); clear ho6 hg6)
          | (at_builtin; refine wpList_appS rfl (.tmp 30) (.tmp 31) rfl w3.heap.size v6 _ [Q3] rfl (own_below HO6.out ((Below.refl _ _).alloc (Nat.le_refl _) _)) _ 1 1 rfl rfl (fun h => by cases h) (cellsS_one _ Q3) (by have := LL.out; simp; omega) (Nat.le_trans HB6.out.size (by simp)) ?_; intro v7 w7 ho7 hg7; have HO7 := Lib.hid ho7; have HB7 := Lib.hid (grown_own HB6.out HO6.out hg7); clear ho7 hg7)
          | (at_builtin; refine wpList_appS rfl (.tmp 32) (.tmp 33) rfl w3.heap.size v7 _ t rfl HO7.out A3 t.length c3 rfl rfl G3.out ((HCT.out.below HB3.out).below HB7.out) (by have := LL.out; simp; omega) HB7.out.size ?_; intro v8 w8 ho8 hg8; have HO8 := Lib.hid ho8; have HB8 := Lib.hid (grown_from HB7.out HO7.out hg8); clear ho8 hg8)
          | (at_builtin; refine wpList_appS rfl (.tmp 35) (.tmp 36) rfl w3.heap.size v8 _ [Q4] rfl (own_below HO8.out ((Below.refl _ _).alloc (Nat.le_refl _) _)) _ 1 1 rfl rfl (fun h => by cases h) (cellsS_one _ Q4) (by have := LL.out; simp; omega) (Nat.le_trans HB8.out.size (by simp)) ?_; intro v9 w9 ho9 hg9; have HO9 := Lib.hid ho9; have HB9 := Lib.hid (grown_own HB8.out HO8.out hg9); clear ho9 hg9))
        refine bodyPost_ret (results_tmp2 rfl _ _ _) rfl ?_
        rw [HR.out]
        exact ⟨_, rfl, own_sin HO9.out, HB3.out.trans (HB9.out.mono HB3.out.size)⟩
end Go.Proofs.YtkidcleffllhbaaDoor.Dt
