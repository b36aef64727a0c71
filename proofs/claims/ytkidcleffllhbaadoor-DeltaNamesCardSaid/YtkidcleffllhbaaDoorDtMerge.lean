/- delta.Merge. -/
import Derived.Test.YtkidcleffllhbaaDoorDtRes
import Derived.Test.YtkidcleffllhbaaDoorDtKept
import Derived.Deep.RegionHeld3
import Derived.Lib.SplitLaws
namespace Go.Proofs.YtkidcleffllhbaaDoor.Dt
open Go.RowKit Go.Proofs Go.Proofs.YtkidcleffllhbaaDoor.U Go.Proofs.YtkidcleffllhbaaDoor.Txt
set_option linter.unusedVariables false
set_option linter.unusedSimpArgs false

theorem cells_three (w : World) (s1 s2 s3 : ByteArray) : CellsS (w.alloc (.cells #[.string s1, .string s2, .string s3] 9)) (some ⟨w.heap.size, 0, none⟩) [s1, s2, s3] := fun _ => by
  refine ⟨_, rfl, fun j hj => ?_⟩
  refine news_alloc w #[.string s1, .string s2, .string s3] 9 j _ ?_
  have : j = 0 ∨ j = 1 ∨ j = 2 := by simp at hj; omega
  rcases this with rfl | rfl | rfl <;> rfl
theorem lines_len (s : ByteArray) : (linesB s).length = Lib.countB s ⟨#[10]⟩ + 1 := Lib.splitB_all ⟨#[10]⟩ (by decide) 0 _ _ rfl
theorem join_tail (sep : List UInt8) : ∀ r : List (List UInt8), r ≠ [] → Lib.joinTail sep r = sep ++ Lib.join r sep
  | [], h => absurd rfl h
  | x :: r, _ => by rw [Lib.join_cons]; simp [Lib.joinTail]
theorem splitK_ne (sep : List UInt8) (save k : Nat) (s : List UInt8) : Lib.splitK sep save k s ≠ [] := by
  cases k with
  | zero => simp [Lib.splitK]
  | succ k => unfold Lib.splitK; split <;> simp
theorem join_split (sep : List UInt8) : ∀ (k : Nat) (s : List UInt8), Lib.join (Lib.splitK sep 0 k s) sep = s
  | 0, s => by rw [Lib.splitK, Lib.join_one]
  | k + 1, s => by
    unfold Lib.splitK
    rcases Lib.index_spec s sep with ⟨h1, _⟩ | ⟨i, h1, h2, h3⟩
    · rw [h1]; simp [Lib.join_one]
    · rw [h1]
      have hne : ((i : Int) == -1) = false := by first | (simp; done) | (simp; omega)
      rw [hne]
      simp only [Bool.false_eq_true, if_false, Int.toNat_natCast, Nat.add_zero]
      rw [Lib.join_cons, join_tail sep _ (splitK_ne _ _ _ _), join_split sep k]
      have h4 : sep <+: s.drop i := List.isPrefixOf_iff_prefix.1 (show sep.isPrefixOf (s.drop i) = true from h3.1)
      obtain ⟨t, ht⟩ := h4
      have h5 : s.drop (i + sep.length) = t := by rw [← List.drop_drop, ← ht, List.drop_left]
      rw [h5, ht, List.take_append_drop]
theorem lines_join (s : ByteArray) : Lib.join ((linesB s).map (·.data.toList)) [10] = s.data.toList := by
  unfold linesB
  rw [Lib.splitB_data]
  exact join_split [10] _ _
theorem mem_tail {sep x : List UInt8} : ∀ {r : List (List UInt8)}, x ∈ r → x.length ≤ (Lib.joinTail sep r).length
  | y :: r, h => by
    simp only [Lib.joinTail, List.map_cons, List.flatten_cons, List.length_append]
    rcases List.mem_cons.1 h with rfl | h
    · omega
    · have := mem_tail (sep := sep) h
      simp only [Lib.joinTail] at this
      omega
theorem mem_join {sep x : List UInt8} {r : List (List UInt8)} (h : x ∈ r) : x.length ≤ (Lib.join r sep).length := by
  cases r with
  | nil => cases h
  | cons y r =>
    rw [Lib.join_cons, List.length_append]
    rcases List.mem_cons.1 h with rfl | h
    · omega
    · have := mem_tail (sep := sep) h; omega
theorem lines_small {s a : ByteArray} (h : a ∈ linesB s) : a.size ≤ s.size := by
  have h1 : a.data.toList ∈ (linesB s).map (·.data.toList) := List.mem_map.2 ⟨a, h, rfl⟩
  have h2 := mem_join (sep := [10]) h1
  rw [lines_join, size_toList, size_toList] at h2
  exact h2
theorem tail_len (sep : List UInt8) (n : Nat) : ∀ r : List (List UInt8), (∀ x ∈ r, x.length ≤ n) → (Lib.joinTail sep r).length ≤ r.length * (n + sep.length)
  | [], _ => by simp [Lib.joinTail]
  | x :: r, h => by
    have := tail_len sep n r (fun y hy => h y (List.mem_cons_of_mem _ hy))
    have h1 := h x (List.mem_cons_self ..)
    simp only [Lib.joinTail, List.map_cons, List.flatten_cons, List.length_append, List.length_cons] at this ⊢
    rw [Nat.add_mul]
    omega
theorem join_len (sep : List UInt8) (n : Nat) (r : List (List UInt8)) (h : ∀ x ∈ r, x.length ≤ n) : (Lib.join r sep).length ≤ r.length * (n + sep.length) := by
  cases r with
  | nil => simp [Lib.join_nil]
  | cons x r =>
    have h1 := tail_len sep n r (fun y hy => h y (List.mem_cons_of_mem _ hy))
    have h2 := h x (List.mem_cons_self ..)
    rw [Lib.join_cons, List.length_append, List.length_cons, Nat.add_mul]
    omega
/-- A list's join, in bytes. -/
def joinB (l : List ByteArray) : ByteArray := ⟨(Lib.join (l.map (·.data.toList)) [10]).toArray⟩
theorem join_lines (s : ByteArray) : joinB (linesB s) = s := by
  unfold joinB
  rw [lines_join]
set_option maxRecDepth 100000 in
theorem JoinB_any (v : Value) (l : List ByteArray) (B : Nat) (w : World) (h : w.ownsRow B 9 1 v l.length (strs l)) (hl : l.length ≤ 20000000) (hs : ∀ s ∈ l, s.size ≤ 1000000) :
    Calls Tryd.prog 35 #[v, .string ⟨#[10]⟩] w fun e w' => e = .returned (.string (joinB l)) ∧ Below w.heap.size w w' := by
  rcases h.2 with ⟨hv, h0⟩ | ⟨g, cap, cur, hv, hbg, hg, hc, hrest⟩
  · obtain rfl : l = [] := List.length_eq_zero_iff.1 h0
    subst hv
    refine (Tryd.strings_Join_none none 0 ⟨#[10]⟩ w).mono ?_
    rintro e w' ⟨rfl, rfl⟩
    exact ⟨rfl, Below.refl _ _⟩
  · subst hv
    refine Tryd.strings_Join g 0 cap l ⟨#[10]⟩ w (fun j x hx => ?_) (Array.getElem?_eq_some_iff.1 hg).1 (by omega) hc ?_
    · have hj := (List.getElem?_eq_some_iff.1 hx).1
      rw [Nat.zero_add, h.cellAt j (by omega)]
      simp [strs, hx]
    · have := join_len [10] 1000000 (l.map (·.data.toList)) (fun x hx => by
        obtain ⟨s, h1, rfl⟩ := List.mem_map.1 hx
        exact hs s h1)
      rw [List.length_map] at this
      show (Lib.join (l.map (·.data.toList)) [10]).length ≤ _
      have h3 : ([10] : List UInt8).length = 1 := rfl
      rw [h3] at this
      omega
theorem resL_len (q1 q2 q3 q4 : ByteArray) (b m t : List ByteArray) : (resL q1 q2 q3 q4 b m t).1.length ≤ b.length + m.length + t.length + 4 := by
  unfold resL
  split
  · simp; omega
  · split
    · simp; omega
    · simp; omega
theorem resL_small (b m t : List ByteArray) (h1 : ∀ s ∈ b, s.size ≤ 1000000) (h2 : ∀ s ∈ m, s.size ≤ 1000000) (h3 : ∀ s ∈ t, s.size ≤ 1000000) : ∀ s ∈ (resL Q1 Q2 Q3 Q4 b m t).1, s.size ≤ 1000000 := by
  have e1 : Q1.size ≤ 1000000 := by decide
  have e2 : Q2.size ≤ 1000000 := by decide
  have e3 : Q3.size ≤ 1000000 := by decide
  have e4 : Q4.size ≤ 1000000 := by decide
  unfold resL
  split
  · exact h2
  · split
    · exact h3
    · intro s hs
      simp only [List.mem_append, List.mem_singleton] at hs
      rcases hs with (((((rfl | h) | rfl) | h) | rfl) | h) | rfl
      · exact e1
      · exact h2 s h
      · exact e2
      · exact h1 s h
      · exact e3
      · exact h3 s h
      · exact e4
theorem seg_mem {l : List ByteArray} {a z : Nat} {s : ByteArray} (h : s ∈ seg l a z) : s ∈ l := List.mem_of_mem_take (List.mem_of_mem_drop h)
theorem sin_seg {w : World} {A' : Option Addr} {l : List ByteArray} {a z c : Nat} (hz : z ≤ l.length) (hc : l.length ≤ c) (hA : A' ≠ none) (h : CellsS w A' (seg l a z)) : SIn w (.slice A' (seg l a z).length (c - a)) (seg l a z) :=
  ⟨A', c - a, rfl, by rw [seg_len _ _ _ hz]; omega, fun e => absurd e hA, h⟩
/-- A closed list of what is kept, in memory. -/
theorem info_i64 : (Tryd.prog.info? 3).map (fun i => (i.zero, i.size, i.bytes)) = some (some (.int .i64 0), 1, 8) := by kernel_rfl
set_option maxRecDepth 100000 in
set_option maxHeartbeats 8000000 in
theorem Merge_any (S T U : ByteArray) (r1 r2 r3 : List Int) (w : World) (t1 : Text S r1) (t2 : Text T r2) (t3 : Text U r3) (hs1 : S.size ≤ 1000000) (hs2 : T.size ≤ 1000000) (hs3 : U.size ≤ 1000000)
    (hl1 : (linesB S).length ≤ 2048) (hl2 : (linesB T).length ≤ 2048) (hl3 : (linesB U).length ≤ 2048) (hg : Bars w) (hm : MaxIn w) :
    Calls Tryd.prog 12 #[.string S, .string T, .string U] w fun e w' => e = .returned (.tuple #[.string (joinB (mergeL Q1 Q2 Q3 Q4 (linesB S) (linesB T) (linesB U)).1), .int .i64 (mergeL Q1 Q2 Q3 Q4 (linesB S) (linesB T) (linesB U)).2, .int .i64 0]) ∧ Below w.heap.size w w' := by
  have CT := Lib.hid (fun (W : World) (A : Option Addr) (c : Nat) (hc : CellsS W A [S, T, U]) (hg : Bars W) => texts_ok A c [S, T, U] W hc (by simp) (fun s hs => by
    rcases List.mem_cons.1 hs with rfl | hs
    · exact ⟨_, t1⟩
    · rcases List.mem_cons.1 hs with rfl | hs
      · exact ⟨_, t2⟩
      · rw [List.mem_singleton.1 hs]; exact ⟨_, t3⟩) hg)
  have HG := Lib.hid hg
  have HM := Lib.hid hm
  have HS := Lib.hid (And.intro hs1 (And.intro hs2 hs3))
  clear t1 t2 t3 hg hm
  obtain ⟨i0, hi, hz0, hz1, hz2⟩ := info_parts info_i64
  have HI := Lib.hid (And.intro hi (And.intro hz0 (And.intro hz1 hz2)))
  clear hi hz0 hz1 hz2
  go_enter Tryd.func12, Tryd.ntmps12
  go_wp2_with fail
  refine (CT.out _ _ _ (cells_three w S T U) (HG.out.below ((Below.refl _ _).alloc (Nat.le_refl _) _))).mono ?_
  rintro e w1 ⟨rfl, hb1⟩
  have HB1 := Lib.hid (((Below.refl w.heap.size w).alloc (Nat.le_refl _) _).trans (hb1.mono (by simp)))
  clear hb1 CT
  go_wp2_with fail
  refine (lines_any S _ (by omega) (HM.out.below HB1.out) (lines_len S)).mono ?_
  rintro e w2 ⟨A1, c1, rfl, k1, n1, hc1, hb2⟩
  have HC1 := Lib.hid hc1
  have HB2 := Lib.hid (HB1.out.trans (hb2.mono HB1.out.size))
  clear hc1 hb2
  go_wp2_with fail
  refine (lines_any T _ (by omega) (HM.out.below HB2.out) (lines_len T)).mono ?_
  rintro e w3 ⟨A2, c2, rfl, k2, n2, hc2, hb3⟩
  have HC1' := Lib.hid (HC1.out.below hb3)
  have HC2 := Lib.hid hc2
  have HB3 := Lib.hid (HB2.out.trans (hb3.mono HB2.out.size))
  clear hc2 hb3 HC1
  go_wp2_with fail
  refine (lines_any U _ (by omega) (HM.out.below HB3.out) (lines_len U)).mono ?_
  rintro e w4 ⟨A3, c3, rfl, k3, n3, hc3, hb4⟩
  have HC1 := Lib.hid (HC1'.out.below hb4)
  have HC2' := Lib.hid (HC2.out.below hb4)
  have HC3 := Lib.hid hc3
  have HB4 := Lib.hid (HB3.out.trans (hb4.mono HB3.out.size))
  have SM := Lib.hid (show (∀ s ∈ linesB S, s.size ≤ 1000000) ∧ (∀ s ∈ linesB T, s.size ≤ 1000000) ∧ (∀ s ∈ linesB U, s.size ≤ 1000000) from ⟨fun s h => Nat.le_trans (lines_small h) hs1, fun s h => Nat.le_trans (lines_small h) hs2, fun s h => Nat.le_trans (lines_small h) hs3⟩)
  clear hc3 hb4 HC1' HC2 HB1 HB2 HB3 HS hs1 hs2 hs3
  obtain ⟨b, hb⟩ : ∃ b, linesB S = b := ⟨_, rfl⟩
  obtain ⟨m, hm⟩ : ∃ m, linesB T = m := ⟨_, rfl⟩
  obtain ⟨t, ht⟩ : ∃ t, linesB U = t := ⟨_, rfl⟩
  have HLB := Lib.hid hb
  have HLM := Lib.hid hm
  have HLT := Lib.hid ht
  rw [hb] at HC1 SM hl1 k1 ⊢
  rw [hm] at HC2' SM hl2 k2 ⊢
  rw [ht] at HC3 SM hl3 k3 ⊢
  clear hb hm ht
  have HK1 := Lib.hid (kept_any A1 A2 c1 c2 b m w4 HC1.out HC2'.out hl1 hl2)
  have HK2 := Lib.hid (fun (W : World) (h : Below w4.heap.size w4 W) => kept_any A1 A3 c1 c3 b t W (HC1.out.below h) (HC3.out.below h) hl1 hl3)
  have i1 : (b.length : Int) ≤ 2048 := by omega
  have i2 : (m.length : Int) ≤ 2048 := by omega
  have i3 : (t.length : Int) ≤ 2048 := by omega
  go_wp2_with fail
  refine HK1.out.mono ?_
  rintro e w5 ⟨v1, rfl, ho5, hb5⟩
  have HO5 := Lib.hid (own_weak ho5 (Nat.le_refl _))
  have HB5 := Lib.hid hb5
  clear ho5 hb5 HK1
  go_wp2_with (at_builtin; refine wpList_append_lies _ rfl (.tmp 52) (.tmp 55) 46 rfl w4.heap.size 3 i0 (.int .i64 0) 1 8 Tryd.underlying46 HI.out.1 HI.out.2.1 HI.out.2.2.1 HI.out.2.2.2 rfl (by decide) v1 b.length (i64s (keptL b m)) rfl (own_below HO5.out ((Below.refl _ _).alloc (Nat.le_refl _) _)) _ 1 1 [.int .i64 m.length] rfl rfl (fun j u hj => news_alloc _ _ _ j u hj) (by simp [Value.oneCell']) (by decide) (by unfold maxLen; omega) (by omega) (by have h3 := HB5.out.size; simp; omega) _ rfl ?_; intro gm cm w6 hown hgrow hat hgl; have HO6 := Lib.hid hown; have HB6 := Lib.hid (grown_own HB5.out HO5.out hgrow); clear hown hgrow hat hgl)
  refine (HK2.out _ HB6.out).mono ?_
  rintro e w7 ⟨v2, rfl, ho7, hb7⟩
  have HM6 := Lib.hid (show w6.ownsRow w4.heap.size 3 1 (.slice (some ⟨gm, 0, none⟩) (b.length + 1) cm) (b.length + 1) (i64s (keptE b m)) by
    have h9 := HO6.out
    have e9 : i64s (keptL b m) ++ [.int .i64 m.length] = i64s (keptE b m) := by simp [i64s, keptE]
    rw [e9] at h9
    exact h9)
  have HO7 := Lib.hid ho7
  have HB67 := Lib.hid hb7
  have HB7 := Lib.hid (HB6.out.trans (hb7.mono HB6.out.size))
  clear ho7 hb7 HK2 HO5 HO6
  go_wp2_with (at_builtin; refine wpList_append_lies _ rfl (.tmp 59) (.tmp 62) 46 rfl w6.heap.size 3 i0 (.int .i64 0) 1 8 Tryd.underlying46 HI.out.1 HI.out.2.1 HI.out.2.2.1 HI.out.2.2.2 rfl (by decide) v2 b.length (i64s (keptL b t)) rfl (own_below HO7.out ((Below.refl _ _).alloc (Nat.le_refl _) _)) _ 1 1 [.int .i64 t.length] rfl rfl (fun j u hj => news_alloc _ _ _ j u hj) (by simp [Value.oneCell']) (by decide) (by unfold maxLen; omega) (by omega) (by have h3 := HB67.out.size; simp; omega) _ rfl ?_; intro gt ct w8 hown hgrow hat hgl; have HB8 := Lib.hid (grown_own HB67.out HO7.out hgrow); have HT8 := Lib.hid (show w8.ownsRow w6.heap.size 3 1 (.slice (some ⟨gt, 0, none⟩) (b.length + 1) ct) (b.length + 1) (i64s (keptE b t)) by (have e9 : i64s (keptL b t) ++ [.int .i64 t.length] = i64s (keptE b t) := by simp [i64s, keptE]); rw [e9] at hown; exact hown); clear hown hgrow hat hgl)
  have HM8 := Lib.hid (own_below HM6.out HB8.out)
  have HB48 := Lib.hid (HB6.out.trans (HB8.out.mono HB6.out.size))
  have HC1w := Lib.hid (HC1.out.below HB48.out)
  have HC2w := Lib.hid (HC2'.out.below HB48.out)
  have HC3w := Lib.hid (HC3.out.below HB48.out)
  have HBW := Lib.hid (HB4.out.trans (HB48.out.mono HB4.out.size))
  clear HM6 HB8 HB48 HB67 HB7 HB6 HB5 HB4 HC1 HC2' HC3 HO7
  obtain ⟨N, hN⟩ : ∃ N, b.length = N := ⟨_, rfl⟩
  have HN := Lib.hid hN
  obtain ⟨RES, hRES⟩ : ∃ RES, mergeL Q1 Q2 Q3 Q4 b m t = RES := ⟨_, rfl⟩
  have HRS := Lib.hid hRES
  rw [hN] at hl1 k1 i1 HM8 HT8 ⊢
  clear hN hRES
  go_loopw [15, 16, 17, 18, 19, 20] (fun v n bi mi ti i wr => ∃ (I BI MI TI NN f : Nat) (out : List ByteArray), n = .int .i64 NN ∧ bi = .int .i64 BI ∧ mi = .int .i64 MI ∧ ti = .int .i64 TI ∧ i = .int .i64 I ∧ I ≤ N + 1 ∧ f + I = N + 1 ∧ BI ≤ I ∧ (∀ k n', I ≤ k → k ≤ N → (keptE b m).getD k 0 = ((n' : Nat) : Int) → MI ≤ n') ∧ (∀ k n', I ≤ k → k ≤ N → (keptE b t).getD k 0 = ((n' : Nat) : Int) → TI ≤ n') ∧ mgF Q1 Q2 Q3 Q4 b m t (keptE b m) (keptE b t) f I BI MI TI out NN = RES ∧ NN ≤ I ∧ out.length ≤ I * 6200 ∧ (∀ s ∈ out, s.size ≤ 1000000) ∧ wr.ownsRow w8.heap.size 9 1 v out.length (strs out) ∧ Below w8.heap.size w8 wr) (fun _ _ _ _ _ i _ => N + 1 - (intOf i).toNat)
  case atStart => exact ⟨0, 0, 0, 0, 0, N + 1, [], rfl, rfl, rfl, rfl, rfl, Nat.zero_le _, by omega, Nat.le_refl _, fun _ _ _ _ _ => Nat.zero_le _, fun _ _ _ _ _ => Nat.zero_le _, by rw [← HRS.out, ← HN.out]; rfl, Nat.zero_le _, Nat.zero_le _, fun s h => (by cases h), ⟨rfl, .inl ⟨rfl, rfl⟩⟩, Below.refl _ _⟩
  case round =>
    obtain ⟨I, BI, MI, TI, NN, f, out, rfl, rfl, rfl, rfl, rfl, hI, hf, hBI, hMI, hTI, hmg, hNN, hol, hos, hown, hb⟩ := hrel
    have HMI := Lib.hid hMI
    have HTI := Lib.hid hTI
    have HMG := Lib.hid hmg
    have HOS := Lib.hid hos
    have HO := Lib.hid hown
    have HB := Lib.hid hb
    clear hMI hTI hmg hos hown hb
    by_cases hlt : I ≤ N
    · obtain ⟨f, rfl⟩ : ∃ f', f = f' + 1 := ⟨f - 1, by omega⟩
      have cM := (own_below HM8.out HB.out).cellAt I (by omega)
      have cT := (own_below HT8.out HB.out).cellAt I (by omega)
      have eM : (i64s (keptE b m))[I]? = some (.int .i64 ((keptE b m).getD I 0)) := by
        have hl : (keptE b m).length = N + 1 := by have := (kept_ok b m).len; have := HN.out; simp [keptE]; omega
        simp [i64s, List.getD, List.getElem?_eq_getElem (show I < (keptE b m).length by omega)]
      have eT : (i64s (keptE b t))[I]? = some (.int .i64 ((keptE b t).getD I 0)) := by
        have hl : (keptE b t).length = N + 1 := by have := (kept_ok b t).len; have := HN.out; simp [keptE]; omega
        simp [i64s, List.getD, List.getElem?_eq_getElem (show I < (keptE b t).length by omega)]
      rw [eM] at cM
      rw [eT] at cT
      have hIi : (I : Int) ≤ N := by omega
      rcases keptE_at b m I (by rw [HN.out]; exact hlt) with ⟨hm1, hm2⟩ | ⟨x, hm1, hm2, hm3, hm4⟩
      · rw [hm1] at cM
        have hst : mgF Q1 Q2 Q3 Q4 b m t (keptE b m) (keptE b t) f (I + 1) BI MI TI out NN = RES := by
          rw [← HMG.out]; conv => rhs; rw [mgF]
          rw [if_pos (.inl (by rw [hm1]; decide))]
        have HST := Lib.hid hst
        clear eM eT hm1 hm2 hst cT
        go_wp2_with fail
        go_roundw
        case rel => exact ⟨I + 1, BI, MI, TI, NN, f, out, rfl, rfl, rfl, rfl, by go_num, by omega, by omega, by omega, fun k n' hk => HMI.out k n' (by omega), fun k n' hk => HTI.out k n' (by omega), HST.out, by omega, by omega, HOS.out, HO.out, HB.out⟩
        case measure => simp [intOf]; omega
      · rw [hm1] at cM
        have hx0 : ¬ (x : Int) < 0 := by omega
        rcases keptE_at b t I (by rw [HN.out]; exact hlt) with ⟨ht1, ht2⟩ | ⟨y, ht1, ht2, ht3, ht4⟩
        · rw [ht1] at cT
          have hst : mgF Q1 Q2 Q3 Q4 b m t (keptE b m) (keptE b t) f (I + 1) BI MI TI out NN = RES := by
            rw [← HMG.out]; conv => rhs; rw [mgF]
            rw [if_pos (.inr (by rw [ht1]; decide))]
          have HST := Lib.hid hst
          clear eM eT hm1 hm2 hm3 hm4 ht1 ht2 hst
          go_wp2_with fail
          go_roundw
          case rel => exact ⟨I + 1, BI, MI, TI, NN, f, out, rfl, rfl, rfl, rfl, by go_num, by omega, by omega, by omega, fun k n' hk => HMI.out k n' (by omega), fun k n' hk => HTI.out k n' (by omega), HST.out, by omega, by omega, HOS.out, HO.out, HB.out⟩
          case measure => simp [intOf]; omega
        · rw [ht1] at cT
          have hy0 : ¬ (y : Int) < 0 := by omega
          have hxl := HMI.out I x (Nat.le_refl _) hlt hm1
          have hyl := HTI.out I y (Nat.le_refl _) hlt ht1
          obtain ⟨B1, q1, p1, d1⟩ := sliceS_mid A1 N c1 BI I hBI hlt k1 n1
          obtain ⟨B2, q2, p2, d2⟩ := sliceS_mid A2 m.length c2 MI x hxl hm2 k2 n2
          obtain ⟨B3, q3, p3, d3⟩ := sliceS_mid A3 t.length c3 TI y hyl ht2 k3 n3
          have hsl1 := seg_len b BI I (by rw [HN.out]; exact hlt)
          have hsl2 := seg_len m MI x hm2
          have hsl3 := seg_len t TI y ht2
          have hrs : ∀ W, Below w8.heap.size w8 W → Calls Tryd.prog 34 #[.slice B1 (I - BI) (c1 - BI), .slice B2 (x - MI) (c2 - MI), .slice B3 (y - TI) (c3 - TI)] W fun e W' => ∃ v, e = .returned (.tuple #[v, .bool (resL Q1 Q2 Q3 Q4 (seg b BI I) (seg m MI x) (seg t TI y)).2]) ∧ SIn W' v (resL Q1 Q2 Q3 Q4 (seg b BI I) (seg m MI x) (seg t TI y)).1 ∧ Below W.heap.size W W' := by
            intro W hW
            have := resolved_any B1 B2 B3 (c1 - BI) (c2 - MI) (c3 - TI) (seg b BI I) (seg m MI x) (seg t TI y) W (sin_seg (by rw [HN.out]; exact hlt) (by rw [HN.out]; exact k1) p1 (d1 W b HN.out (HC1w.out.below hW))) (sin_seg hm2 k2 p2 (d2 W m rfl (HC2w.out.below hW))) (sin_seg ht2 k3 p3 (d3 W t rfl (HC3w.out.below hW))) (by omega) (by omega) (by omega)
            rw [hsl1, hsl2, hsl3] at this
            exact this
          have hrl := resL_len Q1 Q2 Q3 Q4 (seg b BI I) (seg m MI x) (seg t TI y)
          rw [hsl1, hsl2, hsl3] at hrl
          have hrm := resL_small (seg b BI I) (seg m MI x) (seg t TI y) (fun s h => SM.out.1 s (seg_mem h)) (fun s h => SM.out.2.1 s (seg_mem h)) (fun s h => SM.out.2.2 s (seg_mem h))
          have hst : mgF Q1 Q2 Q3 Q4 b m t (keptE b m) (keptE b t) f (I + 1) (I + 1) (x + 1) (y + 1) (out ++ (resL Q1 Q2 Q3 Q4 (seg b BI I) (seg m MI x) (seg t TI y)).1 ++ b[I]?.toList) (NN + if (resL Q1 Q2 Q3 Q4 (seg b BI I) (seg m MI x) (seg t TI y)).2 then 1 else 0) = RES := by
            rw [← HMG.out]; conv => rhs; rw [mgF]
            have hcn : ¬ ((x : Int) < 0 ∨ (y : Int) < 0) := by omega
            rw [hm1, ht1, if_neg hcn, Int.toNat_natCast, Int.toNat_natCast]
          generalize resL Q1 Q2 Q3 Q4 (seg b BI I) (seg m MI x) (seg t TI y) = rr at hrs hrl hrm hst
          obtain ⟨bt, cf⟩ := rr
          simp only at hrs hrl hrm hst
          have HRES := Lib.hid hrs
          have HRM := Lib.hid hrm
          have HST := Lib.hid hst
          have hbtl : bt.length ≤ 6150 := by omega
          have NXM := Lib.hid (fun k n' (hk : I + 1 ≤ k) (hkN : k ≤ N) (h : (keptE b m).getD k 0 = ((n' : Nat) : Int)) => keptE_up b m I k x n' (by omega) (by rw [HN.out]; exact hkN) hm1 h)
          have NXT := Lib.hid (fun k n' (hk : I + 1 ≤ k) (hkN : k ≤ N) (h : (keptE b t).getD k 0 = ((n' : Nat) : Int)) => keptE_up b t I k y n' (by omega) (by rw [HN.out]; exact hkN) ht1 h)
          have CMT := Lib.hid (fun (W : World) (h : Below w8.heap.size w8 W) => (show W.cell? ⟨gm, I, none⟩ = some (.int .i64 x) ∧ W.cell? ⟨gt, I, none⟩ = some (.int .i64 y) by
            have g1 := (own_below HM8.out h).cellAt I (by omega)
            have g2 := (own_below HT8.out h).cellAt I (by omega)
            rw [eM, hm1] at g1
            rw [eT, ht1] at g2
            exact ⟨g1, g2⟩))
          clear hrs hrl hrm hst d1 d2 d3 p1 p2 p3 hsl1 hsl2 hsl3 eM eT hm1 ht1 hm3 hm4 ht3 ht4
          have hIN1 : I < N + 1 := by omega
          have hIN2 : (I : Int) < (N : Int) + 1 := by omega
          have hIN3 : (0 : Int) ≤ I := by omega
          go_upto_region 14 with fail
          go_region_held3 (fun w' => w'.cell? ⟨gm, I, none⟩ = some (.int .i64 x) ∧ w'.cell? ⟨gt, I, none⟩ = some (.int .i64 y))
            (first | exact ⟨cM, cT⟩ | exact CMT.out _ HB9.out)
            (first | (go_simp; (with_reducible refine (HRES.out _ (by first | exact HB.out.drew | exact HB.out)).mono ?_); rintro e w9 ⟨v9, rfl, hs9, hb9⟩; have HS9 := Lib.hid hs9; have HB9' := Lib.hid hb9; have HB9 := Lib.hid (show Below w8.heap.size w8 w9 from HB.out.drew.trans (hb9.mono HB.out.drew.size)); clear hs9 hb9; dsimp only))
          have HO9 := Lib.hid (show w9.ownsRow w8.heap.size 9 1 u15 out.length (strs out) from own_below (own_drew1 HO.out) HB9'.out)
          obtain ⟨A9, c9, rfl, hc9, hn9, hcs9⟩ := HS9.out
          have HN9 := Lib.hid hn9
          have HCS9 := Lib.hid hcs9
          clear hc9 hn9 hcs9 cM cT
          have hx2 : (x : Int) ≤ 2048 := by omega
          have hy2 : (y : Int) ≤ 2048 := by omega
          have hnn2 : (NN : Int) ≤ 2049 := by omega
          have hol2 : out.length ≤ 13000000 := by omega
          by_cases hIN : I < N
          · have hIb : I < b.length := by rw [HN.out]; exact hIN
            have hbI := List.getElem?_eq_getElem hIb
            obtain ⟨ad1, rfl, _⟩ := HC1w.out (by omega)
            have HCI := Lib.hid (fun (W : World) (h : Below w8.heap.size w8 W) => (show W.cell? (ad1.add I) = some (.string b[I]) by
              obtain ⟨ad', e, hc⟩ := (HC1w.out.below h) (by omega)
              cases e
              rw [hc I hIb, List.getD_eq_getElem?_getD, hbI, Option.getD_some]))
            have HSZ := Lib.hid (show ∀ s ∈ out ++ bt ++ [b[I]], s.size ≤ 1000000 from fun s hs => by
              rcases List.mem_append.1 hs with hs | hs
              · rcases List.mem_append.1 hs with hs | hs
                · exact HOS.out s hs
                · exact HRM.out s hs
              · rw [List.mem_singleton.1 hs]; exact SM.out.1 _ (List.getElem_mem _))
            have hst2 := HST.out
            rw [hbI, Option.toList_some] at hst2
            generalize b[I] = sI at HCI HSZ hst2
            have HST1 := Lib.hid hst2
            have hIi2 : (I : Int) < N := by omega
            clear hst2 hbI hIb
            cases cf with
            | true =>
              have HST2 := Lib.hid (show _ = RES from HST1.out)
              go_wp2_with (first
                | (at_builtin; refine wpList_appS rfl (.tmp 104) (.tmp 105) rfl w8.heap.size u15 out bt rfl HO9.out A9 bt.length c9 rfl rfl HN9.out HCS9.out (by omega) HB9.out.size ?_; intro v10 w10 ho10 hg10; have HO10 := Lib.hid ho10; have HB10 := Lib.hid (grown_from HB9.out HO9.out hg10); clear ho10 hg10; obtain ⟨cM10, cT10⟩ := CMT.out _ HB10.out; have yI := HCI.out w10 HB10.out)
                | (at_builtin; refine wpList_appS rfl (.tmp 114) (.tmp 119) rfl w8.heap.size v10 _ [sI] rfl (own_below HO10.out ((Below.refl _ _).alloc (Nat.le_refl _) _)) _ 1 1 rfl rfl (fun h => by cases h) (cellsS_one _ sI) (by rw [List.length_append]; omega) (Nat.le_trans HB10.out.size (by simp)) ?_; intro v11 w11 ho11 hg11; have HO11 := Lib.hid ho11; have HB11 := Lib.hid (grown_own HB10.out HO10.out hg11); clear ho11 hg11 cM10 cT10 yI; obtain ⟨cM11, cT11⟩ := CMT.out _ HB11.out))
              go_quiet (fail)
              go_wp2_with fail
              go_roundw
              case rel =>
                refine ⟨I + 1, I + 1, x + 1, y + 1, NN + 1, f, out ++ bt ++ [sI], by go_num, by go_num, by go_num, by go_num, by go_num, by omega, by omega, by omega, fun k n' h1 h2 h3 => NXM.out k n' h1 h2 h3, fun k n' h1 h2 h3 => NXT.out k n' h1 h2 h3, HST2.out, by omega, by rw [List.length_append, List.length_append, List.length_singleton]; omega, HSZ.out, HO11.out, pw_below HB11.out _⟩
              case measure => simp [intOf]; omega
            | false =>
              have HST2 := Lib.hid (show _ = RES from HST1.out)
              go_wp2_with (first
                | (at_builtin; refine wpList_appS rfl (.tmp 104) (.tmp 105) rfl w8.heap.size u15 out bt rfl HO9.out A9 bt.length c9 rfl rfl HN9.out HCS9.out (by omega) HB9.out.size ?_; intro v10 w10 ho10 hg10; have HO10 := Lib.hid ho10; have HB10 := Lib.hid (grown_from HB9.out HO9.out hg10); clear ho10 hg10; obtain ⟨cM10, cT10⟩ := CMT.out _ HB10.out; have yI := HCI.out w10 HB10.out)
                | (at_builtin; refine wpList_appS rfl (.tmp 114) (.tmp 119) rfl w8.heap.size v10 _ [sI] rfl (own_below HO10.out ((Below.refl _ _).alloc (Nat.le_refl _) _)) _ 1 1 rfl rfl (fun h => by cases h) (cellsS_one _ sI) (by rw [List.length_append]; omega) (Nat.le_trans HB10.out.size (by simp)) ?_; intro v11 w11 ho11 hg11; have HO11 := Lib.hid ho11; have HB11 := Lib.hid (grown_own HB10.out HO10.out hg11); clear ho11 hg11 cM10 cT10 yI; obtain ⟨cM11, cT11⟩ := CMT.out _ HB11.out))
              go_quiet (fail)
              go_wp2_with fail
              go_roundw
              case rel =>
                refine ⟨I + 1, I + 1, x + 1, y + 1, NN, f, out ++ bt ++ [sI], by go_num, by go_num, by go_num, by go_num, by go_num, by omega, by omega, by omega, fun k n' h1 h2 h3 => NXM.out k n' h1 h2 h3, fun k n' h1 h2 h3 => NXT.out k n' h1 h2 h3, HST2.out, by omega, by rw [List.length_append, List.length_append, List.length_singleton]; omega, HSZ.out, HO11.out, pw_below HB11.out _⟩
              case measure => simp [intOf]; omega
          · obtain rfl : I = N := by omega
            have HSZ := Lib.hid (show ∀ s ∈ out ++ bt, s.size ≤ 1000000 from fun s hs => by
              rcases List.mem_append.1 hs with hs | hs
              · exact HOS.out s hs
              · exact HRM.out s hs)
            have hst2 := HST.out
            rw [List.getElem?_eq_none (by rw [HN.out]; exact Nat.le_refl _), Option.toList_none, List.append_nil] at hst2
            have HST1 := Lib.hid hst2
            clear hst2
            cases cf with
            | true =>
              have HST2 := Lib.hid (show _ = RES from HST1.out)
              go_wp2_with (at_builtin; refine wpList_appS rfl (.tmp 104) (.tmp 105) rfl w8.heap.size u15 out bt rfl HO9.out A9 bt.length c9 rfl rfl HN9.out HCS9.out (by omega) HB9.out.size ?_; intro v10 w10 ho10 hg10; have HO10 := Lib.hid ho10; have HB10 := Lib.hid (grown_from HB9.out HO9.out hg10); clear ho10 hg10; obtain ⟨cM10, cT10⟩ := CMT.out _ HB10.out)
              go_quiet (fail)
              go_wp2_with fail
              go_roundw
              case rel =>
                refine ⟨I + 1, I + 1, x + 1, y + 1, NN + 1, f, out ++ bt, by go_num, by go_num, by go_num, by go_num, by go_num, by omega, by omega, by omega, fun k n' h1 h2 h3 => NXM.out k n' h1 h2 h3, fun k n' h1 h2 h3 => NXT.out k n' h1 h2 h3, HST2.out, by omega, by rw [List.length_append]; omega, HSZ.out, HO10.out, pw_below HB10.out _⟩
              case measure => first | (simp [intOf]; done) | (simp [intOf]; omega)
            | false =>
              have HST2 := Lib.hid (show _ = RES from HST1.out)
              go_wp2_with (at_builtin; refine wpList_appS rfl (.tmp 104) (.tmp 105) rfl w8.heap.size u15 out bt rfl HO9.out A9 bt.length c9 rfl rfl HN9.out HCS9.out (by omega) HB9.out.size ?_; intro v10 w10 ho10 hg10; have HO10 := Lib.hid ho10; have HB10 := Lib.hid (grown_from HB9.out HO9.out hg10); clear ho10 hg10; obtain ⟨cM10, cT10⟩ := CMT.out _ HB10.out)
              go_quiet (fail)
              go_wp2_with fail
              go_roundw
              case rel =>
                refine ⟨I + 1, I + 1, x + 1, y + 1, NN, f, out ++ bt, by go_num, by go_num, by go_num, by go_num, by go_num, by omega, by omega, by omega, fun k n' h1 h2 h3 => NXM.out k n' h1 h2 h3, fun k n' h1 h2 h3 => NXT.out k n' h1 h2 h3, HST2.out, by omega, by rw [List.length_append]; omega, HSZ.out, HO10.out, pw_below HB10.out _⟩
              case measure => first | (simp [intOf]; done) | (simp [intOf]; omega)
    · obtain rfl : I = N + 1 := by omega
      obtain rfl : f = 0 := by omega
      have hend : (out, NN) = RES := HMG.out
      have HJ := Lib.hid (JoinB_any u15 out _ _ HO.out (by omega) HOS.out)
      have HEND := Lib.hid hend
      clear hend
      go_wp2_with fail
      refine HJ.out.mono ?_
      rintro e w9 ⟨rfl, hb9⟩
      have HB9 := Lib.hid (HB.out.trans (hb9.mono HB.out.size))
      clear hb9 HJ
      go_wp2_with fail
      refine bodyPost_ret (results_tmp3 rfl _ _ _) rfl ?_
      rw [HLB.out, HLM.out, HLT.out, HRS.out, ← HEND.out]
      exact ⟨rfl, HBW.out.trans (HB9.out.mono HBW.out.size)⟩
end Go.Proofs.YtkidcleffllhbaaDoor.Dt
