/- A text's runes; a counter's bounds: runesOf, counter. A rope: Total, Shown. A text put into a rope: Insert. A text put into a rope: what Insert refuses. -/
import Derived.Test.YtkdhomiieenfnaaGreatDoorLs9
import Derived.Test.YtkdhomiieenfnaaGreatDoorLs2
namespace Go.Proofs.YtkdhomiieenfnaaGreatDoor.Rp
open Go.RowKit Go.Proofs Go.Proofs.YtkdhomiieenfnaaGreatDoor.U Go.Proofs.YtkdhomiieenfnaaGreatDoor.Txt
set_option linter.unusedVariables false
set_option linter.unusedSimpArgs false

theorem iterPos_at {w : World} {I : Nat} {S : ByteArray} {p : Nat} (h : w.heap[I]? = some (.stringIter S p)) : w.iterPos I = p := by
  unfold World.iterPos; rw [h]
/-- Where the loop over a text's runes stands. -/
structure RAt (I : Nat) (S : ByteArray) (xs : List Int) (k : Nat) (v : Value) (wr : World) : Prop where
  it : wr.heap[I]? = some (.stringIter S (psz xs k))
  own : wr.ownsRow I 21 1 v k (i32s (xs.take k))
theorem RAt.iterAt {I : Nat} {S : ByteArray} {xs : List Int} {k : Nat} {v : Value} {w : World} (h : RAt I S xs k v w) (pos' : Nat) : (w.iterAt I S pos').ownsRow I 21 1 v k (i32s (xs.take k)) ∧ (w.iterAt I S pos').heap[I]? = some (.stringIter S pos') := by
  refine ⟨⟨h.own.1, ?_⟩, Lib.iterAt_heap w I S _ pos' h.it⟩
  rcases h.own.2 with hn | ⟨g, cap, cur, hv, hbg, hg, rest⟩
  · exact .inl hn
  · refine .inr ⟨g, cap, cur, hv, hbg, (Lib.iterAt_other w I g S pos' ?_).trans hg, rest⟩
    intro e
    subst e
    rw [h.it] at hg
    cases hg
theorem own_not_iter {w : World} {B e n : Nat} {v : Value} {xs : List Value} {I : Nat} {S : ByteArray} {p : Nat} (h : w.ownsRow B e 1 v n xs) (hI : w.heap[I]? = some (.stringIter S p)) : v.ownBlock ≠ some I := by
  intro e
  rcases h.2 with ⟨rfl, _⟩ | ⟨g, cap, cur, rfl, _, hg, _⟩
  · simp [Value.ownBlock] at e
  · simp only [Value.ownBlock, Option.some.injEq] at e
    subst e
    rw [hI] at hg
    cases hg
set_option maxRecDepth 100000 in
set_option maxHeartbeats 4000000 in
theorem runesOf_any (S : ByteArray) (xs : List Int) (w : World) (hT : Text S xs) (hl : xs.length ≤ 2097152) : Calls Tryz.prog 28 #[.string S] w fun e w' => (∃ v, e = .returned v ∧ w'.ownsRow w.heap.size 21 1 v xs.length (i32s xs)) ∧ Below w.heap.size w w' := by
  have HT := Lib.hid hT
  have HL := Lib.hid hl
  obtain ⟨i0, hi0, hz0, hz1, hz2⟩ := info_parts infoRn
  have HI := Lib.hid (And.intro hi0 (And.intro hz0 (And.intro hz1 hz2)))
  clear hT hl hi0 hz0 hz1 hz2
  go_enter Tryz.func28, Tryz.ntmps28
  go_wp2_with fail
  obtain ⟨I, hI⟩ : ∃ I, w.heap.size = I := ⟨_, rfl⟩
  have HA0 := Lib.hid (show RAt I S xs 0 (.slice none 0 0) (w.alloc (.stringIter S 0)) from ⟨by rw [← hI]; rw [psz_zero]; exact heap_alloc_new w _, ⟨rfl, .inl ⟨rfl, rfl⟩⟩⟩)
  have HB0 := Lib.hid (show Below I w (w.alloc (.stringIter S 0)) by rw [← hI]; exact (Below.refl _ _).alloc (Nat.le_refl _) _)
  rw [hI]
  have HII := Lib.hid hI
  clear hI
  go_loopw [3] (fun v wr => ∃ k : Nat, k ≤ xs.length ∧ RAt I S xs k v wr ∧ Below I w wr) (fun _ wr => S.size - wr.iterPos I)
  case atStart => exact ⟨0, Nat.zero_le _, HA0.out, HB0.out⟩
  case round =>
    obtain ⟨k, hk, hA, hb⟩ := hrel
    have HA := Lib.hid hA
    have HB := Lib.hid hb
    clear hA hb HA0 HB0
    by_cases hlt : k < xs.length
    · have hlt2 : psz xs k < S.size := by rw [HT.out.len]; exact psz_lt xs k hlt
      have hdec := HT.out.dec k hlt
      have hnn : (((xs.getD k 0).toNat : Nat) : Int) = xs.getD k 0 := getD_nonneg xs HT.out.ok k hlt
      have hps := psz_succ xs k hlt
      have hX := HA.out.iterAt (psz xs (k + 1))
      have hnx := fun ty => Lib.run_next_any_at (P := Tryz.prog) wr I S (psz xs k) ty HA.out.it hlt2
      rw [hdec] at hnx
      simp only [hnn] at hnx
      rw [← hps] at hnx
      have hb7 : Below I w (wr.iterAt I S (psz xs (k + 1))) := Lib.below_iterAt HB.out (Nat.le_refl _) S _
      have HSN := Lib.hid (show xs.take (k + 1) = xs.take k ++ [xs.getD k 0] by rw [List.take_add_one]; simp [List.getD, List.getElem?_eq_getElem hlt])
      obtain ⟨r, hr⟩ : ∃ r, xs.getD k 0 = r := ⟨_, rfl⟩
      rw [hr] at hnx HSN
      have HLT := Lib.hid hlt
      have HPS := Lib.hid (psz_mono xs k (k + 1) (Nat.lt_succ_self k) hlt)
      obtain ⟨w7, hw7⟩ : ∃ w7, wr.iterAt I S (psz xs (k + 1)) = w7 := ⟨_, rfl⟩
      rw [hw7] at hnx hX hb7
      have HX := Lib.hid hX
      have HB7 := Lib.hid hb7
      have hI7 : I < w7.heap.size := (Array.getElem?_eq_some_iff.1 hX.2).1
      have HI7 := Lib.hid hI7
      clear hdec hnn hps hX hb7 hr hw7 hI7 hlt hlt2 hk
      go_wp2_with (at_builtin; refine wpList_append_lies _ rfl (.tmp 11) (.tmp 13) 49 rfl I 21 i0 (.int .i32 0) 1 4 Tryz.underlying49 HI.out.1 HI.out.2.1 HI.out.2.2.1 HI.out.2.2.2 rfl (by decide) _ k (i32s (xs.take k)) rfl (own_below HX.out.1 (below_alloc1 _ _)) _ 1 1 [.int .i32 r] rfl rfl (fun j u hj => news_alloc _ _ _ j u hj) (by intro u hu; simp at hu; subst hu; rfl) (by decide) (by have h1 := HL.out; have := HLT.out; unfold maxLen; omega) (by have h1 := HL.out; have := HLT.out; omega) (by have := HI7.out; simp; omega) _ rfl ?_; intro g cap w9 hown hgrow hat hgl; have HO9 := Lib.hid hown; have HGR := Lib.hid hgrow; clear hown hgrow hat hgl)
      have HI9 := Lib.hid (show w9.heap[I]? = some (.stringIter S (psz xs (k + 1))) by
        rw [HGR.out.block I (by have := HI7.out; simp; omega) (fun e => own_not_iter HX.out.1 HX.out.2 e.symm), Lib.alloc_old w7 _ I HI7.out]
        exact HX.out.2)
      go_roundw
      case rel => exact ⟨k + 1, HLT.out, ⟨HI9.out, by have := HO9.out; rw [HSN.out, show i32s (xs.take k ++ [r]) = i32s (xs.take k) ++ [.int .i32 r] by simp [i32s]]; exact this⟩, (HB7.out.alloc (Nat.le_of_lt HI7.out) _).grown HGR.out (by have := HI7.out; simp; omega) (fun k hk => (HX.out.1.lt k hk).1)⟩
      case measure =>
        rw [iterPos_at HI9.out, iterPos_at HA.out.it]
        have h1 := HPS.out
        have h2 := psz_lt xs k HLT.out
        have h4 := HT.out.len
        omega
    · obtain rfl : k = xs.length := by omega
      have hend : ¬ psz xs xs.length < S.size := by
        rw [psz_all, HT.out.len]
        exact Nat.lt_irrefl _
      have hnx := fun ty => Lib.run_next_end_at (P := Tryz.prog) wr I S (psz xs xs.length) ty HA.out.it hend
      go_wp2_with fail
      go_ret
      rw [HII.out]
      exact ⟨⟨_, rfl, by have := HA.out.own; rwa [List.take_length] at this⟩, HB.out⟩
/-- counter's contract. -/
theorem counter_any (n : Int) (w : World) : Calls Tryz.prog 26 #[.int .i64 n] w fun e w' => e = .returned (.int .i64 (if n < 0 then 30 else if 1048576 < n then 31 else 0)) ∧ Below w.heap.size w w' := by
  by_cases h1 : n < 0
  · rw [if_pos h1]
    go_enter Tryz.func26, Tryz.ntmps26
    go_wp2_with fail
    go_ret
    exact ⟨rfl, Below.refl _ _⟩
  · by_cases h2 : 1048576 < n
    · rw [if_neg h1, if_pos h2]
      go_enter Tryz.func26, Tryz.ntmps26
      go_wp2_with fail
      go_ret
      exact ⟨rfl, Below.refl _ _⟩
    · rw [if_neg h1, if_neg h2]
      go_enter Tryz.func26, Tryz.ntmps26
      go_wp2_with fail
      go_ret
      exact ⟨rfl, Below.refl _ _⟩
end Go.Proofs.YtkdhomiieenfnaaGreatDoor.Rp

namespace Go.Proofs.YtkdhomiieenfnaaGreatDoor.Rp
open Go.RowKit Go.Proofs Go.Proofs.YtkdhomiieenfnaaGreatDoor.U Go.Proofs.YtkdhomiieenfnaaGreatDoor.Txt
set_option linter.unusedVariables false
set_option linter.unusedSimpArgs false

/-- A rope in memory: its block, its cells. -/
def Rope (w : World) (b : Nat) (cs : List Cl) : Prop := ∃ v t, w.heap[b]? = some (.cells #[v] 78 (0, 0)) ∧ TrW w v t ∧ cells t = cs
theorem Rope.below {w w' : World} {b : Nat} {cs : List Cl} (h : Rope w b cs) (hb : Below w.heap.size w w') : Rope w' b cs := by
  obtain ⟨v, t, h1, h2, h3⟩ := h
  exact ⟨v, t, (hb.block b (Array.getElem?_eq_some_iff.1 h1).1).trans h1, h2.below hb, h3⟩
theorem shown_lo {cs : List Cl} (h : Cok cs) : (if lo cs = 0 then ((at_ cs : Nat) : Int) else 0) = (shown cs : Nat) := by
  by_cases h0 : lo cs = 0
  · rw [if_pos h0]; unfold at_ shown; rw [h0]
  · rw [if_neg h0]
    have : shown cs = 0 := by
      unfold shown
      rw [List.countP_eq_zero]
      intro c hc
      have h1 := lo_le hc
      have h2 := (h c hc).1
      have hn : cs ≠ [] := by intro e; rw [e] at hc; cases hc
      obtain ⟨d, hd, hd2⟩ := lo_mem hn
      have h3 := (h d hd).1
      simp
      omega
    rw [this]; rfl
section
attribute [local go_sem] fldN
set_option maxRecDepth 100000 in
set_option maxHeartbeats 4000000 in
theorem Total_any (b : Nat) (cs : List Cl) (w : World) (h : Rope w b cs) : Calls Tryz.prog 15 #[.pointer (some ⟨b, 0, none⟩)] w fun e w' => e = .returned (.int .i64 (cs.length : Nat)) ∧ Below w.heap.size w w' := by
  obtain ⟨v, t, h1, h2, h3⟩ := h
  have c0 : w.cell? ⟨b, 0, none⟩ = some v := by rw [Lib.cell_of_heap h1]; rfl
  obtain ⟨a, rfl⟩ := h2.tr.ptr
  have HC := Lib.hid (all_any _ t w h2.tr)
  have HS := Lib.hid h3
  clear h1 h2 h3
  go_enter Tryz.func15, Tryz.ntmps15
  go_wp2_with fail
  refine HC.out.mono ?_
  rintro e w1 ⟨rfl, hb⟩
  have HB := Lib.hid hb
  clear hb
  obtain ⟨n, hn⟩ : ∃ n : Int, ((cells t).length : Int) = n := ⟨_, rfl⟩
  have HN := Lib.hid hn
  unfold Sm.v smT
  rw [hn]
  clear hn
  go_wp2_with fail
  go_ret
  exact ⟨by rw [← HS.out, HN.out]; rfl, HB.out⟩
end
set_option maxRecDepth 100000 in
set_option maxHeartbeats 4000000 in
theorem Shown_any (b : Nat) (cs : List Cl) (w : World) (h : Rope w b cs) : Calls Tryz.prog 68 #[.pointer (some ⟨b, 0, none⟩)] w fun e w' => e = .returned (.int .i64 (shown cs : Nat)) ∧ Below w.heap.size w w' := by
  obtain ⟨v, t, h1, h2, h3⟩ := h
  have c0 : w.cell? ⟨b, 0, none⟩ = some v := by rw [Lib.cell_of_heap h1]; rfl
  obtain ⟨a, rfl⟩ := h2.tr.ptr
  have HC := Lib.hid (all_any _ t w h2.tr)
  have hs : (if (smT t).lo = 0 then (smT t).c else 0) = (shown cs : Nat) := by rw [← h3]; exact shown_lo h2.wf.ok
  have HD := Lib.hid (fun W => shown_any (smT t) W)
  rw [hs] at HD
  clear h1 h2 h3 hs
  go_enter Tryz.func68, Tryz.ntmps68
  go_wp2_with fail
  refine HC.out.mono ?_
  rintro e w1 ⟨rfl, hb⟩
  have HB := Lib.hid hb
  clear hb
  go_wp2_with fail
  refine (HD.out w1).mono ?_
  rintro e w2 ⟨rfl, hb2⟩
  have HB2 := Lib.hid hb2
  clear hb2
  go_wp2_with fail
  go_ret
  exact ⟨rfl, HB.out.trans (HB2.out.mono HB.out.size)⟩
end Go.Proofs.YtkdhomiieenfnaaGreatDoor.Rp

namespace Go.Proofs.YtkdhomiieenfnaaGreatDoor.Rp
open Go.RowKit Go.Proofs Go.Proofs.YtkdhomiieenfnaaGreatDoor.U Go.Proofs.YtkdhomiieenfnaaGreatDoor.Txt
set_option linter.unusedVariables false
set_option linter.unusedSimpArgs false

theorem Few.of1 {w : World} {B : Nat} {x : Value} {T : TypeId} {fz : Nat × Nat} (h : w.heap[B]? = some (.cells #[x] T fz)) (hx : ∀ r, x ≠ .int .i32 r) : Few w B := ⟨_, _, _, h, by show 1 < 7; omega, fun j r hj => by
  match j, hj with
  | 0, hj => simp at hj; exact hx r hj
  | j + 1, hj => simp at hj⟩
theorem one_facts {w : World} {B : Nat} {x : Value} {T : TypeId} (h : w.heap[B]? = some (.cells #[x] T (0, 0))) : w.cell? ⟨B, 0, none⟩ = some x ∧ w.frozen? ⟨B, 0, none⟩ = false ∧ B < w.heap.size :=
  ⟨by rw [Lib.cell_of_heap h]; rfl, Lib.frozen_of_heap h 0, (Array.getElem?_eq_some_iff.1 h).1⟩
/-- A rope's root set anew. -/
theorem Rope.set {w w1 : World} {b : Nat} {x v : Value} {t : T} {cs : List Cl} (hb : Below w.heap.size w w1) (h : w1.heap[b]? = some (.cells #[x] 78 (0, 0))) (hx : ∀ r, x ≠ .int .i32 r) (ht : TrW w1 v t) (hc : cells t = cs) : Rope (w1.setCell ⟨b, 0, none⟩ v) b cs ∧ w.grownBy (w1.setCell ⟨b, 0, none⟩ v) (some b) := by
  refine ⟨⟨v, t, by simp [World.setCell, Array.getElem?_modify, h], ht.put (Few.of1 h hx) 0 v, hc⟩, ⟨hb.os, hb.tape, hb.output, by simpa [World.setCell] using hb.size, fun k hk hne => ?_⟩⟩
  have : k ≠ b := fun e => hne (by rw [e])
  rw [← hb.block k hk]
  simp [World.setCell, Array.getElem?_modify, Ne.symm this]
set_option maxRecDepth 100000 in
set_option maxHeartbeats 8000000 in
theorem insert_in (b : Nat) (cs : List Cl) (S : ByteArray) (rs : List Int) (p : Nat) (n : Int) (w : World) (h : Rope w b cs) (hT : Text S rs) (hB : Bars w) (hp : p ≤ cs.length) (hn : 0 ≤ n ∧ n ≤ M) (hl : cs.length + rs.length ≤ 1048576) (hr : rs ≠ []) :
    Calls Tryz.prog 45 #[.pointer (some ⟨b, 0, none⟩), .int .i64 p, .string S, .int .i64 n] w fun e w' => e = .returned (.int .i64 0) ∧ Rope w' b (cs.take p ++ run rs n ++ cs.drop p) ∧ w.grownBy w' (some b) := by
  have HT := Lib.hid hT
  have HBA := Lib.hid hB
  have HN := Lib.hid hn
  have HR := Lib.hid hr
  have HRO := Lib.hid h
  obtain ⟨k, hk⟩ : ∃ k, cs.length = k := ⟨_, rfl⟩
  obtain ⟨m, hm⟩ : ∃ m, rs.length = m := ⟨_, rfl⟩
  have hm0 : 0 < m := by rw [← hm]; exact List.length_pos_iff.2 hr
  have HK := Lib.hid hk
  have HM := Lib.hid hm
  have HC1 := Lib.hid (fun (W : World) (hW : Below w.heap.size w W) => Total_any b cs W (h.below hW))
  rw [hk] at hp hl HC1
  rw [hm] at hl
  have h2 : ¬ (p : Int) < 0 := by omega
  have h3 : ¬ (k : Int) < p := by omega
  clear hT hB hr h hk hm
  have hn1 : ¬ n < 0 := by have := HN.out; omega
  have hn2 : ¬ 1048576 < n := by have := HN.out.2; unfold M at this; omega
  have HCN := Lib.hid (fun (W : World) => show Calls Tryz.prog 26 #[.int .i64 n] W fun e w' => e = .returned (.int .i64 0) ∧ Below W.heap.size W w' by have := counter_any n W; rw [if_neg hn1, if_neg hn2] at this; exact this)
  clear hn hn1 hn2
  go_enter Tryz.func45, Tryz.ntmps45
  go_wp2_with fail
  refine (HC1.out w (Below.refl _ _)).mono ?_
  rintro e w1 ⟨rfl, hb1⟩
  have HB1 := Lib.hid hb1
  clear hb1
  go_wp2_with fail
  refine (check_at S m 0 0 w1 (by have := HT.out.size; unfold maxLen; omega) (HBA.out.below HB1.out) (by have := HT.out.chk; rw [HM.out] at this; exact this)).mono ?_
  rintro e w2 ⟨rfl, hb2⟩
  have HB2 := Lib.hid (HB1.out.trans (hb2.mono HB1.out.size))
  clear hb2 HB1
  go_wp2_with fail
  refine (HCN.out w2).mono ?_
  rintro e w3 ⟨rfl, hb3⟩
  have HB3 := Lib.hid (HB2.out.trans (hb3.mono HB2.out.size))
  clear hb3 HB2
  go_wp2_with fail
  refine (HC1.out w3 HB3.out).mono ?_
  rintro e w4 ⟨rfl, hb4⟩
  have HB4 := Lib.hid (HB3.out.trans (hb4.mono HB3.out.size))
  clear hb4 HB3
  have i1 : IntKind.i64.wrap ((k : Int) + m) = (k : Int) + m := IntWalk.i64_in _ (by omega)
  have i2 : ¬ (1048576 : Int) < (k : Int) + m := by omega
  have i3 : ((m : Int) == 0) = false := by simp; omega
  obtain ⟨v, t, h1, h2', h3'⟩ := HRO.out.below HB4.out
  have c0 : w4.cell? ⟨b, 0, none⟩ = some v := by rw [Lib.cell_of_heap h1]; rfl
  obtain ⟨a, rfl⟩ := h2'.tr.ptr
  have HC5 := Lib.hid (split_any _ t p w4 (by omega) h2')
  have HX4 := Lib.hid h1
  have HT4 := Lib.hid h2'
  have HCT := Lib.hid h3'
  clear h1 h2' h3'
  go_wp2_with fail
  refine HC5.out.mono ?_
  rintro e w5 ⟨⟨va, ta, vb, tb, rfl, hta, htb, hca, hcb⟩, hb5⟩
  rw [HCT.out] at hca hcb
  have HA5 := Lib.hid hta
  have HE5 := Lib.hid htb
  have HCA := Lib.hid hca
  have HCB := Lib.hid hcb
  have HB5 := Lib.hid hb5
  have HX5 := Lib.hid ((hb5.block _ (Array.getElem?_eq_some_iff.1 HX4.out).1).trans HX4.out)
  have HB15 := Lib.hid (HB4.out.trans (hb5.mono HB4.out.size))
  clear hta htb hca hcb hb5 c0
  go_wp2_with fail
  refine (runesOf_any S rs w5 HT.out (by rw [HM.out]; omega)).mono ?_
  rintro e w6 ⟨⟨v6, rfl, hown6⟩, hb6⟩
  obtain ⟨A6, c6, rfl, hc6, hcells6⟩ := own_runes hown6
  have hblk : ∀ ad, A6 = some ad → ∃ cs fz, w6.heap[ad.block]? = some (.cells cs 21 fz) := fun ad e => by
    rcases hown6.2 with ⟨hv, h0⟩ | ⟨g', cap, cur, hv, _, hg', _⟩
    · exact absurd (List.length_eq_zero_iff.1 h0) HR.out
    · have := (Value.slice.inj hv).1
      rw [e] at this
      rw [Option.some.inj this]
      exact ⟨_, _, hg'⟩
  have HC7 := Lib.hid (cutUp_any A6 c6 rs n w6 (by rw [HM.out]; omega) hc6 ⟨hcells6, hblk⟩ HN.out)
  rw [HM.out] at HC7
  rw [HM.out]
  have HB56 := Lib.hid hb6
  clear hown6 hcells6 hblk hb6
  go_wp2_with fail
  refine HC7.out.mono ?_
  rintro e w7 ⟨⟨v7, ps, rfl, hown7, hok7, hcs7, hln7⟩, hb7⟩
  have HC8 := Lib.hid (build_any v7 ps w7 (by rw [hcs7, run_len, HM.out]; omega) (PV.of_own hown7 hok7))
  have HCS7 := Lib.hid hcs7
  have HB57 := Lib.hid (HB56.out.trans (hb7.mono HB56.out.size))
  clear hown7 hok7 hcs7 hln7 hb7
  go_wp2_with fail
  refine HC8.out.mono ?_
  rintro e w8 ⟨⟨v8, t8, rfl, ht8, hc8⟩, hb8⟩
  have HB58 := Lib.hid (HB57.out.trans (hb8.mono HB57.out.size))
  rw [HCS7.out] at hc8
  have HL := Lib.hid (show (cells ta).length + (cells t8).length + (cells tb).length ≤ 2097152 by
    rw [HCA.out, hc8, HCB.out, run_len, List.length_take, List.length_drop, HK.out, HM.out]
    omega)
  have HC9 := Lib.hid (mend_any va v8 ta t8 w8 (HA5.out.below HB58.out) ht8 (by have := HL.out; omega))
  have HC8' := Lib.hid hc8
  clear ht8 hc8 hb8
  go_wp2_with fail
  refine HC9.out.mono ?_
  rintro e w9 ⟨⟨v9, t9, rfl, ht9, hc9⟩, hb9⟩
  have HB59 := Lib.hid (HB58.out.trans (hb9.mono HB58.out.size))
  have HC10 := Lib.hid (mend_any v9 vb t9 tb w9 ht9 (HE5.out.below HB59.out) (by rw [hc9, List.length_append]; have := HL.out; omega))
  have HC9' := Lib.hid hc9
  clear ht9 hc9 hb9
  go_wp2_with fail
  refine HC10.out.mono ?_
  rintro e w10 ⟨⟨v10, t10, rfl, ht10, hc10⟩, hb10⟩
  have HB510 := Lib.hid (HB59.out.trans (hb10.mono HB59.out.size))
  have HX10 := Lib.hid ((HB510.out.block _ (Array.getElem?_eq_some_iff.1 HX5.out).1).trans HX5.out)
  obtain ⟨y0, f0, ys⟩ := one_facts HX10.out
  have HF := Lib.hid (Rope.set (HB15.out.trans (HB510.out.mono HB15.out.size)) HX10.out (fun r => by simp) ht10 (cs := cs.take p ++ run rs n ++ cs.drop p) (by rw [hc10, HC9'.out, HC8'.out, HCA.out, HCB.out]))
  obtain ⟨a10, rfl⟩ := ht10.tr.ptr
  clear ht10 hc10 hb10
  go_wp2_with fail
  go_ret
  exact ⟨rfl, HF.out⟩
end Go.Proofs.YtkdhomiieenfnaaGreatDoor.Rp

namespace Go.Proofs.YtkdhomiieenfnaaGreatDoor.Rp
open Go.RowKit Go.Proofs Go.Proofs.YtkdhomiieenfnaaGreatDoor.U Go.Proofs.YtkdhomiieenfnaaGreatDoor.Txt
set_option linter.unusedVariables false
set_option linter.unusedSimpArgs false

/-- The error of Insert: cells, place, the text's check, counter. -/
def insErr (k : Nat) (p : Int) (c : Nat × Nat × Nat) (n : Int) : Int :=
  if p < 0 ∨ (k : Int) < p then 12 else if c.2.2 ≠ 0 then (c.2.2 : Nat) else if n < 0 then 30 else if 1048576 < n then 31 else if 1048576 < (k : Int) + (c.1 : Nat) then 24 else 0
set_option maxRecDepth 100000 in
set_option maxHeartbeats 8000000 in
theorem insert_out (b : Nat) (cs : List Cl) (S : ByteArray) (p n : Int) (w : World) (h : Rope w b cs) (hB : Bars w) (hS : S.size ≤ maxLen) (hk : cs.length ≤ 2097152) (hm : (chk S.data.toList).1 ≤ 1152921504606846976) (he : insErr cs.length p (chk S.data.toList) n ≠ 0 ∨ (chk S.data.toList).1 = 0) :
    Calls Tryz.prog 45 #[.pointer (some ⟨b, 0, none⟩), .int .i64 p, .string S, .int .i64 n] w fun e w' => e = .returned (.int .i64 (insErr cs.length p (chk S.data.toList) n)) ∧ Below w.heap.size w w' := by
  obtain ⟨⟨m, a, f⟩, hc⟩ : ∃ c, chk S.data.toList = c := ⟨_, rfl⟩
  have HCH := Lib.hid (fun (W : World) (hW : Below w.heap.size w W) => check_at S m a f W hS (hB.below hW) (by rw [hc]; exact ⟨rfl, rfl, rfl⟩))
  have HC1 := Lib.hid (fun (W : World) (hW : Below w.heap.size w W) => Total_any b cs W (h.below hW))
  obtain ⟨k, hk'⟩ : ∃ k, cs.length = k := ⟨_, rfl⟩
  rw [hk', hc] at he ⊢
  rw [hk'] at hk HC1
  rw [hc] at hm
  simp only at hm he
  clear hc h hB hS hk'
  unfold insErr at he ⊢
  simp only at he ⊢
  by_cases hp0 : p < 0
  · rw [if_pos (.inl hp0)]
    clear he
    go_enter Tryz.func45, Tryz.ntmps45
    go_wp2_with fail
    go_ret
    exact ⟨rfl, Below.refl _ _⟩
  by_cases hp1 : (k : Int) < p
  · rw [if_pos (.inr hp1)]
    clear he
    go_enter Tryz.func45, Tryz.ntmps45
    go_wp2_with fail
    refine (HC1.out w (Below.refl _ _)).mono ?_
    rintro e w1 ⟨rfl, hb1⟩
    go_wp2_with fail
    go_ret
    exact ⟨rfl, hb1⟩
  rw [if_neg (by omega)] at he ⊢
  by_cases hf : f = 0
  · subst hf
    rw [if_neg (by simp)] at he ⊢
    obtain ⟨r, hr⟩ : ∃ r : Int, (if n < 0 then 30 else if 1048576 < n then 31 else 0) = r := ⟨_, rfl⟩
    have HCN := Lib.hid (fun (W : World) => show Calls Tryz.prog 26 #[.int .i64 n] W fun e w' => e = .returned (.int .i64 r) ∧ Below W.heap.size W w' by have := counter_any n W; rw [hr] at this; exact this)
    by_cases hr0 : r = 0
    · have hn : ¬ n < 0 ∧ ¬ 1048576 < n := by
        rw [hr0] at hr
        split at hr
        · omega
        · split at hr <;> omega
      subst hr0
      rw [if_neg hn.1, if_neg hn.2] at he ⊢
      have i1 : IntKind.i64.wrap ((k : Int) + m) = (k : Int) + m := IntWalk.i64_in _ (by omega)
      clear hr hn
      by_cases hs : 1048576 < (k : Int) + m
      · rw [if_pos hs]
        clear he
        go_enter Tryz.func45, Tryz.ntmps45
        go_wp2_with fail
        refine (HC1.out w (Below.refl _ _)).mono ?_
        rintro e w1 ⟨rfl, hb1⟩
        have HB1 := Lib.hid hb1
        clear hb1
        go_wp2_with fail
        refine (HCH.out w1 HB1.out).mono ?_
        rintro e w2 ⟨rfl, hb2⟩
        have HB2 := Lib.hid (HB1.out.trans (hb2.mono HB1.out.size))
        clear hb2 HB1
        go_wp2_with fail
        refine (HCN.out w2).mono ?_
        rintro e w3 ⟨rfl, hb3⟩
        have HB3 := Lib.hid (HB2.out.trans (hb3.mono HB2.out.size))
        clear hb3 HB2
        go_wp2_with fail
        refine (HC1.out w3 HB3.out).mono ?_
        rintro e w4 ⟨rfl, hb4⟩
        have HB4 := Lib.hid (HB3.out.trans (hb4.mono HB3.out.size))
        clear hb4 HB3
        go_wp2_with fail
        go_ret
        exact ⟨rfl, HB4.out⟩
      · rw [if_neg hs] at he ⊢
        obtain rfl : m = 0 := he.elim (fun h => absurd rfl h) id
        clear he
        go_enter Tryz.func45, Tryz.ntmps45
        go_wp2_with fail
        refine (HC1.out w (Below.refl _ _)).mono ?_
        rintro e w1 ⟨rfl, hb1⟩
        have HB1 := Lib.hid hb1
        clear hb1
        go_wp2_with fail
        refine (HCH.out w1 HB1.out).mono ?_
        rintro e w2 ⟨rfl, hb2⟩
        have HB2 := Lib.hid (HB1.out.trans (hb2.mono HB1.out.size))
        clear hb2 HB1
        go_wp2_with fail
        refine (HCN.out w2).mono ?_
        rintro e w3 ⟨rfl, hb3⟩
        have HB3 := Lib.hid (HB2.out.trans (hb3.mono HB2.out.size))
        clear hb3 HB2
        go_wp2_with fail
        refine (HC1.out w3 HB3.out).mono ?_
        rintro e w4 ⟨rfl, hb4⟩
        have HB4 := Lib.hid (HB3.out.trans (hb4.mono HB3.out.size))
        clear hb4 HB3
        go_wp2_with fail
        go_ret
        exact ⟨rfl, HB4.out⟩
    · have hn : (if n < 0 then (30 : Int) else if 1048576 < n then 31 else if 1048576 < (k : Int) + m then 24 else 0) = r := by
        split at hr
        · rw [if_pos (by assumption)]; exact hr
        · split at hr
          · rw [if_neg (by assumption), if_pos (by assumption)]; exact hr
          · exact absurd hr.symm hr0
      rw [hn]
      have b1 : (r == 0) = false := by simp [hr0]
      clear he hn hr hr0
      go_enter Tryz.func45, Tryz.ntmps45
      go_wp2_with fail
      refine (HC1.out w (Below.refl _ _)).mono ?_
      rintro e w1 ⟨rfl, hb1⟩
      have HB1 := Lib.hid hb1
      clear hb1
      go_wp2_with fail
      refine (HCH.out w1 HB1.out).mono ?_
      rintro e w2 ⟨rfl, hb2⟩
      have HB2 := Lib.hid (HB1.out.trans (hb2.mono HB1.out.size))
      clear hb2 HB1
      go_wp2_with fail
      refine (HCN.out w2).mono ?_
      rintro e w3 ⟨rfl, hb3⟩
      have HB3 := Lib.hid (HB2.out.trans (hb3.mono HB2.out.size))
      clear hb3 HB2
      go_wp2_with fail
      go_ret
      exact ⟨rfl, HB3.out⟩
  · rw [if_pos hf]
    have b1 : ((f : Int) == 0) = false := by simp [hf]
    clear he hf
    go_enter Tryz.func45, Tryz.ntmps45
    go_wp2_with fail
    refine (HC1.out w (Below.refl _ _)).mono ?_
    rintro e w1 ⟨rfl, hb1⟩
    have HB1 := Lib.hid hb1
    clear hb1
    go_wp2_with fail
    refine (HCH.out w1 HB1.out).mono ?_
    rintro e w2 ⟨rfl, hb2⟩
    have HB2 := Lib.hid (HB1.out.trans (hb2.mono HB1.out.size))
    clear hb2 HB1
    go_wp2_with fail
    go_ret
    exact ⟨rfl, HB2.out⟩
end Go.Proofs.YtkdhomiieenfnaaGreatDoor.Rp
