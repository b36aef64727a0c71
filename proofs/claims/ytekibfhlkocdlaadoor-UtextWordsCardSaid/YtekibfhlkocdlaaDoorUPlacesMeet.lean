/- The walk of UtextPlacesMeet: for every input it answers true. -/
import Derived.Test.YtekibfhlkocdlaaDoorUTwo
import Derived.Test.YtekibfhlkocdlaaDoorUPlace
namespace Go.Proofs.YtekibfhlkocdlaaDoor.U
open Go.RowKit Go.Proofs.YtekibfhlkocdlaaDoor.Txt
set_option linter.unusedVariables false
set_option linter.unusedSimpArgs false

/-- In a world behind W: the argument's block, the table, and the runes that the call made. -/
structure LiveL (W w : World) (B : Nat) (vs : Array Value) (A : Option Addr) (l : List Int) : Prop where
  live : Live W w B vs
  cells : Cells32 w A l
theorem LiveL.step {W w w' : World} {B : Nat} {vs : Array Value} {A : Option Addr} {l : List Int} (h : LiveL W w B vs A l) (hb : Below w.heap.size w w') : LiveL W w' B vs A l :=
  ⟨h.live.step hb, h.cells.below hb⟩

theorem encB_long (r : Int) (hv : Utf8.valid r = true) (h : 128 ≤ r) : 2 ≤ (encB r).length := by
  rcases encB_cases r hv with ⟨h1, e⟩ | ⟨_, _, e⟩ | ⟨_, _, e⟩ | ⟨_, _, e⟩
  · omega
  all_goals (rw [e]; simp)
/-- No rune begins one byte behind the begin of a rune of more bytes. -/
theorem inside_rune (S : ByteArray) (l : List Int) (K : Nat) (ht : Text S l) (hK : K < l.length) (h : 128 ≤ l.getD K 0) : ∀ j, j ≤ l.length → ((psz l j : Nat) : Int) ≠ (psz l K : Int) + 1 := by
  intro j hj e
  have hm : l.getD K 0 ∈ l := by
    have : l.getD K 0 = l[K] := by simp [List.getD, hK]
    rw [this]; exact List.getElem_mem hK
  have h2 := encB_long _ (ht.ok _ hm).1 h
  have h3 := psz_succ l K hK
  by_cases c : j ≤ K
  · by_cases e2 : j = K
    · subst e2; omega
    · have := psz_mono l j K (by omega) (by omega); omega
  · by_cases e2 : j = K + 1
    · subst e2; omega
    · have := psz_mono l (K + 1) j (by omega) hj; omega
set_option maxRecDepth 100000 in
set_option maxHeartbeats 8000000 in
theorem placesMeet_walk (W : World) (v : Value) (A1 : Option Addr) (n1 c1 : Nat) (xs1 : List Int) (A2 : Option Addr) (n2 c2 : Nat) (xs2 : List Int) (k : Int) (raw : ByteArray) (b : Int) (hv : TwoIn W v A1 n1 c1 xs1 A2 n2 c2 xs2 k raw b) (hg : Bars W) :
    Calls Tryd.prog 6 #[v] W fun e w' => e = .returned (.bool true) ∧ Below W.heap.size W w' := by
  obtain ⟨rfl, r1, _, hk0, hk1, hraw, _, _⟩ := hv
  have hn1 := r1.2.1
  have hl1 := r1.1
  have HG := Lib.hid hg
  have HR := Lib.hid r1
  clear hg r1
  have L0 := Live.new HG.out #[.slice A1 n1 c1, .slice A2 n2 c2, .int .i64 k, .string raw, .int .u8 b] 24
  have HL0 := Lib.hid L0
  clear L0
  go_enter Tryd.func6, Tryd.ntmps6
  go_wp2_with fail
  refine (let_any A1 n1 c1 xs1 _ (HR.out.below ((Below.refl _ _).alloc (Nat.le_refl _) _))).mono ?_
  rintro e w1 ⟨v1, rfl, hown, hb1⟩
  have hlm : xs1.length = (xs1.map letR).length := (List.length_map _).symm
  rw [hlm] at hown
  have ht := Text.str xs1 (by omega)
  generalize xs1.map letR = l at hown hlm ht
  have hln : l.length ≤ 35184372087808 := by omega
  obtain ⟨A, c, rfl, hcc, hcl⟩ := own_runes hown
  have hcv := conv_runes (c := c) hcl
  have HL1 : Hid (LiveL _ _ _ _ _ _) := Lib.hid ⟨HL0.out.step hb1, hcl⟩
  have hsz := ht.size
  generalize Str l = S at hcv ht hsz
  have HT := Lib.hid ht
  have x1 := HL1.out.live.cell 2 rfl
  have hk2 := Int.emod_nonneg k (show ((l.length : Int) + 1) ≠ 0 by omega)
  have hk3 := Int.emod_lt_of_pos k (show 0 < ((l.length : Int) + 1) by omega)
  clear hown hb1 hcl ht HR HL0 hlm
  go_wp2_with fail
  refine (pick_any k (l.length + 1) _ (by omega) (by omega) hk0 hk1).mono ?_
  rintro e w' ⟨rfl, rfl⟩
  obtain ⟨K, hK⟩ : ∃ K : Nat, k % ((l.length : Int) + 1) = K := ⟨_, (Int.toNat_of_nonneg hk2).symm⟩
  rw [hK]
  have hKl : K ≤ l.length := by omega
  clear hK hk2 hk3
  go_wp2_with fail
  refine (place_in S l K _ HT.out hKl HL1.out.live.bars).mono ?_
  rintro e w2 ⟨rfl, hb2⟩
  have HL2 := Lib.hid (HL1.out.step hb2)
  have hcv2 := conv_take (c := c) HL2.out.cells hKl
  have hs2 : (Str (l.take K)).size = psz l K := str_size _
  generalize Str (l.take K) = S2 at hcv2 hs2
  clear hcv hb2 x1
  go_wp2_with fail
  refine (index_at S l K _ HT.out hKl HL2.out.live.bars).mono ?_
  rintro e w3 ⟨rfl, hb3⟩
  have HL3 := Lib.hid (HL2.out.step hb3)
  clear hb3 hcv2
  go_wp2_with fail
  refine (place_out S l (-1) _ HT.out (.inl (by omega)) (by omega) (by omega) HL3.out.live.bars).mono ?_
  rintro e w4 ⟨rfl, hb4⟩
  have HL4 := Lib.hid (HL3.out.step hb4)
  clear hb4
  go_wp2_with fail
  refine (place_out S l _ _ HT.out (.inr (by omega)) (by omega) (by omega) HL4.out.live.bars).mono ?_
  rintro e w5 ⟨rfl, hb5⟩
  have HL5 := Lib.hid (HL4.out.step hb5)
  clear hb5
  go_wp2_with fail
  refine (index_out S l _ _ HT.out (fun j hj => by have := psz_le l j; rw [← HT.out.len] at this; omega) (by omega) (by omega) HL5.out.live.bars).mono ?_
  rintro e w6 ⟨rfl, hb6⟩
  have HL6 := Lib.hid (HL5.out.step hb6)
  clear hb6
  by_cases hKn : K < l.length
  · obtain ⟨ad, rfl, hcs⟩ := HL6.out.cells (by omega)
    have hcell := hcs K hKn
    generalize hr : l.getD K 0 = r at hcell
    have HRR := Lib.hid hr
    clear hcs hr
    have hpl := psz_lt l K hKn
    rw [← HT.out.len] at hpl
    by_cases hr : 128 ≤ r
    · go_wp2_with fail
      refine (index_out S l _ _ HT.out (inside_rune S l K HT.out hKn (by rw [HRR.out]; exact hr)) (by omega) (by omega) HL6.out.live.bars).mono ?_
      rintro e w7 ⟨rfl, hb7⟩
      have HL7 := Lib.hid (HL6.out.step hb7)
      clear hb7
      go_wp2_with fail
      go_ret
      exact ⟨rfl, HL7.out.live.below⟩
    · go_wp2_with fail
      go_ret
      exact ⟨rfl, HL6.out.live.below⟩
  · go_wp2_with fail
    go_ret
    exact ⟨rfl, HL6.out.live.below⟩
end Go.Proofs.YtekibfhlkocdlaaDoor.U
