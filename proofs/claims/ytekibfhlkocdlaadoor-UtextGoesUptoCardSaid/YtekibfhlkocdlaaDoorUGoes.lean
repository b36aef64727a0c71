/- The walk of UtextGoes: for every input of at most 1048576 runes it answers true. -/
import Derived.Test.YtekibfhlkocdlaaDoorULinesBack
import Derived.Test.YtekibfhlkocdlaaDoorUGoes0
namespace Go.Proofs.YtekibfhlkocdlaaDoor.U
open Go.RowKit Go.Proofs.YtekibfhlkocdlaaDoor.Txt
set_option linter.unusedVariables false
set_option linter.unusedSimpArgs false

/-- In a world behind W: the table of walks besides. -/
structure LiveW (W w : World) (B : Nat) (vs : Array Value) (A : Option Addr) (l : List Int) : Prop where
  l : LiveL W w B vs A l
  walks : Walks w
theorem LiveW.step {W w w' : World} {B : Nat} {vs : Array Value} {A : Option Addr} {l : List Int} (h : LiveW W w B vs A l) (hb : Below w.heap.size w w') : LiveW W w' B vs A l :=
  ⟨h.l.step hb, h.walks.below hb⟩
theorem same_below {P : Program} {f : FuncId} {args : Array Value} {w : World} {v : Value} (h : Calls P f args w fun e w' => e = .returned v ∧ w = w') : Calls P f args w fun e w' => e = .returned v ∧ Below w.heap.size w w' :=
  h.mono fun _ _ ⟨a, b⟩ => ⟨a, b ▸ Below.refl _ _⟩

set_option maxRecDepth 100000 in
set_option maxHeartbeats 8000000 in
theorem goes_walk (W : World) (v : Value) (A1 : Option Addr) (n1 c1 : Nat) (xs1 : List Int) (A2 : Option Addr) (n2 c2 : Nat) (xs2 : List Int) (k : Int) (raw : ByteArray) (b : Int) (hv : TwoIn W v A1 n1 c1 xs1 A2 n2 c2 xs2 k raw b) (hsm : n1 ≤ 1048576) (hg : Bars W) (hw : Walks W) :
    Calls Tryd.prog 8 #[v] W fun e w' => e = .returned (.bool true) ∧ Below W.heap.size W w' := by
  obtain ⟨rfl, r1, _, hk0, hk1, hraw, _, _⟩ := hv
  have hl1 := r1.1
  have HG := Lib.hid hg
  have HW := Lib.hid hw
  have HR := Lib.hid r1
  clear hg r1 hw
  have L0 := Live.new HG.out #[.slice A1 n1 c1, .slice A2 n2 c2, .int .i64 k, .string raw, .int .u8 b] 24
  have HL0 := Lib.hid L0
  clear L0
  go_enter Tryd.func8, Tryd.ntmps8
  go_wp2_with fail
  refine (let_any A1 n1 c1 xs1 _ (HR.out.below ((Below.refl _ _).alloc (Nat.le_refl _) _))).mono ?_
  rintro e w1 ⟨v1, rfl, hown, hb1⟩
  have hlm : xs1.length = (xs1.map letR).length := (List.length_map _).symm
  rw [hlm] at hown
  have ht := Text.str xs1 (by omega)
  generalize xs1.map letR = l at hown hlm ht
  have hln : l.length ≤ 1048576 := by omega
  obtain ⟨A, c, rfl, hcc, hcl⟩ := own_runes hown
  have hcv := conv_runes (c := c) hcl
  have HL1 : Hid (LiveW _ _ _ _ _ _) := Lib.hid ⟨⟨HL0.out.step hb1, hcl⟩, HW.out.below (((Below.refl _ _).alloc (Nat.le_refl _) _).trans (hb1.mono (by simp)))⟩
  have hsz := ht.size
  generalize Str l = S at hcv ht hsz
  have HT := Lib.hid ht
  have x1 := HL1.out.l.live.cell 2 rfl
  have hk2 := Int.emod_nonneg k (show ((l.length : Int) + 1) ≠ 0 by omega)
  have hk3 := Int.emod_lt_of_pos k (show 0 < ((l.length : Int) + 1) by omega)
  clear hown hb1 hcl ht HR HL0 hlm
  go_wp2_with fail
  refine (pick_any k (l.length + 1) _ (by omega) (by omega) hk0 hk1).mono ?_
  rintro e w' ⟨rfl, rfl⟩
  obtain ⟨K, hK⟩ : ∃ K : Nat, k % ((l.length : Int) + 1) = K := ⟨_, (Int.toNat_of_nonneg hk2).symm⟩
  rw [hK]
  have hKl : K ≤ l.length := by omega
  clear hK hk2 hk3 hcv x1
  go_wp2_with fail
  refine (home_any A c K l _ HL1.out.l.cells (by omega) hKl).mono ?_
  rintro e w' ⟨rfl, rfl⟩
  go_wp2_with fail
  refine (end_any A c K l _ HL1.out.l.cells (by omega) hKl).mono ?_
  rintro e w' ⟨rfl, rfl⟩
  have hmax : ∀ w, (Builtin.max_ #[3, 3] 3 #[.int .i64 0, .int .i64 (↑K - 1)]).run Tryd.prog w = .ok (.int .i64 (max 0 ((K : Int) - 1))) w := fun w => by
    rw [run_max_int2]; congr 2; omega
  have hmin : ∀ w, (Builtin.min_ #[3, 3] 3 #[.int .i64 ↑l.length, .int .i64 (↑K + 1)]).run Tryd.prog w = .ok (.int .i64 (min (l.length : Int) ((K : Int) + 1))) w := fun w => by
    rw [run_min_int2]; congr 2; omega
  have hgl := goes_1 S l K (max 0 ((K : Int) - 1)) (max 0 ((K : Int) - 1))
  have HMAX := Lib.hid hmax
  obtain ⟨hh1, hh2⟩ := home_le_end l K hKl
  obtain ⟨_, he2, _⟩ := endP_spec l K hKl
  clear hgl HMAX
  generalize hM1 : max (0 : Int) ((K : Int) - 1) = M1 at hmax
  generalize hM2 : min (l.length : Int) ((K : Int) + 1) = M2 at hmin
  have HM1 := Lib.hid hM1
  have HM2 := Lib.hid hM2
  clear hM1 hM2
  have hup := up_law l K hKl
  have hdn := down_law l K hKl
  have hnz := nl_zero l K
  have hnl := nl_le l l.length
  generalize hH : homeP l K = H at *
  generalize hE : endP l K = E at *
  have HH := Lib.hid hH
  have HE := Lib.hid hE
  have HUP := Lib.hid hup
  have HDN := Lib.hid hdn
  have HNZ := Lib.hid hnz
  clear hH hE hup hdn hnz
  go_wp2_with fail
  refine (goes_1 S l K M1 M1 _ HT.out (by omega) hKl HL1.out.l.live.bars HL1.out.walks rfl (fun A c w _ _ => same_below (left_any A c l.length K M1 w (by omega) (by have := HM1.out; omega)))).mono ?_
  rintro e w2 ⟨rfl, hb2⟩
  have HL2 := Lib.hid (HL1.out.step hb2)
  clear hb2
  go_wp2_with fail
  refine (goes_2 S l K M2 M2 _ HT.out (by omega) hKl HL2.out.l.live.bars HL2.out.walks rfl (fun A c w _ _ => same_below (right_any A c l.length K M2 w (by omega) hKl (by have := HM2.out; omega)))).mono ?_
  rintro e w3 ⟨rfl, hb3⟩
  have HL3 := Lib.hid (HL2.out.step hb3)
  clear hb3
  go_wp2_with fail
  refine (goes_3 S l K _ H _ HT.out (by omega) hKl HL3.out.l.live.bars HL3.out.walks (by rw [HH.out]) (fun A c w hc hcap => same_below (uhome_any A c K l w hc (by omega) hcap hKl))).mono ?_
  rintro e w4 ⟨rfl, hb4⟩
  have HL4 := Lib.hid (HL3.out.step hb4)
  clear hb4
  go_wp2_with fail
  refine (goes_4 S l K _ E _ HT.out (by omega) hKl HL4.out.l.live.bars HL4.out.walks (by rw [HE.out]) (fun A c w hc hcap => same_below (lineEnd_any A c K l w hc (by omega) hKl))).mono ?_
  rintro e w5 ⟨rfl, hb5⟩
  have HL5 := Lib.hid (HL4.out.step hb5)
  clear hb5
  go_wp2_with fail
  refine (goes_9 S l K 0 0 _ HT.out (by omega) hKl HL5.out.l.live.bars HL5.out.walks rfl (fun A c w hc hcap => same_below (top_any A c l.length K w))).mono ?_
  rintro e w6 ⟨rfl, hb6⟩
  have HL6 := Lib.hid (HL5.out.step hb6)
  clear hb6
  go_wp2_with fail
  refine (goes_10 S l K l.length l.length _ HT.out (by omega) hKl HL6.out.l.live.bars HL6.out.walks rfl (fun A c w hc hcap => same_below (bottom_any A c l.length K w))).mono ?_
  rintro e w7 ⟨rfl, hb7⟩
  have HL7 := Lib.hid (HL6.out.step hb7)
  clear hb7 HL1 HL2 HL3 HL4 HL5 HL6 hmax hmin HM1 HM2
  rcases Nat.eq_zero_or_pos H with rfl | hpos
  · rcases HDN.out with hd | hd
    · obtain ⟨rfl, hnn⟩ := hd
      have HNN := Lib.hid hnn
      clear hnn
      go_wp2_with fail
      refine (goes_5 S l K 0 0 _ HT.out (by omega) hKl HL7.out.l.live.bars HL7.out.walks rfl (fun A c w hc hcap => up_first A c K l w hc (by omega) hcap hKl (HNZ.out trivial))).mono ?_
      rintro e w8 ⟨rfl, hb8⟩
      have HL8 := Lib.hid (HL7.out.step hb8)
      clear hb8
      go_wp2_with fail
      refine (goes_6 S l K l.length _ _ HT.out (by omega) hKl HL8.out.l.live.bars HL8.out.walks rfl (fun A c w hc hcap => down_last A c K l w hc (by omega) hcap hKl HNN.out)).mono ?_
      rintro e w9 ⟨rfl, hb9⟩
      have HL9 := Lib.hid (HL8.out.step hb9)
      clear hb9
      go_wp2_with fail
      go_ret
      exact ⟨rfl, HL9.out.l.live.below⟩
    · obtain ⟨hEn, hnlt, hne, hhe⟩ := hd
      obtain ⟨ep, eq, _⟩ := end_of l (E + 1) (by omega)
      obtain ⟨ed1, ed2⟩ := home_le_end l (E + 1) (by omega)
      obtain ⟨_, ed3, _⟩ := endP_spec l (E + 1) (by omega)
      rw [hne, hhe] at ep eq
      have HEP := Lib.hid ep
      have HEQ := Lib.hid eq
      have HNLT := Lib.hid hnlt
      have hend2 := fun w h => end_any A c (E + 1) l w h (by omega) (by omega)
      have HEND2 := Lib.hid hend2
      clear ep eq hend2 hne hhe ed1 hnlt
      generalize endP l (E + 1) = E2 at *
      have hmin3 : ∀ w, (Builtin.min_ #[3, 3] 3 #[.int .i64 (↑E + 1 + ↑K), .int .i64 ↑E2]).run Tryd.prog w = .ok (.int .i64 (min ((E : Int) + 1 + K - 0) (E2 : Int))) w := fun w => by
        rw [run_min_int2]; congr 2; omega
      generalize hM3 : min ((E : Int) + 1 + K - 0) (E2 : Int) = M3 at hmin3
      have HM3 := Lib.hid hM3
      clear hM3
      go_wp2_with fail
      refine (HEND2.out _ HL7.out.l.cells).mono ?_
      rintro e w' ⟨rfl, rfl⟩
      go_wp2_with fail
      refine (goes_5 S l K 0 0 _ HT.out (by omega) hKl HL7.out.l.live.bars HL7.out.walks rfl (fun A c w hc hcap => up_first A c K l w hc (by omega) hcap hKl (HNZ.out trivial))).mono ?_
      rintro e w8 ⟨rfl, hb8⟩
      have HL8 := Lib.hid (HL7.out.step hb8)
      clear hb8
      go_wp2_with fail
      refine (goes_6 S l K M3 M3 _ HT.out (by omega) hKl HL8.out.l.live.bars HL8.out.walks rfl (fun A c w hc hcap => down_more A c K (nl l K) ((E : Int) + 1) ((E2 : Int) - (E + 1)) ((K : Int) - 0) M3 l w hc (by omega) hcap hKl rfl HNLT.out (by rw [HH.out]; omega) (by rw [HEP.out]; omega) (by rw [HEQ.out]; omega) (by omega) (by omega) (by omega) (by omega) (by omega) (by have := HM3.out; omega))).mono ?_
      rintro e w9 ⟨rfl, hb9⟩
      have HL9 := Lib.hid (HL8.out.step hb9)
      clear hb9
      go_wp2_with fail
      go_ret
      exact ⟨rfl, HL9.out.l.live.below⟩
  · obtain ⟨m, hu1, hu2, hu3, hu4⟩ := HUP.out hpos
    obtain ⟨H, rfl⟩ : ∃ q, H = q + 1 := ⟨H - 1, by omega⟩
    rw [Nat.add_sub_cancel] at hu2 hu3
    subst hu2
    have HU1 := Lib.hid hu1
    have HU3 := Lib.hid hu4
    have hp1 := (end_of l H (by omega)).1
    have hp2 := homeP_le l H
    generalize hP : homeP l H = P at *
    have HUP1 := Lib.hid hp1
    have HP2 := Lib.hid hP
    clear hu1 hu3 hu4 hp1 hP
    have hmin4 : ∀ w, (Builtin.min_ #[3, 3] 3 #[.int .i64 (↑P + ↑K - (↑H + 1)), .int .i64 ↑H]).run Tryd.prog w = .ok (.int .i64 (min ((P : Int) + K - (H + 1)) (H : Int))) w := fun w => by
      rw [run_min_int2]; congr 2; omega
    generalize hM4 : min ((P : Int) + K - (H + 1)) (H : Int) = M4 at hmin4
    have HM4 := Lib.hid hM4
    clear hM4
    rcases HDN.out with hd | hd
    · obtain ⟨rfl, hnn⟩ := hd
      have HNN := Lib.hid hnn
      clear hnn
      go_wp2_with fail
      refine (home_any A c H l _ HL7.out.l.cells (by omega) (by omega)).mono ?_
      rintro e w' ⟨rfl, rfl⟩
      rw [HP2.out]
      go_wp2_with fail
      refine (goes_5 S l K M4 M4 _ HT.out (by omega) hKl HL7.out.l.live.bars HL7.out.walks rfl (fun A c w hc hcap => up_more A c K (nl l H) (P : Int) ((H : Int) - P) ((K : Int) - (H + 1)) M4 l w hc (by omega) hcap hKl HU1.out (by rw [HH.out]; omega) HUP1.out (by rw [HU3.out]; omega) (by omega) (by omega) (by omega) (by omega) (by omega) (by have := HM4.out; omega))).mono ?_
      rintro e w8 ⟨rfl, hb8⟩
      have HL8 := Lib.hid (HL7.out.step hb8)
      clear hb8
      go_wp2_with fail
      refine (goes_6 S l K l.length _ _ HT.out (by omega) hKl HL8.out.l.live.bars HL8.out.walks rfl (fun A c w hc hcap => down_last A c K l w hc (by omega) hcap hKl HNN.out)).mono ?_
      rintro e w9 ⟨rfl, hb9⟩
      have HL9 := Lib.hid (HL8.out.step hb9)
      clear hb9
      go_wp2_with fail
      go_ret
      exact ⟨rfl, HL9.out.l.live.below⟩
    · obtain ⟨hEn, hnlt, hne, hhe⟩ := hd
      obtain ⟨ep, eq, _⟩ := end_of l (E + 1) (by omega)
      obtain ⟨ed1, ed2⟩ := home_le_end l (E + 1) (by omega)
      obtain ⟨_, ed3, _⟩ := endP_spec l (E + 1) (by omega)
      rw [hne, hhe] at ep eq
      have HEP := Lib.hid ep
      have HEQ := Lib.hid eq
      have HNLT := Lib.hid hnlt
      have hend2 := fun w h => end_any A c (E + 1) l w h (by omega) (by omega)
      have HEND2 := Lib.hid hend2
      clear ep eq hend2 hne hhe ed1 hnlt
      generalize endP l (E + 1) = E2 at *
      have hmin3 : ∀ w, (Builtin.min_ #[3, 3] 3 #[.int .i64 (↑E + 1 + ↑K - (↑H + 1)), .int .i64 ↑E2]).run Tryd.prog w = .ok (.int .i64 (min ((E : Int) + 1 + K - (↑H + 1)) (E2 : Int))) w := fun w => by
        rw [run_min_int2]; congr 2; omega
      generalize hM3 : min ((E : Int) + 1 + K - (↑H + 1)) (E2 : Int) = M3 at hmin3
      have HM3 := Lib.hid hM3
      clear hM3
      go_wp2_with fail
      refine (home_any A c H l _ HL7.out.l.cells (by omega) (by omega)).mono ?_
      rintro e w' ⟨rfl, rfl⟩
      rw [HP2.out]
      go_wp2_with fail
      refine (HEND2.out _ HL7.out.l.cells).mono ?_
      rintro e w' ⟨rfl, rfl⟩
      go_wp2_with fail
      refine (goes_5 S l K M4 M4 _ HT.out (by omega) hKl HL7.out.l.live.bars HL7.out.walks rfl (fun A c w hc hcap => up_more A c K (nl l H) (P : Int) ((H : Int) - P) ((K : Int) - (H + 1)) M4 l w hc (by omega) hcap hKl HU1.out (by rw [HH.out]; omega) HUP1.out (by rw [HU3.out]; omega) (by omega) (by omega) (by omega) (by omega) (by omega) (by have := HM4.out; omega))).mono ?_
      rintro e w8 ⟨rfl, hb8⟩
      have HL8 := Lib.hid (HL7.out.step hb8)
      clear hb8
      go_wp2_with fail
      refine (goes_6 S l K M3 M3 _ HT.out (by omega) hKl HL8.out.l.live.bars HL8.out.walks rfl (fun A c w hc hcap => down_more A c K (nl l K) ((E : Int) + 1) ((E2 : Int) - (E + 1)) ((K : Int) - (↑H + 1)) M3 l w hc (by omega) hcap hKl rfl HNLT.out (by rw [HH.out]; omega) (by rw [HEP.out]; omega) (by rw [HEQ.out]; omega) (by omega) (by omega) (by omega) (by omega) (by omega) (by have := HM3.out; omega))).mono ?_
      rintro e w9 ⟨rfl, hb9⟩
      have HL9 := Lib.hid (HL8.out.step hb9)
      clear hb9
      go_wp2_with fail
      go_ret
      exact ⟨rfl, HL9.out.l.live.below⟩
end Go.Proofs.YtekibfhlkocdlaaDoor.U
