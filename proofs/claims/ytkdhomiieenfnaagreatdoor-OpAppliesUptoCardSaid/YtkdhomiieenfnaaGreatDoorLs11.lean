/- Counters of ranges raised or lowered: Bump; what it rests on. Bump walked (printed by gen_bump.py). A rope made of runs: From. The place of a visible cell: TotalOf. -/
import Derived.Test.YtkdhomiieenfnaaGreatDoorLs10
import Derived.Test.YtkdhomiieenfnaaGreatDoorLs3
import Derived.Test.YtkdhomiieenfnaaGreatDoorOpC


namespace Go.Proofs.YtkdhomiieenfnaaGreatDoor.Rp
open Go.RowKit Go.Proofs Go.Proofs.YtkdhomiieenfnaaGreatDoor.U Go.Proofs.YtkdhomiieenfnaaGreatDoor.Txt
set_option linter.unusedVariables false
set_option linter.unusedSimpArgs false

theorem spanE_ok : ∀ {p : Option Int} {rs : List (Int × Int)}, O.spanE p rs = 0 → (∀ x ∈ rs, 0 ≤ x.1 ∧ x.1 < x.2 ∧ x.2 ≤ 1048576) ∧ Nrm (match p with | none => 0 | some q => q + 1) rs
  | p, [], h => ⟨fun x hx => (by cases hx), trivial⟩
  | none, (a, b) :: r, h => by
    have h' : (if a < 0 ∨ 1048576 < b ∨ b ≤ a then (20 : Int) else if false = true then 22 else O.spanE (some b) r) = 0 := h
    clear h
    by_cases h1 : a < 0 ∨ 1048576 < b ∨ b ≤ a
    · rw [if_pos h1] at h'
      exact absurd h' (by decide)
    · rw [if_neg h1, if_neg (by decide)] at h'
      have IH := spanE_ok h'
      refine ⟨fun x hx => ?_, ?_, ?_, IH.2⟩
      · rcases List.mem_cons.1 hx with e | hx
        · subst e; simp only; omega
        · exact IH.1 x hx
      · show (0 : Int) ≤ a; omega
      · show a < b; omega
  | some q, (a, b) :: r, h => by
    have h' : (if a < 0 ∨ 1048576 < b ∨ b ≤ a then (20 : Int) else if decide (a ≤ q) = true then 22 else O.spanE (some b) r) = 0 := h
    clear h
    by_cases h1 : a < 0 ∨ 1048576 < b ∨ b ≤ a
    · rw [if_pos h1] at h'
      exact absurd h' (by decide)
    · rw [if_neg h1] at h'
      by_cases h2 : decide (a ≤ q) = true
      · rw [if_pos h2] at h'
        exact absurd h' (by decide)
      · rw [if_neg h2] at h'
        have IH := spanE_ok h'
        refine ⟨fun x hx => ?_, ?_, ?_, IH.2⟩
        · rcases List.mem_cons.1 hx with e | hx
          · subst e; simp only; omega
          · exact IH.1 x hx
        · simp at h2; show q + 1 ≤ a; omega
        · show a < b; omega
/-- What Bump answers. -/
def Bumped (b : Nat) (cs : List Cl) (rs : List (Int × Int)) (d : Int) (w : World) (e : Ending) (w' : World) : Prop :=
  e = .returned (.int .i64 (bumpR d cs rs).1) ∧ ((bumpR d cs rs).1 = 0 → Rope w' b (bumpR d cs rs).2 ∧ w.grownBy w' (some b)) ∧ ((bumpR d cs rs).1 ≠ 0 → Below w.heap.size w w')
theorem Bumped.stop {b : Nat} {cs : List Cl} {rs : List (Int × Int)} {d n : Int} {w w' : World} (h : bumpR d cs rs = (n, (bumpR d cs rs).2)) (hn : n ≠ 0) (hb : Below w.heap.size w w') : Bumped b cs rs d w (.returned (.int .i64 n)) w' := by
  have h1 : (bumpR d cs rs).1 = n := congrArg Prod.fst h
  exact ⟨by rw [h1], fun e => absurd (h1.symm.trans e) hn, fun _ => hb⟩
theorem bumpR_cons (d : Int) (cs : List Cl) (A B : Nat) (r : List (Int × Int)) : bumpR d cs (((A : Int), (B : Int)) :: r) = if d < 0 ∧ lo (midC cs A B) = 0 then (30, cs) else if 0 < d ∧ hi (midC cs A B) = M then (31, cs) else bumpR d (bump1 d cs A B) r := rfl
section
attribute [local go_sem] fldN fldLo fldHi
set_option maxRecDepth 100000 in
set_option maxHeartbeats 8000000 in
theorem bump_up (b : Nat) (cs : List Cl) (A : Option Addr) (n c : Nat) (rs : List (Int × Int)) (w : World) (h : Rope w b cs) (hR : O.Ranges w A n rs) (hn : n ≤ 32768) (hs : O.spanE none rs = 0) (hl : ∀ x ∈ rs, x.2 ≤ (cs.length : Int)) (hcl : cs.length ≤ 2097152) :
    Calls Tryz.prog 46 #[.pointer (some ⟨b, 0, none⟩), .slice A n c, .int .i64 (1)] w (Bumped b cs rs (1) w) := by
  have HRO := Lib.hid h
  have HRA := Lib.hid hR
  have HOK := Lib.hid (spanE_ok hs).1
  have HLA := Lib.hid hl
  have HCS := Lib.hid (O.span_any A n c rs w hn hR)
  rw [hs] at HCS
  have HC1 := Lib.hid (fun (W : World) (hW : Below w.heap.size w W) => Total_any b cs W (h.below hW))
  have HLEN := Lib.hid hR.len
  have HCL := Lib.hid hcl
  clear h hR hs hl hcl
  go_enter Tryz.func46, Tryz.ntmps46
  go_wp2_with fail
  refine HCS.out.mono ?_
  rintro e w1 ⟨⟨ii, rfl⟩, hb1⟩
  have HB1 := Lib.hid hb1
  clear hb1
  go_upto_region 6 with fail
  go_cut [30, 31, 32, 33, 34, 35, 36, 37, 38, 39, 40, 41, 42, 43, 44] (fun _ _ _ _ _ _ _ _ _ _ _ _ _ _ b wx => b = .bool false ∧ Below w.heap.size w wx)
  case first =>
    by_cases hn0 : n = 0
    · have hd0 : decide (0 < n) = false := by simp [hn0]
      subst hn0
      go_quiet (fail)
      go_wp2_with fail
      go_meet
      exact ⟨rfl, below_drewN HB1.out _⟩
    · obtain ⟨g, off, rfl, hce⟩ := HRA.out.at_ (by omega)
      have hlen := HRA.out.len
      have hc := (hce (n - 1) (by omega)).2
      have hla := HLA.out _ (List.getElem_mem (show n - 1 < rs.length by omega))
      obtain ⟨x, hx⟩ : ∃ x, rs[n - 1].2 = x := ⟨_, rfl⟩
      rw [hx] at hc hla
      obtain ⟨m, hm⟩ : ∃ m, n - 1 = m := ⟨_, rfl⟩
      obtain ⟨kk, hkk⟩ : ∃ kk, cs.length = kk := ⟨_, rfl⟩
      rw [hkk] at hla HC1
      rw [hm] at hc
      have i1 : IntKind.i64.wrap ((n : Int) - 1) = (m : Int) := by rw [IntWalk.i64_in _ (by omega)]; omega
      have hc1 := cell_below HB1.out hc
      have HCK := Lib.hid (fun (W : World) (hW : Below w1.heap.size w1 W) => cell_below hW hc1)
      have HT1 := Lib.hid (fun (W : World) (hW : Below w1.heap.size w1 W) => (HC1.out W (HB1.out.trans (hW.mono HB1.out.size))).mono (R' := fun e w' => e = .returned (.int .i64 (kk : Nat)) ∧ Below w1.heap.size w1 w') fun e w' ⟨h1, h2⟩ => ⟨h1, hW.trans (h2.mono hW.size)⟩)
      have s1 := hc1
      have b0 : decide (0 < n) = true := by simp; omega
      have b1 : decide ((kk : Int) < x) = false := by simp; omega
      have z1 : (0 : Int) ≤ m := by omega
      have z2 : m < n := by omega
      have z3 : (m : Int) < (n : Int) := by omega
      clear hce hx hlen hkk hc1 hc hn0 hn hm
      go_region_held3 (fun w' => w'.cell? ⟨g, off + m * 2 + 1, none⟩ = some (.int .i64 x))
        (first | (with_reducible exact HCK.out _ hbT) | (with_reducible exact HCK.out _ (Below.refl _ _).drew))
        (first | ((with_reducible refine (HT1.out _ (Below.refl _ _).drew).mono ?_); rintro e wT ⟨rfl, hbT⟩))
      go_wp2_with fail
      go_meet
      exact ⟨rfl, HB1.out.trans (hbT.mono HB1.out.size)⟩
  case rest =>
    obtain ⟨rfl, hb2⟩ := hcut
    obtain ⟨w2, hw2⟩ : ∃ w2, wc = w2 := ⟨_, rfl⟩
    rw [hw2] at hb2 ⊢
    clear hw2 HB1 HCS
    have HB2 := Lib.hid hb2
    clear hb2
    obtain ⟨v, t, h1, h2', h3'⟩ := HRO.out.below HB2.out
    have c0 : w2.cell? ⟨b, 0, none⟩ = some v := by rw [Lib.cell_of_heap h1]; rfl
    have HX2 := Lib.hid h1
    have HT2 := Lib.hid h2'
    have HCT := Lib.hid h3'
    obtain ⟨a, rfl⟩ := h2'.tr.ptr
    clear h1 h2' h3'
    go_wp2_with fail
    clear c0
    go_loopw [9, 51] (fun v i wr => ∃ (k : Nat) (t : T), k ≤ n ∧ i = .int .i64 k ∧ TrW wr v t ∧ (cells t).length = cs.length ∧ bumpR (1) cs rs = bumpR (1) (cells t) (rs.drop k) ∧ Below w2.heap.size w2 wr) (fun _ i _ => n - (intOf i).toNat)
    case atStart => exact ⟨0, t, Nat.zero_le _, rfl, HT2.out, by rw [HCT.out], by rw [HCT.out]; rfl, Below.refl _ _⟩
    case round =>
      obtain ⟨k, t', hk, rfl, ht', hlt', hbr, hbw⟩ := hrel
      have HB := Lib.hid hbw
      have HTT := Lib.hid ht'
      have HLT := Lib.hid hlt'
      have HBR := Lib.hid hbr
      obtain ⟨av, rfl⟩ := ht'.tr.ptr
      clear hbw ht' hlt' hbr
      by_cases hlt : k < n
      · have hkl : k < rs.length := by have := HLEN.out; omega
        obtain ⟨g, off, rfl, hce⟩ := HRA.out.at_ (by omega)
        have hc := hce k hkl
        have hx1 := HOK.out _ (List.getElem_mem hkl)
        have hx2 := HLA.out _ (List.getElem_mem hkl)
        have hdr : rs.drop k = rs[k] :: rs.drop (k + 1) := List.drop_eq_getElem_cons hkl
        obtain ⟨⟨x1, x2⟩, hx⟩ : ∃ x, rs[k] = x := ⟨_, rfl⟩
        rw [hx] at hc hx1 hx2 hdr
        simp only at hc hx1 hx2
        obtain ⟨B1, rfl⟩ : ∃ B1 : Nat, x1 = B1 := ⟨x1.toNat, by omega⟩
        obtain ⟨B2, rfl⟩ : ∃ B2 : Nat, x2 = B2 := ⟨x2.toNat, by omega⟩
        have HDR := Lib.hid hdr
        have HX := Lib.hid hx2
        have c1 := cell_below HB.out (cell_below HB2.out hc.1)
        have c2 := cell_below HB.out (cell_below HB2.out hc.2)
        have hb12 : B1 < B2 := by omega
        have hb2m : B2 ≤ 1048576 := by omega
        clear hce hc hx hdr hx1 hx2
        go_wp2_with fail
        obtain ⟨w3, hw3⟩ : ∃ w3, wr.alloc (.cells #[.int .i64 (B1 : Int), .int .i64 (B2 : Int)] 102) = w3 := ⟨_, rfl⟩
        have hb3 : Below w2.heap.size w2 w3 := by rw [← hw3]; exact HB.out.alloc HB.out.size _
        have hy3 : w3.heap[wr.heap.size]? = some (.cells #[.int .i64 (B1 : Int), .int .i64 (B2 : Int)] 102 (0, 0)) := by rw [← hw3]; exact heap_at rfl
        have HTT3 := Lib.hid (show TrW w3 (.pointer av) t' by rw [← hw3]; exact HTT.out.below (below_alloc1 _ _))
        rw [hw3]
        clear hw3 c1 c2
        obtain ⟨gr, hgr⟩ : ∃ gr, wr.heap.size = gr := ⟨_, rfl⟩
        rw [hgr] at hy3
        rw [hgr]
        have HB3 := Lib.hid hb3
        have HY3 := Lib.hid hy3
        clear hgr hb3 hy3 HTT
        have HC4 := Lib.hid (split_any _ t' B1 w3 (by omega) HTT3.out)
        have e0 : w3.cell? ⟨gr, 0, none⟩ = some (.int .i64 (B1 : Int)) := by rw [Lib.cell_of_heap HY3.out]; rfl
        go_wp2_with fail
        refine HC4.out.mono ?_
        rintro e w4 ⟨⟨va, ta, vr, tr, rfl, hta, htr, hca, hcr⟩, hb4⟩
        have HTA := Lib.hid hta
        have HTR := Lib.hid htr
        have HCA := Lib.hid hca
        have HCR := Lib.hid hcr
        have HB4 := Lib.hid (HB3.out.trans (hb4.mono HB3.out.size))
        have HY4 := Lib.hid ((hb4.block _ (Array.getElem?_eq_some_iff.1 HY3.out).1).trans HY3.out)
        clear hta htr hca hcr hb4 e0 HC4
        have e0 : w4.cell? ⟨gr, 0, none⟩ = some (.int .i64 (B1 : Int)) := by rw [Lib.cell_of_heap HY4.out]; rfl
        have e1 : w4.cell? ⟨gr, 1, none⟩ = some (.int .i64 (B2 : Int)) := by rw [Lib.cell_of_heap HY4.out]; rfl
        have i1 : IntKind.i64.wrap ((B2 : Int) - (B1 : Int)) = ((B2 - B1 : Nat) : Int) := by rw [IntWalk.i64_in _ (by omega)]; omega
        obtain ⟨av4, rfl⟩ := HTR.out.tr.ptr
        obtain ⟨dd, hdd⟩ : ∃ dd, B2 - B1 = dd := ⟨_, rfl⟩
        rw [hdd] at i1
        have HC5 := Lib.hid (split_any _ tr dd w4 (by omega) HTR.out)
        have HDD := Lib.hid hdd
        clear hdd
        go_wp2_with fail
        refine HC5.out.mono ?_
        rintro e w5 ⟨⟨vm, tm, ve, te, rfl, htm, hte, hcm, hce⟩, hb5⟩
        have HTM := Lib.hid htm
        have HTE := Lib.hid hte
        have HCM := Lib.hid (show cells tm = midC (cells t') B1 B2 by rw [hcm, HCR.out, ← HDD.out]; rfl)
        have HCE := Lib.hid (show cells te = (cells t').drop B2 by rw [hce, HCR.out, List.drop_drop, ← HDD.out, show B1 + (B2 - B1) = B2 by omega])
        have HB5 := Lib.hid (HB4.out.trans (hb5.mono HB4.out.size))
        have HB45 := Lib.hid hb5
        clear htm hte hcm hce hb5 e0 e1 HC5
        have HBC := Lib.hid (bumpR_cons (1) (cells t') B1 B2 (rs.drop (k + 1)))
        have HC6 := Lib.hid (fun (W : World) (hW : Below w5.heap.size w5 W) => all_any vm tm W (HTM.out.tr.below hW))
        have HSM := Lib.hid (show (smT tm).hi = hi (midC (cells t') B1 B2) by rw [← HCM.out]; rfl)
        obtain ⟨sm, hsm⟩ : ∃ s, smT tm = s := ⟨_, rfl⟩
        rw [hsm] at HC6 HSM
        obtain ⟨s1, s2, s3, s4, s5, s6⟩ := sm
        unfold Sm.v at HC6
        simp only at HC6
        clear hsm
        obtain ⟨avm, rfl⟩ := HTM.out.tr.ptr
        by_cases hz : s6 = 1048576
        · have HST := Lib.hid (show bumpR (1) cs rs = (31, (bumpR (1) cs rs).2) by
            have h9 : bumpR (1) cs rs = (31, cells t') := by
              rw [HBR.out, HDR.out, HBC.out, if_neg (by omega), if_pos ⟨by decide, by rw [← HSM.out]; exact hz⟩]
            rw [h9])
          have hzz : (s6 == 1048576) = true := by rw [hz]; rfl
          have HZ := Lib.hid hz
          clear hz
          go_wp2_with fail
          refine (HC6.out _ (Below.refl _ _)).mono ?_
          rintro e w6 ⟨rfl, hb6⟩
          have HB6 := Lib.hid (HB2.out.trans ((HB5.out.trans (hb6.mono HB5.out.size)).mono HB2.out.size))
          clear hb6
          go_wp2_with fail
          go_ret
          exact Bumped.stop HST.out (by decide) HB6.out
        · have hzz : (s6 == 1048576) = false := by simpa using hz
          have HNX := Lib.hid (show bumpR (1) cs rs = bumpR (1) (bump1 (1) (cells t') B1 B2) (rs.drop (k + 1)) by
            rw [HBR.out, HDR.out, HBC.out, if_neg (by omega), if_neg (fun h => hz (by have := HSM.out; simp only at this; rw [this]; exact h.2))])
          have HUP := Lib.hid (show Cok (up (1) (cells tm)) from up_cok (.inl rfl) HTM.out.wf.ok (by rw [HCM.out]; omega) (by rw [HCM.out]; exact fun h => hz (by have := HSM.out; simp only at this; rw [this]; exact h.2)))
          clear hz
          go_wp2_with fail
          refine (HC6.out _ (Below.refl _ _)).mono ?_
          rintro e w6 ⟨rfl, hb6⟩
          have HB6 := Lib.hid (HB5.out.trans (hb6.mono HB5.out.size))
          have HB56 := Lib.hid hb6
          clear hb6
          have HC7 := Lib.hid (lift_any _ tm (1) w6 (HTM.out.below HB56.out) HUP.out (by decide))
          go_wp2_with fail
          refine HC7.out.mono ?_
          rintro e w7 ⟨⟨v7, rfl, ht7⟩, hb7⟩
          have HB7 := Lib.hid (HB6.out.trans (hb7.mono HB6.out.size))
          have HB57 := Lib.hid (HB56.out.trans (hb7.mono HB56.out.size))
          have HT7 := Lib.hid ht7
          have HL := Lib.hid (show (cells ta).length + (cells (lift (1) tm)).length + (cells te).length ≤ 2097152 by
            rw [cells_lift, up_len, HCA.out, HCM.out, HCE.out, midC, List.length_take, List.length_take, List.length_drop, List.length_drop, HLT.out]
            have := HX.out
            have := HCL.out
            omega)
          have HC8 := Lib.hid (mend_any va v7 ta (lift (1) tm) w7 ((HTA.out.below HB45.out).below HB57.out) HT7.out (by have := HL.out; omega))
          clear ht7 hb7 HC7
          go_wp2_with fail
          refine HC8.out.mono ?_
          rintro e w8 ⟨⟨v8, t8, rfl, ht8, hc8⟩, hb8⟩
          have HB8 := Lib.hid (HB7.out.trans (hb8.mono HB7.out.size))
          have HT8 := Lib.hid ht8
          have HCC8 := Lib.hid hc8
          have HC9 := Lib.hid (mend_any v8 ve t8 te w8 HT8.out ((HTE.out.below HB57.out).below hb8) (by rw [HCC8.out, List.length_append]; have := HL.out; omega))
          clear ht8 hc8 hb8 HC8
          go_wp2_with fail
          refine HC9.out.mono ?_
          rintro e w9 ⟨⟨v9, t9, rfl, ht9, hc9⟩, hb9⟩
          have HB9 := Lib.hid (HB8.out.trans (hb9.mono HB8.out.size))
          have HT9 := Lib.hid ht9
          have HCC9 := Lib.hid (show cells t9 = bump1 (1) (cells t') B1 B2 by rw [hc9, HCC8.out, cells_lift, HCA.out, HCM.out, HCE.out]; rfl)
          clear ht9 hc9 hb9 HC9
          go_wp2_with fail
          go_roundw
          case rel => exact ⟨k + 1, t9, hlt, by go_num, HT9.out, by rw [HCC9.out, bump1_len (Nat.le_of_lt hb12) (by rw [HLT.out]; have := HX.out; omega), HLT.out], by rw [HNX.out, HCC9.out], HB9.out⟩
          case measure => simp [intOf]; omega
      · obtain rfl : k = n := by omega
        have HZ := Lib.hid (show bumpR (1) cs rs = (0, cells t') by rw [HBR.out, List.drop_eq_nil_of_le (by rw [← HLEN.out]; exact Nat.le_refl _)]; rfl)
        have HXW := Lib.hid ((HB.out.block _ (Array.getElem?_eq_some_iff.1 HX2.out).1).trans HX2.out)
        obtain ⟨y0, f0, ys⟩ := one_facts HXW.out
        have HF := Lib.hid (Rope.set (HB2.out.trans (HB.out.mono HB2.out.size)) HXW.out (fun r => by simp) HTT.out rfl)
        go_wp2_with fail
        go_ret
        exact ⟨by rw [HZ.out]; rfl, fun _ => by rw [HZ.out]; exact HF.out, fun h => by rw [HZ.out] at h; exact absurd rfl h⟩
set_option maxRecDepth 100000 in
set_option maxHeartbeats 8000000 in
theorem bump_down (b : Nat) (cs : List Cl) (A : Option Addr) (n c : Nat) (rs : List (Int × Int)) (w : World) (h : Rope w b cs) (hR : O.Ranges w A n rs) (hn : n ≤ 32768) (hs : O.spanE none rs = 0) (hl : ∀ x ∈ rs, x.2 ≤ (cs.length : Int)) (hcl : cs.length ≤ 2097152) :
    Calls Tryz.prog 46 #[.pointer (some ⟨b, 0, none⟩), .slice A n c, .int .i64 (-1)] w (Bumped b cs rs (-1) w) := by
  have HRO := Lib.hid h
  have HRA := Lib.hid hR
  have HOK := Lib.hid (spanE_ok hs).1
  have HLA := Lib.hid hl
  have HCS := Lib.hid (O.span_any A n c rs w hn hR)
  rw [hs] at HCS
  have HC1 := Lib.hid (fun (W : World) (hW : Below w.heap.size w W) => Total_any b cs W (h.below hW))
  have HLEN := Lib.hid hR.len
  have HCL := Lib.hid hcl
  clear h hR hs hl hcl
  go_enter Tryz.func46, Tryz.ntmps46
  go_wp2_with fail
  refine HCS.out.mono ?_
  rintro e w1 ⟨⟨ii, rfl⟩, hb1⟩
  have HB1 := Lib.hid hb1
  clear hb1
  go_upto_region 6 with fail
  go_cut [30, 31, 32, 33, 34, 35, 36, 37, 38, 39, 40, 41, 42, 43, 44] (fun _ _ _ _ _ _ _ _ _ _ _ _ _ _ b wx => b = .bool false ∧ Below w.heap.size w wx)
  case first =>
    by_cases hn0 : n = 0
    · have hd0 : decide (0 < n) = false := by simp [hn0]
      subst hn0
      go_quiet (fail)
      go_wp2_with fail
      go_meet
      exact ⟨rfl, below_drewN HB1.out _⟩
    · obtain ⟨g, off, rfl, hce⟩ := HRA.out.at_ (by omega)
      have hlen := HRA.out.len
      have hc := (hce (n - 1) (by omega)).2
      have hla := HLA.out _ (List.getElem_mem (show n - 1 < rs.length by omega))
      obtain ⟨x, hx⟩ : ∃ x, rs[n - 1].2 = x := ⟨_, rfl⟩
      rw [hx] at hc hla
      obtain ⟨m, hm⟩ : ∃ m, n - 1 = m := ⟨_, rfl⟩
      obtain ⟨kk, hkk⟩ : ∃ kk, cs.length = kk := ⟨_, rfl⟩
      rw [hkk] at hla HC1
      rw [hm] at hc
      have i1 : IntKind.i64.wrap ((n : Int) - 1) = (m : Int) := by rw [IntWalk.i64_in _ (by omega)]; omega
      have hc1 := cell_below HB1.out hc
      have HCK := Lib.hid (fun (W : World) (hW : Below w1.heap.size w1 W) => cell_below hW hc1)
      have HT1 := Lib.hid (fun (W : World) (hW : Below w1.heap.size w1 W) => (HC1.out W (HB1.out.trans (hW.mono HB1.out.size))).mono (R' := fun e w' => e = .returned (.int .i64 (kk : Nat)) ∧ Below w1.heap.size w1 w') fun e w' ⟨h1, h2⟩ => ⟨h1, hW.trans (h2.mono hW.size)⟩)
      have s1 := hc1
      have b0 : decide (0 < n) = true := by simp; omega
      have b1 : decide ((kk : Int) < x) = false := by simp; omega
      have z1 : (0 : Int) ≤ m := by omega
      have z2 : m < n := by omega
      have z3 : (m : Int) < (n : Int) := by omega
      clear hce hx hlen hkk hc1 hc hn0 hn hm
      go_region_held3 (fun w' => w'.cell? ⟨g, off + m * 2 + 1, none⟩ = some (.int .i64 x))
        (first | (with_reducible exact HCK.out _ hbT) | (with_reducible exact HCK.out _ (Below.refl _ _).drew))
        (first | ((with_reducible refine (HT1.out _ (Below.refl _ _).drew).mono ?_); rintro e wT ⟨rfl, hbT⟩))
      go_wp2_with fail
      go_meet
      exact ⟨rfl, HB1.out.trans (hbT.mono HB1.out.size)⟩
  case rest =>
    obtain ⟨rfl, hb2⟩ := hcut
    obtain ⟨w2, hw2⟩ : ∃ w2, wc = w2 := ⟨_, rfl⟩
    rw [hw2] at hb2 ⊢
    clear hw2 HB1 HCS
    have HB2 := Lib.hid hb2
    clear hb2
    obtain ⟨v, t, h1, h2', h3'⟩ := HRO.out.below HB2.out
    have c0 : w2.cell? ⟨b, 0, none⟩ = some v := by rw [Lib.cell_of_heap h1]; rfl
    have HX2 := Lib.hid h1
    have HT2 := Lib.hid h2'
    have HCT := Lib.hid h3'
    obtain ⟨a, rfl⟩ := h2'.tr.ptr
    clear h1 h2' h3'
    go_wp2_with fail
    clear c0
    go_loopw [9, 51] (fun v i wr => ∃ (k : Nat) (t : T), k ≤ n ∧ i = .int .i64 k ∧ TrW wr v t ∧ (cells t).length = cs.length ∧ bumpR (-1) cs rs = bumpR (-1) (cells t) (rs.drop k) ∧ Below w2.heap.size w2 wr) (fun _ i _ => n - (intOf i).toNat)
    case atStart => exact ⟨0, t, Nat.zero_le _, rfl, HT2.out, by rw [HCT.out], by rw [HCT.out]; rfl, Below.refl _ _⟩
    case round =>
      obtain ⟨k, t', hk, rfl, ht', hlt', hbr, hbw⟩ := hrel
      have HB := Lib.hid hbw
      have HTT := Lib.hid ht'
      have HLT := Lib.hid hlt'
      have HBR := Lib.hid hbr
      obtain ⟨av, rfl⟩ := ht'.tr.ptr
      clear hbw ht' hlt' hbr
      by_cases hlt : k < n
      · have hkl : k < rs.length := by have := HLEN.out; omega
        obtain ⟨g, off, rfl, hce⟩ := HRA.out.at_ (by omega)
        have hc := hce k hkl
        have hx1 := HOK.out _ (List.getElem_mem hkl)
        have hx2 := HLA.out _ (List.getElem_mem hkl)
        have hdr : rs.drop k = rs[k] :: rs.drop (k + 1) := List.drop_eq_getElem_cons hkl
        obtain ⟨⟨x1, x2⟩, hx⟩ : ∃ x, rs[k] = x := ⟨_, rfl⟩
        rw [hx] at hc hx1 hx2 hdr
        simp only at hc hx1 hx2
        obtain ⟨B1, rfl⟩ : ∃ B1 : Nat, x1 = B1 := ⟨x1.toNat, by omega⟩
        obtain ⟨B2, rfl⟩ : ∃ B2 : Nat, x2 = B2 := ⟨x2.toNat, by omega⟩
        have HDR := Lib.hid hdr
        have HX := Lib.hid hx2
        have c1 := cell_below HB.out (cell_below HB2.out hc.1)
        have c2 := cell_below HB.out (cell_below HB2.out hc.2)
        have hb12 : B1 < B2 := by omega
        have hb2m : B2 ≤ 1048576 := by omega
        clear hce hc hx hdr hx1 hx2
        go_wp2_with fail
        obtain ⟨w3, hw3⟩ : ∃ w3, wr.alloc (.cells #[.int .i64 (B1 : Int), .int .i64 (B2 : Int)] 102) = w3 := ⟨_, rfl⟩
        have hb3 : Below w2.heap.size w2 w3 := by rw [← hw3]; exact HB.out.alloc HB.out.size _
        have hy3 : w3.heap[wr.heap.size]? = some (.cells #[.int .i64 (B1 : Int), .int .i64 (B2 : Int)] 102 (0, 0)) := by rw [← hw3]; exact heap_at rfl
        have HTT3 := Lib.hid (show TrW w3 (.pointer av) t' by rw [← hw3]; exact HTT.out.below (below_alloc1 _ _))
        rw [hw3]
        clear hw3 c1 c2
        obtain ⟨gr, hgr⟩ : ∃ gr, wr.heap.size = gr := ⟨_, rfl⟩
        rw [hgr] at hy3
        rw [hgr]
        have HB3 := Lib.hid hb3
        have HY3 := Lib.hid hy3
        clear hgr hb3 hy3 HTT
        have HC4 := Lib.hid (split_any _ t' B1 w3 (by omega) HTT3.out)
        have e0 : w3.cell? ⟨gr, 0, none⟩ = some (.int .i64 (B1 : Int)) := by rw [Lib.cell_of_heap HY3.out]; rfl
        go_wp2_with fail
        refine HC4.out.mono ?_
        rintro e w4 ⟨⟨va, ta, vr, tr, rfl, hta, htr, hca, hcr⟩, hb4⟩
        have HTA := Lib.hid hta
        have HTR := Lib.hid htr
        have HCA := Lib.hid hca
        have HCR := Lib.hid hcr
        have HB4 := Lib.hid (HB3.out.trans (hb4.mono HB3.out.size))
        have HY4 := Lib.hid ((hb4.block _ (Array.getElem?_eq_some_iff.1 HY3.out).1).trans HY3.out)
        clear hta htr hca hcr hb4 e0 HC4
        have e0 : w4.cell? ⟨gr, 0, none⟩ = some (.int .i64 (B1 : Int)) := by rw [Lib.cell_of_heap HY4.out]; rfl
        have e1 : w4.cell? ⟨gr, 1, none⟩ = some (.int .i64 (B2 : Int)) := by rw [Lib.cell_of_heap HY4.out]; rfl
        have i1 : IntKind.i64.wrap ((B2 : Int) - (B1 : Int)) = ((B2 - B1 : Nat) : Int) := by rw [IntWalk.i64_in _ (by omega)]; omega
        obtain ⟨av4, rfl⟩ := HTR.out.tr.ptr
        obtain ⟨dd, hdd⟩ : ∃ dd, B2 - B1 = dd := ⟨_, rfl⟩
        rw [hdd] at i1
        have HC5 := Lib.hid (split_any _ tr dd w4 (by omega) HTR.out)
        have HDD := Lib.hid hdd
        clear hdd
        go_wp2_with fail
        refine HC5.out.mono ?_
        rintro e w5 ⟨⟨vm, tm, ve, te, rfl, htm, hte, hcm, hce⟩, hb5⟩
        have HTM := Lib.hid htm
        have HTE := Lib.hid hte
        have HCM := Lib.hid (show cells tm = midC (cells t') B1 B2 by rw [hcm, HCR.out, ← HDD.out]; rfl)
        have HCE := Lib.hid (show cells te = (cells t').drop B2 by rw [hce, HCR.out, List.drop_drop, ← HDD.out, show B1 + (B2 - B1) = B2 by omega])
        have HB5 := Lib.hid (HB4.out.trans (hb5.mono HB4.out.size))
        have HB45 := Lib.hid hb5
        clear htm hte hcm hce hb5 e0 e1 HC5
        have HBC := Lib.hid (bumpR_cons (-1) (cells t') B1 B2 (rs.drop (k + 1)))
        have HC6 := Lib.hid (fun (W : World) (hW : Below w5.heap.size w5 W) => all_any vm tm W (HTM.out.tr.below hW))
        have HSM := Lib.hid (show (smT tm).lo = lo (midC (cells t') B1 B2) by rw [← HCM.out]; rfl)
        obtain ⟨sm, hsm⟩ : ∃ s, smT tm = s := ⟨_, rfl⟩
        rw [hsm] at HC6 HSM
        obtain ⟨s1, s2, s3, s4, s5, s6⟩ := sm
        unfold Sm.v at HC6
        simp only at HC6
        clear hsm
        obtain ⟨avm, rfl⟩ := HTM.out.tr.ptr
        by_cases hz : s4 = 0
        · have HST := Lib.hid (show bumpR (-1) cs rs = (30, (bumpR (-1) cs rs).2) by
            have h9 : bumpR (-1) cs rs = (30, cells t') := by
              rw [HBR.out, HDR.out, HBC.out, if_pos ⟨by decide, by rw [← HSM.out]; exact hz⟩]
            rw [h9])
          have hzz : (s4 == 0) = true := by rw [hz]; rfl
          have HZ := Lib.hid hz
          clear hz
          go_wp2_with fail
          refine (HC6.out _ (Below.refl _ _)).mono ?_
          rintro e w6 ⟨rfl, hb6⟩
          have HB6 := Lib.hid (HB2.out.trans ((HB5.out.trans (hb6.mono HB5.out.size)).mono HB2.out.size))
          clear hb6
          go_wp2_with fail
          go_ret
          exact Bumped.stop HST.out (by decide) HB6.out
        · have hzz : (s4 == 0) = false := by simpa using hz
          have HNX := Lib.hid (show bumpR (-1) cs rs = bumpR (-1) (bump1 (-1) (cells t') B1 B2) (rs.drop (k + 1)) by
            rw [HBR.out, HDR.out, HBC.out, if_neg (fun h => hz (by have := HSM.out; simp only at this; rw [this]; exact h.2)), if_neg (by omega)])
          have HUP := Lib.hid (show Cok (up (-1) (cells tm)) from up_cok (.inr rfl) HTM.out.wf.ok (by rw [HCM.out]; exact fun h => hz (by have := HSM.out; simp only at this; rw [this]; exact h.2)) (by rw [HCM.out]; omega))
          clear hz
          go_wp2_with fail
          refine (HC6.out _ (Below.refl _ _)).mono ?_
          rintro e w6 ⟨rfl, hb6⟩
          have HB6 := Lib.hid (HB5.out.trans (hb6.mono HB5.out.size))
          have HB56 := Lib.hid hb6
          clear hb6
          have HC7 := Lib.hid (lift_any _ tm (-1) w6 (HTM.out.below HB56.out) HUP.out (by decide))
          go_wp2_with fail
          refine HC7.out.mono ?_
          rintro e w7 ⟨⟨v7, rfl, ht7⟩, hb7⟩
          have HB7 := Lib.hid (HB6.out.trans (hb7.mono HB6.out.size))
          have HB57 := Lib.hid (HB56.out.trans (hb7.mono HB56.out.size))
          have HT7 := Lib.hid ht7
          have HL := Lib.hid (show (cells ta).length + (cells (lift (-1) tm)).length + (cells te).length ≤ 2097152 by
            rw [cells_lift, up_len, HCA.out, HCM.out, HCE.out, midC, List.length_take, List.length_take, List.length_drop, List.length_drop, HLT.out]
            have := HX.out
            have := HCL.out
            omega)
          have HC8 := Lib.hid (mend_any va v7 ta (lift (-1) tm) w7 ((HTA.out.below HB45.out).below HB57.out) HT7.out (by have := HL.out; omega))
          clear ht7 hb7 HC7
          go_wp2_with fail
          refine HC8.out.mono ?_
          rintro e w8 ⟨⟨v8, t8, rfl, ht8, hc8⟩, hb8⟩
          have HB8 := Lib.hid (HB7.out.trans (hb8.mono HB7.out.size))
          have HT8 := Lib.hid ht8
          have HCC8 := Lib.hid hc8
          have HC9 := Lib.hid (mend_any v8 ve t8 te w8 HT8.out ((HTE.out.below HB57.out).below hb8) (by rw [HCC8.out, List.length_append]; have := HL.out; omega))
          clear ht8 hc8 hb8 HC8
          go_wp2_with fail
          refine HC9.out.mono ?_
          rintro e w9 ⟨⟨v9, t9, rfl, ht9, hc9⟩, hb9⟩
          have HB9 := Lib.hid (HB8.out.trans (hb9.mono HB8.out.size))
          have HT9 := Lib.hid ht9
          have HCC9 := Lib.hid (show cells t9 = bump1 (-1) (cells t') B1 B2 by rw [hc9, HCC8.out, cells_lift, HCA.out, HCM.out, HCE.out]; rfl)
          clear ht9 hc9 hb9 HC9
          go_wp2_with fail
          go_roundw
          case rel => exact ⟨k + 1, t9, hlt, by go_num, HT9.out, by rw [HCC9.out, bump1_len (Nat.le_of_lt hb12) (by rw [HLT.out]; have := HX.out; omega), HLT.out], by rw [HNX.out, HCC9.out], HB9.out⟩
          case measure => simp [intOf]; omega
      · obtain rfl : k = n := by omega
        have HZ := Lib.hid (show bumpR (-1) cs rs = (0, cells t') by rw [HBR.out, List.drop_eq_nil_of_le (by rw [← HLEN.out]; exact Nat.le_refl _)]; rfl)
        have HXW := Lib.hid ((HB.out.block _ (Array.getElem?_eq_some_iff.1 HX2.out).1).trans HX2.out)
        obtain ⟨y0, f0, ys⟩ := one_facts HXW.out
        have HF := Lib.hid (Rope.set (HB2.out.trans (HB.out.mono HB2.out.size)) HXW.out (fun r => by simp) HTT.out rfl)
        go_wp2_with fail
        go_ret
        exact ⟨by rw [HZ.out]; rfl, fun _ => by rw [HZ.out]; exact HF.out, fun h => by rw [HZ.out] at h; exact absurd rfl h⟩
end
end Go.Proofs.YtkdhomiieenfnaaGreatDoor.Rp

namespace Go.Proofs.YtkdhomiieenfnaaGreatDoor.Rp
open Go.RowKit Go.Proofs Go.Proofs.YtkdhomiieenfnaaGreatDoor.U Go.Proofs.YtkdhomiieenfnaaGreatDoor.Txt
set_option linter.unusedVariables false
set_option linter.unusedSimpArgs false

/-- A run: its text, the text's runes, its counter. -/
structure RV where
  S : ByteArray
  xs : List Int
  h : Int
structure RV.Ok (r : RV) : Prop where
  text : Text r.S r.xs
  ne : r.xs ≠ []
  h0 : 0 ≤ r.h ∧ r.h ≤ M
/-- The cells of runs. -/
def rvCells (l : List RV) : List Cl := l.flatMap fun r => run r.xs r.h
/-- Runs that lie behind a slice. -/
structure RunsIn (w : World) (A : Option Addr) (l : List RV) : Prop where
  at_ : 0 < l.length → ∃ b off, A = some ⟨b, off, none⟩ ∧ ∀ j (h : j < l.length), w.cell? ⟨b, off + j * 2, none⟩ = some (.string l[j].S) ∧ w.cell? ⟨b, off + j * 2 + 1, none⟩ = some (.int .i64 l[j].h)
theorem RunsIn.below {w w1 : World} {A : Option Addr} {l : List RV} (h : RunsIn w A l) (hb : Below w.heap.size w w1) : RunsIn w1 A l :=
  ⟨fun h0 => by obtain ⟨b, off, e, hc⟩ := h.at_ h0; exact ⟨b, off, e, fun j hj => ⟨cell_below hb (hc j hj).1, cell_below hb (hc j hj).2⟩⟩⟩
theorem rvCells_app (a b : List RV) : rvCells (a ++ b) = rvCells a ++ rvCells b := by simp [rvCells]
theorem rvCells_snoc (l : List RV) (k : Nat) (hk : k < l.length) : rvCells (l.take (k + 1)) = rvCells (l.take k) ++ run l[k].xs l[k].h := by
  rw [List.take_succ_eq_append_getElem hk, rvCells_app]; simp [rvCells]
theorem rvCells_take_le (l : List RV) (k : Nat) : (rvCells (l.take k)).length ≤ (rvCells l).length := by
  conv => rhs; rw [← List.take_append_drop k l]
  rw [rvCells_app, List.length_append]; omega
theorem rv_len {l : List RV} (h : ∀ r ∈ l, r.xs ≠ []) : l.length ≤ (rvCells l).length := by
  induction l with
  | nil => simp
  | cons r l ih =>
    have h1 := ih (fun x hx => h x (by simp [hx]))
    have h2 := List.length_pos_iff.2 (h r (by simp))
    simp only [rvCells, List.flatMap_cons, List.length_append, run_len, List.length_cons] at h1 ⊢
    omega
/-- An append of one own list of pieces to another, in a drawn region. -/
theorem step_appP {w : World} {ops : Array Oper} {o : Oper} {a : Act} {K : Act → World → Prop} {Q : Exit → Act → World → Prop} {E : Prop} (hgd : o.guard = none) (s x : Operand)
    (ho : o.op = .call { callee := .builtin .append, args := #[s, x], argTypes := #[72, 72] }) (base base2 : Nat) (v u : Value) (xs ys : List PcV) (hs : a.eval s = v) (hown : w.ownsRow base 114 2 v xs.length (pcCells xs))
    (hx : a.eval x = u) (hown2 : w.ownsRow base2 114 2 u ys.length (pcCells ys)) (hne : ys ≠ []) (hl : xs.length + ys.length ≤ 16777216) (hbase : base ≤ w.heap.size)
    (h : ∀ g cap w', w'.ownsRow base 114 2 (.slice (some ⟨g, 0, none⟩) (xs.length + ys.length) cap) (xs ++ ys).length (pcCells (xs ++ ys)) → w.grownBy w' v.ownBlock → K (a.put o.dst (.slice (some ⟨g, 0, none⟩) (xs.length + ys.length) cap)) w') :
    if Region.wanted o (yielded ops a.tmps) = true then Oper.wp Tryz.prog o a w K Q else E := by
  obtain ⟨i0, hi, hz0, hz1, hz2⟩ := info_parts infoPc
  have hp := List.length_pos_iff.2 hne
  rcases hown2.2 with ⟨hv, h0⟩ | ⟨g, cap, cur, hv, hbg, hg, hcap, hrest⟩
  · omega
  · have hlen : (pcCells ys).length = ys.length * 2 := by rw [pcCells_len]; omega
    subst hv
    refine step_append_lies _ hgd s x 72 ho base 114 i0 (.agg #[.slice none 0 0, .int .i64 0]) 2 32 Tryz.underlying72 hi hz0 hz1 hz2 rfl (by decide) v xs.length (pcCells xs) hs hown ⟨g, 0, none⟩ ys.length cap (pcCells ys) hx hlen ?_ ?_ hp (by unfold maxLen; omega) (by omega) hbase _ rfl (fun g cap w' h1 h2 _ _ => h g cap w' (by rw [List.length_append, pcCells_app]; exact h1) h2)
    · intro j y hy
      exact hown2.cells (g := g) rfl j y hy
    · intro y hy
      simp only [pcCells, List.mem_flatMap] at hy
      obtain ⟨p, _, hp⟩ := hy
      simp at hp
      rcases hp with rfl | rfl <;> rfl
theorem keep_grown {w w' : World} {B : Nat} {v : Value} {n : Nat} {xs : List Value} {S : ByteArray} {h : Int} {gr : Nat} (hown : w.ownsRow B 114 2 v n xs) (hg : w.grownBy w' v.ownBlock) (hb : w.heap[gr]? = some (.cells #[.string S, .int .i64 h] 68 (0, 0))) :
    w'.cell? ⟨gr, 0, none⟩ = some (.string S) ∧ w'.cell? ⟨gr, 1, none⟩ = some (.int .i64 h) := by
  have e := (grown_kind hown hg gr _ _ _ hb (by decide)).trans hb
  exact ⟨by rw [Lib.cell_of_heap e]; rfl, by rw [Lib.cell_of_heap e]; rfl⟩
theorem cut_ne {qs : List PcV} {xs : List Int} {h : Int} (hx : xs ≠ []) (hc : cellsP qs = run xs h) : qs ≠ [] := by
  rintro rfl
  have := congrArg List.length hc
  rw [run_len] at this
  exact hx (List.length_eq_zero_iff.1 this.symm)
/-- What From answers of right runs. -/
def FromPost (cs : List Cl) (w : World) (e : Ending) (w' : World) : Prop := (∃ b, e = .returned (.tuple #[.pointer (some ⟨b, 0, none⟩), .int .i64 0]) ∧ Rope w' b cs ∧ w.heap.size ≤ b) ∧ Below w.heap.size w w'
set_option maxRecDepth 100000 in
set_option maxHeartbeats 8000000 in
theorem from_any (A : Option Addr) (c : Nat) (l : List RV) (w : World) (hR : RunsIn w A l) (hok : ∀ r ∈ l, r.Ok) (hadj : ∀ k (h : k + 1 < l.length), l[k].h ≠ l[k + 1].h) (hlen : (rvCells l).length ≤ 1048576) (hB : Bars w) :
    Calls Tryz.prog 10 #[.slice A l.length c] w (FromPost (rvCells l) w) := by
  have HR := Lib.hid hR
  have HOK := Lib.hid hok
  have HADJ := Lib.hid hadj
  have HLN := Lib.hid hlen
  have HBA := Lib.hid hB
  have hnl := rv_len (fun r hr => (hok r hr).ne)
  obtain ⟨n, hn⟩ : ∃ n, l.length = n := ⟨_, rfl⟩
  have hnb : n ≤ 1048576 := by omega
  have HN := Lib.hid hn
  rw [hn]
  clear hR hok hadj hlen hB hn hnl
  go_enter Tryz.func10, Tryz.ntmps10
  go_wp2_with fail
  go_loopw [4, 15] (fun s i wr => ∃ k : Nat, k ≤ n ∧ i = .int .i64 k ∧ s = .int .i64 ((rvCells (l.take k)).length : Nat) ∧ Below w.heap.size w wr) (fun _ i _ => n - (intOf i).toNat)
  case atStart => exact ⟨0, Nat.zero_le _, rfl, rfl, Below.refl _ _⟩
  case round =>
    obtain ⟨k, hk, rfl, rfl, hb⟩ := hrel
    have HB := Lib.hid hb
    clear hb
    by_cases hlt : k < n
    · have hkl : k < l.length := by have := HN.out; omega
      obtain ⟨g, off, rfl, hce⟩ := HR.out.at_ (by omega)
      have hc := hce k hkl
      have hro := HOK.out _ (List.getElem_mem hkl)
      have hsn := rvCells_snoc l k hkl
      have htk := rvCells_take_le l (k + 1)
      have hprev : ∀ j, k = j + 1 → ∃ p, w.cell? ⟨g, off + j * 2 + 1, none⟩ = some (.int .i64 p) ∧ (l[k].h == p) = false := fun j hj => by
        subst hj
        refine ⟨_, (hce j (by omega)).2, ?_⟩
        have := HADJ.out j hkl
        simpa using fun e => this e.symm
      obtain ⟨⟨S, xs, h⟩, hr⟩ : ∃ r, l[k] = r := ⟨_, rfl⟩
      rw [hr] at hc hro hsn hprev
      simp only at hc hsn hprev
      have c1 := cell_below HB.out hc.1
      have c2 := cell_below HB.out hc.2
      have HRO := Lib.hid hro
      rw [hsn, List.length_append, run_len] at htk
      have HSN := Lib.hid hsn
      have hml := HLN.out
      obtain ⟨T0, hT0⟩ : ∃ T0, (rvCells (l.take k)).length = T0 := ⟨_, rfl⟩
      rw [hT0] at htk ⊢
      have HT0 := Lib.hid hT0
      obtain ⟨m, hm⟩ : ∃ m, xs.length = m := ⟨_, rfl⟩
      rw [hm] at htk
      have HM := Lib.hid hm
      have hmb : T0 + m ≤ 1048576 := by omega
      have i1 : IntKind.i64.wrap ((T0 : Int) + m) = (T0 : Int) + m := IntWalk.i64_in _ (by omega)
      have hsz : S.toList ≠ [] := by
        intro e
        have h1 := hro.text.le
        have h2 := List.length_pos_iff.2 hro.ne
        have h3 : S.size = 0 := by rw [← size_toList, ← Lib.toList_data, e]; rfl
        simp only at h1 h2
        omega
      have b1 : (S.toList == []) = false := by simpa using hsz
      have b2 : S.toList.isEmpty = false := by simpa using hsz
      have HPV := Lib.hid hprev
      have HCE := Lib.hid c2
      clear hce hc hro hsn hr htk hT0 hm hprev hml hsz
      go_upto_region 5 with fail
      obtain ⟨w3, hw3⟩ : ∃ w3, wr.alloc (.cells #[.string S, .int .i64 h] 68) = w3 := ⟨_, rfl⟩
      have hb3 : Below w.heap.size w w3 := by rw [← hw3]; exact HB.out.alloc HB.out.size _
      have hy3 : w3.heap[wr.heap.size]? = some (.cells #[.string S, .int .i64 h] 68 (0, 0)) := by rw [← hw3]; exact heap_at rfl
      have HB3 := Lib.hid hb3
      have HY3 := Lib.hid hy3
      clear hb3 hy3
      rw [hw3]
      obtain ⟨gr, hgr⟩ : ∃ gr, wr.heap.size = gr := ⟨_, rfl⟩
      rw [hgr] at HY3
      rw [hgr]
      clear hw3 c1 c2 hgr
      go_cut [15, 37] from 15 to 57 (fun i b wx => i = .int .i64 k ∧ b = .bool false ∧ ∃ N, wx = w3.drewN N)
      case first =>
        have e0 : w3.cell? ⟨gr, 0, none⟩ = some (.string S) := by rw [Lib.cell_of_heap HY3.out]; rfl
        have e1 : w3.cell? ⟨gr, 1, none⟩ = some (.int .i64 h) := by rw [Lib.cell_of_heap HY3.out]; rfl
        by_cases hk0 : k = 0
        · have b3 : decide (0 < k) = false := by simp [hk0]
          go_quiet (fail)
          go_wp2_with fail
          go_meet
          exact ⟨rfl, rfl, _, rfl⟩
        · obtain ⟨j, hj⟩ : ∃ j, k - 1 = j := ⟨_, rfl⟩
          obtain ⟨p, hp1, hp2⟩ := HPV.out j (by omega)
          have e2 := cell_below HB3.out hp1
          have b3 : decide (0 < k) = true := by simp; omega
          have i2 : IntKind.i64.wrap ((k : Int) - 1) = (j : Int) := by rw [IntWalk.i64_in _ (by omega)]; omega
          have z1 : (0 : Int) ≤ (j : Int) := by omega
          have z2 : (j : Int) < (n : Int) := by omega
          have z3 : j < n := by omega
          clear hk0 hp1 hj
          go_quiet (fail)
          go_wp2_with fail
          go_meet
          exact ⟨rfl, rfl, _, rfl⟩
      case rest =>
        obtain ⟨rfl, rfl, N, rfl⟩ := hcut
        have HB4 := Lib.hid (below_drewN HB3.out N)
        have HY4 := Lib.hid (show (w3.drewN N).heap[gr]? = _ from HY3.out)
        obtain ⟨w4, hw4⟩ : ∃ w4, w3.drewN N = w4 := ⟨_, rfl⟩
        rw [hw4] at HB4 HY4 ⊢
        clear hw4 HB3 HY3 b1 b2
        have e0 : w4.cell? ⟨gr, 0, none⟩ = some (.string S) := by rw [Lib.cell_of_heap HY4.out]; rfl
        have HC4 := Lib.hid (check_at S m 0 0 w4 (by have := HRO.out.text.size; simp only at this; unfold maxLen; omega) (HBA.out.below HB4.out) (by have := HRO.out.text.chk; simp only at this; rw [HM.out] at this; exact this))
        go_wp2_with fail
        refine HC4.out.mono ?_
        rintro e w5 ⟨rfl, hb5⟩
        have HB5 := Lib.hid (HB4.out.trans (hb5.mono HB4.out.size))
        have HY5 := Lib.hid ((hb5.block _ (Array.getElem?_eq_some_iff.1 HY4.out).1).trans HY4.out)
        have e1 : w5.cell? ⟨gr, 1, none⟩ = some (.int .i64 h) := by rw [Lib.cell_of_heap HY5.out]; rfl
        have HC5 := Lib.hid (show Calls Tryz.prog 26 #[.int .i64 h] w5 fun e w' => e = .returned (.int .i64 0) ∧ Below w5.heap.size w5 w' by
          have h1 := HRO.out.h0
          simp only [M] at h1
          have := counter_any h w5
          rw [if_neg (by omega), if_neg (by omega)] at this
          exact this)
        clear hb5 e0 HC4
        go_wp2_with fail
        refine HC5.out.mono ?_
        rintro e w6 ⟨rfl, hb6⟩
        have HB6 := Lib.hid (HB5.out.trans (hb6.mono HB5.out.size))
        clear hb6 HC5 e1
        go_wp2_with fail
        go_roundw
        case rel => exact ⟨k + 1, hlt, by go_num, by rw [HSN.out, List.length_append, run_len, HT0.out, HM.out]; go_num, HB6.out⟩
        case measure => simp [intOf]; omega
    · obtain rfl : k = n := by omega
      have hall : l.take k = l := List.take_of_length_le (by have := HN.out; omega)
      rw [hall]
      obtain ⟨T0, hT0⟩ : ∃ T0, (rvCells l).length = T0 := ⟨_, rfl⟩
      have hmx := HLN.out
      rw [hT0] at hmx ⊢
      have b1 : ¬ (1048576 : Int) < (T0 : Int) := by omega
      clear hT0 hall
      go_wp2_with fail
      clear b1
      obtain ⟨wo, rfl⟩ : ∃ wo : World, wo = wr := ⟨_, rfl⟩
      go_loopw [10, 62] (fun v i wr => ∃ (j : Nat) (ps : List PcV), j ≤ k ∧ i = .int .i64 j ∧ wr.ownsRow wo.heap.size 114 2 v ps.length (pcCells ps) ∧ (∀ q ∈ ps, q.Ok wr) ∧ cellsP ps = rvCells (l.take j) ∧ Below wo.heap.size wo wr) (fun _ i _ => k - (intOf i).toNat)
      case atStart => exact ⟨0, [], Nat.zero_le _, rfl, ⟨rfl, .inl ⟨rfl, rfl⟩⟩, by simp, by simp [cellsP, rvCells], Below.refl _ _⟩
      case round =>
        obtain ⟨j, ps, hj, rfl, hown, hpo, hcs, hbw⟩ := hrel
        have HO := Lib.hid hown
        have HPO := Lib.hid hpo
        have HCS := Lib.hid hcs
        have HBW := Lib.hid hbw
        have HB2 := Lib.hid (HB.out.trans (hbw.mono HB.out.size))
        clear hown hpo hcs hbw
        by_cases hlt2 : j < k
        · have hkl : j < l.length := by have := HN.out; omega
          obtain ⟨g, off, rfl, hce⟩ := HR.out.at_ (by omega)
          have hc := hce j hkl
          have hro := HOK.out _ (List.getElem_mem hkl)
          have hsn := rvCells_snoc l j hkl
          have htk := rvCells_take_le l (j + 1)
          have htk2 := rvCells_take_le l j
          obtain ⟨⟨S, xs, h⟩, hr⟩ : ∃ r, l[j] = r := ⟨_, rfl⟩
          rw [hr] at hc hro hsn
          simp only at hc hsn
          have c1 := cell_below HB2.out hc.1
          have c2 := cell_below HB2.out hc.2
          have HRO := Lib.hid hro
          rw [hsn, List.length_append, run_len] at htk
          have HSN := Lib.hid hsn
          have hml := HLN.out
          have hplen := cellsP_len (ps := ps) (fun q hq => (HPO.out q hq).ne)
          rw [HCS.out] at hplen
          obtain ⟨m, hm⟩ : ∃ m, xs.length = m := ⟨_, rfl⟩
          rw [hm] at htk
          have HM := Lib.hid hm
          have hmb : m ≤ 1048576 := by omega
          have hpb : ps.length ≤ 1048576 := by omega
          have HPB := Lib.hid (And.intro hmb hpb)
          clear hce hc hro hsn hr htk htk2 hm hml hplen hmb hpb
          go_wp2_with fail
          obtain ⟨w3, hw3⟩ : ∃ w3, wr.alloc (.cells #[.string S, .int .i64 h] 68) = w3 := ⟨_, rfl⟩
          have hb3 : Below wo.heap.size wo w3 := by rw [← hw3]; exact HBW.out.alloc HBW.out.size _
          have hy3 : w3.heap[wr.heap.size]? = some (.cells #[.string S, .int .i64 h] 68 (0, 0)) := by rw [← hw3]; exact heap_at rfl
          have hbr3 : Below wr.heap.size wr w3 := by rw [← hw3]; exact below_alloc1 _ _
          have HB3 := Lib.hid hb3
          have HY3 := Lib.hid hy3
          have HBR3 := Lib.hid hbr3
          have HO3 := Lib.hid (own_below HO.out hbr3)
          clear hb3 hy3 hbr3
          rw [hw3]
          obtain ⟨gr, hgr⟩ : ∃ gr, wr.heap.size = gr := ⟨_, rfl⟩
          rw [hgr] at HY3
          rw [hgr]
          have HGR := Lib.hid hgr
          clear hw3 c1 c2 hgr
          have s0 : w3.cell? ⟨gr, 0, none⟩ = some (.string S) := by rw [Lib.cell_of_heap HY3.out]; rfl
          have s1 : w3.cell? ⟨gr, 1, none⟩ = some (.int .i64 h) := by rw [Lib.cell_of_heap HY3.out]; rfl
          have HK := Lib.hid (fun (W : World) (hW : Below w3.heap.size w3 W) => (show W.cell? ⟨gr, 0, none⟩ = some (.string S) ∧ W.cell? ⟨gr, 1, none⟩ = some (.int .i64 h) from
            have e := (hW.block _ (Array.getElem?_eq_some_iff.1 HY3.out).1).trans HY3.out
            ⟨by rw [Lib.cell_of_heap e]; rfl, by rw [Lib.cell_of_heap e]; rfl⟩))
          have CR := Lib.hid (fun (W : World) (hW : Below w3.heap.size w3 W) => (runesOf_any S xs W HRO.out.text (by rw [HM.out]; have := HPB.out.1; omega)).mono (R' := fun e w' => (∃ A6 c6, e = .returned (.slice A6 m c6) ∧ m ≤ c6 ∧ Rn w' A6 xs) ∧ Below w3.heap.size w3 w') fun e w' ⟨⟨v6, h1, hown6⟩, h2⟩ => by
            obtain ⟨A6, c6, hv6, hc6, hcells6⟩ := own_runes hown6
            refine ⟨⟨A6, c6, by rw [h1, hv6, HM.out], by rw [← HM.out]; exact hc6, hcells6, fun ad e => ?_⟩, hW.trans (h2.mono hW.size)⟩
            rcases hown6.2 with ⟨hv, h0⟩ | ⟨g', cap, cur, hv, _, hg', _⟩
            · exact absurd (List.length_eq_zero_iff.1 h0) HRO.out.ne
            · have := (Value.slice.inj (hv6.symm.trans hv)).1
              rw [e] at this
              rw [Option.some.inj this]
              exact ⟨_, _, hg'⟩)
          have CC := Lib.hid (fun (W : World) (A6 : Option Addr) (c6 : Nat) (hW : Below w3.heap.size w3 W) (hc6 : m ≤ c6) (hr6 : Rn W A6 xs) => (show Calls Tryz.prog 27 #[.slice A6 m c6, .int .i64 h] W (fun e w' => (∃ v qs, e = .returned v ∧ w'.ownsRow W.heap.size 114 2 v qs.length (pcCells qs) ∧ (∀ p ∈ qs, p.Ok w') ∧ cellsP qs = run xs h ∧ qs.length ≤ m) ∧ Below w3.heap.size w3 w') by
            have := cutUp_any A6 c6 xs h W (by rw [HM.out]; have := HPB.out.1; omega) (by rw [HM.out]; exact hc6) hr6 HRO.out.h0
            rw [HM.out] at this
            exact this.mono fun e w' ⟨h1, h2⟩ => ⟨h1, hW.trans (h2.mono hW.size)⟩))
          go_region_held3 (fun w' => w'.cell? ⟨gr, 0, none⟩ = some (.string S) ∧ w'.cell? ⟨gr, 1, none⟩ = some (.int .i64 h))
            (first | (with_reducible exact HK.out _ hb7) | (with_reducible exact HK.out _ hb6) | (with_reducible exact HK.out _ (Below.refl _ _).drew) | (with_reducible exact HKA.out))
            (first
            | ((with_reducible refine (CR.out _ (Below.refl _ _).drew).mono ?_); rintro e w6 ⟨⟨A6, c6, rfl, hc6, hr6⟩, hb6⟩)
            | ((with_reducible refine (CC.out _ A6 c6 hb6 hc6 hr6).mono ?_); rintro e w7 ⟨⟨v7, qs, rfl, hown7, hok7, hcs7, hln7⟩, hb7⟩)
            | (refine step_appP rfl (.tmp 66) (.tmp 72) rfl wo.heap.size w6.heap.size _ _ ps qs (by simp [Act.eval, Act.put]) (own_below HO3.out hb7) (by simp [Act.eval, Act.put]) hown7 (cut_ne HRO.out.ne hcs7) (by have := HPB.out; omega) (by have := HB3.out.size; have := hb7.size; omega) ?_; intro g9 cap9 w9 hown9 hgrow9; have HO9 := Lib.hid hown9; have HG9 := Lib.hid hgrow9; have HKA := Lib.hid (keep_grown (own_below HO3.out hb7) hgrow9 (hb7.block _ (Array.getElem?_eq_some_iff.1 HY3.out).1 |>.trans HY3.out)); clear hown9 hgrow9))
          have HOQ := Lib.hid hok7
          have HCQ := Lib.hid hcs7
          have HB7 := Lib.hid hb7
          clear hok7 hcs7 hb7 hln7 hown7
          go_wp2_with fail
          go_roundw
          case rel =>
            refine ⟨j + 1, ps ++ qs, hlt2, by go_num, HO9.out, fun q hq => ?_, by rw [cellsP_app, HCS.out, HCQ.out, HSN.out], (HB3.out.trans (HB7.out.mono HB3.out.size)).grown HG9.out (by have := HB3.out.size; have := HB7.out.size; omega) (fun k hk => (HO.out.lt k hk).1)⟩
            have hown7 := own_below HO3.out HB7.out
            rcases List.mem_append.1 hq with h | h
            · have o1 := ((HPO.out q h).below HBR3.out).below HB7.out
              exact o1.kept (grown_keeps o1 hown7 HG9.out)
            · exact (HOQ.out q h).kept (grown_keeps (HOQ.out q h) hown7 HG9.out)
          case measure => simp [intOf]; omega
        · obtain rfl : j = k := by omega
          have HC := Lib.hid (build_any _ ps wr (by rw [HCS.out, List.take_of_length_le (by have := HN.out; omega)]; have := HLN.out; omega) (PV.of_own HO.out HPO.out))
          rw [HCS.out, List.take_of_length_le (by have := HN.out; omega)] at HC
          go_wp2_with fail
          refine HC.out.mono ?_
          rintro e w5 ⟨⟨v5, t5, rfl, ht5, hc5⟩, hb5⟩
          have HB5 := Lib.hid (HB2.out.trans (hb5.mono HB2.out.size))
          have HT5 := Lib.hid ht5
          have HC5 := Lib.hid hc5
          obtain ⟨a5, rfl⟩ := ht5.tr.ptr
          clear ht5 hc5 hb5 HC
          go_wp2_with fail
          go_ret2
          refine ⟨⟨w5.heap.size, rfl, ⟨_, t5, heap_at rfl, HT5.out.below (below_alloc1 _ _), HC5.out⟩, HB5.out.size⟩, HB5.out.alloc HB5.out.size _⟩
end Go.Proofs.YtkdhomiieenfnaaGreatDoor.Rp

namespace Go.Proofs.YtkdhomiieenfnaaGreatDoor.Rp
open Go.RowKit Go.Proofs Go.Proofs.YtkdhomiieenfnaaGreatDoor.U Go.Proofs.YtkdhomiieenfnaaGreatDoor.Txt
set_option linter.unusedVariables false
set_option linter.unusedSimpArgs false

theorem plc_node (l r : T) (rs : List Int) (h p : Int) (q : Nat) : plc (cells (.node l rs h r p)) q =
    if q < shown (cells (lift p l)) then plc (cells (lift p l)) q else
    if h + p = 0 ∧ q - shown (cells (lift p l)) < rs.length then (cells (lift p l)).length + (q - shown (cells (lift p l))) else
    (cells (lift p l)).length + rs.length + plc (cells (lift p r)) (q - shown (cells (lift p l)) - if h + p = 0 then rs.length else 0) := by
  rw [cells_open, List.append_assoc]
  by_cases h1 : q < shown (cells (lift p l))
  · rw [if_pos h1, plc_left _ _ _ h1]
  · rw [if_neg h1, plc_right _ _ _ (by omega)]
    by_cases h2 : h + p = 0
    · rw [h2]
      by_cases h3 : q - shown (cells (lift p l)) < rs.length
      · rw [if_pos ⟨rfl, h3⟩, plc_left _ _ _ (by rw [shown_run0]; exact h3), plc_run0 _ _ h3]
      · rw [if_neg (fun h => h3 h.2), plc_right _ _ _ (by rw [shown_run0]; omega), shown_run0, run_len, if_pos rfl]; omega
    · rw [if_neg (fun h => h2 h.1), plc_right _ _ _ (by rw [shown_run1 _ h2]; omega), shown_run1 _ h2, run_len, if_neg h2]; omega
theorem shown_node (l r : T) (rs : List Int) (h p : Int) : shown (cells (.node l rs h r p)) = shown (cells (lift p l)) + (if h + p = 0 then rs.length else 0) + shown (cells (lift p r)) := by
  rw [cells_open, shown_app, shown_app]
  by_cases h2 : h + p = 0
  · rw [h2, shown_run0, if_pos rfl]
  · rw [shown_run1 _ h2, if_neg h2]
section
attribute [local go_sem] fldN
set_option maxRecDepth 100000 in
set_option maxHeartbeats 8000000 in
theorem TotalOf_any (b : Nat) (cs : List Cl) (p : Nat) (w : World) (h : Rope w b cs) (hp : p ≤ shown cs) : Calls Tryz.prog 132 #[.pointer (some ⟨b, 0, none⟩), .int .i64 p] w fun e w' => e = .returned (.tuple #[.int .i64 (plc cs p : Nat), .int .i64 0]) ∧ Below w.heap.size w w' := by
  have HRO := Lib.hid h
  have hlen : cs.length ≤ 2097152 := by obtain ⟨v, t, h1, h2, h3⟩ := h; rw [← h3]; exact h2.len
  have hsl := shown_le cs
  have hpl := plc_le cs p
  have HPL := Lib.hid (plc_all cs p)
  obtain ⟨n, hn⟩ : ∃ n, shown cs = n := ⟨_, rfl⟩
  have HN := Lib.hid hn
  have HC1 := Lib.hid (fun (W : World) (hW : Below w.heap.size w W) => Shown_any b cs W (h.below hW))
  have HC2 := Lib.hid (fun (W : World) (hW : Below w.heap.size w W) => Total_any b cs W (h.below hW))
  rw [hn] at hp hsl HC1
  obtain ⟨R, hR⟩ : ∃ R, plc cs p = R := ⟨_, rfl⟩
  have HR := Lib.hid hR
  rw [hR] at hpl ⊢
  obtain ⟨c, hc⟩ : ∃ c, cs.length = c := ⟨_, rfl⟩
  rw [hc] at hlen hsl hpl HC2
  have HCL := Lib.hid hc
  have b1 : decide ((p : Int) < 0) = false := by simp
  have b2 : ¬ n < p := by omega
  clear h hn hR hc
  by_cases he : p = n
  · have b3 : (p == n) = true := by simp [he]
    have HE := Lib.hid he
    clear he
    go_enter Tryz.func132, Tryz.ntmps132
    go_wp2_with fail
    refine (HC1.out w (Below.refl _ _)).mono ?_
    rintro e w1 ⟨rfl, hb1⟩
    have HB1 := Lib.hid hb1
    clear hb1
    go_wp2_with fail
    refine (HC1.out w1 HB1.out).mono ?_
    rintro e w2 ⟨rfl, hb2⟩
    have HB2 := Lib.hid (HB1.out.trans (hb2.mono HB1.out.size))
    clear hb2
    go_wp2_with fail
    refine (HC2.out w2 HB2.out).mono ?_
    rintro e w3 ⟨rfl, hb3⟩
    have HB3 := Lib.hid (HB2.out.trans (hb3.mono HB2.out.size))
    clear hb3
    go_wp2_with fail
    go_ret2
    exact ⟨by rw [← HR.out, HPL.out (by rw [HN.out, HE.out]; exact Nat.le_refl _), HCL.out]; rfl, HB3.out⟩
  · have b3 : (p == n) = false := by simp [he]
    have b4 : ((p : Int) == (n : Int)) = false := by simp; omega
    have hpn : p < n := by omega
    have HPN := Lib.hid hpn
    clear he hpn
    go_enter Tryz.func132, Tryz.ntmps132
    go_wp2_with fail
    refine (HC1.out w (Below.refl _ _)).mono ?_
    rintro e w1 ⟨rfl, hb1⟩
    have HB1 := Lib.hid hb1
    clear hb1
    go_wp2_with fail
    refine (HC1.out w1 HB1.out).mono ?_
    rintro e w2 ⟨rfl, hb2⟩
    have HB2 := Lib.hid (HB1.out.trans (hb2.mono HB1.out.size))
    clear hb2 HB1
    obtain ⟨v, t, h1, h2', h3'⟩ := HRO.out.below HB2.out
    have c0 : w2.cell? ⟨b, 0, none⟩ = some v := by rw [Lib.cell_of_heap h1]; rfl
    obtain ⟨a, rfl⟩ := h2'.tr.ptr
    have HT2 := Lib.hid h2'
    have HCT := Lib.hid h3'
    clear h1 h2' h3'
    go_wp2_with fail
    clear c0 b1 b2 b3 b4
    go_loopg [1, 6, 7] (hgt t) (fun kx s1 s6 s7 wr => ∃ (q a : Nat) (t : T), s1 = .int .i64 q ∧ s6 = .int .i64 a ∧ TrW wr s7 t ∧ q < shown (cells t) ∧ R = a + plc (cells t) q ∧ hgt t ≤ kx ∧ Below w2.heap.size w2 wr)
    case atStart => exact ⟨p, 0, t, rfl, rfl, HT2.out, by rw [HCT.out, HN.out]; exact HPN.out, by rw [HCT.out, HR.out, Nat.zero_add], Nat.le_refl _, Below.refl _ _⟩
    case round =>
      obtain ⟨q, a, t, rfl, rfl, ht, hq, hRa, hg, hbw⟩ := hrel
      have HBW := Lib.hid hbw
      have HBA := Lib.hid (HB2.out.trans (hbw.mono HB2.out.size))
      clear hbw
      cases t with
      | nil => simp [cells, shown] at hq
      | node l ls lh r lp =>
      have HO := Lib.hid (open_any _ l r ls lh lp wr ht)
      have hnl := ht.len
      rw [cells_open, List.length_append, List.length_append, run_len] at hnl
      have hwp := ht.wf.parts
      rw [plc_node] at hRa
      rw [shown_node] at hq
      have hsl2 := shown_le (cells (lift lp l))
      have HRA := Lib.hid hRa
      have HQ := Lib.hid hq
      have HGH := Lib.hid hg
      have hwl := hwp.2.1
      obtain ⟨k, hk⟩ : ∃ k, shown (cells (lift lp l)) = k := ⟨_, rfl⟩
      obtain ⟨m, hm⟩ : ∃ m, (cells (lift lp l)).length = m := ⟨_, rfl⟩
      obtain ⟨n1, hn1⟩ : ∃ n, ls.length = n := ⟨_, rfl⟩
      obtain ⟨hh, hhh⟩ : ∃ x, lh + lp = x := ⟨_, rfl⟩
      rw [hk, hm, hn1, hhh] at HRA
      rw [hk, hn1, hhh] at HQ
      rw [hm, hn1] at hnl
      rw [hk, hm] at hsl2
      have HK := Lib.hid hk
      have HM := Lib.hid hm
      have HN1 := Lib.hid hn1
      have HH := Lib.hid hhh
      have HWL := Lib.hid hwl
      have hqb : q ≤ 2097152 := by have := HQ.out; have h5 := shown_le (cells (lift lp r)); split at this <;> omega
      have hab : a ≤ 2097152 := by omega
      clear ht hRa hq hg hwp hk hm hn1 hhh hwl
      go_wp2_with fail
      refine HO.out.mono ?_
      rintro e w3 ⟨⟨vl, vp, vr, rfl, ht1, ht2, A, c3, rfl, hc3, hcs3⟩, hb3⟩
      rw [HN1.out, HH.out]
      have HT1 := Lib.hid ht1
      have HT3 := Lib.hid ht2
      have HB3 := Lib.hid (HBW.out.trans (hb3.mono HBW.out.size))
      clear ht1 ht2 hc3 hcs3 hb3
      go_upto_region 8 with fail
      obtain ⟨w4, hw4⟩ : ∃ w4, w3.alloc (.cells #[.slice A n1 c3, .int .i64 hh] 114) = w4 := ⟨_, rfl⟩
      have hb4 : Below w2.heap.size w2 w4 := by rw [← hw4]; exact HB3.out.alloc HB3.out.size _
      have hb34 : Below w3.heap.size w3 w4 := by rw [← hw4]; exact below_alloc1 _ _
      have hy4 : w4.heap[w3.heap.size]? = some (.cells #[.slice A n1 c3, .int .i64 hh] 114 (0, 0)) := by rw [← hw4]; exact heap_at rfl
      rw [hw4]
      obtain ⟨gr, hgr⟩ : ∃ gr, w3.heap.size = gr := ⟨_, rfl⟩
      rw [hgr] at hy4 ⊢
      have HB4 := Lib.hid hb4
      have HY4 := Lib.hid hy4
      have HT14 := Lib.hid (HT1.out.below hb34)
      have HT34 := Lib.hid (HT3.out.below hb34)
      clear hw4 hb4 hb34 hy4 hgr HB3 HT1 HT3 HO
      have HC5 := Lib.hid (fun (W : World) (hW : Below w4.heap.size w4 W) => all_any _ _ W (HT14.out.tr.below hW))
      have HC6 := Lib.hid (fun (W : World) => show Calls Tryz.prog 105 #[(smT (lift lp l)).v] W fun e w' => e = .returned (.int .i64 k) ∧ Below W.heap.size W w' by
        have h5 := shown_any (smT (lift lp l)) W
        have h6 : (if (smT (lift lp l)).lo = 0 then (smT (lift lp l)).c else 0) = ((shown (cells (lift lp l)) : Nat) : Int) := shown_lo HWL.out.ok
        rw [h6, HK.out] at h5
        exact h5)
      have hsm : (smT (lift lp l)).n = (m : Int) := by show ((cells (lift lp l)).length : Int) = m; rw [HM.out]
      obtain ⟨sl, hsl⟩ : ∃ sl, smT (lift lp l) = sl := ⟨_, rfl⟩
      rw [hsl] at HC5 HC6 hsm
      obtain ⟨k1, k2, k3, k4, k5, k6⟩ := sl
      simp only at hsm
      subst hsm
      unfold Sm.v at HC5 HC6
      clear hsl
      obtain ⟨avl, rfl⟩ := HT14.out.tr.ptr
      go_wp2_with fail
      refine (HC5.out w4 (Below.refl _ _)).mono ?_
      rintro e w5 ⟨rfl, hb5⟩
      have HB45 := Lib.hid hb5
      clear hb5
      go_wp2_with fail
      refine (HC6.out w5).mono ?_
      rintro e w6 ⟨rfl, hb6⟩
      have HB46 := Lib.hid (HB45.out.trans (hb6.mono HB45.out.size))
      clear hb6 HB45
      by_cases hqk : q < k
      · have HQK := Lib.hid hqk
        clear hqk
        have b1 : (q : Int) < (k : Int) := by have := HQK.out; omega
        go_wp2_with fail
        go_roundg (hgt (lift lp l))
        case measure => have := HGH.out; rw [hgt_lift]; simp only [hgt] at this; omega
        case rel => exact ⟨q, a, lift lp l, rfl, rfl, HT14.out.below HB46.out, by rw [HK.out]; exact HQK.out, by have := HRA.out; rw [if_pos HQK.out] at this; exact this, Nat.le_refl _, HB4.out.trans (HB46.out.mono HB4.out.size)⟩
      · have hqk2 : ¬ (q : Int) < (k : Int) := by omega
        have i1 : IntKind.i64.wrap ((q : Int) - k) = ((q - k : Nat) : Int) := by rw [IntWalk.i64_in _ (by omega)]; omega
        obtain ⟨q2, hq2⟩ : ∃ q2, q - k = q2 := ⟨_, rfl⟩
        rw [hq2] at i1
        have hq2b : q2 ≤ 2097152 := by omega
        have HQK := Lib.hid hqk
        have HQ2 := Lib.hid hq2
        clear hqk hq2
        have i2 : IntKind.i64.wrap ((a : Int) + m) = (a : Int) + m := IntWalk.i64_in _ (by omega)
        go_wp2_with fail
        refine (HC5.out w6 HB46.out).mono ?_
        rintro e w7 ⟨rfl, hb7⟩
        have HB47 := Lib.hid (HB46.out.trans (hb7.mono HB46.out.size))
        clear hb7 i1 HB46
        have HY7 := Lib.hid ((HB47.out.block _ (Array.getElem?_eq_some_iff.1 HY4.out).1).trans HY4.out)
        have e0 : w7.cell? ⟨gr, 0, none⟩ = some (.slice A n1 c3) := by rw [Lib.cell_of_heap HY7.out]; rfl
        have e1 : w7.cell? ⟨gr, 1, none⟩ = some (.int .i64 hh) := by rw [Lib.cell_of_heap HY7.out]; rfl
        have HRT := Lib.hid (HT34.out.below HB47.out)
        have HB27 := Lib.hid (HB4.out.trans (HB47.out.mono HB4.out.size))
        by_cases hz : hh = 0
        · have b4 : (hh == 0) = true := by rw [hz]; rfl
          have HRZ := Lib.hid (show R = a + (if q2 < n1 then m + q2 else m + n1 + plc (cells (lift lp r)) (q2 - n1)) ∧ q2 < n1 + shown (cells (lift lp r)) by
            have h5 := HRA.out
            have h6 := HQ.out
            rw [if_neg HQK.out, HQ2.out, hz, if_pos rfl] at h5
            rw [hz, if_pos rfl] at h6
            have h7 := HQK.out
            have h8 := HQ2.out
            refine ⟨?_, by omega⟩
            rw [h5]
            by_cases h9 : q2 < n1
            · rw [if_pos h9, if_pos ⟨rfl, h9⟩]
            · rw [if_neg h9, if_neg (fun h => h9 h.2)])
          clear hz
          by_cases hqn : q2 < n1
          · have b5 : (q2 : Int) < (n1 : Int) := by omega
            have HQN := Lib.hid hqn
            have i3 : IntKind.i64.wrap ((a : Int) + m + q2) = (a : Int) + m + q2 := IntWalk.i64_in _ (by omega)
            clear hqn
            go_wp2_with fail
            go_ret2
            exact ⟨by have := HRZ.out.1; rw [if_pos HQN.out] at this; rw [this]; exact ret_ii (by omega) rfl, HB2.out.trans (HB27.out.mono HB2.out.size)⟩
          · have b5 : ¬ (q2 : Int) < (n1 : Int) := by omega
            have HQN := Lib.hid hqn
            have i3 : IntKind.i64.wrap ((q2 : Int) - n1) = ((q2 - n1 : Nat) : Int) := by rw [IntWalk.i64_in _ (by omega)]; omega
            have i4 : IntKind.i64.wrap ((a : Int) + m + n1) = (a : Int) + m + n1 := IntWalk.i64_in _ (by omega)
            obtain ⟨q3, hq3⟩ : ∃ q3, q2 - n1 = q3 := ⟨_, rfl⟩
            rw [hq3] at i3
            have HQ3 := Lib.hid hq3
            clear hqn hq3
            go_wp2_with fail
            go_roundg (hgt (lift lp r))
            case measure => have := HGH.out; rw [hgt_lift]; simp only [hgt] at this; omega
            case rel => exact ⟨q3, a + m + n1, lift lp r, rfl, by go_num, HRT.out, by have h5 := HRZ.out.2; have h6 := HQN.out; have h7 := HQ3.out; omega, by have := HRZ.out.1; rw [if_neg HQN.out, HQ3.out] at this; omega, Nat.le_refl _, HB27.out⟩
        · have b4 : (hh == 0) = false := by simpa using hz
          have HRZ := Lib.hid (show R = a + (m + n1 + plc (cells (lift lp r)) q2) ∧ q2 < shown (cells (lift lp r)) by
            have h5 := HRA.out
            have h6 := HQ.out
            rw [if_neg HQK.out, HQ2.out, if_neg hz, if_neg (fun h => hz h.1), Nat.sub_zero] at h5
            rw [if_neg hz] at h6
            have h7 := HQK.out
            have h8 := HQ2.out
            exact ⟨h5, by omega⟩)
          clear hz
          have i4 : IntKind.i64.wrap ((a : Int) + m + n1) = (a : Int) + m + n1 := IntWalk.i64_in _ (by omega)
          go_wp2_with fail
          go_roundg (hgt (lift lp r))
          case measure => have := HGH.out; rw [hgt_lift]; simp only [hgt] at this; omega
          case rel => exact ⟨q2, a + m + n1, lift lp r, rfl, by go_num, HRT.out, HRZ.out.2, by have := HRZ.out.1; omega, Nat.le_refl _, HB27.out⟩
end
end Go.Proofs.YtkdhomiieenfnaaGreatDoor.Rp
