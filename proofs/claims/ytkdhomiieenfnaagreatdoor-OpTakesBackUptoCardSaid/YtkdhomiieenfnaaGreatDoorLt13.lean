/- Counters of ranges raised or lowered: Bump; what it rests on. Bump walked (printed by gen_bump.py). -/
import Derived.Test.YtkdhomiieenfnaaGreatDoorLt12
import Derived.Test.YtkdhomiieenfnaaGreatDoorLt3
import Derived.Test.YtkdhomiieenfnaaGreatDoorOpC


namespace Go.Proofs.YtkdhomiieenfnaaGreatDoor.Rp
open Go.RowKit Go.Proofs Go.Proofs.YtkdhomiieenfnaaGreatDoor.U Go.Proofs.YtkdhomiieenfnaaGreatDoor.Txt
set_option linter.unusedVariables false
set_option linter.unusedSimpArgs false

theorem spanE_ok : ∀ {p : Option Int} {rs : List (Int × Int)}, O.spanE p rs = 0 → (∀ x ∈ rs, 0 ≤ x.1 ∧ x.1 < x.2 ∧ x.2 ≤ 1048576) ∧ Nrm (match p with | none => 0 | some q => q + 1) rs
  | p, [], h => ⟨fun x hx => (by cases hx), trivial⟩
  | none, (a, b) :: r, h => by
    have h' : (if a < 0 ∨ 1048576 < b ∨ b ≤ a then (20 : Int) else if false = true then 22 else O.spanE (some b) r) = 0 := h
    clear h
    by_cases h1 : a < 0 ∨ 1048576 < b ∨ b ≤ a
    · rw [if_pos h1] at h'
      exact absurd h' (by decide)
    · rw [if_neg h1, if_neg (by decide)] at h'
      have IH := spanE_ok h'
      refine ⟨fun x hx => ?_, ?_, ?_, IH.2⟩
      · rcases List.mem_cons.1 hx with e | hx
        · subst e; simp only; omega
        · exact IH.1 x hx
      · show (0 : Int) ≤ a; omega
      · show a < b; omega
  | some q, (a, b) :: r, h => by
    have h' : (if a < 0 ∨ 1048576 < b ∨ b ≤ a then (20 : Int) else if decide (a ≤ q) = true then 22 else O.spanE (some b) r) = 0 := h
    clear h
    by_cases h1 : a < 0 ∨ 1048576 < b ∨ b ≤ a
    · rw [if_pos h1] at h'
      exact absurd h' (by decide)
    · rw [if_neg h1] at h'
      by_cases h2 : decide (a ≤ q) = true
      · rw [if_pos h2] at h'
        exact absurd h' (by decide)
      · rw [if_neg h2] at h'
        have IH := spanE_ok h'
        refine ⟨fun x hx => ?_, ?_, ?_, IH.2⟩
        · rcases List.mem_cons.1 hx with e | hx
          · subst e; simp only; omega
          · exact IH.1 x hx
        · simp at h2; show q + 1 ≤ a; omega
        · show a < b; omega
/-- What Bump answers. -/
def Bumped (b : Nat) (cs : List Cl) (rs : List (Int × Int)) (d : Int) (w : World) (e : Ending) (w' : World) : Prop :=
  e = .returned (.int .i64 (bumpR d cs rs).1) ∧ ((bumpR d cs rs).1 = 0 → Rope w' b (bumpR d cs rs).2 ∧ w.grownBy w' (some b)) ∧ ((bumpR d cs rs).1 ≠ 0 → Below w.heap.size w w')
theorem Bumped.stop {b : Nat} {cs : List Cl} {rs : List (Int × Int)} {d n : Int} {w w' : World} (h : bumpR d cs rs = (n, (bumpR d cs rs).2)) (hn : n ≠ 0) (hb : Below w.heap.size w w') : Bumped b cs rs d w (.returned (.int .i64 n)) w' := by
  have h1 : (bumpR d cs rs).1 = n := congrArg Prod.fst h
  exact ⟨by rw [h1], fun e => absurd (h1.symm.trans e) hn, fun _ => hb⟩
theorem bumpR_cons (d : Int) (cs : List Cl) (A B : Nat) (r : List (Int × Int)) : bumpR d cs (((A : Int), (B : Int)) :: r) = if d < 0 ∧ lo (midC cs A B) = 0 then (30, cs) else if 0 < d ∧ hi (midC cs A B) = M then (31, cs) else bumpR d (bump1 d cs A B) r := rfl
section
attribute [local go_sem] fldN fldLo fldHi
set_option maxRecDepth 100000 in
set_option maxHeartbeats 8000000 in
theorem bump_up (b : Nat) (cs : List Cl) (A : Option Addr) (n c : Nat) (rs : List (Int × Int)) (w : World) (h : Rope w b cs) (hR : O.Ranges w A n rs) (hn : n ≤ 32768) (hs : O.spanE none rs = 0) (hl : ∀ x ∈ rs, x.2 ≤ (cs.length : Int)) (hcl : cs.length ≤ 2097152) :
    Calls Tryz.prog 46 #[.pointer (some ⟨b, 0, none⟩), .slice A n c, .int .i64 (1)] w (Bumped b cs rs (1) w) := by
  have HRO := Lib.hid h
  have HRA := Lib.hid hR
  have HOK := Lib.hid (spanE_ok hs).1
  have HLA := Lib.hid hl
  have HCS := Lib.hid (O.span_any A n c rs w hn hR)
  rw [hs] at HCS
  have HC1 := Lib.hid (fun (W : World) (hW : Below w.heap.size w W) => Total_any b cs W (h.below hW))
  have HLEN := Lib.hid hR.len
  have HCL := Lib.hid hcl
  clear h hR hs hl hcl
  go_enter Tryz.func46, Tryz.ntmps46
  go_wp2_with fail
  refine HCS.out.mono ?_
  rintro e w1 ⟨⟨ii, rfl⟩, hb1⟩
  have HB1 := Lib.hid hb1
  clear hb1
  go_upto_region 6 with fail
  go_cut [30, 31, 32, 33, 34, 35, 36, 37, 38, 39, 40, 41, 42, 43, 44] (fun _ _ _ _ _ _ _ _ _ _ _ _ _ _ b wx => b = .bool false ∧ Below w.heap.size w wx)
  case first =>
    by_cases hn0 : n = 0
    · have hd0 : decide (0 < n) = false := by simp [hn0]
      subst hn0
      go_quiet (fail)
      go_wp2_with fail
      go_meet
      exact ⟨rfl, below_drewN HB1.out _⟩
    · obtain ⟨g, off, rfl, hce⟩ := HRA.out.at_ (by omega)
      have hlen := HRA.out.len
      have hc := (hce (n - 1) (by omega)).2
      have hla := HLA.out _ (List.getElem_mem (show n - 1 < rs.length by omega))
      obtain ⟨x, hx⟩ : ∃ x, rs[n - 1].2 = x := ⟨_, rfl⟩
      rw [hx] at hc hla
      obtain ⟨m, hm⟩ : ∃ m, n - 1 = m := ⟨_, rfl⟩
      obtain ⟨kk, hkk⟩ : ∃ kk, cs.length = kk := ⟨_, rfl⟩
      rw [hkk] at hla HC1
      rw [hm] at hc
      have i1 : IntKind.i64.wrap ((n : Int) - 1) = (m : Int) := by rw [IntWalk.i64_in _ (by omega)]; omega
      have hc1 := cell_below HB1.out hc
      have HCK := Lib.hid (fun (W : World) (hW : Below w1.heap.size w1 W) => cell_below hW hc1)
      have HT1 := Lib.hid (fun (W : World) (hW : Below w1.heap.size w1 W) => (HC1.out W (HB1.out.trans (hW.mono HB1.out.size))).mono (R' := fun e w' => e = .returned (.int .i64 (kk : Nat)) ∧ Below w1.heap.size w1 w') fun e w' ⟨h1, h2⟩ => ⟨h1, hW.trans (h2.mono hW.size)⟩)
      have s1 := hc1
      have b0 : decide (0 < n) = true := by simp; omega
      have b1 : decide ((kk : Int) < x) = false := by simp; omega
      have z1 : (0 : Int) ≤ m := by omega
      have z2 : m < n := by omega
      have z3 : (m : Int) < (n : Int) := by omega
      clear hce hx hlen hkk hc1 hc hn0 hn hm
      go_region_held3 (fun w' => w'.cell? ⟨g, off + m * 2 + 1, none⟩ = some (.int .i64 x))
        (first | (with_reducible exact HCK.out _ hbT) | (with_reducible exact HCK.out _ (Below.refl _ _).drew))
        (first | ((with_reducible refine (HT1.out _ (Below.refl _ _).drew).mono ?_); rintro e wT ⟨rfl, hbT⟩))
      go_wp2_with fail
      go_meet
      exact ⟨rfl, HB1.out.trans (hbT.mono HB1.out.size)⟩
  case rest =>
    obtain ⟨rfl, hb2⟩ := hcut
    obtain ⟨w2, hw2⟩ : ∃ w2, wc = w2 := ⟨_, rfl⟩
    rw [hw2] at hb2 ⊢
    clear hw2 HB1 HCS
    have HB2 := Lib.hid hb2
    clear hb2
    obtain ⟨v, t, h1, h2', h3'⟩ := HRO.out.below HB2.out
    have c0 : w2.cell? ⟨b, 0, none⟩ = some v := by rw [Lib.cell_of_heap h1]; rfl
    have HX2 := Lib.hid h1
    have HT2 := Lib.hid h2'
    have HCT := Lib.hid h3'
    obtain ⟨a, rfl⟩ := h2'.tr.ptr
    clear h1 h2' h3'
    go_wp2_with fail
    clear c0
    go_loopw [9, 51] (fun v i wr => ∃ (k : Nat) (t : T), k ≤ n ∧ i = .int .i64 k ∧ TrW wr v t ∧ (cells t).length = cs.length ∧ bumpR (1) cs rs = bumpR (1) (cells t) (rs.drop k) ∧ Below w2.heap.size w2 wr) (fun _ i _ => n - (intOf i).toNat)
    case atStart => exact ⟨0, t, Nat.zero_le _, rfl, HT2.out, by rw [HCT.out], by rw [HCT.out]; rfl, Below.refl _ _⟩
    case round =>
      obtain ⟨k, t', hk, rfl, ht', hlt', hbr, hbw⟩ := hrel
      have HB := Lib.hid hbw
      have HTT := Lib.hid ht'
      have HLT := Lib.hid hlt'
      have HBR := Lib.hid hbr
      obtain ⟨av, rfl⟩ := ht'.tr.ptr
      clear hbw ht' hlt' hbr
      by_cases hlt : k < n
      · have hkl : k < rs.length := by have := HLEN.out; omega
        obtain ⟨g, off, rfl, hce⟩ := HRA.out.at_ (by omega)
        have hc := hce k hkl
        have hx1 := HOK.out _ (List.getElem_mem hkl)
        have hx2 := HLA.out _ (List.getElem_mem hkl)
        have hdr : rs.drop k = rs[k] :: rs.drop (k + 1) := List.drop_eq_getElem_cons hkl
        obtain ⟨⟨x1, x2⟩, hx⟩ : ∃ x, rs[k] = x := ⟨_, rfl⟩
        rw [hx] at hc hx1 hx2 hdr
        simp only at hc hx1 hx2
        obtain ⟨B1, rfl⟩ : ∃ B1 : Nat, x1 = B1 := ⟨x1.toNat, by omega⟩
        obtain ⟨B2, rfl⟩ : ∃ B2 : Nat, x2 = B2 := ⟨x2.toNat, by omega⟩
        have HDR := Lib.hid hdr
        have HX := Lib.hid hx2
        have c1 := cell_below HB.out (cell_below HB2.out hc.1)
        have c2 := cell_below HB.out (cell_below HB2.out hc.2)
        have hb12 : B1 < B2 := by omega
        have hb2m : B2 ≤ 1048576 := by omega
        clear hce hc hx hdr hx1 hx2
        go_wp2_with fail
        obtain ⟨w3, hw3⟩ : ∃ w3, wr.alloc (.cells #[.int .i64 (B1 : Int), .int .i64 (B2 : Int)] 102) = w3 := ⟨_, rfl⟩
        have hb3 : Below w2.heap.size w2 w3 := by rw [← hw3]; exact HB.out.alloc HB.out.size _
        have hy3 : w3.heap[wr.heap.size]? = some (.cells #[.int .i64 (B1 : Int), .int .i64 (B2 : Int)] 102 (0, 0)) := by rw [← hw3]; exact heap_at rfl
        have HTT3 := Lib.hid (show TrW w3 (.pointer av) t' by rw [← hw3]; exact HTT.out.below (below_alloc1 _ _))
        rw [hw3]
        clear hw3 c1 c2
        obtain ⟨gr, hgr⟩ : ∃ gr, wr.heap.size = gr := ⟨_, rfl⟩
        rw [hgr] at hy3
        rw [hgr]
        have HB3 := Lib.hid hb3
        have HY3 := Lib.hid hy3
        clear hgr hb3 hy3 HTT
        have HC4 := Lib.hid (split_any _ t' B1 w3 (by omega) HTT3.out)
        have e0 : w3.cell? ⟨gr, 0, none⟩ = some (.int .i64 (B1 : Int)) := by rw [Lib.cell_of_heap HY3.out]; rfl
        go_wp2_with fail
        refine HC4.out.mono ?_
        rintro e w4 ⟨⟨va, ta, vr, tr, rfl, hta, htr, hca, hcr⟩, hb4⟩
        have HTA := Lib.hid hta
        have HTR := Lib.hid htr
        have HCA := Lib.hid hca
        have HCR := Lib.hid hcr
        have HB4 := Lib.hid (HB3.out.trans (hb4.mono HB3.out.size))
        have HY4 := Lib.hid ((hb4.block _ (Array.getElem?_eq_some_iff.1 HY3.out).1).trans HY3.out)
        clear hta htr hca hcr hb4 e0 HC4
        have e0 : w4.cell? ⟨gr, 0, none⟩ = some (.int .i64 (B1 : Int)) := by rw [Lib.cell_of_heap HY4.out]; rfl
        have e1 : w4.cell? ⟨gr, 1, none⟩ = some (.int .i64 (B2 : Int)) := by rw [Lib.cell_of_heap HY4.out]; rfl
        have i1 : IntKind.i64.wrap ((B2 : Int) - (B1 : Int)) = ((B2 - B1 : Nat) : Int) := by rw [IntWalk.i64_in _ (by omega)]; omega
        obtain ⟨av4, rfl⟩ := HTR.out.tr.ptr
        obtain ⟨dd, hdd⟩ : ∃ dd, B2 - B1 = dd := ⟨_, rfl⟩
        rw [hdd] at i1
        have HC5 := Lib.hid (split_any _ tr dd w4 (by omega) HTR.out)
        have HDD := Lib.hid hdd
        clear hdd
        go_wp2_with fail
        refine HC5.out.mono ?_
        rintro e w5 ⟨⟨vm, tm, ve, te, rfl, htm, hte, hcm, hce⟩, hb5⟩
        have HTM := Lib.hid htm
        have HTE := Lib.hid hte
        have HCM := Lib.hid (show cells tm = midC (cells t') B1 B2 by rw [hcm, HCR.out, ← HDD.out]; rfl)
        have HCE := Lib.hid (show cells te = (cells t').drop B2 by rw [hce, HCR.out, List.drop_drop, ← HDD.out, show B1 + (B2 - B1) = B2 by omega])
        have HB5 := Lib.hid (HB4.out.trans (hb5.mono HB4.out.size))
        have HB45 := Lib.hid hb5
        clear htm hte hcm hce hb5 e0 e1 HC5
        have HBC := Lib.hid (bumpR_cons (1) (cells t') B1 B2 (rs.drop (k + 1)))
        have HC6 := Lib.hid (fun (W : World) (hW : Below w5.heap.size w5 W) => all_any vm tm W (HTM.out.tr.below hW))
        have HSM := Lib.hid (show (smT tm).hi = hi (midC (cells t') B1 B2) by rw [← HCM.out]; rfl)
        obtain ⟨sm, hsm⟩ : ∃ s, smT tm = s := ⟨_, rfl⟩
        rw [hsm] at HC6 HSM
        obtain ⟨s1, s2, s3, s4, s5, s6⟩ := sm
        unfold Sm.v at HC6
        simp only at HC6
        clear hsm
        obtain ⟨avm, rfl⟩ := HTM.out.tr.ptr
        by_cases hz : s6 = 1048576
        · have HST := Lib.hid (show bumpR (1) cs rs = (31, (bumpR (1) cs rs).2) by
            have h9 : bumpR (1) cs rs = (31, cells t') := by
              rw [HBR.out, HDR.out, HBC.out, if_neg (by omega), if_pos ⟨by decide, by rw [← HSM.out]; exact hz⟩]
            rw [h9])
          have hzz : (s6 == 1048576) = true := by rw [hz]; rfl
          have HZ := Lib.hid hz
          clear hz
          go_wp2_with fail
          refine (HC6.out _ (Below.refl _ _)).mono ?_
          rintro e w6 ⟨rfl, hb6⟩
          have HB6 := Lib.hid (HB2.out.trans ((HB5.out.trans (hb6.mono HB5.out.size)).mono HB2.out.size))
          clear hb6
          go_wp2_with fail
          go_ret
          exact Bumped.stop HST.out (by decide) HB6.out
        · have hzz : (s6 == 1048576) = false := by simpa using hz
          have HNX := Lib.hid (show bumpR (1) cs rs = bumpR (1) (bump1 (1) (cells t') B1 B2) (rs.drop (k + 1)) by
            rw [HBR.out, HDR.out, HBC.out, if_neg (by omega), if_neg (fun h => hz (by have := HSM.out; simp only at this; rw [this]; exact h.2))])
          have HUP := Lib.hid (show Cok (up (1) (cells tm)) from up_cok (.inl rfl) HTM.out.wf.ok (by rw [HCM.out]; omega) (by rw [HCM.out]; exact fun h => hz (by have := HSM.out; simp only at this; rw [this]; exact h.2)))
          clear hz
          go_wp2_with fail
          refine (HC6.out _ (Below.refl _ _)).mono ?_
          rintro e w6 ⟨rfl, hb6⟩
          have HB6 := Lib.hid (HB5.out.trans (hb6.mono HB5.out.size))
          have HB56 := Lib.hid hb6
          clear hb6
          have HC7 := Lib.hid (lift_any _ tm (1) w6 (HTM.out.below HB56.out) HUP.out (by decide))
          go_wp2_with fail
          refine HC7.out.mono ?_
          rintro e w7 ⟨⟨v7, rfl, ht7⟩, hb7⟩
          have HB7 := Lib.hid (HB6.out.trans (hb7.mono HB6.out.size))
          have HB57 := Lib.hid (HB56.out.trans (hb7.mono HB56.out.size))
          have HT7 := Lib.hid ht7
          have HL := Lib.hid (show (cells ta).length + (cells (lift (1) tm)).length + (cells te).length ≤ 2097152 by
            rw [cells_lift, up_len, HCA.out, HCM.out, HCE.out, midC, List.length_take, List.length_take, List.length_drop, List.length_drop, HLT.out]
            have := HX.out
            have := HCL.out
            omega)
          have HC8 := Lib.hid (mend_any va v7 ta (lift (1) tm) w7 ((HTA.out.below HB45.out).below HB57.out) HT7.out (by have := HL.out; omega))
          clear ht7 hb7 HC7
          go_wp2_with fail
          refine HC8.out.mono ?_
          rintro e w8 ⟨⟨v8, t8, rfl, ht8, hc8⟩, hb8⟩
          have HB8 := Lib.hid (HB7.out.trans (hb8.mono HB7.out.size))
          have HT8 := Lib.hid ht8
          have HCC8 := Lib.hid hc8
          have HC9 := Lib.hid (mend_any v8 ve t8 te w8 HT8.out ((HTE.out.below HB57.out).below hb8) (by rw [HCC8.out, List.length_append]; have := HL.out; omega))
          clear ht8 hc8 hb8 HC8
          go_wp2_with fail
          refine HC9.out.mono ?_
          rintro e w9 ⟨⟨v9, t9, rfl, ht9, hc9⟩, hb9⟩
          have HB9 := Lib.hid (HB8.out.trans (hb9.mono HB8.out.size))
          have HT9 := Lib.hid ht9
          have HCC9 := Lib.hid (show cells t9 = bump1 (1) (cells t') B1 B2 by rw [hc9, HCC8.out, cells_lift, HCA.out, HCM.out, HCE.out]; rfl)
          clear ht9 hc9 hb9 HC9
          go_wp2_with fail
          go_roundw
          case rel => exact ⟨k + 1, t9, hlt, by go_num, HT9.out, by rw [HCC9.out, bump1_len (Nat.le_of_lt hb12) (by rw [HLT.out]; have := HX.out; omega), HLT.out], by rw [HNX.out, HCC9.out], HB9.out⟩
          case measure => simp [intOf]; omega
      · obtain rfl : k = n := by omega
        have HZ := Lib.hid (show bumpR (1) cs rs = (0, cells t') by rw [HBR.out, List.drop_eq_nil_of_le (by rw [← HLEN.out]; exact Nat.le_refl _)]; rfl)
        have HXW := Lib.hid ((HB.out.block _ (Array.getElem?_eq_some_iff.1 HX2.out).1).trans HX2.out)
        obtain ⟨y0, f0, ys⟩ := one_facts HXW.out
        have HF := Lib.hid (Rope.set (HB2.out.trans (HB.out.mono HB2.out.size)) HXW.out (fun r => by simp) HTT.out rfl)
        go_wp2_with fail
        go_ret
        exact ⟨by rw [HZ.out]; rfl, fun _ => by rw [HZ.out]; exact HF.out, fun h => by rw [HZ.out] at h; exact absurd rfl h⟩
set_option maxRecDepth 100000 in
set_option maxHeartbeats 8000000 in
theorem bump_down (b : Nat) (cs : List Cl) (A : Option Addr) (n c : Nat) (rs : List (Int × Int)) (w : World) (h : Rope w b cs) (hR : O.Ranges w A n rs) (hn : n ≤ 32768) (hs : O.spanE none rs = 0) (hl : ∀ x ∈ rs, x.2 ≤ (cs.length : Int)) (hcl : cs.length ≤ 2097152) :
    Calls Tryz.prog 46 #[.pointer (some ⟨b, 0, none⟩), .slice A n c, .int .i64 (-1)] w (Bumped b cs rs (-1) w) := by
  have HRO := Lib.hid h
  have HRA := Lib.hid hR
  have HOK := Lib.hid (spanE_ok hs).1
  have HLA := Lib.hid hl
  have HCS := Lib.hid (O.span_any A n c rs w hn hR)
  rw [hs] at HCS
  have HC1 := Lib.hid (fun (W : World) (hW : Below w.heap.size w W) => Total_any b cs W (h.below hW))
  have HLEN := Lib.hid hR.len
  have HCL := Lib.hid hcl
  clear h hR hs hl hcl
  go_enter Tryz.func46, Tryz.ntmps46
  go_wp2_with fail
  refine HCS.out.mono ?_
  rintro e w1 ⟨⟨ii, rfl⟩, hb1⟩
  have HB1 := Lib.hid hb1
  clear hb1
  go_upto_region 6 with fail
  go_cut [30, 31, 32, 33, 34, 35, 36, 37, 38, 39, 40, 41, 42, 43, 44] (fun _ _ _ _ _ _ _ _ _ _ _ _ _ _ b wx => b = .bool false ∧ Below w.heap.size w wx)
  case first =>
    by_cases hn0 : n = 0
    · have hd0 : decide (0 < n) = false := by simp [hn0]
      subst hn0
      go_quiet (fail)
      go_wp2_with fail
      go_meet
      exact ⟨rfl, below_drewN HB1.out _⟩
    · obtain ⟨g, off, rfl, hce⟩ := HRA.out.at_ (by omega)
      have hlen := HRA.out.len
      have hc := (hce (n - 1) (by omega)).2
      have hla := HLA.out _ (List.getElem_mem (show n - 1 < rs.length by omega))
      obtain ⟨x, hx⟩ : ∃ x, rs[n - 1].2 = x := ⟨_, rfl⟩
      rw [hx] at hc hla
      obtain ⟨m, hm⟩ : ∃ m, n - 1 = m := ⟨_, rfl⟩
      obtain ⟨kk, hkk⟩ : ∃ kk, cs.length = kk := ⟨_, rfl⟩
      rw [hkk] at hla HC1
      rw [hm] at hc
      have i1 : IntKind.i64.wrap ((n : Int) - 1) = (m : Int) := by rw [IntWalk.i64_in _ (by omega)]; omega
      have hc1 := cell_below HB1.out hc
      have HCK := Lib.hid (fun (W : World) (hW : Below w1.heap.size w1 W) => cell_below hW hc1)
      have HT1 := Lib.hid (fun (W : World) (hW : Below w1.heap.size w1 W) => (HC1.out W (HB1.out.trans (hW.mono HB1.out.size))).mono (R' := fun e w' => e = .returned (.int .i64 (kk : Nat)) ∧ Below w1.heap.size w1 w') fun e w' ⟨h1, h2⟩ => ⟨h1, hW.trans (h2.mono hW.size)⟩)
      have s1 := hc1
      have b0 : decide (0 < n) = true := by simp; omega
      have b1 : decide ((kk : Int) < x) = false := by simp; omega
      have z1 : (0 : Int) ≤ m := by omega
      have z2 : m < n := by omega
      have z3 : (m : Int) < (n : Int) := by omega
      clear hce hx hlen hkk hc1 hc hn0 hn hm
      go_region_held3 (fun w' => w'.cell? ⟨g, off + m * 2 + 1, none⟩ = some (.int .i64 x))
        (first | (with_reducible exact HCK.out _ hbT) | (with_reducible exact HCK.out _ (Below.refl _ _).drew))
        (first | ((with_reducible refine (HT1.out _ (Below.refl _ _).drew).mono ?_); rintro e wT ⟨rfl, hbT⟩))
      go_wp2_with fail
      go_meet
      exact ⟨rfl, HB1.out.trans (hbT.mono HB1.out.size)⟩
  case rest =>
    obtain ⟨rfl, hb2⟩ := hcut
    obtain ⟨w2, hw2⟩ : ∃ w2, wc = w2 := ⟨_, rfl⟩
    rw [hw2] at hb2 ⊢
    clear hw2 HB1 HCS
    have HB2 := Lib.hid hb2
    clear hb2
    obtain ⟨v, t, h1, h2', h3'⟩ := HRO.out.below HB2.out
    have c0 : w2.cell? ⟨b, 0, none⟩ = some v := by rw [Lib.cell_of_heap h1]; rfl
    have HX2 := Lib.hid h1
    have HT2 := Lib.hid h2'
    have HCT := Lib.hid h3'
    obtain ⟨a, rfl⟩ := h2'.tr.ptr
    clear h1 h2' h3'
    go_wp2_with fail
    clear c0
    go_loopw [9, 51] (fun v i wr => ∃ (k : Nat) (t : T), k ≤ n ∧ i = .int .i64 k ∧ TrW wr v t ∧ (cells t).length = cs.length ∧ bumpR (-1) cs rs = bumpR (-1) (cells t) (rs.drop k) ∧ Below w2.heap.size w2 wr) (fun _ i _ => n - (intOf i).toNat)
    case atStart => exact ⟨0, t, Nat.zero_le _, rfl, HT2.out, by rw [HCT.out], by rw [HCT.out]; rfl, Below.refl _ _⟩
    case round =>
      obtain ⟨k, t', hk, rfl, ht', hlt', hbr, hbw⟩ := hrel
      have HB := Lib.hid hbw
      have HTT := Lib.hid ht'
      have HLT := Lib.hid hlt'
      have HBR := Lib.hid hbr
      obtain ⟨av, rfl⟩ := ht'.tr.ptr
      clear hbw ht' hlt' hbr
      by_cases hlt : k < n
      · have hkl : k < rs.length := by have := HLEN.out; omega
        obtain ⟨g, off, rfl, hce⟩ := HRA.out.at_ (by omega)
        have hc := hce k hkl
        have hx1 := HOK.out _ (List.getElem_mem hkl)
        have hx2 := HLA.out _ (List.getElem_mem hkl)
        have hdr : rs.drop k = rs[k] :: rs.drop (k + 1) := List.drop_eq_getElem_cons hkl
        obtain ⟨⟨x1, x2⟩, hx⟩ : ∃ x, rs[k] = x := ⟨_, rfl⟩
        rw [hx] at hc hx1 hx2 hdr
        simp only at hc hx1 hx2
        obtain ⟨B1, rfl⟩ : ∃ B1 : Nat, x1 = B1 := ⟨x1.toNat, by omega⟩
        obtain ⟨B2, rfl⟩ : ∃ B2 : Nat, x2 = B2 := ⟨x2.toNat, by omega⟩
        have HDR := Lib.hid hdr
        have HX := Lib.hid hx2
        have c1 := cell_below HB.out (cell_below HB2.out hc.1)
        have c2 := cell_below HB.out (cell_below HB2.out hc.2)
        have hb12 : B1 < B2 := by omega
        have hb2m : B2 ≤ 1048576 := by omega
        clear hce hc hx hdr hx1 hx2
        go_wp2_with fail
        obtain ⟨w3, hw3⟩ : ∃ w3, wr.alloc (.cells #[.int .i64 (B1 : Int), .int .i64 (B2 : Int)] 102) = w3 := ⟨_, rfl⟩
        have hb3 : Below w2.heap.size w2 w3 := by rw [← hw3]; exact HB.out.alloc HB.out.size _
        have hy3 : w3.heap[wr.heap.size]? = some (.cells #[.int .i64 (B1 : Int), .int .i64 (B2 : Int)] 102 (0, 0)) := by rw [← hw3]; exact heap_at rfl
        have HTT3 := Lib.hid (show TrW w3 (.pointer av) t' by rw [← hw3]; exact HTT.out.below (below_alloc1 _ _))
        rw [hw3]
        clear hw3 c1 c2
        obtain ⟨gr, hgr⟩ : ∃ gr, wr.heap.size = gr := ⟨_, rfl⟩
        rw [hgr] at hy3
        rw [hgr]
        have HB3 := Lib.hid hb3
        have HY3 := Lib.hid hy3
        clear hgr hb3 hy3 HTT
        have HC4 := Lib.hid (split_any _ t' B1 w3 (by omega) HTT3.out)
        have e0 : w3.cell? ⟨gr, 0, none⟩ = some (.int .i64 (B1 : Int)) := by rw [Lib.cell_of_heap HY3.out]; rfl
        go_wp2_with fail
        refine HC4.out.mono ?_
        rintro e w4 ⟨⟨va, ta, vr, tr, rfl, hta, htr, hca, hcr⟩, hb4⟩
        have HTA := Lib.hid hta
        have HTR := Lib.hid htr
        have HCA := Lib.hid hca
        have HCR := Lib.hid hcr
        have HB4 := Lib.hid (HB3.out.trans (hb4.mono HB3.out.size))
        have HY4 := Lib.hid ((hb4.block _ (Array.getElem?_eq_some_iff.1 HY3.out).1).trans HY3.out)
        clear hta htr hca hcr hb4 e0 HC4
        have e0 : w4.cell? ⟨gr, 0, none⟩ = some (.int .i64 (B1 : Int)) := by rw [Lib.cell_of_heap HY4.out]; rfl
        have e1 : w4.cell? ⟨gr, 1, none⟩ = some (.int .i64 (B2 : Int)) := by rw [Lib.cell_of_heap HY4.out]; rfl
        have i1 : IntKind.i64.wrap ((B2 : Int) - (B1 : Int)) = ((B2 - B1 : Nat) : Int) := by rw [IntWalk.i64_in _ (by omega)]; omega
        obtain ⟨av4, rfl⟩ := HTR.out.tr.ptr
        obtain ⟨dd, hdd⟩ : ∃ dd, B2 - B1 = dd := ⟨_, rfl⟩
        rw [hdd] at i1
        have HC5 := Lib.hid (split_any _ tr dd w4 (by omega) HTR.out)
        have HDD := Lib.hid hdd
        clear hdd
        go_wp2_with fail
        refine HC5.out.mono ?_
        rintro e w5 ⟨⟨vm, tm, ve, te, rfl, htm, hte, hcm, hce⟩, hb5⟩
        have HTM := Lib.hid htm
        have HTE := Lib.hid hte
        have HCM := Lib.hid (show cells tm = midC (cells t') B1 B2 by rw [hcm, HCR.out, ← HDD.out]; rfl)
        have HCE := Lib.hid (show cells te = (cells t').drop B2 by rw [hce, HCR.out, List.drop_drop, ← HDD.out, show B1 + (B2 - B1) = B2 by omega])
        have HB5 := Lib.hid (HB4.out.trans (hb5.mono HB4.out.size))
        have HB45 := Lib.hid hb5
        clear htm hte hcm hce hb5 e0 e1 HC5
        have HBC := Lib.hid (bumpR_cons (-1) (cells t') B1 B2 (rs.drop (k + 1)))
        have HC6 := Lib.hid (fun (W : World) (hW : Below w5.heap.size w5 W) => all_any vm tm W (HTM.out.tr.below hW))
        have HSM := Lib.hid (show (smT tm).lo = lo (midC (cells t') B1 B2) by rw [← HCM.out]; rfl)
        obtain ⟨sm, hsm⟩ : ∃ s, smT tm = s := ⟨_, rfl⟩
        rw [hsm] at HC6 HSM
        obtain ⟨s1, s2, s3, s4, s5, s6⟩ := sm
        unfold Sm.v at HC6
        simp only at HC6
        clear hsm
        obtain ⟨avm, rfl⟩ := HTM.out.tr.ptr
        by_cases hz : s4 = 0
        · have HST := Lib.hid (show bumpR (-1) cs rs = (30, (bumpR (-1) cs rs).2) by
            have h9 : bumpR (-1) cs rs = (30, cells t') := by
              rw [HBR.out, HDR.out, HBC.out, if_pos ⟨by decide, by rw [← HSM.out]; exact hz⟩]
            rw [h9])
          have hzz : (s4 == 0) = true := by rw [hz]; rfl
          have HZ := Lib.hid hz
          clear hz
          go_wp2_with fail
          refine (HC6.out _ (Below.refl _ _)).mono ?_
          rintro e w6 ⟨rfl, hb6⟩
          have HB6 := Lib.hid (HB2.out.trans ((HB5.out.trans (hb6.mono HB5.out.size)).mono HB2.out.size))
          clear hb6
          go_wp2_with fail
          go_ret
          exact Bumped.stop HST.out (by decide) HB6.out
        · have hzz : (s4 == 0) = false := by simpa using hz
          have HNX := Lib.hid (show bumpR (-1) cs rs = bumpR (-1) (bump1 (-1) (cells t') B1 B2) (rs.drop (k + 1)) by
            rw [HBR.out, HDR.out, HBC.out, if_neg (fun h => hz (by have := HSM.out; simp only at this; rw [this]; exact h.2)), if_neg (by omega)])
          have HUP := Lib.hid (show Cok (up (-1) (cells tm)) from up_cok (.inr rfl) HTM.out.wf.ok (by rw [HCM.out]; exact fun h => hz (by have := HSM.out; simp only at this; rw [this]; exact h.2)) (by rw [HCM.out]; omega))
          clear hz
          go_wp2_with fail
          refine (HC6.out _ (Below.refl _ _)).mono ?_
          rintro e w6 ⟨rfl, hb6⟩
          have HB6 := Lib.hid (HB5.out.trans (hb6.mono HB5.out.size))
          have HB56 := Lib.hid hb6
          clear hb6
          have HC7 := Lib.hid (lift_any _ tm (-1) w6 (HTM.out.below HB56.out) HUP.out (by decide))
          go_wp2_with fail
          refine HC7.out.mono ?_
          rintro e w7 ⟨⟨v7, rfl, ht7⟩, hb7⟩
          have HB7 := Lib.hid (HB6.out.trans (hb7.mono HB6.out.size))
          have HB57 := Lib.hid (HB56.out.trans (hb7.mono HB56.out.size))
          have HT7 := Lib.hid ht7
          have HL := Lib.hid (show (cells ta).length + (cells (lift (-1) tm)).length + (cells te).length ≤ 2097152 by
            rw [cells_lift, up_len, HCA.out, HCM.out, HCE.out, midC, List.length_take, List.length_take, List.length_drop, List.length_drop, HLT.out]
            have := HX.out
            have := HCL.out
            omega)
          have HC8 := Lib.hid (mend_any va v7 ta (lift (-1) tm) w7 ((HTA.out.below HB45.out).below HB57.out) HT7.out (by have := HL.out; omega))
          clear ht7 hb7 HC7
          go_wp2_with fail
          refine HC8.out.mono ?_
          rintro e w8 ⟨⟨v8, t8, rfl, ht8, hc8⟩, hb8⟩
          have HB8 := Lib.hid (HB7.out.trans (hb8.mono HB7.out.size))
          have HT8 := Lib.hid ht8
          have HCC8 := Lib.hid hc8
          have HC9 := Lib.hid (mend_any v8 ve t8 te w8 HT8.out ((HTE.out.below HB57.out).below hb8) (by rw [HCC8.out, List.length_append]; have := HL.out; omega))
          clear ht8 hc8 hb8 HC8
          go_wp2_with fail
          refine HC9.out.mono ?_
          rintro e w9 ⟨⟨v9, t9, rfl, ht9, hc9⟩, hb9⟩
          have HB9 := Lib.hid (HB8.out.trans (hb9.mono HB8.out.size))
          have HT9 := Lib.hid ht9
          have HCC9 := Lib.hid (show cells t9 = bump1 (-1) (cells t') B1 B2 by rw [hc9, HCC8.out, cells_lift, HCA.out, HCM.out, HCE.out]; rfl)
          clear ht9 hc9 hb9 HC9
          go_wp2_with fail
          go_roundw
          case rel => exact ⟨k + 1, t9, hlt, by go_num, HT9.out, by rw [HCC9.out, bump1_len (Nat.le_of_lt hb12) (by rw [HLT.out]; have := HX.out; omega), HLT.out], by rw [HNX.out, HCC9.out], HB9.out⟩
          case measure => simp [intOf]; omega
      · obtain rfl : k = n := by omega
        have HZ := Lib.hid (show bumpR (-1) cs rs = (0, cells t') by rw [HBR.out, List.drop_eq_nil_of_le (by rw [← HLEN.out]; exact Nat.le_refl _)]; rfl)
        have HXW := Lib.hid ((HB.out.block _ (Array.getElem?_eq_some_iff.1 HX2.out).1).trans HX2.out)
        obtain ⟨y0, f0, ys⟩ := one_facts HXW.out
        have HF := Lib.hid (Rope.set (HB2.out.trans (HB.out.mono HB2.out.size)) HXW.out (fun r => by simp) HTT.out rfl)
        go_wp2_with fail
        go_ret
        exact ⟨by rw [HZ.out]; rfl, fun _ => by rw [HZ.out]; exact HF.out, fun h => by rw [HZ.out] at h; exact absurd rfl h⟩
end
end Go.Proofs.YtkdhomiieenfnaaGreatDoor.Rp
