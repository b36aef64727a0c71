/- page.laid: a text is laid out. -/
import Derived.Test.YtkidcleffllhbaaDoorPgLine
import Derived.Test.YtkidcleffllhbaaDoorUWalk1
namespace Go.Proofs.YtkidcleffllhbaaDoor.Pg
open Go.RowKit Go.Proofs Go.Joins Go.Proofs.YtkidcleffllhbaaDoor.U Go.Proofs.YtkidcleffllhbaaDoor.Txt
set_option linter.unusedVariables false
set_option linter.unusedSimpArgs false
attribute [local go_sem] frozen?_alloc_cells

theorem infoRune : (Tryd.prog.info? 21).map (fun i => (i.zero, i.size, i.bytes)) = some (some (.int .i32 0), 1, 4) := by kernel_rfl
def runeCells (xs : List Int) : List Value := xs.map (.int .i32 ·)
/-- The sheet while its runes are read: k of them are there, the iterator stands at pos. -/
structure Read (B : Nat) (w : World) (P I : Nat) (S : ByteArray) (rs : List Int) (W : Int) (v : Value) (k pos : Nat) : Prop where
  box : w.heap[P]? = some (.cells #[.string S, v, .int .i64 W, .slice none 0 0] 101 (0, 0))
  own : w.ownsRow B 21 1 v k (runeCells (rs.take k))
  iter : w.heap[I]? = some (.stringIter S pos)
  ge : B ≤ P
  geI : B ≤ I
  ne : I ≠ P
  nP : v.ownBlock ≠ some P
section
variable {B : Nat} {w : World} {P I : Nat} {S : ByteArray} {rs : List Int} {W : Int} {v : Value} {k pos : Nat}
theorem Read.nI (h : Read B w P I S rs W v k pos) : v.ownBlock ≠ some I := by
  intro e
  rcases h.own.2 with ⟨rfl, _⟩ | ⟨g, cap, cur, rfl, _, hg, _⟩
  · simp [Value.ownBlock] at e
  · simp only [Value.ownBlock, Option.some.injEq] at e
    subst e
    rw [h.iter] at hg
    cases hg
theorem Read.lt (h : Read B w P I S rs W v k pos) : P < w.heap.size := (Array.getElem?_eq_some_iff.1 h.box).1
theorem Read.ltI (h : Read B w P I S rs W v k pos) : I < w.heap.size := (Array.getElem?_eq_some_iff.1 h.iter).1
theorem Read.iterAt (h : Read B w P I S rs W v k pos) (pos' : Nat) : Read B (w.iterAt I S pos') P I S rs W v k pos' := by
  refine ⟨(Lib.iterAt_other w I P S pos' (Ne.symm h.ne)).trans h.box, ⟨h.own.1, ?_⟩, Lib.iterAt_heap w I S pos pos' h.iter, h.ge, h.geI, h.ne, h.nP⟩
  rcases h.own.2 with hn | ⟨g, cap, cur, hv, hbg, hg, rest⟩
  · exact .inl hn
  · refine .inr ⟨g, cap, cur, hv, hbg, (Lib.iterAt_other w I g S pos' ?_).trans hg, rest⟩
    intro e
    subst e
    rw [h.iter] at hg
    cases hg
theorem Read.box9 (h : Read B w P I S rs W v k pos) {o : Obj} {w9 : World} (hg : (w.alloc o).grownBy w9 v.ownBlock) : w9.heap[P]? = some (.cells #[.string S, v, .int .i64 W, .slice none 0 0] 101 (0, 0)) := by
  have hlt := h.lt
  rw [hg.block P (by simp; omega) (fun e => h.nP e.symm), Lib.alloc_old w _ P hlt]
  exact h.box
theorem Read.push (h : Read B w P I S rs W v k pos) (hk : k < rs.length) {o : Obj} {g cap : Nat} {w9 : World} (hBw : B ≤ w.heap.size)
    (hown : w9.ownsRow B 21 1 (.slice (some ⟨g, 0, none⟩) (k + 1) cap) (k + 1) (runeCells (rs.take k) ++ [.int .i32 (rs.getD k 0)])) (hg : (w.alloc o).grownBy w9 v.ownBlock) (hat : v.ownBlock = some g ∨ g = (w.alloc o).heap.size) :
    Read B (w9.setCell ⟨P, 1, none⟩ (.slice (some ⟨g, 0, none⟩) (k + 1) cap)) P I S rs W (.slice (some ⟨g, 0, none⟩) (k + 1) cap) (k + 1) pos ∧ Below B w (w9.setCell ⟨P, 1, none⟩ (.slice (some ⟨g, 0, none⟩) (k + 1) cap)) := by
  have hlt := h.lt
  have hltI := h.ltI
  have hsz : (w.alloc o).heap.size = w.heap.size + 1 := by simp
  have hgP : g ≠ P := by
    rcases hat with e | e
    · intro e2; subst e2; exact h.nP e
    · omega
  have h9 := h.box9 hg
  refine ⟨⟨?_, ?_, ?_, h.ge, h.geI, h.ne, ?_⟩, ?_⟩
  · simp [World.setCell, Array.getElem?_modify, h9]
  · have e2 : runeCells (rs.take (k + 1)) = runeCells (rs.take k) ++ [.int .i32 (rs.getD k 0)] := by
      unfold runeCells
      rw [List.take_add_one, List.map_append]
      simp [List.getD, List.getElem?_eq_getElem hk]
    rw [e2]
    refine ⟨hown.1, ?_⟩
    rcases hown.2 with hn | ⟨g', cap', cur, hv, hbg, hgg, rest⟩
    · exact .inl hn
    · refine .inr ⟨g', cap', cur, hv, hbg, ?_, rest⟩
      obtain rfl : g' = g := by simp only [Value.slice.injEq, Option.some.injEq, Addr.mk.injEq, and_true] at hv; exact hv.1.symm
      have : (w9.setCell ⟨P, 1, none⟩ (.slice (some ⟨g', 0, none⟩) (k + 1) cap)).heap[g']? = w9.heap[g']? := by simp [World.setCell, Array.getElem?_modify, Ne.symm hgP]
      rw [this]
      exact hgg
  · have : (w9.setCell ⟨P, 1, none⟩ (.slice (some ⟨g, 0, none⟩) (k + 1) cap)).heap[I]? = w9.heap[I]? := by simp [World.setCell, Array.getElem?_modify, Ne.symm h.ne]
    rw [this, hg.block I (by simp; omega) (fun e => h.nI e.symm), Lib.alloc_old w _ I hltI]
    exact h.iter
  · intro e2
    simp only [Value.ownBlock, Option.some.injEq] at e2
    exact hgP e2
  · exact (((Below.refl B w).alloc hBw o).grown hg (by omega) (fun k hk => (h.own.lt k hk).1)).setCell (p := ⟨P, 1, none⟩) h.ge _
theorem Read.lay (h : Read B w P I S rs W v rs.length pos) : ∃ A c, v = .slice A rs.length c ∧ rs.length ≤ c ∧ Lay B w P S A c rs W (.slice none 0 0) [] := by
  have e : rs.take rs.length = rs := List.take_length
  have ho := h.own
  rw [e] at ho
  rcases ho.2 with ⟨hv, h0⟩ | ⟨g, cap, cur, hv, hbg, hgg, hcap, _⟩
  · have hv2 : v = .slice none rs.length 0 := by rw [hv, h0]
    have hb := h.box
    rw [hv2] at hb
    exact ⟨none, 0, hv2, by omega, hb, ⟨rfl, .inl ⟨rfl, rfl⟩⟩, fun hp => by omega, fun hp => by omega, h.ge, by simp [Value.ownBlock]⟩
  · have hb := h.box
    have hn := h.nP
    rw [hv] at hb hn
    refine ⟨_, cap, hv, hcap, hb, ⟨rfl, .inl ⟨rfl, rfl⟩⟩, fun hp => ⟨_, rfl, fun j hj => ho.cells (g := g) (by rw [hv]; rfl) j _ ?_⟩, fun hp ad e => ?_, h.ge, by simp [Value.ownBlock]⟩
    · simp [runeCells, List.getElem?_eq_getElem hj, List.getD]
    · cases e
      exact ⟨fun e2 => hn (by simp only [Value.ownBlock]; exact congrArg some e2), by simp [Value.ownBlock]⟩
end

theorem lineRows_len (w : Int) (rs : List Int) (e : Nat) : ∀ (f lo : Nat), (lineRows w rs e f lo).length ≤ f + 1
  | 0, lo => by simp [lineRows]
  | f + 1, lo => by
    have := lineRows_len w rs e f (rowOf w rs lo e).hi
    simp only [lineRows, List.length_cons]
    split
    · simp
    · omega
theorem read_start {B T : Nat} {wa : World} {P : Nat} {S : ByteArray} {rs : List Int} {W : Int} (hP : wa.heap.size = P) (hB : B ≤ P) (hT : T = 101) : Read B ((wa.alloc (.cells #[.string S, .slice none 0 0, .int .i64 W, .slice none 0 0] T)).alloc (.stringIter S 0)) P (P + 1) S rs W (.slice none 0 0) 0 (psz rs 0) := by
  subst hP hT
  refine ⟨?_, ⟨rfl, .inl ⟨rfl, rfl⟩⟩, ?_, hB, by omega, by omega, by simp [Value.ownBlock]⟩
  · rw [Lib.alloc_old _ _ _ (by simp)]; exact heap_alloc_new wa _
  · rw [psz_zero]
    have := heap_alloc_new (wa.alloc (.cells #[.string S, .slice none 0 0, .int .i64 W, .slice none 0 0] 101)) (.stringIter S 0)
    simpa using this
set_option maxRecDepth 100000 in
set_option maxHeartbeats 4000000 in
theorem laid_any (S : ByteArray) (rs : List Int) (W H : Int) (w : World) (hS : S.data.toList = enc rs) (hg : ∀ r ∈ rs, TxtRune r) (hl : rs.length ≤ 34359738368) (hW : 1 ≤ W ∧ W ≤ 1024) (hH : 1 ≤ H ∧ H ≤ 1024) (hB : 4 ≤ w.heap.size) (hT : Tabs w) (hb : Bars w) :
    Calls Tryd.prog 39 #[.string S, .int .i64 W, .int .i64 H] w fun e w' => ∃ P A c v, e = .returned (.tuple #[.pointer (some ⟨P, 0, none⟩), .int .i64 0]) ∧ Lay w.heap.size w' P S A c rs W v (pageRows W rs) ∧ rs.length ≤ c ∧ Below w.heap.size w w' := by
  have HS := Lib.hid hS
  have HG := Lib.hid hg
  have HL := Lib.hid hl
  have HT := Lib.hid hT
  have hsize : S.size ≤ 4 * rs.length := by have := enc_len_le rs; rw [← hS] at this; exact this
  have HSZ := Lib.hid hsize
  have hco : chkOut S = .tuple #[.int .i64 rs.length, .int .i64 0, .int .i64 0] := by unfold chkOut; rw [hS, chk_text rs hg]; rfl
  have HCO := Lib.hid hco
  have HBR := Lib.hid hb
  have w1 : ¬ W < 1 := by omega
  have w2 : ¬ 1024 < W := by omega
  have w3 : ¬ H < 1 := by omega
  have w4 : ¬ 1024 < H := by omega
  have HW := Lib.hid hW
  clear hS hg hl hT hsize hco hb hW hH
  go_enter Tryd.func39, Tryd.ntmps39
  go_wp2_with fail
  refine (check_any S _ (by have := HSZ.out; have := HL.out; unfold maxLen; omega) HBR.out).mono ?_
  rintro e wa ⟨rfl, hb⟩
  rw [HCO.out]
  have HBA := Lib.hid hb
  clear hb
  go_wp2_with fail
  obtain ⟨P, hP⟩ : ∃ P, wa.heap.size = P := ⟨_, rfl⟩
  have HR0 := Lib.hid (read_start (B := w.heap.size) (S := S) (rs := rs) (W := W) hP (by rw [← hP]; exact HBA.out.size) rfl)
  rw [hP]
  have HP := Lib.hid hP
  clear hP
  go_loopw [13] (fun _ wr => ∃ (k : Nat) (v : Value), k ≤ rs.length ∧ Read w.heap.size wr P (P + 1) S rs W v k (psz rs k) ∧ Below w.heap.size w wr) (fun _ wr => S.size - wr.iterPos (P + 1))
  case atStart => exact ⟨0, .slice none 0 0, Nat.zero_le _, HR0.out, ((HBA.out.alloc HBA.out.size _).alloc (by have := HBA.out.size; simp; omega) _)⟩
  case round =>
    obtain ⟨k, v, hk, hR, hb⟩ := hrel
    have HR := Lib.hid hR
    have HB := Lib.hid hb
    clear hR hb
    by_cases hlt : k < rs.length
    · have hlt2 : psz rs k < S.size := by
        have := psz_lt rs k hlt
        rw [← HS.out] at this
        exact this
      have hdec : Utf8.decode S (psz rs k) = ((rs.getD k 0).toNat, (encB (rs.getD k 0)).length) := by rw [dec_eq, HS.out]; exact dec_psz rs HG.out k hlt
      have hnn : (((rs.getD k 0).toNat : Nat) : Int) = rs.getD k 0 := getD_nonneg rs HG.out k hlt
      have hps := psz_succ rs k hlt
      have hnx := fun ty => Lib.run_next_any_at (P := Tryd.prog) wr (P + 1) S (psz rs k) ty HR.out.iter hlt2
      rw [hdec] at hnx
      simp only [hnn] at hnx
      rw [← hps] at hnx
      have hR7 := HR.out.iterAt (psz rs (k + 1))
      have hb7 : Below w.heap.size w (wr.iterAt (P + 1) S (psz rs (k + 1))) := Lib.below_iterAt HB.out HR.out.geI S _
      obtain ⟨r, hr⟩ : ∃ r, rs.getD k 0 = r := ⟨_, rfl⟩
      rw [hr] at hnx
      have HRR := Lib.hid hr
      have HLT := Lib.hid hlt
      have HPS := Lib.hid (psz_mono rs k (k + 1) (Nat.lt_succ_self k) hlt)
      obtain ⟨w7, hw7⟩ : ∃ w7, wr.iterAt (P + 1) S (psz rs (k + 1)) = w7 := ⟨_, rfl⟩
      rw [hw7] at hnx hR7 hb7
      have HR7 := Lib.hid hR7
      have HB7 := Lib.hid hb7
      have c1 : w7.cell? ⟨P, 1, none⟩ = some v := by rw [Lib.cell_of_heap hR7.box]; rfl
      obtain ⟨i0, hi0, hz0, hz1, hz2⟩ := info_parts infoRune
      have HI := Lib.hid (And.intro hi0 (And.intro hz0 (And.intro hz1 hz2)))
      clear hdec hnn hps hR7 hb7 hr hw7 hi0 hz0 hz1 hz2 hlt hlt2 hk
      go_wp2_with (at_builtin; refine wpList_append_lies _ rfl (.tmp 53) (.tmp 55) 22 rfl w.heap.size 21 i0 (.int .i32 0) 1 4 Tryd.underlying22 HI.out.1 HI.out.2.1 HI.out.2.2.1 HI.out.2.2.2 rfl (by decide) v k (runeCells (rs.take k)) rfl (own_below HR7.out.own (below_alloc1 _ _)) _ 1 1 [.int .i32 r] rfl rfl (fun j u hj => news_alloc _ _ _ j u hj) (by intro u hu; simp at hu; subst hu; rfl) (by decide) (by have h1 := HLT.out; have h2 := HL.out; unfold maxLen; omega) (by have h1 := HLT.out; have h2 := HL.out; omega) (by have h3 := HR7.out.ge; have h4 := HR7.out.lt; simp; omega) _ rfl ?_; intro g cap w9 hown hgrow hat hgl; have b9 := HR7.out.box9 hgrow; have c9 : w9.cell? ⟨P, 1, none⟩ = some v := (by rw [Lib.cell_of_heap b9]; rfl); have f9 : w9.frozen? ⟨P, 1, none⟩ = false := Lib.frozen_of_heap b9 1; have HPU := Lib.hid (HR7.out.push HLT.out (by have h3 := HR7.out.ge; have h4 := HR7.out.lt; omega) (by rw [HRR.out]; exact hown) hgrow hat); clear hown hgrow hat hgl b9)
      go_roundw
      case rel => exact ⟨k + 1, _, HLT.out, HPU.out.1, HB7.out.trans HPU.out.2⟩
      case measure =>
        rw [iterPos_of HPU.out.1.iter, iterPos_of HR.out.iter]
        have h1 := HPS.out
        have h2 := psz_lt rs k HLT.out
        have h3 := HS.out
        have h4 : S.size = (enc rs).length := by rw [← h3]; rfl
        omega
    · obtain rfl : k = rs.length := by omega
      have hend : ¬ psz rs rs.length < S.size := by
        rw [psz_all, ← HS.out]
        exact Nat.lt_irrefl _
      have hnx := fun ty => Lib.run_next_end_at (P := Tryd.prog) wr (P + 1) S (psz rs rs.length) ty HR.out.iter hend
      obtain ⟨A, c, rfl, hc, hlay⟩ := HR.out.lay
      have HC := Lib.hid hc
      have HLY := Lib.hid hlay
      have s1 := hlay.sheet.runes
      clear hc hlay hk hlt hend
      go_wp2_with fail
      go_loopw [14, 64] (fun lo i wx => ∃ (l j : Nat) (xs : List Row) (v' : Value), lo = .int .i64 l ∧ i = .int .i64 j ∧ l ≤ j ∧ j ≤ rs.length ∧ (∀ q, l ≤ q → q < j → rs.getD q 0 ≠ 10) ∧ Lay w.heap.size wx P S A c rs W v' xs ∧ Below w.heap.size w wx ∧ xs ++ rowsFrom W rs (rs.length - j) l j = pageRows W rs ∧ xs.length ≤ l) (fun _ i _ => rs.length - (intOf i).toNat)
      case atStart => exact ⟨0, 0, [], _, rfl, rfl, Nat.le_refl _, Nat.zero_le _, fun q a b => by omega, HLY.out, HB.out, rfl, Nat.le_refl _⟩
      case round =>
        obtain ⟨l, j, xs, v', rfl, rfl, hlj, hj, hnl, hLy, hbx, hrows, hlen⟩ := hrel
        have HLX := Lib.hid hLy
        have HBX := Lib.hid hbx
        have HNL := Lib.hid hnl
        have HRW := Lib.hid hrows
        have HLE := Lib.hid hlen
        have HLJ := Lib.hid hlj
        have s2 := hLy.sheet.runes
        clear hLy hbx hnl hrows hlen s1
        by_cases hjn : j < rs.length
        · obtain ⟨ad, rfl, hcell⟩ := HLX.out.runes (by omega)
          have d1 := hcell j hjn
          have HJN := Lib.hid hjn
          have hjb : j ≤ 34359738368 := by have := HL.out; omega
          have hst : rowsFrom W rs (rs.length - j) l j = if rs.getD j 0 = 10 then lineRows W rs j (j - l) l ++ rowsFrom W rs (rs.length - (j + 1)) (j + 1) (j + 1) else rowsFrom W rs (rs.length - (j + 1)) l (j + 1) := by
            obtain ⟨f, hf⟩ : ∃ f, rs.length - j = f + 1 := ⟨rs.length - j - 1, by omega⟩
            rw [hf, show rs.length - (j + 1) = f by omega]
            rfl
          obtain ⟨r, hr⟩ : ∃ r, rs.getD j 0 = r := ⟨_, rfl⟩
          rw [hr] at d1 hst
          have HST := Lib.hid hst
          have HRR := Lib.hid hr
          clear hcell hst hr
          by_cases q1 : r = 10
          · have b1 : (r == 10) = true := by simp [q1]
            have HQ := Lib.hid q1
            clear q1
            go_wp2_with fail
            refine (line_any w.heap.size P S _ c rs W v' xs l j _ HW.out (by have := HL.out; omega) HC.out HLJ.out (by have := HJN.out; omega) HNL.out (by have := HLE.out; have := HLJ.out; omega) hB HBX.out.size (HT.out.belowB HBX.out hB) HLX.out).mono ?_
            rintro x w8 ⟨rfl, ⟨v8, hL8⟩, hb8⟩
            have HL8 := Lib.hid hL8
            have HB8 := Lib.hid (HBX.out.trans hb8)
            clear hL8 hb8
            go_wp2_with fail
            go_roundw
            case rel => exact ⟨j + 1, j + 1, _, v8, by go_num, by go_num, Nat.le_refl _, HJN.out, fun q a b => by omega, HL8.out, HB8.out, by rw [← HRW.out, HST.out, if_pos HQ.out, List.append_assoc], by have h1 := lineRows_len W rs j (j - l) l; have h2 := HLE.out; have h3 := HLJ.out; rw [List.length_append]; omega⟩
            case measure => have := HJN.out; simp [intOf]; omega
          · have b1 : (r == 10) = false := by simp [q1]
            have HQ := Lib.hid q1
            clear q1
            go_wp2_with fail
            go_roundw
            case rel => exact ⟨l, j + 1, xs, v', rfl, by go_num, by have := HLJ.out; omega, HJN.out, fun q a b => by
                rcases Nat.lt_or_ge q j with h | h
                · exact HNL.out q a h
                · obtain rfl : q = j := by omega
                  rw [HRR.out]; exact HQ.out, HLX.out, HBX.out, by rw [← HRW.out, HST.out, if_neg HQ.out], HLE.out⟩
            case measure => have := HJN.out; simp [intOf]; omega
        · have hjeq : j = rs.length := by omega
          have HJ := Lib.hid hjeq
          clear hjeq
          go_wp2_with fail
          refine (line_any w.heap.size P S _ c rs W v' xs l rs.length _ HW.out (by have := HL.out; omega) HC.out (by have := HLJ.out; have := HJ.out; omega) (Nat.le_refl _) (by have := HNL.out; rwa [HJ.out] at this) (by have := HLE.out; have := HLJ.out; have := HJ.out; have := HL.out; omega) hB HBX.out.size (HT.out.belowB HBX.out hB) HLX.out).mono ?_
          rintro x w8 ⟨rfl, ⟨v8, hL8⟩, hb8⟩
          have HL8 := Lib.hid hL8
          have HB8 := Lib.hid (HBX.out.trans hb8)
          clear hL8 hb8
          go_wp2_with fail
          go_ret2
          refine ⟨P, A, c, v8, rfl, ?_, HC.out, HB8.out⟩
          have h1 := HRW.out
          rw [HJ.out, Nat.sub_self] at h1
          have h2 := HL8.out
          rw [show xs ++ lineRows W rs rs.length (rs.length - l) l = pageRows W rs from h1] at h2
          exact h2
set_option maxRecDepth 100000 in
set_option maxHeartbeats 4000000 in
theorem Lay_any (S : ByteArray) (rs : List Int) (W : Int) (w : World) (hS : S.data.toList = enc rs) (hg : ∀ r ∈ rs, TxtRune r) (hl : rs.length ≤ 34359738368) (hW : 1 ≤ W ∧ W ≤ 1024) (hB : 4 ≤ w.heap.size) (hT : Tabs w) (hb : Bars w) :
    Calls Tryd.prog 38 #[.string S, .int .i64 W] w fun e w' => (∃ v, e = .returned (.tuple #[v, .int .i64 0]) ∧ w'.ownsRow w.heap.size 61 4 v (pageRows W rs).length (rowCells (pageRows W rs))) ∧ Below w.heap.size w w' := by
  go_enter Tryd.func38, Tryd.ntmps38
  go_wp2_with fail
  refine (laid_any S rs W 1 _ hS hg hl hW (by decide) hB hT hb).mono ?_
  rintro e w1 ⟨P, A, c, v, rfl, hL, hc, hb1⟩
  have HLY := Lib.hid hL
  have HB := Lib.hid hb1
  have c3 := hL.sheet.rows
  clear hL hb1
  go_wp2_with fail
  go_ret2
  exact ⟨⟨v, rfl, HLY.out.own⟩, HB.out⟩
end Go.Proofs.YtkidcleffllhbaaDoor.Pg
