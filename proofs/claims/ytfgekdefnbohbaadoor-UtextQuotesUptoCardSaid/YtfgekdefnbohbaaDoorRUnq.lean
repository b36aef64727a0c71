/- Exact laws, quotes: the reference's Unquote. -/
import Derived.Test.YtfgekdefnbohbaaDoorRPiece3
import Derived.Test.YtfgekdefnbohbaaDoorUUnq
namespace Go.Proofs.YtfgekdefnbohbaaDoor.U
open Go.RowKit Go.Proofs.YtfgekdefnbohbaaDoor.Txt
set_option linter.unusedVariables false
set_option linter.unusedSimpArgs false
attribute [local go_sem] frozen?_alloc_cells

theorem uF_small : ∀ (f r : Nat) (l : List UInt8) (k r' k' : Nat), uF f r l k = some (r', k') → k' ≤ k + f
  | 0, r, l, k, r', k', h => by cases h
  | f + 1, r, [], k, r', k', h => by cases h
  | f + 1, r, c :: t, k, r', k', h => by
    simp only [uF] at h
    split at h
    · split at h
      · cases h
      · cases h; omega
    · split at h
      · cases h
      · have := uF_small f _ t _ _ _ h; omega
theorem bytesR_four (r : Nat) : (bytesR r).length ≤ 4 := by
  unfold bytesR
  repeat' split
  all_goals simp
theorem pieceL_small (l : List UInt8) : (pieceL l).2 ≤ 11 ∧ (pieceL l).1.length ≤ 4 := by
  have hb := bytesR_four
  generalize hB : bytesR = B at hb
  unfold pieceL
  rw [hB]
  split
  · simp
  · split <;> simp
  · repeat' split
    all_goals first
      | (simp; done)
      | exact ⟨by have := uF_small _ _ _ _ _ _ ‹_›; simp; omega, hb _⟩

/-- Where the reference's Unquote stands. -/
structure RUAt (W : World) (s : ByteArray) (F : Option (List UInt8 × Nat)) (wr : World) (v : Value) (pos : Nat) (acc : List UInt8) : Prop where
  hi : pos ≤ s.size + 11
  own : wr.ownsRow W.heap.size 5 1 v acc.length (Lib.byteCells acc)
  below : Below W.heap.size W wr
  len : acc.length ≤ 4 * pos
  eq : ∃ f, s.size < f + pos ∧ F = rbF f (s.data.toList.drop pos) acc pos

set_option maxRecDepth 100000 in
set_option maxHeartbeats 8000000 in
theorem RefUnquote_any (s : ByteArray) (w : World) (hs : s.size ≤ 1000000000) :
    Calls Tryd.prog 45 #[.string s] w fun e w' => UnqRes (refU s.data.toList) e ∧ Below w.heap.size w w' := by
  obtain ⟨i0, hi, hz0, hz1, hz2⟩ := info_parts info8'
  have hsl := Tryd.underlying45
  obtain ⟨L, hL⟩ : ∃ L, s.data.toList = L := ⟨_, rfl⟩
  have hlen : s.size = L.length := by rw [← hL]; rfl
  rw [hL]
  cases L with
  | nil =>
    obtain rfl : s = ⟨#[]⟩ := by
      apply ByteArray.ext
      rw [← Array.toList_inj, hL]
    go_enter Tryd.func45, Tryd.ntmps45
    go_wp2
    go_ret3
    exact ⟨rfl, Below.refl _ _⟩
  | cons c t =>
    have hn0 : s.size ≠ 0 := by rw [hlen]; simp
    have b0 : ((s.size : Int) == 0) = false := by rw [beq_eq_false_iff_ne]; omega
    have x0 : ∀ w, (Instr.index 9 (.string s) (.int .i64 0)).run Tryd.prog w = .ok (.int .u8 (c.toNat : Int)) w := byte_at s 0 c t (by rw [hL]; rfl)
    by_cases hc : c = 34
    case neg =>
      have HU := Lib.hid (show refU (c :: t) = none from if_neg hc)
      have hcn : ¬ c.toNat = 34 := fun e => hc (UInt8.toNat_inj.1 e)
      have b34 : ((c.toNat : Int) != 34) = true := by simp; omega
      clear hL hlen hc hcn
      go_enter Tryd.func45, Tryd.ntmps45
      go_wp2
      go_ret3
      exact ⟨by rw [HU.out]; exact rfl, Below.refl _ _⟩
    subst hc
    have x34 : ∀ w, (Instr.index 9 (.string s) (.int .i64 0)).run Tryd.prog w = .ok (.int .u8 34) w := x0
    have HRU := Lib.hid (show refU (34 :: t) = match rbF (t.length + 1) t [] 1 with | none => none | some (x, i) => if quoteL x = (34 :: t).take (i + 1) then some (x, i + 1) else none by cases h : rbF (t.length + 1) t [] 1 <;> simp [refU, h])
    obtain ⟨F, hF⟩ : ∃ F, rbF (t.length + 1) t [] 1 = F := ⟨_, rfl⟩
    rw [hF] at HRU
    have HF := Lib.hid (show ∃ f, s.size < f + 1 ∧ F = rbF f (s.data.toList.drop 1) [] 1 from ⟨t.length + 1, by rw [hlen]; simp, by rw [hL]; exact hF.symm⟩)
    have HL := Lib.hid hL
    clear hL hlen x0 hF
    go_enter Tryd.func45, Tryd.ntmps45
    go_wp2_with fail
    clear x34 b0
    go_loopw [5, 6] (fun v i wr => ∃ (pos : Nat) (acc : List UInt8), i = .int .i64 pos ∧ RUAt w s F wr v pos acc) (fun _ i _ => s.size + 12 - (intOf i).toNat)
    case atStart => exact ⟨1, [], rfl, by omega, ⟨rfl, .inl ⟨rfl, rfl⟩⟩, Below.refl _ _, Nat.zero_le _, HF.out⟩
    case round =>
      obtain ⟨pos, acc, rfl, hq⟩ := hrel
      have HQ := Lib.hid hq
      have hph := hq.hi
      obtain ⟨f, hf1, hf2⟩ := hq.eq
      clear hq HF
      obtain ⟨wo, rfl⟩ : ∃ wo : World, wo = wr := ⟨_, rfl⟩
      have hpb : pos ≤ 1000000011 := by omega
      by_cases hlt : pos < s.size
      case neg =>
        have hnil : s.data.toList.drop pos = [] := List.drop_eq_nil_of_le (by rw [size_toList]; omega)
        have HUN := Lib.hid (show refU (34 :: t) = none by
          rw [HRU.out, hf2, hnil]
          cases f <;> rfl)
        clear hf2 hnil
        go_wp2_with fail
        go_ret3
        exact ⟨by rw [HUN.out]; exact rfl, HQ.out.below⟩
      case pos =>
        obtain ⟨g, rfl⟩ : ∃ g, f = g + 1 := ⟨f - 1, by omega⟩
        obtain ⟨c, u, hd⟩ : ∃ c u, s.data.toList.drop pos = c :: u := by
          cases h : s.data.toList.drop pos with
          | nil => exact absurd (congrArg List.length h) (by rw [List.length_drop, size_toList]; simp; omega)
          | cons c u => exact ⟨c, u, rfl⟩
        have hx := byte_at s pos c u hd
        rw [hd] at hf2
        simp only [rbF] at hf2
        by_cases hc : c = 34
        · subst hc
          rw [if_pos rfl] at hf2
          have hx2 : ∀ w, (Instr.index 9 (.string s) (.int .i64 pos)).run Tryd.prog w = .ok (.int .u8 34) w := hx
          have hu : refU (34 :: t) = if quoteL acc = (34 :: t).take (pos + 1) then some (acc, pos + 1) else none := by rw [HRU.out, hf2]
          have hal := HQ.out.len
          obtain ⟨A', c', hv, hcap, hcb⟩ := own_bytes HQ.out.own
          have hcv := conv_bytes (c := c') hcb
          obtain ⟨x, hxx⟩ : ∃ x : ByteArray, x = ⟨acc.toArray⟩ := ⟨_, rfl⟩
          rw [← hxx] at hcv
          have hxl : x.data.toList = acc := by rw [hxx]
          have hxs : x.size ≤ 1000000000000 := by rw [← size_toList, hxl]; omega
          have HRQ := Lib.hid (fun W => RefQuote_any x W hxs)
          rw [hxl] at HRQ
          obtain ⟨Q, hQ⟩ : ∃ Q : ByteArray, Q = ⟨(quoteL acc).toArray⟩ := ⟨_, rfl⟩
          rw [← hQ] at HRQ
          obtain ⟨P, hP⟩ : ∃ P, s.extract 0 (pos + 1) = P := ⟨_, rfl⟩
          have hsl2 : ∀ W : World, (Instr.slice 9 (.string s) none (some (.int .i64 ((pos : Int) + 1))) none).run Tryd.prog W = .ok (.string P) W := fun W => by
            rw [run_slice_string_h W 9 s Tryd.underlying9 .i64 ((pos : Int) + 1) (by omega) (by omega), show ((pos : Int) + 1).toNat = pos + 1 by omega, hP]
          have hPl : P.data.toList = (34 :: t).take (pos + 1) := by rw [← hP, take_list, HL.out]
          have HXX := Lib.hid hxx
          have HB := Lib.hid HQ.out.below
          obtain ⟨n, hn⟩ : ∃ n, acc.length = n := ⟨_, rfl⟩
          rw [hn] at hcv hv
          by_cases hqp : Q = P
          · have HUN := Lib.hid (show refU (34 :: t) = some (acc, pos + 1) by
              rw [hu, if_pos]
              rw [← hPl, ← hqp, hQ])
            subst hqp
            subst hv
            clear hu hf2 hal hcap hcb hxx hxl hxs hQ hP hPl hd hn HQ hx
            go_wp2_with fail
            refine (HRQ.out _).mono ?_
            rintro e w2 ⟨rfl, hb2⟩
            have HB2 := Lib.hid (HB.out.trans (hb2.mono HB.out.size))
            clear hb2
            go_wp2_with fail
            go_ret3
            exact ⟨by rw [HUN.out, HXX.out]; exact rfl, HB2.out⟩
          · have HUN := Lib.hid (show refU (34 :: t) = none by
              rw [hu, if_neg]
              intro he
              apply hqp
              rw [hQ, he, ← hPl])
            have g0 : ¬ Q.toList = P.toList := fun he => hqp (by
              apply ByteArray.ext
              rw [← Array.toList_inj, ← toList_eq, ← toList_eq, he])
            have g1 : (Q.toList == P.toList) = false := by simpa using g0
            subst hv
            clear hu hf2 hal hcap hcb hxx hxl hxs hQ hP hPl hd hn HQ hx hqp
            go_wp2_with fail
            refine (HRQ.out _).mono ?_
            rintro e w2 ⟨rfl, hb2⟩
            have HB2 := Lib.hid (HB.out.trans (hb2.mono HB.out.size))
            clear hb2
            go_wp2_with fail
            go_ret3
            exact ⟨by rw [HUN.out]; exact rfl, HB2.out⟩
        · rw [if_neg hc] at hf2
          have HPA := Lib.hid (fun W => piece_any s pos W (by omega) hlt)
          rw [hd] at HPA
          have hcn : ¬ c.toNat = 34 := fun e => hc (UInt8.toNat_inj.1 e)
          have b34 : ((c.toNat : Int) != 34) = true := by simp; omega
          have hsm := pieceL_small (c :: u)
          have hdr : ∀ k, s.data.toList.drop (pos + k) = (c :: u).drop k := fun k => by rw [← List.drop_drop, hd]
          clear hd
          generalize hPC : pieceL (c :: u) = PC at hf2 hsm
          have HPC := Lib.hid hPC
          obtain ⟨p, k⟩ := PC
          simp only at hf2 hsm
          have hlt2 : (pos : Int) < s.size := by omega
          clear hPC hcn hc
          go_wp2_with fail
          refine (HPA.out _).mono ?_
          rintro e w2 ⟨hp, hb2⟩
          unfold PieceRes at hp
          rw [HPC.out] at hp
          have HB2 := Lib.hid hb2
          rcases hp with ⟨hk0, rfl⟩ | ⟨Q, ty, fr, rfl, hQl, hQb, hkp⟩
          · simp only at hk0
            rw [if_pos hk0] at hf2
            have HUN := Lib.hid (show refU (34 :: t) = none by rw [HRU.out, hf2])
            have HBX := Lib.hid (HQ.out.below.trans (hb2.mono HQ.out.below.size))
            clear hf2 hb2 hk0 hsm hdr
            go_wp2_with fail
            go_ret3
            exact ⟨by rw [HUN.out]; exact rfl, HBX.out⟩
          · simp only at hkp hQb ⊢
            rw [if_neg (by omega)] at hf2
            have HGA := Lib.hid (show Gath w.heap.size w2 Q p _ acc from ⟨own_alloc HQ.out.own hb2, ⟨ty, fr, hQb⟩, fun e => by have := (HQ.out.own.lt _ e).2; omega⟩)
            have HBW := Lib.hid (HQ.out.below.trans (hb2.mono HQ.out.below.size))
            have HFE := Lib.hid (show ∃ f, s.size < f + (pos + k) ∧ F = rbF f (s.data.toList.drop (pos + k)) (acc ++ p) (pos + k) from ⟨g, by omega, by rw [hdr k]; exact hf2⟩)
            have hal := HQ.out.len
            have HAL := Lib.hid (show acc.length ≤ 20000000000000 by omega)
            obtain ⟨Ln, hLn⟩ : ∃ Ln, p.length = Ln := ⟨_, rfl⟩
            rw [hLn] at hsm ⊢
            have HLN := Lib.hid hLn
            have b0 : ((k : Int) == 0) = false := by rw [beq_eq_false_iff_ne]; omega
            clear hf2 hb2 hQl hQb hdr hLn
            go_wp2_with fail
            go_loopw [5, 9] (fun v j wy => ∃ m : Nat, j = .int .i64 m ∧ m ≤ Ln ∧ Gath w.heap.size wy Q p v (acc ++ p.take m) ∧ Below w.heap.size w wy) (fun _ j _ => Ln - (intOf j).toNat)
            case atStart => exact ⟨0, rfl, Nat.zero_le _, by simpa using HGA.out, HBW.out⟩
            case round =>
              obtain ⟨m, rfl, hm, hga, hby⟩ := hrel
              have HBY := Lib.hid hby
              clear hby
              by_cases hml : m < Ln
              · have hmq : m < p.length := by have := HLN.out; omega
                have d1 := hga.cell m hmq
                have HTK := Lib.hid (show acc ++ p.take (m + 1) = acc ++ p.take m ++ [p.getD m 0] by
                  rw [List.take_add_one, List.getElem?_eq_getElem hmq, ← List.append_assoc]
                  simp [List.getD, List.getElem?_eq_getElem hmq])
                have hall : (acc ++ p.take m).length ≤ 20000000000000 + 4 := by have := HAL.out; rw [List.length_append, List.length_take]; omega
                have hao := hga.own
                obtain ⟨cc, hcc⟩ : ∃ cc, p.getD m 0 = cc := ⟨_, rfl⟩
                rw [hcc] at d1 HTK
                obtain ⟨ac, hac⟩ : ∃ ac, acc ++ p.take m = ac := ⟨_, rfl⟩
                rw [hac] at HTK hall hao hga
                have HGB := Lib.hid hga
                have HAO := Lib.hid hao
                have HALL := Lib.hid hall
                have HML := Lib.hid hml
                obtain ⟨ci, hci⟩ : ∃ ci : Int, (cc.toNat : Int) = ci := ⟨_, rfl⟩
                rw [hci] at d1
                have HCI := Lib.hid hci
                have z0 : (0 : Int) ≤ (m : Int) := by omega
                clear hcc hac hall hao hci hga hmq hal
                go_wp2_with (at_builtin; refine wpList_append_lies _ rfl (.tmp 44) (.tmp 49) 45 rfl w.heap.size 5 i0 (.int .u8 0) 1 1 hsl hi hz0 hz1 hz2 rfl (by decide) _ _ (Lib.byteCells ac) rfl (own_alloc HAO.out ((Below.refl _ _).alloc (Nat.le_refl _) _)) _ 1 1 [.int .u8 ci] rfl rfl (fun j u hj => news_at _ _ _ j u hj) (by intro u hu; simp at hu; subst hu; rfl) (by decide) (by have := HALL.out; unfold maxLen; omega) (by have := HALL.out; omega) (by have := HBY.out.size; simp; omega) _ rfl ?_; intro g cap w9 hown hgrow hat hgl; have HPU := Lib.hid (HGB.out.push (b := cc) (by rw [HCI.out]; exact hown) hgrow hat); have HB9 := Lib.hid ((HBY.out.alloc HBY.out.size _).grown hgrow (by have := HBY.out.size; simp; omega) (fun k hk => (HAO.out.lt k hk).1)); clear hown hgrow hat hgl)
                go_roundw
                case rel => exact ⟨m + 1, by go_num, HML.out, by rw [HTK.out]; have := HPU.out; exact this, HB9.out⟩
                case measure => have := HML.out; simp [intOf]; omega
              · have hmL : m = p.length := by have := HLN.out; omega
                have HE := Lib.hid (show Gath w.heap.size wr Q p _ (acc ++ p) by rw [hmL, List.take_length] at hga; exact hga)
                clear hga hmL
                go_wp2_with fail
                go_roundw
                case rel => exact ⟨pos + k, acc ++ p, by go_num, by omega, HE.out.own, HBY.out, by rw [List.length_append, HLN.out]; omega, HFE.out⟩
                case measure => simp [intOf]; omega
end Go.Proofs.YtfgekdefnbohbaaDoor.U
