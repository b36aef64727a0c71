/- Exact laws, quotes: the reference's Quote. -/
import Derived.Test.YtfgekdefnbohbaaDoorRQuote
namespace Go.Proofs.YtfgekdefnbohbaaDoor.U
open Go.RowKit Go.Proofs.YtfgekdefnbohbaaDoor.Txt
set_option linter.unusedVariables false
set_option linter.unusedSimpArgs false
attribute [local go_sem] frozen?_alloc_cells

theorem own_push {B : Nat} {w9 : World} {acc : List UInt8} {b : UInt8} {g cap : Nat} {ci : Int} (hci : (b.toNat : Int) = ci) (hown : w9.ownsRow B 5 1 (.slice (some ⟨g, 0, none⟩) (acc.length + 1) cap) (acc.length + 1) (Lib.byteCells acc ++ [.int .u8 ci])) :
    w9.ownsRow B 5 1 (.slice (some ⟨g, 0, none⟩) (acc.length + 1) cap) (acc ++ [b]).length (Lib.byteCells (acc ++ [b])) := by
  subst hci
  have e1 : (acc ++ [b]).length = acc.length + 1 := by simp
  have e2 : Lib.byteCells (acc ++ [b]) = Lib.byteCells acc ++ [.int .u8 (b.toNat : Int)] := by simp [Lib.byteCells]
  rw [e1, e2]
  exact hown
theorem own_mark (w : World) (x : UInt8) : (w.alloc (.cells #[.int .u8 (x.toNat : Int)] 5)).ownsRow w.heap.size 5 1 (.slice (some ⟨w.heap.size, 0, none⟩) 1 1) ([x] : List UInt8).length (Lib.byteCells [x]) :=
  ⟨rfl, .inr ⟨w.heap.size, 1, _, rfl, Nat.le_refl _, heap_alloc_new w _, Nat.le_refl _, by unfold maxLen; decide, rfl, rfl⟩⟩

/-- Where the reference's Quote stands. -/
structure RQ (W : World) (s : ByteArray) (wr : World) (v : Value) (pos : Nat) (acc : List UInt8) : Prop where
  le : pos ≤ s.size
  own : wr.ownsRow W.heap.size 5 1 v acc.length (Lib.byteCells acc)
  below : Below W.heap.size W wr
  len : acc.length ≤ 1 + 10 * pos
  eq : acc ++ qS (s.size - pos) (s.data.toList.drop pos) = 34 :: qS s.size s.data.toList

set_option maxRecDepth 100000 in
set_option maxHeartbeats 8000000 in
theorem RefQuote_any (s : ByteArray) (w : World) (hs : s.size ≤ 1000000000000) :
    Calls Tryd.prog 44 #[.string s] w fun e w' => e = .returned (.string ⟨(quoteL s.data.toList).toArray⟩) ∧ Below w.heap.size w w' := by
  obtain ⟨i0, hi, hz0, hz1, hz2⟩ := info_parts info8'
  have hsl := Tryd.underlying45
  have HM := Lib.hid (own_mark w 34)
  have HB0 := Lib.hid (show Below w.heap.size w (w.alloc (.cells #[.int .u8 34] 5)) from (Below.refl _ _).alloc (Nat.le_refl _) _)
  go_enter Tryd.func44, Tryd.ntmps44
  go_wp2_with fail
  go_loopw [3, 4] (fun v i wr => ∃ (pos : Nat) (acc : List UInt8), i = .int .i64 pos ∧ RQ w s wr v pos acc) (fun _ i _ => s.size - (intOf i).toNat)
  case atStart => exact ⟨0, [34], rfl, Nat.zero_le _, HM.out, HB0.out, by simp, rfl⟩
  case round =>
    obtain ⟨pos, acc, rfl, hq⟩ := hrel
    have HQ := Lib.hid hq
    have hp := hq.le
    have hlen := hq.len
    clear hq HM HB0
    obtain ⟨wo, rfl⟩ : ∃ wo : World, wo = wr := ⟨_, rfl⟩
    by_cases hlt : pos < s.size
    · have hne : s.data.toList.drop pos ≠ [] := by
        intro e; have := congrArg List.length e; rw [List.length_drop, size_toList] at this; simp at this; omega
      have HN := Lib.hid hne
      have HSQ := Lib.hid (fun w => Sequence_any s pos w hlt (by omega))
      cases hsq : seq (s.data.toList.drop pos) with
      | none =>
        have hso := seqO_none hne hsq
        rw [hso] at HSQ
        have hx1 := byte_index s pos hlt
        have HX := Lib.hid (qS_none (f := s.size - pos) (by omega) hne hsq)
        rw [seq_none_len hne hsq] at HX
        generalize (s.data.toList.drop pos).headD 0 = x at hx1 HX
        have hxl := x.toNat_lt
        have HD := Lib.hid (fun w => digits_two x.toNat w (by omega))
        have HT := Lib.hid (show (⟨#[92, 120]⟩ : ByteArray) ++ ⟨#[dig (x.toNat / 16), dig (x.toNat % 16)]⟩ = ⟨(qX x).toArray⟩ from app_str [92, 120] [dig (x.toNat / 16), dig (x.toNat % 16)])
        obtain ⟨X, hX⟩ : ∃ X : ByteArray, (⟨#[dig (x.toNat / 16), dig (x.toNat % 16)]⟩ : ByteArray) = X := ⟨_, rfl⟩
        have hXs : X.size = 2 := by rw [← hX]; rfl
        rw [hX] at HD HT
        obtain ⟨n, hn⟩ : ∃ n, x.toNat = n := ⟨_, rfl⟩
        rw [hn] at hx1 HD hxl
        obtain ⟨T, hTT⟩ : ∃ T : ByteArray, (⟨(qX x).toArray⟩ : ByteArray) = T := ⟨_, rfl⟩
        rw [hTT] at HT
        have hTl : T.data.toList = qX x := by rw [← hTT]
        obtain ⟨p, hpp⟩ : ∃ p, qX x = p := ⟨_, rfl⟩
        have hpl : p.length ≤ 10 := by rw [← hpp]; show 4 ≤ 10; decide
        rw [hpp] at hTl HX
        clear hne hsq hso hX hn hTT hpp
        go_wp2_with fail
        refine (HSQ.out _).mono ?_
        rintro e w2 ⟨rfl, rfl⟩
        go_wp2_with fail
        refine (HD.out _).mono ?_
        rintro e w2 ⟨rfl, rfl⟩
        go_wp2_with fail
        rw [HT.out]
        obtain ⟨L, hL⟩ : ∃ L, p.length = L := ⟨_, rfl⟩
        have hTs : T.size = L := by rw [← size_toList, hTl, hL]
        rw [hL] at hpl
        have HO0 := Lib.hid (HQ.out.own)
        have HBW := Lib.hid (HQ.out.below)
        have HTL := Lib.hid hTl
        have HL := Lib.hid hL
        have HTS := Lib.hid hTs
        have HLA := Lib.hid (show acc.length ≤ 20000000000000 by omega)
        clear hTl hL
        go_loopw [3, 8] (fun v j wy => ∃ m : Nat, j = .int .i64 m ∧ m ≤ L ∧ wy.ownsRow w.heap.size 5 1 v (acc ++ p.take m).length (Lib.byteCells (acc ++ p.take m)) ∧ Below w.heap.size w wy) (fun _ j _ => L - (intOf j).toNat)
        case atStart => exact ⟨0, rfl, Nat.zero_le _, by simpa using HO0.out, HBW.out⟩
        case round =>
          obtain ⟨m, rfl, hm, hao, hby⟩ := hrel
          have HBY := Lib.hid hby
          clear hby
          by_cases hml : m < L
          · have hmq : m < p.length := by have := HL.out; omega
            have HTK := Lib.hid (show acc ++ p.take (m + 1) = acc ++ p.take m ++ [p.getD m 0] by
              rw [List.take_add_one, List.getElem?_eq_getElem hmq, ← List.append_assoc]
              simp [List.getD, List.getElem?_eq_getElem hmq])
            have hal : (acc ++ p.take m).length ≤ 20000000000000 + 10 := by have := HLA.out; rw [List.length_append, List.length_take]; omega
            have d1 := byte_at T m (p.getD m 0) (p.drop (m + 1)) (by rw [HTL.out, List.drop_eq_getElem_cons hmq]; simp [List.getD, List.getElem?_eq_getElem hmq])
            obtain ⟨cc, hcc⟩ : ∃ cc, p.getD m 0 = cc := ⟨_, rfl⟩
            rw [hcc] at d1 HTK
            obtain ⟨ac, hac⟩ : ∃ ac, acc ++ p.take m = ac := ⟨_, rfl⟩
            rw [hac] at HTK hal hao
            have HAO := Lib.hid hao
            have HAL := Lib.hid hal
            have HML := Lib.hid hml
            obtain ⟨ci, hci⟩ : ∃ ci : Int, (cc.toNat : Int) = ci := ⟨_, rfl⟩
            rw [hci] at d1
            have HCI := Lib.hid hci
            clear hcc hac hal hao hci hmq
            go_wp2_with (at_builtin; refine wpList_append_lies _ rfl (.tmp 36) (.tmp 40) 45 rfl w.heap.size 5 i0 (.int .u8 0) 1 1 hsl hi hz0 hz1 hz2 rfl (by decide) _ _ (Lib.byteCells ac) rfl (own_alloc HAO.out ((Below.refl _ _).alloc (Nat.le_refl _) _)) _ 1 1 [.int .u8 ci] rfl rfl (fun j u hj => news_at _ _ _ j u hj) (by intro u hu; simp at hu; subst hu; rfl) (by decide) (by have := HAL.out; unfold maxLen; omega) (by have := HAL.out; omega) (by have := HBY.out.size; simp; omega) _ rfl ?_; intro g cap w9 hown hgrow hat hgl; have HPU := Lib.hid (own_push (b := cc) HCI.out hown); have HB9 := Lib.hid ((HBY.out.alloc HBY.out.size _).grown hgrow (by have := HBY.out.size; simp; omega) (fun k hk => (HAO.out.lt k hk).1)); clear hown hgrow hat hgl)
            go_roundw
            case rel => exact ⟨m + 1, by go_num, HML.out, by rw [HTK.out]; exact HPU.out, HB9.out⟩
            case measure => have := HML.out; simp [intOf]; omega
          · have hmL : m = p.length := by have := HL.out; omega
            rw [hmL, List.take_length] at hao
            have HF := Lib.hid hao
            clear hao hmL
            go_wp2_with fail
            go_roundw
            case rel =>
              refine ⟨pos + 1, acc ++ p, by go_num, by omega, HF.out, HBY.out, by rw [List.length_append, HL.out]; omega, ?_⟩
              rw [← HQ.out.eq, HX.out, List.append_assoc, List.drop_drop]
              congr 2
              all_goals exact qS_fuel _ _ _ (by rw [List.length_drop, size_toList]; omega) (by rw [List.length_drop, size_toList]; omega)
            case measure => simp [intOf]; omega
      | some r =>
        have hso := seqO_some hne hsq
        rw [hso] at HSQ
        have hv := seq_some hne hsq
        have hvr := (valid_iff r).1 hv.1
        have hw4 := encB_len r
        obtain ⟨x, rfl⟩ : ∃ x : Nat, r = (x : Int) := ⟨r.toNat, by omega⟩
        have HX := Lib.hid (qS_some (f := s.size - pos) (by omega) hne hsq)
        have HD := Lib.hid (fun w => written_any x w (by omega))
        have hwid := seq_width hne hsq
        have hwle : (encB (x : Int)).length ≤ s.size - pos := by
          have := decL_le _ hne
          have h2 : (decL (s.data.toList.drop pos)).2 = (encB (x : Int)).length := by rw [hwid]
          rw [h2, List.length_drop, size_toList] at this
          exact this
        obtain ⟨T, hTT⟩ : ∃ T : ByteArray, (⟨(qR (x : Int)).toArray⟩ : ByteArray) = T := ⟨_, rfl⟩
        rw [hTT] at HD
        have hTl : T.data.toList = qR (x : Int) := by rw [← hTT]
        have hpl0 := qR_le (x : Int) (by omega)
        obtain ⟨p, hpp⟩ : ∃ p, qR (x : Int) = p := ⟨_, rfl⟩
        rw [hpp] at hTl HX hpl0
        have hpl : p.length ≤ 10 := hpl0
        obtain ⟨k, hk⟩ : ∃ k, (encB (x : Int)).length = k := ⟨_, rfl⟩
        rw [hk] at HSQ HX hw4 hwle
        have b0 : ((k : Int) == 0) = false := by simp; omega
        clear hne hsq hso hTT hpp hpl0 hv hvr hwid hk
        go_wp2_with fail
        refine (HSQ.out _).mono ?_
        rintro e w2 ⟨rfl, rfl⟩
        go_wp2_with fail
        refine (HD.out _).mono ?_
        rintro e w2 ⟨rfl, hb2⟩
        have HB2 := Lib.hid hb2
        clear hb2
        go_wp2_with fail
        obtain ⟨L, hL⟩ : ∃ L, p.length = L := ⟨_, rfl⟩
        have hTs : T.size = L := by rw [← size_toList, hTl, hL]
        rw [hL] at hpl
        have HO0 := Lib.hid (own_alloc HQ.out.own HB2.out)
        have HBW := Lib.hid (HQ.out.below.trans (HB2.out.mono HQ.out.below.size))
        have HTL := Lib.hid hTl
        have HL := Lib.hid hL
        have HTS := Lib.hid hTs
        have HLA := Lib.hid (show acc.length ≤ 20000000000000 by omega)
        clear hTl hL
        go_loopw [3, 8] (fun v j wy => ∃ m : Nat, j = .int .i64 m ∧ m ≤ L ∧ wy.ownsRow w.heap.size 5 1 v (acc ++ p.take m).length (Lib.byteCells (acc ++ p.take m)) ∧ Below w.heap.size w wy) (fun _ j _ => L - (intOf j).toNat)
        case atStart => exact ⟨0, rfl, Nat.zero_le _, by simpa using HO0.out, HBW.out⟩
        case round =>
          obtain ⟨m, rfl, hm, hao, hby⟩ := hrel
          have HBY := Lib.hid hby
          clear hby
          by_cases hml : m < L
          · have hmq : m < p.length := by have := HL.out; omega
            have HTK := Lib.hid (show acc ++ p.take (m + 1) = acc ++ p.take m ++ [p.getD m 0] by
              rw [List.take_add_one, List.getElem?_eq_getElem hmq, ← List.append_assoc]
              simp [List.getD, List.getElem?_eq_getElem hmq])
            have hal : (acc ++ p.take m).length ≤ 20000000000000 + 10 := by have := HLA.out; rw [List.length_append, List.length_take]; omega
            have d1 := byte_at T m (p.getD m 0) (p.drop (m + 1)) (by rw [HTL.out, List.drop_eq_getElem_cons hmq]; simp [List.getD, List.getElem?_eq_getElem hmq])
            obtain ⟨cc, hcc⟩ : ∃ cc, p.getD m 0 = cc := ⟨_, rfl⟩
            rw [hcc] at d1 HTK
            obtain ⟨ac, hac⟩ : ∃ ac, acc ++ p.take m = ac := ⟨_, rfl⟩
            rw [hac] at HTK hal hao
            have HAO := Lib.hid hao
            have HAL := Lib.hid hal
            have HML := Lib.hid hml
            obtain ⟨ci, hci⟩ : ∃ ci : Int, (cc.toNat : Int) = ci := ⟨_, rfl⟩
            rw [hci] at d1
            have HCI := Lib.hid hci
            clear hcc hac hal hao hci hmq
            go_wp2_with (at_builtin; refine wpList_append_lies _ rfl (.tmp 36) (.tmp 40) 45 rfl w.heap.size 5 i0 (.int .u8 0) 1 1 hsl hi hz0 hz1 hz2 rfl (by decide) _ _ (Lib.byteCells ac) rfl (own_alloc HAO.out ((Below.refl _ _).alloc (Nat.le_refl _) _)) _ 1 1 [.int .u8 ci] rfl rfl (fun j u hj => news_at _ _ _ j u hj) (by intro u hu; simp at hu; subst hu; rfl) (by decide) (by have := HAL.out; unfold maxLen; omega) (by have := HAL.out; omega) (by have := HBY.out.size; simp; omega) _ rfl ?_; intro g cap w9 hown hgrow hat hgl; have HPU := Lib.hid (own_push (b := cc) HCI.out hown); have HB9 := Lib.hid ((HBY.out.alloc HBY.out.size _).grown hgrow (by have := HBY.out.size; simp; omega) (fun k hk => (HAO.out.lt k hk).1)); clear hown hgrow hat hgl)
            go_roundw
            case rel => exact ⟨m + 1, by go_num, HML.out, by rw [HTK.out]; exact HPU.out, HB9.out⟩
            case measure => have := HML.out; simp [intOf]; omega
          · have hmL : m = p.length := by have := HL.out; omega
            rw [hmL, List.take_length] at hao
            have HF := Lib.hid hao
            clear hao hmL
            go_wp2_with fail
            go_roundw
            case rel =>
              refine ⟨pos + k, acc ++ p, by go_num, by omega, HF.out, HBY.out, by rw [List.length_append, HL.out]; omega, ?_⟩
              rw [← HQ.out.eq, HX.out, List.append_assoc, List.drop_drop]
              congr 2
              all_goals exact qS_fuel _ _ _ (by rw [List.length_drop, size_toList]; omega) (by rw [List.length_drop, size_toList]; omega)
            case measure => simp [intOf]; omega
    · have hend : acc ++ [34] = quoteL s.data.toList := by
        have := HQ.out.eq
        rw [show s.size - pos = 0 by omega] at this
        simp only [qS, List.append_nil] at this
        rw [this]; rfl
      have HE := Lib.hid (show (⟨(quoteL s.data.toList).toArray⟩ : ByteArray) = ⟨(acc ++ [34]).toArray⟩ by rw [hend])
      obtain ⟨l2, hl2⟩ : ∃ l2, acc ++ [34] = l2 := ⟨_, rfl⟩
      rw [hl2] at HE
      have HL2 := Lib.hid hl2
      clear hend hl2
      go_upto_region 15 with fail
      go_cut [3] (fun v wx => wx.ownsRow w.heap.size 5 1 v l2.length (Lib.byteCells l2) ∧ Below w.heap.size w wx)
      case first =>
        go_wp2_with (at_builtin; refine wpList_append_lies _ rfl (.tmp 45) (.tmp 46) 45 rfl w.heap.size 5 i0 (.int .u8 0) 1 1 hsl hi hz0 hz1 hz2 rfl (by decide) _ _ (Lib.byteCells acc) rfl (own_alloc HQ.out.own ((Below.refl _ _).alloc (Nat.le_refl _) _)) _ 1 1 [.int .u8 34] rfl rfl (fun j u hj => news_at _ _ _ j u hj) (by intro u hu; simp at hu; subst hu; rfl) (by decide) (by have := HQ.out.len; unfold maxLen; omega) (by have := HQ.out.len; omega) (by have := HQ.out.below.size; simp; omega) _ rfl ?_; intro g cap w9 hown hgrow hat hgl; have HPU := Lib.hid (own_push (b := 34) rfl hown); have HB9 := Lib.hid ((HQ.out.below.alloc HQ.out.below.size _).grown hgrow (by have := HQ.out.below.size; simp; omega) (fun k hk => (HQ.out.own.lt k hk).1)); clear hown hgrow hat hgl)
        go_meet
        exact ⟨by rw [← HL2.out]; exact HPU.out, HB9.out⟩
      case rest =>
        obtain ⟨ho, hb⟩ := hcut
        have HBX := Lib.hid hb
        obtain ⟨A', c', hv, hcap, hcb⟩ := own_bytes ho
        have hcv := conv_bytes (c := c') hcb
        subst hv
        clear ho hb hcap hcb
        go_wp2_with fail
        go_ret
        exact ⟨by rw [HE.out]; rfl, HBX.out⟩
end Go.Proofs.YtfgekdefnbohbaaDoor.U
