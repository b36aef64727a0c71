/- The reference's Sequence, Runes, Check, walked. The reference's Check of a text. -/
import Derived.Test.YtkdhomiieenfnaaGreatDoorRSeq
import Derived.Test.YtkdhomiieenfnaaGreatDoorLs37
import Derived.Deep.DeepCutAuto
import Derived.Deep.CutBlock
namespace Go.Proofs.YtkdhomiieenfnaaGreatDoor.U
open Go.RowKit Go.Proofs.YtkdhomiieenfnaaGreatDoor.Txt
set_option linter.unusedVariables false
set_option linter.unusedSimpArgs false

theorem idx_zero (s : ByteArray) (i : Nat) (h : i < s.size) : ∀ w, (Instr.index 9 (.string s) (.int .i64 i)).run Tryz.prog w = .ok (.int .u8 (bAt (s.data.toList.drop i) 0)) w := by
  have := idx_at s i 0 (by omega)
  simpa using this
theorem ret_seq {l : List UInt8} {x y : Int} (h : seqO l = (x, y)) : Ending.returned (.tuple #[.int .i64 x, .int .i64 y]) = .returned (.tuple #[.int .i64 (seqO l).1, .int .i64 (seqO l).2]) := by rw [h]
set_option maxRecDepth 100000 in
set_option maxHeartbeats 4000000 in
theorem Sequence_any (s : ByteArray) (i : Nat) (w : World) (hi : i < s.size) (hs : s.size ≤ 1152921504606846976) :
    Calls Tryz.prog 88 #[.string s, .int .i64 i] w fun e w' => e = .returned (.tuple #[.int .i64 (seqO (s.data.toList.drop i)).1, .int .i64 (seqO (s.data.toList.drop i)).2]) ∧ w = w' := by
  have hx0 := idx_zero s i hi
  have HX := Lib.hid (idx_at s i)
  have HGO := Lib.hid (show ∀ k, goesOn (s.data.toList.drop i) k ↔ i + k < s.size ∧ bAt (s.data.toList.drop i) k / 64 = 2 from fun k => by
    unfold goesOn
    rw [List.length_drop, size_toList]
    constructor <;> intro ⟨a, b⟩ <;> exact ⟨by omega, b⟩)
  obtain ⟨l, hl⟩ : ∃ l, s.data.toList.drop i = l := ⟨_, rfl⟩
  rw [hl] at hx0 HX HGO ⊢
  have hne : ¬ (i : Int) < 0 := by omega
  have hlt : ¬ s.size ≤ i := by omega
  have hib : i ≤ 1152921504606846976 := by omega
  have HI := Lib.hid hi
  obtain ⟨b, hb⟩ : ∃ b, bAt l 0 = b := ⟨_, rfl⟩
  have hb256 := bAt_lt l 0
  rw [hb] at hx0 hb256
  have HB := Lib.hid hb
  obtain ⟨bi, hbi⟩ : ∃ bi : Int, (b : Int) = bi := ⟨_, rfl⟩
  rw [hbi] at hx0
  have hbi0 : 0 ≤ bi := by omega
  have hbi1 : bi < 256 := by omega
  have HBI := Lib.hid hbi
  clear hl hb hbi
  go_enter Tryz.func88, Tryz.ntmps88
  go_upto_block 0 with fail
  go_cut [7, 8, 9] (fun n r le wx => ∃ N m least : Nat, n = .int .i64 N ∧ r = .int .i64 m ∧ le = .int .i64 least ∧ Cls3 l N m least ∧ wx = w)
  case first =>
    by_cases h0 : b < 128
    · have E := Lib.hid (show seqO l = (bi, 1) by
        have : seqR l = some b := by unfold seqR; rw [HB.out, if_pos h0]
        unfold seqO; rw [this]; simp only []; rw [width1 b h0, HBI.out]; rfl)
      have hi0 : bi < 128 := by have := HBI.out; omega
      clear h0
      go_wp2_with fail
      go_ret2
      exact ⟨ret_seq E.out, rfl⟩
    have hi0 : ¬ bi < 128 := by have := HBI.out; omega
    by_cases h2 : b / 32 = 6
    · have HC := Lib.hid (cls2 l (by rw [HB.out]; exact h0) (by rw [HB.out]; exact h2))
      rw [HB.out] at HC
      have b2 : (bi / 32 == 6) = true := by have := HBI.out; simp; omega
      have HM := Lib.hid (show bi % 32 = ((b % 32 : Nat) : Int) by have := HBI.out; omega)
      clear h0 h2
      go_wp2_with fail
      go_meet
      exact ⟨2, b % 32, 128, rfl, by rw [← HM.out], rfl, HC.out, rfl⟩
    have b2 : (bi / 32 == 6) = false := by have := HBI.out; simp; omega
    by_cases h3 : b / 16 = 14
    · have HC := Lib.hid (cls3 l (by rw [HB.out]; exact h0) (by rw [HB.out]; exact h2) (by rw [HB.out]; exact h3))
      rw [HB.out] at HC
      have b3 : (bi / 16 == 14) = true := by have := HBI.out; simp; omega
      have HM := Lib.hid (show bi % 16 = ((b % 16 : Nat) : Int) by have := HBI.out; omega)
      clear h0 h2 h3
      go_wp2_with fail
      go_meet
      exact ⟨3, b % 16, 2048, rfl, by rw [← HM.out], rfl, HC.out, rfl⟩
    have b3 : (bi / 16 == 14) = false := by have := HBI.out; simp; omega
    by_cases h4 : b / 8 = 30
    · have HC := Lib.hid (cls4 l (by rw [HB.out]; exact h0) (by rw [HB.out]; exact h2) (by rw [HB.out]; exact h3) (by rw [HB.out]; exact h4))
      rw [HB.out] at HC
      have b4 : (bi / 8 == 30) = true := by have := HBI.out; simp; omega
      have HM := Lib.hid (show bi % 8 = ((b % 8 : Nat) : Int) by have := HBI.out; omega)
      clear h0 h2 h3 h4
      go_wp2_with fail
      go_meet
      exact ⟨4, b % 8, 65536, rfl, by rw [← HM.out], rfl, HC.out, rfl⟩
    have E := Lib.hid (show seqO l = (0, 0) by
      have : seqR l = none := by unfold seqR; rw [HB.out, if_neg h0, if_neg h2, if_neg h3, if_neg h4]
      unfold seqO; rw [this])
    have b4 : (bi / 8 == 30) = false := by have := HBI.out; simp; omega
    clear h0 h2 h3 h4
    go_wp2_with fail
    go_ret2
    exact ⟨ret_seq E.out, rfl⟩
  case rest =>
    obtain ⟨N, m, le, rfl, rfl, rfl, hcls, rfl⟩ := hcut
    have HC := Lib.hid hcls
    have HNN := Lib.hid (And.intro hcls.two hcls.four)
    have hN4 : N ≤ 4 := hcls.four
    clear hcls hx0
    go_wp2_with fail
    go_loop [8, 10] (fun r k => ∃ kk : Nat, k = .int .i64 kk ∧ r = .int .i64 (accB l m kk) ∧ 1 ≤ kk ∧ kk ≤ N ∧ ∀ j, 1 ≤ j → j < kk → goesOn l j) (fun _ k => N - (intOf k).toNat)
    case atStart => exact ⟨1, rfl, rfl, Nat.le_refl _, by have := HNN.out; omega, fun j a b => by omega⟩
    case round =>
      obtain ⟨kk, rfl, rfl, hk1, hk2, hgo⟩ := hrel
      have HG := Lib.hid hgo
      have hab := accB_lt l m kk HC.out.few (by have := HNN.out; omega)
      have hk4 : kk ≤ 4 := by have := HNN.out; omega
      obtain ⟨ac, hac⟩ : ∃ ac : Nat, accB l m kk = ac := ⟨_, rfl⟩
      rw [hac] at hab ⊢
      have HAC := Lib.hid hac
      have HK := Lib.hid (And.intro hk1 hk2)
      clear hgo hac
      by_cases hkn : kk < N
      · have hkni : (kk : Int) < 4 := by omega
        by_cases hin : i + kk < s.size
        · have hx := HX.out kk hin
          obtain ⟨c, hc⟩ : ∃ c, bAt l kk = c := ⟨_, rfl⟩
          have hc256 := bAt_lt l kk
          rw [hc] at hx hc256
          have HCC := Lib.hid hc
          obtain ⟨ci, hci⟩ : ∃ ci : Int, (c : Int) = ci := ⟨_, rfl⟩
          rw [hci] at hx
          have HCI := Lib.hid hci
          have hci0 : 0 ≤ ci := by omega
          have hci1 : ci < 256 := by omega
          have hini : (i : Int) + (kk : Int) < (s.size : Int) := by omega
          have HKN := Lib.hid hkn
          clear hc hci
          by_cases h64 : c / 64 = 2
          · have b5 : (ci / 64 != 2) = false := by have := HCI.out; simp; omega
            have HGK := Lib.hid ((HGO.out kk).2 ⟨hin, by rw [HCC.out]; exact h64⟩)
            have HST := Lib.hid (accB_succ l m kk hk1)
            clear h64
            go_wp2_with fail
            go_round
            case rel => exact ⟨kk + 1, by go_num, by rw [HST.out, HAC.out, HCC.out]; congr 1; have := HCI.out; omega, by omega, HKN.out, fun j a b => by
              rcases Nat.lt_or_ge j kk with h | h
              · exact HG.out j a h
              · obtain rfl : j = kk := by omega
                exact HGK.out⟩
            case measure => have := HKN.out; simp [intOf]; omega
          · have b5 : (ci / 64 != 2) = true := by have := HCI.out; simp; omega
            have E := Lib.hid (show seqO l = (0, 0) by
              have := HC.out.bad kk hk1 hkn (fun h => h64 (by have := (HGO.out kk).1 h; rw [HCC.out] at this; exact this.2))
              unfold seqO; rw [this])
            clear h64
            go_wp2_with fail
            go_ret2
            exact ⟨ret_seq E.out, rfl⟩
        · have hini : ¬ (i : Int) + (kk : Int) < (s.size : Int) := by omega
          have E := Lib.hid (show seqO l = (0, 0) by
            have := HC.out.bad kk hk1 hkn (fun h => hin ((HGO.out kk).1 h).1)
            unfold seqO; rw [this])
          go_wp2_with fail
          go_ret2
          exact ⟨ret_seq E.out, rfl⟩
      · obtain rfl : kk = N := by omega
        have HALL := Lib.hid (show ∀ k, 1 ≤ k → k < kk → goesOn l k from HG.out)
        by_cases hok : runeOk le ac
        · obtain ⟨e1, e2⟩ := HC.out.good HALL.out (by rw [HAC.out]; exact hok)
          rw [HAC.out] at e1 e2
          have E := Lib.hid (show seqO l = ((ac : Int), (kk : Int)) by unfold seqO; rw [e1]; simp [e2])
          obtain ⟨o1, o2, o3⟩ := hok
          by_cases o4 : 55296 ≤ ac
          · have o5 : ¬ ac ≤ 57343 := by omega
            have o6 : ¬ ac < le := by omega
            have o7 : ¬ (1114111 : Int) < (ac : Int) := by omega
            clear e1 e2 o3 o1
            go_wp2_with fail
            go_ret2
            exact ⟨ret_seq E.out, rfl⟩
          · have o6 : ¬ ac < le := by omega
            have o7 : ¬ (1114111 : Int) < (ac : Int) := by omega
            clear e1 e2 o3 o1
            go_wp2_with fail
            go_ret2
            exact ⟨ret_seq E.out, rfl⟩
        · have E := Lib.hid (show seqO l = (0, 0) by
            have := HC.out.off HALL.out (by rw [HAC.out]; exact hok)
            unfold seqO; rw [this])
          by_cases o1 : ac < le
          · clear hok
            go_wp2_with fail
            go_ret2
            exact ⟨ret_seq E.out, rfl⟩
          · by_cases o2 : 1114111 < ac
            · clear hok
              go_wp2_with fail
              go_ret2
              exact ⟨ret_seq E.out, rfl⟩
            · have o3 : 55296 ≤ ac := by unfold runeOk at hok; omega
              have o4 : ac ≤ 57343 := by unfold runeOk at hok; omega
              clear hok
              go_wp2_with fail
              go_ret2
              exact ⟨ret_seq E.out, rfl⟩

/-- A string: a text, or one and its first fault. -/
structure Halves (S : ByteArray) (rs : List Int) (t : List UInt8) : Prop where
  eq : S.data.toList = enc rs ++ t
  ok : ∀ r ∈ rs, TxtRune r
  flt : t = [] ∨ t ≠ [] ∧ (seq t = none ∨ ∃ r, seq t = some r ∧ letInB r = false)
theorem halves (S : ByteArray) : ∃ rs t, Halves S rs t := by
  obtain ⟨rs, t, h1, h2, h3⟩ := split_text S.data.toList.length S.data.toList (Nat.le_refl _)
  exact ⟨rs, t, h2, h1, h3⟩
theorem Halves.size {S : ByteArray} {rs : List Int} {t : List UInt8} (h : Halves S rs t) : S.size = (enc rs).length + t.length := by rw [← size_toList, h.eq, List.length_append]
theorem Halves.len {S : ByteArray} {rs : List Int} {t : List UInt8} (h : Halves S rs t) : rs.length ≤ S.size := by have := enc_len_ge rs; rw [h.size]; omega
theorem Halves.drop {S : ByteArray} {rs : List Int} {t : List UInt8} (h : Halves S rs t) (k : Nat) (hk : k ≤ rs.length) : S.data.toList.drop (psz rs k) = enc (rs.drop k) ++ t := by
  rw [h.eq, List.drop_append_of_le_length (psz_le rs k), enc_drop]
theorem Halves.text {S : ByteArray} {rs : List Int} (h : Halves S rs []) (hs : S.size ≤ 1152921504606846976) : Text S rs := ⟨by have := h.eq; rwa [List.append_nil] at this, h.ok, hs⟩
theorem seqO_some {l : List UInt8} (hl : l ≠ []) {r : Int} (h : seq l = some r) : seqO l = (r, ((encB r).length : Int)) := by
  have := seq_ref l hl
  rw [h] at this
  unfold seqO
  cases h2 : seqR l with
  | none => rw [h2] at this; cases this
  | some n => rw [h2] at this; have e : r = (n : Int) := Option.some.inj this; rw [e]
theorem seqO_none {l : List UInt8} (hl : l ≠ []) (h : seq l = none) : seqO l = (0, 0) := by
  have := seq_ref l hl
  rw [h] at this
  unfold seqO
  cases h2 : seqR l with
  | none => rfl
  | some n => rw [h2] at this; cases this
theorem txt_le {r : Int} (h : Utf8.valid r = true) : 0 ≤ r ∧ r ≤ 1114111 := by have := (valid_iff r).1 h; omega
/-- What Runes answers. -/
def RunesPost (B : Nat) (rs : List Int) (t : List UInt8) (e : Ending) (w' : World) : Prop :=
  (t = [] ∧ ∃ v, e = .returned (.tuple #[v, .int .i64 0, .int .i64 0]) ∧ w'.ownsRow B 3 1 v rs.length (i64s rs)) ∨
  (t ≠ [] ∧ e = .returned (.tuple #[.slice none 0 0, .int .i64 (enc rs).length, .int .i64 (fault t)]))
theorem i64_step {w1 : World} {B e k : Nat} {v : Value} {rs : List Int} {y : Int} (h : w1.ownsRow B e 1 v (k + 1) (i64s (rs.take k) ++ [.int .i64 y])) (hy : rs.getD k 0 = y) (hk : k < rs.length) : w1.ownsRow B e 1 v (k + 1) (i64s (rs.take (k + 1))) := by
  have : rs.take (k + 1) = rs.take k ++ [y] := by
    rw [List.take_add_one, List.getElem?_eq_getElem hk]
    simp [← hy, List.getD, hk]
  rw [this]
  simpa [i64s] using h
theorem own_nil64 (w : World) (B e : Nat) : w.ownsRow B e 1 (.slice none 0 0) 0 (i64s []) := ⟨rfl, .inl ⟨rfl, rfl⟩⟩
set_option maxRecDepth 100000 in
set_option maxHeartbeats 4000000 in
theorem Runes_any (S : ByteArray) (rs : List Int) (t : List UInt8) (w : World) (h : Halves S rs t) (hs : S.size ≤ 4398046511104) :
    Calls Tryz.prog 48 #[.string S] w fun e w' => RunesPost w.heap.size rs t e w' ∧ Below w.heap.size w w' := by
  obtain ⟨i0, hi, hz0, hz1, hz2⟩ := info_parts info64
  have hsl := Tryz.underlying50
  have H := Lib.hid h
  have hlen := h.len
  clear h
  go_enter Tryz.func48, Tryz.ntmps48
  go_wp2_with fail
  go_loopw [5, 6] (fun v i wr => ∃ k : Nat, k ≤ rs.length ∧ i = .int .i64 (psz rs k : Nat) ∧ wr.ownsRow w.heap.size 3 1 v k (i64s (rs.take k)) ∧ Below w.heap.size w wr) (fun _ i _ => S.size - (intOf i).toNat)
  case atStart => exact ⟨0, Nat.zero_le _, by rw [psz_zero]; rfl, own_nil64 _ _ _, Below.refl _ _⟩
  case round =>
    obtain ⟨k, hk, rfl, hown, hb⟩ := hrel
    have hps := psz_le rs k
    have hsz := H.out.size
    have hdr := H.out.drop k hk
    have HO := Lib.hid hown
    have HB := Lib.hid hb
    have HSTEP := Lib.hid (show k < rs.length → psz rs (k + 1) = psz rs k + (encB (rs.getD k 0)).length ∧ psz rs (k + 1) ≤ (enc rs).length from fun h => ⟨psz_succ rs k h, psz_le rs (k + 1)⟩)
    have HEND := Lib.hid (show k = rs.length → psz rs k = (enc rs).length from fun h => by rw [h, psz_all])
    obtain ⟨pos, hpos⟩ : ∃ pos, psz rs k = pos := ⟨_, rfl⟩
    rw [hpos] at hps hdr HSTEP HEND ⊢
    have hp : pos ≤ S.size := by omega
    have HPS := Lib.hid (And.intro hps hsz)
    have HK := Lib.hid hk
    clear hown hb hpos hps hsz
    have hpb : pos ≤ 4398046511104 := by omega
    by_cases hlt : pos < S.size
    · have hne : S.data.toList.drop pos ≠ [] := by
        intro e
        have := congrArg List.length e
        rw [List.length_drop, size_toList] at this
        simp at this
        omega
      have hC := Sequence_any S pos wr hlt (by omega)
      obtain ⟨l, hl⟩ : ∃ l, S.data.toList.drop pos = l := ⟨_, rfl⟩
      rw [hl] at hdr hne hC
      by_cases hkn : k < rs.length
      · have hr1 := H.out.ok _ (List.getElem_mem hkn)
        have hge : rs.getD k 0 = rs[k] := by simp [List.getD, hkn]
        rw [← hge] at hr1
        have hsq : seq l = some (rs.getD k 0) := by
          rw [hdr, List.drop_eq_getElem_cons hkn, enc_cons, List.append_assoc, ← hge]
          exact seq_enc _ hr1.1 _
        rw [seqO_some hne hsq] at hC
        obtain ⟨hst, hst2⟩ := HSTEP.out hkn
        have hw1 := encB_len (rs.getD k 0)
        obtain ⟨r, hr⟩ : ∃ r, rs.getD k 0 = r := ⟨_, rfl⟩
        rw [hr] at hr1 hC hst hw1
        have HRR := Lib.hid hr
        obtain ⟨wd, hwd⟩ : ∃ wd, (encB r).length = wd := ⟨_, rfl⟩
        rw [hwd] at hC hst hw1
        have hrb := txt_le hr1.1
        obtain ⟨n, rfl⟩ : ∃ n : Nat, r = (n : Int) := ⟨r.toNat, by omega⟩
        have HLI := Lib.hid hr1.2
        have HC := Lib.hid hC
        have hpw : pos + wd ≤ S.size := by have := HPS.out; omega
        have HST := Lib.hid hst
        have HPW := Lib.hid hpw
        have b0 : ((wd : Int) == 0) = false := by simp; omega
        have HWD := Lib.hid hw1
        have hwd4 : wd ≤ 4 := hw1.2
        have hn1 : n ≤ 1114111 := by omega
        have h63 : k + 1 ≤ maxLen := by unfold maxLen; omega
        have hby : (k + 1) * 8 ≤ 140737488355328 := by omega
        have H63 := Lib.hid h63
        have HBY := Lib.hid hby
        have HKN := Lib.hid hkn
        clear hC hr1 hst hr hwd hrb hsq hne hdr hl hge hst2 hpw hw1 h63 hby
        go_wp2_with fail
        refine HC.out.mono ?_
        rintro e w1 ⟨rfl, rfl⟩
        go_wp2_with fail
        refine (LetIn_any n _ hn1).mono ?_
        rintro e w1 ⟨rfl, rfl⟩
        rw [HLI.out]
        go_wp2_with (at_builtin; refine wpList_append_own _ rfl (.tmp 28) (.tmp 30) 50 rfl w.heap.size 3 i0 (.int .i64 0) 1 8 hsl hi hz0 hz1 hz2 rfl (by decide) _ _ _ rfl (HO.out.alloc _) ⟨wr.heap.size, 0, none⟩ 1 1 [_] rfl rfl (cell_one_new _ _ _) (by simp [Value.oneCell']) H63.out HBY.out (by have := HB.out.size; simp; omega) ?_; intro v' w1 hown1 hgrow1 _; have HO1 := Lib.hid hown1; have HG1 := Lib.hid hgrow1; clear hown1 hgrow1)
        go_roundw
        case rel => exact ⟨k + 1, HKN.out, by rw [HST.out]; go_num, i64_step HO1.out HRR.out HKN.out, round_below' HB.out HO.out HG1.out⟩
        case measure => have := HPW.out; have := HWD.out; simp [intOf]; omega
      · obtain rfl : k = rs.length := by have := HK.out; omega
        have hpe := HEND.out rfl
        have hdt : l = t := by rw [hdr, List.drop_length]; rfl
        have htn : t ≠ [] := by rw [← hdt]; exact hne
        rw [hdt] at hC hne
        have HPE := Lib.hid hpe
        have HTN := Lib.hid htn
        rcases H.out.flt with h | ⟨_, h | ⟨r, h, hbad⟩⟩
        · exact absurd h htn
        · rw [seqO_none hne h] at hC
          have HF := Lib.hid (show fault t = 10 by unfold fault; rw [h]; rfl)
          have HC := Lib.hid hC
          clear hC hdr hl hne hdt htn h hpe
          go_wp2_with fail
          refine HC.out.mono ?_
          rintro e w1 ⟨rfl, rfl⟩
          go_wp2_with fail
          go_ret3
          exact ⟨.inr ⟨HTN.out, by rw [HF.out, ← HPE.out]; rfl⟩, HB.out⟩
        · rw [seqO_some hne h] at hC
          have hw1 := encB_len r
          have hrb := txt_le (seq_some hne h).1
          obtain ⟨wd, hwd⟩ : ∃ wd, (encB r).length = wd := ⟨_, rfl⟩
          rw [hwd] at hC hw1
          obtain ⟨n, rfl⟩ : ∃ n : Nat, r = (n : Int) := ⟨r.toNat, by omega⟩
          have HF := Lib.hid (show fault t = 11 by unfold fault; rw [h]; rfl)
          have HC := Lib.hid hC
          have HLI := Lib.hid hbad
          have b0 : ((wd : Int) == 0) = false := by simp; omega
          have hn1 : n ≤ 1114111 := by omega
          clear hC hdr hl hne hdt htn h hpe hwd hrb hw1 hbad
          go_wp2_with fail
          refine HC.out.mono ?_
          rintro e w1 ⟨rfl, rfl⟩
          go_wp2_with fail
          refine (LetIn_any n _ hn1).mono ?_
          rintro e w1 ⟨rfl, rfl⟩
          rw [HLI.out]
          go_wp2_with fail
          go_ret3
          exact ⟨.inr ⟨HTN.out, by rw [HF.out, ← HPE.out]; rfl⟩, HB.out⟩
    · have hkn : ¬ k < rs.length := fun h => by
        have h1 := (HSTEP.out h).1
        have h2 := (HSTEP.out h).2
        have h3 := (encB_len (rs.getD k 0)).1
        have := HPS.out
        omega
      obtain rfl : k = rs.length := by have := HK.out; omega
      have ht : t = [] := by
        have := HEND.out rfl
        have := HPS.out
        exact List.length_eq_zero_iff.1 (by omega)
      have HTT := Lib.hid ht
      clear ht hdr
      go_wp2_with fail
      go_ret3
      exact ⟨.inl ⟨HTT.out, _, rfl, by have := HO.out; rwa [List.take_length] at this⟩, HB.out⟩
end Go.Proofs.YtkdhomiieenfnaaGreatDoor.U

namespace Go.Proofs.YtkdhomiieenfnaaGreatDoor.U
open Go.RowKit Go.Proofs.YtkdhomiieenfnaaGreatDoor.Txt
set_option linter.unusedVariables false
set_option linter.unusedSimpArgs false
attribute [local go_sem] frozen?_alloc_cells

/-! ### Check -/
/-- Check's answer: runes, the first fault's byte, its error. -/
def chkN (rs : List Int) (t : List UInt8) : Int × Int × Int := if t = [] then ((rs.length : Int), 0, 0) else (0, ((enc rs).length : Int), (fault t : Int))
theorem chk_halves {S : ByteArray} {rs : List Int} {t : List UInt8} (h : Halves S rs t) : ((chk S.data.toList).1 : Int) = (chkN rs t).1 ∧ ((chk S.data.toList).2.1 : Int) = (chkN rs t).2.1 ∧ ((chk S.data.toList).2.2 : Int) = (chkN rs t).2.2 := by
  unfold chkN
  by_cases ht : t = []
  · rw [if_pos ht, h.eq, ht, List.append_nil, chk_text rs h.ok]; exact ⟨rfl, rfl, rfl⟩
  · rw [if_neg ht, h.eq, chk_fault rs h.ok t ht (by rcases h.flt with h1 | h1; exact absurd h1 ht; exact h1.2)]; exact ⟨rfl, rfl, rfl⟩
theorem Check_halves (S : ByteArray) (rs : List Int) (t : List UInt8) (w : World) (h : Halves S rs t) (hs : S.size ≤ 4398046511104) (hg : Bars w) :
    Calls Tryz.prog 25 #[.string S] w fun e w' => e = .returned (.tuple #[.int .i64 (chkN rs t).1, .int .i64 (chkN rs t).2.1, .int .i64 (chkN rs t).2.2]) ∧ Below w.heap.size w w' :=
  check_at S _ _ _ w (by unfold maxLen; omega) hg (chk_halves h)
set_option maxRecDepth 100000 in
theorem RefCheck_any (S : ByteArray) (rs : List Int) (t : List UInt8) (w : World) (h : Halves S rs t) (hs : S.size ≤ 4398046511104) :
    Calls Tryz.prog 93 #[.string S] w fun e w' => e = .returned (.tuple #[.int .i64 (chkN rs t).1, .int .i64 (chkN rs t).2.1, .int .i64 (chkN rs t).2.2]) ∧ Below w.heap.size w w' := by
  have HC := Lib.hid (Runes_any S rs t w h hs)
  clear h
  go_enter Tryz.func93, Tryz.ntmps93
  go_wp2_with fail
  refine HC.out.mono ?_
  rintro e w1 ⟨hp, hb1⟩
  have HB := Lib.hid hb1
  clear hb1
  rcases hp with ⟨ht, v, rfl, hown⟩ | ⟨ht, rfl⟩
  · obtain ⟨A, c, rfl, _, _⟩ := own_ints hown
    have E := Lib.hid (show chkN rs t = ((rs.length : Int), 0, 0) from if_pos ht)
    clear hown ht
    go_wp2_with fail
    go_ret3
    exact ⟨by rw [E.out]; rfl, HB.out⟩
  · have E := Lib.hid (show chkN rs t = (0, ((enc rs).length : Int), (fault t : Int)) from if_neg ht)
    clear ht
    go_wp2_with fail
    go_ret3
    exact ⟨by rw [E.out]; rfl, HB.out⟩
end Go.Proofs.YtkdhomiieenfnaaGreatDoor.U
