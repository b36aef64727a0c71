/- Place, Index, Slice: the program's answers are the reference's, at every string and all numbers. -/
import Derived.Test.YtfgekdefnbohbaaDoorRBytes
import Derived.Test.YtfgekdefnbohbaaDoorRPlay
import Derived.Test.YtfgekdefnbohbaaDoorUIndex
namespace Go.Proofs.YtfgekdefnbohbaaDoor.U
open Go.RowKit Go.Proofs.YtfgekdefnbohbaaDoor.Txt
set_option linter.unusedVariables false
set_option linter.unusedSimpArgs false
attribute [local go_sem] frozen?_alloc_cells

theorem fault_or (t : List UInt8) : (fault t : Int) = 10 ∨ (fault t : Int) = 11 := by
  unfold fault; split
  · exact .inl rfl
  · exact .inr rfl
theorem fault_ne {t : List UInt8} {f : Int} (h : (fault t : Int) = f) : (f != 0) = true := by
  rcases fault_or t with e | e <;> (rw [← h, e]; rfl)
/-- What Place answers. -/
inductive PlaceIs (rs : List Int) (t : List UInt8) (a : Int) : Int → Int → Prop where
  | fault (f : Int) (ht : t ≠ []) (hf : (fault t : Int) = f) : PlaceIs rs t a 0 f
  | out (ht : t = []) (ha : a < 0 ∨ rs.length < a) : PlaceIs rs t a 0 12
  | ok (k p : Nat) (ht : t = []) (ha : a = k) (hk : k ≤ rs.length) (hp : psz rs k = p) : PlaceIs rs t a p 0
theorem place_is (rs : List Int) (t : List UInt8) (a : Int) : ∃ x e, PlaceIs rs t a x e := by
  by_cases ht : t = []
  · by_cases ha : a < 0 ∨ rs.length < a
    · exact ⟨_, _, .out ht ha⟩
    · exact ⟨_, _, .ok a.toNat _ ht (by omega) (by omega) rfl⟩
  · exact ⟨_, _, .fault _ ht rfl⟩
/-- What Index answers. -/
inductive IndexIs (rs : List Int) (t : List UInt8) (a : Int) : Int → Int → Prop where
  | fault (f : Int) (ht : t ≠ []) (hf : (fault t : Int) = f) : IndexIs rs t a 0 f
  | out (ht : t = []) (ha : ∀ k, k ≤ rs.length → ((psz rs k : Nat) : Int) ≠ a) : IndexIs rs t a 0 12
  | ok (k : Nat) (ht : t = []) (ha : a = (psz rs k : Nat)) (hk : k ≤ rs.length) : IndexIs rs t a k 0
theorem index_is (rs : List Int) (t : List UInt8) (a : Int) : ∃ x e, IndexIs rs t a x e := by
  by_cases ht : t = []
  · by_cases ha : ∃ k, k ≤ rs.length ∧ ((psz rs k : Nat) : Int) = a
    · obtain ⟨k, hk, ha⟩ := ha
      exact ⟨_, _, .ok k ht ha.symm hk⟩
    · exact ⟨_, _, .out ht fun k hk he => ha ⟨k, hk, he⟩⟩
  · exact ⟨_, _, .fault _ ht rfl⟩
theorem psz_inj (rs : List Int) {j k : Nat} (hj : j ≤ rs.length) (hk : k ≤ rs.length) (h : psz rs j = psz rs k) : j = k := by
  rcases Nat.lt_trichotomy j k with h1 | h1 | h1
  · have := psz_mono rs j k h1 hk; omega
  · exact h1
  · have := psz_mono rs k j h1 hj; omega
theorem len_bound {S : ByteArray} {rs : List Int} {t : List UInt8} {N : Nat} (h : Halves S rs t) (hs : S.size ≤ N) : rs.length ≤ N ∧ (enc rs).length ≤ N := by
  have h1 := h.len
  have h2 := h.size
  omega
/-- An error, a fault's: what Check hands on. -/
theorem chkN_fault {rs : List Int} {t : List UInt8} {f : Int} (ht : t ≠ []) (hf : (fault t : Int) = f) : chkN rs t = (0, ((enc rs).length : Int), f) := by
  unfold chkN; rw [if_neg ht, hf]
theorem chkN_text (rs : List Int) : chkN rs [] = ((rs.length : Int), 0, 0) := if_pos rfl

set_option maxRecDepth 100000 in
set_option maxHeartbeats 4000000 in
theorem Place_is (S : ByteArray) (rs : List Int) (t : List UInt8) (a x e : Int) (w : World) (h : Halves S rs t) (hs : S.size ≤ 1048576) (ha0 : -9223372036854775808 ≤ a) (ha1 : a ≤ 9223372036854775807) (hp : PlaceIs rs t a x e) (hg : Bars w) :
    Calls Tryd.prog 31 #[.string S, .int .i64 a] w fun e' w' => e' = .returned (.tuple #[.int .i64 x, .int .i64 e]) ∧ Below w.heap.size w w' := by
  cases hp with
  | fault f ht hf =>
    have hC := Check_halves S rs t w h (by omega) hg
    rw [chkN_fault ht hf] at hC
    have b := fault_ne hf
    obtain ⟨p, hp⟩ : ∃ p : Int, ((enc rs).length : Int) = p := ⟨_, rfl⟩
    rw [hp] at hC
    have HC := Lib.hid hC
    clear hC hp hf ht h hg
    go_enter Tryd.func31, Tryd.ntmps31
    go_wp2_with fail
    refine HC.out.mono ?_
    rintro e w1 ⟨rfl, hb1⟩
    have HB := Lib.hid hb1
    clear hb1
    go_wp2_with fail
    go_ret2
    exact ⟨rfl, HB.out⟩
  | out ht ha =>
    subst ht
    exact place_out S rs a w (h.text (by omega)) ha ha0 ha1 hg
  | ok k p ht ha hk hp =>
    subst ht ha hp
    exact place_in S rs k w (h.text (by omega)) hk hg
set_option maxRecDepth 100000 in
set_option maxHeartbeats 4000000 in
theorem Index_is (S : ByteArray) (rs : List Int) (t : List UInt8) (a x e : Int) (w : World) (h : Halves S rs t) (hs : S.size ≤ 1048576) (ha0 : -9223372036854775808 ≤ a) (ha1 : a ≤ 9223372036854775807) (hp : IndexIs rs t a x e) (hg : Bars w) :
    Calls Tryd.prog 40 #[.string S, .int .i64 a] w fun e' w' => e' = .returned (.tuple #[.int .i64 x, .int .i64 e]) ∧ Below w.heap.size w w' := by
  cases hp with
  | fault f ht hf =>
    have hC := Check_halves S rs t w h (by omega) hg
    rw [chkN_fault ht hf] at hC
    have b := fault_ne hf
    obtain ⟨p, hp⟩ : ∃ p : Int, ((enc rs).length : Int) = p := ⟨_, rfl⟩
    rw [hp] at hC
    have HC := Lib.hid hC
    clear hC hp hf ht h hg
    go_enter Tryd.func40, Tryd.ntmps40
    go_wp2_with fail
    refine HC.out.mono ?_
    rintro e w1 ⟨rfl, hb1⟩
    have HB := Lib.hid hb1
    clear hb1
    go_wp2_with fail
    go_ret2
    exact ⟨rfl, HB.out⟩
  | out ht ha =>
    subst ht
    exact index_out S rs a w (h.text (by omega)) ha ha0 ha1 hg
  | ok k ht ha hk =>
    subst ht ha
    exact index_at S rs k w (h.text (by omega)) hk hg

set_option maxRecDepth 100000 in
set_option maxHeartbeats 4000000 in
theorem RefPlace_is (S : ByteArray) (rs : List Int) (t : List UInt8) (a x e : Int) (w : World) (h : Halves S rs t) (hs : S.size ≤ 1048576) (ha0 : -9223372036854775808 ≤ a) (ha1 : a ≤ 9223372036854775807) (hp : PlaceIs rs t a x e) :
    Calls Tryd.prog 39 #[.string S, .int .i64 a] w fun e' w' => e' = .returned (.tuple #[.int .i64 x, .int .i64 e]) ∧ Below w.heap.size w w' := by
  have H := Lib.hid h
  have HS := Lib.hid (show S.size ≤ 4398046511104 by omega)
  have hlen := (len_bound h hs).1
  have henc := (len_bound h hs).2
  clear h hs
  cases hp with
  | fault f ht hf =>
    have b := fault_ne hf
    have HF := Lib.hid hf
    have HT := Lib.hid ht
    clear hf ht
    go_enter Tryd.func39, Tryd.ntmps39
    go_wp2_with fail
    refine (Runes_any S rs t _ H.out HS.out).mono ?_
    rintro e w1 ⟨hp, hb1⟩
    have HB := Lib.hid hb1
    clear hb1
    rcases hp with ⟨ht2, _⟩ | ⟨_, rfl⟩
    · exact absurd ht2 HT.out
    rw [HF.out]
    go_wp2_with fail
    go_ret2
    exact ⟨rfl, HB.out⟩
  | out ht ha =>
    subst ht
    obtain ⟨n, hn⟩ : ∃ n, rs.length = n := ⟨_, rfl⟩
    rw [hn] at hlen ha
    have HN := Lib.hid hn
    clear hn
    by_cases hneg : a < 0
    · clear ha
      go_enter Tryd.func39, Tryd.ntmps39
      go_wp2_with fail
      refine (Runes_any S rs [] _ H.out HS.out).mono ?_
      rintro e w1 ⟨hp, hb1⟩
      have HB := Lib.hid hb1
      clear hb1
      rcases hp with ⟨_, v, rfl, hown⟩ | ⟨ht2, _⟩
      case inr => exact absurd rfl ht2
      obtain ⟨A, c, rfl, hcap, hcell⟩ := own_ints hown
      have HCE := Lib.hid hcell
      have HCAP := Lib.hid hcap
      rw [HN.out]
      clear hown hcap hcell
      go_wp2_with fail
      go_ret2
      exact ⟨rfl, HB.out⟩
    · have hbig : (n : Int) < a := by omega
      clear ha
      go_enter Tryd.func39, Tryd.ntmps39
      go_wp2_with fail
      refine (Runes_any S rs [] _ H.out HS.out).mono ?_
      rintro e w1 ⟨hp, hb1⟩
      have HB := Lib.hid hb1
      clear hb1
      rcases hp with ⟨_, v, rfl, hown⟩ | ⟨ht2, _⟩
      case inr => exact absurd rfl ht2
      obtain ⟨A, c, rfl, hcap, hcell⟩ := own_ints hown
      have HCE := Lib.hid hcell
      have HCAP := Lib.hid hcap
      rw [HN.out]
      clear hown hcap hcell
      go_wp2_with fail
      go_ret2
      exact ⟨rfl, HB.out⟩
  | ok k p ht ha hk hp =>
    subst ht ha
    have HP := Lib.hid hp
    have HK := Lib.hid hk
    obtain ⟨n, hn⟩ : ∃ n, rs.length = n := ⟨_, rfl⟩
    rw [hn] at hlen hk
    have HN := Lib.hid hn
    have hneg : ¬ (k : Int) < 0 := by omega
    have hbig : ¬ n < k := by omega
    clear hn hp
    go_enter Tryd.func39, Tryd.ntmps39
    go_wp2_with fail
    refine (Runes_any S rs [] _ H.out HS.out).mono ?_
    rintro e w1 ⟨hp, hb1⟩
    have HB := Lib.hid hb1
    clear hb1
    rcases hp with ⟨_, v, rfl, hown⟩ | ⟨ht2, _⟩
    case inr => exact absurd rfl ht2
    obtain ⟨A, c, rfl, hcap, hcell⟩ := own_ints hown
    have HCE := Lib.hid hcell
    have HCAP := Lib.hid hcap
    rw [HN.out]
    clear hown hcap hcell
    go_wp2_with fail
    clear hneg hbig
    go_loopw [9, 10] (fun m i wr => ∃ j : Nat, i = .int .i64 j ∧ m = .int .i64 (psz rs j : Nat) ∧ j ≤ k ∧ Below w.heap.size w wr ∧ Below w1.heap.size w1 wr) (fun _ i _ => k - (intOf i).toNat)
    case atStart => exact ⟨0, rfl, by rw [psz_zero]; rfl, Nat.zero_le _, HB.out, Below.refl _ _⟩
    case round =>
      obtain ⟨j, rfl, rfl, hj, hb, hb2⟩ := hrel
      have HBW := Lib.hid hb
      have HB2 := Lib.hid hb2
      clear hb hb2
      by_cases hlt : j < k
      · have hjl : j < rs.length := by have := HK.out; omega
        obtain ⟨ad, rfl, hc⟩ := HCE.out (by omega)
        have d0 := cell_below HB2.out (hc j hjl)
        have hge : rs.getD j 0 = rs[j] := by simp [List.getD, hjl]
        have hr1 := H.out.ok _ (List.getElem_mem hjl)
        rw [← hge] at hr1
        have hst := psz_succ rs j hjl
        have hle := psz_le rs j
        have hrb := txt_le hr1.1
        have hjn : j < n := by have := HN.out; omega
        obtain ⟨r, hr⟩ : ∃ r, rs.getD j 0 = r := ⟨_, rfl⟩
        rw [hr] at d0 hr1 hst hrb
        obtain ⟨x, rfl⟩ : ∃ x : Nat, r = (x : Int) := ⟨r.toNat, by omega⟩
        have hbr : bytesR x = encB (x : Int) := bytesR_enc (x : Int) hr1.1
        have hw := encB_len (x : Int)
        have HBR := Lib.hid hbr
        have hx1 : x ≤ 1114111 := by omega
        obtain ⟨q, hq⟩ : ∃ q, encB (x : Int) = q := ⟨_, rfl⟩
        rw [hq] at hst hw HBR
        obtain ⟨pj, hpj⟩ : ∃ pj, psz rs j = pj := ⟨_, rfl⟩
        rw [hpj] at hst hle ⊢
        have HST := Lib.hid hst
        have hpb : pj ≤ 1048576 := by omega
        obtain ⟨L, hL⟩ : ∃ L, q.length = L := ⟨_, rfl⟩
        rw [hL] at hw HST
        have hL4 : L ≤ 4 := hw.2
        have HL := Lib.hid hL
        have HLT := Lib.hid hlt
        clear hc hge hr hr1 hst hle hrb hbr hq hpj hw hL hjl
        go_wp2_with fail
        refine (Bytes_any x _ hx1).mono ?_
        rintro e w2 ⟨rfl, rfl⟩
        rw [HBR.out, HL.out]
        go_wp2_with fail
        go_roundw
        case rel => exact ⟨j + 1, by go_num, by rw [HST.out]; go_num, HLT.out, HBW.out.alloc HBW.out.size _, HB2.out.alloc HB2.out.size _⟩
        case measure => have := HLT.out; simp [intOf]; omega
      · have hjk : j = k := by omega
        have HE := Lib.hid (show psz rs j = p by rw [hjk]; exact HP.out)
        clear hjk
        go_wp2_with fail
        go_ret2
        exact ⟨by rw [← HE.out]; rfl, HBW.out⟩

set_option maxRecDepth 100000 in
set_option maxHeartbeats 4000000 in
theorem RefIndex_is (S : ByteArray) (rs : List Int) (t : List UInt8) (a x e : Int) (w : World) (h : Halves S rs t) (hs : S.size ≤ 1048576) (ha0 : -9223372036854775808 ≤ a) (ha1 : a ≤ 9223372036854775807) (hp : IndexIs rs t a x e) :
    Calls Tryd.prog 41 #[.string S, .int .i64 a] w fun e' w' => e' = .returned (.tuple #[.int .i64 x, .int .i64 e]) ∧ Below w.heap.size w w' := by
  have H := Lib.hid h
  have HS := Lib.hid (show S.size ≤ 4398046511104 by omega)
  have hlen := (len_bound h hs).1
  have henc := (len_bound h hs).2
  clear h hs
  cases hp with
  | fault f ht hf =>
    have b := fault_ne hf
    have HF := Lib.hid hf
    have HT := Lib.hid ht
    clear hf ht
    go_enter Tryd.func41, Tryd.ntmps41
    go_wp2_with fail
    refine (Runes_any S rs t _ H.out HS.out).mono ?_
    rintro e w1 ⟨hp, hb1⟩
    have HB := Lib.hid hb1
    clear hb1
    rcases hp with ⟨ht2, _⟩ | ⟨_, rfl⟩
    · exact absurd ht2 HT.out
    rw [HF.out]
    go_wp2_with fail
    go_ret2
    exact ⟨rfl, HB.out⟩
  | out ht ha =>
    subst ht
    obtain ⟨n, hn⟩ : ∃ n, rs.length = n := ⟨_, rfl⟩
    rw [hn] at hlen ha
    have HN := Lib.hid hn
    have HA := Lib.hid ha
    clear hn ha
    go_enter Tryd.func41, Tryd.ntmps41
    go_wp2_with fail
    refine (Runes_any S rs [] _ H.out HS.out).mono ?_
    rintro e w1 ⟨hp, hb1⟩
    have HB := Lib.hid hb1
    clear hb1
    rcases hp with ⟨_, v, rfl, hown⟩ | ⟨ht2, _⟩
    case inr => exact absurd rfl ht2
    obtain ⟨A, c, rfl, hcap, hcell⟩ := own_ints hown
    have HCE := Lib.hid hcell
    have HCAP := Lib.hid hcap
    rw [HN.out]
    clear hown hcap hcell
    go_wp2_with fail
    go_loopw [9, 10] (fun m i wr => ∃ j : Nat, i = .int .i64 j ∧ m = .int .i64 (psz rs (min j n) : Nat) ∧ j ≤ n + 1 ∧ Below w.heap.size w wr ∧ Below w1.heap.size w1 wr) (fun _ i _ => n + 1 - (intOf i).toNat)
    case atStart => exact ⟨0, rfl, by rw [Nat.zero_min, psz_zero]; rfl, Nat.zero_le _, HB.out, Below.refl _ _⟩
    case round =>
      obtain ⟨j, rfl, rfl, hj, hb, hb2⟩ := hrel
      have HBW := Lib.hid hb
      have HB2 := Lib.hid hb2
      clear hb hb2
      by_cases hjn : j ≤ n
      · have hne : (((psz rs j : Nat) : Int) == a) = false := by have := HA.out j hjn; simp [this]
        by_cases hlt : j < n
        · have hjl : j < rs.length := by have := HN.out; omega
          obtain ⟨ad, rfl, hc⟩ := HCE.out (by omega)
          have d0 := cell_below HB2.out (hc j hjl)
          have hge : rs.getD j 0 = rs[j] := by simp [List.getD, hjl]
          have hr1 := H.out.ok _ (List.getElem_mem hjl)
          rw [← hge] at hr1
          have hst := psz_succ rs j hjl
          have hle := psz_le rs j
          have hrb := txt_le hr1.1
          obtain ⟨r, hr⟩ : ∃ r, rs.getD j 0 = r := ⟨_, rfl⟩
          rw [hr] at d0 hr1 hst hrb
          obtain ⟨x, rfl⟩ : ∃ x : Nat, r = (x : Int) := ⟨r.toNat, by omega⟩
          have hbr : bytesR x = encB (x : Int) := bytesR_enc (x : Int) hr1.1
          have hw := encB_len (x : Int)
          have HBR := Lib.hid hbr
          have hx1 : x ≤ 1114111 := by omega
          obtain ⟨q, hq⟩ : ∃ q, encB (x : Int) = q := ⟨_, rfl⟩
          rw [hq] at hst hw HBR
          rw [Nat.min_eq_left (by omega)]
          have HM1 := Lib.hid (show min (j + 1) n = j + 1 from Nat.min_eq_left (by omega))
          obtain ⟨pj, hpj⟩ : ∃ pj, psz rs j = pj := ⟨_, rfl⟩
          rw [hpj] at hst hle hne ⊢
          have HST := Lib.hid hst
          have hpb : pj ≤ 1048576 := by omega
          obtain ⟨L, hL⟩ : ∃ L, q.length = L := ⟨_, rfl⟩
          rw [hL] at hw HST
          have hL4 : L ≤ 4 := hw.2
          have HL := Lib.hid hL
          have HLT := Lib.hid hlt
          clear hc hge hr hr1 hst hle hrb hbr hq hpj hw hL hjl
          go_wp2_with fail
          refine (Bytes_any x _ hx1).mono ?_
          rintro e w2 ⟨rfl, rfl⟩
          rw [HBR.out, HL.out]
          go_wp2_with fail
          go_roundw
          case rel => exact ⟨j + 1, by go_num, by rw [HM1.out, HST.out]; go_num, by omega, HBW.out.alloc HBW.out.size _, HB2.out.alloc HB2.out.size _⟩
          case measure => simp [intOf]; omega
        · have hje : j = n := by omega
          rw [Nat.min_eq_left hjn]
          have HM := Lib.hid (show min (j + 1) n = j by omega)
          obtain ⟨pj, hpj⟩ : ∃ pj, psz rs j = pj := ⟨_, rfl⟩
          rw [hpj] at hne ⊢
          have HPJ := Lib.hid hpj
          have HJN := Lib.hid hjn
          clear hje hpj
          go_wp2_with fail
          go_roundw
          case rel => exact ⟨j + 1, by go_num, by rw [HM.out, HPJ.out], by have := HJN.out; omega, HBW.out, HB2.out⟩
          case measure => have := HJN.out; simp [intOf]; omega
      · go_wp2_with fail
        go_ret2
        exact ⟨rfl, HBW.out⟩
  | ok k ht ha hk =>
    subst ht
    obtain ⟨n, hn⟩ : ∃ n, rs.length = n := ⟨_, rfl⟩
    have HUN := Lib.hid (show ∀ j, j < k → ((psz rs j : Nat) : Int) ≠ a from fun j hj he => by
      have := psz_mono rs j k hj hk
      rw [ha] at he
      omega)
    rw [hn] at hlen hk
    have HN := Lib.hid hn
    have HA := Lib.hid ha
    clear hn ha
    go_enter Tryd.func41, Tryd.ntmps41
    go_wp2_with fail
    refine (Runes_any S rs [] _ H.out HS.out).mono ?_
    rintro e w1 ⟨hp, hb1⟩
    have HB := Lib.hid hb1
    clear hb1
    rcases hp with ⟨_, v, rfl, hown⟩ | ⟨ht2, _⟩
    case inr => exact absurd rfl ht2
    obtain ⟨A, c, rfl, hcap, hcell⟩ := own_ints hown
    have HCE := Lib.hid hcell
    have HCAP := Lib.hid hcap
    rw [HN.out]
    clear hown hcap hcell
    go_wp2_with fail
    go_loopw [9, 10] (fun m i wr => ∃ j : Nat, i = .int .i64 j ∧ m = .int .i64 (psz rs (min j n) : Nat) ∧ j ≤ k ∧ Below w.heap.size w wr ∧ Below w1.heap.size w1 wr) (fun _ i _ => n + 1 - (intOf i).toNat)
    case atStart => exact ⟨0, rfl, by rw [Nat.zero_min, psz_zero]; rfl, Nat.zero_le _, HB.out, Below.refl _ _⟩
    case round =>
      obtain ⟨j, rfl, rfl, hj, hb, hb2⟩ := hrel
      have HBW := Lib.hid hb
      have HB2 := Lib.hid hb2
      clear hb hb2
      have hjn : j ≤ n := by omega
      by_cases hjk : j < k
      · have hne : (((psz rs j : Nat) : Int) == a) = false := by have := HUN.out j hjk; simp [this]
        have hlt : j < n := by omega
        have hjl : j < rs.length := by have := HN.out; omega
        obtain ⟨ad, rfl, hc⟩ := HCE.out (by omega)
        have d0 := cell_below HB2.out (hc j hjl)
        have hge : rs.getD j 0 = rs[j] := by simp [List.getD, hjl]
        have hr1 := H.out.ok _ (List.getElem_mem hjl)
        rw [← hge] at hr1
        have hst := psz_succ rs j hjl
        have hle := psz_le rs j
        have hrb := txt_le hr1.1
        obtain ⟨r, hr⟩ : ∃ r, rs.getD j 0 = r := ⟨_, rfl⟩
        rw [hr] at d0 hr1 hst hrb
        obtain ⟨x, rfl⟩ : ∃ x : Nat, r = (x : Int) := ⟨r.toNat, by omega⟩
        have hbr : bytesR x = encB (x : Int) := bytesR_enc (x : Int) hr1.1
        have hw := encB_len (x : Int)
        have HBR := Lib.hid hbr
        have hx1 : x ≤ 1114111 := by omega
        obtain ⟨q, hq⟩ : ∃ q, encB (x : Int) = q := ⟨_, rfl⟩
        rw [hq] at hst hw HBR
        rw [Nat.min_eq_left (by omega)]
        have HM1 := Lib.hid (show min (j + 1) n = j + 1 from Nat.min_eq_left (by omega))
        obtain ⟨pj, hpj⟩ : ∃ pj, psz rs j = pj := ⟨_, rfl⟩
        rw [hpj] at hst hle hne ⊢
        have HST := Lib.hid hst
        have hpb : pj ≤ 1048576 := by omega
        obtain ⟨L, hL⟩ : ∃ L, q.length = L := ⟨_, rfl⟩
        rw [hL] at hw HST
        have hL4 : L ≤ 4 := hw.2
        have HL := Lib.hid hL
        have HLT := Lib.hid hlt
        clear hc hge hr hr1 hst hle hrb hbr hq hpj hw hL hjl
        go_wp2_with fail
        refine (Bytes_any x _ hx1).mono ?_
        rintro e w2 ⟨rfl, rfl⟩
        rw [HBR.out, HL.out]
        go_wp2_with fail
        go_roundw
        case rel => exact ⟨j + 1, by go_num, by rw [HM1.out, HST.out]; go_num, by omega, HBW.out.alloc HBW.out.size _, HB2.out.alloc HB2.out.size _⟩
        case measure => simp [intOf]; omega
      · have hje : j = k := by omega
        rw [Nat.min_eq_left hjn, hje]
        have hne : (((psz rs k : Nat) : Int) == a) = true := by rw [HA.out]; simp
        obtain ⟨pj, hpj⟩ : ∃ pj, psz rs k = pj := ⟨_, rfl⟩
        rw [hpj] at hne ⊢
        clear hje hpj
        go_wp2_with fail
        go_ret2
        exact ⟨rfl, HBW.out⟩
end Go.Proofs.YtfgekdefnbohbaaDoor.U
