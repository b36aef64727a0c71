/- The script of calls: its loop, and what each law has to show of one call. UtextChecks answers true. Place, Index, Slice: the program's answers are the reference's, at every string and all numbers. -/
import Derived.Test.YtfgekdefnbohbaaDoorUAll8
import Derived.Test.YtfgekdefnbohbaaDoorUAll9
import Derived.Test.YtfgekdefnbohbaaDoorRRunes
import Derived.Test.YtfgekdefnbohbaaDoorRBytes
import Derived.Test.YtfgekdefnbohbaaDoorUAll7
namespace Go.Proofs.YtfgekdefnbohbaaDoor.U
open Go.RowKit Go.Proofs.YtfgekdefnbohbaaDoor.Txt
set_option linter.unusedVariables false
set_option linter.unusedSimpArgs false
attribute [local go_sem] frozen?_alloc_cells

/-- What the calls lean on: the tables, and the library's two errors. -/
structure EnvU (w : World) : Prop where
  bars : Bars w
  tz : Tz16 w
  walks : Walks w
  syn : ∃ ev, w.cell? ⟨3, 0, none⟩ = some ev ∧ (ev = .nilIface ∨ ∃ te pe, ev = .iface te pe)
theorem EnvU.below {w w' : World} (h : EnvU w) (hb : Below w.heap.size w w') : EnvU w' :=
  ⟨h.bars.below hb, h.tz.below hb, h.walks.below hb, by obtain ⟨ev, h1, h2⟩ := h.syn; exact ⟨ev, cell_below hb h1, h2⟩⟩
/-- One call of a script. -/
structure OpV where
  kind : Int
  s : ByteArray
  t : ByteArray
  a : Int
  b : Int
def OpV.val (o : OpV) : Value := .agg #[.int .i64 o.kind, .string o.s, .string o.t, .int .i64 o.a, .int .i64 o.b]
/-- A call that is small enough. -/
structure OpV.Small (o : OpV) : Prop where
  s : o.s.size ≤ 1048576
  t : o.t.size ≤ 1048576
  a0 : -9223372036854775808 ≤ o.a
  a1 : o.a ≤ 9223372036854775807
  b0 : -9223372036854775808 ≤ o.b
  b1 : o.b ≤ 9223372036854775807
def Script (w : World) (A : Option Addr) (os : List OpV) : Prop := 0 < os.length → ∃ b off, A = some ⟨b, off, none⟩ ∧ ∀ i (h : i < os.length),
  w.cell? ⟨b, off + i * 5, none⟩ = some (.int .i64 os[i].kind) ∧ w.cell? ⟨b, off + i * 5 + 1, none⟩ = some (.string os[i].s) ∧ w.cell? ⟨b, off + i * 5 + 2, none⟩ = some (.string os[i].t) ∧ w.cell? ⟨b, off + i * 5 + 3, none⟩ = some (.int .i64 os[i].a) ∧ w.cell? ⟨b, off + i * 5 + 4, none⟩ = some (.int .i64 os[i].b)
theorem Script.below {w w' : World} {A : Option Addr} {os : List OpV} (h : Script w A os) (hb : Below w.heap.size w w') : Script w' A os := fun h0 => by
  obtain ⟨b, off, e, hc⟩ := h h0
  refine ⟨b, off, e, fun i hi => ?_⟩
  obtain ⟨c0, c1, c2, c3, c4⟩ := hc i hi
  exact ⟨cell_below hb c0, cell_below hb c1, cell_below hb c2, cell_below hb c3, cell_below hb c4⟩
/-- What a law has to show of one call. -/
def PlaysWell (o : OpV) : Prop := ∀ w, EnvU w → Calls Tryd.prog 32 #[.agg #[.int .i64 o.kind, .string o.s, .string o.t, .int .i64 o.a, .int .i64 o.b]] w fun e w' => e = .returned (.bool true) ∧ Below w.heap.size w w'

set_option maxRecDepth 100000 in
set_option maxHeartbeats 4000000 in
theorem kinds_any (A : Option Addr) (c : Nat) (os : List OpV) (lo hi : Int) (w : World) (hS : Script w A os) (hn : os.length ≤ 1048576) (hE : EnvU w) (hp : ∀ o ∈ os, lo ≤ o.kind → o.kind ≤ hi → PlaysWell o) :
    Calls Tryd.prog 21 #[.slice A os.length c, .int .i64 lo, .int .i64 hi] w fun e w' => e = .returned (.bool true) ∧ Below w.heap.size w w' := by
  have HS := Lib.hid hS
  have HE := Lib.hid hE
  have HP := Lib.hid hp
  obtain ⟨n, hnn⟩ : ∃ n, os.length = n := ⟨_, rfl⟩
  rw [hnn] at hn ⊢
  have HN := Lib.hid hnn
  clear hS hE hp hnn
  go_enter Tryd.func21, Tryd.ntmps21
  go_wp2_with fail
  refine (fixed_any _ HE.out.bars HE.out.tz).mono ?_
  rintro e w1 ⟨rfl, hb1⟩
  have HB1 := Lib.hid hb1
  clear hb1
  go_wp2_with fail
  go_loopw [7, 8] (fun ok i wr => ∃ j : Nat, ok = .bool true ∧ i = .int .i64 j ∧ j ≤ n ∧ Below w.heap.size w wr) (fun _ i _ => n - (intOf i).toNat)
  case atStart => exact ⟨0, rfl, rfl, Nat.zero_le _, HB1.out⟩
  case round =>
    obtain ⟨j, rfl, rfl, hj, hb⟩ := hrel
    have HB := Lib.hid hb
    clear hb
    by_cases hlt : j < n
    · have hjo : j < os.length := by have := HN.out; omega
      obtain ⟨ab, ao, rfl, hc⟩ := (HS.out.below HB.out) (by omega)
      obtain ⟨c0, c1, c2, c3, c4⟩ := hc j hjo
      have hp := HP.out os[j] (List.getElem_mem hjo)
      obtain ⟨o, ho⟩ : ∃ o, os[j] = o := ⟨_, rfl⟩
      rw [ho] at c0 c1 c2 c3 c4 hp
      obtain ⟨k, s, t, a, b⟩ := o
      simp only at c0 c1 c2 c3 c4 hp
      have HLT := Lib.hid hlt
      clear hc ho hjo
      by_cases h1 : lo ≤ k
      · by_cases h2 : k ≤ hi
        · have HP2 := Lib.hid (hp h1 h2)
          clear hp
          go_wp2_with fail
          refine (HP2.out _ (HE.out.below HB.out)).mono ?_
          rintro e w2 ⟨rfl, hb2⟩
          have HB2 := Lib.hid (HB.out.trans (hb2.mono HB.out.size))
          clear hb2
          go_wp2_with fail
          go_roundw
          case rel => exact ⟨j + 1, rfl, by go_num, HLT.out, HB2.out⟩
          case measure => have := HLT.out; simp [intOf]; omega
        · clear hp
          go_wp2_with fail
          go_roundw
          case rel => exact ⟨j + 1, rfl, by go_num, HLT.out, HB.out⟩
          case measure => have := HLT.out; simp [intOf]; omega
      · clear hp
        go_wp2_with fail
        go_roundw
        case rel => exact ⟨j + 1, rfl, by go_num, HLT.out, HB.out⟩
        case measure => have := HLT.out; simp [intOf]; omega
    · go_wp2_with fail
      go_ret
      exact ⟨rfl, HB.out⟩

/-! ### Check -/
/-- Check's answer: runes, the first fault's byte, its error. -/
def chkN (rs : List Int) (t : List UInt8) : Int × Int × Int := if t = [] then ((rs.length : Int), 0, 0) else (0, ((enc rs).length : Int), (fault t : Int))
theorem chk_halves {S : ByteArray} {rs : List Int} {t : List UInt8} (h : Halves S rs t) : ((chk S.data.toList).1 : Int) = (chkN rs t).1 ∧ ((chk S.data.toList).2.1 : Int) = (chkN rs t).2.1 ∧ ((chk S.data.toList).2.2 : Int) = (chkN rs t).2.2 := by
  unfold chkN
  by_cases ht : t = []
  · rw [if_pos ht, h.eq, ht, List.append_nil, chk_text rs h.ok]; exact ⟨rfl, rfl, rfl⟩
  · rw [if_neg ht, h.eq, chk_fault rs h.ok t ht (by rcases h.flt with h1 | h1; exact absurd h1 ht; exact h1.2)]; exact ⟨rfl, rfl, rfl⟩
theorem Check_halves (S : ByteArray) (rs : List Int) (t : List UInt8) (w : World) (h : Halves S rs t) (hs : S.size ≤ 4398046511104) (hg : Bars w) :
    Calls Tryd.prog 16 #[.string S] w fun e w' => e = .returned (.tuple #[.int .i64 (chkN rs t).1, .int .i64 (chkN rs t).2.1, .int .i64 (chkN rs t).2.2]) ∧ Below w.heap.size w w' :=
  check_at S _ _ _ w (by unfold maxLen; omega) hg (chk_halves h)
set_option maxRecDepth 100000 in
theorem RefCheck_any (S : ByteArray) (rs : List Int) (t : List UInt8) (w : World) (h : Halves S rs t) (hs : S.size ≤ 4398046511104) :
    Calls Tryd.prog 38 #[.string S] w fun e w' => e = .returned (.tuple #[.int .i64 (chkN rs t).1, .int .i64 (chkN rs t).2.1, .int .i64 (chkN rs t).2.2]) ∧ Below w.heap.size w w' := by
  have HC := Lib.hid (Runes_any S rs t w h hs)
  clear h
  go_enter Tryd.func38, Tryd.ntmps38
  go_wp2_with fail
  refine HC.out.mono ?_
  rintro e w1 ⟨hp, hb1⟩
  have HB := Lib.hid hb1
  clear hb1
  rcases hp with ⟨ht, v, rfl, hown⟩ | ⟨ht, rfl⟩
  · obtain ⟨A, c, rfl, _, _⟩ := own_ints hown
    have E := Lib.hid (show chkN rs t = ((rs.length : Int), 0, 0) from if_pos ht)
    clear hown ht
    go_wp2_with fail
    go_ret3
    exact ⟨by rw [E.out]; rfl, HB.out⟩
  · have E := Lib.hid (show chkN rs t = (0, ((enc rs).length : Int), (fault t : Int)) from if_neg ht)
    clear ht
    go_wp2_with fail
    go_ret3
    exact ⟨by rw [E.out]; rfl, HB.out⟩
set_option maxRecDepth 100000 in
set_option maxHeartbeats 4000000 in
theorem plays_check (S T : ByteArray) (a b : Int) (hs : S.size ≤ 1048576) : PlaysWell ⟨1, S, T, a, b⟩ := by
  intro w hE
  obtain ⟨rs, t, h⟩ := halves S
  have H := Lib.hid h
  have HE := Lib.hid hE
  have HS := Lib.hid (show S.size ≤ 4398046511104 by omega)
  clear h hE hs
  go_enter Tryd.func32, Tryd.ntmps32
  go_wp2_with fail
  have HB0 := Lib.hid (show Below w.heap.size w (w.alloc (.cells #[.int .i64 1, .string S, .string T, .int .i64 a, .int .i64 b] 67)) from (Below.refl _ _).alloc (Nat.le_refl _) _)
  have d1 : (w.alloc (.cells #[.int .i64 1, .string S, .string T, .int .i64 a, .int .i64 b] 67)).cell? ⟨w.heap.size, 1, none⟩ = some (.string S) := by rw [Lib.cell_of_heap (heap_alloc_new w _)]; rfl
  refine (Check_halves S rs t _ H.out HS.out (HE.out.below HB0.out).bars).mono ?_
  rintro e w1 ⟨rfl, hb1⟩
  have HB1 := Lib.hid (HB0.out.trans (hb1.mono HB0.out.size))
  have d2 := cell_below hb1 d1
  obtain ⟨x1, hx1⟩ : ∃ x, (chkN rs t).1 = x := ⟨_, rfl⟩
  obtain ⟨x2, hx2⟩ : ∃ x, (chkN rs t).2.1 = x := ⟨_, rfl⟩
  obtain ⟨x3, hx3⟩ : ∃ x, (chkN rs t).2.2 = x := ⟨_, rfl⟩
  have HX := Lib.hid (And.intro hx1 (And.intro hx2 hx3))
  rw [hx1, hx2, hx3]
  clear hb1 d1 hx1 hx2 hx3
  go_wp2_with fail
  refine (RefCheck_any S rs t _ H.out HS.out).mono ?_
  rintro e w2 ⟨rfl, hb2⟩
  have HB2 := Lib.hid (HB1.out.trans (hb2.mono HB1.out.size))
  rw [HX.out.1, HX.out.2.1, HX.out.2.2]
  clear hb2 d2
  go_wp2_with fail
  go_ret
  exact ⟨rfl, HB2.out⟩
end Go.Proofs.YtfgekdefnbohbaaDoor.U

namespace Go.Proofs.YtfgekdefnbohbaaDoor.U
open Go.RowKit Go.Proofs.YtfgekdefnbohbaaDoor.Txt
set_option linter.unusedVariables false
theorem checks_walk (w : World) (A : Option Addr) (c : Nat) (os : List OpV) (hS : Script w A os) (hn : os.length ≤ 1048576) (hsm : ∀ o ∈ os, o.Small) (hE : EnvU w) :
    Calls Tryd.prog 6 #[.slice A os.length c] w fun e w' => e = .returned (.bool true) ∧ Below w.heap.size w w' := by
  have HK := Lib.hid (kinds_any A c os 1 1 w hS hn hE fun o ho h1 h2 => by
    have hs := (hsm o ho).s
    obtain ⟨k, s, t, a, b⟩ := o
    simp only at h1 h2 hs
    obtain rfl : k = 1 := by omega
    exact plays_check s t a b hs)
  clear hS hsm hE
  go_enter Tryd.func6, Tryd.ntmps6
  go_wp2_with fail
  refine HK.out.mono ?_
  rintro e w1 ⟨rfl, hb⟩
  have HB := Lib.hid hb
  clear hb
  go_wp2_with fail
  go_ret
  exact ⟨rfl, HB.out⟩
end Go.Proofs.YtfgekdefnbohbaaDoor.U

namespace Go.Proofs.YtfgekdefnbohbaaDoor.U
open Go.RowKit Go.Proofs.YtfgekdefnbohbaaDoor.Txt
set_option linter.unusedVariables false
set_option linter.unusedSimpArgs false
attribute [local go_sem] frozen?_alloc_cells

theorem fault_or (t : List UInt8) : (fault t : Int) = 10 ∨ (fault t : Int) = 11 := by
  unfold fault; split
  · exact .inl rfl
  · exact .inr rfl
theorem fault_ne {t : List UInt8} {f : Int} (h : (fault t : Int) = f) : (f != 0) = true := by
  rcases fault_or t with e | e <;> (rw [← h, e]; rfl)
/-- What Place answers. -/
inductive PlaceIs (rs : List Int) (t : List UInt8) (a : Int) : Int → Int → Prop where
  | fault (f : Int) (ht : t ≠ []) (hf : (fault t : Int) = f) : PlaceIs rs t a 0 f
  | out (ht : t = []) (ha : a < 0 ∨ rs.length < a) : PlaceIs rs t a 0 12
  | ok (k p : Nat) (ht : t = []) (ha : a = k) (hk : k ≤ rs.length) (hp : psz rs k = p) : PlaceIs rs t a p 0
theorem place_is (rs : List Int) (t : List UInt8) (a : Int) : ∃ x e, PlaceIs rs t a x e := by
  by_cases ht : t = []
  · by_cases ha : a < 0 ∨ rs.length < a
    · exact ⟨_, _, .out ht ha⟩
    · exact ⟨_, _, .ok a.toNat _ ht (by omega) (by omega) rfl⟩
  · exact ⟨_, _, .fault _ ht rfl⟩
/-- What Index answers. -/
inductive IndexIs (rs : List Int) (t : List UInt8) (a : Int) : Int → Int → Prop where
  | fault (f : Int) (ht : t ≠ []) (hf : (fault t : Int) = f) : IndexIs rs t a 0 f
  | out (ht : t = []) (ha : ∀ k, k ≤ rs.length → ((psz rs k : Nat) : Int) ≠ a) : IndexIs rs t a 0 12
  | ok (k : Nat) (ht : t = []) (ha : a = (psz rs k : Nat)) (hk : k ≤ rs.length) : IndexIs rs t a k 0
theorem index_is (rs : List Int) (t : List UInt8) (a : Int) : ∃ x e, IndexIs rs t a x e := by
  by_cases ht : t = []
  · by_cases ha : ∃ k, k ≤ rs.length ∧ ((psz rs k : Nat) : Int) = a
    · obtain ⟨k, hk, ha⟩ := ha
      exact ⟨_, _, .ok k ht ha.symm hk⟩
    · exact ⟨_, _, .out ht fun k hk he => ha ⟨k, hk, he⟩⟩
  · exact ⟨_, _, .fault _ ht rfl⟩
theorem psz_inj (rs : List Int) {j k : Nat} (hj : j ≤ rs.length) (hk : k ≤ rs.length) (h : psz rs j = psz rs k) : j = k := by
  rcases Nat.lt_trichotomy j k with h1 | h1 | h1
  · have := psz_mono rs j k h1 hk; omega
  · exact h1
  · have := psz_mono rs k j h1 hj; omega
theorem len_bound {S : ByteArray} {rs : List Int} {t : List UInt8} (h : Halves S rs t) (hs : S.size ≤ 1048576) : rs.length ≤ 1048576 ∧ (enc rs).length ≤ 1048576 := by
  have h1 := h.len
  have h2 := h.size
  omega
/-- An error, a fault's: what Check hands on. -/
theorem chkN_fault {rs : List Int} {t : List UInt8} {f : Int} (ht : t ≠ []) (hf : (fault t : Int) = f) : chkN rs t = (0, ((enc rs).length : Int), f) := by
  unfold chkN; rw [if_neg ht, hf]
theorem chkN_text (rs : List Int) : chkN rs [] = ((rs.length : Int), 0, 0) := if_pos rfl

set_option maxRecDepth 100000 in
set_option maxHeartbeats 4000000 in
theorem Place_is (S : ByteArray) (rs : List Int) (t : List UInt8) (a x e : Int) (w : World) (h : Halves S rs t) (hs : S.size ≤ 1048576) (ha0 : -9223372036854775808 ≤ a) (ha1 : a ≤ 9223372036854775807) (hp : PlaceIs rs t a x e) (hg : Bars w) :
    Calls Tryd.prog 31 #[.string S, .int .i64 a] w fun e' w' => e' = .returned (.tuple #[.int .i64 x, .int .i64 e]) ∧ Below w.heap.size w w' := by
  cases hp with
  | fault f ht hf =>
    have hC := Check_halves S rs t w h (by omega) hg
    rw [chkN_fault ht hf] at hC
    have b := fault_ne hf
    obtain ⟨p, hp⟩ : ∃ p : Int, ((enc rs).length : Int) = p := ⟨_, rfl⟩
    rw [hp] at hC
    have HC := Lib.hid hC
    clear hC hp hf ht h hg
    go_enter Tryd.func31, Tryd.ntmps31
    go_wp2_with fail
    refine HC.out.mono ?_
    rintro e w1 ⟨rfl, hb1⟩
    have HB := Lib.hid hb1
    clear hb1
    go_wp2_with fail
    go_ret2
    exact ⟨rfl, HB.out⟩
  | out ht ha =>
    subst ht
    exact place_out S rs a w (h.text (by omega)) ha ha0 ha1 hg
  | ok k p ht ha hk hp =>
    subst ht ha hp
    exact place_in S rs k w (h.text (by omega)) hk hg
set_option maxRecDepth 100000 in
set_option maxHeartbeats 4000000 in
theorem Index_is (S : ByteArray) (rs : List Int) (t : List UInt8) (a x e : Int) (w : World) (h : Halves S rs t) (hs : S.size ≤ 1048576) (ha0 : -9223372036854775808 ≤ a) (ha1 : a ≤ 9223372036854775807) (hp : IndexIs rs t a x e) (hg : Bars w) :
    Calls Tryd.prog 40 #[.string S, .int .i64 a] w fun e' w' => e' = .returned (.tuple #[.int .i64 x, .int .i64 e]) ∧ Below w.heap.size w w' := by
  cases hp with
  | fault f ht hf =>
    have hC := Check_halves S rs t w h (by omega) hg
    rw [chkN_fault ht hf] at hC
    have b := fault_ne hf
    obtain ⟨p, hp⟩ : ∃ p : Int, ((enc rs).length : Int) = p := ⟨_, rfl⟩
    rw [hp] at hC
    have HC := Lib.hid hC
    clear hC hp hf ht h hg
    go_enter Tryd.func40, Tryd.ntmps40
    go_wp2_with fail
    refine HC.out.mono ?_
    rintro e w1 ⟨rfl, hb1⟩
    have HB := Lib.hid hb1
    clear hb1
    go_wp2_with fail
    go_ret2
    exact ⟨rfl, HB.out⟩
  | out ht ha =>
    subst ht
    exact index_out S rs a w (h.text (by omega)) ha ha0 ha1 hg
  | ok k ht ha hk =>
    subst ht ha
    exact index_at S rs k w (h.text (by omega)) hk hg

set_option maxRecDepth 100000 in
set_option maxHeartbeats 4000000 in
theorem RefPlace_is (S : ByteArray) (rs : List Int) (t : List UInt8) (a x e : Int) (w : World) (h : Halves S rs t) (hs : S.size ≤ 1048576) (ha0 : -9223372036854775808 ≤ a) (ha1 : a ≤ 9223372036854775807) (hp : PlaceIs rs t a x e) :
    Calls Tryd.prog 39 #[.string S, .int .i64 a] w fun e' w' => e' = .returned (.tuple #[.int .i64 x, .int .i64 e]) ∧ Below w.heap.size w w' := by
  have H := Lib.hid h
  have HS := Lib.hid (show S.size ≤ 4398046511104 by omega)
  have hlen := (len_bound h hs).1
  have henc := (len_bound h hs).2
  clear h hs
  cases hp with
  | fault f ht hf =>
    have b := fault_ne hf
    have HF := Lib.hid hf
    have HT := Lib.hid ht
    clear hf ht
    go_enter Tryd.func39, Tryd.ntmps39
    go_wp2_with fail
    refine (Runes_any S rs t _ H.out HS.out).mono ?_
    rintro e w1 ⟨hp, hb1⟩
    have HB := Lib.hid hb1
    clear hb1
    rcases hp with ⟨ht2, _⟩ | ⟨_, rfl⟩
    · exact absurd ht2 HT.out
    rw [HF.out]
    go_wp2_with fail
    go_ret2
    exact ⟨rfl, HB.out⟩
  | out ht ha =>
    subst ht
    obtain ⟨n, hn⟩ : ∃ n, rs.length = n := ⟨_, rfl⟩
    rw [hn] at hlen ha
    have HN := Lib.hid hn
    clear hn
    by_cases hneg : a < 0
    · clear ha
      go_enter Tryd.func39, Tryd.ntmps39
      go_wp2_with fail
      refine (Runes_any S rs [] _ H.out HS.out).mono ?_
      rintro e w1 ⟨hp, hb1⟩
      have HB := Lib.hid hb1
      clear hb1
      rcases hp with ⟨_, v, rfl, hown⟩ | ⟨ht2, _⟩
      case inr => exact absurd rfl ht2
      obtain ⟨A, c, rfl, hcap, hcell⟩ := own_ints hown
      have HCE := Lib.hid hcell
      have HCAP := Lib.hid hcap
      rw [HN.out]
      clear hown hcap hcell
      go_wp2_with fail
      go_ret2
      exact ⟨rfl, HB.out⟩
    · have hbig : (n : Int) < a := by omega
      clear ha
      go_enter Tryd.func39, Tryd.ntmps39
      go_wp2_with fail
      refine (Runes_any S rs [] _ H.out HS.out).mono ?_
      rintro e w1 ⟨hp, hb1⟩
      have HB := Lib.hid hb1
      clear hb1
      rcases hp with ⟨_, v, rfl, hown⟩ | ⟨ht2, _⟩
      case inr => exact absurd rfl ht2
      obtain ⟨A, c, rfl, hcap, hcell⟩ := own_ints hown
      have HCE := Lib.hid hcell
      have HCAP := Lib.hid hcap
      rw [HN.out]
      clear hown hcap hcell
      go_wp2_with fail
      go_ret2
      exact ⟨rfl, HB.out⟩
  | ok k p ht ha hk hp =>
    subst ht ha
    have HP := Lib.hid hp
    have HK := Lib.hid hk
    obtain ⟨n, hn⟩ : ∃ n, rs.length = n := ⟨_, rfl⟩
    rw [hn] at hlen hk
    have HN := Lib.hid hn
    have hneg : ¬ (k : Int) < 0 := by omega
    have hbig : ¬ n < k := by omega
    clear hn hp
    go_enter Tryd.func39, Tryd.ntmps39
    go_wp2_with fail
    refine (Runes_any S rs [] _ H.out HS.out).mono ?_
    rintro e w1 ⟨hp, hb1⟩
    have HB := Lib.hid hb1
    clear hb1
    rcases hp with ⟨_, v, rfl, hown⟩ | ⟨ht2, _⟩
    case inr => exact absurd rfl ht2
    obtain ⟨A, c, rfl, hcap, hcell⟩ := own_ints hown
    have HCE := Lib.hid hcell
    have HCAP := Lib.hid hcap
    rw [HN.out]
    clear hown hcap hcell
    go_wp2_with fail
    clear hneg hbig
    go_loopw [9, 10] (fun m i wr => ∃ j : Nat, i = .int .i64 j ∧ m = .int .i64 (psz rs j : Nat) ∧ j ≤ k ∧ Below w.heap.size w wr ∧ Below w1.heap.size w1 wr) (fun _ i _ => k - (intOf i).toNat)
    case atStart => exact ⟨0, rfl, by rw [psz_zero]; rfl, Nat.zero_le _, HB.out, Below.refl _ _⟩
    case round =>
      obtain ⟨j, rfl, rfl, hj, hb, hb2⟩ := hrel
      have HBW := Lib.hid hb
      have HB2 := Lib.hid hb2
      clear hb hb2
      by_cases hlt : j < k
      · have hjl : j < rs.length := by have := HK.out; omega
        obtain ⟨ad, rfl, hc⟩ := HCE.out (by omega)
        have d0 := cell_below HB2.out (hc j hjl)
        have hge : rs.getD j 0 = rs[j] := by simp [List.getD, hjl]
        have hr1 := H.out.ok _ (List.getElem_mem hjl)
        rw [← hge] at hr1
        have hst := psz_succ rs j hjl
        have hle := psz_le rs j
        have hrb := txt_le hr1.1
        have hjn : j < n := by have := HN.out; omega
        obtain ⟨r, hr⟩ : ∃ r, rs.getD j 0 = r := ⟨_, rfl⟩
        rw [hr] at d0 hr1 hst hrb
        obtain ⟨x, rfl⟩ : ∃ x : Nat, r = (x : Int) := ⟨r.toNat, by omega⟩
        have hbr : bytesR x = encB (x : Int) := bytesR_enc (x : Int) hr1.1
        have hw := encB_len (x : Int)
        have HBR := Lib.hid hbr
        have hx1 : x ≤ 1114111 := by omega
        obtain ⟨q, hq⟩ : ∃ q, encB (x : Int) = q := ⟨_, rfl⟩
        rw [hq] at hst hw HBR
        obtain ⟨pj, hpj⟩ : ∃ pj, psz rs j = pj := ⟨_, rfl⟩
        rw [hpj] at hst hle ⊢
        have HST := Lib.hid hst
        have hpb : pj ≤ 1048576 := by omega
        obtain ⟨L, hL⟩ : ∃ L, q.length = L := ⟨_, rfl⟩
        rw [hL] at hw HST
        have hL4 : L ≤ 4 := hw.2
        have HL := Lib.hid hL
        have HLT := Lib.hid hlt
        clear hc hge hr hr1 hst hle hrb hbr hq hpj hw hL hjl
        go_wp2_with fail
        refine (Bytes_any x _ hx1).mono ?_
        rintro e w2 ⟨rfl, rfl⟩
        rw [HBR.out, HL.out]
        go_wp2_with fail
        go_roundw
        case rel => exact ⟨j + 1, by go_num, by rw [HST.out]; go_num, HLT.out, HBW.out.alloc HBW.out.size _, HB2.out.alloc HB2.out.size _⟩
        case measure => have := HLT.out; simp [intOf]; omega
      · have hjk : j = k := by omega
        have HE := Lib.hid (show psz rs j = p by rw [hjk]; exact HP.out)
        clear hjk
        go_wp2_with fail
        go_ret2
        exact ⟨by rw [← HE.out]; rfl, HBW.out⟩

set_option maxRecDepth 100000 in
set_option maxHeartbeats 4000000 in
theorem RefIndex_is (S : ByteArray) (rs : List Int) (t : List UInt8) (a x e : Int) (w : World) (h : Halves S rs t) (hs : S.size ≤ 1048576) (ha0 : -9223372036854775808 ≤ a) (ha1 : a ≤ 9223372036854775807) (hp : IndexIs rs t a x e) :
    Calls Tryd.prog 41 #[.string S, .int .i64 a] w fun e' w' => e' = .returned (.tuple #[.int .i64 x, .int .i64 e]) ∧ Below w.heap.size w w' := by
  have H := Lib.hid h
  have HS := Lib.hid (show S.size ≤ 4398046511104 by omega)
  have hlen := (len_bound h hs).1
  have henc := (len_bound h hs).2
  clear h hs
  cases hp with
  | fault f ht hf =>
    have b := fault_ne hf
    have HF := Lib.hid hf
    have HT := Lib.hid ht
    clear hf ht
    go_enter Tryd.func41, Tryd.ntmps41
    go_wp2_with fail
    refine (Runes_any S rs t _ H.out HS.out).mono ?_
    rintro e w1 ⟨hp, hb1⟩
    have HB := Lib.hid hb1
    clear hb1
    rcases hp with ⟨ht2, _⟩ | ⟨_, rfl⟩
    · exact absurd ht2 HT.out
    rw [HF.out]
    go_wp2_with fail
    go_ret2
    exact ⟨rfl, HB.out⟩
  | out ht ha =>
    subst ht
    obtain ⟨n, hn⟩ : ∃ n, rs.length = n := ⟨_, rfl⟩
    rw [hn] at hlen ha
    have HN := Lib.hid hn
    have HA := Lib.hid ha
    clear hn ha
    go_enter Tryd.func41, Tryd.ntmps41
    go_wp2_with fail
    refine (Runes_any S rs [] _ H.out HS.out).mono ?_
    rintro e w1 ⟨hp, hb1⟩
    have HB := Lib.hid hb1
    clear hb1
    rcases hp with ⟨_, v, rfl, hown⟩ | ⟨ht2, _⟩
    case inr => exact absurd rfl ht2
    obtain ⟨A, c, rfl, hcap, hcell⟩ := own_ints hown
    have HCE := Lib.hid hcell
    have HCAP := Lib.hid hcap
    rw [HN.out]
    clear hown hcap hcell
    go_wp2_with fail
    go_loopw [9, 10] (fun m i wr => ∃ j : Nat, i = .int .i64 j ∧ m = .int .i64 (psz rs (min j n) : Nat) ∧ j ≤ n + 1 ∧ Below w.heap.size w wr ∧ Below w1.heap.size w1 wr) (fun _ i _ => n + 1 - (intOf i).toNat)
    case atStart => exact ⟨0, rfl, by rw [Nat.zero_min, psz_zero]; rfl, Nat.zero_le _, HB.out, Below.refl _ _⟩
    case round =>
      obtain ⟨j, rfl, rfl, hj, hb, hb2⟩ := hrel
      have HBW := Lib.hid hb
      have HB2 := Lib.hid hb2
      clear hb hb2
      by_cases hjn : j ≤ n
      · have hne : (((psz rs j : Nat) : Int) == a) = false := by have := HA.out j hjn; simp [this]
        by_cases hlt : j < n
        · have hjl : j < rs.length := by have := HN.out; omega
          obtain ⟨ad, rfl, hc⟩ := HCE.out (by omega)
          have d0 := cell_below HB2.out (hc j hjl)
          have hge : rs.getD j 0 = rs[j] := by simp [List.getD, hjl]
          have hr1 := H.out.ok _ (List.getElem_mem hjl)
          rw [← hge] at hr1
          have hst := psz_succ rs j hjl
          have hle := psz_le rs j
          have hrb := txt_le hr1.1
          obtain ⟨r, hr⟩ : ∃ r, rs.getD j 0 = r := ⟨_, rfl⟩
          rw [hr] at d0 hr1 hst hrb
          obtain ⟨x, rfl⟩ : ∃ x : Nat, r = (x : Int) := ⟨r.toNat, by omega⟩
          have hbr : bytesR x = encB (x : Int) := bytesR_enc (x : Int) hr1.1
          have hw := encB_len (x : Int)
          have HBR := Lib.hid hbr
          have hx1 : x ≤ 1114111 := by omega
          obtain ⟨q, hq⟩ : ∃ q, encB (x : Int) = q := ⟨_, rfl⟩
          rw [hq] at hst hw HBR
          rw [Nat.min_eq_left (by omega)]
          have HM1 := Lib.hid (show min (j + 1) n = j + 1 from Nat.min_eq_left (by omega))
          obtain ⟨pj, hpj⟩ : ∃ pj, psz rs j = pj := ⟨_, rfl⟩
          rw [hpj] at hst hle hne ⊢
          have HST := Lib.hid hst
          have hpb : pj ≤ 1048576 := by omega
          obtain ⟨L, hL⟩ : ∃ L, q.length = L := ⟨_, rfl⟩
          rw [hL] at hw HST
          have hL4 : L ≤ 4 := hw.2
          have HL := Lib.hid hL
          have HLT := Lib.hid hlt
          clear hc hge hr hr1 hst hle hrb hbr hq hpj hw hL hjl
          go_wp2_with fail
          refine (Bytes_any x _ hx1).mono ?_
          rintro e w2 ⟨rfl, rfl⟩
          rw [HBR.out, HL.out]
          go_wp2_with fail
          go_roundw
          case rel => exact ⟨j + 1, by go_num, by rw [HM1.out, HST.out]; go_num, by omega, HBW.out.alloc HBW.out.size _, HB2.out.alloc HB2.out.size _⟩
          case measure => simp [intOf]; omega
        · have hje : j = n := by omega
          rw [Nat.min_eq_left hjn]
          have HM := Lib.hid (show min (j + 1) n = j by omega)
          obtain ⟨pj, hpj⟩ : ∃ pj, psz rs j = pj := ⟨_, rfl⟩
          rw [hpj] at hne ⊢
          have HPJ := Lib.hid hpj
          have HJN := Lib.hid hjn
          clear hje hpj
          go_wp2_with fail
          go_roundw
          case rel => exact ⟨j + 1, by go_num, by rw [HM.out, HPJ.out], by have := HJN.out; omega, HBW.out, HB2.out⟩
          case measure => have := HJN.out; simp [intOf]; omega
      · go_wp2_with fail
        go_ret2
        exact ⟨rfl, HBW.out⟩
  | ok k ht ha hk =>
    subst ht
    obtain ⟨n, hn⟩ : ∃ n, rs.length = n := ⟨_, rfl⟩
    have HUN := Lib.hid (show ∀ j, j < k → ((psz rs j : Nat) : Int) ≠ a from fun j hj he => by
      have := psz_mono rs j k hj hk
      rw [ha] at he
      omega)
    rw [hn] at hlen hk
    have HN := Lib.hid hn
    have HA := Lib.hid ha
    clear hn ha
    go_enter Tryd.func41, Tryd.ntmps41
    go_wp2_with fail
    refine (Runes_any S rs [] _ H.out HS.out).mono ?_
    rintro e w1 ⟨hp, hb1⟩
    have HB := Lib.hid hb1
    clear hb1
    rcases hp with ⟨_, v, rfl, hown⟩ | ⟨ht2, _⟩
    case inr => exact absurd rfl ht2
    obtain ⟨A, c, rfl, hcap, hcell⟩ := own_ints hown
    have HCE := Lib.hid hcell
    have HCAP := Lib.hid hcap
    rw [HN.out]
    clear hown hcap hcell
    go_wp2_with fail
    go_loopw [9, 10] (fun m i wr => ∃ j : Nat, i = .int .i64 j ∧ m = .int .i64 (psz rs (min j n) : Nat) ∧ j ≤ k ∧ Below w.heap.size w wr ∧ Below w1.heap.size w1 wr) (fun _ i _ => n + 1 - (intOf i).toNat)
    case atStart => exact ⟨0, rfl, by rw [Nat.zero_min, psz_zero]; rfl, Nat.zero_le _, HB.out, Below.refl _ _⟩
    case round =>
      obtain ⟨j, rfl, rfl, hj, hb, hb2⟩ := hrel
      have HBW := Lib.hid hb
      have HB2 := Lib.hid hb2
      clear hb hb2
      have hjn : j ≤ n := by omega
      by_cases hjk : j < k
      · have hne : (((psz rs j : Nat) : Int) == a) = false := by have := HUN.out j hjk; simp [this]
        have hlt : j < n := by omega
        have hjl : j < rs.length := by have := HN.out; omega
        obtain ⟨ad, rfl, hc⟩ := HCE.out (by omega)
        have d0 := cell_below HB2.out (hc j hjl)
        have hge : rs.getD j 0 = rs[j] := by simp [List.getD, hjl]
        have hr1 := H.out.ok _ (List.getElem_mem hjl)
        rw [← hge] at hr1
        have hst := psz_succ rs j hjl
        have hle := psz_le rs j
        have hrb := txt_le hr1.1
        obtain ⟨r, hr⟩ : ∃ r, rs.getD j 0 = r := ⟨_, rfl⟩
        rw [hr] at d0 hr1 hst hrb
        obtain ⟨x, rfl⟩ : ∃ x : Nat, r = (x : Int) := ⟨r.toNat, by omega⟩
        have hbr : bytesR x = encB (x : Int) := bytesR_enc (x : Int) hr1.1
        have hw := encB_len (x : Int)
        have HBR := Lib.hid hbr
        have hx1 : x ≤ 1114111 := by omega
        obtain ⟨q, hq⟩ : ∃ q, encB (x : Int) = q := ⟨_, rfl⟩
        rw [hq] at hst hw HBR
        rw [Nat.min_eq_left (by omega)]
        have HM1 := Lib.hid (show min (j + 1) n = j + 1 from Nat.min_eq_left (by omega))
        obtain ⟨pj, hpj⟩ : ∃ pj, psz rs j = pj := ⟨_, rfl⟩
        rw [hpj] at hst hle hne ⊢
        have HST := Lib.hid hst
        have hpb : pj ≤ 1048576 := by omega
        obtain ⟨L, hL⟩ : ∃ L, q.length = L := ⟨_, rfl⟩
        rw [hL] at hw HST
        have hL4 : L ≤ 4 := hw.2
        have HL := Lib.hid hL
        have HLT := Lib.hid hlt
        clear hc hge hr hr1 hst hle hrb hbr hq hpj hw hL hjl
        go_wp2_with fail
        refine (Bytes_any x _ hx1).mono ?_
        rintro e w2 ⟨rfl, rfl⟩
        rw [HBR.out, HL.out]
        go_wp2_with fail
        go_roundw
        case rel => exact ⟨j + 1, by go_num, by rw [HM1.out, HST.out]; go_num, by omega, HBW.out.alloc HBW.out.size _, HB2.out.alloc HB2.out.size _⟩
        case measure => simp [intOf]; omega
      · have hje : j = k := by omega
        rw [Nat.min_eq_left hjn, hje]
        have hne : (((psz rs k : Nat) : Int) == a) = true := by rw [HA.out]; simp
        obtain ⟨pj, hpj⟩ : ∃ pj, psz rs k = pj := ⟨_, rfl⟩
        rw [hpj] at hne ⊢
        clear hje hpj
        go_wp2_with fail
        go_ret2
        exact ⟨rfl, HBW.out⟩
end Go.Proofs.YtfgekdefnbohbaaDoor.U
