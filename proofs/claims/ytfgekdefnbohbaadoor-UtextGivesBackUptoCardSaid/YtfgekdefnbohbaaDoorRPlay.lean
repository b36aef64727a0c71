/- The script of calls: its loop, and what each law has to show of one call. -/
import Derived.Test.YtfgekdefnbohbaaDoorUFixed
import Derived.Test.YtfgekdefnbohbaaDoorUStep
import Derived.Test.YtfgekdefnbohbaaDoorRRunes
namespace Go.Proofs.YtfgekdefnbohbaaDoor.U
open Go.RowKit Go.Proofs.YtfgekdefnbohbaaDoor.Txt
set_option linter.unusedVariables false
set_option linter.unusedSimpArgs false
attribute [local go_sem] frozen?_alloc_cells

/-- What the calls lean on: the tables, and the library's two errors. -/
structure EnvU (w : World) : Prop where
  bars : Bars w
  tz : Tz16 w
  walks : Walks w
  syn : ∃ ev, w.cell? ⟨3, 0, none⟩ = some ev ∧ (ev = .nilIface ∨ ∃ te pe, ev = .iface te pe)
theorem EnvU.below {w w' : World} (h : EnvU w) (hb : Below w.heap.size w w') : EnvU w' :=
  ⟨h.bars.below hb, h.tz.below hb, h.walks.below hb, by obtain ⟨ev, h1, h2⟩ := h.syn; exact ⟨ev, cell_below hb h1, h2⟩⟩
/-- One call of a script. -/
structure OpV where
  kind : Int
  s : ByteArray
  t : ByteArray
  a : Int
  b : Int
def OpV.val (o : OpV) : Value := .agg #[.int .i64 o.kind, .string o.s, .string o.t, .int .i64 o.a, .int .i64 o.b]
/-- A call that is small enough. -/
structure OpV.Small (o : OpV) : Prop where
  s : o.s.size ≤ 1048576
  t : o.t.size ≤ 1048576
  a0 : -9223372036854775808 ≤ o.a
  a1 : o.a ≤ 9223372036854775807
  b0 : -9223372036854775808 ≤ o.b
  b1 : o.b ≤ 9223372036854775807
def Script (w : World) (A : Option Addr) (os : List OpV) : Prop := 0 < os.length → ∃ b off, A = some ⟨b, off, none⟩ ∧ ∀ i (h : i < os.length),
  w.cell? ⟨b, off + i * 5, none⟩ = some (.int .i64 os[i].kind) ∧ w.cell? ⟨b, off + i * 5 + 1, none⟩ = some (.string os[i].s) ∧ w.cell? ⟨b, off + i * 5 + 2, none⟩ = some (.string os[i].t) ∧ w.cell? ⟨b, off + i * 5 + 3, none⟩ = some (.int .i64 os[i].a) ∧ w.cell? ⟨b, off + i * 5 + 4, none⟩ = some (.int .i64 os[i].b)
theorem Script.below {w w' : World} {A : Option Addr} {os : List OpV} (h : Script w A os) (hb : Below w.heap.size w w') : Script w' A os := fun h0 => by
  obtain ⟨b, off, e, hc⟩ := h h0
  refine ⟨b, off, e, fun i hi => ?_⟩
  obtain ⟨c0, c1, c2, c3, c4⟩ := hc i hi
  exact ⟨cell_below hb c0, cell_below hb c1, cell_below hb c2, cell_below hb c3, cell_below hb c4⟩
/-- What a law has to show of one call. -/
def PlaysWell (o : OpV) : Prop := ∀ w, EnvU w → Calls Tryd.prog 32 #[.agg #[.int .i64 o.kind, .string o.s, .string o.t, .int .i64 o.a, .int .i64 o.b]] w fun e w' => e = .returned (.bool true) ∧ Below w.heap.size w w'

set_option maxRecDepth 100000 in
set_option maxHeartbeats 4000000 in
theorem kinds_any (A : Option Addr) (c : Nat) (os : List OpV) (lo hi : Int) (w : World) (hS : Script w A os) (hn : os.length ≤ 1048576) (hE : EnvU w) (hp : ∀ o ∈ os, lo ≤ o.kind → o.kind ≤ hi → PlaysWell o) :
    Calls Tryd.prog 21 #[.slice A os.length c, .int .i64 lo, .int .i64 hi] w fun e w' => e = .returned (.bool true) ∧ Below w.heap.size w w' := by
  have HS := Lib.hid hS
  have HE := Lib.hid hE
  have HP := Lib.hid hp
  obtain ⟨n, hnn⟩ : ∃ n, os.length = n := ⟨_, rfl⟩
  rw [hnn] at hn ⊢
  have HN := Lib.hid hnn
  clear hS hE hp hnn
  go_enter Tryd.func21, Tryd.ntmps21
  go_wp2_with fail
  refine (fixed_any _ HE.out.bars HE.out.tz).mono ?_
  rintro e w1 ⟨rfl, hb1⟩
  have HB1 := Lib.hid hb1
  clear hb1
  go_wp2_with fail
  go_loopw [7, 8] (fun ok i wr => ∃ j : Nat, ok = .bool true ∧ i = .int .i64 j ∧ j ≤ n ∧ Below w.heap.size w wr) (fun _ i _ => n - (intOf i).toNat)
  case atStart => exact ⟨0, rfl, rfl, Nat.zero_le _, HB1.out⟩
  case round =>
    obtain ⟨j, rfl, rfl, hj, hb⟩ := hrel
    have HB := Lib.hid hb
    clear hb
    by_cases hlt : j < n
    · have hjo : j < os.length := by have := HN.out; omega
      obtain ⟨ab, ao, rfl, hc⟩ := (HS.out.below HB.out) (by omega)
      obtain ⟨c0, c1, c2, c3, c4⟩ := hc j hjo
      have hp := HP.out os[j] (List.getElem_mem hjo)
      obtain ⟨o, ho⟩ : ∃ o, os[j] = o := ⟨_, rfl⟩
      rw [ho] at c0 c1 c2 c3 c4 hp
      obtain ⟨k, s, t, a, b⟩ := o
      simp only at c0 c1 c2 c3 c4 hp
      have HLT := Lib.hid hlt
      clear hc ho hjo
      by_cases h1 : lo ≤ k
      · by_cases h2 : k ≤ hi
        · have HP2 := Lib.hid (hp h1 h2)
          clear hp
          go_wp2_with fail
          refine (HP2.out _ (HE.out.below HB.out)).mono ?_
          rintro e w2 ⟨rfl, hb2⟩
          have HB2 := Lib.hid (HB.out.trans (hb2.mono HB.out.size))
          clear hb2
          go_wp2_with fail
          go_roundw
          case rel => exact ⟨j + 1, rfl, by go_num, HLT.out, HB2.out⟩
          case measure => have := HLT.out; simp [intOf]; omega
        · clear hp
          go_wp2_with fail
          go_roundw
          case rel => exact ⟨j + 1, rfl, by go_num, HLT.out, HB.out⟩
          case measure => have := HLT.out; simp [intOf]; omega
      · clear hp
        go_wp2_with fail
        go_roundw
        case rel => exact ⟨j + 1, rfl, by go_num, HLT.out, HB.out⟩
        case measure => have := HLT.out; simp [intOf]; omega
    · go_wp2_with fail
      go_ret
      exact ⟨rfl, HB.out⟩

/-! ### Check -/
/-- Check's answer: runes, the first fault's byte, its error. -/
def chkN (rs : List Int) (t : List UInt8) : Int × Int × Int := if t = [] then ((rs.length : Int), 0, 0) else (0, ((enc rs).length : Int), (fault t : Int))
theorem chk_halves {S : ByteArray} {rs : List Int} {t : List UInt8} (h : Halves S rs t) : ((chk S.data.toList).1 : Int) = (chkN rs t).1 ∧ ((chk S.data.toList).2.1 : Int) = (chkN rs t).2.1 ∧ ((chk S.data.toList).2.2 : Int) = (chkN rs t).2.2 := by
  unfold chkN
  by_cases ht : t = []
  · rw [if_pos ht, h.eq, ht, List.append_nil, chk_text rs h.ok]; exact ⟨rfl, rfl, rfl⟩
  · rw [if_neg ht, h.eq, chk_fault rs h.ok t ht (by rcases h.flt with h1 | h1; exact absurd h1 ht; exact h1.2)]; exact ⟨rfl, rfl, rfl⟩
theorem Check_halves (S : ByteArray) (rs : List Int) (t : List UInt8) (w : World) (h : Halves S rs t) (hs : S.size ≤ 4398046511104) (hg : Bars w) :
    Calls Tryd.prog 16 #[.string S] w fun e w' => e = .returned (.tuple #[.int .i64 (chkN rs t).1, .int .i64 (chkN rs t).2.1, .int .i64 (chkN rs t).2.2]) ∧ Below w.heap.size w w' :=
  check_at S _ _ _ w (by unfold maxLen; omega) hg (chk_halves h)
set_option maxRecDepth 100000 in
theorem RefCheck_any (S : ByteArray) (rs : List Int) (t : List UInt8) (w : World) (h : Halves S rs t) (hs : S.size ≤ 4398046511104) :
    Calls Tryd.prog 38 #[.string S] w fun e w' => e = .returned (.tuple #[.int .i64 (chkN rs t).1, .int .i64 (chkN rs t).2.1, .int .i64 (chkN rs t).2.2]) ∧ Below w.heap.size w w' := by
  have HC := Lib.hid (Runes_any S rs t w h hs)
  clear h
  go_enter Tryd.func38, Tryd.ntmps38
  go_wp2_with fail
  refine HC.out.mono ?_
  rintro e w1 ⟨hp, hb1⟩
  have HB := Lib.hid hb1
  clear hb1
  rcases hp with ⟨ht, v, rfl, hown⟩ | ⟨ht, rfl⟩
  · obtain ⟨A, c, rfl, _, _⟩ := own_ints hown
    have E := Lib.hid (show chkN rs t = ((rs.length : Int), 0, 0) from if_pos ht)
    clear hown ht
    go_wp2_with fail
    go_ret3
    exact ⟨by rw [E.out]; rfl, HB.out⟩
  · have E := Lib.hid (show chkN rs t = (0, ((enc rs).length : Int), (fault t : Int)) from if_neg ht)
    clear ht
    go_wp2_with fail
    go_ret3
    exact ⟨by rw [E.out]; rfl, HB.out⟩
set_option maxRecDepth 100000 in
set_option maxHeartbeats 4000000 in
theorem plays_check (S T : ByteArray) (a b : Int) (hs : S.size ≤ 1048576) : PlaysWell ⟨1, S, T, a, b⟩ := by
  intro w hE
  obtain ⟨rs, t, h⟩ := halves S
  have H := Lib.hid h
  have HE := Lib.hid hE
  have HS := Lib.hid (show S.size ≤ 4398046511104 by omega)
  clear h hE hs
  go_enter Tryd.func32, Tryd.ntmps32
  go_wp2_with fail
  have HB0 := Lib.hid (show Below w.heap.size w (w.alloc (.cells #[.int .i64 1, .string S, .string T, .int .i64 a, .int .i64 b] 67)) from (Below.refl _ _).alloc (Nat.le_refl _) _)
  have d1 : (w.alloc (.cells #[.int .i64 1, .string S, .string T, .int .i64 a, .int .i64 b] 67)).cell? ⟨w.heap.size, 1, none⟩ = some (.string S) := by rw [Lib.cell_of_heap (heap_alloc_new w _)]; rfl
  refine (Check_halves S rs t _ H.out HS.out (HE.out.below HB0.out).bars).mono ?_
  rintro e w1 ⟨rfl, hb1⟩
  have HB1 := Lib.hid (HB0.out.trans (hb1.mono HB0.out.size))
  have d2 := cell_below hb1 d1
  obtain ⟨x1, hx1⟩ : ∃ x, (chkN rs t).1 = x := ⟨_, rfl⟩
  obtain ⟨x2, hx2⟩ : ∃ x, (chkN rs t).2.1 = x := ⟨_, rfl⟩
  obtain ⟨x3, hx3⟩ : ∃ x, (chkN rs t).2.2 = x := ⟨_, rfl⟩
  have HX := Lib.hid (And.intro hx1 (And.intro hx2 hx3))
  rw [hx1, hx2, hx3]
  clear hb1 d1 hx1 hx2 hx3
  go_wp2_with fail
  refine (RefCheck_any S rs t _ H.out HS.out).mono ?_
  rintro e w2 ⟨rfl, hb2⟩
  have HB2 := Lib.hid (HB1.out.trans (hb2.mono HB1.out.size))
  rw [HX.out.1, HX.out.2.1, HX.out.2.2]
  clear hb2 d2
  go_wp2_with fail
  go_ret
  exact ⟨rfl, HB2.out⟩
end Go.Proofs.YtfgekdefnbohbaaDoor.U
