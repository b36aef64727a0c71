/- The program's ending and escape. The program's escape. Exact laws, quotes: the reference's digits, written. Exact laws, quotes: the reference's Quote. -/
import Derived.Test.YtfgekdefnbohbaaDoorUErr
import Derived.Test.YtfgekdefnbohbaaDoorUBuild
import Derived.Test.YtfgekdefnbohbaaDoorUAll8
import Derived.Test.YtfgekdefnbohbaaDoorUAll14
import Derived.Test.YtfgekdefnbohbaaDoorRBytes
import Derived.Laws.Strings2
namespace Go.Proofs.YtfgekdefnbohbaaDoor.U
open Go.RowKit Go.Proofs.YtfgekdefnbohbaaDoor.Txt
set_option linter.unusedVariables false
set_option linter.unusedSimpArgs false

theorem byte_at (s : ByteArray) (i : Nat) (x : UInt8) (t : List UInt8) (h : s.data.toList.drop i = x :: t) : ∀ w, (Instr.index 9 (.string s) (.int .i64 i)).run Tryd.prog w = .ok (.int .u8 (x.toNat : Int)) w := by
  have hlt : i < s.size := by
    have := congrArg List.length h
    rw [List.length_drop, size_toList] at this
    simp at this; omega
  have := byte_index s i hlt
  rw [h] at this
  exact this
theorem nonempty {s : ByteArray} (h : s.size ≠ 0) : s.toList.isEmpty = false := by
  rw [← decide_eq_emptyBytes]
  exact decide_eq_false (fun e => h (by rw [e]; rfl))

set_option maxRecDepth 100000 in
set_option maxHeartbeats 4000000 in
theorem ending_any (s : ByteArray) (w : World) (hs : s.size ≤ 1000000000000) :
    Calls Tryd.prog 28 #[.string s] w fun e w' => e = .returned (.int .i64 (endL s.data.toList)) ∧ w = w' := by
  obtain ⟨L, hL⟩ : ∃ L, s.data.toList = L := ⟨_, rfl⟩
  have hlen : s.size = L.length := by rw [← hL]; rfl
  rw [hL]
  cases L with
  | nil =>
    obtain rfl : s = ⟨#[]⟩ := by
      apply ByteArray.ext
      rw [← Array.toList_inj, hL]
    go_enter Tryd.func28, Tryd.ntmps28
    go_wp2
    go_ret
    exact ⟨rfl, rfl⟩
  | cons c t =>
    have hemp := nonempty (s := s) (by rw [hlen]; simp)
    have i0 : ∀ w, (Instr.index 9 (.string s) (.int .i64 0)).run Tryd.prog w = .ok (.int .u8 (c.toNat : Int)) w := byte_at s 0 c t (by rw [hL]; rfl)
    by_cases hc : c = 34
    case neg =>
      have hx : ¬ c.toNat = 34 := fun e => hc (by rw [← UInt8.toNat_inj, e]; rfl)
      have HE := Lib.hid (show endL (c :: t) = 0 from if_neg hc)
      generalize c.toNat = x at i0 hx
      have b : ((x : Int) != 34) = true := by simp; omega
      clear hlen hc
      go_enter Tryd.func28, Tryd.ntmps28
      go_wp2
      go_ret
      exact ⟨by rw [HE.out]; rfl, rfl⟩
    subst hc
    have i34 : ∀ w, (Instr.index 9 (.string s) (.int .i64 0)).run Tryd.prog w = .ok (.int .u8 34) w := fun w => (i0 w).trans (by rfl)
    have HL := Lib.hid hL
    have HN := Lib.hid hlen
    have HE := Lib.hid (show endL (34 :: t) = endT false t 1 by simp [endL])
    clear i0 hlen hL
    go_enter Tryd.func28, Tryd.ntmps28
    go_wp2
    clear i34 hemp
    go_loop [3] (fun v => ∃ i : Nat, v = .int .i64 i ∧ 1 ≤ i ∧ i ≤ s.size + 1 ∧ endT false t 1 = endT false ((34 :: t).drop i) i) (fun v => s.size + 1 - (intOf v).toNat)
    case atStart => exact ⟨1, rfl, by omega, by omega, rfl⟩
    case round =>
      obtain ⟨i, rfl, h1, h2, hh⟩ := hrel
      by_cases hlt : i < s.size
      case neg =>
        have HF := Lib.hid (show endL (34 :: t) = 0 by rw [HE.out, hh, List.drop_eq_nil_of_le (by rw [← HN.out]; omega)]; rfl)
        clear hh
        go_wp2_with fail
        go_ret
        exact ⟨by rw [HF.out]; rfl, rfl⟩
      case pos =>
        obtain ⟨x, u, hd⟩ : ∃ x u, (34 :: t).drop i = x :: u := by
          cases h : (34 :: t).drop i with
          | nil => exact absurd (congrArg List.length h) (by rw [List.length_drop, ← HN.out]; simp; omega)
          | cons x u => exact ⟨x, u, rfl⟩
        have hi := byte_at s i x u (by rw [HL.out, hd])
        have hd1 : (34 :: t).drop (i + 1) = u := by rw [← List.drop_drop, hd]; rfl
        rw [hd] at hh
        simp only [endT] at hh
        by_cases hx : x = 34
        · subst hx
          rw [if_pos rfl] at hh
          have hi2 : ∀ w, (Instr.index 9 (.string s) (.int .i64 i)).run Tryd.prog w = .ok (.int .u8 34) w := fun w => (hi w).trans (by rfl)
          have HF := Lib.hid (HE.out.trans hh)
          clear hh hi hd hd1
          go_wp2_with fail
          go_ret
          exact ⟨by rw [HF.out]; rfl, rfl⟩
        rw [if_neg hx] at hh
        by_cases hy : x = 92
        · subst hy
          rw [if_pos rfl] at hh
          have hi2 : ∀ w, (Instr.index 9 (.string s) (.int .i64 i)).run Tryd.prog w = .ok (.int .u8 92) w := fun w => (hi w).trans (by rfl)
          have HF := Lib.hid (show endT false t 1 = endT false ((34 :: t).drop (i + 2)) (i + 2) by
            rw [hh, show i + 2 = (i + 1) + 1 from rfl, ← List.drop_drop, hd1]
            cases u with
            | nil => rfl
            | cons z u => simp [endT])
          clear hh hi hd hd1 hx
          go_wp2_with fail
          go_round
          case rel => exact ⟨i + 2, by go_num, by omega, by omega, HF.out⟩
          case measure => simp [intOf]; omega
        · rw [if_neg hy] at hh
          have hx1 : ¬ x.toNat = 34 := fun e => hx (by rw [← UInt8.toNat_inj, e]; rfl)
          have hy1 : ¬ x.toNat = 92 := fun e => hy (by rw [← UInt8.toNat_inj, e]; rfl)
          have HF := Lib.hid (show endT false t 1 = endT false ((34 :: t).drop (i + 1)) (i + 1) by rw [hh, hd1])
          generalize x.toNat = y at hi hx1 hy1
          have b1 : ((y : Int) == 34) = false := by simp; omega
          have b2 : ((y : Int) == 92) = false := by simp; omega
          clear hh hd hd1 hx hy hx1 hy1
          go_wp2_with fail
          go_round
          case rel => exact ⟨i + 1, by go_num, by omega, by omega, HF.out⟩
          case measure => simp [intOf]; omega

theorem parseF_lt : ∀ (l : List UInt8) (a n : Nat), parseF a l = some n → n < (a + 1) * 16 ^ l.length
  | [], a, n, h => by simp only [parseF, Option.some.injEq] at h; simp; omega
  | c :: t, a, n, h => by
    simp only [parseF] at h
    cases hv : hexV c with
    | none => rw [hv] at h; cases h
    | some d =>
      rw [hv] at h
      have hd : d < 16 := by
        unfold hexV at hv
        repeat' split at hv
        all_goals (first | cases hv; omega | cases hv)
      have := parseF_lt t _ n h
      have h2 : (a * 16 + d + 1) * 16 ^ t.length ≤ ((a + 1) * 16) * 16 ^ t.length := Nat.mul_le_mul_right _ (by omega)
      rw [List.length_cons, Nat.pow_succ, Nat.mul_comm (16 ^ t.length) 16, ← Nat.mul_assoc]
      omega
theorem index_idx : ∀ (l : List UInt8) (c : UInt8), Lib.indexByte l c = match idxL c l with | none => -1 | some e => (e : Int)
  | [], c => rfl
  | b :: l, c => by
    have ih := index_idx l c
    unfold Lib.indexByte idxL
    by_cases h : b = c
    · rw [if_pos h, if_pos (by simpa using h)]; rfl
    · rw [if_neg h, if_neg (by simpa using h), ih]
      cases idxL c l with
      | none => rfl
      | some e => simp <;> omega
theorem idxL_lt : ∀ (l : List UInt8) (c : UInt8) (e : Nat), idxL c l = some e → e < l.length
  | [], c, e, h => by cases h
  | x :: t, c, e, h => by
    unfold idxL at h
    split at h
    · cases h; simp
    · cases hi : idxL c t with
      | none => rw [hi] at h; cases h
      | some k => rw [hi] at h; cases h; have := idxL_lt t c k hi; simp; omega
end Go.Proofs.YtfgekdefnbohbaaDoor.U

namespace Go.Proofs.YtfgekdefnbohbaaDoor.U
open Go.RowKit Go.Proofs.YtfgekdefnbohbaaDoor.Txt
set_option linter.unusedVariables false
set_option linter.unusedSimpArgs false
attribute [local go_sem] frozen?_alloc_cells

/-- What escape hands back. -/
def EscRes (l : List UInt8) (e : Ending) : Prop := ∃ W : ByteArray, e = .returned (.tuple #[.string W, .int .i64 (escL l).2]) ∧ W.data.toList = (escL l).1
theorem EscRes.none {l : List UInt8} (h : escL l = ([], 0)) : EscRes l (.returned (.tuple #[.string ⟨#[]⟩, .int .i64 0])) := ⟨⟨#[]⟩, by rw [h]; rfl, by rw [h]⟩
theorem EscRes.some {l x : List UInt8} {k : Nat} {W : ByteArray} {e : Ending} (h : escL l = (x, k)) (he : e = .returned (.tuple #[.string W, .int .i64 k])) (hw : W.data.toList = x) : EscRes l e := ⟨W, by rw [he, h], by rw [h]; exact hw⟩
/-- The cells of one byte that is laid as a slice. -/
theorem conv_one (w : World) (x : UInt8) : (convert 45 9 (.slice (some ⟨w.heap.size, 0, none⟩) 1 1)).run Tryd.prog (w.alloc (.cells #[.int .u8 (x.toNat : Int)] 5)) = .ok (.string ⟨#[x]⟩) (w.alloc (.cells #[.int .u8 (x.toNat : Int)] 5)) := by
  refine conv_bytes (l := [x]) (c := 1) ?_
  intro _
  refine ⟨_, rfl, fun j hj => ?_⟩
  obtain rfl : j = 0 := by simp at hj; omega
  rw [show Addr.add ⟨w.heap.size, 0, none⟩ 0 = ⟨w.heap.size, 0, none⟩ from rfl, Lib.cell_of_heap (heap_alloc_new w _)]
  rfl

set_option maxRecDepth 100000 in
set_option maxHeartbeats 4000000 in
theorem escape_plain (s : ByteArray) (w : World) (h : UInt8) (t : List UInt8) (hL : s.data.toList = h :: t) (hx : h ≠ 120) (hu : h ≠ 117) :
    Calls Tryd.prog 29 #[.string s] w fun e w' => EscRes s.data.toList e ∧ Below w.heap.size w w' := by
  have hlen : s.size = (h :: t).length := by rw [← hL]; rfl
  have hemp := nonempty (s := s) (by rw [hlen]; simp)
  have hsz : 1 ≤ s.size := by rw [hlen]; simp
  have i0 : ∀ w, (Instr.index 9 (.string s) (.int .i64 0)).run Tryd.prog w = .ok (.int .u8 (h.toNat : Int)) w := byte_at s 0 h t (by rw [hL]; rfl)
  have hsl : ∀ W : World, (Instr.slice 9 (.string s) none (some (.int .i64 1)) none).run Tryd.prog W = .ok (.string ⟨#[h]⟩) W := fun W => by
    rw [run_slice_string_h W 9 s Tryd.underlying9 .i64 1 (by omega) (by omega)]
    congr 2
    apply ByteArray.ext
    rw [← Array.toList_inj]
    have := extract_list s 0 1 (by omega)
    rw [hL] at this
    exact this
  rw [hL]
  have hn : ∀ c : UInt8, h ≠ c → ¬ h.toNat = c.toNat := fun c hc e => hc (UInt8.toNat_inj.1 e)
  by_cases h34 : h = 34
  · subst h34
    have HE := Lib.hid (show escL (34 :: t) = ([34], 1) by simp [escL])
    have i1 : ∀ w, (Instr.index 9 (.string s) (.int .i64 0)).run Tryd.prog w = .ok (.int .u8 34) w := fun w => (i0 w).trans (by rfl)
    clear i0 hn hlen hL
    go_enter Tryd.func29, Tryd.ntmps29
    go_wp2
    go_ret2
    exact ⟨.some HE.out rfl rfl, Below.refl _ _⟩
  by_cases h92 : h = 92
  · subst h92
    have HE := Lib.hid (show escL (92 :: t) = ([92], 1) by simp [escL])
    have i1 : ∀ w, (Instr.index 9 (.string s) (.int .i64 0)).run Tryd.prog w = .ok (.int .u8 92) w := fun w => (i0 w).trans (by rfl)
    clear i0 hn hlen hL
    go_enter Tryd.func29, Tryd.ntmps29
    go_wp2
    go_ret2
    exact ⟨.some HE.out rfl rfl, Below.refl _ _⟩
  by_cases h110 : h = 110
  · subst h110
    have HE := Lib.hid (show escL (110 :: t) = ([10], 1) by simp [escL])
    have i1 : ∀ w, (Instr.index 9 (.string s) (.int .i64 0)).run Tryd.prog w = .ok (.int .u8 110) w := fun w => (i0 w).trans (by rfl)
    clear i0 hn hlen hL
    go_enter Tryd.func29, Tryd.ntmps29
    go_wp2
    go_ret2
    exact ⟨.some HE.out rfl rfl, Below.refl _ _⟩
  by_cases h116 : h = 116
  · subst h116
    have HE := Lib.hid (show escL (116 :: t) = ([9], 1) by simp [escL])
    have i1 : ∀ w, (Instr.index 9 (.string s) (.int .i64 0)).run Tryd.prog w = .ok (.int .u8 116) w := fun w => (i0 w).trans (by rfl)
    clear i0 hn hlen hL
    go_enter Tryd.func29, Tryd.ntmps29
    go_wp2
    go_ret2
    exact ⟨.some HE.out rfl rfl, Below.refl _ _⟩
  have HE := Lib.hid (show escL (h :: t) = ([], 0) by simp [escL, h34, h92, h110, h116, hx, hu])
  have n1 : ¬ h.toNat = 34 := hn 34 h34
  have n2 : ¬ h.toNat = 92 := hn 92 h92
  have n3 : ¬ h.toNat = 110 := hn 110 h110
  have n4 : ¬ h.toNat = 116 := hn 116 h116
  have n5 : ¬ h.toNat = 120 := hn 120 hx
  have n6 : ¬ h.toNat = 117 := hn 117 hu
  obtain ⟨y, hy⟩ : ∃ y, h.toNat = y := ⟨_, rfl⟩
  rw [hy] at i0 n1 n2 n3 n4 n5 n6
  have b1 : ((y : Int) == 34) = false := by simp; omega
  have b2 : ((y : Int) == 92) = false := by simp; omega
  have b3 : ((y : Int) == 110) = false := by simp; omega
  have b4 : ((y : Int) == 116) = false := by simp; omega
  have b5 : ((y : Int) == 120) = false := by simp; omega
  have b6 : ((y : Int) == 117) = false := by simp; omega
  clear hn hlen hL hy n1 n2 n3 n4 n5 n6 h34 h92 h110 h116 hx hu hsl
  go_enter Tryd.func29, Tryd.ntmps29
  go_wp2
  go_ret2
  exact ⟨.none HE.out, Below.refl _ _⟩

set_option maxRecDepth 100000 in
set_option maxHeartbeats 4000000 in
theorem escape_x (s : ByteArray) (w : World) (t : List UInt8) (hL : s.data.toList = 120 :: t) (hE : EnvQ w) :
    Calls Tryd.prog 29 #[.string s] w fun e w' => EscRes s.data.toList e ∧ Below w.heap.size w w' := by
  have hlen : s.size = (120 :: t).length := by rw [← hL]; rfl
  have hemp := nonempty (s := s) (by rw [hlen]; simp)
  have i0 := byte_at s 0 120 t (by rw [hL]; rfl)
  have i1 : ∀ w, (Instr.index 9 (.string s) (.int .i64 0)).run Tryd.prog w = .ok (.int .u8 120) w := fun w => (i0 w).trans (by rfl)
  clear i0
  by_cases h3 : s.size < 3
  · have HE := Lib.hid (show escL s.data.toList = ([], 0) by rw [hL]; unfold escL; simp only; rw [if_neg (by decide), if_neg (by decide), if_neg (by decide), if_pos trivial, if_pos (by rw [← hlen]; exact h3)])
    clear hlen hL hE
    go_enter Tryd.func29, Tryd.ntmps29
    go_wp2
    go_ret2
    exact ⟨.none HE.out, Below.refl _ _⟩
  obtain ⟨T, hT⟩ : ∃ T, s.extract 1 3 = T := ⟨_, rfl⟩
  have hTl : T.data.toList = t.take 2 := by rw [← hT, extract_list s 1 3 (by omega), hL]; rfl
  have hTs : T.size = 2 := by
    have : T.size = (t.take 2).length := by rw [← hTl]; rfl
    rw [this, List.length_take]
    simp at hlen; omega
  have hsl : ∀ W : World, (Instr.slice 9 (.string s) (some (.int .i64 1)) (some (.int .i64 3)) none).run Tryd.prog W = .ok (.string T) W := fun W => by
    rw [run_slice_string W 9 s .i64 .i64 1 3 Tryd.underlying9 (by omega) (by omega) (by omega)]
    rw [← hT]; rfl
  obtain ⟨ev, hev, hev2⟩ := hE.syn
  have HP := Lib.hid (parse_any T 8 ev w (by omega) hev hev2 (iparse_8 T (by omega) (by omega) w))
  have hesc : escL s.data.toList = match parseH (t.take 2) with | none => ([], 0) | some n => ([UInt8.ofNat n], 3) := by
    rw [hL]; unfold escL; simp only; rw [if_neg (by decide), if_neg (by decide), if_neg (by decide), if_pos trivial, if_neg (by rw [← hlen]; exact h3)]
    rfl
  rw [← hTl] at hesc
  have hlt : ∀ n, parseH T.data.toList = some n → n < 256 := fun n hn => by
    have := parseF_lt _ _ _ hn
    have e : T.data.toList.length = 2 := hTs
    rw [e] at this
    omega
  cases hp : parseH T.data.toList with
  | none =>
    rw [hp] at hesc
    have HE := Lib.hid hesc
    rw [hp] at HP
    clear hlen hL hE hlt hp hesc hev hev2 hTl hT
    go_enter Tryd.func29, Tryd.ntmps29
    go_wp2_with fail
    refine HP.out.mono ?_
    rintro e w1 ⟨⟨Ty, N, rfl⟩, hb⟩
    have HB := Lib.hid hb
    clear hb
    go_wp2_with fail
    go_ret2
    exact ⟨.none HE.out, HB.out⟩
  | some n =>
    rw [hp] at hesc
    have HE := Lib.hid hesc
    have hn := hlt n hp
    rw [hp] at HP
    have e8 : (UInt8.ofNat n).toNat = n := by simp; omega
    have HC := Lib.hid (fun w => conv_one w (UInt8.ofNat n))
    rw [e8] at HC
    clear hlen hL hE hlt hp hesc hev hev2 hTl hT e8
    go_enter Tryd.func29, Tryd.ntmps29
    go_wp2_with fail
    refine HP.out.mono ?_
    rintro e w1 ⟨rfl, hb⟩
    have HB := Lib.hid hb
    have hcv := HC.out w1
    clear hb
    go_wp2_with fail
    go_ret2
    exact ⟨.some HE.out rfl rfl, HB.out.alloc HB.out.size _⟩

set_option maxRecDepth 100000 in
set_option maxHeartbeats 4000000 in
theorem escape_u (s : ByteArray) (w : World) (t : List UInt8) (hL : s.data.toList = 117 :: t) (hE : EnvQ w) (hs : s.size ≤ 1000000000000) :
    Calls Tryd.prog 29 #[.string s] w fun e w' => EscRes s.data.toList e ∧ Below w.heap.size w w' := by
  have hlen : s.size = (117 :: t).length := by rw [← hL]; rfl
  have hemp := nonempty (s := s) (by rw [hlen]; simp)
  have i0 := byte_at s 0 117 t (by rw [hL]; rfl)
  have i1 : ∀ w, (Instr.index 9 (.string s) (.int .i64 0)).run Tryd.prog w = .ok (.int .u8 117) w := fun w => (i0 w).trans (by rfl)
  clear i0
  have hidx := index_idx s.data.toList 125
  have HX := Lib.hid (IndexByte_any s 125 w)
  rw [show (125 : Int).toNat.toUInt8 = 125 from rfl, hidx] at HX
  have hesc : escL s.data.toList = match idxL 125 s.data.toList with
      | none => ([], 0)
      | some e => if e < 3 ∨ 8 < e ∨ s.data.toList.getD 1 0 ≠ 123 then ([], 0) else
        match parseH ((s.data.toList.take e).drop 2) with
        | none => ([], 0)
        | some n => if 1114111 < n then ([], 0) else (encB n, e + 1) := by
    rw [hL]; conv => lhs; unfold escL
    simp only; rw [if_neg (by decide), if_neg (by decide), if_neg (by decide), if_neg (by decide), if_pos trivial]
    rfl
  cases hi : idxL 125 s.data.toList with
  | none =>
    rw [hi] at hesc HX
    have HE := Lib.hid hesc
    clear hlen hL hE hesc hidx hi
    go_enter Tryd.func29, Tryd.ntmps29
    go_wp2_with fail
    refine HX.out.mono ?_
    rintro e w1 ⟨rfl, rfl⟩
    go_wp2_with fail
    go_ret2
    exact ⟨.none HE.out, Below.refl _ _⟩
  | some e =>
    rw [hi] at hesc HX
    simp only at hesc HX
    have helt := idxL_lt _ _ _ hi
    rw [size_toList] at helt
    by_cases he3 : e < 3
    · have HE := Lib.hid (hesc.trans (if_pos (.inl he3)))
      clear hlen hL hE hesc hidx hi
      go_enter Tryd.func29, Tryd.ntmps29
      go_wp2_with fail
      refine HX.out.mono ?_
      rintro e w1 ⟨rfl, rfl⟩
      go_wp2_with fail
      go_ret2
      exact ⟨.none HE.out, Below.refl _ _⟩
    by_cases he8 : 8 < e
    · have HE := Lib.hid (hesc.trans (if_pos (.inr (.inl he8))))
      clear hlen hL hE hesc hidx hi
      go_enter Tryd.func29, Tryd.ntmps29
      go_wp2_with fail
      refine HX.out.mono ?_
      rintro e w1 ⟨rfl, rfl⟩
      go_wp2_with fail
      go_ret2
      exact ⟨.none HE.out, Below.refl _ _⟩
    obtain ⟨c, u, hcu⟩ : ∃ c u, t = c :: u := by
      cases t with
      | nil => simp at hlen; omega
      | cons c u => exact ⟨c, u, rfl⟩
    have j1 : ∀ w, (Instr.index 9 (.string s) (.int .i64 1)).run Tryd.prog w = .ok (.int .u8 (c.toNat : Int)) w := byte_at s 1 c u (by rw [hL, hcu]; rfl)
    have hg1 : s.data.toList.getD 1 0 = c := by rw [hL, hcu]; rfl
    rw [hg1] at hesc
    by_cases hc : c = 123
    case neg =>
      have HE := Lib.hid (hesc.trans (if_pos (.inr (.inr hc))))
      have hcn : ¬ c.toNat = 123 := fun e => hc (UInt8.toNat_inj.1 e)
      generalize c.toNat = y at j1 hcn
      have b : ((y : Int) != 123) = true := by simp; omega
      clear hlen hL hE hesc hidx hi hc hcn hcu hg1
      go_enter Tryd.func29, Tryd.ntmps29
      go_wp2_with fail
      refine HX.out.mono ?_
      rintro e w1 ⟨rfl, rfl⟩
      go_wp2_with fail
      go_ret2
      exact ⟨.none HE.out, Below.refl _ _⟩
    subst hc
    have j2 : ∀ w, (Instr.index 9 (.string s) (.int .i64 1)).run Tryd.prog w = .ok (.int .u8 123) w := fun w => (j1 w).trans (by rfl)
    clear j1
    rw [if_neg (by simp; omega)] at hesc
    obtain ⟨T, hT⟩ : ∃ T, s.extract 2 e = T := ⟨_, rfl⟩
    have hTl : T.data.toList = (s.data.toList.take e).drop 2 := by rw [← hT, extract_list s 2 e (by omega)]
    have hTs : T.size = e - 2 := by
      have : T.size = ((s.data.toList.take e).drop 2).length := by rw [← hTl]; rfl
      rw [this, List.length_drop, List.length_take, size_toList]
      omega
    have hsl : ∀ W : World, (Instr.slice 9 (.string s) (some (.int .i64 2)) (some (.int .i64 e)) none).run Tryd.prog W = .ok (.string T) W := fun W => by
      rw [run_slice_string W 9 s .i64 .i64 2 e Tryd.underlying9 (by omega) (by omega) (by omega), show ((e : Int)).toNat = e by omega]
      rw [← hT]; rfl
    obtain ⟨ev, hev, hev2⟩ := hE.syn
    have HP := Lib.hid (parse_any T 32 ev w (by omega) hev hev2 (iparse_32 T (by omega) (by omega) w))
    rw [← hTl] at hesc
    have z1 : ¬ 8 < e := he8
    have z2 : ¬ e < 3 := he3
    cases hp : parseH T.data.toList with
    | none =>
      rw [hp] at hesc HP
      have HE := Lib.hid hesc
      clear hlen hL hE hp hesc hev hev2 hTl hT hidx hi hg1 hcu
      go_enter Tryd.func29, Tryd.ntmps29
      go_wp2_with fail
      refine HX.out.mono ?_
      rintro e w1 ⟨rfl, rfl⟩
      go_wp2_with fail
      refine HP.out.mono ?_
      rintro e w1 ⟨⟨Ty, N, rfl⟩, hb⟩
      have HB := Lib.hid hb
      clear hb
      go_wp2_with fail
      go_ret2
      exact ⟨.none HE.out, HB.out⟩
    | some n =>
      rw [hp] at hesc HP
      simp only at hesc
      by_cases hbig : 1114111 < n
      · rw [if_pos hbig] at hesc
        have HE := Lib.hid hesc
        clear hlen hL hE hp hesc hev hev2 hTl hT hidx hi hg1 hcu
        go_enter Tryd.func29, Tryd.ntmps29
        go_wp2_with fail
        refine HX.out.mono ?_
        rintro e w1 ⟨rfl, rfl⟩
        go_wp2_with fail
        refine HP.out.mono ?_
        rintro e w1 ⟨rfl, hb⟩
        have HB := Lib.hid hb
        clear hb
        go_wp2_with fail
        go_ret2
        exact ⟨.none HE.out, HB.out⟩
      · rw [if_neg hbig] at hesc
        have HE := Lib.hid hesc
        clear hlen hL hE hp hesc hev hev2 hTl hT hidx hi hg1 hcu
        go_enter Tryd.func29, Tryd.ntmps29
        go_wp2_with fail
        refine HX.out.mono ?_
        rintro e w1 ⟨rfl, rfl⟩
        go_wp2_with fail
        refine HP.out.mono ?_
        rintro e w1 ⟨rfl, hb⟩
        have HB := Lib.hid hb
        clear hb
        go_wp2_with fail
        go_ret2
        exact ⟨.some HE.out (by first | rfl | go_num) rfl, HB.out⟩
end Go.Proofs.YtfgekdefnbohbaaDoor.U

namespace Go.Proofs.YtfgekdefnbohbaaDoor.U
open Go.RowKit Go.Proofs.YtfgekdefnbohbaaDoor.Txt
set_option linter.unusedVariables false
set_option linter.unusedSimpArgs false
attribute [local go_sem] frozen?_alloc_cells

set_option maxRecDepth 100000 in
theorem dig_slice (k : Nat) (h : k < 16) : ∀ w, (Instr.slice 9 (.string ⟨#[48, 49, 50, 51, 52, 53, 54, 55, 56, 57, 97, 98, 99, 100, 101, 102]⟩) (some (.int .i64 k)) (some (.int .i64 ((k : Int) + 1))) none).run Tryd.prog w = .ok (.string ⟨#[dig k]⟩) w := by
  have hm : k = 0 ∨ k = 1 ∨ k = 2 ∨ k = 3 ∨ k = 4 ∨ k = 5 ∨ k = 6 ∨ k = 7 ∨ k = 8 ∨ k = 9 ∨ k = 10 ∨ k = 11 ∨ k = 12 ∨ k = 13 ∨ k = 14 ∨ k = 15 := by omega
  rcases hm with rfl | rfl | rfl | rfl | rfl | rfl | rfl | rfl | rfl | rfl | rfl | rfl | rfl | rfl | rfl | rfl
  all_goals exact fun _ => by kernel_rfl
theorem cons_str (x : UInt8) (l : List UInt8) : (⟨#[x]⟩ : ByteArray) ++ ⟨l.toArray⟩ = ⟨(x :: l).toArray⟩ := by
  apply ByteArray.ext
  rw [← Array.toList_inj, app_list]
  simp

theorem hex_step (m : Nat) : hexL m = (if m / 16 = 0 then [] else hexL (m / 16)) ++ [dig (m % 16)] := by
  conv => lhs; rw [hexL]
  by_cases h : m < 16
  · rw [if_pos h, if_pos (by omega), Nat.mod_eq_of_lt h]; rfl
  · rw [if_neg h, if_neg (by omega)]
theorem mk_list (l : List UInt8) : (⟨l.toArray⟩ : ByteArray).data.toList = l := rfl

set_option maxRecDepth 100000 in
set_option maxHeartbeats 4000000 in
theorem digits_one (n : Nat) (w : World) (hn : n < 16777216) :
    Calls Tryd.prog 62 #[.int .i64 n, .int .i64 1] w fun e w' => e = .returned (.string ⟨(hexL n).toArray⟩) ∧ w = w' := by
  have hx6 := hexL_le n hn
  have HX := Lib.hid hx6
  clear hx6
  go_enter Tryd.func62, Tryd.ntmps62
  go_wp2_with fail
  go_loop [0, 5] (fun v s => ∃ (m : Nat) (acc : List UInt8) (S : ByteArray), v = .int .i64 m ∧ m < 16777216 ∧ s = .string S ∧ S.data.toList = acc ∧ ((acc = [] ∧ m = n) ∨ (acc ≠ [] ∧ m = 0 ∧ acc = hexL n) ∨ (acc ≠ [] ∧ 0 < m ∧ hexL m ++ acc = hexL n))) (fun v s => 2 * (intOf v).toNat + (match s with | .string S => if S.size = 0 then 1 else 0 | _ => 0))
  case atStart => exact ⟨n, [], ⟨#[]⟩, rfl, hn, rfl, rfl, .inl ⟨rfl, rfl⟩⟩
  case round =>
    obtain ⟨m, acc, S, rfl, hm, rfl, hS, hh⟩ := hrel
    have hSs : S.size = acc.length := by rw [← hS]; rfl
    have HS := Lib.hid hS
    rcases hh with ⟨rfl, rfl⟩ | ⟨hne, rfl, hacc⟩ | ⟨hne, hpos, hacc⟩
    case inr.inl =>
      have h1 : ¬ S.size < 1 := by
        have := List.length_pos_iff.2 hne
        omega
      have HA := Lib.hid hacc
      clear hacc hne hSs
      go_wp2_with fail
      go_ret
      exact ⟨by
        have e : S = ⟨(hexL n).toArray⟩ := by
          apply ByteArray.ext
          rw [← Array.toList_inj, HS.out, HA.out]
        rw [← e]; rfl, rfl⟩
    · have hS0 : S = ⟨#[]⟩ := by
        apply ByteArray.ext
        rw [← Array.toList_inj, hS]
      subst hS0
      have hk16 : m % 16 < 16 := by omega
      have hsl := dig_slice (m % 16) hk16
      have a1 : (m : Int) % 16 = ((m % 16 : Nat) : Int) := by omega
      have a2 : (m : Int) / 16 = ((m / 16 : Nat) : Int) := by omega
      have HST := Lib.hid (hex_step m)
      have HM := Lib.hid (show m / 16 ≤ m ∧ (0 < m → m / 16 < m) by omega)
      have hm16 : m / 16 < 16777216 := by omega
      generalize hk : m % 16 = k at hk16 hsl a1 HST
      generalize hq : m / 16 = q at a2 HST HM hm16
      clear hk hq
      clear hS HS hSs hn
      have fin : ∃ (m' : Nat) (acc : List UInt8) (S : ByteArray), (Value.int .i64 (q : Int)) = .int .i64 m' ∧ m' < 16777216 ∧ (Value.string (⟨#[dig k]⟩ : ByteArray)) = .string S ∧ S.data.toList = acc ∧ ((acc = [] ∧ m' = m) ∨ (acc ≠ [] ∧ m' = 0 ∧ acc = hexL m) ∨ (acc ≠ [] ∧ 0 < m' ∧ hexL m' ++ acc = hexL m)) := by
        refine ⟨q, [dig k], _, rfl, hm16, rfl, rfl, .inr ?_⟩
        rw [HST.out]
        by_cases h0 : q = 0
        · exact .inl ⟨by simp, h0, by rw [if_pos h0]; rfl⟩
        · exact .inr ⟨by simp, by omega, by rw [if_neg h0]⟩
      have FIN := Lib.hid fin
      clear fin HST
      by_cases h0 : 0 < m
      · go_wp2_with fail
        go_round
        case rel => exact FIN.out
        case measure => have e1 : ((⟨#[dig k]⟩ : ByteArray) ++ (⟨#[]⟩ : ByteArray)).size = 1 := rfl; have e0 : (⟨#[]⟩ : ByteArray).size = 0 := rfl; have e2 : (⟨#[dig k]⟩ : ByteArray).size = 1 := rfl; have := HM.out.2 h0; simp only [intOf, e1, e0, e2]; simp <;> omega
      · go_wp2_with fail
        go_round
        case rel => exact FIN.out
        case measure => have e1 : ((⟨#[dig k]⟩ : ByteArray) ++ (⟨#[]⟩ : ByteArray)).size = 1 := rfl; have e0 : (⟨#[]⟩ : ByteArray).size = 0 := rfl; have e2 : (⟨#[dig k]⟩ : ByteArray).size = 1 := rfl; have := HM.out.1; simp only [intOf, e1, e0, e2]; simp <;> omega
    · have hle : acc.length ≤ 6 := by
        have h1 := HX.out
        rw [← hacc, List.length_append] at h1
        omega
      have hk16 : m % 16 < 16 := by omega
      have hsl := dig_slice (m % 16) hk16
      have a1 : (m : Int) % 16 = ((m % 16 : Nat) : Int) := by omega
      have a2 : (m : Int) / 16 = ((m / 16 : Nat) : Int) := by omega
      have HST := Lib.hid (hex_step m)
      have HM := Lib.hid (show m / 16 ≤ m ∧ (0 < m → m / 16 < m) by omega)
      have hm16 : m / 16 < 16777216 := by omega
      generalize hk : m % 16 = k at hk16 hsl a1 HST
      generalize hq : m / 16 = q at a2 HST HM hm16
      clear hk hq
      have hap : (⟨#[dig k]⟩ : ByteArray) ++ S = ⟨(dig k :: acc).toArray⟩ := by
        have e : S = ⟨acc.toArray⟩ := by
          apply ByteArray.ext
          rw [← Array.toList_inj, hS]
        rw [e, cons_str]
      have fin : ∃ (m' : Nat) (acc : List UInt8) (S' : ByteArray), (Value.int .i64 (q : Int)) = .int .i64 m' ∧ m' < 16777216 ∧ (Value.string ((⟨#[dig k]⟩ : ByteArray) ++ S)) = .string S' ∧ S'.data.toList = acc ∧ ((acc = [] ∧ m' = n) ∨ (acc ≠ [] ∧ m' = 0 ∧ acc = hexL n) ∨ (acc ≠ [] ∧ 0 < m' ∧ hexL m' ++ acc = hexL n)) := by
        refine ⟨q, dig k :: acc, _, rfl, hm16, rfl, by rw [hap], .inr ?_⟩
        rw [← hacc, HST.out]
        by_cases h0 : q = 0
        · exact .inl ⟨by simp, h0, by rw [if_pos h0]; rfl⟩
        · exact .inr ⟨by simp, by omega, by rw [if_neg h0]; simp⟩
      have FIN := Lib.hid fin
      have hsz : ((⟨#[dig k]⟩ : ByteArray) ++ S).size ≠ 0 := by rw [hap, ← size_toList]; simp
      have hSn : S.size ≠ 0 := by
        have := List.length_pos_iff.2 hne
        omega
      have HZ := Lib.hid (And.intro hsz hSn)
      clear fin HST hacc hap hsz hSn hne hS
      go_wp2_with fail
      go_round
      case rel => exact FIN.out
      case measure => have := HM.out.2 hpos; have h2 := HZ.out.1; have h3 := HZ.out.2; simp only [intOf]; rw [if_neg h2, if_neg h3]; simp; omega

theorem str_of {S : ByteArray} {l : List UInt8} (h : S.data.toList = l) : S = ⟨l.toArray⟩ := by
  apply ByteArray.ext
  rw [← Array.toList_inj, h]
set_option maxRecDepth 100000 in
set_option maxHeartbeats 4000000 in
theorem digits_two (n : Nat) (w : World) (hn : n < 256) :
    Calls Tryd.prog 62 #[.int .i64 n, .int .i64 2] w fun e w' => e = .returned (.string ⟨#[dig (n / 16), dig (n % 16)]⟩) ∧ w = w' := by
  go_enter Tryd.func62, Tryd.ntmps62
  go_wp2_with fail
  go_loop [0, 5] (fun v s => ∃ (m : Nat) (S : ByteArray), v = .int .i64 m ∧ m < 256 ∧ s = .string S ∧ ((S = ⟨#[]⟩ ∧ m = n) ∨ (S = ⟨#[dig (n % 16)]⟩ ∧ m = n / 16) ∨ (S = ⟨#[dig (n / 16), dig (n % 16)]⟩ ∧ m = 0))) (fun _ s => 2 - (match s with | .string S => S.size | _ => 0))
  case atStart => exact ⟨n, ⟨#[]⟩, rfl, hn, rfl, .inl ⟨rfl, rfl⟩⟩
  case round =>
    obtain ⟨m, S, rfl, hm, rfl, hh⟩ := hrel
    rcases hh with ⟨rfl, rfl⟩ | ⟨rfl, rfl⟩ | ⟨rfl, rfl⟩
    · have hsl := dig_slice (m % 16) (by omega)
      have a1 : (m : Int) % 16 = ((m % 16 : Nat) : Int) := by omega
      have a2 : (m : Int) / 16 = ((m / 16 : Nat) : Int) := by omega
      have hq : m / 16 < 256 := by omega
      have hk16 : m % 16 < 16 := by omega
      have FIN := Lib.hid (show ∃ (m' : Nat) (S : ByteArray), (Value.int .i64 ((m / 16 : Nat) : Int)) = .int .i64 m' ∧ m' < 256 ∧ (Value.string (⟨#[dig (m % 16)]⟩ : ByteArray)) = .string S ∧ ((S = ⟨#[]⟩ ∧ m' = m) ∨ (S = ⟨#[dig (m % 16)]⟩ ∧ m' = m / 16) ∨ (S = ⟨#[dig (m / 16), dig (m % 16)]⟩ ∧ m' = 0)) from ⟨_, _, rfl, hq, rfl, .inr (.inl ⟨rfl, rfl⟩)⟩)
      generalize m % 16 = k at hk16 hsl a1 FIN
      by_cases h0 : 0 < m
      all_goals
        generalize m / 16 = q at hq a2 FIN
        go_wp2_with fail
        go_round
        case rel => exact FIN.out
        case measure => have e1 : ((⟨#[dig k]⟩ : ByteArray) ++ (⟨#[]⟩ : ByteArray)).size = 1 := rfl; have e0 : (⟨#[]⟩ : ByteArray).size = 0 := rfl; have e2 : (⟨#[dig k]⟩ : ByteArray).size = 1 := rfl; simp only [e1, e0, e2]; decide
    · have hq0 : n / 16 / 16 = 0 := by omega
      have hqq : n / 16 % 16 = n / 16 := by omega
      generalize n % 16 = k2 at *
      generalize n / 16 = m at *
      have hsl := dig_slice (m % 16) (by omega)
      rw [hqq] at hsl
      have a1 : (m : Int) % 16 = (m : Int) := by omega
      have a2 : (m : Int) / 16 = 0 := by omega
      have hm16 : m < 16 := by omega
      have FIN := Lib.hid (show ∃ (m' : Nat) (S : ByteArray), (Value.int .i64 0) = .int .i64 m' ∧ m' < 256 ∧ (Value.string (⟨#[dig m, dig k2]⟩ : ByteArray)) = .string S ∧ ((S = ⟨#[]⟩ ∧ m' = n) ∨ (S = ⟨#[dig k2]⟩ ∧ m' = m) ∨ (S = ⟨#[dig m, dig k2]⟩ ∧ m' = 0)) from ⟨0, _, rfl, by decide, rfl, .inr (.inr ⟨rfl, rfl⟩)⟩)
      clear hq0 hqq
      by_cases h0 : 0 < m
      all_goals
        go_wp2_with fail
        go_round
        case rel => exact FIN.out
        case measure => have e1 : ((⟨#[dig m]⟩ : ByteArray) ++ (⟨#[dig k2]⟩ : ByteArray)).size = 2 := rfl; have e0 : (⟨#[dig m, dig k2]⟩ : ByteArray).size = 2 := rfl; have e2 : (⟨#[dig k2]⟩ : ByteArray).size = 1 := rfl; simp only [e1, e0, e2]; decide
    · go_wp2_with fail
      go_ret
      exact ⟨rfl, rfl⟩

/-- What the reference writes of a rune. -/
theorem app_str (a b : List UInt8) : (⟨a.toArray⟩ : ByteArray) ++ ⟨b.toArray⟩ = ⟨(a ++ b).toArray⟩ := by
  apply ByteArray.ext
  rw [← Array.toList_inj, app_list]
set_option maxRecDepth 100000 in
set_option maxHeartbeats 4000000 in
theorem written_any (r : Nat) (w : World) (hr : r ≤ 1114111) :
    Calls Tryd.prog 63 #[.int .i64 r] w fun e w' => e = .returned (.string ⟨(qR r).toArray⟩) ∧ Below w.heap.size w w' := by
  by_cases h34 : r = 34
  · subst h34
    have HE := Lib.hid (show (⟨(qR ((34 : Nat) : Int)).toArray⟩ : ByteArray) = ⟨#[92, 34]⟩ by rw [show qR ((34 : Nat) : Int) = [92, 34] by decide +kernel])
    rw [HE.out]
    go_enter Tryd.func63, Tryd.ntmps63
    go_wp2
    go_ret
    exact ⟨rfl, Below.refl _ _⟩
  have b34 : ((r : Int) == 34) = false := by simp; omega
  by_cases h92 : r = 92
  · subst h92
    have HE := Lib.hid (show (⟨(qR ((92 : Nat) : Int)).toArray⟩ : ByteArray) = ⟨#[92, 92]⟩ by rw [show qR ((92 : Nat) : Int) = [92, 92] by decide +kernel])
    rw [HE.out]
    go_enter Tryd.func63, Tryd.ntmps63
    go_wp2
    go_ret
    exact ⟨rfl, Below.refl _ _⟩
  have b92 : ((r : Int) == 92) = false := by simp; omega
  by_cases h10 : r = 10
  · subst h10
    have HE := Lib.hid (show (⟨(qR ((10 : Nat) : Int)).toArray⟩ : ByteArray) = ⟨#[92, 110]⟩ by rw [show qR ((10 : Nat) : Int) = [92, 110] by decide +kernel])
    rw [HE.out]
    go_enter Tryd.func63, Tryd.ntmps63
    go_wp2
    go_ret
    exact ⟨rfl, Below.refl _ _⟩
  have b10 : ((r : Int) == 10) = false := by simp; omega
  by_cases h9 : r = 9
  · subst h9
    have HE := Lib.hid (show (⟨(qR ((9 : Nat) : Int)).toArray⟩ : ByteArray) = ⟨#[92, 116]⟩ by rw [show qR ((9 : Nat) : Int) = [92, 116] by decide +kernel])
    rw [HE.out]
    go_enter Tryd.func63, Tryd.ntmps63
    go_wp2
    go_ret
    exact ⟨rfl, Below.refl _ _⟩
  have b9 : ((r : Int) == 9) = false := by simp; omega
  by_cases h32 : 32 ≤ r
  · by_cases h127 : r < 127
    · have hq : qR (r : Int) = [UInt8.ofNat r] := by
        unfold qR
        rw [if_neg (by omega), if_neg (by omega), if_neg (by omega), if_neg (by omega), if_pos (by omega)]
        have := bytesR_enc (r : Int) ((valid_iff _).2 (by omega))
        rw [← this, Int.toNat_natCast]
        unfold bytesR
        rw [if_pos (by omega)]
      have HE := Lib.hid (show (⟨(qR (r : Int)).toArray⟩ : ByteArray) = ⟨#[UInt8.ofNat r]⟩ by rw [hq])
      rw [HE.out]
      have hcv := conv_one w (UInt8.ofNat r)
      have e8 : (UInt8.ofNat r).toNat = r := by simp; omega
      rw [e8] at hcv
      clear hq e8 h34 h92 h10 h9
      go_enter Tryd.func63, Tryd.ntmps63
      go_wp2
      go_ret
      exact ⟨rfl, (Below.refl _ _).alloc (Nat.le_refl _) _⟩
    · have hq : qR (r : Int) = [92, 117, 123] ++ hexL r ++ [125] := by
        unfold qR
        rw [if_neg (by omega), if_neg (by omega), if_neg (by omega), if_neg (by omega), if_neg (by omega), Int.toNat_natCast]
      have HD := Lib.hid (fun w => digits_one r w (by omega))
      obtain ⟨X, hX⟩ : ∃ X : ByteArray, X = ⟨(hexL r).toArray⟩ := ⟨_, rfl⟩
      have HE := Lib.hid (show (⟨(qR (r : Int)).toArray⟩ : ByteArray) = ⟨#[92, 117, 123]⟩ ++ X ++ ⟨#[125]⟩ by rw [hq, hX, ← app_str, ← app_str])
      have hx6 : X.size ≤ 6 := by rw [hX]; exact hexL_le r (by omega)
      rw [← hX] at HD
      rw [HE.out]
      clear hq h34 h92 h10 h9 hX
      go_enter Tryd.func63, Tryd.ntmps63
      go_wp2_with fail
      refine (HD.out _).mono ?_
      rintro e w1 ⟨rfl, rfl⟩
      go_wp2_with fail
      go_ret
      exact ⟨rfl, Below.refl _ _⟩
  · have hq : qR (r : Int) = [92, 117, 123] ++ hexL r ++ [125] := by
      unfold qR
      rw [if_neg (by omega), if_neg (by omega), if_neg (by omega), if_neg (by omega), if_neg (by omega), Int.toNat_natCast]
    have HD := Lib.hid (fun w => digits_one r w (by omega))
    obtain ⟨X, hX⟩ : ∃ X : ByteArray, X = ⟨(hexL r).toArray⟩ := ⟨_, rfl⟩
    have HE := Lib.hid (show (⟨(qR (r : Int)).toArray⟩ : ByteArray) = ⟨#[92, 117, 123]⟩ ++ X ++ ⟨#[125]⟩ by rw [hq, hX, ← app_str, ← app_str])
    have hx6 : X.size ≤ 6 := by rw [hX]; exact hexL_le r (by omega)
    rw [← hX] at HD
    rw [HE.out]
    clear hq h34 h92 h10 h9 hX
    go_enter Tryd.func63, Tryd.ntmps63
    go_wp2_with fail
    refine (HD.out _).mono ?_
    rintro e w1 ⟨rfl, rfl⟩
    go_wp2_with fail
    go_ret
    exact ⟨rfl, Below.refl _ _⟩
end Go.Proofs.YtfgekdefnbohbaaDoor.U

namespace Go.Proofs.YtfgekdefnbohbaaDoor.U
open Go.RowKit Go.Proofs.YtfgekdefnbohbaaDoor.Txt
set_option linter.unusedVariables false
set_option linter.unusedSimpArgs false
attribute [local go_sem] frozen?_alloc_cells

theorem own_push {B : Nat} {w9 : World} {acc : List UInt8} {b : UInt8} {g cap : Nat} {ci : Int} (hci : (b.toNat : Int) = ci) (hown : w9.ownsRow B 5 1 (.slice (some ⟨g, 0, none⟩) (acc.length + 1) cap) (acc.length + 1) (Lib.byteCells acc ++ [.int .u8 ci])) :
    w9.ownsRow B 5 1 (.slice (some ⟨g, 0, none⟩) (acc.length + 1) cap) (acc ++ [b]).length (Lib.byteCells (acc ++ [b])) := by
  subst hci
  have e1 : (acc ++ [b]).length = acc.length + 1 := by simp
  have e2 : Lib.byteCells (acc ++ [b]) = Lib.byteCells acc ++ [.int .u8 (b.toNat : Int)] := by simp [Lib.byteCells]
  rw [e1, e2]
  exact hown
theorem own_mark (w : World) (x : UInt8) : (w.alloc (.cells #[.int .u8 (x.toNat : Int)] 5)).ownsRow w.heap.size 5 1 (.slice (some ⟨w.heap.size, 0, none⟩) 1 1) ([x] : List UInt8).length (Lib.byteCells [x]) :=
  ⟨rfl, .inr ⟨w.heap.size, 1, _, rfl, Nat.le_refl _, heap_alloc_new w _, Nat.le_refl _, by unfold maxLen; decide, rfl, rfl⟩⟩

/-- Where the reference's Quote stands. -/
structure RQ (W : World) (s : ByteArray) (wr : World) (v : Value) (pos : Nat) (acc : List UInt8) : Prop where
  le : pos ≤ s.size
  own : wr.ownsRow W.heap.size 5 1 v acc.length (Lib.byteCells acc)
  below : Below W.heap.size W wr
  len : acc.length ≤ 1 + 10 * pos
  eq : acc ++ qS (s.size - pos) (s.data.toList.drop pos) = 34 :: qS s.size s.data.toList

set_option maxRecDepth 100000 in
set_option maxHeartbeats 8000000 in
theorem RefQuote_any (s : ByteArray) (w : World) (hs : s.size ≤ 1000000000000) :
    Calls Tryd.prog 44 #[.string s] w fun e w' => e = .returned (.string ⟨(quoteL s.data.toList).toArray⟩) ∧ Below w.heap.size w w' := by
  obtain ⟨i0, hi, hz0, hz1, hz2⟩ := info_parts info8'
  have hsl := Tryd.underlying45
  have HM := Lib.hid (own_mark w 34)
  have HB0 := Lib.hid (show Below w.heap.size w (w.alloc (.cells #[.int .u8 34] 5)) from (Below.refl _ _).alloc (Nat.le_refl _) _)
  go_enter Tryd.func44, Tryd.ntmps44
  go_wp2_with fail
  go_loopw [3, 4] (fun v i wr => ∃ (pos : Nat) (acc : List UInt8), i = .int .i64 pos ∧ RQ w s wr v pos acc) (fun _ i _ => s.size - (intOf i).toNat)
  case atStart => exact ⟨0, [34], rfl, Nat.zero_le _, HM.out, HB0.out, by simp, rfl⟩
  case round =>
    obtain ⟨pos, acc, rfl, hq⟩ := hrel
    have HQ := Lib.hid hq
    have hp := hq.le
    have hlen := hq.len
    clear hq HM HB0
    obtain ⟨wo, rfl⟩ : ∃ wo : World, wo = wr := ⟨_, rfl⟩
    by_cases hlt : pos < s.size
    · have hne : s.data.toList.drop pos ≠ [] := by
        intro e; have := congrArg List.length e; rw [List.length_drop, size_toList] at this; simp at this; omega
      have HN := Lib.hid hne
      have HSQ := Lib.hid (fun w => Sequence_any s pos w hlt (by omega))
      cases hsq : seq (s.data.toList.drop pos) with
      | none =>
        have hso := seqO_none hne hsq
        rw [hso] at HSQ
        have hx1 := byte_index s pos hlt
        have HX := Lib.hid (qS_none (f := s.size - pos) (by omega) hne hsq)
        rw [seq_none_len hne hsq] at HX
        generalize (s.data.toList.drop pos).headD 0 = x at hx1 HX
        have hxl := x.toNat_lt
        have HD := Lib.hid (fun w => digits_two x.toNat w (by omega))
        have HT := Lib.hid (show (⟨#[92, 120]⟩ : ByteArray) ++ ⟨#[dig (x.toNat / 16), dig (x.toNat % 16)]⟩ = ⟨(qX x).toArray⟩ from app_str [92, 120] [dig (x.toNat / 16), dig (x.toNat % 16)])
        obtain ⟨X, hX⟩ : ∃ X : ByteArray, (⟨#[dig (x.toNat / 16), dig (x.toNat % 16)]⟩ : ByteArray) = X := ⟨_, rfl⟩
        have hXs : X.size = 2 := by rw [← hX]; rfl
        rw [hX] at HD HT
        obtain ⟨n, hn⟩ : ∃ n, x.toNat = n := ⟨_, rfl⟩
        rw [hn] at hx1 HD hxl
        obtain ⟨T, hTT⟩ : ∃ T : ByteArray, (⟨(qX x).toArray⟩ : ByteArray) = T := ⟨_, rfl⟩
        rw [hTT] at HT
        have hTl : T.data.toList = qX x := by rw [← hTT]
        obtain ⟨p, hpp⟩ : ∃ p, qX x = p := ⟨_, rfl⟩
        have hpl : p.length ≤ 10 := by rw [← hpp]; show 4 ≤ 10; decide
        rw [hpp] at hTl HX
        clear hne hsq hso hX hn hTT hpp
        go_wp2_with fail
        refine (HSQ.out _).mono ?_
        rintro e w2 ⟨rfl, rfl⟩
        go_wp2_with fail
        refine (HD.out _).mono ?_
        rintro e w2 ⟨rfl, rfl⟩
        go_wp2_with fail
        rw [HT.out]
        obtain ⟨L, hL⟩ : ∃ L, p.length = L := ⟨_, rfl⟩
        have hTs : T.size = L := by rw [← size_toList, hTl, hL]
        rw [hL] at hpl
        have HO0 := Lib.hid (HQ.out.own)
        have HBW := Lib.hid (HQ.out.below)
        have HTL := Lib.hid hTl
        have HL := Lib.hid hL
        have HTS := Lib.hid hTs
        have HLA := Lib.hid (show acc.length ≤ 20000000000000 by omega)
        clear hTl hL
        go_loopw [3, 8] (fun v j wy => ∃ m : Nat, j = .int .i64 m ∧ m ≤ L ∧ wy.ownsRow w.heap.size 5 1 v (acc ++ p.take m).length (Lib.byteCells (acc ++ p.take m)) ∧ Below w.heap.size w wy) (fun _ j _ => L - (intOf j).toNat)
        case atStart => exact ⟨0, rfl, Nat.zero_le _, by simpa using HO0.out, HBW.out⟩
        case round =>
          obtain ⟨m, rfl, hm, hao, hby⟩ := hrel
          have HBY := Lib.hid hby
          clear hby
          by_cases hml : m < L
          · have hmq : m < p.length := by have := HL.out; omega
            have HTK := Lib.hid (show acc ++ p.take (m + 1) = acc ++ p.take m ++ [p.getD m 0] by
              rw [List.take_add_one, List.getElem?_eq_getElem hmq, ← List.append_assoc]
              simp [List.getD, List.getElem?_eq_getElem hmq])
            have hal : (acc ++ p.take m).length ≤ 20000000000000 + 10 := by have := HLA.out; rw [List.length_append, List.length_take]; omega
            have d1 := byte_at T m (p.getD m 0) (p.drop (m + 1)) (by rw [HTL.out, List.drop_eq_getElem_cons hmq]; simp [List.getD, List.getElem?_eq_getElem hmq])
            obtain ⟨cc, hcc⟩ : ∃ cc, p.getD m 0 = cc := ⟨_, rfl⟩
            rw [hcc] at d1 HTK
            obtain ⟨ac, hac⟩ : ∃ ac, acc ++ p.take m = ac := ⟨_, rfl⟩
            rw [hac] at HTK hal hao
            have HAO := Lib.hid hao
            have HAL := Lib.hid hal
            have HML := Lib.hid hml
            obtain ⟨ci, hci⟩ : ∃ ci : Int, (cc.toNat : Int) = ci := ⟨_, rfl⟩
            rw [hci] at d1
            have HCI := Lib.hid hci
            clear hcc hac hal hao hci hmq
            go_wp2_with (at_builtin; refine wpList_append_lies _ rfl (.tmp 36) (.tmp 40) 45 rfl w.heap.size 5 i0 (.int .u8 0) 1 1 hsl hi hz0 hz1 hz2 rfl (by decide) _ _ (Lib.byteCells ac) rfl (own_alloc HAO.out ((Below.refl _ _).alloc (Nat.le_refl _) _)) _ 1 1 [.int .u8 ci] rfl rfl (fun j u hj => news_at _ _ _ j u hj) (by intro u hu; simp at hu; subst hu; rfl) (by decide) (by have := HAL.out; unfold maxLen; omega) (by have := HAL.out; omega) (by have := HBY.out.size; simp; omega) _ rfl ?_; intro g cap w9 hown hgrow hat hgl; have HPU := Lib.hid (own_push (b := cc) HCI.out hown); have HB9 := Lib.hid ((HBY.out.alloc HBY.out.size _).grown hgrow (by have := HBY.out.size; simp; omega) (fun k hk => (HAO.out.lt k hk).1)); clear hown hgrow hat hgl)
            go_roundw
            case rel => exact ⟨m + 1, by go_num, HML.out, by rw [HTK.out]; exact HPU.out, HB9.out⟩
            case measure => have := HML.out; simp [intOf]; omega
          · have hmL : m = p.length := by have := HL.out; omega
            rw [hmL, List.take_length] at hao
            have HF := Lib.hid hao
            clear hao hmL
            go_wp2_with fail
            go_roundw
            case rel =>
              refine ⟨pos + 1, acc ++ p, by go_num, by omega, HF.out, HBY.out, by rw [List.length_append, HL.out]; omega, ?_⟩
              rw [← HQ.out.eq, HX.out, List.append_assoc, List.drop_drop]
              congr 2
              all_goals exact qS_fuel _ _ _ (by rw [List.length_drop, size_toList]; omega) (by rw [List.length_drop, size_toList]; omega)
            case measure => simp [intOf]; omega
      | some r =>
        have hso := seqO_some hne hsq
        rw [hso] at HSQ
        have hv := seq_some hne hsq
        have hvr := (valid_iff r).1 hv.1
        have hw4 := encB_len r
        obtain ⟨x, rfl⟩ : ∃ x : Nat, r = (x : Int) := ⟨r.toNat, by omega⟩
        have HX := Lib.hid (qS_some (f := s.size - pos) (by omega) hne hsq)
        have HD := Lib.hid (fun w => written_any x w (by omega))
        have hwid := seq_width hne hsq
        have hwle : (encB (x : Int)).length ≤ s.size - pos := by
          have := decL_le _ hne
          have h2 : (decL (s.data.toList.drop pos)).2 = (encB (x : Int)).length := by rw [hwid]
          rw [h2, List.length_drop, size_toList] at this
          exact this
        obtain ⟨T, hTT⟩ : ∃ T : ByteArray, (⟨(qR (x : Int)).toArray⟩ : ByteArray) = T := ⟨_, rfl⟩
        rw [hTT] at HD
        have hTl : T.data.toList = qR (x : Int) := by rw [← hTT]
        have hpl0 := qR_le (x : Int) (by omega)
        obtain ⟨p, hpp⟩ : ∃ p, qR (x : Int) = p := ⟨_, rfl⟩
        rw [hpp] at hTl HX hpl0
        have hpl : p.length ≤ 10 := hpl0
        obtain ⟨k, hk⟩ : ∃ k, (encB (x : Int)).length = k := ⟨_, rfl⟩
        rw [hk] at HSQ HX hw4 hwle
        have b0 : ((k : Int) == 0) = false := by simp; omega
        clear hne hsq hso hTT hpp hpl0 hv hvr hwid hk
        go_wp2_with fail
        refine (HSQ.out _).mono ?_
        rintro e w2 ⟨rfl, rfl⟩
        go_wp2_with fail
        refine (HD.out _).mono ?_
        rintro e w2 ⟨rfl, hb2⟩
        have HB2 := Lib.hid hb2
        clear hb2
        go_wp2_with fail
        obtain ⟨L, hL⟩ : ∃ L, p.length = L := ⟨_, rfl⟩
        have hTs : T.size = L := by rw [← size_toList, hTl, hL]
        rw [hL] at hpl
        have HO0 := Lib.hid (own_alloc HQ.out.own HB2.out)
        have HBW := Lib.hid (HQ.out.below.trans (HB2.out.mono HQ.out.below.size))
        have HTL := Lib.hid hTl
        have HL := Lib.hid hL
        have HTS := Lib.hid hTs
        have HLA := Lib.hid (show acc.length ≤ 20000000000000 by omega)
        clear hTl hL
        go_loopw [3, 8] (fun v j wy => ∃ m : Nat, j = .int .i64 m ∧ m ≤ L ∧ wy.ownsRow w.heap.size 5 1 v (acc ++ p.take m).length (Lib.byteCells (acc ++ p.take m)) ∧ Below w.heap.size w wy) (fun _ j _ => L - (intOf j).toNat)
        case atStart => exact ⟨0, rfl, Nat.zero_le _, by simpa using HO0.out, HBW.out⟩
        case round =>
          obtain ⟨m, rfl, hm, hao, hby⟩ := hrel
          have HBY := Lib.hid hby
          clear hby
          by_cases hml : m < L
          · have hmq : m < p.length := by have := HL.out; omega
            have HTK := Lib.hid (show acc ++ p.take (m + 1) = acc ++ p.take m ++ [p.getD m 0] by
              rw [List.take_add_one, List.getElem?_eq_getElem hmq, ← List.append_assoc]
              simp [List.getD, List.getElem?_eq_getElem hmq])
            have hal : (acc ++ p.take m).length ≤ 20000000000000 + 10 := by have := HLA.out; rw [List.length_append, List.length_take]; omega
            have d1 := byte_at T m (p.getD m 0) (p.drop (m + 1)) (by rw [HTL.out, List.drop_eq_getElem_cons hmq]; simp [List.getD, List.getElem?_eq_getElem hmq])
            obtain ⟨cc, hcc⟩ : ∃ cc, p.getD m 0 = cc := ⟨_, rfl⟩
            rw [hcc] at d1 HTK
            obtain ⟨ac, hac⟩ : ∃ ac, acc ++ p.take m = ac := ⟨_, rfl⟩
            rw [hac] at HTK hal hao
            have HAO := Lib.hid hao
            have HAL := Lib.hid hal
            have HML := Lib.hid hml
            obtain ⟨ci, hci⟩ : ∃ ci : Int, (cc.toNat : Int) = ci := ⟨_, rfl⟩
            rw [hci] at d1
            have HCI := Lib.hid hci
            clear hcc hac hal hao hci hmq
            go_wp2_with (at_builtin; refine wpList_append_lies _ rfl (.tmp 36) (.tmp 40) 45 rfl w.heap.size 5 i0 (.int .u8 0) 1 1 hsl hi hz0 hz1 hz2 rfl (by decide) _ _ (Lib.byteCells ac) rfl (own_alloc HAO.out ((Below.refl _ _).alloc (Nat.le_refl _) _)) _ 1 1 [.int .u8 ci] rfl rfl (fun j u hj => news_at _ _ _ j u hj) (by intro u hu; simp at hu; subst hu; rfl) (by decide) (by have := HAL.out; unfold maxLen; omega) (by have := HAL.out; omega) (by have := HBY.out.size; simp; omega) _ rfl ?_; intro g cap w9 hown hgrow hat hgl; have HPU := Lib.hid (own_push (b := cc) HCI.out hown); have HB9 := Lib.hid ((HBY.out.alloc HBY.out.size _).grown hgrow (by have := HBY.out.size; simp; omega) (fun k hk => (HAO.out.lt k hk).1)); clear hown hgrow hat hgl)
            go_roundw
            case rel => exact ⟨m + 1, by go_num, HML.out, by rw [HTK.out]; exact HPU.out, HB9.out⟩
            case measure => have := HML.out; simp [intOf]; omega
          · have hmL : m = p.length := by have := HL.out; omega
            rw [hmL, List.take_length] at hao
            have HF := Lib.hid hao
            clear hao hmL
            go_wp2_with fail
            go_roundw
            case rel =>
              refine ⟨pos + k, acc ++ p, by go_num, by omega, HF.out, HBY.out, by rw [List.length_append, HL.out]; omega, ?_⟩
              rw [← HQ.out.eq, HX.out, List.append_assoc, List.drop_drop]
              congr 2
              all_goals exact qS_fuel _ _ _ (by rw [List.length_drop, size_toList]; omega) (by rw [List.length_drop, size_toList]; omega)
            case measure => simp [intOf]; omega
    · have hend : acc ++ [34] = quoteL s.data.toList := by
        have := HQ.out.eq
        rw [show s.size - pos = 0 by omega] at this
        simp only [qS, List.append_nil] at this
        rw [this]; rfl
      have HE := Lib.hid (show (⟨(quoteL s.data.toList).toArray⟩ : ByteArray) = ⟨(acc ++ [34]).toArray⟩ by rw [hend])
      obtain ⟨l2, hl2⟩ : ∃ l2, acc ++ [34] = l2 := ⟨_, rfl⟩
      rw [hl2] at HE
      have HL2 := Lib.hid hl2
      clear hend hl2
      go_upto_region 15 with fail
      go_cut [3] (fun v wx => wx.ownsRow w.heap.size 5 1 v l2.length (Lib.byteCells l2) ∧ Below w.heap.size w wx)
      case first =>
        go_wp2_with (at_builtin; refine wpList_append_lies _ rfl (.tmp 45) (.tmp 46) 45 rfl w.heap.size 5 i0 (.int .u8 0) 1 1 hsl hi hz0 hz1 hz2 rfl (by decide) _ _ (Lib.byteCells acc) rfl (own_alloc HQ.out.own ((Below.refl _ _).alloc (Nat.le_refl _) _)) _ 1 1 [.int .u8 34] rfl rfl (fun j u hj => news_at _ _ _ j u hj) (by intro u hu; simp at hu; subst hu; rfl) (by decide) (by have := HQ.out.len; unfold maxLen; omega) (by have := HQ.out.len; omega) (by have := HQ.out.below.size; simp; omega) _ rfl ?_; intro g cap w9 hown hgrow hat hgl; have HPU := Lib.hid (own_push (b := 34) rfl hown); have HB9 := Lib.hid ((HQ.out.below.alloc HQ.out.below.size _).grown hgrow (by have := HQ.out.below.size; simp; omega) (fun k hk => (HQ.out.own.lt k hk).1)); clear hown hgrow hat hgl)
        go_meet
        exact ⟨by rw [← HL2.out]; exact HPU.out, HB9.out⟩
      case rest =>
        obtain ⟨ho, hb⟩ := hcut
        have HBX := Lib.hid hb
        obtain ⟨A', c', hv, hcap, hcb⟩ := own_bytes ho
        have hcv := conv_bytes (c := c') hcb
        subst hv
        clear ho hb hcap hcb
        go_wp2_with fail
        go_ret
        exact ⟨by rw [HE.out]; rfl, HBX.out⟩
end Go.Proofs.YtfgekdefnbohbaaDoor.U
