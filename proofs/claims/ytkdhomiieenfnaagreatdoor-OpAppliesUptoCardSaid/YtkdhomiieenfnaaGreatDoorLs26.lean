/- Bytes made strings, and parts of strings. The program's ending and escape. The program's escape. The program's Unquote. -/
import Derived.Test.YtkdhomiieenfnaaGreatDoorLs2
import Derived.Lib.Builder
import Derived.Laws.Strings2
import Derived.Test.YtkdhomiieenfnaaGreatDoorUErr
import Derived.Test.YtkdhomiieenfnaaGreatDoorUBuild
import Derived.Test.YtkdhomiieenfnaaGreatDoorUQuote
namespace Go.Proofs.YtkdhomiieenfnaaGreatDoor.U
open Go.RowKit Go.Proofs.YtkdhomiieenfnaaGreatDoor.Txt
set_option linter.unusedVariables false
set_option linter.unusedSimpArgs false

/-- A slice of bytes in memory (nil, if there are none and it is nil). -/
def CellsB (w : World) (A : Option Addr) (l : List UInt8) : Prop := 0 < l.length → ∃ ad, A = some ad ∧ ∀ j, j < l.length → w.cell? (ad.add j) = some (.int .u8 ((l.getD j 0).toNat : Int))
theorem push_fold : ∀ (l : List UInt8) (a : ByteArray), ((l.map fun b => (b.toNat : Int)).foldl (fun r n => r.push (UInt8.ofNat n.toNat)) a).data.toList = a.data.toList ++ l
  | [], a => by simp
  | b :: l, a => by
    rw [List.map_cons, List.foldl_cons, push_fold l]
    simp [ByteArray.push]
theorem conv_bytes {W : World} {A : Option Addr} {c : Nat} {l : List UInt8} (h : CellsB W A l) : (convert 109 9 (.slice A l.length c)).run Tryz.prog W = .ok (.string ⟨l.toArray⟩) W := by
  have hstr : ∀ ns : List Int, ns = l.map (fun b => (b.toNat : Int)) → ns.foldl (fun r n => r.push (UInt8.ofNat n.toNat)) ByteArray.empty = ⟨l.toArray⟩ := fun ns hn => by
    subst hn
    have := push_fold l ByteArray.empty
    apply ByteArray.ext
    rw [← Array.toList_inj, this]
    simp
  rcases Nat.eq_zero_or_pos l.length with h0 | h0
  · obtain rfl : l = [] := List.length_eq_zero_iff.1 h0
    rw [run_convert_bytes_string W _ _ _ _ _ _ Tryz.underlying109 Tryz.underlying5 Tryz.underlying9]
    cases A with
    | none => rfl
    | some a => exact run_bytesToString W a 0 c [] (by rw [run_loadCells W a 0 (fun _ => .int .u8 0) (fun j hj => by omega)]; rfl)
  · obtain ⟨ad, rfl, hc⟩ := h h0
    rw [run_convert_bytes_string W _ _ _ _ _ _ Tryz.underlying109 Tryz.underlying5 Tryz.underlying9, ← hstr _ rfl]
    have hl : l.length = (l.map fun b => (b.toNat : Int)).length := by simp
    rw [hl]
    apply run_bytesToString
    rw [run_loadCells W ad _ (fun j => .int .u8 ((l.map fun b => (b.toNat : Int)).getD j 0)) (fun j hj => ?_), range_map_take _ _ _ (Nat.le_refl _), List.take_length]
    have hj2 : j < l.length := by simpa using hj
    rw [hc j hj2]
    simp [List.getD, List.getElem?_map, List.getElem?_eq_getElem hj2]
theorem extract_list (S : ByteArray) (a b : Nat) (h : a ≤ b) : (S.extract a b).data.toList = (S.data.toList.take b).drop a := by
  have e : S = ⟨S.data.toList.toArray⟩ := by simp
  conv => lhs; rw [e]
  rw [ByteArray.extract_mk]
  show (S.data.toList.drop a).take (b - a) = _
  rw [List.drop_take]
end Go.Proofs.YtkdhomiieenfnaaGreatDoor.U

namespace Go.Proofs.YtkdhomiieenfnaaGreatDoor.U
open Go.RowKit Go.Proofs.YtkdhomiieenfnaaGreatDoor.Txt
set_option linter.unusedVariables false
set_option linter.unusedSimpArgs false

theorem byte_at (s : ByteArray) (i : Nat) (x : UInt8) (t : List UInt8) (h : s.data.toList.drop i = x :: t) : ∀ w, (Instr.index 9 (.string s) (.int .i64 i)).run Tryz.prog w = .ok (.int .u8 (x.toNat : Int)) w := by
  have hlt : i < s.size := by
    have := congrArg List.length h
    rw [List.length_drop, size_toList] at this
    simp at this; omega
  have := byte_index s i hlt
  rw [h] at this
  exact this
theorem nonempty {s : ByteArray} (h : s.size ≠ 0) : s.toList.isEmpty = false := by
  rw [← decide_eq_emptyBytes]
  exact decide_eq_false (fun e => h (by rw [e]; rfl))

set_option maxRecDepth 100000 in
set_option maxHeartbeats 4000000 in
theorem ending_any (s : ByteArray) (w : World) (hs : s.size ≤ 1000000000000) :
    Calls Tryz.prog 139 #[.string s] w fun e w' => e = .returned (.int .i64 (endL s.data.toList)) ∧ w = w' := by
  obtain ⟨L, hL⟩ : ∃ L, s.data.toList = L := ⟨_, rfl⟩
  have hlen : s.size = L.length := by rw [← hL]; rfl
  rw [hL]
  cases L with
  | nil =>
    obtain rfl : s = ⟨#[]⟩ := by
      apply ByteArray.ext
      rw [← Array.toList_inj, hL]
    go_enter Tryz.func139, Tryz.ntmps139
    go_wp2
    go_ret
    exact ⟨rfl, rfl⟩
  | cons c t =>
    have hemp := nonempty (s := s) (by rw [hlen]; simp)
    have i0 : ∀ w, (Instr.index 9 (.string s) (.int .i64 0)).run Tryz.prog w = .ok (.int .u8 (c.toNat : Int)) w := byte_at s 0 c t (by rw [hL]; rfl)
    by_cases hc : c = 34
    case neg =>
      have hx : ¬ c.toNat = 34 := fun e => hc (by rw [← UInt8.toNat_inj, e]; rfl)
      have HE := Lib.hid (show endL (c :: t) = 0 from if_neg hc)
      generalize c.toNat = x at i0 hx
      have b : ((x : Int) != 34) = true := by simp; omega
      clear hlen hc
      go_enter Tryz.func139, Tryz.ntmps139
      go_wp2
      go_ret
      exact ⟨by rw [HE.out]; rfl, rfl⟩
    subst hc
    have i34 : ∀ w, (Instr.index 9 (.string s) (.int .i64 0)).run Tryz.prog w = .ok (.int .u8 34) w := fun w => (i0 w).trans (by rfl)
    have HL := Lib.hid hL
    have HN := Lib.hid hlen
    have HE := Lib.hid (show endL (34 :: t) = endT false t 1 by simp [endL])
    clear i0 hlen hL
    go_enter Tryz.func139, Tryz.ntmps139
    go_wp2
    clear i34 hemp
    go_loop [3] (fun v => ∃ i : Nat, v = .int .i64 i ∧ 1 ≤ i ∧ i ≤ s.size + 1 ∧ endT false t 1 = endT false ((34 :: t).drop i) i) (fun v => s.size + 1 - (intOf v).toNat)
    case atStart => exact ⟨1, rfl, by omega, by omega, rfl⟩
    case round =>
      obtain ⟨i, rfl, h1, h2, hh⟩ := hrel
      by_cases hlt : i < s.size
      case neg =>
        have HF := Lib.hid (show endL (34 :: t) = 0 by rw [HE.out, hh, List.drop_eq_nil_of_le (by rw [← HN.out]; omega)]; rfl)
        clear hh
        go_wp2_with fail
        go_ret
        exact ⟨by rw [HF.out]; rfl, rfl⟩
      case pos =>
        obtain ⟨x, u, hd⟩ : ∃ x u, (34 :: t).drop i = x :: u := by
          cases h : (34 :: t).drop i with
          | nil => exact absurd (congrArg List.length h) (by rw [List.length_drop, ← HN.out]; simp; omega)
          | cons x u => exact ⟨x, u, rfl⟩
        have hi := byte_at s i x u (by rw [HL.out, hd])
        have hd1 : (34 :: t).drop (i + 1) = u := by rw [← List.drop_drop, hd]; rfl
        rw [hd] at hh
        simp only [endT] at hh
        by_cases hx : x = 34
        · subst hx
          rw [if_pos rfl] at hh
          have hi2 : ∀ w, (Instr.index 9 (.string s) (.int .i64 i)).run Tryz.prog w = .ok (.int .u8 34) w := fun w => (hi w).trans (by rfl)
          have HF := Lib.hid (HE.out.trans hh)
          clear hh hi hd hd1
          go_wp2_with fail
          go_ret
          exact ⟨by rw [HF.out]; rfl, rfl⟩
        rw [if_neg hx] at hh
        by_cases hy : x = 92
        · subst hy
          rw [if_pos rfl] at hh
          have hi2 : ∀ w, (Instr.index 9 (.string s) (.int .i64 i)).run Tryz.prog w = .ok (.int .u8 92) w := fun w => (hi w).trans (by rfl)
          have HF := Lib.hid (show endT false t 1 = endT false ((34 :: t).drop (i + 2)) (i + 2) by
            rw [hh, show i + 2 = (i + 1) + 1 from rfl, ← List.drop_drop, hd1]
            cases u with
            | nil => rfl
            | cons z u => simp [endT])
          clear hh hi hd hd1 hx
          go_wp2_with fail
          go_round
          case rel => exact ⟨i + 2, by go_num, by omega, by omega, HF.out⟩
          case measure => simp [intOf]; omega
        · rw [if_neg hy] at hh
          have hx1 : ¬ x.toNat = 34 := fun e => hx (by rw [← UInt8.toNat_inj, e]; rfl)
          have hy1 : ¬ x.toNat = 92 := fun e => hy (by rw [← UInt8.toNat_inj, e]; rfl)
          have HF := Lib.hid (show endT false t 1 = endT false ((34 :: t).drop (i + 1)) (i + 1) by rw [hh, hd1])
          generalize x.toNat = y at hi hx1 hy1
          have b1 : ((y : Int) == 34) = false := by simp; omega
          have b2 : ((y : Int) == 92) = false := by simp; omega
          clear hh hd hd1 hx hy hx1 hy1
          go_wp2_with fail
          go_round
          case rel => exact ⟨i + 1, by go_num, by omega, by omega, HF.out⟩
          case measure => simp [intOf]; omega

theorem parseF_lt : ∀ (l : List UInt8) (a n : Nat), parseF a l = some n → n < (a + 1) * 16 ^ l.length
  | [], a, n, h => by simp only [parseF, Option.some.injEq] at h; simp; omega
  | c :: t, a, n, h => by
    simp only [parseF] at h
    cases hv : hexV c with
    | none => rw [hv] at h; cases h
    | some d =>
      rw [hv] at h
      have hd : d < 16 := by
        unfold hexV at hv
        repeat' split at hv
        all_goals (first | cases hv; omega | cases hv)
      have := parseF_lt t _ n h
      have h2 : (a * 16 + d + 1) * 16 ^ t.length ≤ ((a + 1) * 16) * 16 ^ t.length := Nat.mul_le_mul_right _ (by omega)
      rw [List.length_cons, Nat.pow_succ, Nat.mul_comm (16 ^ t.length) 16, ← Nat.mul_assoc]
      omega
theorem index_idx : ∀ (l : List UInt8) (c : UInt8), Lib.indexByte l c = match idxL c l with | none => -1 | some e => (e : Int)
  | [], c => rfl
  | b :: l, c => by
    have ih := index_idx l c
    unfold Lib.indexByte idxL
    by_cases h : b = c
    · rw [if_pos h, if_pos (by simpa using h)]; rfl
    · rw [if_neg h, if_neg (by simpa using h), ih]
      cases idxL c l with
      | none => rfl
      | some e => simp <;> omega
theorem idxL_lt : ∀ (l : List UInt8) (c : UInt8) (e : Nat), idxL c l = some e → e < l.length
  | [], c, e, h => by cases h
  | x :: t, c, e, h => by
    unfold idxL at h
    split at h
    · cases h; simp
    · cases hi : idxL c t with
      | none => rw [hi] at h; cases h
      | some k => rw [hi] at h; cases h; have := idxL_lt t c k hi; simp; omega
end Go.Proofs.YtkdhomiieenfnaaGreatDoor.U

namespace Go.Proofs.YtkdhomiieenfnaaGreatDoor.U
open Go.RowKit Go.Proofs.YtkdhomiieenfnaaGreatDoor.Txt
set_option linter.unusedVariables false
set_option linter.unusedSimpArgs false
attribute [local go_sem] frozen?_alloc_cells

/-- What escape hands back. -/
def EscRes (l : List UInt8) (e : Ending) : Prop := ∃ W : ByteArray, e = .returned (.tuple #[.string W, .int .i64 (escL l).2]) ∧ W.data.toList = (escL l).1
theorem EscRes.none {l : List UInt8} (h : escL l = ([], 0)) : EscRes l (.returned (.tuple #[.string ⟨#[]⟩, .int .i64 0])) := ⟨⟨#[]⟩, by rw [h]; rfl, by rw [h]⟩
theorem EscRes.some {l x : List UInt8} {k : Nat} {W : ByteArray} {e : Ending} (h : escL l = (x, k)) (he : e = .returned (.tuple #[.string W, .int .i64 k])) (hw : W.data.toList = x) : EscRes l e := ⟨W, by rw [he, h], by rw [h]; exact hw⟩
/-- The cells of one byte that is laid as a slice. -/
theorem conv_one (w : World) (x : UInt8) : (convert 109 9 (.slice (some ⟨w.heap.size, 0, none⟩) 1 1)).run Tryz.prog (w.alloc (.cells #[.int .u8 (x.toNat : Int)] 5)) = .ok (.string ⟨#[x]⟩) (w.alloc (.cells #[.int .u8 (x.toNat : Int)] 5)) := by
  refine conv_bytes (l := [x]) (c := 1) ?_
  intro _
  refine ⟨_, rfl, fun j hj => ?_⟩
  obtain rfl : j = 0 := by simp at hj; omega
  rw [show Addr.add ⟨w.heap.size, 0, none⟩ 0 = ⟨w.heap.size, 0, none⟩ from rfl, Lib.cell_of_heap (heap_alloc_new w _)]
  rfl

set_option maxRecDepth 100000 in
set_option maxHeartbeats 4000000 in
theorem escape_plain (s : ByteArray) (w : World) (h : UInt8) (t : List UInt8) (hL : s.data.toList = h :: t) (hx : h ≠ 120) (hu : h ≠ 117) :
    Calls Tryz.prog 140 #[.string s] w fun e w' => EscRes s.data.toList e ∧ Below w.heap.size w w' := by
  have hlen : s.size = (h :: t).length := by rw [← hL]; rfl
  have hemp := nonempty (s := s) (by rw [hlen]; simp)
  have hsz : 1 ≤ s.size := by rw [hlen]; simp
  have i0 : ∀ w, (Instr.index 9 (.string s) (.int .i64 0)).run Tryz.prog w = .ok (.int .u8 (h.toNat : Int)) w := byte_at s 0 h t (by rw [hL]; rfl)
  have hsl : ∀ W : World, (Instr.slice 9 (.string s) none (some (.int .i64 1)) none).run Tryz.prog W = .ok (.string ⟨#[h]⟩) W := fun W => by
    rw [run_slice_string_h W 9 s Tryz.underlying9 .i64 1 (by omega) (by omega)]
    congr 2
    apply ByteArray.ext
    rw [← Array.toList_inj]
    have := extract_list s 0 1 (by omega)
    rw [hL] at this
    exact this
  rw [hL]
  have hn : ∀ c : UInt8, h ≠ c → ¬ h.toNat = c.toNat := fun c hc e => hc (UInt8.toNat_inj.1 e)
  by_cases h34 : h = 34
  · subst h34
    have HE := Lib.hid (show escL (34 :: t) = ([34], 1) by simp [escL])
    have i1 : ∀ w, (Instr.index 9 (.string s) (.int .i64 0)).run Tryz.prog w = .ok (.int .u8 34) w := fun w => (i0 w).trans (by rfl)
    clear i0 hn hlen hL
    go_enter Tryz.func140, Tryz.ntmps140
    go_wp2
    go_ret2
    exact ⟨.some HE.out rfl rfl, Below.refl _ _⟩
  by_cases h92 : h = 92
  · subst h92
    have HE := Lib.hid (show escL (92 :: t) = ([92], 1) by simp [escL])
    have i1 : ∀ w, (Instr.index 9 (.string s) (.int .i64 0)).run Tryz.prog w = .ok (.int .u8 92) w := fun w => (i0 w).trans (by rfl)
    clear i0 hn hlen hL
    go_enter Tryz.func140, Tryz.ntmps140
    go_wp2
    go_ret2
    exact ⟨.some HE.out rfl rfl, Below.refl _ _⟩
  by_cases h110 : h = 110
  · subst h110
    have HE := Lib.hid (show escL (110 :: t) = ([10], 1) by simp [escL])
    have i1 : ∀ w, (Instr.index 9 (.string s) (.int .i64 0)).run Tryz.prog w = .ok (.int .u8 110) w := fun w => (i0 w).trans (by rfl)
    clear i0 hn hlen hL
    go_enter Tryz.func140, Tryz.ntmps140
    go_wp2
    go_ret2
    exact ⟨.some HE.out rfl rfl, Below.refl _ _⟩
  by_cases h116 : h = 116
  · subst h116
    have HE := Lib.hid (show escL (116 :: t) = ([9], 1) by simp [escL])
    have i1 : ∀ w, (Instr.index 9 (.string s) (.int .i64 0)).run Tryz.prog w = .ok (.int .u8 116) w := fun w => (i0 w).trans (by rfl)
    clear i0 hn hlen hL
    go_enter Tryz.func140, Tryz.ntmps140
    go_wp2
    go_ret2
    exact ⟨.some HE.out rfl rfl, Below.refl _ _⟩
  have HE := Lib.hid (show escL (h :: t) = ([], 0) by simp [escL, h34, h92, h110, h116, hx, hu])
  have n1 : ¬ h.toNat = 34 := hn 34 h34
  have n2 : ¬ h.toNat = 92 := hn 92 h92
  have n3 : ¬ h.toNat = 110 := hn 110 h110
  have n4 : ¬ h.toNat = 116 := hn 116 h116
  have n5 : ¬ h.toNat = 120 := hn 120 hx
  have n6 : ¬ h.toNat = 117 := hn 117 hu
  obtain ⟨y, hy⟩ : ∃ y, h.toNat = y := ⟨_, rfl⟩
  rw [hy] at i0 n1 n2 n3 n4 n5 n6
  have b1 : ((y : Int) == 34) = false := by simp; omega
  have b2 : ((y : Int) == 92) = false := by simp; omega
  have b3 : ((y : Int) == 110) = false := by simp; omega
  have b4 : ((y : Int) == 116) = false := by simp; omega
  have b5 : ((y : Int) == 120) = false := by simp; omega
  have b6 : ((y : Int) == 117) = false := by simp; omega
  clear hn hlen hL hy n1 n2 n3 n4 n5 n6 h34 h92 h110 h116 hx hu hsl
  go_enter Tryz.func140, Tryz.ntmps140
  go_wp2
  go_ret2
  exact ⟨.none HE.out, Below.refl _ _⟩

set_option maxRecDepth 100000 in
set_option maxHeartbeats 4000000 in
theorem escape_x (s : ByteArray) (w : World) (t : List UInt8) (hL : s.data.toList = 120 :: t) (hE : EnvQ w) :
    Calls Tryz.prog 140 #[.string s] w fun e w' => EscRes s.data.toList e ∧ Below w.heap.size w w' := by
  have hlen : s.size = (120 :: t).length := by rw [← hL]; rfl
  have hemp := nonempty (s := s) (by rw [hlen]; simp)
  have i0 := byte_at s 0 120 t (by rw [hL]; rfl)
  have i1 : ∀ w, (Instr.index 9 (.string s) (.int .i64 0)).run Tryz.prog w = .ok (.int .u8 120) w := fun w => (i0 w).trans (by rfl)
  clear i0
  by_cases h3 : s.size < 3
  · have HE := Lib.hid (show escL s.data.toList = ([], 0) by rw [hL]; unfold escL; simp only; rw [if_neg (by decide), if_neg (by decide), if_neg (by decide), if_pos trivial, if_pos (by rw [← hlen]; exact h3)])
    clear hlen hL hE
    go_enter Tryz.func140, Tryz.ntmps140
    go_wp2
    go_ret2
    exact ⟨.none HE.out, Below.refl _ _⟩
  obtain ⟨T, hT⟩ : ∃ T, s.extract 1 3 = T := ⟨_, rfl⟩
  have hTl : T.data.toList = t.take 2 := by rw [← hT, extract_list s 1 3 (by omega), hL]; rfl
  have hTs : T.size = 2 := by
    have : T.size = (t.take 2).length := by rw [← hTl]; rfl
    rw [this, List.length_take]
    simp at hlen; omega
  have hsl : ∀ W : World, (Instr.slice 9 (.string s) (some (.int .i64 1)) (some (.int .i64 3)) none).run Tryz.prog W = .ok (.string T) W := fun W => by
    rw [run_slice_string W 9 s .i64 .i64 1 3 Tryz.underlying9 (by omega) (by omega) (by omega)]
    rw [← hT]; rfl
  obtain ⟨ev, hev, hev2⟩ := hE.syn
  have HP := Lib.hid (parse_any T 8 ev w (by omega) hev hev2 (iparse_8 T (by omega) (by omega) w))
  have hesc : escL s.data.toList = match parseH (t.take 2) with | none => ([], 0) | some n => ([UInt8.ofNat n], 3) := by
    rw [hL]; unfold escL; simp only; rw [if_neg (by decide), if_neg (by decide), if_neg (by decide), if_pos trivial, if_neg (by rw [← hlen]; exact h3)]
    rfl
  rw [← hTl] at hesc
  have hlt : ∀ n, parseH T.data.toList = some n → n < 256 := fun n hn => by
    have := parseF_lt _ _ _ hn
    have e : T.data.toList.length = 2 := hTs
    rw [e] at this
    omega
  cases hp : parseH T.data.toList with
  | none =>
    rw [hp] at hesc
    have HE := Lib.hid hesc
    rw [hp] at HP
    clear hlen hL hE hlt hp hesc hev hev2 hTl hT
    go_enter Tryz.func140, Tryz.ntmps140
    go_wp2_with fail
    refine HP.out.mono ?_
    rintro e w1 ⟨⟨Ty, N, rfl⟩, hb⟩
    have HB := Lib.hid hb
    clear hb
    go_wp2_with fail
    go_ret2
    exact ⟨.none HE.out, HB.out⟩
  | some n =>
    rw [hp] at hesc
    have HE := Lib.hid hesc
    have hn := hlt n hp
    rw [hp] at HP
    have e8 : (UInt8.ofNat n).toNat = n := by simp; omega
    have HC := Lib.hid (fun w => conv_one w (UInt8.ofNat n))
    rw [e8] at HC
    clear hlen hL hE hlt hp hesc hev hev2 hTl hT e8
    go_enter Tryz.func140, Tryz.ntmps140
    go_wp2_with fail
    refine HP.out.mono ?_
    rintro e w1 ⟨rfl, hb⟩
    have HB := Lib.hid hb
    have hcv := HC.out w1
    clear hb
    go_wp2_with fail
    go_ret2
    exact ⟨.some HE.out rfl rfl, HB.out.alloc HB.out.size _⟩

set_option maxRecDepth 100000 in
set_option maxHeartbeats 4000000 in
theorem escape_u (s : ByteArray) (w : World) (t : List UInt8) (hL : s.data.toList = 117 :: t) (hE : EnvQ w) (hs : s.size ≤ 1000000000000) :
    Calls Tryz.prog 140 #[.string s] w fun e w' => EscRes s.data.toList e ∧ Below w.heap.size w w' := by
  have hlen : s.size = (117 :: t).length := by rw [← hL]; rfl
  have hemp := nonempty (s := s) (by rw [hlen]; simp)
  have i0 := byte_at s 0 117 t (by rw [hL]; rfl)
  have i1 : ∀ w, (Instr.index 9 (.string s) (.int .i64 0)).run Tryz.prog w = .ok (.int .u8 117) w := fun w => (i0 w).trans (by rfl)
  clear i0
  have hidx := index_idx s.data.toList 125
  have HX := Lib.hid (IndexByte_any s 125 w)
  rw [show (125 : Int).toNat.toUInt8 = 125 from rfl, hidx] at HX
  have hesc : escL s.data.toList = match idxL 125 s.data.toList with
      | none => ([], 0)
      | some e => if e < 3 ∨ 8 < e ∨ s.data.toList.getD 1 0 ≠ 123 then ([], 0) else
        match parseH ((s.data.toList.take e).drop 2) with
        | none => ([], 0)
        | some n => if 1114111 < n then ([], 0) else (encB n, e + 1) := by
    rw [hL]; conv => lhs; unfold escL
    simp only; rw [if_neg (by decide), if_neg (by decide), if_neg (by decide), if_neg (by decide), if_pos trivial]
    rfl
  cases hi : idxL 125 s.data.toList with
  | none =>
    rw [hi] at hesc HX
    have HE := Lib.hid hesc
    clear hlen hL hE hesc hidx hi
    go_enter Tryz.func140, Tryz.ntmps140
    go_wp2_with fail
    refine HX.out.mono ?_
    rintro e w1 ⟨rfl, rfl⟩
    go_wp2_with fail
    go_ret2
    exact ⟨.none HE.out, Below.refl _ _⟩
  | some e =>
    rw [hi] at hesc HX
    simp only at hesc HX
    have helt := idxL_lt _ _ _ hi
    rw [size_toList] at helt
    by_cases he3 : e < 3
    · have HE := Lib.hid (hesc.trans (if_pos (.inl he3)))
      clear hlen hL hE hesc hidx hi
      go_enter Tryz.func140, Tryz.ntmps140
      go_wp2_with fail
      refine HX.out.mono ?_
      rintro e w1 ⟨rfl, rfl⟩
      go_wp2_with fail
      go_ret2
      exact ⟨.none HE.out, Below.refl _ _⟩
    by_cases he8 : 8 < e
    · have HE := Lib.hid (hesc.trans (if_pos (.inr (.inl he8))))
      clear hlen hL hE hesc hidx hi
      go_enter Tryz.func140, Tryz.ntmps140
      go_wp2_with fail
      refine HX.out.mono ?_
      rintro e w1 ⟨rfl, rfl⟩
      go_wp2_with fail
      go_ret2
      exact ⟨.none HE.out, Below.refl _ _⟩
    obtain ⟨c, u, hcu⟩ : ∃ c u, t = c :: u := by
      cases t with
      | nil => simp at hlen; omega
      | cons c u => exact ⟨c, u, rfl⟩
    have j1 : ∀ w, (Instr.index 9 (.string s) (.int .i64 1)).run Tryz.prog w = .ok (.int .u8 (c.toNat : Int)) w := byte_at s 1 c u (by rw [hL, hcu]; rfl)
    have hg1 : s.data.toList.getD 1 0 = c := by rw [hL, hcu]; rfl
    rw [hg1] at hesc
    by_cases hc : c = 123
    case neg =>
      have HE := Lib.hid (hesc.trans (if_pos (.inr (.inr hc))))
      have hcn : ¬ c.toNat = 123 := fun e => hc (UInt8.toNat_inj.1 e)
      generalize c.toNat = y at j1 hcn
      have b : ((y : Int) != 123) = true := by simp; omega
      clear hlen hL hE hesc hidx hi hc hcn hcu hg1
      go_enter Tryz.func140, Tryz.ntmps140
      go_wp2_with fail
      refine HX.out.mono ?_
      rintro e w1 ⟨rfl, rfl⟩
      go_wp2_with fail
      go_ret2
      exact ⟨.none HE.out, Below.refl _ _⟩
    subst hc
    have j2 : ∀ w, (Instr.index 9 (.string s) (.int .i64 1)).run Tryz.prog w = .ok (.int .u8 123) w := fun w => (j1 w).trans (by rfl)
    clear j1
    rw [if_neg (by simp; omega)] at hesc
    obtain ⟨T, hT⟩ : ∃ T, s.extract 2 e = T := ⟨_, rfl⟩
    have hTl : T.data.toList = (s.data.toList.take e).drop 2 := by rw [← hT, extract_list s 2 e (by omega)]
    have hTs : T.size = e - 2 := by
      have : T.size = ((s.data.toList.take e).drop 2).length := by rw [← hTl]; rfl
      rw [this, List.length_drop, List.length_take, size_toList]
      omega
    have hsl : ∀ W : World, (Instr.slice 9 (.string s) (some (.int .i64 2)) (some (.int .i64 e)) none).run Tryz.prog W = .ok (.string T) W := fun W => by
      rw [run_slice_string W 9 s .i64 .i64 2 e Tryz.underlying9 (by omega) (by omega) (by omega), show ((e : Int)).toNat = e by omega]
      rw [← hT]; rfl
    obtain ⟨ev, hev, hev2⟩ := hE.syn
    have HP := Lib.hid (parse_any T 32 ev w (by omega) hev hev2 (iparse_32 T (by omega) (by omega) w))
    rw [← hTl] at hesc
    have z1 : ¬ 8 < e := he8
    have z2 : ¬ e < 3 := he3
    cases hp : parseH T.data.toList with
    | none =>
      rw [hp] at hesc HP
      have HE := Lib.hid hesc
      clear hlen hL hE hp hesc hev hev2 hTl hT hidx hi hg1 hcu
      go_enter Tryz.func140, Tryz.ntmps140
      go_wp2_with fail
      refine HX.out.mono ?_
      rintro e w1 ⟨rfl, rfl⟩
      go_wp2_with fail
      refine HP.out.mono ?_
      rintro e w1 ⟨⟨Ty, N, rfl⟩, hb⟩
      have HB := Lib.hid hb
      clear hb
      go_wp2_with fail
      go_ret2
      exact ⟨.none HE.out, HB.out⟩
    | some n =>
      rw [hp] at hesc HP
      simp only at hesc
      by_cases hbig : 1114111 < n
      · rw [if_pos hbig] at hesc
        have HE := Lib.hid hesc
        clear hlen hL hE hp hesc hev hev2 hTl hT hidx hi hg1 hcu
        go_enter Tryz.func140, Tryz.ntmps140
        go_wp2_with fail
        refine HX.out.mono ?_
        rintro e w1 ⟨rfl, rfl⟩
        go_wp2_with fail
        refine HP.out.mono ?_
        rintro e w1 ⟨rfl, hb⟩
        have HB := Lib.hid hb
        clear hb
        go_wp2_with fail
        go_ret2
        exact ⟨.none HE.out, HB.out⟩
      · rw [if_neg hbig] at hesc
        have HE := Lib.hid hesc
        clear hlen hL hE hp hesc hev hev2 hTl hT hidx hi hg1 hcu
        go_enter Tryz.func140, Tryz.ntmps140
        go_wp2_with fail
        refine HX.out.mono ?_
        rintro e w1 ⟨rfl, rfl⟩
        go_wp2_with fail
        refine HP.out.mono ?_
        rintro e w1 ⟨rfl, hb⟩
        have HB := Lib.hid hb
        clear hb
        go_wp2_with fail
        go_ret2
        exact ⟨.some HE.out (by first | rfl | go_num) rfl, HB.out⟩
end Go.Proofs.YtkdhomiieenfnaaGreatDoor.U

namespace Go.Proofs.YtkdhomiieenfnaaGreatDoor.U
open Go.RowKit Go.Proofs.YtkdhomiieenfnaaGreatDoor.Txt
set_option linter.unusedVariables false
set_option linter.unusedSimpArgs false

set_option maxHeartbeats 4000000 in
theorem escape_nil (s : ByteArray) (w : World) (hL : s.data.toList = []) :
    Calls Tryz.prog 140 #[.string s] w fun e w' => EscRes s.data.toList e ∧ Below w.heap.size w w' := by
  have HE := Lib.hid (show escL s.data.toList = ([], 0) by rw [hL]; rfl)
  obtain rfl : s = ⟨#[]⟩ := by
    apply ByteArray.ext
    rw [← Array.toList_inj, hL]
  go_enter Tryz.func140, Tryz.ntmps140
  go_wp2
  go_ret2
  exact ⟨.none HE.out, Below.refl _ _⟩
theorem escape_any (s : ByteArray) (w : World) (hE : EnvQ w) (hs : s.size ≤ 1000000000000) :
    Calls Tryz.prog 140 #[.string s] w fun e w' => EscRes s.data.toList e ∧ Below w.heap.size w w' := by
  cases hL : s.data.toList with
  | nil => have := escape_nil s w hL; rw [hL] at this; exact this
  | cons h t =>
    rw [← hL]
    by_cases hx : h = 120
    · subst hx; exact escape_x s w t hL hE
    by_cases hu : h = 117
    · subst hu; exact escape_u s w t hL hE hs
    exact escape_plain s w h t hL hx hu
theorem escL_four (l : List UInt8) : (escL l).1.length ≤ 4 := by
  have e4 : ∀ n : Int, (encB n).length ≤ 4 := fun n => (encB_len n).2
  generalize hE : encB = E at e4
  unfold escL
  rw [hE]
  split
  · simp
  · repeat' split
    all_goals first | exact e4 _ | simp
theorem endT_two : ∀ (k : Bool) (l : List UInt8) (i : Nat), endT k l i ≠ 0 → i + 1 ≤ endT k l i
  | k, [], i, h => by cases k <;> exact absurd rfl h
  | true, _ :: t, i, h => by have := endT_two false t (i + 1) h; show i + 1 ≤ endT false t (i + 1); omega
  | false, c :: t, i, h => by
    have h1 := endT_two true t (i + 1)
    have h2 := endT_two false t (i + 1)
    simp only [endT] at h ⊢
    split
    · exact Nat.le_refl _
    · split
      · rename_i a b; rw [if_neg a, if_pos b] at h; have := h1 h; omega
      · rename_i a b; rw [if_neg a, if_neg b] at h; have := h2 h; omega
theorem endL_two (l : List UInt8) (h : endL l ≠ 0) : 2 ≤ endL l := by
  cases l with
  | nil => exact absurd rfl h
  | cons c t =>
    simp only [endL] at h ⊢
    by_cases hc : c = 34
    · rw [if_pos hc] at h ⊢; exact endT_two false t 1 h
    · rw [if_neg hc] at h; exact absurd rfl h

/-- What Unquote hands back. -/
def UnqRes (o : Option (List UInt8 × Nat)) (e : Ending) : Prop := match o with
  | none => e = .returned (.tuple #[.string ⟨#[]⟩, .int .i64 0, .int .i64 13])
  | some (x, n) => e = .returned (.tuple #[.string ⟨x.toArray⟩, .int .i64 n, .int .i64 0])
/-- Where Unquote's loop stands. -/
structure UAt (W : World) (l : List UInt8) (n : Nat) (wr : World) (j : Nat) (acc : List UInt8) : Prop where
  lo : 1 ≤ j
  hi : j + 1 ≤ n
  bld : Bld W.heap.size W.heap.size (Lib.byteCells acc) wr
  below : Below W.heap.size W wr
  len : acc.length ≤ 4 * j
  eq : bodyL ((l.take (n - 1)).drop 1) = (bodyF (n - 1 - j) ((l.take (n - 1)).drop j)).map (acc ++ ·)

set_option maxRecDepth 100000 in
set_option maxHeartbeats 8000000 in
theorem Unquote_any (s : ByteArray) (w : World) (hs : s.size ≤ 1000000000000) (hE : EnvQ w) :
    Calls Tryz.prog 115 #[.string s] w fun e w' => UnqRes (unqL s.data.toList) e ∧ Below w.heap.size w w' := by
  obtain ⟨l, hl⟩ : ∃ l, s.data.toList = l := ⟨_, rfl⟩
  have hlen : s.size = l.length := by rw [← hl]; rfl
  have HEN := Lib.hid (ending_any s w hs)
  rw [hl] at HEN ⊢
  have HE := Lib.hid hE
  have HL := Lib.hid hl
  have hend := endL_le l
  rw [← hlen] at hend
  clear hE hl
  by_cases h0 : endL l = 0
  · have HU := Lib.hid (show unqL l = none by unfold unqL; rw [if_pos h0])
    rw [h0] at HEN
    clear h0 hend hlen
    go_enter Tryz.func115, Tryz.ntmps115
    go_wp2_with fail
    refine HEN.out.mono ?_
    rintro e w1 ⟨rfl, rfl⟩
    go_wp2_with fail
    go_ret3
    exact ⟨by rw [HU.out]; exact rfl, Below.refl _ _⟩
  have h2 := endL_two l h0
  have hu : unqL l = match bodyL ((l.take (endL l - 1)).drop 1) with
      | none => none
      | some x => if quoteL x = l.take (endL l) then some (x, endL l) else none := by unfold unqL; rw [if_neg h0]; rfl
  obtain ⟨n, hn⟩ : ∃ n, endL l = n := ⟨_, rfl⟩
  rw [hn] at HEN hend h2 hu
  have HU := Lib.hid hu
  have b0 : ((n : Int) == 0) = false := by simp; omega
  have HLN := Lib.hid hlen
  clear h0 hu hn hlen
  go_enter Tryz.func115, Tryz.ntmps115
  go_wp2_with fail
  refine HEN.out.mono ?_
  rintro e w1 ⟨rfl, rfl⟩
  go_wp2_with fail
  clear b0
  go_loopw [7] (fun v wr => ∃ (j : Nat) (acc : List UInt8), v = .int .i64 j ∧ UAt w l n wr j acc) (fun v _ => n - (intOf v).toNat)
  case atStart =>
    refine ⟨1, [], rfl, Nat.le_refl _, h2, Bld.new w, (Below.refl _ _).alloc (Nat.le_refl _) _, Nat.zero_le _, ?_⟩
    have : ((l.take (n - 1)).drop 1).length = n - 1 - 1 := by rw [List.length_drop, List.length_take]; have := HLN.out; omega
    unfold bodyL
    rw [this]
    cases bodyF (n - 1 - 1) ((l.take (n - 1)).drop 1) <;> rfl
  case round =>
    obtain ⟨j, acc, rfl, hq⟩ := hrel
    have HQ := Lib.hid hq
    have hj1 := hq.lo
    have hj2 := hq.hi
    clear hq
    by_cases hlt : j < n - 1
    case neg =>
      have hjn : (n : Int) - 1 = j := by omega
      have hbody : bodyL ((l.take (n - 1)).drop 1) = some acc := by
        have := HQ.out.eq
        rw [show n - 1 - j = 0 by omega] at this
        rw [this]
        simp [bodyF]
      have hu := HU.out
      rw [hbody] at hu
      simp only at hu
      have hal := HQ.out.len
      obtain ⟨x, hx⟩ : ∃ x : ByteArray, x = ⟨acc.toArray⟩ := ⟨_, rfl⟩
      have hxl : x.data.toList = acc := by rw [hx]
      have hxs : x.size ≤ 14073748835000 := by rw [← size_toList, hxl]; omega
      have HS := Lib.hid (String_any w.heap.size w.heap.size acc wr HQ.out.bld HQ.out.below.size)
      rw [← hx] at HS
      obtain ⟨Q, hQ⟩ : ∃ Q : ByteArray, Q = ⟨(quoteL acc).toArray⟩ := ⟨_, rfl⟩
      have C1 := Lib.hid (show ∀ w2, Below w.heap.size w w2 → ∀ W, Below w2.heap.size w2 W → Calls Tryz.prog 72 #[.string x] W fun e w' => e = .returned (.string Q) ∧ Below w2.heap.size w2 w' from fun w2 hw2 W hW => by
        have := Quote_any x W hxs ((HE.out.below (hw2.trans (hW.mono hw2.size))).tz)
        rw [hxl, ← hQ] at this
        exact this.mono fun e w' ⟨h1, h2⟩ => ⟨h1, hW.trans (h2.mono hW.size)⟩)
      obtain ⟨P, hP⟩ : ∃ P, s.extract 0 n = P := ⟨_, rfl⟩
      have hsl : ∀ W : World, (Instr.slice 9 (.string s) none (some (.int .i64 n)) none).run Tryz.prog W = .ok (.string P) W := fun W => by
        rw [run_slice_string_h W 9 s Tryz.underlying9 .i64 n (by omega) (by omega), show ((n : Int)).toNat = n by omega, hP]
      have hPl : P.data.toList = l.take n := by rw [← hP, take_list, HL.out]
      by_cases hqp : Q = P
      case pos =>
        have hun : unqL l = some (acc, n) := by
          rw [hu, if_pos]
          rw [← hPl, ← hqp, hQ]
        have HUN := Lib.hid hun
        have HX := Lib.hid hx
        subst hqp
        clear hu hbody hxl hxs hx hQ hP hPl hun hal
        go_wp2_with fail
        refine HS.out.mono ?_
        rintro e w2 ⟨rfl, hb2⟩
        have HB2 := Lib.hid (HQ.out.below.trans hb2)
        clear hb2
        go_upto_region 16 with fail
        go_cut [53] (fun v wx => v = .bool false ∧ Below w2.heap.size w2 wx)
        case first =>
          go_region_with ((with_reducible refine (C1.out _ HB2.out _ (by first | exact Below.refl _ _ | exact (Below.refl _ _).drew | assumption | exact Below.drew (by assumption))).mono ?_); rintro e w5 ⟨rfl, hb5⟩)
          all_goals (go_wp2_with fail)
          all_goals
            go_meet
            exact ⟨rfl, by assumption⟩
        case rest =>
          obtain ⟨rfl, hbx⟩ := hcut
          have HBX := Lib.hid (HB2.out.trans (hbx.mono HB2.out.size))
          clear hbx
          go_wp2_with fail
          go_ret3
          exact ⟨by rw [HUN.out, HX.out]; exact rfl, HBX.out⟩
      case neg =>
        have hun : unqL l = none := by
          rw [hu, if_neg]
          intro he
          apply hqp
          rw [hQ, he, ← hPl]
        have HUN := Lib.hid hun
        have g0 : ¬ Q.toList = P.toList := fun he => hqp (by
          apply ByteArray.ext
          rw [← Array.toList_inj, ← toList_eq, ← toList_eq, he])
        have g1 : (Q.toList == P.toList) = false := by simpa using g0
        clear hu hbody hxl hxs hx hQ hP hPl hun hal
        go_wp2_with fail
        refine HS.out.mono ?_
        rintro e w2 ⟨rfl, hb2⟩
        have HB2 := Lib.hid (HQ.out.below.trans hb2)
        clear hb2
        go_upto_region 16 with fail
        go_cut [53] (fun v wx => v = .bool true ∧ Below w2.heap.size w2 wx)
        case first =>
          go_region_with ((with_reducible refine (C1.out _ HB2.out _ (by first | exact Below.refl _ _ | exact (Below.refl _ _).drew | assumption | exact Below.drew (by assumption))).mono ?_); rintro e w5 ⟨rfl, hb5⟩)
          all_goals (go_wp2_with fail)
          all_goals
            go_meet
            exact ⟨by first | rfl | (simp [g0]; done) | (simp [g1]; done), by assumption⟩
        case rest =>
          obtain ⟨rfl, hbx⟩ := hcut
          have HBX := Lib.hid (HB2.out.trans (hbx.mono HB2.out.size))
          clear hbx
          go_wp2_with fail
          go_ret3
          exact ⟨by rw [HUN.out]; exact rfl, HBX.out⟩
    case pos =>
      obtain ⟨c, u, hcu⟩ : ∃ c u, l.drop j = c :: u := by
        cases h : l.drop j with
        | nil => exact absurd (congrArg List.length h) (by rw [List.length_drop, ← HLN.out]; simp; omega)
        | cons c u => exact ⟨c, u, rfl⟩
      obtain ⟨m, hm⟩ : ∃ m, n - 1 - j = m + 1 := ⟨n - 1 - j - 1, by omega⟩
      have hBj : (l.take (n - 1)).drop j = c :: u.take m := by rw [List.drop_take, hcu, hm]; rfl
      have hBj1 : (l.take (n - 1)).drop (j + 1) = u.take m := by rw [← List.drop_drop, hBj]; rfl
      have hi := byte_at s j c u (by rw [HL.out, hcu])
      have heq := HQ.out.eq
      rw [hm, hBj] at heq
      have hal := HQ.out.len
      have hul : (u.take m).length = m := by
        rw [← hBj1, List.length_drop, List.length_take, ← HLN.out]; omega
      by_cases hc : c = 92
      case neg =>
        have hcn : ¬ c.toNat = 92 := fun e => hc (UInt8.toNat_inj.1 e)
        have b92 : ((c.toNat : Int) != 92) = true := by simp; omega
        have HN := Lib.hid (show bodyL ((l.take (n - 1)).drop 1) = (bodyF (n - 1 - (j + 1)) ((l.take (n - 1)).drop (j + 1))).map ((acc ++ [c]) ++ ·) by
          rw [heq, hBj1, show n - 1 - (j + 1) = m by omega]
          simp only [bodyF]
          rw [if_pos hc]
          cases bodyF m (u.take m) with
          | none => rfl
          | some y => simp)
        have hlt2 : (j : Int) < (n : Int) - 1 := by omega
        clear heq hBj hBj1 hul hc hcn hcu
        go_wp2_with fail
        refine (WByte _ _ acc c _ HQ.out.bld (by omega) HQ.out.below.size).mono ?_
        rintro e w2 ⟨rfl, hb, hl, hk⟩
        have HB := Lib.hid hb
        have HLB := Lib.hid (HQ.out.below.trans hl)
        clear hb hl hk
        go_wp2_with fail
        go_roundw
        case rel => exact ⟨j + 1, acc ++ [c], by go_num, by omega, by omega, HB.out, HLB.out, by simp; omega, HN.out⟩
        case measure => simp [intOf]; omega
      case pos =>
        subst hc
        have hi92 : ∀ w, (Instr.index 9 (.string s) (.int .i64 j)).run Tryz.prog w = .ok (.int .u8 92) w := fun w => (hi w).trans (by rfl)
        obtain ⟨E, hE⟩ : ∃ E, s.extract (j + 1) (n - 1) = E := ⟨_, rfl⟩
        have hEl : E.data.toList = u.take m := by rw [← hE, extract_list s (j + 1) (n - 1) (by omega), HL.out, hBj1]
        have hsl : ∀ W : World, (Instr.slice 9 (.string s) (some (.int .i64 ((j : Int) + 1))) (some (.int .i64 ((n : Int) - 1))) none).run Tryz.prog W = .ok (.string E) W := fun W => by
          rw [run_slice_string W 9 s .i64 .i64 ((j : Int) + 1) ((n : Int) - 1) Tryz.underlying9 (by omega) (by omega) (by omega), show ((j : Int) + 1).toNat = j + 1 by omega, show ((n : Int) - 1).toNat = n - 1 by omega, hE]
        have hEs : E.size ≤ 1000000000000 := by rw [← size_toList, hEl, hul]; omega
        have HX := Lib.hid (escape_any E wr (HE.out.below HQ.out.below) hEs)
        rw [hEl] at HX
        have hkl := escL_le (u.take m)
        have hfour := escL_four (u.take m)
        simp only [bodyF] at heq
        rw [if_neg (by simp)] at heq
        rw [hul] at hkl
        obtain ⟨k, hk⟩ : ∃ k, (escL (u.take m)).2 = k := ⟨_, rfl⟩
        have hlt2 : (j : Int) < (n : Int) - 1 := by omega
        rw [hk] at heq hkl
        have HK := Lib.hid hk
        clear hi
        by_cases hk0 : k = 0
        · rw [if_pos hk0] at heq
          have hun : unqL l = none := by
            rw [HU.out, heq]; rfl
          have HUN := Lib.hid hun
          have HK0 := Lib.hid (hk.trans hk0)
          clear heq hBj hBj1 hul hcu hE hEl hk hk0 hkl hfour hun HK
          go_wp2_with fail
          refine HX.out.mono ?_
          rintro e w2 ⟨⟨Wb, rfl, hW⟩, hb⟩
          have HB := Lib.hid (HQ.out.below.trans (hb.mono HQ.out.below.size))
          rw [HK0.out]
          clear hb hW
          go_wp2_with fail
          go_ret3
          exact ⟨by rw [HUN.out]; exact rfl, HB.out⟩
        · rw [if_neg hk0] at heq
          have b0 : ((k : Int) == 0) = false := by simp; omega
          have HN := Lib.hid (show ∀ Wl : List UInt8, Wl = (escL (u.take m)).1 → bodyL ((l.take (n - 1)).drop 1) = (bodyF (n - 1 - (j + 1 + k)) ((l.take (n - 1)).drop (j + 1 + k))).map ((acc ++ Wl) ++ ·) from fun Wl hWl => by
            rw [heq, ← List.drop_drop, hBj1, hWl]
            have hf := bodyF_fuel m (n - 1 - (j + 1 + k)) ((u.take m).drop k) (by rw [List.length_drop, hul]; omega) (by rw [List.length_drop, hul]; omega)
            rw [hf]
            cases bodyF (n - 1 - (j + 1 + k)) ((u.take m).drop k) with
            | none => rfl
            | some y => simp)
          clear heq hBj hBj1 hul hcu hE hEl hk hk0
          go_wp2_with fail
          refine HX.out.mono ?_
          rintro e w2 ⟨⟨Wb, rfl, hW⟩, hb⟩
          have HB0 := Lib.hid (HQ.out.bld.below (hb))
          have HBL := Lib.hid (HQ.out.below.trans (hb.mono HQ.out.below.size))
          have hWs : Wb.size ≤ 4 := by rw [← size_toList, hW]; exact hfour
          have HWE := Lib.hid (HN.out _ hW)
          rw [HK.out]
          clear hb hW hfour
          go_wp2_with fail
          refine (WString _ _ acc Wb _ HB0.out (by omega) HBL.out.size).mono ?_
          rintro e w3 ⟨rfl, hb, hl, hk⟩
          have HB := Lib.hid hb
          have HLB := Lib.hid (HBL.out.trans hl)
          clear hb hl hk
          go_wp2_with fail
          go_roundw
          case rel => exact ⟨j + 1 + k, acc ++ Wb.data.toList, by go_num, by omega, by omega, HB.out, HLB.out, by rw [List.length_append, size_toList]; omega, HWE.out⟩
          case measure => simp [intOf]; omega
end Go.Proofs.YtkdhomiieenfnaaGreatDoor.U
