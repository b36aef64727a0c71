/- The program's escape. -/
import Derived.Test.YtnippaaiopgnaaaDoorUEsc
namespace Go.Proofs.YtnippaaiopgnaaaDoor.U
open Go.RowKit Go.Proofs.YtnippaaiopgnaaaDoor.Txt
set_option linter.unusedVariables false
set_option linter.unusedSimpArgs false
attribute [local go_sem] frozen?_alloc_cells

/-- What escape hands back. -/
def EscRes (l : List UInt8) (e : Ending) : Prop := ∃ W : ByteArray, e = .returned (.tuple #[.string W, .int .i64 (escL l).2]) ∧ W.data.toList = (escL l).1
theorem EscRes.none {l : List UInt8} (h : escL l = ([], 0)) : EscRes l (.returned (.tuple #[.string ⟨#[]⟩, .int .i64 0])) := ⟨⟨#[]⟩, by rw [h]; rfl, by rw [h]⟩
theorem EscRes.some {l x : List UInt8} {k : Nat} {W : ByteArray} {e : Ending} (h : escL l = (x, k)) (he : e = .returned (.tuple #[.string W, .int .i64 k])) (hw : W.data.toList = x) : EscRes l e := ⟨W, by rw [he, h], by rw [h]; exact hw⟩
/-- The cells of one byte that is laid as a slice. -/
theorem conv_one (w : World) (x : UInt8) : (convert 78 9 (.slice (some ⟨w.heap.size, 0, none⟩) 1 1)).run Tryd.prog (w.alloc (.cells #[.int .u8 (x.toNat : Int)] 5)) = .ok (.string ⟨#[x]⟩) (w.alloc (.cells #[.int .u8 (x.toNat : Int)] 5)) := by
  refine conv_bytes (l := [x]) (c := 1) ?_
  intro _
  refine ⟨_, rfl, fun j hj => ?_⟩
  obtain rfl : j = 0 := by simp at hj; omega
  rw [show Addr.add ⟨w.heap.size, 0, none⟩ 0 = ⟨w.heap.size, 0, none⟩ from rfl, Lib.cell_of_heap (heap_alloc_new w _)]
  rfl

set_option maxRecDepth 100000 in
set_option maxHeartbeats 4000000 in
theorem escape_plain (s : ByteArray) (w : World) (h : UInt8) (t : List UInt8) (hL : s.data.toList = h :: t) (hx : h ≠ 120) (hu : h ≠ 117) :
    Calls Tryd.prog 61 #[.string s] w fun e w' => EscRes s.data.toList e ∧ Below w.heap.size w w' := by
  have hlen : s.size = (h :: t).length := by rw [← hL]; rfl
  have hemp := nonempty (s := s) (by rw [hlen]; simp)
  have hsz : 1 ≤ s.size := by rw [hlen]; simp
  have i0 : ∀ w, (Instr.index 9 (.string s) (.int .i64 0)).run Tryd.prog w = .ok (.int .u8 (h.toNat : Int)) w := byte_at s 0 h t (by rw [hL]; rfl)
  have hsl : ∀ W : World, (Instr.slice 9 (.string s) none (some (.int .i64 1)) none).run Tryd.prog W = .ok (.string ⟨#[h]⟩) W := fun W => by
    rw [run_slice_string_h W 9 s Tryd.underlying9 .i64 1 (by omega) (by omega)]
    congr 2
    apply ByteArray.ext
    rw [← Array.toList_inj]
    have := extract_list s 0 1 (by omega)
    rw [hL] at this
    exact this
  rw [hL]
  have hn : ∀ c : UInt8, h ≠ c → ¬ h.toNat = c.toNat := fun c hc e => hc (UInt8.toNat_inj.1 e)
  by_cases h34 : h = 34
  · subst h34
    have HE := Lib.hid (show escL (34 :: t) = ([34], 1) by simp [escL])
    have i1 : ∀ w, (Instr.index 9 (.string s) (.int .i64 0)).run Tryd.prog w = .ok (.int .u8 34) w := fun w => (i0 w).trans (by rfl)
    clear i0 hn hlen hL
    go_enter Tryd.func61, Tryd.ntmps61
    go_wp2
    go_ret2
    exact ⟨.some HE.out rfl rfl, Below.refl _ _⟩
  by_cases h92 : h = 92
  · subst h92
    have HE := Lib.hid (show escL (92 :: t) = ([92], 1) by simp [escL])
    have i1 : ∀ w, (Instr.index 9 (.string s) (.int .i64 0)).run Tryd.prog w = .ok (.int .u8 92) w := fun w => (i0 w).trans (by rfl)
    clear i0 hn hlen hL
    go_enter Tryd.func61, Tryd.ntmps61
    go_wp2
    go_ret2
    exact ⟨.some HE.out rfl rfl, Below.refl _ _⟩
  by_cases h110 : h = 110
  · subst h110
    have HE := Lib.hid (show escL (110 :: t) = ([10], 1) by simp [escL])
    have i1 : ∀ w, (Instr.index 9 (.string s) (.int .i64 0)).run Tryd.prog w = .ok (.int .u8 110) w := fun w => (i0 w).trans (by rfl)
    clear i0 hn hlen hL
    go_enter Tryd.func61, Tryd.ntmps61
    go_wp2
    go_ret2
    exact ⟨.some HE.out rfl rfl, Below.refl _ _⟩
  by_cases h116 : h = 116
  · subst h116
    have HE := Lib.hid (show escL (116 :: t) = ([9], 1) by simp [escL])
    have i1 : ∀ w, (Instr.index 9 (.string s) (.int .i64 0)).run Tryd.prog w = .ok (.int .u8 116) w := fun w => (i0 w).trans (by rfl)
    clear i0 hn hlen hL
    go_enter Tryd.func61, Tryd.ntmps61
    go_wp2
    go_ret2
    exact ⟨.some HE.out rfl rfl, Below.refl _ _⟩
  have HE := Lib.hid (show escL (h :: t) = ([], 0) by simp [escL, h34, h92, h110, h116, hx, hu])
  have n1 : ¬ h.toNat = 34 := hn 34 h34
  have n2 : ¬ h.toNat = 92 := hn 92 h92
  have n3 : ¬ h.toNat = 110 := hn 110 h110
  have n4 : ¬ h.toNat = 116 := hn 116 h116
  have n5 : ¬ h.toNat = 120 := hn 120 hx
  have n6 : ¬ h.toNat = 117 := hn 117 hu
  obtain ⟨y, hy⟩ : ∃ y, h.toNat = y := ⟨_, rfl⟩
  rw [hy] at i0 n1 n2 n3 n4 n5 n6
  have b1 : ((y : Int) == 34) = false := by simp; omega
  have b2 : ((y : Int) == 92) = false := by simp; omega
  have b3 : ((y : Int) == 110) = false := by simp; omega
  have b4 : ((y : Int) == 116) = false := by simp; omega
  have b5 : ((y : Int) == 120) = false := by simp; omega
  have b6 : ((y : Int) == 117) = false := by simp; omega
  clear hn hlen hL hy n1 n2 n3 n4 n5 n6 h34 h92 h110 h116 hx hu hsl
  go_enter Tryd.func61, Tryd.ntmps61
  go_wp2
  go_ret2
  exact ⟨.none HE.out, Below.refl _ _⟩

set_option maxRecDepth 100000 in
set_option maxHeartbeats 4000000 in
theorem escape_x (s : ByteArray) (w : World) (t : List UInt8) (hL : s.data.toList = 120 :: t) (hE : EnvQ w) :
    Calls Tryd.prog 61 #[.string s] w fun e w' => EscRes s.data.toList e ∧ Below w.heap.size w w' := by
  have hlen : s.size = (120 :: t).length := by rw [← hL]; rfl
  have hemp := nonempty (s := s) (by rw [hlen]; simp)
  have i0 := byte_at s 0 120 t (by rw [hL]; rfl)
  have i1 : ∀ w, (Instr.index 9 (.string s) (.int .i64 0)).run Tryd.prog w = .ok (.int .u8 120) w := fun w => (i0 w).trans (by rfl)
  clear i0
  by_cases h3 : s.size < 3
  · have HE := Lib.hid (show escL s.data.toList = ([], 0) by rw [hL]; unfold escL; simp only; rw [if_neg (by decide), if_neg (by decide), if_neg (by decide), if_pos trivial, if_pos (by rw [← hlen]; exact h3)])
    clear hlen hL hE
    go_enter Tryd.func61, Tryd.ntmps61
    go_wp2
    go_ret2
    exact ⟨.none HE.out, Below.refl _ _⟩
  obtain ⟨T, hT⟩ : ∃ T, s.extract 1 3 = T := ⟨_, rfl⟩
  have hTl : T.data.toList = t.take 2 := by rw [← hT, extract_list s 1 3 (by omega), hL]; rfl
  have hTs : T.size = 2 := by
    have : T.size = (t.take 2).length := by rw [← hTl]; rfl
    rw [this, List.length_take]
    simp at hlen; omega
  have hsl : ∀ W : World, (Instr.slice 9 (.string s) (some (.int .i64 1)) (some (.int .i64 3)) none).run Tryd.prog W = .ok (.string T) W := fun W => by
    rw [run_slice_string W 9 s .i64 .i64 1 3 Tryd.underlying9 (by omega) (by omega) (by omega)]
    rw [← hT]; rfl
  obtain ⟨ev, hev, hev2⟩ := hE.syn
  have HP := Lib.hid (parse_any T 8 ev w (by omega) hev hev2 (iparse_8 T (by omega) (by omega) w))
  have hesc : escL s.data.toList = match parseH (t.take 2) with | none => ([], 0) | some n => ([UInt8.ofNat n], 3) := by
    rw [hL]; unfold escL; simp only; rw [if_neg (by decide), if_neg (by decide), if_neg (by decide), if_pos trivial, if_neg (by rw [← hlen]; exact h3)]
    rfl
  rw [← hTl] at hesc
  have hlt : ∀ n, parseH T.data.toList = some n → n < 256 := fun n hn => by
    have := parseF_lt _ _ _ hn
    have e : T.data.toList.length = 2 := hTs
    rw [e] at this
    omega
  cases hp : parseH T.data.toList with
  | none =>
    rw [hp] at hesc
    have HE := Lib.hid hesc
    rw [hp] at HP
    clear hlen hL hE hlt hp hesc hev hev2 hTl hT
    go_enter Tryd.func61, Tryd.ntmps61
    go_wp2_with fail
    refine HP.out.mono ?_
    rintro e w1 ⟨⟨Ty, N, rfl⟩, hb⟩
    have HB := Lib.hid hb
    clear hb
    go_wp2_with fail
    go_ret2
    exact ⟨.none HE.out, HB.out⟩
  | some n =>
    rw [hp] at hesc
    have HE := Lib.hid hesc
    have hn := hlt n hp
    rw [hp] at HP
    have e8 : (UInt8.ofNat n).toNat = n := by simp; omega
    have HC := Lib.hid (fun w => conv_one w (UInt8.ofNat n))
    rw [e8] at HC
    clear hlen hL hE hlt hp hesc hev hev2 hTl hT e8
    go_enter Tryd.func61, Tryd.ntmps61
    go_wp2_with fail
    refine HP.out.mono ?_
    rintro e w1 ⟨rfl, hb⟩
    have HB := Lib.hid hb
    have hcv := HC.out w1
    clear hb
    go_wp2_with fail
    go_ret2
    exact ⟨.some HE.out rfl rfl, HB.out.alloc HB.out.size _⟩

set_option maxRecDepth 100000 in
set_option maxHeartbeats 4000000 in
theorem escape_u (s : ByteArray) (w : World) (t : List UInt8) (hL : s.data.toList = 117 :: t) (hE : EnvQ w) (hs : s.size ≤ 1000000000000) :
    Calls Tryd.prog 61 #[.string s] w fun e w' => EscRes s.data.toList e ∧ Below w.heap.size w w' := by
  have hlen : s.size = (117 :: t).length := by rw [← hL]; rfl
  have hemp := nonempty (s := s) (by rw [hlen]; simp)
  have i0 := byte_at s 0 117 t (by rw [hL]; rfl)
  have i1 : ∀ w, (Instr.index 9 (.string s) (.int .i64 0)).run Tryd.prog w = .ok (.int .u8 117) w := fun w => (i0 w).trans (by rfl)
  clear i0
  have hidx := index_idx s.data.toList 125
  have HX := Lib.hid (IndexByte_any s 125 w)
  rw [show (125 : Int).toNat.toUInt8 = 125 from rfl, hidx] at HX
  have hesc : escL s.data.toList = match idxL 125 s.data.toList with
      | none => ([], 0)
      | some e => if e < 3 ∨ 8 < e ∨ s.data.toList.getD 1 0 ≠ 123 then ([], 0) else
        match parseH ((s.data.toList.take e).drop 2) with
        | none => ([], 0)
        | some n => if 1114111 < n then ([], 0) else (encB n, e + 1) := by
    rw [hL]; conv => lhs; unfold escL
    simp only; rw [if_neg (by decide), if_neg (by decide), if_neg (by decide), if_neg (by decide), if_pos trivial]
    rfl
  cases hi : idxL 125 s.data.toList with
  | none =>
    rw [hi] at hesc HX
    have HE := Lib.hid hesc
    clear hlen hL hE hesc hidx hi
    go_enter Tryd.func61, Tryd.ntmps61
    go_wp2_with fail
    refine HX.out.mono ?_
    rintro e w1 ⟨rfl, rfl⟩
    go_wp2_with fail
    go_ret2
    exact ⟨.none HE.out, Below.refl _ _⟩
  | some e =>
    rw [hi] at hesc HX
    simp only at hesc HX
    have helt := idxL_lt _ _ _ hi
    rw [size_toList] at helt
    by_cases he3 : e < 3
    · have HE := Lib.hid (hesc.trans (if_pos (.inl he3)))
      clear hlen hL hE hesc hidx hi
      go_enter Tryd.func61, Tryd.ntmps61
      go_wp2_with fail
      refine HX.out.mono ?_
      rintro e w1 ⟨rfl, rfl⟩
      go_wp2_with fail
      go_ret2
      exact ⟨.none HE.out, Below.refl _ _⟩
    by_cases he8 : 8 < e
    · have HE := Lib.hid (hesc.trans (if_pos (.inr (.inl he8))))
      clear hlen hL hE hesc hidx hi
      go_enter Tryd.func61, Tryd.ntmps61
      go_wp2_with fail
      refine HX.out.mono ?_
      rintro e w1 ⟨rfl, rfl⟩
      go_wp2_with fail
      go_ret2
      exact ⟨.none HE.out, Below.refl _ _⟩
    obtain ⟨c, u, hcu⟩ : ∃ c u, t = c :: u := by
      cases t with
      | nil => simp at hlen; omega
      | cons c u => exact ⟨c, u, rfl⟩
    have j1 : ∀ w, (Instr.index 9 (.string s) (.int .i64 1)).run Tryd.prog w = .ok (.int .u8 (c.toNat : Int)) w := byte_at s 1 c u (by rw [hL, hcu]; rfl)
    have hg1 : s.data.toList.getD 1 0 = c := by rw [hL, hcu]; rfl
    rw [hg1] at hesc
    by_cases hc : c = 123
    case neg =>
      have HE := Lib.hid (hesc.trans (if_pos (.inr (.inr hc))))
      have hcn : ¬ c.toNat = 123 := fun e => hc (UInt8.toNat_inj.1 e)
      generalize c.toNat = y at j1 hcn
      have b : ((y : Int) != 123) = true := by simp; omega
      clear hlen hL hE hesc hidx hi hc hcn hcu hg1
      go_enter Tryd.func61, Tryd.ntmps61
      go_wp2_with fail
      refine HX.out.mono ?_
      rintro e w1 ⟨rfl, rfl⟩
      go_wp2_with fail
      go_ret2
      exact ⟨.none HE.out, Below.refl _ _⟩
    subst hc
    have j2 : ∀ w, (Instr.index 9 (.string s) (.int .i64 1)).run Tryd.prog w = .ok (.int .u8 123) w := fun w => (j1 w).trans (by rfl)
    clear j1
    rw [if_neg (by simp; omega)] at hesc
    obtain ⟨T, hT⟩ : ∃ T, s.extract 2 e = T := ⟨_, rfl⟩
    have hTl : T.data.toList = (s.data.toList.take e).drop 2 := by rw [← hT, extract_list s 2 e (by omega)]
    have hTs : T.size = e - 2 := by
      have : T.size = ((s.data.toList.take e).drop 2).length := by rw [← hTl]; rfl
      rw [this, List.length_drop, List.length_take, size_toList]
      omega
    have hsl : ∀ W : World, (Instr.slice 9 (.string s) (some (.int .i64 2)) (some (.int .i64 e)) none).run Tryd.prog W = .ok (.string T) W := fun W => by
      rw [run_slice_string W 9 s .i64 .i64 2 e Tryd.underlying9 (by omega) (by omega) (by omega), show ((e : Int)).toNat = e by omega]
      rw [← hT]; rfl
    obtain ⟨ev, hev, hev2⟩ := hE.syn
    have HP := Lib.hid (parse_any T 32 ev w (by omega) hev hev2 (iparse_32 T (by omega) (by omega) w))
    rw [← hTl] at hesc
    have z1 : ¬ 8 < e := he8
    have z2 : ¬ e < 3 := he3
    cases hp : parseH T.data.toList with
    | none =>
      rw [hp] at hesc HP
      have HE := Lib.hid hesc
      clear hlen hL hE hp hesc hev hev2 hTl hT hidx hi hg1 hcu
      go_enter Tryd.func61, Tryd.ntmps61
      go_wp2_with fail
      refine HX.out.mono ?_
      rintro e w1 ⟨rfl, rfl⟩
      go_wp2_with fail
      refine HP.out.mono ?_
      rintro e w1 ⟨⟨Ty, N, rfl⟩, hb⟩
      have HB := Lib.hid hb
      clear hb
      go_wp2_with fail
      go_ret2
      exact ⟨.none HE.out, HB.out⟩
    | some n =>
      rw [hp] at hesc HP
      simp only at hesc
      by_cases hbig : 1114111 < n
      · rw [if_pos hbig] at hesc
        have HE := Lib.hid hesc
        clear hlen hL hE hp hesc hev hev2 hTl hT hidx hi hg1 hcu
        go_enter Tryd.func61, Tryd.ntmps61
        go_wp2_with fail
        refine HX.out.mono ?_
        rintro e w1 ⟨rfl, rfl⟩
        go_wp2_with fail
        refine HP.out.mono ?_
        rintro e w1 ⟨rfl, hb⟩
        have HB := Lib.hid hb
        clear hb
        go_wp2_with fail
        go_ret2
        exact ⟨.none HE.out, HB.out⟩
      · rw [if_neg hbig] at hesc
        have HE := Lib.hid hesc
        clear hlen hL hE hp hesc hev hev2 hTl hT hidx hi hg1 hcu
        go_enter Tryd.func61, Tryd.ntmps61
        go_wp2_with fail
        refine HX.out.mono ?_
        rintro e w1 ⟨rfl, rfl⟩
        go_wp2_with fail
        refine HP.out.mono ?_
        rintro e w1 ⟨rfl, hb⟩
        have HB := Lib.hid hb
        clear hb
        go_wp2_with fail
        go_ret2
        exact ⟨.some HE.out (by first | rfl | go_num) rfl, HB.out⟩
end Go.Proofs.YtnippaaiopgnaaaDoor.U
