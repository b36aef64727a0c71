/- The reference's Bytes and String, walked. -/
import Derived.Test.YtfgekdefnbohbaaDoorRRunes
import Derived.Test.YtfgekdefnbohbaaDoorRUnqP
import Derived.Lib.Builder
import Derived.Deep.AppendLies
namespace Go.Proofs.YtfgekdefnbohbaaDoor.U
open Go.RowKit Go.Proofs.YtfgekdefnbohbaaDoor.Txt
set_option linter.unusedVariables false
set_option linter.unusedSimpArgs false
attribute [local go_sem] frozen?_alloc_cells

/-- A new slice that holds these bytes, alone. -/
def NewBytes (w : World) (l : List UInt8) (e : Ending) (w' : World) : Prop := e = .returned (.slice (some ⟨w.heap.size, 0, none⟩) l.length l.length) ∧ w' = w.alloc (.cells (Lib.byteCells l).toArray 5)
theorem u8_val (n : Nat) (x : Int) (hx : x = (n : Int)) (h : n < 256) : ((UInt8.ofNat n).toNat : Int) = x := by rw [ofNat_toNat n h, hx]
set_option maxRecDepth 100000 in
set_option maxHeartbeats 4000000 in
theorem Bytes_any (r : Nat) (w : World) (hr : r ≤ 1114111) : Calls Tryd.prog 57 #[.int .i64 r] w (NewBytes w (bytesR r)) := by
  obtain ⟨x, hx⟩ : ∃ x : Int, (r : Int) = x := ⟨_, rfl⟩
  rw [hx]
  have x0 : 0 ≤ x := by omega
  have x1 : x ≤ 1114111 := by omega
  by_cases h1 : r < 128
  · have E := Lib.hid (show bytesR r = [UInt8.ofNat r] from if_pos h1)
    have e1 := u8_val r x (by omega) (by omega)
    have i1 : x < 128 := by omega
    have HC1 := Lib.hid e1
    clear hx e1 h1 hr
    go_enter Tryd.func57, Tryd.ntmps57
    go_wp2_with fail
    go_ret
    unfold NewBytes
    rw [E.out]
    exact ⟨rfl, by simp only [Lib.byteCells, List.map_cons, List.map_nil, HC1.out]⟩
  by_cases h2 : r < 2048
  · have E := Lib.hid (show bytesR r = [UInt8.ofNat (192 + r / 64), UInt8.ofNat (128 + r % 64)] by unfold bytesR; rw [if_neg h1, if_pos h2])
    have e1 := u8_val (192 + r / 64) (192 + x / 64) (by omega) (by omega)
    have e2 := u8_val (128 + r % 64) (128 + x % 64) (by omega) (by omega)
    have i1 : ¬ x < 128 := by omega
    have i2 : x < 2048 := by omega
    have HC1 := Lib.hid (And.intro e1 e2)
    clear hx e1 e2 h1 h2 hr
    go_enter Tryd.func57, Tryd.ntmps57
    go_wp2_with fail
    go_ret
    unfold NewBytes
    rw [E.out]
    exact ⟨rfl, by simp only [Lib.byteCells, List.map_cons, List.map_nil, HC1.out.1, HC1.out.2]⟩
  by_cases h3 : r < 65536
  · have E := Lib.hid (show bytesR r = [UInt8.ofNat (224 + r / 4096), UInt8.ofNat (128 + r / 64 % 64), UInt8.ofNat (128 + r % 64)] by unfold bytesR; rw [if_neg h1, if_neg h2, if_pos h3])
    have e1 := u8_val (224 + r / 4096) (224 + x / 4096) (by omega) (by omega)
    have e2 := u8_val (128 + r / 64 % 64) (128 + x / 64 % 64) (by omega) (by omega)
    have e3 := u8_val (128 + r % 64) (128 + x % 64) (by omega) (by omega)
    have i1 : ¬ x < 128 := by omega
    have i2 : ¬ x < 2048 := by omega
    have i3 : x < 65536 := by omega
    have HC1 := Lib.hid (And.intro e1 (And.intro e2 e3))
    clear hx e1 e2 e3 h1 h2 h3 hr
    go_enter Tryd.func57, Tryd.ntmps57
    go_wp2_with fail
    go_ret
    unfold NewBytes
    rw [E.out]
    exact ⟨rfl, by simp only [Lib.byteCells, List.map_cons, List.map_nil, HC1.out.1, HC1.out.2.1, HC1.out.2.2]⟩
  · have E := Lib.hid (show bytesR r = [UInt8.ofNat (240 + r / 262144), UInt8.ofNat (128 + r / 4096 % 64), UInt8.ofNat (128 + r / 64 % 64), UInt8.ofNat (128 + r % 64)] by unfold bytesR; rw [if_neg h1, if_neg h2, if_neg h3])
    have e0 := u8_val (240 + r / 262144) (240 + x / 262144) (by omega) (by omega)
    have e1 := u8_val (128 + r / 4096 % 64) (128 + x / 4096 % 64) (by omega) (by omega)
    have e2 := u8_val (128 + r / 64 % 64) (128 + x / 64 % 64) (by omega) (by omega)
    have e3 := u8_val (128 + r % 64) (128 + x % 64) (by omega) (by omega)
    have i1 : ¬ x < 128 := by omega
    have i2 : ¬ x < 2048 := by omega
    have i3 : ¬ x < 65536 := by omega
    have HC1 := Lib.hid (And.intro e0 (And.intro e1 (And.intro e2 e3)))
    clear hx e0 e1 e2 e3 h1 h2 h3 hr
    go_enter Tryd.func57, Tryd.ntmps57
    go_wp2_with fail
    go_ret
    unfold NewBytes
    rw [E.out]
    exact ⟨rfl, by simp only [Lib.byteCells, List.map_cons, List.map_nil, HC1.out.1, HC1.out.2.1, HC1.out.2.2.1, HC1.out.2.2.2]⟩

/-! ### Bytes in memory, and the string of them -/
def CellsB (w : World) (A : Option Addr) (l : List UInt8) : Prop := 0 < l.length → ∃ ad, A = some ad ∧ ∀ j, j < l.length → w.cell? (ad.add j) = some (.int .u8 ((l.getD j 0).toNat : Int))
theorem push_fold : ∀ (l : List UInt8) (a : ByteArray), ((l.map fun b => (b.toNat : Int)).foldl (fun r n => r.push (UInt8.ofNat n.toNat)) a).data.toList = a.data.toList ++ l
  | [], a => by simp
  | b :: l, a => by
    rw [List.map_cons, List.foldl_cons, push_fold l]
    simp [ByteArray.push]
theorem conv_bytes {W : World} {A : Option Addr} {c : Nat} {l : List UInt8} (h : CellsB W A l) : (convert 45 9 (.slice A l.length c)).run Tryd.prog W = .ok (.string ⟨l.toArray⟩) W := by
  have hstr : ∀ ns : List Int, ns = l.map (fun b => (b.toNat : Int)) → ns.foldl (fun r n => r.push (UInt8.ofNat n.toNat)) ByteArray.empty = ⟨l.toArray⟩ := fun ns hn => by
    subst hn
    have := push_fold l ByteArray.empty
    apply ByteArray.ext
    rw [← Array.toList_inj, this]
    simp
  rcases Nat.eq_zero_or_pos l.length with h0 | h0
  · obtain rfl : l = [] := List.length_eq_zero_iff.1 h0
    rw [run_convert_bytes_string W _ _ _ _ _ _ Tryd.underlying45 Tryd.underlying5 Tryd.underlying9]
    cases A with
    | none => rfl
    | some a => exact run_bytesToString W a 0 c [] (by rw [run_loadCells W a 0 (fun _ => .int .u8 0) (fun j hj => by omega)]; rfl)
  · obtain ⟨ad, rfl, hc⟩ := h h0
    rw [run_convert_bytes_string W _ _ _ _ _ _ Tryd.underlying45 Tryd.underlying5 Tryd.underlying9, ← hstr _ rfl]
    have hl : l.length = (l.map fun b => (b.toNat : Int)).length := by simp
    rw [hl]
    apply run_bytesToString
    rw [run_loadCells W ad _ (fun j => .int .u8 ((l.map fun b => (b.toNat : Int)).getD j 0)) (fun j hj => ?_), range_map_take _ _ _ (Nat.le_refl _), List.take_length]
    have hj2 : j < l.length := by simpa using hj
    rw [hc j hj2]
    simp [List.getD, List.getElem?_map, List.getElem?_eq_getElem hj2]
theorem own_bytes {W : World} {base e : Nat} {v : Value} {l : List UInt8} (h : W.ownsRow base e 1 v l.length (Lib.byteCells l)) : ∃ A c, v = .slice A l.length c ∧ l.length ≤ c ∧ CellsB W A l := by
  rcases h.2 with ⟨rfl, h0⟩ | ⟨g, cap, cur, rfl, _, _, hcap, _⟩
  · exact ⟨none, 0, by rw [h0], by omega, fun hp => by omega⟩
  · refine ⟨_, cap, rfl, hcap, fun _ => ⟨_, rfl, fun j hj => h.cells (g := g) rfl j _ ?_⟩⟩
    simp [Lib.byteCells, List.getElem?_eq_getElem (show j < l.length by omega), List.getD_eq_getElem?_getD]
theorem str_arr (rs : List Int) : Str rs = ⟨(enc rs).toArray⟩ := by
  apply ByteArray.ext
  rw [← Array.toList_inj, str_list]
theorem news_at (w : World) (cs : Array Value) (T : TypeId) (j : Nat) (u : Value) (h : cs.toList[j]? = some u) : (w.alloc (.cells cs T)).cell? ((⟨w.heap.size, 0, none⟩ : Addr).add j) = some u := by
  rw [Addr.add_lit, Nat.zero_add, Lib.cell_of_heap (heap_alloc_new w _)]
  simpa using h
/-- Bytes that are gathered in v, beside a list that stands alone in block Q. -/
structure Gath (B : Nat) (w : World) (Q : Nat) (q : List UInt8) (v : Value) (acc : List UInt8) : Prop where
  own : w.ownsRow B 5 1 v acc.length (Lib.byteCells acc)
  box : ∃ t fr, w.heap[Q]? = some (.cells (Lib.byteCells q).toArray t fr)
  nq : v.ownBlock ≠ some Q
theorem Gath.lt {B : Nat} {w : World} {Q : Nat} {q : List UInt8} {v : Value} {acc : List UInt8} (h : Gath B w Q q v acc) : Q < w.heap.size := by obtain ⟨t, fr, e⟩ := h.box; exact (Array.getElem?_eq_some_iff.1 e).1
theorem Gath.cell {B : Nat} {w : World} {Q : Nat} {q : List UInt8} {v : Value} {acc : List UInt8} (h : Gath B w Q q v acc) (j : Nat) (hj : j < q.length) : w.cell? ⟨Q, j, none⟩ = some (.int .u8 ((q.getD j 0).toNat : Int)) := by
  obtain ⟨t, fr, e⟩ := h.box
  rw [Lib.cell_of_heap e]
  simp [Lib.byteCells, List.getD, List.getElem?_eq_getElem hj]
theorem Gath.push {B : Nat} {w w9 : World} {Q : Nat} {q : List UInt8} {v : Value} {acc : List UInt8} (h : Gath B w Q q v acc) {b : UInt8} {o : Obj} {g cap : Nat} (hown : w9.ownsRow B 5 1 (.slice (some ⟨g, 0, none⟩) (acc.length + 1) cap) (acc.length + 1) (Lib.byteCells acc ++ [.int .u8 (b.toNat : Int)])) (hg : (w.alloc o).grownBy w9 v.ownBlock) (hat : v.ownBlock = some g ∨ g = (w.alloc o).heap.size) :
    Gath B w9 Q q (.slice (some ⟨g, 0, none⟩) (acc.length + 1) cap) (acc ++ [b]) := by
  have hlt := h.lt
  refine ⟨?_, ?_, ?_⟩
  · have e1 : (acc ++ [b]).length = acc.length + 1 := by simp
    have e2 : Lib.byteCells (acc ++ [b]) = Lib.byteCells acc ++ [.int .u8 (b.toNat : Int)] := by simp [Lib.byteCells]
    rw [e1, e2]
    exact hown
  · obtain ⟨t, fr, e⟩ := h.box
    refine ⟨t, fr, ?_⟩
    rw [hg.block Q (by simp; omega) (fun e2 => h.nq e2.symm), Lib.alloc_old w _ Q hlt]
    exact e
  · intro e2
    simp only [Value.ownBlock, Option.some.injEq] at e2
    rcases hat with e3 | e3
    · exact h.nq (by rw [e3, e2])
    · have : (w.alloc o).heap.size = w.heap.size + 1 := by simp
      omega
theorem own_alloc {w w' : World} {B e n : Nat} {v : Value} {xs : List Value} (h : w.ownsRow B e 1 v n xs) (hb : Below w.heap.size w w') : w'.ownsRow B e 1 v n xs := by
  refine ⟨h.1, ?_⟩
  rcases h.2 with hn | ⟨g, cap, cur, hv, hbg, hg, rest⟩
  · exact .inl hn
  · exact .inr ⟨g, cap, cur, hv, hbg, (hb.block g (Array.getElem?_eq_some_iff.1 hg).1).trans hg, rest⟩
theorem own_lt {w : World} {B e n : Nat} {v : Value} {xs : List Value} (h : w.ownsRow B e 1 v n xs) : v.ownBlock ≠ some w.heap.size := by
  intro e
  have := (h.lt _ e).2
  omega
theorem info8' : (Tryd.prog.info? 5).map (fun i => (i.zero, i.size, i.bytes)) = some (some (.int .u8 0), 1, 1) := by kernel_rfl
theorem enc_take_succ (rs : List Int) (k : Nat) (h : k < rs.length) : enc (rs.take (k + 1)) = enc (rs.take k) ++ encB (rs.getD k 0) := by
  rw [List.take_add_one, List.getElem?_eq_getElem h, enc_append]
  simp [enc, List.getD, h]

set_option maxRecDepth 100000 in
set_option maxHeartbeats 4000000 in
theorem String_runes (A : Option Addr) (c : Nat) (rs : List Int) (w : World) (hc : Cells64 w A rs) (hg : ∀ r ∈ rs, TxtRune r) (hl : rs.length ≤ 4398046511104) :
    Calls Tryd.prog 58 #[.slice A rs.length c] w fun e w' => e = .returned (.string (Str rs)) ∧ Below w.heap.size w w' := by
  obtain ⟨i0, hi, hz0, hz1, hz2⟩ := info_parts info8'
  have hsl := Tryd.underlying45
  have HC := Lib.hid hc
  have HG := Lib.hid hg
  have HSA := Lib.hid (str_arr rs)
  obtain ⟨n, hn⟩ : ∃ n, rs.length = n := ⟨_, rfl⟩
  rw [hn] at hl ⊢
  have HN := Lib.hid hn
  clear hc hg hn
  go_enter Tryd.func58, Tryd.ntmps58
  go_wp2_with fail
  go_loopw [3, 4] (fun v i wr => ∃ k : Nat, i = .int .i64 k ∧ k ≤ n ∧ wr.ownsRow w.heap.size 5 1 v (enc (rs.take k)).length (Lib.byteCells (enc (rs.take k))) ∧ Below w.heap.size w wr) (fun _ i _ => n - (intOf i).toNat)
  case atStart => exact ⟨0, rfl, Nat.zero_le _, ⟨rfl, .inl ⟨rfl, rfl⟩⟩, Below.refl _ _⟩
  case round =>
    obtain ⟨k, rfl, hk, hown, hb⟩ := hrel
    have HO := Lib.hid hown
    have HB := Lib.hid hb
    clear hown hb
    by_cases hlt : k < n
    · have hkl : k < rs.length := by have := HN.out; omega
      obtain ⟨ad, rfl, hcell⟩ := HC.out (by omega)
      have d0 := cell_below HB.out (hcell k hkl)
      have hge : rs.getD k 0 = rs[k] := by simp [List.getD, hkl]
      have hr1 := HG.out _ (List.getElem_mem hkl)
      rw [← hge] at hr1
      have HES := Lib.hid (enc_take_succ rs k hkl)
      have hpl : (enc (rs.take k)).length ≤ 4 * n := by have := enc_len_le (rs.take k); rw [List.length_take] at this; omega
      have hrb := txt_le hr1.1
      obtain ⟨r, hr⟩ : ∃ r, rs.getD k 0 = r := ⟨_, rfl⟩
      rw [hr] at d0 hr1 HES hrb
      obtain ⟨x, rfl⟩ : ∃ x : Nat, r = (x : Int) := ⟨r.toNat, by omega⟩
      have hbr : bytesR x = encB (x : Int) := bytesR_enc (x : Int) hr1.1
      have hw := encB_len (x : Int)
      have HBR := Lib.hid hbr
      have hx1 : x ≤ 1114111 := by omega
      obtain ⟨acc, hacc⟩ : ∃ acc, enc (rs.take k) = acc := ⟨_, rfl⟩
      rw [hacc] at HO HES hpl
      obtain ⟨q, hq⟩ : ∃ q, encB (x : Int) = q := ⟨_, rfl⟩
      rw [hq] at HES hw HBR
      have HLT := Lib.hid hlt
      have HPL := Lib.hid hpl
      have HW := Lib.hid hw
      obtain ⟨wo, rfl⟩ : ∃ wo : World, wo = wr := ⟨_, rfl⟩
      clear hcell hge hr hr1 hrb hbr hacc hq hpl hkl
      go_wp2_with fail
      refine (Bytes_any x _ hx1).mono ?_
      rintro e w2 ⟨rfl, rfl⟩
      rw [HBR.out]
      have HGA := Lib.hid (show Gath w.heap.size (wo.alloc (.cells (Lib.byteCells q).toArray 5)) wo.heap.size q _ acc from ⟨own_alloc HO.out ((Below.refl _ _).alloc (Nat.le_refl _) _), ⟨_, _, heap_alloc_new wo _⟩, own_lt HO.out⟩)
      have HB2 := Lib.hid (HB.out.alloc HB.out.size (.cells (Lib.byteCells q).toArray 5))
      obtain ⟨Q, hQ⟩ : ∃ Q, wo.heap.size = Q := ⟨_, rfl⟩
      obtain ⟨w3, hw3⟩ : ∃ w3, wo.alloc (.cells (Lib.byteCells q).toArray 5) = w3 := ⟨_, rfl⟩
      rw [hQ, hw3] at HGA
      rw [hw3] at HB2
      rw [hQ, hw3]
      obtain ⟨L, hL⟩ : ∃ L, q.length = L := ⟨_, rfl⟩
      rw [hL] at HW ⊢
      have HLL := Lib.hid hL
      have hL4 : L ≤ 4 := HW.out.2
      clear hQ hw3 hL hw
      go_wp2_with fail
      go_loopw [3, 6] (fun v j wy => ∃ m : Nat, j = .int .i64 m ∧ m ≤ L ∧ Gath w.heap.size wy Q q v (acc ++ q.take m) ∧ Below w.heap.size w wy) (fun _ j _ => L - (intOf j).toNat)
      case atStart => exact ⟨0, rfl, Nat.zero_le _, by simpa using HGA.out, HB2.out⟩
      case round =>
        obtain ⟨m, rfl, hm, hga, hby⟩ := hrel
        have HGB := Lib.hid hga
        have HBY := Lib.hid hby
        clear hby
        by_cases hml : m < L
        · have hmq : m < q.length := by have := HLL.out; omega
          have d1 := hga.cell m hmq
          have HTK := Lib.hid (show acc ++ q.take (m + 1) = acc ++ q.take m ++ [q.getD m 0] by
            rw [List.take_add_one, List.getElem?_eq_getElem hmq, ← List.append_assoc]
            simp [List.getD, List.getElem?_eq_getElem hmq])
          have hal : (acc ++ q.take m).length ≤ 4 * n + 4 := by have := HPL.out; have := HW.out.2; rw [List.length_append, List.length_take]; omega
          have hao := hga.own
          obtain ⟨cc, hcc⟩ : ∃ cc, q.getD m 0 = cc := ⟨_, rfl⟩
          rw [hcc] at d1 HTK
          obtain ⟨ac, hac⟩ : ∃ ac, acc ++ q.take m = ac := ⟨_, rfl⟩
          rw [hac] at HGB HTK hal hao
          have HAO := Lib.hid hao
          have HAL := Lib.hid hal
          have HML := Lib.hid hml
          obtain ⟨ci, hci⟩ : ∃ ci : Int, (cc.toNat : Int) = ci := ⟨_, rfl⟩
          rw [hci] at d1
          have HCI := Lib.hid hci
          have z0 : (0 : Int) ≤ (m : Int) := by omega
          clear hcc hac hal hao hci hga hmq
          go_wp2_with (at_builtin; refine wpList_append_lies _ rfl (.tmp 24) (.tmp 29) 45 rfl w.heap.size 5 i0 (.int .u8 0) 1 1 hsl hi hz0 hz1 hz2 rfl (by decide) _ _ (Lib.byteCells ac) rfl (own_alloc HAO.out ((Below.refl _ _).alloc (Nat.le_refl _) _)) _ 1 1 [.int .u8 ci] rfl rfl (fun j u hj => news_at _ _ _ j u hj) (by intro u hu; simp at hu; subst hu; rfl) (by decide) (by have := HAL.out; unfold maxLen; omega) (by have := HAL.out; omega) (by have := HBY.out.size; simp; omega) _ rfl ?_; intro g cap w9 hown hgrow hat hgl; have HPU := Lib.hid (HGB.out.push (b := cc) (by rw [HCI.out]; exact hown) hgrow hat); have HB9 := Lib.hid ((HBY.out.alloc HBY.out.size _).grown hgrow (by have := HBY.out.size; simp; omega) (fun k hk => (HAO.out.lt k hk).1)); clear hown hgrow hat hgl)
          go_roundw
          case rel => exact ⟨m + 1, by go_num, HML.out, by rw [HTK.out]; have := HPU.out; exact this, HB9.out⟩
          case measure => have := HML.out; simp [intOf]; omega
        · have hmL : m = q.length := by have := HLL.out; omega
          have HE := Lib.hid (show Gath w.heap.size wr Q q _ (acc ++ q) by rw [hmL, List.take_length] at hga; exact hga)
          clear hga hmL
          go_wp2_with fail
          go_roundw
          case rel => exact ⟨k + 1, by go_num, HLT.out, by rw [HES.out]; exact HE.out.own, HBY.out⟩
          case measure => have := HLT.out; simp [intOf]; omega
    · have hkn : k = rs.length := by have := HN.out; omega
      have ho := HO.out
      rw [hkn, List.take_length] at ho
      obtain ⟨A', c', hv, hcap, hcb⟩ := own_bytes ho
      have hcv := conv_bytes (c := c') hcb
      subst hv
      have HCV := hcv
      clear hkn ho hcap hcb
      go_wp2_with fail
      go_ret
      exact ⟨by rw [HSA.out]; rfl, HB.out⟩
end Go.Proofs.YtfgekdefnbohbaaDoor.U
