/- strings.Builder's WriteRune. -/
import Derived.Test.YtkdhomiieenfnaaDoorUBuild
import Derived.Test.YtkdhomiieenfnaaDoorShB
import Derived.Test.YtkdhomiieenfnaaDoorXLm0
namespace Go.Proofs.YtkdhomiieenfnaaDoor.Sh
open Go.RowKit Go.Proofs Go.Shelf Go.Proofs.YtkdhomiieenfnaaDoor.U Go.Proofs.YtkdhomiieenfnaaDoor.Txt
set_option linter.unusedVariables false
set_option linter.unusedSimpArgs false

set_option maxRecDepth 100000 in
set_option maxHeartbeats 4000000 in
theorem WriteRune_any (B b : Nat) (bs : List Value) (r : Int) (w : World) (hr : -2147483648 ≤ r ∧ r ≤ 2147483647) (h : Bld B b bs w) (hlen : bs.length + 4 ≤ 140737488355328) (hBw : B ≤ w.heap.size) :
    Calls Tryd.prog 53 #[.pointer (some ⟨b, 0, none⟩), .int .i32 r] w fun e w' => (∃ n : Int, e = .returned (.tuple #[.int .i64 n, .nilIface])) ∧ (Bld B b (bs ++ Lib.runeCells r) w' ∧ Below B w w' ∧ Lib.OthersKept 5 (some b) w w') := by
  go_enter Tryd.func53, Tryd.ntmps53
  go_wp2_with fail
  refine (copyCheck_any B b bs _ h).mono ?_
  rintro e w1 ⟨rfl, h1, hb1, hk1⟩
  obtain ⟨hB, v, hbk, hown, hne⟩ := h1
  have hkind := ownsRow_kind hown
  have c0 : w1.cell? ⟨b, 0, none⟩ = some (.pointer (some ⟨b, 0, none⟩)) := by rw [Lib.cell_of_heap hbk]; rfl
  have c1 : w1.cell? ⟨b, 1, none⟩ = some v := by rw [Lib.cell_of_heap hbk]; rfl
  obtain ⟨ao, cp, rfl⟩ : ∃ ao cp, v = .slice ao bs.length cp := by
    rcases hown.2 with ⟨hv, h0⟩ | ⟨g, cap, cur, hv, _⟩
    · rw [h0]; exact ⟨_, _, hv⟩
    · exact ⟨_, _, hv⟩
  have HK := Lib.hid hkind
  have HO := Lib.hid hown
  have HBK := Lib.hid hbk
  have HLEN := Lib.hid (show bs.length + 4 ≤ 140737488355328 from hlen)
  obtain ⟨m, hm⟩ : ∃ m, bs.length = m := ⟨_, rfl⟩
  rw [hm] at c1 HO HLEN HBK hne HK
  have HM := Lib.hid hm
  clear hkind hown hbk hlen hm
  go_wp2_with fail
  refine (Tryd.utf8_AppendRune_plain B _ m bs r hr.1 hr.2 _ HO.out HLEN.out (Nat.le_trans hBw hb1.size)).mono ?_
  rintro e w2 ⟨v', rfl, hown', o, hgrow⟩
  have hbk := HBK.out
  have hlt : b < w1.heap.size := (Array.getElem?_eq_some_iff.1 hbk).1
  have hb2 : w2.heap[b]? = some (.cells #[.pointer (some ⟨b, 0, none⟩), .slice ao m cp] 117 (0, 0)) := by
    rw [hgrow.block b (by simp; omega) (fun e => hne e.symm), Lib.alloc_old w1 _ b hlt]
    exact hbk
  have d0 : w2.cell? ⟨b, 0, none⟩ = some (.pointer (some ⟨b, 0, none⟩)) := by rw [Lib.cell_of_heap hb2]; rfl
  have d1 : w2.cell? ⟨b, 1, none⟩ = some (.slice ao m cp) := by rw [Lib.cell_of_heap hb2]; rfl
  have f1 : w2.frozen? ⟨b, 1, none⟩ = false := Lib.frozen_of_heap hb2 1
  have hrl := Lib.runeCells_le r
  obtain ⟨k, hk⟩ : ∃ k, (Lib.runeCells r).length = k := ⟨_, rfl⟩
  rw [hk] at hown' hrl
  obtain ⟨g, cap, rfl⟩ : ∃ g cap, v' = .slice (some ⟨g, 0, none⟩) (m + k) cap := by
    rcases hown'.2 with ⟨_, h0⟩ | ⟨g, cap, cur, hv, _⟩
    · omega
    · exact ⟨g, cap, hv⟩
  have HO2 := Lib.hid hown'
  have HB2 := Lib.hid hb2
  have HKK := Lib.hid hk
  have HGR := Lib.hid hgrow
  have HRL := Lib.hid hrl
  have hmk : m + k ≤ 140737488355328 := by have := HLEN.out; omega
  clear hown' hb2 hk hgrow hrl hbk c0 c1
  go_wp2_with fail
  go_ret2
  refine ⟨⟨_, rfl⟩, Or.inr ?_, ?_, ?_⟩
  · exact Lib.BuilderAt.put (T := 117) (e := 5) hB HB2.out (bs' := bs ++ Lib.runeCells r) (by rw [List.length_append, HM.out, HKK.out]; exact HO2.out) (by decide)
  · exact ((hb1.alloc (by have := hb1.size; omega) _).grown HGR.out (by have := hb1.size; simp; omega) (fun k hk => (HO.out.lt k hk).1)).setCell (p := ⟨b, 1, none⟩) hB _
  · exact ((hk1.alloc _).grown HGR.out (fun g hg => by
      obtain ⟨c, fz, hc⟩ := HK.out g hg
      exact ⟨c, fz, (Lib.alloc_old w1 _ g (Array.getElem?_eq_some_iff.1 hc).1).trans hc⟩)).setCell _ rfl _
theorem encR_eq (r : Int) (h : Utf8.valid r = true) : Lib.encodeRune r = encB r := by
  have hv := (valid_iff r).1 h
  unfold Lib.encodeRune
  have hx : ∀ z : Int, ∀ n : Nat, z = (n : Int) → z.toNat.toUInt8 = UInt8.ofNat n := fun z n e => by rw [e]; rfl
  rcases encB_cases r h with ⟨h1, e⟩ | ⟨h1, h2, e⟩ | ⟨h1, h2, e⟩ | ⟨h1, h2, e⟩
  · rw [e, Lib.encodeRuneZ_one (by omega) (by omega)]
    simp only [List.map_cons, List.map_nil]
    try rw [hx r r.toNat (by omega)]
  · rw [e, Lib.encodeRuneZ_two (by omega) (by omega)]
    simp only [List.map_cons, List.map_nil]
    rw [hx (192 + r / 64) (192 + r.toNat / 64) (by omega), hx (128 + r % 64) (128 + r.toNat % 64) (by omega)]
  · rw [e, Lib.encodeRuneZ_three (by omega)]
    simp only [List.map_cons, List.map_nil]
    rw [hx (224 + r / 4096) (224 + r.toNat / 4096) (by omega), hx (128 + r / 64 % 64) (128 + r.toNat / 64 % 64) (by omega), hx (128 + r % 64) (128 + r.toNat % 64) (by omega)]
  · rw [e, Lib.encodeRuneZ_four (by omega) (by omega)]
    simp only [List.map_cons, List.map_nil]
    rw [hx (240 + r / 262144) (240 + r.toNat / 262144) (by omega), hx (128 + r / 4096 % 64) (128 + r.toNat / 4096 % 64) (by omega), hx (128 + r / 64 % 64) (128 + r.toNat / 64 % 64) (by omega), hx (128 + r % 64) (128 + r.toNat % 64) (by omega)]
theorem enc_one (r : Int) : enc [r] = encB r := by simp [enc]
/-- A builder that holds a text. -/
abbrev TBld (B b : Nat) (xs : List Int) (w : World) : Prop := Bld B b (Lib.byteCells (enc xs)) w
theorem bca (a b : List UInt8) : Lib.byteCells (a ++ b) = Lib.byteCells a ++ Lib.byteCells b := by simp [Lib.byteCells]
theorem enc_size (xs : List Int) (n : Nat) (h : xs.length ≤ n) : (enc xs).length ≤ 4 * n := by have := enc_len_le xs; omega
theorem TRune (B b : Nat) (xs : List Int) (r : Int) (w : World) (hr : Utf8.valid r = true) (h : TBld B b xs w) (hlen : xs.length ≤ 8796093022208) (hBw : B ≤ w.heap.size) :
    Calls Tryd.prog 53 #[.pointer (some ⟨b, 0, none⟩), .int .i32 r] w fun e w' => (∃ n : Int, e = .returned (.tuple #[.int .i64 n, .nilIface])) ∧ (TBld B b (xs ++ [r]) w' ∧ Below B w w' ∧ Lib.OthersKept 5 (some b) w w') := by
  have hv := (valid_iff r).1 hr
  have := WriteRune_any B b _ r w (by omega) h (by rw [Lib.byteCells_length]; have := enc_len_le xs; omega) hBw
  rwa [← Lib.byteCells_encodeRune, encR_eq r hr, ← bca, show enc xs ++ encB r = enc (xs ++ [r]) by rw [enc_append, enc_one]] at this
end Go.Proofs.YtkdhomiieenfnaaDoor.Sh
