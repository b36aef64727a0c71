/- Strings of runes that the statements make themselves: string(l) of a list of runes that the call owns; its bytes; Check of it. -/
import Derived.Test.YtkidcleffllhbaaDoorUBase
import Derived.Deep.AppendLies
namespace Go.Proofs.YtkidcleffllhbaaDoor.U
open Go.RowKit Go.Proofs.YtkidcleffllhbaaDoor.Txt
set_option linter.unusedVariables false
set_option linter.unusedSimpArgs false

/-- The string of a list of runes. -/
def Str (xs : List Int) : ByteArray := runesBytes xs
theorem foldl_enc (xs : List Int) : ∀ s : ByteArray, (xs.foldl (fun r n => r ++ Utf8.encode n) s).data.toList = s.data.toList ++ enc xs := by
  induction xs with
  | nil => intro s; simp [enc]
  | cons x xs ih =>
    intro s
    rw [List.foldl_cons, ih, enc_cons]
    simp [encB]
theorem str_list (xs : List Int) : (Str xs).data.toList = enc xs := by
  unfold Str runesBytes
  rw [foldl_enc]
  simp
theorem str_size (xs : List Int) : (Str xs).size = (enc xs).length := by rw [← size_toList, str_list]
theorem app_list (a b : ByteArray) : (a ++ b).data.toList = a.data.toList ++ b.data.toList := by simp
theorem take_list (a : ByteArray) (n : Nat) : (a.extract 0 n).data.toList = a.data.toList.take n := by
  simp [ByteArray.data_extract, Array.toList_extract]

/-- A slice of int32 whose cells are these numbers (nil, if there are none and it is nil). -/
def Cells32 (w : World) (A : Option Addr) (xs : List Int) : Prop := 0 < xs.length → ∃ ad, A = some ad ∧ ∀ j, j < xs.length → w.cell? (ad.add j) = some (.int .i32 (xs.getD j 0))
theorem own_runes {W : World} {base e : Nat} {v : Value} {xs : List Int} (h : W.ownsRow base e 1 v xs.length (i32s xs)) : ∃ A c, v = .slice A xs.length c ∧ xs.length ≤ c ∧ Cells32 W A xs := by
  rcases h.2 with ⟨rfl, h0⟩ | ⟨g, cap, cur, rfl, _, _, hcap, _⟩
  · exact ⟨none, 0, by rw [h0], by omega, fun hp => by omega⟩
  · refine ⟨_, cap, rfl, hcap, fun _ => ⟨_, rfl, fun j hj => h.cells (g := g) rfl j _ ?_⟩⟩
    simp [i32s, List.getElem?_eq_getElem (show j < xs.length by omega), List.getD_eq_getElem?_getD]
theorem conv_runes {W : World} {A : Option Addr} {c : Nat} {xs : List Int} (h : Cells32 W A xs) : (convert 22 9 (.slice A xs.length c)).run Tryd.prog W = .ok (.string (Str xs)) W := by
  rcases Nat.eq_zero_or_pos xs.length with h0 | h0
  · obtain rfl : xs = [] := List.length_eq_zero_iff.1 h0
    rw [run_convert_runes_string W _ _ _ _ _ _ Tryd.underlying22 Tryd.underlying21 Tryd.underlying9]
    cases A with
    | none => rfl
    | some a => exact run_runesToString W a 0 c [] (by rw [run_loadCells W a 0 (fun _ => .int .i32 0) (fun j hj => by omega)]; rfl)
  · obtain ⟨ad, rfl, hc⟩ := h h0
    have := run_convert_runes W 22 9 21 ad xs.length c xs (Nat.le_refl _) Tryd.underlying22 Tryd.underlying21 Tryd.underlying9 hc
    rwa [List.take_length] at this
theorem Reads32.below {w w' : World} {A : Option Addr} {n : Nat} {xs : List Int} (h : Reads32 w A n xs) (hb : Below w.heap.size w w') : Reads32 w' A n xs :=
  ⟨h.1, h.2.1, fun h0 => by
    obtain ⟨ad, e, hlt, hc⟩ := h.2.2 h0
    exact ⟨ad, e, Nat.lt_of_lt_of_le hlt hb.size, fun j hj => by rw [hb.cell (by rw [add_block]; exact hlt)]; exact hc j hj⟩⟩
/-- A list of runes that let hands back: its string is a text of so many runes. -/
theorem str_chk (xs : List Int) : chk (Str (xs.map letR)).data.toList = (xs.length, 0, 0) := by
  rw [str_list, chk_text _ (lets_good xs), List.length_map]
theorem cell_below {w w1 : World} (h : Below w.heap.size w w1) {a : Addr} {v : Value} (hc : w.cell? a = some v) : w1.cell? a = some v := (h.cell (World.block_lt_of_cell? w a hc)).trans hc
theorem Cells32.below {w w' : World} {A : Option Addr} {xs : List Int} (h : Cells32 w A xs) (hb : Below w.heap.size w w') : Cells32 w' A xs := fun h0 => by
  obtain ⟨ad, e, hc⟩ := h h0
  exact ⟨ad, e, fun j hj => cell_below hb (hc j hj)⟩
theorem Cells32.take {w : World} {A : Option Addr} {xs : List Int} (h : Cells32 w A xs) (k : Nat) : Cells32 w A (xs.take k) := fun h0 => by
  rw [List.length_take] at h0
  obtain ⟨ad, e, hc⟩ := h (by omega)
  refine ⟨ad, e, fun j hj => ?_⟩
  rw [List.length_take] at hj
  rw [hc j (by omega)]
  simp [List.getD, List.getElem?_take, show j < k by omega]
/-- string(l[:k]). -/
theorem conv_take {W : World} {A : Option Addr} {c k : Nat} {xs : List Int} (h : Cells32 W A xs) (hk : k ≤ xs.length) : (convert 22 9 (.slice A k c)).run Tryd.prog W = .ok (.string (Str (xs.take k))) W := by
  have := conv_runes (c := c) (h.take k)
  rwa [List.length_take, Nat.min_eq_left hk] at this
end Go.Proofs.YtkidcleffllhbaaDoor.U
