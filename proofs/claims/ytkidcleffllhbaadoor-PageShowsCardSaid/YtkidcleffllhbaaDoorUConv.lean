/- Bytes made strings, and parts of strings. -/
import Derived.Test.YtkidcleffllhbaaDoorUOps
import Derived.Lib.Builder
import Derived.Laws.Strings2
namespace Go.Proofs.YtkidcleffllhbaaDoor.U
open Go.RowKit Go.Proofs.YtkidcleffllhbaaDoor.Txt
set_option linter.unusedVariables false
set_option linter.unusedSimpArgs false

/-- A slice of bytes in memory (nil, if there are none and it is nil). -/
def CellsB (w : World) (A : Option Addr) (l : List UInt8) : Prop := 0 < l.length → ∃ ad, A = some ad ∧ ∀ j, j < l.length → w.cell? (ad.add j) = some (.int .u8 ((l.getD j 0).toNat : Int))
theorem push_fold : ∀ (l : List UInt8) (a : ByteArray), ((l.map fun b => (b.toNat : Int)).foldl (fun r n => r.push (UInt8.ofNat n.toNat)) a).data.toList = a.data.toList ++ l
  | [], a => by simp
  | b :: l, a => by
    rw [List.map_cons, List.foldl_cons, push_fold l]
    simp [ByteArray.push]
theorem conv_bytes {W : World} {A : Option Addr} {c : Nat} {l : List UInt8} (h : CellsB W A l) : (convert 42 9 (.slice A l.length c)).run Tryd.prog W = .ok (.string ⟨l.toArray⟩) W := by
  have hstr : ∀ ns : List Int, ns = l.map (fun b => (b.toNat : Int)) → ns.foldl (fun r n => r.push (UInt8.ofNat n.toNat)) ByteArray.empty = ⟨l.toArray⟩ := fun ns hn => by
    subst hn
    have := push_fold l ByteArray.empty
    apply ByteArray.ext
    rw [← Array.toList_inj, this]
    simp
  rcases Nat.eq_zero_or_pos l.length with h0 | h0
  · obtain rfl : l = [] := List.length_eq_zero_iff.1 h0
    rw [run_convert_bytes_string W _ _ _ _ _ _ Tryd.underlying42 Tryd.underlying5 Tryd.underlying9]
    cases A with
    | none => rfl
    | some a => exact run_bytesToString W a 0 c [] (by rw [run_loadCells W a 0 (fun _ => .int .u8 0) (fun j hj => by omega)]; rfl)
  · obtain ⟨ad, rfl, hc⟩ := h h0
    rw [run_convert_bytes_string W _ _ _ _ _ _ Tryd.underlying42 Tryd.underlying5 Tryd.underlying9, ← hstr _ rfl]
    have hl : l.length = (l.map fun b => (b.toNat : Int)).length := by simp
    rw [hl]
    apply run_bytesToString
    rw [run_loadCells W ad _ (fun j => .int .u8 ((l.map fun b => (b.toNat : Int)).getD j 0)) (fun j hj => ?_), range_map_take _ _ _ (Nat.le_refl _), List.take_length]
    have hj2 : j < l.length := by simpa using hj
    rw [hc j hj2]
    simp [List.getD, List.getElem?_map, List.getElem?_eq_getElem hj2]
theorem extract_list (S : ByteArray) (a b : Nat) (h : a ≤ b) : (S.extract a b).data.toList = (S.data.toList.take b).drop a := by
  have e : S = ⟨S.data.toList.toArray⟩ := by simp
  conv => lhs; rw [e]
  rw [ByteArray.extract_mk]
  show (S.data.toList.drop a).take (b - a) = _
  rw [List.drop_take]
end Go.Proofs.YtkidcleffllhbaaDoor.U
