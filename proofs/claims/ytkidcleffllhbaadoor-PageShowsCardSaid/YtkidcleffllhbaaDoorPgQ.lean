/- Small facts for the page's laws. -/
import Derived.Test.YtkidcleffllhbaaDoorPgS
namespace Go.Proofs.YtkidcleffllhbaaDoor.Pg
open Go.RowKit Go.Proofs Go.Joins Go.Proofs.YtkidcleffllhbaaDoor.U Go.Proofs.YtkidcleffllhbaaDoor.Txt
set_option linter.unusedVariables false
set_option linter.unusedSimpArgs false
attribute [local go_sem] frozen?_alloc_cells

theorem own_runes {W : World} {base e : Nat} {v : Value} {xs : List Int} (h : W.ownsRow base e 1 v xs.length (runeCells xs)) : ∃ A c, v = .slice A xs.length c ∧ xs.length ≤ c ∧ Runes W A xs := by
  rcases h.2 with ⟨rfl, h0⟩ | ⟨g, cap, cur, rfl, _, _, hcap, _⟩
  · exact ⟨none, 0, by rw [h0], by omega, fun hp => by omega⟩
  · refine ⟨_, cap, rfl, hcap, fun _ => ⟨_, rfl, fun j hj => h.cells (g := g) rfl j _ ?_⟩⟩
    simp [runeCells, List.getElem?_eq_getElem (show j < xs.length by omega), List.getD_eq_getElem?_getD]
theorem chain_get {w : Int} {rs : List Int} {a : Nat} {xs : List Row} {j : Nat} (h : Chain w rs a (xs.drop j)) : ∃ hj : j < xs.length, xs[j].lo = a ∧ RowOk w rs xs[j] ∧
    ((j + 1 = xs.length ∧ xs[j].hard = true ∧ xs[j].hi = rs.length) ∨ (j + 1 < xs.length ∧ xs[j].hard = true ∧ xs[j].hi < rs.length ∧ rs.getD xs[j].hi 0 = 10 ∧ Chain w rs (xs[j].hi + 1) (xs.drop (j + 1))) ∨ (j + 1 < xs.length ∧ xs[j].hard = false ∧ SoftOk w rs xs[j] ∧ Chain w rs xs[j].hi (xs.drop (j + 1)))) := by
  have hj : j < xs.length := by
    have := h.ne
    rw [List.length_drop] at this
    omega
  refine ⟨hj, ?_⟩
  rw [List.drop_eq_getElem_cons hj] at h
  generalize hx : xs[j] = x at h
  generalize hl : xs.drop (j + 1) = l at h
  have hlen : l.length = xs.length - (j + 1) := by rw [← hl, List.length_drop]
  cases h with
  | last _ h hh he => exact ⟨rfl, h, .inl ⟨by simp at hlen; omega, hh, he⟩⟩
  | hard _ _ h hh hlt hn hc => exact ⟨rfl, h, .inr (.inl ⟨by have := hc.ne; omega, hh, hlt, hn, hc⟩)⟩
  | soft _ _ h hh hs hc => exact ⟨rfl, h, .inr (.inr ⟨by have := hc.ne; omega, hh, hs, hc⟩)⟩

theorem cols_any' (A : Option Addr) (c n : Nat) (rs : List Int) (w : World) (hn : rs.length = n) (hl : n ≤ 1125899906842624) (hR : Runes w A rs) (hT : Tabs w) : Calls Tryd.prog 23 #[.slice A n c] w fun e w' => e = .returned (.int .i64 (colsF rs 0)) ∧ Below w.heap.size w w' := by
  subst hn
  exact cols_any A c rs w hl hR hT
end Go.Proofs.YtkidcleffllhbaaDoor.Pg
