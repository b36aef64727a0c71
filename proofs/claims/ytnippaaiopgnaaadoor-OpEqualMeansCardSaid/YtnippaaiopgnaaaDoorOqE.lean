/- What Check's OK says of an operation: plain facts. -/
import Derived.Test.YtnippaaiopgnaaaDoorOqB
import Derived.Test.YtnippaaiopgnaaaDoorUOtherP
namespace Go.Proofs.YtnippaaiopgnaaaDoor.O
open Go.RowKit Go.Proofs Go.Joins Go.Proofs.YtnippaaiopgnaaaDoor.U Go.Proofs.YtnippaaiopgnaaaDoor.Txt
set_option linter.unusedVariables false
set_option linter.unusedSimpArgs false

theorem chk_ok_text {l : List UInt8} {k ps : Nat} (h : chk l = (k, ps, 0)) : ∃ rs, l = enc rs ∧ k = rs.length ∧ ∀ r ∈ rs, TxtRune r := by
  obtain ⟨rs, t, hg, he, ht⟩ := split_text l.length l (Nat.le_refl _)
  rcases ht with rfl | ⟨hn, hf⟩
  · rw [List.append_nil] at he
    rw [he, chk_text rs hg] at h
    exact ⟨rs, he, (Prod.mk.inj h).1.symm, hg⟩
  · rw [he, chk_fault rs hg t hn hf] at h
    have := (Prod.mk.inj (Prod.mk.inj h).2).2
    unfold fault at this
    split at this <;> cases this
theorem chk_ok_size {l : List UInt8} {k ps : Nat} (h : chk l = (k, ps, 0)) : l.length ≤ 4 * k := by
  obtain ⟨rs, rfl, rfl, _⟩ := chk_ok_text h
  exact enc_len_le rs
theorem span_ok : ∀ (rs : List (Int × Int)) (p : Option Int), spanE p rs = 0 → ∀ r ∈ rs, (0 ≤ r.1 ∧ r.1 ≤ 1048576) ∧ (0 ≤ r.2 ∧ r.2 ≤ 1048576)
  | [], _, _, r, hr => by cases hr
  | (lo, hi) :: rs, p, h, r, hr => by
    have h0 : (0 ≤ lo ∧ hi ≤ 1048576 ∧ lo < hi) ∧ spanE (some hi) rs = 0 := by
      cases p with
      | none =>
        simp only [spanE] at h
        split at h
        · cases h
        · exact ⟨by omega, by simpa using h⟩
      | some q =>
        simp only [spanE] at h
        split at h
        · cases h
        · split at h
          · cases h
          · exact ⟨by omega, h⟩
    obtain ⟨h1, h⟩ := h0
    rcases List.mem_cons.1 hr with rfl | hr
    · simp only; omega
    · exact span_ok rs (some hi) h r hr
/-- What an OK says. -/
structure OkOp (i0 i1 kd a : Int) (tx : ByteArray) (k er : Nat) (rs : List (Int × Int)) (t0 t1 : Int) (on : Bool) : Prop where
  kind : kd = 1 ∨ kd = 2 ∨ kd = 3 ∨ kd = 4
  id : (0 ≤ i0 ∧ i0 ≤ 1024) ∧ (0 ≤ i1 ∧ i1 ≤ 1024)
  extra : extraB kd a tx rs.length t0 t1 on = false
  ins : kd = 1 → er = 0 ∧ 1 ≤ k ∧ k ≤ 256 ∧ 0 ≤ a ∧ a ≤ 1048576
  cover : kd = 2 ∨ kd = 3 → (rs ≠ [] ∧ rs.length ≤ 32768) ∧ ∀ r ∈ rs, (0 ≤ r.1 ∧ r.1 ≤ 1048576) ∧ (0 ≤ r.2 ∧ r.2 ≤ 1048576)
  stat : kd = 4 → (0 ≤ t0 ∧ t0 ≤ 1024) ∧ (0 ≤ t1 ∧ t1 ≤ 1024)
theorem idB_le {a b : Int} (h : idB a b = true) : (0 ≤ a ∧ a ≤ 1024) ∧ (0 ≤ b ∧ b ≤ 1024) := by
  unfold idB at h
  simp at h
  omega
theorem opE_ok {i0 i1 kd a : Int} {tx : ByteArray} {k er : Nat} {rs : List (Int × Int)} {t0 t1 : Int} {on : Bool} {total : Int} (h : opE i0 i1 kd a tx k er rs t0 t1 on total = 0) : OkOp i0 i1 kd a tx k er rs t0 t1 on := by
  unfold opE at h
  split at h
  · cases h
  split at h
  · cases h
  split at h
  · cases h
  split at h
  · cases h
  rename_i g1 g2 g3 g4
  have hid : (0 ≤ i0 ∧ i0 ≤ 1024) ∧ (0 ≤ i1 ∧ i1 ≤ 1024) := by
    by_cases hz : i0 = 0 ∧ i1 = 0
    · omega
    · by_cases hb : idB i0 i1 = false
      · exact absurd ⟨hz, hb⟩ g3
      · exact idB_le (by simpa using hb)
  have hk : kd = 1 ∨ kd = 2 ∨ kd = 3 ∨ kd = 4 := by omega
  have hx : extraB kd a tx rs.length t0 t1 on = false := by simpa using g4
  by_cases h1 : kd = 1
  · rw [if_pos h1] at h
    unfold insE at h
    split at h
    · omega
    split at h
    · cases h
    split at h
    · cases h
    split at h
    · cases h
    split at h
    · cases h
    exact ⟨hk, hid, hx, fun _ => by omega, fun h => by omega, fun h => by omega⟩
  rw [if_neg h1] at h
  by_cases h4 : kd = 4
  · rw [if_pos h4] at h
    split at h
    · cases h
    rename_i g5
    have : idB t0 t1 = true := by
      by_cases hb : idB t0 t1 = false
      · exact absurd (.inl hb) g5
      · simpa using hb
    exact ⟨hk, hid, hx, fun h => by omega, fun h => by omega, fun _ => idB_le this⟩
  · rw [if_neg h4] at h
    unfold rngE at h
    split at h
    · cases h
    rename_i g5
    split at h
    · exact absurd h (by assumption)
    rename_i g6
    have g7 : spanM rs = 0 := by omega
    have g8 : rs.length ≤ 32768 := by
      unfold spanM at g7
      split at g7
      · cases g7
      · omega
    rw [spanM_small g8] at g7
    exact ⟨hk, hid, hx, fun h => absurd h h1, fun _ => ⟨⟨g5, g8⟩, span_ok rs none g7⟩, fun h => absurd h h4⟩
/-- An OK's ranges are not many. -/
theorem OkOp.len {i0 i1 kd a : Int} {tx : ByteArray} {k er : Nat} {rs : List (Int × Int)} {t0 t1 : Int} {on : Bool} (h : OkOp i0 i1 kd a tx k er rs t0 t1 on) : rs.length ≤ 32768 := by
  by_cases hc : kd = 2 ∨ kd = 3
  · exact (h.cover hc).1.2
  · have hx := h.extra
    unfold extraB at hx
    have h2 : ¬ kd = 2 := fun e => hc (.inl e)
    have h3 : ¬ kd = 3 := fun e => hc (.inr e)
    simp [h2, h3] at hx
    by_cases h0 : rs.length = 0
    · omega
    · exact absurd hx.1.2 (by intro e; exact h0 (by simp [e]))
theorem idL_le (a b : Int) (ha : 0 ≤ a ∧ a ≤ 1024) (hb : 0 ≤ b ∧ b ≤ 1024) : (idL a b).length ≤ 43 := by
  unfold idL
  split
  · decide
  · have h1 := Lib.itoa_length_le a (by omega) (by omega)
    have h2 := Lib.itoa_length_le b (by omega) (by omega)
    rw [List.length_append, List.length_cons]
    omega
end Go.Proofs.YtnippaaiopgnaaaDoor.O
