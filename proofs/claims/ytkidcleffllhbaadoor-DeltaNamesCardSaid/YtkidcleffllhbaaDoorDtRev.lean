/- slices.Reverse on splices. -/
import Derived.Test.YtkidcleffllhbaaDoorDtSpl
namespace Go.Proofs.YtkidcleffllhbaaDoor.Dt
open Go.RowKit Go.Proofs Go.Proofs.YtkidcleffllhbaaDoor.U Go.Proofs.YtkidcleffllhbaaDoor.Txt
set_option linter.unusedVariables false
set_option linter.unusedSimpArgs false

/-- A list whose k outer elements at either end are exchanged. -/
structure RevAt (l : List Spl) (k : Nat) (cur : List Spl) : Prop where
  len : cur.length = l.length
  at_ : ∀ j, j < l.length → cur[j]? = if j < k ∨ l.length ≤ j + k then l[l.length - 1 - j]? else l[j]?
theorem RevAt.new (l : List Spl) : RevAt l 0 l := ⟨rfl, fun j hj => by rw [if_neg (by omega)]⟩
theorem RevAt.step {l cur : List Spl} {k : Nat} (h : RevAt l k cur) (hk : k + k + 1 < l.length) : RevAt l (k + 1) ((cur.set k (l[l.length - 1 - k]'(by omega))).set (l.length - 1 - k) (l[k]'(by omega))) := by
  refine ⟨by simp [h.len], fun j hj => ?_⟩
  have hl := h.len
  by_cases h1 : j = l.length - 1 - k
  · subst h1
    rw [List.getElem?_set_self (by simp; omega), if_pos (by omega), show l.length - 1 - (l.length - 1 - k) = k by omega, List.getElem?_eq_getElem (by omega)]
  · rw [List.getElem?_set_ne (by omega)]
    by_cases h2 : j = k
    · subst h2
      rw [List.getElem?_set_self (by omega), if_pos (by omega), List.getElem?_eq_getElem (by omega)]
    · rw [List.getElem?_set_ne (by omega), h.at_ j hj]
      by_cases h3 : j < k ∨ l.length ≤ j + k
      · rw [if_pos h3, if_pos (by omega)]
      · rw [if_neg h3, if_neg (by omega)]
theorem RevAt.done {l cur : List Spl} {k : Nat} (h : RevAt l k cur) (hk : l.length ≤ k + k + 1) : cur = l.reverse := by
  apply List.ext_getElem?
  intro j
  by_cases hj : j < l.length
  · rw [h.at_ j hj, List.getElem?_reverse hj]
    split
    · rfl
    · rw [show l.length - 1 - j = j by omega]
  · rw [List.getElem?_eq_none (by rw [h.len]; omega), List.getElem?_eq_none (by simp; omega)]
theorem RevAt.mid {l cur : List Spl} {k : Nat} (h : RevAt l k cur) (hk : k + k + 1 < l.length) : cur[k]? = l[k]? ∧ cur[l.length - 1 - k]? = l[l.length - 1 - k]? := by
  rw [h.at_ k (by omega), if_neg (by omega), h.at_ (l.length - 1 - k) (by omega), if_neg (by omega)]
  exact ⟨rfl, rfl⟩
/-- A splice laid into a list in memory. -/
theorem own_spl {w : World} {B e g cap n : Nat} {l : List Spl} (h : w.ownsRow B e 3 (.slice (some ⟨g, 0, none⟩) n cap) n (splCells l)) (j : Nat) (s : Spl) (hj : j < l.length) :
    (((w.setCell ⟨g, j * 3, none⟩ (.int .i64 s.at_)).setCell ⟨g, j * 3 + 1, none⟩ (.int .i64 s.del)).setCell ⟨g, j * 3 + 2, none⟩ (.string (Str s.ins))).ownsRow B e 3 (.slice (some ⟨g, 0, none⟩) n cap) n (splCells (l.set j s)) := by
  have h1 := (h.stored (j * 3) (.int .i64 s.at_)).1
  have h2 := (h1.stored (j * 3 + 1) (.int .i64 s.del)).1
  have h3 := (h2.stored (j * 3 + 2) (.string (Str s.ins))).1
  rwa [splCells_set l j s hj] at h3
theorem own_drew1 {w : World} {B e size n : Nat} {v : Value} {xs : List Value} (h : w.ownsRow B e size v n xs) : w.drew.ownsRow B e size v n xs := h
set_option maxRecDepth 100000 in
set_option maxHeartbeats 4000000 in
theorem Reverse_any (v : Value) (l : List Spl) (B : Nat) (w : World) (ho : w.ownsRow B 37 3 v l.length (splCells l)) (hl : l.length ≤ 100000) :
    Calls Tryd.prog 30 #[v] w fun e w' => (∃ r, e = .returned r) ∧ w'.ownsRow B 37 3 v l.length (splCells l.reverse) ∧ Below B w w' := by
  obtain ⟨A, c, rfl⟩ := own_shape ho
  have HO := Lib.hid ho
  clear ho
  obtain ⟨n, hn⟩ : ∃ n, l.length = n := ⟨_, rfl⟩
  have HN := Lib.hid hn
  rw [hn] at HO hl ⊢
  go_enter Tryd.func30, Tryd.ntmps30
  go_wp2_with fail
  go_loopw [2, 3] (fun i j wr => ∃ (k : Nat) (cur : List Spl), i = .int .i64 k ∧ j = .int .i64 ((n : Int) - 1 - k) ∧ (k ≤ n) ∧ RevAt l k cur ∧ wr.ownsRow B 37 3 (.slice A n c) n (splCells cur) ∧ Below B w wr) (fun i _ _ => n - (intOf i).toNat)
  case atStart => exact ⟨0, l, rfl, by go_num, Nat.zero_le _, RevAt.new l, HO.out, Below.refl _ _⟩
  case round =>
    obtain ⟨k, cur, rfl, rfl, hk, hrv, hown, hb⟩ := hrel
    have HRV := Lib.hid hrv
    have HO2 := Lib.hid hown
    have HB := Lib.hid hb
    clear hrv hown hb
    by_cases hlt : k + k + 1 < n
    · obtain ⟨j, hj⟩ : ∃ j : Nat, n - 1 - k = j := ⟨_, rfl⟩
      rw [show (n : Int) - 1 - k = (j : Int) by omega]
      obtain ⟨g, cap, hv⟩ := own_some HO2.out (by omega)
      cases hv
      have hkl : k < l.length := by rw [HN.out]; omega
      have hjl : j < l.length := by rw [HN.out]; omega
      obtain ⟨m1, m2⟩ := HRV.out.mid (by rw [HN.out]; exact hlt)
      rw [HN.out, hj] at m2
      rw [List.getElem?_eq_getElem hkl] at m1
      rw [List.getElem?_eq_getElem hjl] at m2
      obtain ⟨q1, e1⟩ := List.getElem?_eq_some_iff.1 m1
      obtain ⟨q2, e2⟩ := List.getElem?_eq_some_iff.1 m2
      have g1 := splCells_get cur k q1
      have g2 := splCells_get cur j q2
      rw [e1] at g1
      rw [e2] at g2
      have a0 := HO2.out.cellAt (k * 3) (by omega)
      have a1 := HO2.out.cellAt (k * 3 + 1) (by omega)
      have a2 := HO2.out.cellAt (k * 3 + 2) (by omega)
      have b0 := HO2.out.cellAt (j * 3) (by omega)
      have b1 := HO2.out.cellAt (j * 3 + 1) (by omega)
      have b2 := HO2.out.cellAt (j * 3 + 2) (by omega)
      rw [g1.1] at a0
      rw [g1.2.1] at a1
      rw [g1.2.2] at a2
      rw [g2.1] at b0
      rw [g2.2.1] at b1
      rw [g2.2.2] at b2
      have f := fun j => HO2.out.frozenAt j
      have hst := HRV.out.step (by rw [HN.out]; exact hlt)
      simp only [HN.out, hj] at hst
      generalize l[k] = sk at a0 a1 a2 hst
      generalize l[j] = sj at b0 b1 b2 hst
      have HST := Lib.hid hst
      have HQ := Lib.hid (And.intro q1 q2)
      have hij : (k : Int) < j := by omega
      have hjn : (j : Int) < n := by omega
      have hj0 : (0 : Int) ≤ j := by omega
      clear m1 m2 q1 q2 e1 e2 g1 g2 hst hkl hjl
      go_wp2_with fail
      go_region
      have h1 := own_spl HO2.out k sj HQ.out.1
      have h2 := own_spl h1 j sk (by rw [List.length_set]; exact HQ.out.2)
      have hg := own_at HO2.out
      have h3 := below_put (below_put (below_put (below_put (below_put (below_put HB.out hg (k * 3) (.int .i64 sj.at_)) hg (k * 3 + 1) (.int .i64 sj.del)) hg (k * 3 + 2) (.string (Str sj.ins))) hg (j * 3) (.int .i64 sk.at_)) hg (j * 3 + 1) (.int .i64 sk.del)) hg (j * 3 + 2) (.string (Str sk.ins))
      have HW := Lib.hid (And.intro (own_drew1 h2) h3.drew)
      clear h1 h2 h3 hg a0 a1 a2 b0 b1 b2 f
      go_wp2_with fail
      go_roundw
      case rel =>
        refine ⟨k + 1, (cur.set k sj).set j sk, by go_num, ?_, by omega, HST.out, HW.out.1, HW.out.2⟩
        exact congrArg (Value.int .i64) (by omega)
      case measure => simp [intOf]; omega
    · have hd : decide ((k : Int) < (n : Int) - 1 - k) = false := by simp; omega
      have hcur := HRV.out.done (by rw [HN.out]; omega)
      go_wp2_with fail
      refine bodyPost_end (results_none rfl _ _ _) rfl ?_
      exact ⟨⟨_, rfl⟩, by rw [← hcur]; exact HO2.out, HB.out⟩
end Go.Proofs.YtkidcleffllhbaaDoor.Dt
