/- What Apply answers, case by case; small facts for OpRefused. -/
import Derived.Test.YtkdhomiieenfnaaGreatDoorLs40
import Derived.Test.YtkdhomiieenfnaaGreatDoorLs24
namespace Go.Proofs.YtkdhomiieenfnaaGreatDoor.Lw
open Go.RowKit Go.Proofs Go.Proofs.YtkdhomiieenfnaaGreatDoor.U Go.Proofs.YtkdhomiieenfnaaGreatDoor.Txt Go.Proofs.YtkdhomiieenfnaaGreatDoor.Rp Go.Proofs.YtkdhomiieenfnaaGreatDoor.O
set_option linter.unusedVariables false
set_option linter.unusedSimpArgs false

theorem bump_txt {d : Int} {rs : List (Int × Int)} {cs : List Cl} (h : ∀ c ∈ cs, TxtRune c.1) : (∀ c ∈ bumpC d rs cs, TxtRune c.1) ∧ (bumpC d rs cs).length = cs.length := by
  refine ⟨fun c hc => ?_, bumpC_len d rs cs⟩
  have h1 : c.1 ∈ (bumpC d rs cs).map (·.1) := List.mem_map_of_mem hc
  rw [bumpC_fst] at h1
  obtain ⟨x, hx, e⟩ := List.mem_map.1 h1
  rw [← e]
  exact h x hx
/-- What Apply answers. -/
theorem apply_cases {cs : List Cl} {i0 i1 kd a : Int} {tx : ByteArray} {k er : Nat} {rs : List (Int × Int)} {t0 t1 : Int} {on : Bool} {xs : List Int} (hco : Cok cs) (htx : ∀ c ∈ cs, TxtRune c.1) (hxs : er = 0 → k = xs.length ∧ ∀ r ∈ xs, TxtRune r) {E : Int} (hE : opE i0 i1 kd a tx k er rs t0 t1 on cs.length = E) :
    (E ≠ 0 ∧ applyR cs i0 i1 kd a tx k er rs t0 t1 on xs = (E, cs)) ∨
    (E = 0 ∧ kd = 1 ∧ ∃ cs', applyR cs i0 i1 kd a tx k er rs t0 t1 on xs = (0, cs') ∧ (∀ c ∈ cs', TxtRune c.1) ∧ cs'.length ≤ cs.length + 256) ∨
    (E = 0 ∧ (kd = 2 ∨ kd = 3) ∧ (Nrm 0 rs ∧ (∀ x ∈ rs, x.2 ≤ (cs.length : Int)) ∧ rs.length ≤ 32768) ∧ ((stopsR kd rs cs ∧ applyR cs i0 i1 kd a tx k er rs t0 t1 on xs = (if kd = 2 then 31 else 30, cs)) ∨ (¬ stopsR kd rs cs ∧ ∃ cs', applyR cs i0 i1 kd a tx k er rs t0 t1 on xs = (0, cs') ∧ (∀ c ∈ cs', TxtRune c.1) ∧ cs'.length ≤ cs.length + 256))) ∨
    (E = 0 ∧ kd = 4 ∧ applyR cs i0 i1 kd a tx k er rs t0 t1 on xs = (40, cs)) := by
  by_cases h0 : E = 0
  · subst h0
    have hk := (opE_ok hE).kind
    have hp := opE_parts hE
    have hap : applyR cs i0 i1 kd a tx k er rs t0 t1 on xs = if kd = 1 then (0, cs.take a.toNat ++ run xs 0 ++ cs.drop a.toNat) else
        if kd = 2 then (if (bumpR 1 cs rs).1 = 0 then bumpR 1 cs rs else ((bumpR 1 cs rs).1, cs)) else
        if kd = 3 then (if (bumpR (-1) cs rs).1 = 0 then bumpR (-1) cs rs else ((bumpR (-1) cs rs).1, cs)) else (40, cs) := by
      unfold applyR
      rw [hE, if_neg (by decide)]
    have hk4 : kd = 1 ∨ (kd = 2 ∨ kd = 3) ∨ kd = 4 := by omega
    rcases hk4 with h1 | h23 | h4
    · refine .inr (.inl ⟨rfl, h1, _, by rw [hap, if_pos h1], ?_, ?_⟩)
      · have hi := insE_ok (hp.2.1 h1)
        obtain ⟨hk, ht⟩ := hxs hi.1
        intro c hc
        rcases List.mem_append.1 hc with h | h
        · rcases List.mem_append.1 h with h | h
          · exact htx c (List.mem_of_mem_take h)
          · exact ht _ (run_mem h).2
        · exact htx c (List.mem_of_mem_drop h)
      · have hi := insE_ok (hp.2.1 h1)
        obtain ⟨hk, ht⟩ := hxs hi.1
        rw [List.length_append, List.length_append, List.length_take, List.length_drop, run_len]
        have := hi.2.2.1
        omega
    · obtain ⟨hne, hl, hsp, hnr, hx⟩ := rngE_ok (hp.2.2 h23)
      refine .inr (.inr (.inl ⟨rfl, h23, ⟨hnr, hx, hl⟩, ?_⟩))
      rw [stopsR_iff h23]
      rcases h23 with rfl | rfl
      · have hb := bumpR_spec (d := 1) (.inl rfl) rs 0 cs (Int.le_refl _) hnr hx hco
        rw [if_pos rfl, if_pos rfl]
        rw [if_neg (by decide), if_pos rfl] at hap
        by_cases hs : stopC 1 rs cs
        · refine .inl ⟨hs, ?_⟩
          have h1 := hb.1 hs
          rw [if_neg (by decide)] at h1
          rw [hap, h1, if_neg (by decide)]
        · refine .inr ⟨hs, bumpC 1 rs cs, ?_, (bump_txt htx).1, by rw [(bump_txt htx).2]; omega⟩
          have h1 := (hb.2 hs).1
          rw [hap, h1, if_pos rfl]
      · have hb := bumpR_spec (d := -1) (.inr rfl) rs 0 cs (Int.le_refl _) hnr hx hco
        rw [if_neg (by decide), if_neg (by decide)]
        rw [if_neg (by decide), if_neg (by decide), if_pos rfl] at hap
        by_cases hs : stopC (-1) rs cs
        · refine .inl ⟨hs, ?_⟩
          have h1 := hb.1 hs
          rw [if_pos (by decide)] at h1
          rw [hap, h1, if_neg (by decide)]
        · refine .inr ⟨hs, bumpC (-1) rs cs, ?_, (bump_txt htx).1, by rw [(bump_txt htx).2]; omega⟩
          have h1 := (hb.2 hs).1
          rw [hap, h1, if_pos rfl]
    · exact .inr (.inr (.inr ⟨rfl, h4, by rw [hap, if_neg (by omega), if_neg (by omega), if_neg (by omega)]⟩))
  · refine .inl ⟨h0, ?_⟩
    unfold applyR
    rw [hE, if_pos h0]
/-- A load of an operation that lies within a row of steps. -/
theorem ldO_at {w : World} {b o : Nat} {i0 i1 kd a : Int} {tx : ByteArray} {v : Value} {t0 t1 : Int} {on : Bool} (c0 : w.cell? ⟨b, o, none⟩ = some (.int .i64 i0)) (c1 : w.cell? ⟨b, o + 1, none⟩ = some (.int .i64 i1)) (c2 : w.cell? ⟨b, o + 2, none⟩ = some (.int .i64 kd)) (c3 : w.cell? ⟨b, o + 3, none⟩ = some (.int .i64 a)) (c4 : w.cell? ⟨b, o + 4, none⟩ = some (.string tx)) (c5 : w.cell? ⟨b, o + 5, none⟩ = some v) (c6 : w.cell? ⟨b, o + 6, none⟩ = some (.int .i64 t0)) (c7 : w.cell? ⟨b, o + 7, none⟩ = some (.int .i64 t1)) (c8 : w.cell? ⟨b, o + 8, none⟩ = some (.bool on)) :
    (ldO (.pointer (some ⟨b, o, none⟩))).run Tryz.prog w = .ok (.agg #[.int .i64 i0, .int .i64 i1, .int .i64 kd, .int .i64 a, .string tx, v, .int .i64 t0, .int .i64 t1, .bool on]) w := by
  unfold ldO
  go_simp
theorem ranges_take {w : World} {A : Option Addr} {n m : Nat} {rs ys : List (Int × Int)} (h : Ranges w A n (rs ++ ys)) (hm : rs.length = m) : Ranges w A m rs := ⟨hm.symm, fun h0 => by
  obtain ⟨b, off, e, hc⟩ := h.at_ (by rw [h.len, List.length_append]; omega)
  refine ⟨b, off, e, fun j hj => ?_⟩
  have := hc j (by rw [List.length_append]; omega)
  rwa [List.getElem_append_left hj] at this⟩
/-- The ranges of what copied hands back. -/
theorem copy_ranges {w : World} {B g c n : Nat} {rs : List (Int × Int)} (hn : rs.length = n) (h : w.ownsRow B 102 2 (.slice (some ⟨g, 0, none⟩) (n + 2) c) (n + 2) (rsCells (rs ++ [(-7, -8), (-9, -9)]))) : Ranges w (some ⟨g, 0, none⟩) n rs := by
  rcases h.2 with ⟨h1, _⟩ | ⟨g', cap, cur, hv, hb, hg, hcap, _⟩
  · cases h1
  · have e : g = g' := by injection hv with h1; injection h1 with h1; injection h1
    subst e
    refine ranges_take (ys := [(-7, -8), (-9, -9)]) (n := n + 2) ⟨by rw [List.length_append, hn]; rfl, fun _ => ⟨g, 0, rfl, fun j hj => ?_⟩⟩ hn
    have hg2 := rsCells_get _ j hj
    have e1 : (⟨g, 0 + j * 2, none⟩ : Addr) = (⟨g, 0, none⟩ : Addr).add (j * 2) := by simp [Addr.add]
    have e2 : (⟨g, 0 + j * 2 + 1, none⟩ : Addr) = (⟨g, 0, none⟩ : Addr).add (j * 2 + 1) := by simp [Addr.add]
    rw [e1, e2]
    exact ⟨h.cells (g := g) rfl _ _ hg2.1, h.cells (g := g) rfl _ _ hg2.2⟩
/-- The cells of a row of one's own, and where they lie. -/
theorem cells_own {w : World} {B : Nat} {v : Value} {cs : List Cl} (h : w.ownsRow B 80 2 v cs.length (clCells cs)) : ∃ A c, v = .slice A cs.length c ∧ CellsIn w A cs ∧ ∀ g off, A = some ⟨g, off, none⟩ → B ≤ g := by
  rcases h.2 with ⟨hv, h0⟩ | ⟨g, cap, cur, hv, hbg, hg, hcap, hrest⟩
  · exact ⟨none, 0, by rw [hv, h0], fun hp => by omega, fun _ _ e => by cases e⟩
  · refine ⟨_, cap, hv, fun hp => ⟨g, 0, rfl, fun j hj => ?_⟩, fun _ _ e => by cases e; exact hbg⟩
    obtain ⟨a1, a2⟩ := clCells_get cs j hj
    have e : ∀ k, (⟨g, 0 + k, none⟩ : Addr) = (⟨g, 0, none⟩ : Addr).add k := fun k => by simp [Addr.add]
    exact ⟨by rw [e, h.cells (g := g) (by rw [hv]; rfl) _ _ a1], by rw [show 0 + j * 2 + 1 = 0 + (j * 2 + 1) by omega, e, h.cells (g := g) (by rw [hv]; rfl) _ _ a2]⟩
theorem cellsIn_keepB {w w' : World} {A : Option Addr} {cs : List Cl} {b : Nat} (h : CellsIn w A cs) (hne : ∀ g off, A = some ⟨g, off, none⟩ → g ≠ b) (hg : w.grownBy w' (some b)) : CellsIn w' A cs := fun h0 => by
  obtain ⟨g, off, e, hc⟩ := h h0
  exact ⟨g, off, e, fun j hj => ⟨cell_keepB (hc j hj).1 (hne g off e) hg, cell_keepB (hc j hj).2 (hne g off e) hg⟩⟩
end Go.Proofs.YtkdhomiieenfnaaGreatDoor.Lw
