/- OpOrder's orders: of each kind the part that is looked at first is told. -/
import Derived.Test.YtiagimmdohpddabDoorOpL
namespace Go.Proofs.YtiagimmdohpddabDoor.O
open Go.RowKit Go.Proofs Go.Joins Go.Proofs.YtiagimmdohpddabDoor.U Go.Proofs.YtiagimmdohpddabDoor.Txt
set_option linter.unusedVariables false
set_option linter.unusedSimpArgs false
attribute [local go_sem] frozen?_alloc_cells

/-- Where an operation's variable stands, and its ranges. -/
structure St (w0 w : World) (B : Nat) (vs : Array Value) (A : Option Addr) (n : Nat) (rs : List (Int × Int)) : Prop where
  box : w.heap[B]? = some (.cells vs 31 (0, 0))
  rng : Ranges w A n rs
  far : 0 < n → ∀ b off, A = some ⟨b, off, none⟩ → b ≠ B
  below : Below w0.heap.size w0 w
  le : w0.heap.size ≤ B
section
variable {w0 w : World} {B : Nat} {vs : Array Value} {A : Option Addr} {n : Nat} {rs : List (Int × Int)}
theorem St.lt (h : St w0 w B vs A n rs) : B < w.heap.size := (Array.getElem?_eq_some_iff.1 h.box).1
theorem St.step {w1 : World} (h : St w0 w B vs A n rs) (hb : Below w.heap.size w w1) : St w0 w1 B vs A n rs :=
  ⟨(hb.block _ h.lt).trans h.box, h.rng.below hb, h.far, h.below.trans (hb.mono h.below.size), h.le⟩
theorem St.put (h : St w0 w B vs A n rs) (i : Nat) (v : Value) : St w0 (w.setCell ⟨B, i, none⟩ v) B (vs.setIfInBounds i v) A n rs := by
  refine ⟨?_, ⟨h.rng.len, fun h0 => ?_⟩, h.far, h.below.setCell (p := ⟨B, i, none⟩) h.le v, h.le⟩
  · have := h.box
    simp [World.setCell, Array.getElem?_modify, this]
  · obtain ⟨b, off, e, hc⟩ := h.rng.at_ h0
    have hn := h.far h0 b off e
    have hh : (w.setCell ⟨B, i, none⟩ v).heap[b]? = w.heap[b]? := by simp [World.setCell, Array.getElem?_modify, hn, Ne.symm hn]
    exact ⟨b, off, e, fun j hj => by
      have := hc j hj
      constructor
      · have h1 := this.1; unfold World.cell? at h1 ⊢; simpa only [hh] using h1
      · have h1 := this.2; unfold World.cell? at h1 ⊢; simpa only [hh] using h1⟩
theorem St.other (h : St w0 w B vs A n rs) {A' : Option Addr} {n' : Nat} {rs' : List (Int × Int)} (hr : Ranges w A' n' rs') (hf : 0 < n' → ∀ b off, A' = some ⟨b, off, none⟩ → b ≠ B) : St w0 w B vs A' n' rs' := ⟨h.box, hr, hf, h.below, h.le⟩
theorem St.cell (h : St w0 w B vs A n rs) {i : Nat} {v : Value} (hv : vs[i]? = some v) : w.cell? ⟨B, i, none⟩ = some v := by rw [Lib.cell_of_heap h.box, hv]
theorem St.frozen (h : St w0 w B vs A n rs) (i : Nat) : w.frozen? ⟨B, i, none⟩ = false := Lib.frozen_of_heap h.box i
theorem St.nine {v0 v1 v2 v3 v4 v5 v6 v7 v8 : Value} (h : St w0 w B #[v0, v1, v2, v3, v4, v5, v6, v7, v8] A n rs) : w.cell? ⟨B, 0, none⟩ = some v0 ∧ w.cell? ⟨B, 1, none⟩ = some v1 ∧ w.cell? ⟨B, 2, none⟩ = some v2 ∧ w.cell? ⟨B, 3, none⟩ = some v3 ∧ w.cell? ⟨B, 4, none⟩ = some v4 ∧ w.cell? ⟨B, 5, none⟩ = some v5 ∧ w.cell? ⟨B, 6, none⟩ = some v6 ∧ w.cell? ⟨B, 7, none⟩ = some v7 ∧ w.cell? ⟨B, 8, none⟩ = some v8 :=
  ⟨h.cell rfl, h.cell rfl, h.cell rfl, h.cell rfl, h.cell rfl, h.cell rfl, h.cell rfl, h.cell rfl, h.cell rfl⟩
theorem St.fz {v0 v1 v2 v3 v4 v5 v6 v7 v8 : Value} (h : St w0 w B #[v0, v1, v2, v3, v4, v5, v6, v7, v8] A n rs) : w.frozen? ⟨B, 0, none⟩ = false ∧ w.frozen? ⟨B, 1, none⟩ = false ∧ w.frozen? ⟨B, 2, none⟩ = false ∧ w.frozen? ⟨B, 3, none⟩ = false ∧ w.frozen? ⟨B, 4, none⟩ = false ∧ w.frozen? ⟨B, 5, none⟩ = false ∧ w.frozen? ⟨B, 6, none⟩ = false ∧ w.frozen? ⟨B, 7, none⟩ = false ∧ w.frozen? ⟨B, 8, none⟩ = false :=
  ⟨h.frozen 0, h.frozen 1, h.frozen 2, h.frozen 3, h.frozen 4, h.frozen 5, h.frozen 6, h.frozen 7, h.frozen 8⟩
end
theorem St.new {w0 w : World} {vs : Array Value} {A : Option Addr} {n : Nat} {rs : List (Int × Int)} (hb : Below w0.heap.size w0 w) (hr : Ranges w A n rs) (hf : 0 < n → ∀ b off, A = some ⟨b, off, none⟩ → b < w.heap.size) : St w0 (w.alloc (.cells vs 31)) w.heap.size vs A n rs :=
  ⟨heap_alloc_new w _, hr.new _, fun h0 b off e => Nat.ne_of_lt (hf h0 b off e), hb.alloc hb.size _, hb.size⟩
def goodB (c n : Int) : Bool := (decide (c = 0) && decide (n = 0)) || idB c n
/-- What the first three looks say. -/
theorem opE_kind {i0 i1 kd a : Int} {tx : ByteArray} {k er : Nat} {rs : List (Int × Int)} {t0 t1 : Int} {on : Bool} {total : Int} (h1 : 0 ≤ total ∧ total ≤ 1048576) (h2 : kd < 1 ∨ 4 < kd) : opE i0 i1 kd a tx k er rs t0 t1 on total = 40 := by
  unfold opE; rw [if_neg (by omega), if_pos h2]
theorem opE_total {i0 i1 kd a : Int} {tx : ByteArray} {k er : Nat} {rs : List (Int × Int)} {t0 t1 : Int} {on : Bool} {total : Int} (h1 : total < 0 ∨ 1048576 < total) : opE i0 i1 kd a tx k er rs t0 t1 on total = 12 := by
  unfold opE; rw [if_pos h1]
theorem opE_id {i0 i1 kd a : Int} {tx : ByteArray} {k er : Nat} {rs : List (Int × Int)} {t0 t1 : Int} {on : Bool} {total : Int} (h1 : 0 ≤ total ∧ total ≤ 1048576) (h2 : 1 ≤ kd ∧ kd ≤ 4) (h3 : goodB i0 i1 = false) : opE i0 i1 kd a tx k er rs t0 t1 on total = 41 := by
  have h4 : ¬(i0 = 0 ∧ i1 = 0) ∧ idB i0 i1 = false := by
    unfold goodB at h3
    simp only [Bool.or_eq_false_iff] at h3
    exact ⟨fun h => by simp [h.1, h.2] at h3, h3.2⟩
  unfold opE; rw [if_neg (by omega), if_neg (by omega), if_pos h4]
theorem opE_past {i0 i1 kd a : Int} {tx : ByteArray} {k er : Nat} {rs : List (Int × Int)} {t0 t1 : Int} {on : Bool} {total : Int} (h1 : 0 ≤ total ∧ total ≤ 1048576) (h2 : 1 ≤ kd ∧ kd ≤ 4) (h3 : goodB i0 i1 = true) : opE i0 i1 kd a tx k er rs t0 t1 on total = if extraB kd a tx rs.length t0 t1 on = true then 42 else if kd = 1 then insE k er a total else if kd = 4 then (if idB t0 t1 = false ∨ (t0 = i0 ∧ t1 = i1) then 63 else 0) else rngE rs total := by
  have h4 : ¬(¬(i0 = 0 ∧ i1 = 0) ∧ idB i0 i1 = false) := by
    rintro ⟨h, h5⟩
    unfold goodB at h3
    rw [h5] at h3
    simp at h3
    exact h h3
  unfold opE; rw [if_neg (by omega), if_neg (by omega), if_neg h4]
theorem opE_extra {i0 i1 kd a : Int} {tx : ByteArray} {k er : Nat} {rs : List (Int × Int)} {t0 t1 : Int} {on : Bool} {total : Int} (h1 : 0 ≤ total ∧ total ≤ 1048576) (h2 : 1 ≤ kd ∧ kd ≤ 4) (h3 : goodB i0 i1 = true) (h4 : extraB kd a tx rs.length t0 t1 on = true) : opE i0 i1 kd a tx k er rs t0 t1 on total = 42 := by
  rw [opE_past h1 h2 h3, if_pos h4]
theorem good23 : goodB 2 3 = true := by decide


/-- A right operation of each kind, as 'base' makes it. -/
def Base (kind t a : Int) (tx : ByteArray) (n : Nat) (rs : List (Int × Int)) (t0 t1 : Int) : Prop :=
  (kind = 0 ∧ t = a ∧ tx = ⟨#[97, 98]⟩ ∧ n = 0 ∧ rs = [] ∧ t0 = 0 ∧ t1 = 0) ∨ (kind = 1 ∧ a = 0 ∧ tx = ⟨#[]⟩ ∧ n = 1 ∧ rs = [(t - 1, t)] ∧ t0 = 0 ∧ t1 = 0) ∨ (kind = 2 ∧ a = 0 ∧ tx = ⟨#[]⟩ ∧ n = 1 ∧ rs = [(0, 1)] ∧ t0 = 0 ∧ t1 = 0) ∨ (kind = 3 ∧ a = 0 ∧ tx = ⟨#[]⟩ ∧ n = 0 ∧ rs = [] ∧ t0 = 2 ∧ t1 = 2)
theorem chk_ab : chk (⟨#[97, 98]⟩ : ByteArray).data.toList = (2, 0, 0) := by decide +kernel
theorem chk_e : chk (⟨#[]⟩ : ByteArray).data.toList = (0, 0, 0) := by decide +kernel
theorem chk_a : chk (⟨#[97]⟩ : ByteArray).data.toList = (1, 0, 0) := by decide +kernel
theorem chk_aff : chk (⟨#[97, 255]⟩ : ByteArray).data.toList = (0, 1, 10) := by decide +kernel
theorem isE : (⟨#[]⟩ : ByteArray).toList.isEmpty = true := by kernel_rfl
theorem isA : (⟨#[97]⟩ : ByteArray).toList.isEmpty = false := by kernel_rfl
theorem small_le {tx : ByteArray} (h : tx.size ≤ 1024) : tx.size ≤ maxLen := Nat.le_trans h (by decide)
theorem Base.ok {kind t a : Int} {tx : ByteArray} {n : Nat} {rs : List (Int × Int)} {t0 t1 : Int} (ht : 1 ≤ t ∧ t ≤ 1000000) (h : Base kind t a tx n rs t0 t1) : (0 ≤ kind ∧ kind ≤ 3) ∧ ∃ k ps er, chk tx.data.toList = (k, ps, er) ∧ tx.size ≤ maxLen ∧ n ≤ 32768 ∧ opE 2 3 (kind + 1) a tx k er rs t0 t1 false t = 0 := by
  rcases h with ⟨rfl, rfl, rfl, rfl, rfl, rfl, rfl⟩ | ⟨rfl, rfl, rfl, rfl, rfl, rfl, rfl⟩ | ⟨rfl, rfl, rfl, rfl, rfl, rfl, rfl⟩ | ⟨rfl, rfl, rfl, rfl, rfl, rfl, rfl⟩
  · refine ⟨by decide, 2, 0, 0, chk_ab, small_le (by decide), by decide, ?_⟩
    rw [opE_past (by omega) (by decide) good23, if_neg (by simp [extraB]), if_pos (by decide)]
    unfold insE
    rw [if_neg (by decide), if_neg (by decide), if_neg (by decide), if_neg (by omega), if_neg (by omega), if_neg (by omega)]
  · refine ⟨by decide, 0, 0, 0, chk_e, small_le (by decide), by decide, ?_⟩
    rw [opE_past (by omega) (by decide) good23, if_neg (by simp [extraB, isE]), if_neg (by decide), if_neg (by decide)]
    have e1 : spanE none [(t - 1, t)] = 0 := by simp only [spanE]; rw [if_neg (by omega)]; rfl
    unfold rngE
    rw [if_neg (by simp), e1, if_neg (by decide), if_neg (by simp)]
  · refine ⟨by decide, 0, 0, 0, chk_e, small_le (by decide), by decide, ?_⟩
    rw [opE_past (by omega) (by decide) good23, if_neg (by simp [extraB, isE]), if_neg (by decide), if_neg (by decide)]
    have e1 : spanE none [(0, 1)] = 0 := by decide
    unfold rngE
    rw [if_neg (by simp), e1, if_neg (by decide), if_neg (by simp; omega)]
  · refine ⟨by decide, 0, 0, 0, chk_e, small_le (by decide), by decide, ?_⟩
    rw [opE_past (by omega) (by decide) good23, if_neg (by simp [extraB, isE]), if_neg (by decide), if_pos (by decide), if_neg (by decide)]
theorem base_any (kind t : Int) (hk : kind = 0 ∨ kind = 1 ∨ kind = 2 ∨ kind = 3) (ht : 1 ≤ t ∧ t ≤ 1000000) (w : World) : Calls Tryd.prog 6 #[.int .i64 kind, .int .i64 t] w fun e w' => (∃ a tx A n m rs t0 t1, e = .returned (opV 2 3 (kind + 1) a tx (.slice A n m) t0 t1 false) ∧ Ranges w' A n rs ∧ (0 < n → ∀ b off, A = some ⟨b, off, none⟩ → b < w'.heap.size) ∧ Base kind t a tx n rs t0 t1) ∧ Below w.heap.size w w' := by
  rcases hk with rfl | rfl | rfl | rfl
  · exact (base0 t w).mono fun e w' ⟨h1, hb⟩ => ⟨⟨_, _, _, 0, _, [], _, _, h1, Ranges.none _ _, fun h => absurd h (by decide), .inl ⟨rfl, rfl, rfl, rfl, rfl, rfl, rfl⟩⟩, hb⟩
  · exact (base1 t ht w).mono fun e w' ⟨⟨b, h1, hr, hlt⟩, hb⟩ => ⟨⟨_, _, _, 1, _, _, _, _, h1, hr, fun _ _ _ e => by cases e; exact hlt, .inr (.inl ⟨rfl, rfl, rfl, rfl, rfl, rfl, rfl⟩)⟩, hb⟩
  · exact (base2 t w).mono fun e w' ⟨⟨b, h1, hr, hlt⟩, hb⟩ => ⟨⟨_, _, _, 1, _, _, _, _, h1, hr, fun _ _ _ e => by cases e; exact hlt, .inr (.inr (.inl ⟨rfl, rfl, rfl, rfl, rfl, rfl, rfl⟩))⟩, hb⟩
  · exact (base3 t w).mono fun e w' ⟨h1, hb⟩ => ⟨⟨_, _, _, 0, _, [], _, _, h1, Ranges.none _ _, fun h => absurd h (by decide), .inr (.inr (.inr ⟨rfl, rfl, rfl, rfl, rfl, rfl, rfl⟩))⟩, hb⟩
end Go.Proofs.YtiagimmdohpddabDoor.O
