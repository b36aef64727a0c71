/- The rope's trees in plain Lean: their cells, what a node tells of them, and what every step does to them. The pieces of a tree in plain Lean, and a walk over them. Counters of ranges raised or lowered, in plain Lean: one range after the other is cell by cell. The visible cells of a row: their places, their runes, their stretches; plain Lean. The ranges of visible cells, and what hiding them leaves; the fewest runs; plain Lean. Digits of base 16, in plain Lean. -/
import Derived.KernelRfl
namespace Go.Proofs.YtkdhomiieenfnaaDoor.Rp
set_option linter.unusedVariables false
set_option linter.unusedSimpArgs false

/-- A cell: its rune and its counter. -/
abbrev Cl := Int × Int
/-- A tree: a piece of one counter between two trees, and what is still to be added to all counters. -/
inductive T where
  | nil : T
  | node (l : T) (rs : List Int) (h : Int) (r : T) (p : Int) : T
def up (by_ : Int) (l : List Cl) : List Cl := l.map fun c => (c.1, c.2 + by_)
def run (rs : List Int) (h : Int) : List Cl := rs.map fun r => (r, h)
def cells : T → List Cl
  | .nil => []
  | .node l rs h r p => up p (cells l ++ run rs h ++ cells r)
def hgt : T → Nat
  | .nil => 0
  | .node l _ _ r _ => 1 + max (hgt l) (hgt r)
def lvs : T → Nat
  | .nil => 0
  | .node l _ _ r _ => lvs l + 1 + lvs r
def lift (by_ : Int) : T → T
  | .nil => .nil
  | .node l rs h r p => .node l rs h r (p + by_)
theorem up_app (k : Int) (a b : List Cl) : up k (a ++ b) = up k a ++ up k b := by simp [up]
theorem up_up (j k : Int) (a : List Cl) : up j (up k a) = up (k + j) a := by simp [up, Int.add_assoc]
theorem up_zero (a : List Cl) : up 0 a = a := by simp [up]
theorem up_run (k : Int) (rs : List Int) (h : Int) : up k (run rs h) = run rs (h + k) := by simp [up, run]
theorem up_len (k : Int) (a : List Cl) : (up k a).length = a.length := by simp [up]
theorem run_len (rs : List Int) (h : Int) : (run rs h).length = rs.length := by simp [run]
theorem cells_lift (k : Int) (t : T) : cells (lift k t) = up k (cells t) := by
  cases t with
  | nil => rfl
  | node l rs h r p => simp only [lift, cells, up_up]
theorem cells_open (l : T) (rs : List Int) (h : Int) (r : T) (p : Int) : cells (.node l rs h r p) = cells (lift p l) ++ run rs (h + p) ++ cells (lift p r) := by
  rw [cells_lift, cells_lift]; simp only [cells, up_app, up_run]
theorem hgt_lift (k : Int) (t : T) : hgt (lift k t) = hgt t := by cases t <;> rfl
theorem lvs_lift (k : Int) (t : T) : lvs (lift k t) = lvs t := by cases t <;> rfl
theorem lift_zero (t : T) : lift 0 t = t := by cases t <;> simp [lift]
theorem lift_lift (j k : Int) (t : T) : lift j (lift k t) = lift (k + j) t := by cases t <;> simp [lift, Int.add_assoc]

/-! ### What a node tells -/
/-- The least and the greatest counter of cells (0 of none), and how many have the least. -/
def lo : List Cl → Int
  | [] => 0
  | c :: l => if l = [] then c.2 else min c.2 (lo l)
def hi : List Cl → Int
  | [] => 0
  | c :: l => if l = [] then c.2 else max c.2 (hi l)
def at_ (l : List Cl) : Nat := l.countP fun c => decide (c.2 = lo l)
theorem lo_le {l : List Cl} {c : Cl} (h : c ∈ l) : lo l ≤ c.2 := by
  induction l with
  | nil => simp at h
  | cons d l ih =>
    unfold lo
    rcases List.mem_cons.1 h with rfl | h
    · split <;> omega
    · have := ih h
      rw [if_neg (by intro e; rw [e] at h; simp at h)]; omega
theorem le_hi {l : List Cl} {c : Cl} (h : c ∈ l) : c.2 ≤ hi l := by
  induction l with
  | nil => simp at h
  | cons d l ih =>
    unfold hi
    rcases List.mem_cons.1 h with rfl | h
    · split <;> omega
    · have := ih h
      rw [if_neg (by intro e; rw [e] at h; simp at h)]; omega
theorem lo_mem {l : List Cl} (h : l ≠ []) : ∃ c ∈ l, c.2 = lo l := by
  induction l with
  | nil => exact absurd rfl h
  | cons d l ih =>
    unfold lo
    by_cases e : l = []
    · rw [if_pos e]; exact ⟨d, by simp, rfl⟩
    · rw [if_neg e]
      obtain ⟨c, hc, h2⟩ := ih e
      rcases Int.le_total d.2 (lo l) with h3 | h3
      · exact ⟨d, by simp, by omega⟩
      · exact ⟨c, by simp [hc], by omega⟩
theorem hi_mem {l : List Cl} (h : l ≠ []) : ∃ c ∈ l, c.2 = hi l := by
  induction l with
  | nil => exact absurd rfl h
  | cons d l ih =>
    unfold hi
    by_cases e : l = []
    · rw [if_pos e]; exact ⟨d, by simp, rfl⟩
    · rw [if_neg e]
      obtain ⟨c, hc, h2⟩ := ih e
      rcases Int.le_total (hi l) d.2 with h3 | h3
      · exact ⟨d, by simp, by omega⟩
      · exact ⟨c, by simp [hc], by omega⟩
theorem lo_eq {l : List Cl} {m : Int} (h1 : ∀ c ∈ l, m ≤ c.2) (h2 : ∃ c ∈ l, c.2 = m) : lo l = m := by
  obtain ⟨c, hc, rfl⟩ := h2
  have := lo_le hc
  obtain ⟨d, hd, e⟩ := lo_mem (l := l) (by intro e; rw [e] at hc; simp at hc)
  have := h1 d hd
  omega
theorem hi_eq {l : List Cl} {m : Int} (h1 : ∀ c ∈ l, c.2 ≤ m) (h2 : ∃ c ∈ l, c.2 = m) : hi l = m := by
  obtain ⟨c, hc, rfl⟩ := h2
  have := le_hi hc
  obtain ⟨d, hd, e⟩ := hi_mem (l := l) (by intro e; rw [e] at hc; simp at hc)
  have := h1 d hd
  omega
theorem lo_app {a b : List Cl} (ha : a ≠ []) (hb : b ≠ []) : lo (a ++ b) = min (lo a) (lo b) := by
  apply lo_eq
  · intro c hc
    rcases List.mem_append.1 hc with h | h
    · have := lo_le h; omega
    · have := lo_le h; omega
  · obtain ⟨c, hc, e⟩ := lo_mem ha
    obtain ⟨d, hd, f⟩ := lo_mem hb
    rcases Int.le_total (lo a) (lo b) with h | h
    · exact ⟨c, by simp [hc], by omega⟩
    · exact ⟨d, by simp [hd], by omega⟩
theorem hi_app {a b : List Cl} (ha : a ≠ []) (hb : b ≠ []) : hi (a ++ b) = max (hi a) (hi b) := by
  apply hi_eq
  · intro c hc
    rcases List.mem_append.1 hc with h | h
    · have := le_hi h; omega
    · have := le_hi h; omega
  · obtain ⟨c, hc, e⟩ := hi_mem ha
    obtain ⟨d, hd, f⟩ := hi_mem hb
    rcases Int.le_total (hi b) (hi a) with h | h
    · exact ⟨c, by simp [hc], by omega⟩
    · exact ⟨d, by simp [hd], by omega⟩
theorem cnt_none {l : List Cl} {m : Int} (h : m < lo l) : l.countP (fun c => decide (c.2 = m)) = 0 := by
  rw [List.countP_eq_zero]
  intro c hc
  have := lo_le hc
  simp; omega
theorem at_app {a b : List Cl} (ha : a ≠ []) (hb : b ≠ []) : at_ (a ++ b) = (if lo a = lo (a ++ b) then at_ a else 0) + (if lo b = lo (a ++ b) then at_ b else 0) := by
  unfold at_
  rw [List.countP_append]
  have hl := lo_app ha hb
  congr 1
  · split
    · rename_i h; rw [← h]
    · rename_i h; exact cnt_none (by omega)
  · split
    · rename_i h; rw [← h]
    · rename_i h; exact cnt_none (by omega)
theorem run_ne {rs : List Int} (h : rs ≠ []) (k : Int) : run rs k ≠ [] := by
  cases rs with
  | nil => exact absurd rfl h
  | cons a l => simp [run]
theorem run_mem {rs : List Int} {k : Int} {c : Cl} (h : c ∈ run rs k) : c.2 = k ∧ c.1 ∈ rs := by
  unfold run at h
  obtain ⟨r, hr, rfl⟩ := List.mem_map.1 h
  exact ⟨rfl, hr⟩
theorem lo_run {rs : List Int} (h : rs ≠ []) (k : Int) : lo (run rs k) = k := by
  apply lo_eq
  · intro c hc; rw [(run_mem hc).1]; omega
  · obtain ⟨r, l, rfl⟩ := List.exists_cons_of_ne_nil h
    exact ⟨(r, k), by simp [run], rfl⟩
theorem hi_run {rs : List Int} (h : rs ≠ []) (k : Int) : hi (run rs k) = k := by
  apply hi_eq
  · intro c hc; rw [(run_mem hc).1]; omega
  · obtain ⟨r, l, rfl⟩ := List.exists_cons_of_ne_nil h
    exact ⟨(r, k), by simp [run], rfl⟩
theorem at_run {rs : List Int} (h : rs ≠ []) (k : Int) : at_ (run rs k) = rs.length := by
  unfold at_
  rw [lo_run h, List.countP_eq_length.2 (fun c hc => by rw [(run_mem hc).1]; simp), run_len]
theorem up_ne {l : List Cl} (h : l ≠ []) (k : Int) : up k l ≠ [] := by
  cases l with
  | nil => exact absurd rfl h
  | cons a l => simp [up]
theorem up_mem {l : List Cl} {k : Int} {c : Cl} (h : c ∈ up k l) : (c.1, c.2 - k) ∈ l := by
  obtain ⟨d, hd, rfl⟩ := List.mem_map.1 h
  simpa using hd
theorem mem_up {l : List Cl} {k : Int} {c : Cl} (h : c ∈ l) : (c.1, c.2 + k) ∈ up k l := List.mem_map.2 ⟨c, h, rfl⟩
theorem lo_up {l : List Cl} (h : l ≠ []) (k : Int) : lo (up k l) = lo l + k := by
  apply lo_eq
  · intro c hc; have := lo_le (up_mem hc); simp only at this; omega
  · obtain ⟨c, hc, e⟩ := lo_mem h
    exact ⟨_, mem_up hc, by simp only; omega⟩
theorem hi_up {l : List Cl} (h : l ≠ []) (k : Int) : hi (up k l) = hi l + k := by
  apply hi_eq
  · intro c hc; have := le_hi (up_mem hc); simp only at this; omega
  · obtain ⟨c, hc, e⟩ := hi_mem h
    exact ⟨_, mem_up hc, by simp only; omega⟩
theorem at_up (l : List Cl) (k : Int) : at_ (up k l) = at_ l := by
  by_cases h : l = []
  · subst h; rfl
  · unfold at_
    rw [lo_up h]
    unfold up
    rw [List.countP_map]
    apply List.countP_congr
    intro c _
    simp only [Function.comp, decide_eq_true_eq]
    omega
theorem lo_ge {l : List Cl} {m : Int} (hm : m ≤ 0) (h : ∀ c ∈ l, m ≤ c.2) : m ≤ lo l := by
  by_cases e : l = []
  · subst e; exact hm
  · obtain ⟨c, hc, e2⟩ := lo_mem e; have := h c hc; omega
theorem hi_le {l : List Cl} {m : Int} (hm : 0 ≤ m) (h : ∀ c ∈ l, c.2 ≤ m) : hi l ≤ m := by
  by_cases e : l = []
  · subst e; exact hm
  · obtain ⟨c, hc, e2⟩ := hi_mem e; have := h c hc; omega
theorem at_len (l : List Cl) : at_ l ≤ l.length := List.countP_le_length

/-- What cells tell: how many, the least counter, how many have it, the greatest. -/
structure S where
  total : Nat
  least : Int
  atMin : Nat
  most : Int
def sum (l : List Cl) : S := ⟨l.length, lo l, at_ l, hi l⟩
def with_ (s t : S) : S := if t.total = 0 then s else if s.total = 0 then t else
  ⟨s.total + t.total, min s.least t.least, (if s.least = min s.least t.least then s.atMin else 0) + (if t.least = min s.least t.least then t.atMin else 0), max s.most t.most⟩
theorem sum_app (a b : List Cl) : sum (a ++ b) = with_ (sum a) (sum b) := by
  unfold with_
  by_cases hb : b = []
  · subst hb; rw [List.append_nil]; rfl
  · by_cases ha : a = []
    · subst ha
      have h1 : ¬ (sum b).total = 0 := by simp [sum, hb]
      have h2 : (sum ([] : List Cl)).total = 0 := rfl
      rw [if_neg h1, if_pos h2]; rfl
    · have h1 : ¬ (sum b).total = 0 := by simp [sum, hb]
      have h2 : ¬ (sum a).total = 0 := by simp [sum, ha]
      rw [if_neg h1, if_neg h2]
      simp only [sum, List.length_append, lo_app ha hb, hi_app ha hb, at_app ha hb]
      rfl
theorem sum_run {rs : List Int} (h : rs ≠ []) (k : Int) : sum (run rs k) = ⟨rs.length, k, rs.length, k⟩ := by
  simp only [sum, run_len, lo_run h, hi_run h, at_run h]
def lifted (s : S) (k : Int) : S := ⟨s.total, s.least + k, s.atMin, s.most + k⟩
theorem sum_up {l : List Cl} (h : l ≠ []) (k : Int) : sum (up k l) = lifted (sum l) k := by
  simp only [sum, lifted, up_len, lo_up h, hi_up h, at_up]

/-! ### Trees as they should be -/
/-- The greatest counter. -/
abbrev M : Int := 1048576
def Cok (l : List Cl) : Prop := ∀ c ∈ l, 0 ≤ c.2 ∧ c.2 ≤ M
theorem Cok.app {a b : List Cl} (h : Cok a) (h2 : Cok b) : Cok (a ++ b) := fun c hc => by
  rcases List.mem_append.1 hc with h3 | h3
  · exact h c h3
  · exact h2 c h3
theorem Cok.left {a b : List Cl} (h : Cok (a ++ b)) : Cok a := fun c hc => h c (by simp [hc])
theorem Cok.right {a b : List Cl} (h : Cok (a ++ b)) : Cok b := fun c hc => h c (by simp [hc])
theorem Cok.run {rs : List Int} {k : Int} (h0 : 0 ≤ k) (h1 : k ≤ M) : Cok (run rs k) := fun c hc => by rw [(run_mem hc).1]; exact ⟨h0, h1⟩
def WF : T → Prop
  | .nil => True
  | .node l rs h r p => WF l ∧ WF r ∧ rs ≠ [] ∧ 0 ≤ h ∧ h ≤ M ∧ Cok (cells l) ∧ Cok (cells r) ∧ Cok (cells (.node l rs h r p))
theorem WF.ok {t : T} (h : WF t) : Cok (cells t) := by
  cases t with
  | nil => intro c hc; simp [cells] at hc
  | node l rs k r p => exact h.2.2.2.2.2.2.2
theorem WF.lift {t : T} (h : WF t) (k : Int) (hk : Cok (up k (cells t))) : WF (lift k t) := by
  cases t with
  | nil => trivial
  | node l rs j r p =>
    obtain ⟨a, b, c, d, e, f, g, i⟩ := h
    exact ⟨a, b, c, d, e, f, g, by rw [← cells_lift] at hk; exact hk⟩
theorem WF.knot {l r : T} {rs : List Int} {h : Int} (hl : WF l) (hr : WF r) (hn : rs ≠ []) (h0 : 0 ≤ h) (h1 : h ≤ M) : WF (.node l rs h r 0) := by
  refine ⟨hl, hr, hn, h0, h1, hl.ok, hr.ok, ?_⟩
  rw [cells_open, Int.add_zero, lift_zero, lift_zero]
  exact (hl.ok.app (.run h0 h1)).app hr.ok
theorem cells_knot (l r : T) (rs : List Int) (h : Int) : cells (.node l rs h r 0) = cells l ++ run rs h ++ cells r := by
  rw [cells_open, Int.add_zero, lift_zero, lift_zero]
/-- The parts of an opened node. -/
theorem WF.parts {l r : T} {rs : List Int} {h p : Int} (hw : WF (.node l rs h r p)) : WF (T.nil) ∧ WF (Rp.lift p l) ∧ WF (Rp.lift p r) ∧ rs ≠ [] ∧ 0 ≤ h + p ∧ h + p ≤ M := by
  have ho := hw.ok
  rw [cells_open, cells_lift, cells_lift] at ho
  obtain ⟨a, b, c, d, e, f, g, i⟩ := hw
  obtain ⟨x, xs, rfl⟩ := List.exists_cons_of_ne_nil c
  have hx := ho.left.right (x, h + p) (by simp [run])
  exact ⟨trivial, a.lift p ho.left.left, b.lift p ho.right, c, hx.1, hx.2⟩
theorem WF.plus {l r : T} {rs : List Int} {h p : Int} (hw : WF (.node l rs h r p)) : -M ≤ p ∧ p ≤ M := by
  have h1 := hw.parts
  have h2 := hw.2.2.2.1
  have h3 := hw.2.2.2.2.1
  have h4 := h1.2.2.2.2.1
  have h5 := h1.2.2.2.2.2
  omega
theorem lvs_le {t : T} (h : WF t) : lvs t ≤ (cells t).length := by
  induction t with
  | nil => exact Nat.le_refl _
  | node l rs k r p ihl ihr =>
    have h1 := ihl h.1
    have h2 := ihr h.2.1
    have h3 := List.length_pos_iff.2 h.2.2.1
    simp only [lvs, cells, up_len, List.length_append, run_len]
    omega
theorem hgt_le (t : T) : hgt t ≤ lvs t := by
  induction t with
  | nil => exact Nat.le_refl _
  | node l rs k r p ihl ihr => simp only [hgt, lvs]; omega
theorem hgt_pos {t : T} (h : 0 < hgt t) : ∃ l rs k r p, t = .node l rs k r p := by
  cases t with
  | nil => simp [hgt] at h
  | node l rs k r p => exact ⟨_, _, _, _, _, rfl⟩
theorem hgt_zero {t : T} (h : hgt t = 0) : t = .nil := by
  cases t with
  | nil => rfl
  | node l rs k r p => simp [hgt] at h
theorem cells_nil_iff {t : T} (h : WF t) : cells t = [] ↔ t = .nil := by
  cases t with
  | nil => exact ⟨fun _ => rfl, fun _ => rfl⟩
  | node l rs k r p =>
    constructor
    · intro e
      have h2 := congrArg List.length e
      simp only [cells, up_len, List.length_append, run_len, List.length_nil] at h2
      have := List.length_pos_iff.2 h.2.2.1
      omega
    · intro e; cases e
end Go.Proofs.YtkdhomiieenfnaaDoor.Rp

namespace Go.Proofs.YtkdhomiieenfnaaDoor.Rp
set_option linter.unusedVariables false
set_option linter.unusedSimpArgs false

/-- A piece: its runes, its counter. -/
abbrev Pce := List Int × Int
def pcs : T → List Pce
  | .nil => []
  | .node l rs h r p => (pcs l ++ (rs, h) :: pcs r).map fun q => (q.1, q.2 + p)
def flat (ps : List Pce) : List Cl := ps.flatMap fun q => run q.1 q.2
theorem flat_nil : flat [] = [] := rfl
theorem flat_cons (q : Pce) (ps : List Pce) : flat (q :: ps) = run q.1 q.2 ++ flat ps := by simp [flat]
theorem flat_app (a b : List Pce) : flat (a ++ b) = flat a ++ flat b := by simp [flat]
theorem flat_up (p : Int) (ps : List Pce) : flat (ps.map fun q => (q.1, q.2 + p)) = up p (flat ps) := by
  induction ps with
  | nil => rfl
  | cons q ps ih => rw [List.map_cons, flat_cons, flat_cons, ih, up_app, up_run]
theorem flat_pcs : ∀ t : T, flat (pcs t) = cells t
  | .nil => rfl
  | .node l rs h r p => by
    rw [pcs, flat_up, flat_app, flat_cons, flat_pcs l, flat_pcs r, cells, List.append_assoc]
theorem pcs_lift (k : Int) (t : T) : pcs (lift k t) = (pcs t).map fun q => (q.1, q.2 + k) := by
  cases t with
  | nil => rfl
  | node l rs h r p =>
    rw [lift, pcs, pcs, List.map_map]
    apply List.map_congr_left
    intro q _
    simp [Int.add_assoc]
theorem pcs_open (l : T) (rs : List Int) (h : Int) (r : T) (p : Int) : pcs (.node l rs h r p) = pcs (lift p l) ++ (rs, h + p) :: pcs (lift p r) := by
  rw [pcs_lift, pcs_lift, pcs, List.map_append, List.map_cons]
theorem flat_len_pos {q : Pce} (h : q.1 ≠ []) (ps : List Pce) : 0 < (flat (q :: ps)).length := by
  rw [flat_cons, List.length_append, run_len]
  have := List.length_pos_iff.2 h
  omega
/-- Pieces that are not empty, with counters in their bounds. -/
def POk (ps : List Pce) : Prop := ∀ q ∈ ps, q.1 ≠ [] ∧ 0 ≤ q.2 ∧ q.2 ≤ M
theorem WF.pcs : ∀ {t : T}, WF t → POk (pcs t)
  | .nil, _ => fun q hq => by cases hq
  | .node l rs h r p, hw => by
    have h1 := WF.pcs hw.1
    have h2 := WF.pcs hw.2.1
    have hok := hw.ok
    have hne : ∀ q ∈ Rp.pcs (.node l rs h r p), q.1 ≠ [] := by
      intro q hq
      rw [Rp.pcs] at hq
      obtain ⟨q', hq', rfl⟩ := List.mem_map.1 hq
      rcases List.mem_append.1 hq' with h3 | h3
      · exact (h1 q' h3).1
      · rcases List.mem_cons.1 h3 with rfl | h3
        · exact hw.2.2.1
        · exact (h2 q' h3).1
    intro q hq
    refine ⟨hne q hq, ?_⟩
    have hn := hne q hq
    rw [← flat_pcs] at hok
    obtain ⟨x, xs, hx⟩ := List.exists_cons_of_ne_nil hn
    exact hok (x, q.2) (List.mem_flatMap.2 ⟨q, hq, by rw [hx]; simp [run]⟩)

variable {σ : Type}
/-- A walk over pieces from place lo on, till it is told to end. -/
def walkF (step : σ → Nat → Pce → σ × Bool) (lo : Nat) : Nat → List Pce → σ → σ × Bool
  | _, [], s => (s, true)
  | a, q :: ps, s => if lo < a + q.1.length then (if (step s a q).2 then walkF step lo (a + q.1.length) ps (step s a q).1 else ((step s a q).1, false)) else walkF step lo (a + q.1.length) ps s
theorem walkF_app (step : σ → Nat → Pce → σ × Bool) (lo : Nat) (b : List Pce) : ∀ (a : List Pce) (n : Nat) (s : σ), walkF step lo n (a ++ b) s = if (walkF step lo n a s).2 then walkF step lo (n + (flat a).length) b (walkF step lo n a s).1 else ((walkF step lo n a s).1, false)
  | [], n, s => by simp [walkF, flat]
  | q :: a, n, s => by
    rw [List.cons_append, walkF, walkF, flat_cons, List.length_append, run_len, ← Nat.add_assoc]
    by_cases h : lo < n + q.1.length
    · rw [if_pos h, if_pos h]
      by_cases h2 : (step s n q).2 = true
      · rw [if_pos h2, if_pos h2, walkF_app step lo b a]
      · rw [if_neg h2, if_neg h2]; simp
    · rw [if_neg h, if_neg h, walkF_app step lo b a]
theorem walkF_skip (step : σ → Nat → Pce → σ × Bool) (lo : Nat) : ∀ (ps : List Pce) (n : Nat) (s : σ), n + (flat ps).length ≤ lo → walkF step lo n ps s = (s, true)
  | [], n, s, _ => rfl
  | q :: ps, n, s, h => by
    rw [flat_cons, List.length_append, run_len] at h
    rw [walkF, if_neg (by omega), walkF_skip step lo ps _ s (by omega)]
end Go.Proofs.YtkdhomiieenfnaaDoor.Rp

namespace Go.Proofs.YtkdhomiieenfnaaDoor.Rp
set_option linter.unusedVariables false
set_option linter.unusedSimpArgs false

/-- Ranges in order, apart from each other, from m on. -/
def Nrm : Int → List (Int × Int) → Prop
  | _, [] => True
  | m, x :: r => m ≤ x.1 ∧ x.1 < x.2 ∧ Nrm (x.2 + 1) r
theorem Nrm.mono {m k : Int} {rs : List (Int × Int)} (h : Nrm m rs) (hk : k ≤ m) : Nrm k rs := by
  cases rs with
  | nil => trivial
  | cons x r => exact ⟨Int.le_trans hk h.1, h.2.1, h.2.2⟩
theorem Nrm.lo {m : Int} : ∀ {rs : List (Int × Int)}, Nrm m rs → ∀ x ∈ rs, m ≤ x.1
  | [], _, x, hx => by cases hx
  | y :: r, h, x, hx => by
    rcases List.mem_cons.1 hx with rfl | hx
    · exact h.1
    · have := Nrm.lo h.2.2 x hx; have := h.1; have := h.2.1; omega
/-- Does a range hold the place? -/
def cov (rs : List (Int × Int)) (i : Nat) : Bool := rs.any fun x => decide (x.1 ≤ (i : Int) ∧ (i : Int) < x.2)
theorem cov_nil (i : Nat) : cov [] i = false := rfl
theorem cov_cons (x : Int × Int) (r : List (Int × Int)) (i : Nat) : cov (x :: r) i = (decide (x.1 ≤ (i : Int) ∧ (i : Int) < x.2) || cov r i) := by simp [cov]
theorem cov_app (a b : List (Int × Int)) (i : Nat) : cov (a ++ b) i = (cov a i || cov b i) := by simp [cov]
theorem cov_lo {m : Int} {rs : List (Int × Int)} (h : Nrm m rs) {i : Nat} (hi : (i : Int) < m) : cov rs i = false := by
  unfold cov
  rw [List.any_eq_false]
  intro x hx
  have := h.lo x hx
  simp; omega
/-- The cells with d on each counter of the ranges. -/
def bumpC (d : Int) (rs : List (Int × Int)) (cs : List Cl) : List Cl := cs.mapIdx fun i c => if cov rs i then (c.1, c.2 + d) else c
/-- Does a cell of the ranges forbid the step? -/
def stopI (d : Int) (rs : List (Int × Int)) (cs : List Cl) (i : Nat) : Prop := cov rs i = true ∧ ∃ c, cs[i]? = some c ∧ ((d < 0 ∧ c.2 = 0) ∨ (0 < d ∧ c.2 = M))
def stopC (d : Int) (rs : List (Int × Int)) (cs : List Cl) : Prop := ∃ i, stopI d rs cs i
def midC (cs : List Cl) (lo hi : Nat) : List Cl := (cs.drop lo).take (hi - lo)
def bump1 (d : Int) (cs : List Cl) (lo hi : Nat) : List Cl := cs.take lo ++ up d (midC cs lo hi) ++ cs.drop hi
/-- What Bump does to one range after the other: its error, the cells. -/
def bumpR (d : Int) : List Cl → List (Int × Int) → Int × List Cl
  | cs, [] => (0, cs)
  | cs, (a, b) :: r => if d < 0 ∧ lo (midC cs a.toNat b.toNat) = 0 then (30, cs) else if 0 < d ∧ hi (midC cs a.toNat b.toNat) = M then (31, cs) else bumpR d (bump1 d cs a.toNat b.toNat) r
theorem bump1_len {d : Int} {cs : List Cl} {a b : Nat} (h : a ≤ b) (hb : b ≤ cs.length) : (bump1 d cs a b).length = cs.length := by
  simp only [bump1, midC, List.length_append, up_len, List.length_take, List.length_drop]
  omega
theorem midC_split {cs : List Cl} {a b : Nat} (h : a ≤ b) : cs.take a ++ midC cs a b ++ cs.drop b = cs := by
  have e : cs.drop b = (cs.drop a).drop (b - a) := by rw [List.drop_drop]; congr 1; omega
  rw [e, midC, List.append_assoc, List.take_append_drop, List.take_append_drop]
theorem midC_ne {cs : List Cl} {a b : Nat} (h : a < b) (hb : b ≤ cs.length) : midC cs a b ≠ [] := by
  intro e
  have := congrArg List.length e
  simp only [midC, List.length_take, List.length_drop, List.length_nil] at this
  omega
theorem midC_cok {cs : List Cl} {a b : Nat} (h : Cok cs) : Cok (midC cs a b) := fun c hc => h c (List.mem_of_mem_drop (List.mem_of_mem_take hc))
/-- Where no counter leaves its bounds. -/
theorem up_cok {l : List Cl} {d : Int} (hd : d = 1 ∨ d = -1) (h : Cok l) (h0 : ¬ (d < 0 ∧ lo l = 0)) (h1 : ¬ (0 < d ∧ hi l = M)) : Cok (up d l) := by
  intro c hc
  have hm := up_mem hc
  have hb := h _ hm
  have hlo := lo_le hm
  have hhi := le_hi hm
  simp only at hb hlo hhi
  have hne : l ≠ [] := by intro e; rw [e] at hm; cases hm
  obtain ⟨x, hx, hx2⟩ := lo_mem hne
  obtain ⟨y, hy, hy2⟩ := hi_mem hne
  have hx3 := (h x hx).1
  have hy3 := (h y hy).2
  rcases hd with rfl | rfl
  · have : hi l ≠ M := fun e => h1 ⟨by decide, e⟩
    omega
  · have : lo l ≠ 0 := fun e => h0 ⟨by decide, e⟩
    omega
theorem bump1_get {d : Int} {cs : List Cl} {a b : Nat} (h : a ≤ b) (hb : b ≤ cs.length) (i : Nat) : (bump1 d cs a b)[i]? = if a ≤ i ∧ i < b then (cs[i]?).map (fun c => (c.1, c.2 + d)) else cs[i]? := by
  unfold bump1
  by_cases h1 : i < a
  · rw [if_neg (by omega), List.append_assoc, List.getElem?_append_left (by rw [List.length_take]; omega), List.getElem?_take_of_lt h1]
  · by_cases h2 : i < b
    · rw [if_pos ⟨by omega, h2⟩, List.append_assoc, List.getElem?_append_right (by rw [List.length_take]; omega), List.length_take, Nat.min_eq_left (by omega),
        List.getElem?_append_left (by rw [up_len, midC, List.length_take, List.length_drop]; omega)]
      unfold up midC
      rw [List.getElem?_map, List.getElem?_take_of_lt (by omega), List.getElem?_drop, show a + (i - a) = i by omega]
    · rw [if_neg (by omega), List.getElem?_append_right (by rw [List.length_append, up_len, midC, List.length_take, List.length_take, List.length_drop]; omega),
        List.length_append, up_len, midC, List.length_take, List.length_take, List.length_drop, List.getElem?_drop]
      congr 1
      omega
theorem bumpC_get (d : Int) (rs : List (Int × Int)) (cs : List Cl) (i : Nat) : (bumpC d rs cs)[i]? = (cs[i]?).map fun c => if cov rs i then (c.1, c.2 + d) else c := by
  simp [bumpC]
theorem bumpC_len (d : Int) (rs : List (Int × Int)) (cs : List Cl) : (bumpC d rs cs).length = cs.length := by simp [bumpC]
theorem bumpC_nil (d : Int) (cs : List Cl) : bumpC d [] cs = cs := by
  apply List.ext_getElem?
  intro i
  rw [bumpC_get, cov_nil]
  simp
theorem mem_mid {cs : List Cl} {a b : Nat} {c : Cl} (h : c ∈ midC cs a b) : ∃ i, a ≤ i ∧ i < b ∧ cs[i]? = some c := by
  obtain ⟨k, hk⟩ := List.getElem?_of_mem h
  unfold midC at hk
  rw [List.getElem?_take] at hk
  split at hk
  · rw [List.getElem?_drop] at hk
    exact ⟨a + k, by omega, by omega, hk⟩
  · cases hk
theorem mid_mem {cs : List Cl} {a b i : Nat} {c : Cl} (h1 : a ≤ i) (h2 : i < b) (h : cs[i]? = some c) : c ∈ midC cs a b := by
  refine List.mem_of_getElem? (i := i - a) ?_
  unfold midC
  rw [List.getElem?_take_of_lt (by omega), List.getElem?_drop, show a + (i - a) = i by omega]
  exact h
/-- One range after the other is cell by cell. -/
theorem bumpR_spec {d : Int} (hd : d = 1 ∨ d = -1) : ∀ (rs : List (Int × Int)) (m : Int) (cs : List Cl), 0 ≤ m → Nrm m rs → (∀ x ∈ rs, x.2 ≤ (cs.length : Int)) → Cok cs →
    (stopC d rs cs → (bumpR d cs rs).1 = (if d < 0 then 30 else 31)) ∧ (¬ stopC d rs cs → bumpR d cs rs = (0, bumpC d rs cs) ∧ Cok (bumpC d rs cs))
  | [], m, cs, _, _, _, hk => by
    refine ⟨fun ⟨i, h, _⟩ => (by rw [cov_nil] at h; cases h), fun _ => ?_⟩
    rw [bumpC_nil]; exact ⟨rfl, hk⟩
  | (a, b) :: r, m, cs, hm, hn, hl, hk => by
    have ha : m ≤ a := hn.1
    have hab : a < b := hn.2.1
    have hbl : b ≤ cs.length := hl (a, b) (by simp)
    obtain ⟨A, rfl⟩ : ∃ A : Nat, a = A := ⟨a.toNat, by omega⟩
    obtain ⟨B, rfl⟩ : ∃ B : Nat, b = B := ⟨b.toNat, by omega⟩
    have hAB : A < B := by omega
    have hB : B ≤ cs.length := by omega
    have hne := midC_ne hAB hB
    have hmk := midC_cok (a := A) (b := B) hk
    have e0 : bumpR d cs (((A : Int), (B : Int)) :: r) = if d < 0 ∧ lo (midC cs A B) = 0 then (30, cs) else if 0 < d ∧ hi (midC cs A B) = M then (31, cs) else bumpR d (bump1 d cs A B) r := rfl
    by_cases h1 : d < 0 ∧ lo (midC cs A B) = 0
    · rw [e0, if_pos h1, if_pos h1.1]
      refine ⟨fun _ => rfl, fun hs => absurd ?_ hs⟩
      obtain ⟨c, hc, hc2⟩ := lo_mem hne
      obtain ⟨i, i1, i2, i3⟩ := mem_mid hc
      exact ⟨i, by rw [cov_cons]; simp; left; omega, c, i3, .inl ⟨h1.1, by rw [hc2]; exact h1.2⟩⟩
    by_cases h2 : 0 < d ∧ hi (midC cs A B) = M
    · rw [e0, if_neg h1, if_pos h2, if_neg (by omega)]
      refine ⟨fun _ => rfl, fun hs => absurd ?_ hs⟩
      obtain ⟨c, hc, hc2⟩ := hi_mem hne
      obtain ⟨i, i1, i2, i3⟩ := mem_mid hc
      exact ⟨i, by rw [cov_cons]; simp; left; omega, c, i3, .inr ⟨h2.1, by rw [hc2]; exact h2.2⟩⟩
    rw [e0, if_neg h1, if_neg h2]
    have hup := up_cok hd hmk h1 h2
    have hk2 : Cok (bump1 d cs A B) := by
      have := hk
      rw [← midC_split (cs := cs) (Nat.le_of_lt hAB)] at this
      exact (this.left.left.app hup).app this.right
    have hlen := bump1_len (d := d) (Nat.le_of_lt hAB) hB
    have IH := bumpR_spec hd r ((B : Int) + 1) (bump1 d cs A B) (by omega) hn.2.2 (fun x hx => by rw [hlen]; exact hl x (by simp [hx])) hk2
    have hg := fun i => bump1_get (d := d) (cs := cs) (Nat.le_of_lt hAB) hB i
    have hst : stopC d r (bump1 d cs A B) ↔ stopC d (((A : Int), (B : Int)) :: r) cs := by
      constructor
      · rintro ⟨i, i1, c, i2, i3⟩
        have hi : ¬ (i : Int) < (B : Int) + 1 := fun h => by rw [cov_lo hn.2.2 h] at i1; cases i1
        rw [hg, if_neg (by omega)] at i2
        exact ⟨i, by rw [cov_cons, i1]; simp, c, i2, i3⟩
      · rintro ⟨i, i1, c, i2, i3⟩
        rw [cov_cons] at i1
        by_cases hi : A ≤ i ∧ i < B
        · exfalso
          have hc := mid_mem hi.1 hi.2 i2
          rcases i3 with ⟨d0, c0⟩ | ⟨d0, c0⟩
          · have := lo_le hc
            have h0 := lo_ge (m := 0) (by omega) (fun c hc => (hmk c hc).1)
            exact h1 ⟨d0, by omega⟩
          · have := le_hi hc
            have h0 := hi_le (m := M) (by decide) (fun c hc => (hmk c hc).2)
            exact h2 ⟨d0, by omega⟩
        · have hi' : decide ((A : Int) ≤ (i : Int) ∧ (i : Int) < (B : Int)) = false := by simp; omega
          rw [hi', Bool.false_or] at i1
          exact ⟨i, i1, c, by rw [hg, if_neg hi]; exact i2, i3⟩
    have hbc : bumpC d r (bump1 d cs A B) = bumpC d (((A : Int), (B : Int)) :: r) cs := by
      apply List.ext_getElem?
      intro i
      rw [bumpC_get, bumpC_get, hg, cov_cons]
      by_cases hi : A ≤ i ∧ i < B
      · have h3 : cov r i = false := cov_lo hn.2.2 (by omega)
        have hi' : decide ((A : Int) ≤ (i : Int) ∧ (i : Int) < (B : Int)) = true := by simp; omega
        rw [if_pos hi, h3, hi']
        cases cs[i]? <;> simp
      · have hi' : decide ((A : Int) ≤ (i : Int) ∧ (i : Int) < (B : Int)) = false := by simp; omega
        rw [if_neg hi, hi', Bool.false_or]
    rw [hst, hbc] at IH
    exact IH
/-- The runes stay. -/
theorem bumpC_fst (d : Int) (rs : List (Int × Int)) (cs : List Cl) : (bumpC d rs cs).map (·.1) = cs.map (·.1) := by
  apply List.ext_getElem?
  intro i
  rw [List.getElem?_map, List.getElem?_map, bumpC_get]
  cases cs[i]? with
  | none => rfl
  | some c => simp only [Option.map_some]; split <;> rfl
/-- There and back. -/
theorem bumpC_back (d : Int) (rs : List (Int × Int)) (cs : List Cl) : bumpC (-d) rs (bumpC d rs cs) = cs := by
  apply List.ext_getElem?
  intro i
  rw [bumpC_get, bumpC_get]
  cases h : cs[i]? with
  | none => rfl
  | some c =>
    simp only [Option.map_some]
    split
    · show some (c.1, c.2 + d + -d) = _
      rw [Int.add_neg_cancel_right]
    · rfl
end Go.Proofs.YtkdhomiieenfnaaDoor.Rp

namespace Go.Proofs.YtkdhomiieenfnaaDoor.Rp
set_option linter.unusedVariables false
set_option linter.unusedSimpArgs false

/-- The places and runes of the visible cells. -/
def vpos : Nat → List Cl → List (Nat × Int)
  | _, [] => []
  | a, c :: l => if c.2 = 0 then (a, c.1) :: vpos (a + 1) l else vpos (a + 1) l
def vis (cs : List Cl) : List Int := (cs.filter fun c => decide (c.2 = 0)).map (·.1)
/-- The place of the p-th visible cell. -/
def plc : List Cl → Nat → Nat
  | [], _ => 0
  | c :: l, p => if c.2 = 0 then (if p = 0 then 0 else 1 + plc l (p - 1)) else 1 + plc l p
/-- How many cells are shown. -/
def shown (cs : List Cl) : Nat := cs.countP fun c => decide (c.2 = 0)
theorem shown_app (a b : List Cl) : shown (a ++ b) = shown a + shown b := List.countP_append
theorem shown_cons (c : Cl) (l : List Cl) : shown (c :: l) = shown l + if c.2 = 0 then 1 else 0 := by simp [shown, List.countP_cons]
theorem shown_le (l : List Cl) : shown l ≤ l.length := List.countP_le_length
theorem shown_run0 (rs : List Int) : shown (run rs 0) = rs.length := by
  unfold shown
  rw [List.countP_eq_length.2 (fun c hc => by rw [(run_mem hc).1]; simp), run_len]
theorem shown_run1 (rs : List Int) {h : Int} (hh : h ≠ 0) : shown (run rs h) = 0 := by
  unfold shown
  rw [List.countP_eq_zero]
  intro c hc
  rw [(run_mem hc).1]; simp [hh]
theorem vpos_len : ∀ (a : Nat) (cs : List Cl), (vpos a cs).length = shown cs
  | a, [] => rfl
  | a, c :: l => by rw [vpos, shown_cons]; split <;> simp [vpos_len (a + 1) l]
theorem vpos_vis : ∀ (a : Nat) (cs : List Cl), (vpos a cs).map (·.2) = vis cs
  | a, [] => rfl
  | a, c :: l => by
    have := vpos_vis (a + 1) l
    unfold vis at this ⊢
    rw [vpos, List.filter_cons]
    by_cases h : c.2 = 0 <;> simp [h, this]
theorem vis_len (cs : List Cl) : (vis cs).length = shown cs := by rw [← vpos_vis 0, List.length_map, vpos_len]
theorem vis_app (a b : List Cl) : vis (a ++ b) = vis a ++ vis b := by simp [vis]
theorem vis_run0 (rs : List Int) : vis (run rs 0) = rs := by
  induction rs with
  | nil => rfl
  | cons r l ih => unfold vis at ih; simpa [vis, run] using ih
theorem vpos_app : ∀ (a : Nat) (x y : List Cl), vpos a (x ++ y) = vpos a x ++ vpos (a + x.length) y
  | a, [], y => by simp [vpos]
  | a, c :: x, y => by
    rw [List.cons_append, vpos, vpos, vpos_app (a + 1) x y, List.length_cons, show a + 1 + x.length = a + (x.length + 1) by omega]
    split <;> simp
theorem vpos_run1 (rs : List Int) {h : Int} (hh : h ≠ 0) : ∀ a, vpos a (run rs h) = [] := by
  induction rs with
  | nil => intro a; rfl
  | cons r l ih =>
    intro a
    show vpos a ((r, h) :: run l h) = []
    rw [vpos, if_neg hh, ih]
theorem vpos_ge : ∀ (a : Nat) (cs : List Cl), ∀ x ∈ vpos a cs, a ≤ x.1 ∧ x.1 < a + cs.length
  | a, [], x, h => by cases h
  | a, c :: l, x, h => by
    rw [vpos] at h
    rw [List.length_cons]
    split at h
    · rcases List.mem_cons.1 h with rfl | h
      · constructor
        · exact Nat.le_refl _
        · show a < _; omega
      · have := vpos_ge _ _ x h; omega
    · have := vpos_ge _ _ x h; omega
theorem vpos_run0_take (rs : List Int) : ∀ (a k : Nat), (vpos a (run rs 0)).take k = vpos a (run (rs.take k) 0) := by
  induction rs with
  | nil => intro a k; simp [run, vpos]
  | cons r l ih =>
    intro a k
    cases k with
    | zero => simp [run, vpos]
    | succ k =>
      show (vpos a ((r, 0) :: run l 0)).take (k + 1) = vpos a ((r, 0) :: run (l.take k) 0)
      rw [vpos, vpos, if_pos rfl, if_pos rfl, List.take_succ_cons, ih]
theorem vpos_run0_drop (rs : List Int) : ∀ (a k : Nat), (vpos a (run rs 0)).drop k = vpos (a + k) (run (rs.drop k) 0) := by
  induction rs with
  | nil => intro a k; simp [run, vpos]
  | cons r l ih =>
    intro a k
    cases k with
    | zero => simp
    | succ k =>
      show (vpos a ((r, 0) :: run l 0)).drop (k + 1) = vpos (a + (k + 1)) (run (l.drop k) 0)
      rw [vpos, if_pos rfl, List.drop_succ_cons, ih, show a + 1 + k = a + (k + 1) by omega]
theorem vpos_run0_from (rs : List Int) : ∀ (a f : Nat), (vpos a (run rs 0)).filter (fun x => decide (f ≤ x.1)) = (vpos a (run rs 0)).drop (f - a) := by
  induction rs with
  | nil => intro a f; simp [run, vpos]
  | cons r l ih =>
    intro a f
    show (vpos a ((r, 0) :: run l 0)).filter _ = (vpos a ((r, 0) :: run l 0)).drop (f - a)
    rw [vpos, if_pos rfl, List.filter_cons, ih]
    by_cases h : f ≤ a
    · rw [if_pos (by simpa using h), show f - a = 0 by omega, show f - (a + 1) = 0 by omega]; rfl
    · rw [if_neg (by simpa using h), show f - a = (f - (a + 1)) + 1 by omega, List.drop_succ_cons]
/-- What stands at and behind the p-th visible cell. -/
theorem vpos_from : ∀ (cs : List Cl) (a p : Nat), (vpos a cs).filter (fun x => decide (a + plc cs p ≤ x.1)) = (vpos a cs).drop p
  | [], a, p => by simp [vpos]
  | c :: l, a, p => by
    rw [vpos, plc]
    by_cases h : c.2 = 0
    · rw [if_pos h, if_pos h]
      cases p with
      | zero =>
        rw [if_pos rfl, List.drop_zero]
        rw [List.filter_eq_self.2]
        intro x hx
        rcases List.mem_cons.1 hx with rfl | hx
        · simp
        · have := vpos_ge _ _ x hx; simp; omega
      | succ p =>
        rw [if_neg (by omega), List.drop_succ_cons, List.filter_cons, if_neg (by simp; omega), Nat.add_sub_cancel, ← vpos_from l (a + 1) p]
        simp only [Nat.add_assoc]
    · rw [if_neg h, if_neg h, ← vpos_from l (a + 1) p]
      simp only [Nat.add_assoc]
theorem plc_le : ∀ (cs : List Cl) (p : Nat), plc cs p ≤ cs.length
  | [], p => Nat.le_refl _
  | c :: l, p => by
    rw [plc, List.length_cons]
    have h1 := plc_le l p
    have h2 := plc_le l (p - 1)
    split
    · split <;> omega
    · omega
theorem plc_all : ∀ (cs : List Cl) (p : Nat), shown cs ≤ p → plc cs p = cs.length
  | [], p, _ => rfl
  | c :: l, p, h => by
    rw [shown_cons] at h
    rw [plc, List.length_cons]
    by_cases h0 : c.2 = 0
    · rw [if_pos h0] at h ⊢
      rw [if_neg (by omega), plc_all l _ (by omega)]; omega
    · rw [if_neg h0] at h ⊢
      rw [plc_all l _ (by omega)]; omega
theorem plc_left : ∀ (a b : List Cl) (p : Nat), p < shown a → plc (a ++ b) p = plc a p
  | [], b, p, h => by simp [shown] at h
  | c :: a, b, p, h => by
    rw [shown_cons] at h
    rw [List.cons_append, plc, plc]
    by_cases h0 : c.2 = 0
    · rw [if_pos h0] at h
      rw [if_pos h0, if_pos h0]
      by_cases hp : p = 0
      · rw [if_pos hp, if_pos hp]
      · rw [if_neg hp, if_neg hp, plc_left a b _ (by omega)]
    · rw [if_neg h0] at h
      rw [if_neg h0, if_neg h0, plc_left a b _ (by omega)]
theorem plc_right : ∀ (a b : List Cl) (p : Nat), shown a ≤ p → plc (a ++ b) p = a.length + plc b (p - shown a)
  | [], b, p, h => by simp [shown]
  | c :: a, b, p, h => by
    rw [shown_cons] at h ⊢
    rw [List.cons_append, plc, List.length_cons]
    by_cases h0 : c.2 = 0
    · rw [if_pos h0] at h ⊢
      rw [if_pos h0, if_neg (by omega), plc_right a b _ (by omega), show p - 1 - shown a = p - (shown a + 1) by omega]; omega
    · simp only [if_neg h0, Nat.add_zero] at h ⊢
      rw [plc_right a b _ (by omega)]; omega
theorem plc_run0 (rs : List Int) : ∀ (p : Nat), p < rs.length → plc (run rs 0) p = p := by
  induction rs with
  | nil => intro p h; simp at h
  | cons r l ih =>
    intro p h
    show plc ((r, 0) :: run l 0) p = p
    rw [List.length_cons] at h
    rw [plc, if_pos rfl]
    by_cases hp : p = 0
    · rw [if_pos hp, hp]
    · rw [if_neg hp, ih _ (by omega)]; omega
/-- The visible text with cells put in at the place of a visible one. -/
theorem vis_ins (cs : List Cl) (p : Nat) (rs : List Int) : vis (cs.take (plc cs p) ++ run rs 0 ++ cs.drop (plc cs p)) = (vis cs).take p ++ rs ++ (vis cs).drop p := by
  have h : ∀ (cs : List Cl) (p : Nat), vis (cs.take (plc cs p)) = (vis cs).take p ∧ vis (cs.drop (plc cs p)) = (vis cs).drop p := by
    intro cs
    induction cs with
    | nil => intro p; simp [vis]
    | cons c l ih =>
      intro p
      rw [plc]
      have hv : vis (c :: l) = (if c.2 = 0 then [c.1] else []) ++ vis l := by
        unfold vis; rw [List.filter_cons]; by_cases h : c.2 = 0 <;> simp [h]
      have hv' : ∀ l', vis (c :: l') = (if c.2 = 0 then [c.1] else []) ++ vis l' := by
        intro l'; unfold vis; rw [List.filter_cons]; by_cases h : c.2 = 0 <;> simp [h]
      by_cases h : c.2 = 0
      · rw [if_pos h]
        cases p with
        | zero => simp [vis]
        | succ p =>
          rw [if_neg (by omega), Nat.add_sub_cancel, Nat.add_comm 1, List.take_succ_cons, List.drop_succ_cons, hv', hv, if_pos h, (ih p).1, (ih p).2]
          simp
      · rw [if_neg h, Nat.add_comm 1, List.take_succ_cons, List.drop_succ_cons, hv', hv, if_neg h, (ih p).1, (ih p).2]
        simp
  rw [vis_app, vis_app, vis_run0, (h cs p).1, (h cs p).2]

/-! ### between -/
variable {σ : Type}
/-- The step of between: how many are still wanted, and what is made of them. -/
def stepB (inner : σ → Nat → List Int → σ) (f : Nat) (s : Nat × σ) (a : Nat) (q : Pce) : (Nat × σ) × Bool :=
  if 0 < q.2 then (s, true) else
    ((s.1 - ((q.1.drop (f - a)).take s.1).length, inner s.2 (a + (f - a)) ((q.1.drop (f - a)).take s.1)), decide (0 < s.1 - ((q.1.drop (f - a)).take s.1).length))
def inner1 (inner : σ → Nat → List Int → σ) (s : σ) (l : List (Nat × Int)) : σ := l.foldl (fun s x => inner s x.1 [x.2]) s
theorem walkB (inner : σ → Nat → List Int → σ) (hin : ∀ s a l, l ≠ [] → inner s a l = inner1 inner s (vpos a (run l 0))) (f : Nat) : ∀ (ps : List Pce) (a left : Nat) (s : σ), POk ps → 0 < left →
    walkF (stepB inner f) f a ps (left, s) = ((left - ((vpos a (flat ps)).filter (fun x => decide (f ≤ x.1))).length, inner1 inner s (((vpos a (flat ps)).filter (fun x => decide (f ≤ x.1))).take left)), decide (0 < left - ((vpos a (flat ps)).filter (fun x => decide (f ≤ x.1))).length))
  | [], a, left, s, _, hl => by simp [walkF, flat, vpos, inner1, hl]
  | q :: ps, a, left, s, hp, hl => by
    have hps : POk ps := fun x hx => hp x (by simp [hx])
    have hq := hp q (by simp)
    rw [walkF, flat_cons, vpos_app, run_len, List.filter_append]
    by_cases h : f < a + q.1.length
    · rw [if_pos h]
      by_cases h2 : 0 < q.2
      · have e : stepB inner f (left, s) a q = ((left, s), true) := if_pos h2
        rw [e, vpos_run1 _ (by omega), List.filter_nil, List.nil_append]
        simp only [if_true]
        exact walkB inner hin f ps _ left s hps hl
      · have h0 : q.2 = 0 := by omega
        have e : stepB inner f (left, s) a q = ((left - ((q.1.drop (f - a)).take left).length, inner s (a + (f - a)) ((q.1.drop (f - a)).take left)), decide (0 < left - ((q.1.drop (f - a)).take left).length)) := if_neg h2
        have hne : (q.1.drop (f - a)).take left ≠ [] := by
          intro e2
          have h5 := congrArg List.length e2
          simp only [List.length_take, List.length_drop, List.length_nil] at h5
          have h6 := List.length_pos_iff.2 hq.1
          omega
        rw [e, hin _ _ _ hne, h0, vpos_run0_from, vpos_run0_drop, ← vpos_run0_take]
        have hlen : (vpos (a + (f - a)) (run (q.1.drop (f - a)) 0)).length = (q.1.drop (f - a)).length := by rw [vpos_len, shown_run0]
        obtain ⟨X, hX⟩ : ∃ X, vpos (a + (f - a)) (run (q.1.drop (f - a)) 0) = X := ⟨_, rfl⟩
        rw [hX] at hlen ⊢
        obtain ⟨n, hn⟩ : ∃ n, (q.1.drop (f - a)).length = n := ⟨_, rfl⟩
        rw [hn] at hlen
        rw [List.length_take, hn]
        simp only
        by_cases h3 : n < left
        · rw [Nat.min_eq_right (Nat.le_of_lt h3), if_pos (by simp; omega), walkB inner hin f ps _ (left - n) _ hps (by omega), List.length_append, hlen,
            List.take_of_length_le (by omega : X.length ≤ left), List.take_append, List.take_of_length_le (by omega : X.length ≤ left), hlen]
          unfold inner1
          rw [List.foldl_append, Nat.sub_sub]
        · rw [Nat.min_eq_left (by omega), Nat.sub_self, if_neg (by simp), List.length_append, hlen, List.take_append_of_le_length (by omega)]
          have h4 : left - (n + ((vpos (a + q.1.length) (flat ps)).filter fun x => decide (f ≤ x.1)).length) = 0 := by omega
          rw [h4]; rfl
    · rw [if_neg h]
      have e : (vpos a (run q.1 q.2)).filter (fun x => decide (f ≤ x.1)) = [] := by
        rw [List.filter_eq_nil_iff]
        intro x hx
        have := vpos_ge _ _ x hx
        rw [run_len] at this
        simp; omega
      rw [e, List.nil_append]
      exact walkB inner hin f ps _ left s hps hl
/-- between over a row: the visible cells lo to hi - 1. -/
theorem between_all (inner : σ → Nat → List Int → σ) (hin : ∀ s a l, l ≠ [] → inner s a l = inner1 inner s (vpos a (run l 0))) (ps : List Pce) (lo hi : Nat) (s : σ) (hp : POk ps) (hl : lo < hi) :
    (walkF (stepB inner (plc (flat ps) lo)) (plc (flat ps) lo) 0 ps (hi - lo, s)).1.2 = inner1 inner s (((vpos 0 (flat ps)).drop lo).take (hi - lo)) := by
  rw [walkB inner hin _ ps 0 (hi - lo) s hp (by omega)]
  have := vpos_from (flat ps) 0 lo
  rw [Nat.zero_add] at this
  simp only [this]
/-- Slice's. -/
def innerT (s : List Int) (_ : Nat) (l : List Int) : List Int := s ++ l
theorem innerT_one (s : List Int) (x : List (Nat × Int)) : inner1 innerT s x = s ++ x.map (·.2) := by
  induction x generalizing s with
  | nil => simp [inner1]
  | cons y x ih =>
    show inner1 innerT (s ++ [y.2]) x = _
    rw [ih]; simp
theorem vpos_run0_snd (l : List Int) (a : Nat) : (vpos a (run l 0)).map (·.2) = l := by rw [vpos_vis, vis_run0]
theorem innerT_hin (s : List Int) (a : Nat) (l : List Int) (h : l ≠ []) : innerT s a l = inner1 innerT s (vpos a (run l 0)) := by
  rw [innerT_one, vpos_run0_snd]; rfl
/-- Visible's: stretches that touch are one. -/
def addR (s : List (Int × Int)) (a n : Nat) : List (Int × Int) := match s.getLast? with
  | some x => if x.2 = (a : Int) then s.dropLast ++ [(x.1, (a : Int) + n)] else s ++ [((a : Int), (a : Int) + n)]
  | none => s ++ [((a : Int), (a : Int) + n)]
def innerR (s : List (Int × Int)) (a : Nat) (l : List Int) : List (Int × Int) := addR s a l.length
theorem addR_snoc (s : List (Int × Int)) (x : Int × Int) (a n : Nat) : addR (s ++ [x]) a n = if x.2 = (a : Int) then s ++ [(x.1, (a : Int) + n)] else (s ++ [x]) ++ [((a : Int), (a : Int) + n)] := by
  simp [addR]
theorem addR_last (s : List (Int × Int)) (a n : Nat) : ∃ r x, addR s a n = r ++ [(x, (a : Int) + n)] := by
  rcases List.eq_nil_or_concat s with rfl | ⟨r, x, rfl⟩
  · exact ⟨[], a, rfl⟩
  · rw [List.concat_eq_append, addR_snoc]
    split
    · exact ⟨_, _, rfl⟩
    · exact ⟨_, _, rfl⟩
theorem addR_more (s : List (Int × Int)) (a n m : Nat) : addR (addR s a n) (a + n) m = addR s a (n + m) := by
  rcases List.eq_nil_or_concat s with rfl | ⟨r, x, rfl⟩
  · show addR ([] ++ [((a : Int), (a : Int) + n)]) (a + n) m = [((a : Int), (a : Int) + ((n + m : Nat) : Int))]
    rw [addR_snoc, if_pos (by simp)]
    simp [Int.add_assoc]
  · rw [List.concat_eq_append, addR_snoc, addR_snoc]
    split
    · rw [addR_snoc, if_pos (by simp)]; simp [Int.add_assoc]
    · rw [addR_snoc, if_pos (by simp)]; simp [Int.add_assoc]
theorem innerR_hin (s : List (Int × Int)) (a : Nat) (l : List Int) (h : l ≠ []) : innerR s a l = inner1 innerR s (vpos a (run l 0)) := by
  induction l generalizing s a with
  | nil => exact absurd rfl h
  | cons r l ih =>
    have e : vpos a (run (r :: l) 0) = (a, r) :: vpos (a + 1) (run l 0) := by
      show vpos a ((r, 0) :: run l 0) = _
      rw [vpos, if_pos rfl]
    rw [e]
    show innerR s a (r :: l) = inner1 innerR (innerR s a [r]) (vpos (a + 1) (run l 0))
    by_cases hl : l = []
    · subst hl; rfl
    · rw [← ih _ _ hl]
      show addR s a (l.length + 1) = addR (addR s a 1) (a + 1) l.length
      rw [addR_more, Nat.add_comm]
end Go.Proofs.YtkdhomiieenfnaaDoor.Rp

namespace Go.Proofs.YtkdhomiieenfnaaDoor.Rp
set_option linter.unusedVariables false
set_option linter.unusedSimpArgs false

theorem Nrm_snoc : ∀ (r : List (Int × Int)) (m : Int) (x : Int × Int), Nrm m (r ++ [x]) ↔ Nrm m r ∧ (∀ y ∈ r, y.2 + 1 ≤ x.1) ∧ m ≤ x.1 ∧ x.1 < x.2
  | [], m, x => by simp [Nrm]
  | z :: r, m, x => by
    show (m ≤ z.1 ∧ z.1 < z.2 ∧ Nrm (z.2 + 1) (r ++ [x])) ↔ _
    rw [Nrm_snoc r]
    constructor
    · rintro ⟨h1, h2, h3, h4, h5, h6⟩
      refine ⟨⟨h1, h2, h3⟩, ?_, by omega, h6⟩
      intro y hy
      rcases List.mem_cons.1 hy with rfl | hy
      · exact h5
      · exact h4 y hy
    · rintro ⟨⟨h1, h2, h3⟩, h4, h5, h6⟩
      exact ⟨h1, h2, h3, fun y hy => h4 y (by simp [hy]), h4 z (by simp), h6⟩
theorem cov_one (x : Int × Int) (i : Nat) : cov [x] i = decide (x.1 ≤ (i : Int) ∧ (i : Int) < x.2) := by simp [cov]
theorem addR_one {s : List (Int × Int)} {a : Nat} (hn : Nrm 0 s) (hs : ∀ x ∈ s, x.2 ≤ (a : Int)) : Nrm 0 (addR s a 1) ∧ (∀ x ∈ addR s a 1, x.2 ≤ (a : Int) + 1) ∧ ∀ i, cov (addR s a 1) i = (cov s i || decide (i = a)) := by
  rcases List.eq_nil_or_concat s with rfl | ⟨r, x, rfl⟩
  · refine ⟨⟨by simp, by simp; omega, trivial⟩, ?_, ?_⟩
    · intro x hx
      obtain rfl : x = ((a : Int), (a : Int) + 1) := by simpa [addR] using hx
      simp
    · intro i
      show cov [((a : Int), (a : Int) + 1)] i = _
      rw [cov_one, cov_nil, Bool.false_or, Bool.eq_iff_iff]
      simp; omega
  · rw [List.concat_eq_append] at hn hs ⊢
    rw [addR_snoc]
    have hn' := (Nrm_snoc r 0 x).1 hn
    have hx := hs x (by simp)
    split
    · rename_i e
      refine ⟨(Nrm_snoc _ _ _).2 ⟨hn'.1, hn'.2.1, hn'.2.2.1, by have := hn'.2.2.2; simp only; omega⟩, ?_, ?_⟩
      · intro y hy
        rcases List.mem_append.1 hy with hy | hy
        · have := hs y (by simp [hy]); omega
        · obtain rfl := List.mem_singleton.1 hy; simp
      · intro i
        rw [cov_app, cov_app, cov_one, cov_one, Bool.or_assoc]
        congr 1
        rw [Bool.eq_iff_iff]
        have := hn'.2.2.2
        simp; omega
    · rename_i e
      refine ⟨(Nrm_snoc _ _ _).2 ⟨hn, ?_, by simp, by simp; omega⟩, ?_, ?_⟩
      · intro y hy
        rcases List.mem_append.1 hy with h | h
        · have := hn'.2.1 y h; have := hn'.2.2.2; simp only; omega
        · obtain rfl := List.mem_singleton.1 h; simp only; omega
      · intro y hy
        rcases List.mem_append.1 hy with hy | hy
        · have := hs y hy; omega
        · obtain rfl := List.mem_singleton.1 hy; simp
      · intro i
        rw [cov_app, cov_one]
        congr 1
        rw [Bool.eq_iff_iff]
        simp; omega
theorem addR_len (s : List (Int × Int)) (a n : Nat) : (addR s a n).length ≤ s.length + 1 ∧ 0 < (addR s a n).length := by
  rcases List.eq_nil_or_concat s with rfl | ⟨r, x, rfl⟩
  · simp [addR]
  · rw [List.concat_eq_append, addR_snoc]
    split <;> simp
/-- The stretches of places that rise. -/
theorem ranges_of : ∀ (V : List (Nat × Int)) (s : List (Int × Int)) (a : Nat), V.Pairwise (fun x y => x.1 < y.1) → (∀ x ∈ V, a ≤ x.1) → Nrm 0 s → (∀ x ∈ s, x.2 ≤ (a : Int)) →
    Nrm 0 (inner1 innerR s V) ∧ (∀ m : Nat, a ≤ m → (∀ x ∈ V, x.1 < m) → ∀ x ∈ inner1 innerR s V, x.2 ≤ (m : Int)) ∧ (∀ i, cov (inner1 innerR s V) i = (cov s i || V.any fun x => decide (x.1 = i))) ∧ (inner1 innerR s V).length ≤ s.length + V.length ∧ (V ≠ [] → inner1 innerR s V ≠ [])
  | [], s, a, _, _, hn, hs => ⟨hn, fun m hm _ x hx => by have := hs x hx; omega, fun i => by simp [inner1], by simp [inner1], fun h => absurd rfl h⟩
  | v :: V, s, a, hp, hV, hn, hs => by
    have hv := hV v (by simp)
    have h1 := addR_one (a := v.1) hn (fun x hx => by have := hs x hx; omega)
    have hp' := List.pairwise_cons.1 hp
    have IH := ranges_of V (addR s v.1 1) (v.1 + 1) hp'.2 (fun x hx => hp'.1 x hx) h1.1 (fun x hx => by have := h1.2.1 x hx; omega)
    have hl := addR_len s v.1 1
    refine ⟨IH.1, fun m hm hV' x hx => IH.2.1 m (by have := hV' v (by simp); omega) (fun x hx => hV' x (by simp [hx])) x hx, fun i => ?_, ?_, fun _ => ?_⟩
    · show cov (inner1 innerR (addR s v.1 1) V) i = _
      rw [IH.2.2.1 i, h1.2.2 i, List.any_cons, Bool.or_assoc, show decide (i = v.1) = decide (v.1 = i) by rw [Bool.eq_iff_iff]; simp; omega]
    · show (inner1 innerR (addR s v.1 1) V).length ≤ _
      have := IH.2.2.2.1
      rw [List.length_cons]; omega
    · show inner1 innerR (addR s v.1 1) V ≠ []
      by_cases h0 : V = []
      · subst h0
        show addR s v.1 1 ≠ []
        exact List.length_pos_iff.1 hl.2
      · exact IH.2.2.2.2 h0
theorem vpos_sorted : ∀ (a : Nat) (cs : List Cl), (vpos a cs).Pairwise fun x y => x.1 < y.1
  | a, [] => List.Pairwise.nil
  | a, c :: l => by
    rw [vpos]
    split
    · refine List.pairwise_cons.2 ⟨fun x hx => ?_, vpos_sorted _ _⟩
      have := vpos_ge _ _ x hx
      show a < x.1; omega
    · exact vpos_sorted _ _
/-- What Visible answers: the ranges of the visible cells lo to hi - 1. -/
def visR (cs : List Cl) (lo hi : Nat) : List (Int × Int) := inner1 innerR [] (((vpos 0 cs).drop lo).take (hi - lo))
theorem visR_spec (cs : List Cl) (lo hi : Nat) : Nrm 0 (visR cs lo hi) ∧ (∀ x ∈ visR cs lo hi, x.2 ≤ (cs.length : Int)) ∧ (∀ i, cov (visR cs lo hi) i = (((vpos 0 cs).drop lo).take (hi - lo)).any fun x => decide (x.1 = i)) ∧ (visR cs lo hi).length ≤ hi - lo ∧ (lo < hi → hi ≤ shown cs → visR cs lo hi ≠ []) := by
  have hsub : (((vpos 0 cs).drop lo).take (hi - lo)).Sublist (vpos 0 cs) := (List.take_sublist _ _).trans (List.drop_sublist _ _)
  have h := ranges_of (((vpos 0 cs).drop lo).take (hi - lo)) [] 0 ((vpos_sorted 0 cs).sublist hsub) (fun x hx => Nat.zero_le _) trivial (fun x hx => by cases hx)
  refine ⟨h.1, fun x hx => h.2.1 cs.length (Nat.zero_le _) (fun y hy => by have := vpos_ge 0 cs y (hsub.subset hy); omega) x hx, fun i => by rw [visR, h.2.2.1 i, cov_nil, Bool.false_or], ?_, fun h1 h2 => h.2.2.2.2 ?_⟩
  · have := h.2.2.2.1
    rw [List.length_take, List.length_nil, Nat.zero_add] at this
    unfold visR; omega
  · intro e
    have := congrArg List.length e
    rw [List.length_take, List.length_drop, vpos_len, List.length_nil] at this
    omega
/-- A row with the ranges' counters turned, from place a on. -/
def bumpA (d : Int) (rs : List (Int × Int)) : Nat → List Cl → List Cl
  | _, [] => []
  | a, c :: l => (if cov rs a then (c.1, c.2 + d) else c) :: bumpA d rs (a + 1) l
theorem bumpA_get (d : Int) (rs : List (Int × Int)) : ∀ (cs : List Cl) (a i : Nat), (bumpA d rs a cs)[i]? = (cs[i]?).map fun c => if cov rs (a + i) then (c.1, c.2 + d) else c
  | [], a, i => by simp [bumpA]
  | c :: l, a, 0 => by simp [bumpA]
  | c :: l, a, i + 1 => by
    rw [bumpA, List.getElem?_cons_succ, List.getElem?_cons_succ, bumpA_get d rs l, show a + 1 + i = a + (i + 1) by omega]
theorem bumpC_eq (d : Int) (rs : List (Int × Int)) (cs : List Cl) : bumpC d rs cs = bumpA d rs 0 cs := by
  apply List.ext_getElem?
  intro i
  rw [bumpC_get, bumpA_get, Nat.zero_add]
theorem vpos_bump (rs : List (Int × Int)) : ∀ (cs : List Cl) (a : Nat), Cok cs → vpos a (bumpA 1 rs a cs) = (vpos a cs).filter fun x => !cov rs x.1
  | [], a, _ => rfl
  | c :: l, a, hk => by
    have IH := vpos_bump rs l (a + 1) (fun x hx => hk x (by simp [hx]))
    have hc := (hk c (by simp)).1
    rw [bumpA, vpos, vpos, IH]
    by_cases h : cov rs a = true
    · rw [h]
      simp only [if_true]
      rw [if_neg (by omega)]
      by_cases h0 : c.2 = 0
      · rw [if_pos h0, List.filter_cons, h]; simp
      · rw [if_neg h0]
    · rw [Bool.not_eq_true] at h
      rw [h]
      simp only [Bool.false_eq_true, if_false]
      by_cases h0 : c.2 = 0
      · rw [if_pos h0, if_pos h0, List.filter_cons, h]; simp
      · rw [if_neg h0, if_neg h0]
theorem filter_mid (A V B : List (Nat × Int)) (h : (A ++ V ++ B).Pairwise fun x y => x.1 < y.1) : (A ++ V ++ B).filter (fun x => !(V.any fun y => decide (y.1 = x.1))) = A ++ B := by
  have h1 := List.pairwise_append.1 h
  have h2 := List.pairwise_append.1 h1.1
  rw [List.filter_append, List.filter_append]
  have ha : A.filter (fun x => !(V.any fun y => decide (y.1 = x.1))) = A := by
    rw [List.filter_eq_self]
    intro x hx
    rw [Bool.not_eq_true', List.any_eq_false]
    intro y hy
    have := h2.2.2 x hx y hy
    simp; omega
  have hb : B.filter (fun x => !(V.any fun y => decide (y.1 = x.1))) = B := by
    rw [List.filter_eq_self]
    intro x hx
    rw [Bool.not_eq_true', List.any_eq_false]
    intro y hy
    have := h1.2.2 y (by simp [hy]) x hx
    simp; omega
  have hv : V.filter (fun x => !(V.any fun y => decide (y.1 = x.1))) = [] := by
    rw [List.filter_eq_nil_iff]
    intro x hx
    rw [Bool.not_eq_true', Bool.not_eq_false, List.any_eq_true]
    exact ⟨x, hx, by simp⟩
  rw [ha, hb, hv, List.append_nil]
/-- What hiding visible cells leaves of the text. -/
theorem vis_hide {cs : List Cl} (hk : Cok cs) {lo hi : Nat} (h : lo ≤ hi) : vis (bumpC 1 (visR cs lo hi) cs) = (vis cs).take lo ++ (vis cs).drop hi := by
  rw [← vpos_vis 0, bumpC_eq, vpos_bump _ _ _ hk]
  have e : (vpos 0 cs).filter (fun x => !cov (visR cs lo hi) x.1) = (vpos 0 cs).filter (fun x => !((((vpos 0 cs).drop lo).take (hi - lo)).any fun y => decide (y.1 = x.1))) := by
    apply List.filter_congr
    intro x _
    rw [(visR_spec cs lo hi).2.2.1]
  have hs := vpos_sorted 0 cs
  have hv := vpos_vis 0 cs
  rw [e]
  obtain ⟨L, hL⟩ : ∃ L, vpos 0 cs = L := ⟨_, rfl⟩
  rw [hL] at hs hv ⊢
  have e2 : L = L.take lo ++ (L.drop lo).take (hi - lo) ++ L.drop hi := by
    have e3 : L.drop hi = (L.drop lo).drop (hi - lo) := by rw [List.drop_drop]; congr 1; omega
    rw [e3, List.append_assoc, List.take_append_drop, List.take_append_drop]
  have h3 := filter_mid (L.take lo) ((L.drop lo).take (hi - lo)) (L.drop hi) (by rw [← e2]; exact hs)
  rw [← e2] at h3
  rw [h3, List.map_append, ← hv, List.map_take, List.map_drop]
theorem cov_vis {cs : List Cl} {lo hi i : Nat} (h : cov (visR cs lo hi) i = true) : ∃ r, cs[i]? = some (r, 0) := by
  rw [(visR_spec cs lo hi).2.2.1, List.any_eq_true] at h
  obtain ⟨x, hx, e⟩ := h
  have e : x.1 = i := by simpa using e
  have hm : x ∈ vpos 0 cs := ((List.take_sublist _ _).trans (List.drop_sublist _ _)).subset hx
  have key : ∀ (cs : List Cl) (a : Nat), ∀ x ∈ vpos a cs, cs[x.1 - a]? = some (x.2, 0) ∧ a ≤ x.1 := by
    intro cs
    induction cs with
    | nil => intro a x h; cases h
    | cons c l ih =>
      intro a x h
      rw [vpos] at h
      have : ∀ x ∈ vpos (a + 1) l, (c :: l)[x.1 - a]? = some (x.2, 0) ∧ a ≤ x.1 := fun x hx => by
        have h1 := ih (a + 1) x hx
        rw [show x.1 - a = (x.1 - (a + 1)) + 1 by omega, List.getElem?_cons_succ]
        exact ⟨h1.1, by omega⟩
      split at h
      · rename_i h0
        rcases List.mem_cons.1 h with rfl | h
        · simp only [Nat.sub_self, List.getElem?_cons_zero]
          exact ⟨by rw [← h0], Nat.le_refl _⟩
        · exact this x h
      · exact this x h
  have := (key cs 0 x hm).1
  rw [Nat.sub_zero, e] at this
  exact ⟨_, this⟩
/-- Hiding visible cells is not forbidden, nor is showing them again. -/
theorem hide_free (cs : List Cl) (lo hi : Nat) : ¬ stopC 1 (visR cs lo hi) cs ∧ ¬ stopC (-1) (visR cs lo hi) (bumpC 1 (visR cs lo hi) cs) := by
  constructor
  · rintro ⟨i, h1, c, h2, h3⟩
    obtain ⟨r, h4⟩ := cov_vis h1
    rw [h2] at h4
    obtain rfl := Option.some.inj h4
    rcases h3 with ⟨h5, _⟩ | ⟨_, h5⟩
    · omega
    · simp [M] at h5
  · rintro ⟨i, h1, c, h2, h3⟩
    obtain ⟨r, h4⟩ := cov_vis h1
    rw [bumpC_get, h4, h1] at h2
    simp at h2
    subst h2
    rcases h3 with ⟨_, h5⟩ | ⟨h5, _⟩
    · simp at h5
    · omega

/-! ### The fewest runs -/
def runsL : List Cl → List Pce
  | [] => []
  | c :: l => match runsL l with
    | [] => [([c.1], c.2)]
    | q :: r => if q.2 = c.2 then (c.1 :: q.1, q.2) :: r else ([c.1], c.2) :: q :: r
theorem flat_runsL : ∀ cs : List Cl, flat (runsL cs) = cs
  | [] => rfl
  | c :: l => by
    have IH := flat_runsL l
    rw [runsL]
    cases h : runsL l with
    | nil =>
      rw [h] at IH
      simp only
      rw [flat_cons, flat_nil, ← IH]
      rfl
    | cons q r =>
      rw [h, flat_cons] at IH
      simp only
      split
      · rename_i e
        rw [flat_cons, ← IH]
        show (c.1, q.2) :: _ = _
        rw [e]; rfl
      · rw [flat_cons, flat_cons, IH]; rfl
theorem runsL_ne : ∀ (cs : List Cl), ∀ q ∈ runsL cs, q.1 ≠ []
  | [], q, h => by cases h
  | c :: l, q, h => by
    have IH := runsL_ne l
    rw [runsL] at h
    cases h2 : runsL l with
    | nil => rw [h2] at h; simp at h; subst h; simp
    | cons q' r =>
      rw [h2] at h IH
      simp only at h
      split at h
      · rcases List.mem_cons.1 h with rfl | h
        · simp
        · exact IH q (by simp [h])
      · rcases List.mem_cons.1 h with rfl | h
        · simp
        · exact IH q h
/-- A piece laid behind runs. -/
def addP (L : List Pce) (q : Pce) : List Pce := match L.getLast? with
  | some x => if x.2 = q.2 then L.dropLast ++ [(x.1 ++ q.1, q.2)] else L ++ [q]
  | none => [q]
theorem addP_nil (q : Pce) : addP [] q = [q] := rfl
theorem addP_snoc (L : List Pce) (x q : Pce) : addP (L ++ [x]) q = if x.2 = q.2 then L ++ [(x.1 ++ q.1, q.2)] else (L ++ [x]) ++ [q] := by simp [addP]
theorem addP_cons (y x q : Pce) (L : List Pce) : addP (y :: (L ++ [x])) q = y :: addP (L ++ [x]) q := by
  rw [← List.cons_append, addP_snoc, addP_snoc]
  split <;> simp
theorem addP_more (L : List Pce) (a b : List Int) (h : Int) : addP (addP L (a, h)) (b, h) = addP L (a ++ b, h) := by
  rcases List.eq_nil_or_concat L with rfl | ⟨r, x, rfl⟩
  · show addP ([] ++ [(a, h)]) (b, h) = _
    rw [addP_snoc, if_pos rfl]; rfl
  · rw [List.concat_eq_append, addP_snoc, addP_snoc]
    split
    · rw [addP_snoc, if_pos rfl]; simp
    · rw [addP_snoc, if_pos rfl]
/-- A cell laid ahead of runs. -/
def consP (c : Cl) (L : List Pce) : List Pce := match L with
  | [] => [([c.1], c.2)]
  | q :: r => if q.2 = c.2 then (c.1 :: q.1, q.2) :: r else ([c.1], c.2) :: q :: r
theorem consP_addP (c : Cl) (L : List Pce) (q : Pce) (hq : L ≠ []) : consP c (addP L q) = addP (consP c L) q := by
  rcases List.eq_nil_or_concat L with rfl | ⟨r, x, rfl⟩
  · exact absurd rfl hq
  · rw [List.concat_eq_append]
    cases r with
    | nil =>
      rw [addP_snoc]
      show consP c (if x.2 = q.2 then [(x.1 ++ q.1, q.2)] else [x, q]) = addP (if x.2 = c.2 then [(c.1 :: x.1, x.2)] else [([c.1], c.2), x]) q
      by_cases e : x.2 = q.2
      · rw [if_pos e]
        show (if q.2 = c.2 then _ else _) = _
        by_cases e2 : x.2 = c.2
        · rw [if_pos e2, if_pos (e ▸ e2)]
          show _ = addP ([] ++ [(c.1 :: x.1, x.2)]) q
          rw [addP_snoc, if_pos e]; rfl
        · rw [if_neg e2, if_neg (e ▸ e2)]
          show _ = addP ([([c.1], c.2)] ++ [x]) q
          rw [addP_snoc, if_pos e]; rfl
      · rw [if_neg e]
        show (if x.2 = c.2 then _ else _) = _
        by_cases e2 : x.2 = c.2
        · rw [if_pos e2, if_pos e2]
          show _ = addP ([] ++ [(c.1 :: x.1, x.2)]) q
          rw [addP_snoc, if_neg e]; rfl
        · rw [if_neg e2, if_neg e2]
          show _ = addP ([([c.1], c.2)] ++ [x]) q
          rw [addP_snoc, if_neg e]; rfl
    | cons y r =>
      rw [List.cons_append, addP_cons]
      show (if y.2 = c.2 then (c.1 :: y.1, y.2) :: addP (r ++ [x]) q else ([c.1], c.2) :: y :: addP (r ++ [x]) q) = addP (if y.2 = c.2 then (c.1 :: y.1, y.2) :: (r ++ [x]) else ([c.1], c.2) :: y :: (r ++ [x])) q
      split
      · rw [addP_cons]
      · rw [← List.cons_append, addP_cons, List.cons_append, addP_cons]
theorem runsL_cons (c : Cl) (l : List Cl) : runsL (c :: l) = consP c (runsL l) := by
  rw [runsL]
  cases runsL l <;> rfl
theorem runsL_nil_iff {cs : List Cl} : runsL cs = [] ↔ cs = [] := by
  constructor
  · intro h
    have := flat_runsL cs
    rw [h] at this
    exact this.symm
  · rintro rfl; rfl
theorem runsL_snoc : ∀ (cs : List Cl) (c : Cl), runsL (cs ++ [c]) = addP (runsL cs) ([c.1], c.2)
  | [], c => rfl
  | d :: l, c => by
    rw [List.cons_append, runsL_cons, runsL_cons, runsL_snoc l c]
    by_cases h : l = []
    · subst h
      show consP d [([c.1], c.2)] = addP ([] ++ [([d.1], d.2)]) ([c.1], c.2)
      rw [addP_snoc]
      show (if c.2 = d.2 then [(d.1 :: [c.1], c.2)] else _) = if d.2 = c.2 then _ else _
      by_cases e : c.2 = d.2
      · rw [if_pos e, if_pos e.symm]; rfl
      · rw [if_neg e, if_neg (fun h => e h.symm)]; rfl
    · exact consP_addP d _ _ (fun e => h (runsL_nil_iff.1 e))
theorem runsL_run : ∀ (rs : List Int) (cs : List Cl) (h : Int), rs ≠ [] → runsL (cs ++ run rs h) = addP (runsL cs) (rs, h) := by
  intro rs
  induction rs with
  | nil => intro cs h h2; exact absurd rfl h2
  | cons r l ih =>
    intro cs h _
    have e : cs ++ run (r :: l) h = (cs ++ [(r, h)]) ++ run l h := by simp [run]
    rw [e]
    by_cases hl : l = []
    · subst hl
      rw [show run [] h = [] from rfl, List.append_nil, runsL_snoc]
    · rw [ih _ _ hl, runsL_snoc, addP_more]; rfl
/-- The state of Runs: what is told, the run that grows, its counter. -/
structure RunS where
  out : List Pce
  b : List Int
  hid : Int
def endR (s : RunS) : List Pce := s.out ++ if s.b = [] then [] else [(s.b, s.hid)]
def stepR (s : RunS) (_ : Nat) (q : Pce) : RunS × Bool := (if q.2 = s.hid then ⟨s.out, s.b ++ q.1, s.hid⟩ else ⟨endR s, q.1, q.2⟩, true)
theorem endR_step (s : RunS) (a : Nat) (q : Pce) (hq : q.1 ≠ []) (h : s.b = [] → s.out = []) : endR (stepR s a q).1 = addP (endR s) q ∧ (stepR s a q).1.b ≠ [] := by
  unfold stepR
  by_cases e : q.2 = s.hid
  · rw [if_pos e]
    refine ⟨?_, by simp [hq]⟩
    unfold endR
    simp only
    rw [if_neg (by simp [hq])]
    by_cases hb : s.b = []
    · rw [if_pos hb, h hb, hb, ← e]; rfl
    · rw [if_neg hb, addP_snoc, if_pos e.symm, ← e]
  · rw [if_neg e]
    refine ⟨?_, hq⟩
    show (endR s) ++ (if q.1 = [] then [] else [(q.1, q.2)]) = _
    rw [if_neg hq]
    unfold endR
    by_cases hb : s.b = []
    · rw [if_pos hb, h hb]; rfl
    · rw [if_neg hb, addP_snoc, if_neg (fun x => e x.symm)]
theorem walkR (cs : List Cl) : ∀ (ps : List Pce) (a : Nat) (x : List Cl) (s : RunS), POk ps → runsL x = endR s → (s.b = [] → s.out = []) → (walkF stepR 0 a ps s).2 = true ∧ endR (walkF stepR 0 a ps s).1 = runsL (x ++ flat ps)
  | [], a, x, s, _, h, _ => by rw [walkF, flat_nil, List.append_nil]; exact ⟨rfl, h.symm⟩
  | q :: ps, a, x, s, hp, h, hb => by
    have hq := (hp q (by simp)).1
    have hpos := List.length_pos_iff.2 hq
    have h1 := endR_step s a q hq hb
    have IH := walkR cs ps (a + q.1.length) (x ++ run q.1 q.2) (stepR s a q).1 (fun y hy => hp y (by simp [hy])) (by rw [runsL_run _ _ _ hq, h, h1.1]) (fun e => absurd e h1.2)
    rw [walkF, if_pos (by omega), if_pos (show (stepR s a q).2 = true from rfl), flat_cons, ← List.append_assoc]
    exact IH
/-- Runs over a row of pieces. -/
theorem runs_all (ps : List Pce) (hp : POk ps) : endR (walkF stepR 0 0 ps ⟨[], [], 0⟩).1 = runsL (flat ps) := (walkR [] ps 0 [] ⟨[], [], 0⟩ hp rfl (fun _ => rfl)).2
end Go.Proofs.YtkdhomiieenfnaaDoor.Rp

namespace Go.Proofs.YtkdhomiieenfnaaDoor.U
set_option linter.unusedVariables false
set_option linter.unusedSimpArgs false

/-- A digit. -/
def dig (n : Nat) : UInt8 := if n < 10 then (48 + n).toUInt8 else (87 + n).toUInt8
/-- The digits of a number, of base 16. -/
def hexL (n : Nat) : List UInt8 := if n < 16 then [dig n] else hexL (n / 16) ++ [dig (n % 16)]
termination_by n
decreasing_by omega

theorem hexL_pos (n : Nat) : 0 < (hexL n).length := by
  rw [hexL]
  split <;> simp
end Go.Proofs.YtkdhomiieenfnaaDoor.U
