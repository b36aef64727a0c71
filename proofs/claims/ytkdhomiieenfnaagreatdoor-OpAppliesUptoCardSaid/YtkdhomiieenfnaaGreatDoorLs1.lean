/- What the laws over texts share: runes in memory, letters taken for runes, Check where its answer is known. The rope's trees in plain Lean: their cells, what a node tells of them, and what every step does to them. Digits of base 16, in plain Lean. Quote in plain Lean: the quoted form of bytes. What a sequence of bytes is, by the numbers of its bytes: the decoder's answer in the words of the document's reference. Unquote in plain Lean: what the program makes of a quoted form, and that it reads back what Quote writes. -/
import Derived.Test.YtkdhomiieenfnaaGreatDoorLs0
import Derived.OwnWalk
import Derived.Laws.Cover4
import Derived.KernelRfl
namespace Go.Proofs.YtkdhomiieenfnaaGreatDoor.U
open Go.RowKit Go.Proofs.YtkdhomiieenfnaaGreatDoor.Txt
set_option linter.unusedVariables false
set_option linter.unusedSimpArgs false

/-- A slice of int32 that is read: its numbers. -/
def Reads32 (w : World) (A : Option Addr) (n : Nat) (xs : List Int) : Prop :=
  xs.length = n ∧ n * 4 ≤ 140737488351232 ∧ (0 < n → ∃ ad, A = some ad ∧ ad.block < w.heap.size ∧ ∀ j, j < n → w.cell? (ad.add j) = some (.int .i32 (xs.getD j 0)))
def letR (r : Int) : Int := if r = 9 ∨ r = 10 ∨ (32 ≤ r ∧ r ≤ 126) ∨ (161 ≤ r ∧ r ≤ 55295) ∨ (65536 ≤ r ∧ r ≤ 131069) then r else 97
def i32s (xs : List Int) : List Value := xs.map (Value.int .i32)
theorem i32s_len (xs : List Int) : (i32s xs).length = xs.length := by simp [i32s]
theorem txt_letR (r : Int) : TxtRune (letR r) := by
  unfold letR TxtRune
  split
  · rename_i h
    refine ⟨(valid_iff r).2 (by omega), ?_⟩
    simp [letInB]
    omega
  · exact ⟨rfl, rfl⟩
theorem lets_good (xs : List Int) : ∀ r ∈ xs.map letR, TxtRune r := by
  intro r hr
  obtain ⟨x, _, rfl⟩ := List.mem_map.1 hr
  exact txt_letR x
theorem take_map_succ (xs : List Int) (k : Nat) (hk : k < xs.length) (f : Int → Int) : (xs.take (k + 1)).map f = (xs.take k).map f ++ [f (xs.getD k 0)] := by
  rw [List.take_add_one, List.getElem?_eq_getElem hk, List.map_append]; simp [List.getD, hk]
theorem info32 : (Tryz.prog.info? 21).map (fun i => (i.zero, i.size, i.bytes)) = some (some (.int .i32 0), 1, 4) := by kernel_rfl

theorem add_block (a : Addr) (n : Nat) : (a.add n).block = a.block := by unfold Addr.add; split <;> rfl
theorem own_step {w1 : World} {B e k : Nat} {v : Value} {xs : List Int} {y : Int} (h : w1.ownsRow B e 1 v (k + 1) (i32s ((xs.take k).map letR) ++ [.int .i32 y])) (hy : letR (xs.getD k 0) = y) (hk : k < xs.length) :
    w1.ownsRow B e 1 v (k + 1) (i32s ((xs.take (k + 1)).map letR)) := by
  rw [take_map_succ xs k hk letR, hy]
  simpa [i32s] using h
theorem round_below {w wr w1 : World} {e k : Nat} {v : Value} {xs : List Value} {o : Obj} (hb : Below w.heap.size w wr) (ho : wr.ownsRow w.heap.size e 1 v k xs) (hg : (wr.alloc o).grownBy w1 v.ownBlock) : Below w.heap.size w w1 :=
  (hb.alloc hb.size o).grown hg (by have := hb.size; simp; omega) fun j hj => (ho.lt j hj).1
/-- Check's answer where it is known. -/
theorem check_at (s : ByteArray) (n a e : Int) (w : World) (hs : s.size ≤ maxLen) (hg : Bars w) (h : ((chk s.data.toList).1 : Int) = n ∧ ((chk s.data.toList).2.1 : Int) = a ∧ ((chk s.data.toList).2.2 : Int) = e) :
    Calls Tryz.prog 25 #[.string s] w fun e' w' => e' = .returned (.tuple #[.int .i64 n, .int .i64 a, .int .i64 e]) ∧ Below w.heap.size w w' := by
  refine (check_any s w hs hg).mono ?_
  rintro e' w' ⟨rfl, hb⟩
  rw [chkOut, h.1, h.2.1, h.2.2]
  exact ⟨rfl, hb⟩

end Go.Proofs.YtkdhomiieenfnaaGreatDoor.U

namespace Go.Proofs.YtkdhomiieenfnaaGreatDoor.Rp
set_option linter.unusedVariables false
set_option linter.unusedSimpArgs false

/-- A cell: its rune and its counter. -/
abbrev Cl := Int × Int
/-- A tree: a piece of one counter between two trees, and what is still to be added to all counters. -/
inductive T where
  | nil : T
  | node (l : T) (rs : List Int) (h : Int) (r : T) (p : Int) : T
def up (by_ : Int) (l : List Cl) : List Cl := l.map fun c => (c.1, c.2 + by_)
def run (rs : List Int) (h : Int) : List Cl := rs.map fun r => (r, h)
def cells : T → List Cl
  | .nil => []
  | .node l rs h r p => up p (cells l ++ run rs h ++ cells r)
def hgt : T → Nat
  | .nil => 0
  | .node l _ _ r _ => 1 + max (hgt l) (hgt r)
def lvs : T → Nat
  | .nil => 0
  | .node l _ _ r _ => lvs l + 1 + lvs r
def lift (by_ : Int) : T → T
  | .nil => .nil
  | .node l rs h r p => .node l rs h r (p + by_)
theorem up_app (k : Int) (a b : List Cl) : up k (a ++ b) = up k a ++ up k b := by simp [up]
theorem up_up (j k : Int) (a : List Cl) : up j (up k a) = up (k + j) a := by simp [up, Int.add_assoc]
theorem up_zero (a : List Cl) : up 0 a = a := by simp [up]
theorem up_run (k : Int) (rs : List Int) (h : Int) : up k (run rs h) = run rs (h + k) := by simp [up, run]
theorem up_len (k : Int) (a : List Cl) : (up k a).length = a.length := by simp [up]
theorem run_len (rs : List Int) (h : Int) : (run rs h).length = rs.length := by simp [run]
theorem cells_lift (k : Int) (t : T) : cells (lift k t) = up k (cells t) := by
  cases t with
  | nil => rfl
  | node l rs h r p => simp only [lift, cells, up_up]
theorem cells_open (l : T) (rs : List Int) (h : Int) (r : T) (p : Int) : cells (.node l rs h r p) = cells (lift p l) ++ run rs (h + p) ++ cells (lift p r) := by
  rw [cells_lift, cells_lift]; simp only [cells, up_app, up_run]
theorem hgt_lift (k : Int) (t : T) : hgt (lift k t) = hgt t := by cases t <;> rfl
theorem lvs_lift (k : Int) (t : T) : lvs (lift k t) = lvs t := by cases t <;> rfl
theorem lift_zero (t : T) : lift 0 t = t := by cases t <;> simp [lift]
theorem lift_lift (j k : Int) (t : T) : lift j (lift k t) = lift (k + j) t := by cases t <;> simp [lift, Int.add_assoc]

/-! ### What a node tells -/
/-- The least and the greatest counter of cells (0 of none), and how many have the least. -/
def lo : List Cl → Int
  | [] => 0
  | c :: l => if l = [] then c.2 else min c.2 (lo l)
def hi : List Cl → Int
  | [] => 0
  | c :: l => if l = [] then c.2 else max c.2 (hi l)
def at_ (l : List Cl) : Nat := l.countP fun c => decide (c.2 = lo l)
theorem lo_le {l : List Cl} {c : Cl} (h : c ∈ l) : lo l ≤ c.2 := by
  induction l with
  | nil => simp at h
  | cons d l ih =>
    unfold lo
    rcases List.mem_cons.1 h with rfl | h
    · split <;> omega
    · have := ih h
      rw [if_neg (by intro e; rw [e] at h; simp at h)]; omega
theorem le_hi {l : List Cl} {c : Cl} (h : c ∈ l) : c.2 ≤ hi l := by
  induction l with
  | nil => simp at h
  | cons d l ih =>
    unfold hi
    rcases List.mem_cons.1 h with rfl | h
    · split <;> omega
    · have := ih h
      rw [if_neg (by intro e; rw [e] at h; simp at h)]; omega
theorem lo_mem {l : List Cl} (h : l ≠ []) : ∃ c ∈ l, c.2 = lo l := by
  induction l with
  | nil => exact absurd rfl h
  | cons d l ih =>
    unfold lo
    by_cases e : l = []
    · rw [if_pos e]; exact ⟨d, by simp, rfl⟩
    · rw [if_neg e]
      obtain ⟨c, hc, h2⟩ := ih e
      rcases Int.le_total d.2 (lo l) with h3 | h3
      · exact ⟨d, by simp, by omega⟩
      · exact ⟨c, by simp [hc], by omega⟩
theorem hi_mem {l : List Cl} (h : l ≠ []) : ∃ c ∈ l, c.2 = hi l := by
  induction l with
  | nil => exact absurd rfl h
  | cons d l ih =>
    unfold hi
    by_cases e : l = []
    · rw [if_pos e]; exact ⟨d, by simp, rfl⟩
    · rw [if_neg e]
      obtain ⟨c, hc, h2⟩ := ih e
      rcases Int.le_total (hi l) d.2 with h3 | h3
      · exact ⟨d, by simp, by omega⟩
      · exact ⟨c, by simp [hc], by omega⟩
theorem lo_eq {l : List Cl} {m : Int} (h1 : ∀ c ∈ l, m ≤ c.2) (h2 : ∃ c ∈ l, c.2 = m) : lo l = m := by
  obtain ⟨c, hc, rfl⟩ := h2
  have := lo_le hc
  obtain ⟨d, hd, e⟩ := lo_mem (l := l) (by intro e; rw [e] at hc; simp at hc)
  have := h1 d hd
  omega
theorem hi_eq {l : List Cl} {m : Int} (h1 : ∀ c ∈ l, c.2 ≤ m) (h2 : ∃ c ∈ l, c.2 = m) : hi l = m := by
  obtain ⟨c, hc, rfl⟩ := h2
  have := le_hi hc
  obtain ⟨d, hd, e⟩ := hi_mem (l := l) (by intro e; rw [e] at hc; simp at hc)
  have := h1 d hd
  omega
theorem lo_app {a b : List Cl} (ha : a ≠ []) (hb : b ≠ []) : lo (a ++ b) = min (lo a) (lo b) := by
  apply lo_eq
  · intro c hc
    rcases List.mem_append.1 hc with h | h
    · have := lo_le h; omega
    · have := lo_le h; omega
  · obtain ⟨c, hc, e⟩ := lo_mem ha
    obtain ⟨d, hd, f⟩ := lo_mem hb
    rcases Int.le_total (lo a) (lo b) with h | h
    · exact ⟨c, by simp [hc], by omega⟩
    · exact ⟨d, by simp [hd], by omega⟩
theorem hi_app {a b : List Cl} (ha : a ≠ []) (hb : b ≠ []) : hi (a ++ b) = max (hi a) (hi b) := by
  apply hi_eq
  · intro c hc
    rcases List.mem_append.1 hc with h | h
    · have := le_hi h; omega
    · have := le_hi h; omega
  · obtain ⟨c, hc, e⟩ := hi_mem ha
    obtain ⟨d, hd, f⟩ := hi_mem hb
    rcases Int.le_total (hi b) (hi a) with h | h
    · exact ⟨c, by simp [hc], by omega⟩
    · exact ⟨d, by simp [hd], by omega⟩
theorem cnt_none {l : List Cl} {m : Int} (h : m < lo l) : l.countP (fun c => decide (c.2 = m)) = 0 := by
  rw [List.countP_eq_zero]
  intro c hc
  have := lo_le hc
  simp; omega
theorem at_app {a b : List Cl} (ha : a ≠ []) (hb : b ≠ []) : at_ (a ++ b) = (if lo a = lo (a ++ b) then at_ a else 0) + (if lo b = lo (a ++ b) then at_ b else 0) := by
  unfold at_
  rw [List.countP_append]
  have hl := lo_app ha hb
  congr 1
  · split
    · rename_i h; rw [← h]
    · rename_i h; exact cnt_none (by omega)
  · split
    · rename_i h; rw [← h]
    · rename_i h; exact cnt_none (by omega)
theorem run_ne {rs : List Int} (h : rs ≠ []) (k : Int) : run rs k ≠ [] := by
  cases rs with
  | nil => exact absurd rfl h
  | cons a l => simp [run]
theorem run_mem {rs : List Int} {k : Int} {c : Cl} (h : c ∈ run rs k) : c.2 = k ∧ c.1 ∈ rs := by
  unfold run at h
  obtain ⟨r, hr, rfl⟩ := List.mem_map.1 h
  exact ⟨rfl, hr⟩
theorem lo_run {rs : List Int} (h : rs ≠ []) (k : Int) : lo (run rs k) = k := by
  apply lo_eq
  · intro c hc; rw [(run_mem hc).1]; omega
  · obtain ⟨r, l, rfl⟩ := List.exists_cons_of_ne_nil h
    exact ⟨(r, k), by simp [run], rfl⟩
theorem hi_run {rs : List Int} (h : rs ≠ []) (k : Int) : hi (run rs k) = k := by
  apply hi_eq
  · intro c hc; rw [(run_mem hc).1]; omega
  · obtain ⟨r, l, rfl⟩ := List.exists_cons_of_ne_nil h
    exact ⟨(r, k), by simp [run], rfl⟩
theorem at_run {rs : List Int} (h : rs ≠ []) (k : Int) : at_ (run rs k) = rs.length := by
  unfold at_
  rw [lo_run h, List.countP_eq_length.2 (fun c hc => by rw [(run_mem hc).1]; simp), run_len]
theorem up_ne {l : List Cl} (h : l ≠ []) (k : Int) : up k l ≠ [] := by
  cases l with
  | nil => exact absurd rfl h
  | cons a l => simp [up]
theorem up_mem {l : List Cl} {k : Int} {c : Cl} (h : c ∈ up k l) : (c.1, c.2 - k) ∈ l := by
  obtain ⟨d, hd, rfl⟩ := List.mem_map.1 h
  simpa using hd
theorem mem_up {l : List Cl} {k : Int} {c : Cl} (h : c ∈ l) : (c.1, c.2 + k) ∈ up k l := List.mem_map.2 ⟨c, h, rfl⟩
theorem lo_up {l : List Cl} (h : l ≠ []) (k : Int) : lo (up k l) = lo l + k := by
  apply lo_eq
  · intro c hc; have := lo_le (up_mem hc); simp only at this; omega
  · obtain ⟨c, hc, e⟩ := lo_mem h
    exact ⟨_, mem_up hc, by simp only; omega⟩
theorem hi_up {l : List Cl} (h : l ≠ []) (k : Int) : hi (up k l) = hi l + k := by
  apply hi_eq
  · intro c hc; have := le_hi (up_mem hc); simp only at this; omega
  · obtain ⟨c, hc, e⟩ := hi_mem h
    exact ⟨_, mem_up hc, by simp only; omega⟩
theorem at_up (l : List Cl) (k : Int) : at_ (up k l) = at_ l := by
  by_cases h : l = []
  · subst h; rfl
  · unfold at_
    rw [lo_up h]
    unfold up
    rw [List.countP_map]
    apply List.countP_congr
    intro c _
    simp only [Function.comp, decide_eq_true_eq]
    omega
theorem lo_ge {l : List Cl} {m : Int} (hm : m ≤ 0) (h : ∀ c ∈ l, m ≤ c.2) : m ≤ lo l := by
  by_cases e : l = []
  · subst e; exact hm
  · obtain ⟨c, hc, e2⟩ := lo_mem e; have := h c hc; omega
theorem hi_le {l : List Cl} {m : Int} (hm : 0 ≤ m) (h : ∀ c ∈ l, c.2 ≤ m) : hi l ≤ m := by
  by_cases e : l = []
  · subst e; exact hm
  · obtain ⟨c, hc, e2⟩ := hi_mem e; have := h c hc; omega
theorem at_len (l : List Cl) : at_ l ≤ l.length := List.countP_le_length

/-- What cells tell: how many, the least counter, how many have it, the greatest. -/
structure S where
  total : Nat
  least : Int
  atMin : Nat
  most : Int
def sum (l : List Cl) : S := ⟨l.length, lo l, at_ l, hi l⟩
def with_ (s t : S) : S := if t.total = 0 then s else if s.total = 0 then t else
  ⟨s.total + t.total, min s.least t.least, (if s.least = min s.least t.least then s.atMin else 0) + (if t.least = min s.least t.least then t.atMin else 0), max s.most t.most⟩
theorem sum_app (a b : List Cl) : sum (a ++ b) = with_ (sum a) (sum b) := by
  unfold with_
  by_cases hb : b = []
  · subst hb; rw [List.append_nil]; rfl
  · by_cases ha : a = []
    · subst ha
      have h1 : ¬ (sum b).total = 0 := by simp [sum, hb]
      have h2 : (sum ([] : List Cl)).total = 0 := rfl
      rw [if_neg h1, if_pos h2]; rfl
    · have h1 : ¬ (sum b).total = 0 := by simp [sum, hb]
      have h2 : ¬ (sum a).total = 0 := by simp [sum, ha]
      rw [if_neg h1, if_neg h2]
      simp only [sum, List.length_append, lo_app ha hb, hi_app ha hb, at_app ha hb]
      rfl
theorem sum_run {rs : List Int} (h : rs ≠ []) (k : Int) : sum (run rs k) = ⟨rs.length, k, rs.length, k⟩ := by
  simp only [sum, run_len, lo_run h, hi_run h, at_run h]
def lifted (s : S) (k : Int) : S := ⟨s.total, s.least + k, s.atMin, s.most + k⟩
theorem sum_up {l : List Cl} (h : l ≠ []) (k : Int) : sum (up k l) = lifted (sum l) k := by
  simp only [sum, lifted, up_len, lo_up h, hi_up h, at_up]

/-! ### Trees as they should be -/
/-- The greatest counter. -/
abbrev M : Int := 1048576
def Cok (l : List Cl) : Prop := ∀ c ∈ l, 0 ≤ c.2 ∧ c.2 ≤ M
theorem Cok.app {a b : List Cl} (h : Cok a) (h2 : Cok b) : Cok (a ++ b) := fun c hc => by
  rcases List.mem_append.1 hc with h3 | h3
  · exact h c h3
  · exact h2 c h3
theorem Cok.left {a b : List Cl} (h : Cok (a ++ b)) : Cok a := fun c hc => h c (by simp [hc])
theorem Cok.right {a b : List Cl} (h : Cok (a ++ b)) : Cok b := fun c hc => h c (by simp [hc])
theorem Cok.run {rs : List Int} {k : Int} (h0 : 0 ≤ k) (h1 : k ≤ M) : Cok (run rs k) := fun c hc => by rw [(run_mem hc).1]; exact ⟨h0, h1⟩
def WF : T → Prop
  | .nil => True
  | .node l rs h r p => WF l ∧ WF r ∧ rs ≠ [] ∧ 0 ≤ h ∧ h ≤ M ∧ Cok (cells l) ∧ Cok (cells r) ∧ Cok (cells (.node l rs h r p))
theorem WF.ok {t : T} (h : WF t) : Cok (cells t) := by
  cases t with
  | nil => intro c hc; simp [cells] at hc
  | node l rs k r p => exact h.2.2.2.2.2.2.2
theorem WF.lift {t : T} (h : WF t) (k : Int) (hk : Cok (up k (cells t))) : WF (lift k t) := by
  cases t with
  | nil => trivial
  | node l rs j r p =>
    obtain ⟨a, b, c, d, e, f, g, i⟩ := h
    exact ⟨a, b, c, d, e, f, g, by rw [← cells_lift] at hk; exact hk⟩
theorem WF.knot {l r : T} {rs : List Int} {h : Int} (hl : WF l) (hr : WF r) (hn : rs ≠ []) (h0 : 0 ≤ h) (h1 : h ≤ M) : WF (.node l rs h r 0) := by
  refine ⟨hl, hr, hn, h0, h1, hl.ok, hr.ok, ?_⟩
  rw [cells_open, Int.add_zero, lift_zero, lift_zero]
  exact (hl.ok.app (.run h0 h1)).app hr.ok
theorem cells_knot (l r : T) (rs : List Int) (h : Int) : cells (.node l rs h r 0) = cells l ++ run rs h ++ cells r := by
  rw [cells_open, Int.add_zero, lift_zero, lift_zero]
/-- The parts of an opened node. -/
theorem WF.parts {l r : T} {rs : List Int} {h p : Int} (hw : WF (.node l rs h r p)) : WF (T.nil) ∧ WF (Rp.lift p l) ∧ WF (Rp.lift p r) ∧ rs ≠ [] ∧ 0 ≤ h + p ∧ h + p ≤ M := by
  have ho := hw.ok
  rw [cells_open, cells_lift, cells_lift] at ho
  obtain ⟨a, b, c, d, e, f, g, i⟩ := hw
  obtain ⟨x, xs, rfl⟩ := List.exists_cons_of_ne_nil c
  have hx := ho.left.right (x, h + p) (by simp [run])
  exact ⟨trivial, a.lift p ho.left.left, b.lift p ho.right, c, hx.1, hx.2⟩
theorem WF.plus {l r : T} {rs : List Int} {h p : Int} (hw : WF (.node l rs h r p)) : -M ≤ p ∧ p ≤ M := by
  have h1 := hw.parts
  have h2 := hw.2.2.2.1
  have h3 := hw.2.2.2.2.1
  have h4 := h1.2.2.2.2.1
  have h5 := h1.2.2.2.2.2
  omega
theorem lvs_le {t : T} (h : WF t) : lvs t ≤ (cells t).length := by
  induction t with
  | nil => exact Nat.le_refl _
  | node l rs k r p ihl ihr =>
    have h1 := ihl h.1
    have h2 := ihr h.2.1
    have h3 := List.length_pos_iff.2 h.2.2.1
    simp only [lvs, cells, up_len, List.length_append, run_len]
    omega
theorem hgt_le (t : T) : hgt t ≤ lvs t := by
  induction t with
  | nil => exact Nat.le_refl _
  | node l rs k r p ihl ihr => simp only [hgt, lvs]; omega
theorem hgt_pos {t : T} (h : 0 < hgt t) : ∃ l rs k r p, t = .node l rs k r p := by
  cases t with
  | nil => simp [hgt] at h
  | node l rs k r p => exact ⟨_, _, _, _, _, rfl⟩
theorem hgt_zero {t : T} (h : hgt t = 0) : t = .nil := by
  cases t with
  | nil => rfl
  | node l rs k r p => simp [hgt] at h
theorem cells_nil_iff {t : T} (h : WF t) : cells t = [] ↔ t = .nil := by
  cases t with
  | nil => exact ⟨fun _ => rfl, fun _ => rfl⟩
  | node l rs k r p =>
    constructor
    · intro e
      have h2 := congrArg List.length e
      simp only [cells, up_len, List.length_append, run_len, List.length_nil] at h2
      have := List.length_pos_iff.2 h.2.2.1
      omega
    · intro e; cases e
end Go.Proofs.YtkdhomiieenfnaaGreatDoor.Rp

namespace Go.Proofs.YtkdhomiieenfnaaGreatDoor.U
set_option linter.unusedVariables false
set_option linter.unusedSimpArgs false

/-- A digit. -/
def dig (n : Nat) : UInt8 := if n < 10 then (48 + n).toUInt8 else (87 + n).toUInt8
/-- The digits of a number, of base 16. -/
def hexL (n : Nat) : List UInt8 := if n < 16 then [dig n] else hexL (n / 16) ++ [dig (n % 16)]
termination_by n
decreasing_by omega

theorem hexL_pos (n : Nat) : 0 < (hexL n).length := by
  rw [hexL]
  split <;> simp
end Go.Proofs.YtkdhomiieenfnaaGreatDoor.U

namespace Go.Proofs.YtkdhomiieenfnaaGreatDoor.U
open Go Go.Proofs.YtkdhomiieenfnaaGreatDoor.Txt
set_option linter.unusedVariables false
set_option linter.unusedSimpArgs false

/-- The form of a rune. -/
def qR (r : Int) : List UInt8 :=
  if r = 34 then [92, 34] else if r = 92 then [92, 92] else if r = 10 then [92, 110] else if r = 9 then [92, 116]
  else if 32 ≤ r ∧ r ≤ 126 then encB r else [92, 117, 123] ++ hexL r.toNat ++ [125]
/-- The form of a byte at which no sequence begins. -/
def qX (x : UInt8) : List UInt8 := [92, 120, dig (x.toNat / 16), dig (x.toNat % 16)]
/-- The forms of all that stands in l. -/
def qS : Nat → List UInt8 → List UInt8
  | 0, _ => []
  | f + 1, l => if l = [] then [] else
      match seq l with
      | none => qX (l.headD 0) ++ qS f (l.drop (decL l).2)
      | some r => qR r ++ qS f (l.drop (encB r).length)
def quoteL (l : List UInt8) : List UInt8 := 34 :: (qS l.length l ++ [34])

theorem hexL_le (n : Nat) (h : n < 16777216) : (hexL n).length ≤ 6 := by
  have H : ∀ k n, n < 16 ^ (k + 1) → (hexL n).length ≤ k + 1 := by
    intro k
    induction k with
    | zero => intro n h; rw [hexL, if_pos (by omega)]; simp
    | succ k ih =>
      intro n h
      rw [hexL]
      split
      · simp
      · have := ih (n / 16) (by rw [Nat.pow_succ] at h; omega)
        simp; omega
  exact H 5 n (by omega)
theorem qR_le (r : Int) (h : r ≤ 1114111) : (qR r).length ≤ 10 := by
  unfold qR
  have h1 := hexL_le r.toNat (by omega)
  have h2 := (encB_len r).2
  repeat' split
  all_goals simp
  all_goals omega
theorem decL_pos (l : List UInt8) (h : l ≠ []) : 1 ≤ (decL l).2 := by
  unfold decL
  rcases l with _ | ⟨b, l⟩
  · exact absurd rfl h
  · simp only []
    repeat' split
    all_goals simp
theorem decL_le (l : List UInt8) (h : l ≠ []) : (decL l).2 ≤ l.length := by
  unfold decL
  rcases l with _ | ⟨b, l⟩
  · exact absurd rfl h
  · simp only []
    repeat' split
    all_goals simp_all
    all_goals omega
theorem qS_none {f : Nat} {l : List UInt8} (hf : 0 < f) (hl : l ≠ []) (h : seq l = none) : qS f l = qX (l.headD 0) ++ qS (f - 1) (l.drop (decL l).2) := by
  obtain ⟨f, rfl⟩ : ∃ j, f = j + 1 := ⟨f - 1, by omega⟩
  rw [qS, if_neg hl, h]
  rfl
theorem qS_some {f : Nat} {l : List UInt8} (hf : 0 < f) (hl : l ≠ []) {r : Int} (h : seq l = some r) : qS f l = qR r ++ qS (f - 1) (l.drop (encB r).length) := by
  obtain ⟨f, rfl⟩ : ∃ j, f = j + 1 := ⟨f - 1, by omega⟩
  rw [qS, if_neg hl, h]
  rfl
theorem qS_fuel : ∀ (f f' : Nat) (l : List UInt8), l.length ≤ f → l.length ≤ f' → qS f l = qS f' l := by
  intro f
  induction f with
  | zero =>
    intro f' l h h'
    have : l = [] := List.length_eq_zero_iff.1 (by omega)
    subst this
    cases f' <;> rfl
  | succ f ih =>
    intro f' l h h'
    by_cases hl : l = []
    · subst hl; cases f' <;> rfl
    · have h0 := List.length_pos_iff.2 hl
      cases hq : seq l with
      | none =>
        have := decL_pos l hl
        rw [qS_none (by omega) hl hq, qS_none (by omega) hl hq]
        congr 1
        exact ih _ _ (by rw [List.length_drop]; omega) (by rw [List.length_drop]; omega)
      | some r =>
        have := (encB_len r).1
        rw [qS_some (by omega) hl hq, qS_some (by omega) hl hq]
        congr 1
        exact ih _ _ (by rw [List.length_drop]; omega) (by rw [List.length_drop]; omega)
end Go.Proofs.YtkdhomiieenfnaaGreatDoor.U

namespace Go.Proofs.YtkdhomiieenfnaaGreatDoor.Txt
open Go
set_option linter.unusedVariables false

/-- The number of byte k. -/
def bAt (l : List UInt8) (k : Nat) : Nat := (l.getD k 0).toNat
theorem bAt_lt (l : List UInt8) (k : Nat) : bAt l k < 256 := UInt8.toNat_lt _
/-- Is byte k there, and does it go on with a sequence? -/
def goesOn (l : List UInt8) (k : Nat) : Prop := k < l.length ∧ bAt l k / 64 = 2
instance (l : List UInt8) (k : Nat) : Decidable (goesOn l k) := by unfold goesOn; infer_instance
def r2 (l : List UInt8) : Nat := bAt l 0 % 32 * 64 + bAt l 1 % 64
def r3 (l : List UInt8) : Nat := (bAt l 0 % 16 * 64 + bAt l 1 % 64) * 64 + bAt l 2 % 64
def r4 (l : List UInt8) : Nat := ((bAt l 0 % 8 * 64 + bAt l 1 % 64) * 64 + bAt l 2 % 64) * 64 + bAt l 3 % 64
/-- A number that a sequence may be of. -/
def runeOk (least r : Nat) : Prop := least ≤ r ∧ r ≤ 1114111 ∧ ¬ (55296 ≤ r ∧ r ≤ 57343)
instance (a r : Nat) : Decidable (runeOk a r) := by unfold runeOk; infer_instance
theorem pre_iff (l : List UInt8) : [239, 191, 189] <+: l ↔ 2 < l.length ∧ bAt l 0 = 239 ∧ bAt l 1 = 191 ∧ bAt l 2 = 189 := by
  constructor
  · rintro ⟨t, rfl⟩
    simp [bAt]
  · rintro ⟨h, h0, h1, h2⟩
    match l, h with
    | a :: b :: c :: t, _ =>
      simp only [bAt, List.getD_cons_zero, List.getD_cons_succ] at h0 h1 h2
      have e0 : a = 239 := UInt8.toNat.inj h0
      have e1 : b = 191 := UInt8.toNat.inj h1
      have e2 : c = 189 := UInt8.toNat.inj h2
      subst e0 e1 e2
      exact ⟨t, rfl⟩
theorem valid_nat (n : Nat) : Utf8.valid (n : Int) = true ↔ n < 55296 ∨ (57343 < n ∧ n ≤ 1114111) := by rw [valid_iff]; omega
theorem decL_form (l : List UInt8) : decL l =
    if bAt l 0 < 128 then (bAt l 0, 1)
    else if bAt l 0 / 32 = 6 ∧ goesOn l 1 then (if 128 ≤ r2 l then (r2 l, 2) else (65533, 1))
    else if bAt l 0 / 16 = 14 ∧ goesOn l 1 ∧ goesOn l 2 then (if 2048 ≤ r3 l ∧ Utf8.valid (r3 l) = true then (r3 l, 3) else (65533, 1))
    else if bAt l 0 / 8 = 30 ∧ goesOn l 1 ∧ goesOn l 2 ∧ goesOn l 3 then (if 65536 ≤ r4 l ∧ Utf8.valid (r4 l) = true then (r4 l, 4) else (65533, 1))
    else (65533, 1) := by
  have e3 : r3 l = bAt l 0 % 16 * 4096 + bAt l 1 % 64 * 64 + bAt l 2 % 64 := by unfold r3; omega
  have e4 : r4 l = bAt l 0 % 8 * 262144 + bAt l 1 % 64 * 4096 + bAt l 2 % 64 * 64 + bAt l 3 % 64 := by unfold r4; omega
  rw [e3, e4]
  unfold decL goesOn r2 bAt
  simp only [Bool.and_eq_true, beq_iff_eq, decide_eq_true_eq, ge_iff_le, and_assoc]
/-- The rune of the sequence that begins here, by the document's words. -/
def seqR (l : List UInt8) : Option Nat :=
  if bAt l 0 < 128 then some (bAt l 0)
  else if bAt l 0 / 32 = 6 then (if goesOn l 1 ∧ runeOk 128 (r2 l) then some (r2 l) else none)
  else if bAt l 0 / 16 = 14 then (if goesOn l 1 ∧ goesOn l 2 ∧ runeOk 2048 (r3 l) then some (r3 l) else none)
  else if bAt l 0 / 8 = 30 then (if goesOn l 1 ∧ goesOn l 2 ∧ goesOn l 3 ∧ runeOk 65536 (r4 l) then some (r4 l) else none)
  else none
theorem seq_ref (l : List UInt8) (hl : l ≠ []) : seq l = (seqR l).map Int.ofNat := by
  have b0 := bAt_lt l 0
  have b1 := bAt_lt l 1
  have b2 := bAt_lt l 2
  have b3 := bAt_lt l 3
  have hd : seq l = if (decL l).1 ≠ 65533 ∨ (2 < l.length ∧ bAt l 0 = 239 ∧ bAt l 1 = 191 ∧ bAt l 2 = 189) then some ((decL l).1 : Int) else none := by
    unfold seq
    simp only [pre_iff]
  have yes : ∀ c k, decL l = (c, k) → c ≠ 65533 ∨ (2 < l.length ∧ bAt l 0 = 239 ∧ bAt l 1 = 191 ∧ bAt l 2 = 189) → seq l = some (c : Int) := fun c k h hc => by
    rw [hd, h, if_pos hc]
  have no : ∀ k, decL l = (65533, k) → ¬ (2 < l.length ∧ bAt l 0 = 239 ∧ bAt l 1 = 191 ∧ bAt l 2 = 189) → seq l = none := fun k h hp => by
    rw [hd, h, if_neg (by rintro (h1 | h1); exact h1 rfl; exact hp h1)]
  have e := decL_form l
  unfold seqR
  by_cases h0 : bAt l 0 < 128
  · rw [if_pos h0] at e ⊢
    rw [yes _ _ e (.inl (by omega))]; rfl
  · rw [if_neg h0] at e ⊢
    by_cases h2 : bAt l 0 / 32 = 6
    · have hp : ¬ (2 < l.length ∧ bAt l 0 = 239 ∧ bAt l 1 = 191 ∧ bAt l 2 = 189) := by rintro ⟨_, a, _⟩; rw [a] at h2; exact absurd h2 (by decide)
      rw [if_pos h2]
      by_cases g1 : goesOn l 1
      · have hr : r2 l < 2048 := by unfold r2; omega
        rw [if_pos ⟨h2, g1⟩] at e
        by_cases hk : 128 ≤ r2 l
        · rw [if_pos hk] at e
          rw [yes _ _ e (.inl (by omega)), if_pos ⟨g1, hk, by omega, by omega⟩]; rfl
        · rw [if_neg hk] at e
          rw [no _ e hp, if_neg (fun h => hk h.2.1)]; rfl
      · rw [if_neg (fun h => g1 h.2), if_neg (by omega), if_neg (by omega)] at e
        rw [no _ e hp, if_neg (fun h => g1 h.1)]; rfl
    · rw [if_neg (fun h => h2 h.1)] at e
      rw [if_neg h2]
      by_cases h3 : bAt l 0 / 16 = 14
      · rw [if_pos h3]
        by_cases g : goesOn l 1 ∧ goesOn l 2
        · rw [if_pos ⟨h3, g⟩] at e
          have hv := valid_nat (r3 l)
          have hb : r3 l < 65536 := by unfold r3; omega
          by_cases hk : 2048 ≤ r3 l ∧ Utf8.valid (r3 l) = true
          · have hk2 := hv.1 hk.2
            rw [if_pos hk] at e
            rw [if_pos ⟨g.1, g.2, hk.1, by omega, by omega⟩]
            by_cases hf : r3 l = 65533
            · have hq : 2 < l.length ∧ bAt l 0 = 239 ∧ bAt l 1 = 191 ∧ bAt l 2 = 189 := by
                have k1 := g.1.2
                have k2 := g.2.2
                unfold r3 at hf
                exact ⟨g.2.1, by omega, by omega, by omega⟩
              rw [yes _ _ e (.inr hq)]; rfl
            · rw [yes _ _ e (.inl hf)]; rfl
          · have hn : ¬ runeOk 2048 (r3 l) := fun h => hk ⟨h.1, hv.2 (by have := h.2; omega)⟩
            have hp : ¬ (2 < l.length ∧ bAt l 0 = 239 ∧ bAt l 1 = 191 ∧ bAt l 2 = 189) := by
              rintro ⟨_, a, b, c⟩
              have : r3 l = 65533 := by unfold r3; rw [a, b, c]
              exact hn (by rw [this]; decide)
            rw [if_neg hk] at e
            rw [no _ e hp, if_neg (fun h => hn h.2.2)]; rfl
        · have hp : ¬ (2 < l.length ∧ bAt l 0 = 239 ∧ bAt l 1 = 191 ∧ bAt l 2 = 189) := by
            rintro ⟨a, _, b, c⟩
            exact g ⟨⟨by omega, by rw [b]⟩, ⟨a, by rw [c]⟩⟩
          rw [if_neg (fun h => g h.2), if_neg (by omega)] at e
          rw [no _ e hp, if_neg (fun h => g ⟨h.1, h.2.1⟩)]; rfl
      · rw [if_neg (fun h => h3 h.1)] at e
        rw [if_neg h3]
        have hp : ¬ (2 < l.length ∧ bAt l 0 = 239 ∧ bAt l 1 = 191 ∧ bAt l 2 = 189) := by
          rintro ⟨_, a, _⟩
          rw [a] at h3
          exact h3 rfl
        by_cases h4 : bAt l 0 / 8 = 30
        · rw [if_pos h4]
          by_cases g : goesOn l 1 ∧ goesOn l 2 ∧ goesOn l 3
          · rw [if_pos ⟨h4, g⟩] at e
            have hv := valid_nat (r4 l)
            by_cases hk : 65536 ≤ r4 l ∧ Utf8.valid (r4 l) = true
            · have hk2 := hv.1 hk.2
              rw [if_pos hk] at e
              rw [yes _ _ e (.inl (by omega)), if_pos ⟨g.1, g.2.1, g.2.2, hk.1, by omega, by omega⟩]; rfl
            · have hn : ¬ runeOk 65536 (r4 l) := fun h => hk ⟨h.1, hv.2 (by have := h.2; omega)⟩
              rw [if_neg hk] at e
              rw [no _ e hp, if_neg (fun h => hn h.2.2.2)]; rfl
          · rw [if_neg (fun h => g h.2)] at e
            rw [no _ e hp, if_neg (fun h => g ⟨h.1, h.2.1, h.2.2.1⟩)]; rfl
        · rw [if_neg (fun h => h4 h.1)] at e
          rw [no _ e hp, if_neg h4]; rfl
end Go.Proofs.YtkdhomiieenfnaaGreatDoor.Txt

namespace Go.Proofs.YtkdhomiieenfnaaGreatDoor.U
open Go Go.Proofs.YtkdhomiieenfnaaGreatDoor.Txt
set_option linter.unusedVariables false
set_option linter.unusedSimpArgs false

/-- Where the form ends: behind the first mark that no \ stands ahead of (k: is this byte gone over unseen?); 0: nowhere. -/
def endT : Bool → List UInt8 → Nat → Nat
  | _, [], _ => 0
  | true, _ :: t, i => endT false t (i + 1)
  | false, c :: t, i => if c = 34 then i + 1 else if c = 92 then endT true t (i + 1) else endT false t (i + 1)
def endL : List UInt8 → Nat
  | [] => 0
  | c :: t => if c = 34 then endT false t 1 else 0
theorem endT_le : ∀ (k : Bool) (l : List UInt8) (i : Nat), endT k l i ≤ i + l.length
  | k, [], i => by cases k <;> simp [endT]
  | true, c :: t, i => by have := endT_le false t (i + 1); simp only [endT, List.length_cons]; omega
  | false, c :: t, i => by
    have h1 := endT_le false t (i + 1)
    have h2 := endT_le true t (i + 1)
    simp only [endT, List.length_cons]
    split
    · omega
    · split <;> omega
theorem endL_le : ∀ l : List UInt8, endL l ≤ l.length
  | [] => Nat.le_refl _
  | c :: t => by
    have h := endT_le false t 1
    show (if c = 34 then endT false t 1 else 0) ≤ (c :: t).length
    simp only [List.length_cons]
    split <;> omega
/-- The number of a digit, a small or a capital letter. -/
def hexV (c : UInt8) : Option Nat :=
  if 48 ≤ c.toNat ∧ c.toNat ≤ 57 then some (c.toNat - 48) else if 97 ≤ c.toNat ∧ c.toNat ≤ 102 then some (c.toNat - 87) else if 65 ≤ c.toNat ∧ c.toNat ≤ 70 then some (c.toNat - 55) else none
/-- The number of digits, behind one that is known. -/
def parseF : Nat → List UInt8 → Option Nat
  | a, [] => some a
  | a, c :: t => match hexV c with | none => none | some d => parseF (a * 16 + d) t
def parseH (l : List UInt8) : Option Nat := parseF 0 l
/-- Where a byte stands first. -/
def idxL (c : UInt8) : List UInt8 → Option Nat
  | [] => none
  | x :: t => if x = c then some 0 else (idxL c t).map (· + 1)
/-- What stands behind a \: its bytes, and how many it took; 0: nothing. -/
def escL (l : List UInt8) : List UInt8 × Nat :=
  match l with
  | [] => ([], 0)
  | h :: t =>
    if h = 34 ∨ h = 92 then ([h], 1)
    else if h = 110 then ([10], 1)
    else if h = 116 then ([9], 1)
    else if h = 120 then (if l.length < 3 then ([], 0) else match parseH (t.take 2) with | none => ([], 0) | some n => ([UInt8.ofNat n], 3))
    else if h = 117 then
      match idxL 125 l with
      | none => ([], 0)
      | some e => if e < 3 ∨ 8 < e ∨ l.getD 1 0 ≠ 123 then ([], 0) else
        match parseH ((l.take e).drop 2) with
        | none => ([], 0)
        | some n => if 1114111 < n then ([], 0) else (encB n, e + 1)
    else ([], 0)
theorem escL_le (l : List UInt8) : (escL l).2 ≤ l.length := by
  have hidx : ∀ (l : List UInt8) e, idxL 125 l = some e → e < l.length := by
    intro l
    induction l with
    | nil => intro e h; cases h
    | cons x t ih =>
      intro e h
      unfold idxL at h
      split at h
      · cases h; simp
      · cases hi : idxL 125 t with
        | none => rw [hi] at h; cases h
        | some k => rw [hi] at h; cases h; have := ih k hi; simp; omega
  unfold escL
  split
  · simp
  · rename_i h t
    repeat' split
    all_goals simp_all
    all_goals (have := hidx _ _ ‹_›; simp at this; omega)
/-- The bytes that the pieces of a form mean. -/
def bodyF : Nat → List UInt8 → Option (List UInt8)
  | 0, _ => some []
  | _ + 1, [] => some []
  | f + 1, c :: t => if c ≠ 92 then (bodyF f t).map (c :: ·) else if (escL t).2 = 0 then none else (bodyF f (t.drop (escL t).2)).map ((escL t).1 ++ ·)
def bodyL (l : List UInt8) : Option (List UInt8) := bodyF l.length l
/-- Unquote: the bytes and how many it took. -/
def unqL (l : List UInt8) : Option (List UInt8 × Nat) :=
  if endL l = 0 then none else
    match bodyL ((l.take (endL l - 1)).drop 1) with
    | none => none
    | some x => if quoteL x = l.take (endL l) then some (x, endL l) else none

/-! ### Digits read back -/
theorem dig_val (n : Nat) (h : n < 16) : (dig n).toNat = if n < 10 then 48 + n else 87 + n := by
  unfold dig
  split <;> simp <;> omega
theorem hexV_dig (n : Nat) (h : n < 16) : hexV (dig n) = some n := by
  unfold hexV
  rw [dig_val n h]
  by_cases h1 : n < 10
  · rw [if_pos h1, if_pos (by omega)]; congr 1; omega
  · rw [if_neg h1, if_neg (by omega), if_pos (by omega)]; congr 1; omega
theorem parseF_append : ∀ (a b : List UInt8) (n : Nat), parseF n (a ++ b) = (parseF n a).bind fun m => parseF m b
  | [], b, n => rfl
  | c :: t, b, n => by
    simp only [List.cons_append, parseF]
    cases hexV c with
    | none => rfl
    | some d => exact parseF_append t b _
theorem parse_hex (n : Nat) : parseH (hexL n) = some n := by
  induction n using Nat.strongRecOn with
  | ind n ih =>
    rw [hexL]
    split
    · rename_i h
      simp [parseH, parseF, hexV_dig n h]
    · rename_i h
      have := ih (n / 16) (by omega)
      unfold parseH at this ⊢
      rw [parseF_append, this]
      simp only [Option.bind_some, parseF, hexV_dig (n % 16) (by omega)]
      congr 1; omega
theorem dig_ne (n : Nat) (h : n < 16) : dig n ≠ 125 ∧ dig n ≠ 34 ∧ dig n ≠ 92 := by
  have := dig_val n h
  refine ⟨fun e => ?_, fun e => ?_, fun e => ?_⟩
  all_goals
    rw [e] at this
    simp at this
    split at this <;> omega
theorem hexL_digs (n : Nat) : ∀ c ∈ hexL n, ∃ m, m < 16 ∧ c = dig m := by
  induction n using Nat.strongRecOn with
  | ind n ih =>
    intro c hc
    rw [hexL] at hc
    split at hc
    · rename_i h
      exact ⟨n, h, List.mem_singleton.1 hc⟩
    · rename_i h
      rcases List.mem_append.1 hc with h1 | h1
      · exact ih (n / 16) (by omega) c h1
      · exact ⟨n % 16, by omega, List.mem_singleton.1 h1⟩
theorem idxL_skip (c : UInt8) : ∀ (a b : List UInt8), (∀ x ∈ a, x ≠ c) → idxL c (a ++ c :: b) = some a.length
  | [], b, _ => by simp [idxL]
  | x :: a, b, h => by
    have := idxL_skip c a b (fun y hy => h y (by simp [hy]))
    simp [idxL, this, h x (by simp)]

/-! ### A form's pieces -/
/-- A piece of a form: how it is gone over, and what it means. -/
structure Piece (p x : List UInt8) : Prop where
  go : ∀ (t : List UInt8) (i : Nat), endT false (p ++ t) i = endT false t (i + p.length)
  mean : ∀ (t : List UInt8) (f : Nat), p.length ≤ f → bodyF f (p ++ t) = (bodyF (f - 1) t).map (x ++ ·) ∨ p = []
  pos : p ≠ []
theorem piece_char (c : UInt8) (h1 : c ≠ 34) (h2 : c ≠ 92) : Piece [c] [c] := by
  refine ⟨fun t i => by simp [endT, h1, h2], fun t f hf => .inl ?_, by simp⟩
  obtain ⟨f, rfl⟩ : ∃ g, f = g + 1 := ⟨f - 1, by simp at hf; omega⟩
  simp [bodyF, h2]
theorem endT_digits : ∀ (a t : List UInt8) (i : Nat), (∀ x ∈ a, x ≠ 34 ∧ x ≠ 92) → endT false (a ++ t) i = endT false t (i + a.length)
  | [], t, i, _ => rfl
  | x :: a, t, i, h => by
    have h1 := h x (by simp)
    simp only [List.cons_append, endT]
    rw [if_neg h1.1, if_neg h1.2, endT_digits a t (i + 1) (fun y hy => h y (by simp [hy])), List.length_cons]
    congr 1; omega
/-- A piece that begins with a \. -/
theorem piece_esc (c : UInt8) (p x : List UInt8) (h : ∀ y ∈ p, y ≠ 34 ∧ y ≠ 92) (he : ∀ t, escL (c :: (p ++ t)) = (x, p.length + 1)) : Piece (92 :: c :: p) x := by
  refine ⟨fun t i => ?_, fun t f hf => .inl ?_, by simp⟩
  · have : endT false (92 :: c :: p ++ t) i = endT false (p ++ t) (i + 2) := by simp [endT]
    rw [this, endT_digits p t (i + 2) h]
    congr 1
    simp only [List.length_cons]; omega
  · obtain ⟨f, rfl⟩ : ∃ g, f = g + 1 := ⟨f - 1, by simp at hf; omega⟩
    rw [List.cons_append, bodyF, if_neg (by simp), List.cons_append, he t]
    simp
theorem piece_x (b : UInt8) : Piece (qX b) [b] := by
  have hb := b.toNat_lt
  refine piece_esc 120 [dig (b.toNat / 16), dig (b.toNat % 16)] [b] ?_ ?_
  · intro y hy
    simp at hy
    rcases hy with rfl | rfl
    · exact (dig_ne _ (by omega)).2
    · exact (dig_ne _ (by omega)).2
  · intro t
    have hp : parseH [dig (b.toNat / 16), dig (b.toNat % 16)] = some b.toNat := by
      simp only [parseH, parseF, hexV_dig _ (show b.toNat / 16 < 16 by omega), hexV_dig _ (show b.toNat % 16 < 16 by omega)]
      congr 1; omega
    simp [escL, hp]
theorem piece_r (r : Int) (hv : Utf8.valid r = true) : Piece (qR r) (encB r) := by
  have hr := (valid_iff r).1 hv
  have one : ∀ n : Nat, n < 128 → encB (n : Int) = [UInt8.ofNat n] := fun n hn => by
    rcases encB_cases (n : Int) ((valid_iff _).2 (by omega)) with ⟨_, e⟩ | ⟨h, _⟩ | ⟨h, _⟩ | ⟨h, _⟩
    · rw [e]; simp
    all_goals omega
  unfold qR
  split
  · rename_i h; subst h
    rw [show encB 34 = [34] from one 34 (by decide)]
    exact piece_esc 34 [] [34] (by simp) (fun t => by simp [escL])
  split
  · rename_i h; subst h
    rw [show encB 92 = [92] from one 92 (by decide)]
    exact piece_esc 92 [] [92] (by simp) (fun t => by simp [escL])
  split
  · rename_i h; subst h
    rw [show encB 10 = [10] from one 10 (by decide)]
    exact piece_esc 110 [] [10] (by simp) (fun t => by simp [escL])
  split
  · rename_i h; subst h
    rw [show encB 9 = [9] from one 9 (by decide)]
    exact piece_esc 116 [] [9] (by simp) (fun t => by simp [escL])
  split
  · rename_i n1 n2 n3 n4 h
    obtain ⟨n, rfl⟩ : ∃ n : Nat, r = (n : Int) := ⟨r.toNat, by omega⟩
    rw [one n (by omega)]
    refine piece_char _ (fun e => ?_) (fun e => ?_)
    · have := congrArg UInt8.toNat e
      rw [ofNat_toNat n (by omega)] at this
      simp at this; omega
    · have := congrArg UInt8.toNat e
      rw [ofNat_toNat n (by omega)] at this
      simp at this; omega
  · have hl := hexL_le r.toNat (by omega)
    have hp := hexL_pos r.toNat
    have hd := hexL_digs r.toNat
    have hne : ∀ y ∈ hexL r.toNat, y ≠ 125 ∧ y ≠ 34 ∧ y ≠ 92 := fun y hy => by
      obtain ⟨m, h1, rfl⟩ := hd y hy
      exact dig_ne m h1
    rw [show [92, 117, 123] ++ hexL r.toNat ++ [125] = 92 :: 117 :: ([123] ++ hexL r.toNat ++ [125]) by simp]
    refine piece_esc 117 _ (encB r) ?_ ?_
    · intro y hy
      simp at hy
      rcases hy with rfl | hy | rfl
      · decide
      · exact (hne y hy).2
      · decide
    · intro t
      have hi : idxL 125 (117 :: ([123] ++ hexL r.toNat ++ [125] ++ t)) = some (hexL r.toNat).length.succ.succ := by
        have := idxL_skip 125 (117 :: 123 :: hexL r.toNat) t (by
          intro x hx
          rcases List.mem_cons.1 hx with rfl | hx
          · decide
          rcases List.mem_cons.1 hx with rfl | hx
          · decide
          · exact (hne x hx).1)
        simpa using this
      have ht : ((117 :: ([123] ++ hexL r.toNat ++ [125] ++ t)).take (hexL r.toNat).length.succ.succ).drop 2 = hexL r.toNat := by simp
      simp only [escL]
      rw [if_neg (by decide), if_neg (by decide), if_neg (by decide), if_neg (by decide), if_pos trivial, hi]
      simp only []
      rw [if_neg (by simp; omega), ht, parse_hex]
      simp only []
      rw [if_neg (by omega), show ((r.toNat : Nat) : Int) = r by omega]
      simp
/-- What Quote writes of l, as pieces. -/
inductive Pieces : List UInt8 → List UInt8 → Prop where
  | nil : Pieces [] []
  | cons {p x q y : List UInt8} (h : Piece p x) (t : Pieces q y) : Pieces (p ++ q) (x ++ y)
theorem seq_none_len {l : List UInt8} (hl : l ≠ []) (h : seq l = none) : (decL l).2 = 1 := by
  have hf := decL_form l
  have hs := seq_ref l hl
  rw [h] at hs
  have hs : seqR l = none := by cases h2 : seqR l with | none => rfl | some n => rw [h2] at hs; cases hs
  unfold seqR at hs
  rw [hf]
  by_cases h0 : bAt l 0 < 128
  · rw [if_pos h0] at hs; cases hs
  rw [if_neg h0] at hs ⊢
  by_cases h2 : bAt l 0 / 32 = 6
  · rw [if_pos h2] at hs
    by_cases g : goesOn l 1 ∧ runeOk 128 (r2 l)
    · rw [if_pos g] at hs; cases hs
    · by_cases g1 : goesOn l 1
      · have hr : r2 l < 2048 := by unfold r2; have := bAt_lt l 0; omega
        rw [if_pos ⟨h2, g1⟩, if_neg (fun h => g ⟨g1, h, by omega, by omega⟩)]
      · rw [if_neg (fun h => g1 h.2), if_neg (by omega), if_neg (by omega)]
  rw [if_neg h2] at hs
  rw [if_neg (fun h => h2 h.1)]
  by_cases h3 : bAt l 0 / 16 = 14
  · rw [if_pos h3] at hs
    by_cases g : goesOn l 1 ∧ goesOn l 2
    · rw [if_pos ⟨h3, g⟩]
      by_cases hk : runeOk 2048 (r3 l)
      · rw [if_pos ⟨g.1, g.2, hk⟩] at hs; cases hs
      · rw [if_neg (fun h => hk ⟨h.1, by have := (valid_nat _).1 h.2; omega, by have := (valid_nat _).1 h.2; omega⟩)]
    · rw [if_neg (fun h => g h.2), if_neg (by omega)]
  rw [if_neg h3] at hs
  rw [if_neg (fun h => h3 h.1)]
  by_cases h4 : bAt l 0 / 8 = 30
  · rw [if_pos h4] at hs
    by_cases g : goesOn l 1 ∧ goesOn l 2 ∧ goesOn l 3
    · rw [if_pos ⟨h4, g⟩]
      by_cases hk : runeOk 65536 (r4 l)
      · rw [if_pos ⟨g.1, g.2.1, g.2.2, hk⟩] at hs; cases hs
      · rw [if_neg (fun h => hk ⟨h.1, by have := (valid_nat _).1 h.2; omega, by have := (valid_nat _).1 h.2; omega⟩)]
    · rw [if_neg (fun h => g h.2)]
  · rw [if_neg (fun h => h4 h.1)]
theorem pieces_q : ∀ (f : Nat) (l : List UInt8), l.length ≤ f → Pieces (qS f l) l
  | 0, l, h => by
    obtain rfl : l = [] := List.length_eq_zero_iff.1 (by omega)
    exact .nil
  | f + 1, l, h => by
    by_cases hl : l = []
    · subst hl; exact .nil
    · cases hs : seq l with
      | none =>
        rw [qS_none (by omega) hl hs, seq_none_len hl hs]
        obtain ⟨b, t, rfl⟩ : ∃ b t, l = b :: t := by cases l with | nil => exact absurd rfl hl | cons b t => exact ⟨b, t, rfl⟩
        exact Pieces.cons (x := [b]) (piece_x b) (pieces_q f t (by simp at h; omega))
      | some r =>
        obtain ⟨hv, t, rfl⟩ := seq_some hl hs
        rw [qS_some (by omega) hl hs, List.drop_left]
        have := (encB_len r).1
        exact Pieces.cons (piece_r r hv) (pieces_q f t (by rw [List.length_append] at h; omega))
theorem Pieces.go {p x : List UInt8} (h : Pieces p x) : ∀ (t : List UInt8) (i : Nat), endT false (p ++ t) i = endT false t (i + p.length) := by
  induction h with
  | nil => intro t i; rfl
  | cons h _ ih => intro t i; rw [List.append_assoc, h.go, ih, List.length_append]; congr 1; omega
theorem bodyF_fuel : ∀ (f g : Nat) (l : List UInt8), l.length ≤ f → l.length ≤ g → bodyF f l = bodyF g l
  | 0, g, l, h, _ => by
    obtain rfl : l = [] := List.length_eq_zero_iff.1 (by omega)
    cases g <;> rfl
  | f + 1, 0, l, _, h => by
    obtain rfl : l = [] := List.length_eq_zero_iff.1 (by omega)
    rfl
  | f + 1, g + 1, [], _, _ => rfl
  | f + 1, g + 1, c :: t, h, h' => by
    simp only [List.length_cons] at h h'
    simp only [bodyF]
    rw [bodyF_fuel f g t (by omega) (by omega), bodyF_fuel f g (t.drop (escL t).2) (by rw [List.length_drop]; omega) (by rw [List.length_drop]; omega)]
theorem Pieces.mean {p x : List UInt8} (h : Pieces p x) : ∀ (f : Nat), p.length ≤ f → bodyF f p = some x := by
  induction h with
  | nil => intro f hf; cases f <;> rfl
  | @cons p x q y h t ih =>
    intro f hf
    rw [List.length_append] at hf
    rcases h.mean q f (by omega) with e | e
    · rw [e]
      have hp : 0 < p.length := List.length_pos_iff.2 h.pos
      rw [ih (f - 1) (by omega)]
      rfl
    · exact absurd e h.pos
theorem quoteL_len (x : List UInt8) : (quoteL x).length = (qS x.length x).length + 2 := by simp [quoteL]
theorem unq_quote (x t : List UInt8) : unqL (quoteL x ++ t) = some (x, (quoteL x).length) := by
  have hp := pieces_q x.length x (Nat.le_refl _)
  have he : endL (quoteL x ++ t) = (quoteL x).length := by
    rw [quoteL_len]
    unfold quoteL
    rw [List.cons_append, List.append_assoc]
    show (if (34 : UInt8) = 34 then endT false (qS x.length x ++ ([34] ++ t)) 1 else 0) = _
    rw [if_pos rfl, hp.go]
    show (if (34 : UInt8) = 34 then 1 + (qS x.length x).length + 1 else _) = _
    rw [if_pos rfl]
    omega
  unfold unqL
  rw [he, if_neg (by rw [quoteL_len]; omega)]
  have hb : (((quoteL x ++ t).take ((quoteL x).length - 1)).drop 1) = qS x.length x := by
    rw [quoteL_len, List.take_append_of_le_length (by rw [quoteL_len]; omega)]
    unfold quoteL
    rw [show (qS x.length x).length + 2 - 1 = (qS x.length x).length + 1 by omega, List.take_succ_cons, List.take_left, List.drop_succ_cons, List.drop_zero]
  rw [hb]
  unfold bodyL
  rw [hp.mean _ (Nat.le_refl _)]
  simp only []
  rw [if_pos (by rw [List.take_left])]
theorem unq_sound {l x : List UInt8} {n : Nat} (h : unqL l = some (x, n)) : ∃ t, l = quoteL x ++ t ∧ n = (quoteL x).length := by
  unfold unqL at h
  split at h
  · cases h
  · split at h
    · cases h
    · split at h
      · rename_i hq
        obtain ⟨rfl, rfl⟩ := Prod.mk.inj (Option.some.inj h)
        refine ⟨l.drop (endL l), by rw [hq, List.take_append_drop], ?_⟩
        have hle := endL_le l
        rw [hq, List.length_take]
        omega
      · cases h
theorem quote_uniq {x y t u : List UInt8} (h : quoteL x ++ t = quoteL y ++ u) : x = y ∧ t = u := by
  have h1 := unq_quote x t
  rw [h, unq_quote y u] at h1
  obtain ⟨rfl, _⟩ := Prod.mk.inj (Option.some.inj h1)
  exact ⟨rfl, List.append_cancel_left h⟩
theorem unq_none {l : List UInt8} (h : unqL l = none) : ∀ x t, l ≠ quoteL x ++ t := fun x t e => by
  rw [e, unq_quote] at h; cases h
theorem unq_none' {l : List UInt8} (h : ∀ x t, l ≠ quoteL x ++ t) : unqL l = none := by
  cases hu : unqL l with
  | none => rfl
  | some p => obtain ⟨x, n⟩ := p; obtain ⟨t, e, _⟩ := unq_sound hu; exact absurd e (h x t)
end Go.Proofs.YtkdhomiieenfnaaGreatDoor.U
