/- The rows of a text on a page, in plain Lean: what Lay computes, and that its rows are the text, full, and none too wide. -/
import Derived.KernelRfl
namespace Go.Proofs.YtkidcleffllhbaaDoor.Pg
set_option linter.unusedVariables false
set_option linter.unusedSimpArgs false

def inT (t : List (Int × Int)) (r : Int) : Bool := t.any fun p => decide (p.1 ≤ r) && decide (r ≤ p.2)
def noneT : List (Int × Int) := [(0x300, 0x36f), (0x200b, 0x200d), (0xfe00, 0xfe0f)]
def wideT : List (Int × Int) := [(0x1100, 0x115f), (0x2e80, 0x303e), (0x3041, 0xa4cf), (0xac00, 0xd7a3), (0xf900, 0xfaff), (0xfe30, 0xfe6f), (0xff00, 0xff60), (0xffe0, 0xffe6), (0x1f300, 0x1faff), (0x20000, 0x3fffd)]
/-- How many columns a rune fills that begins at column n. -/
def colR (r : Int) (n : Int) : Int := if r = 9 then 4 - n % 4 else if r = 10 ∨ inT noneT r = true then 0 else if inT wideT r = true then 2 else 1
theorem colR_nonneg (r n : Int) : 0 ≤ colR r n := by unfold colR; split <;> (try split) <;> (try split) <;> omega
theorem colR_le (r n : Int) : colR r n ≤ 4 := by unfold colR; split <;> (try split) <;> (try split) <;> omega
def colsF : List Int → Int → Int
  | [], n => n
  | r :: rs, n => colsF rs (n + colR r n)
theorem colsF_ge : ∀ (rs : List Int) (n : Int), n ≤ colsF rs n
  | [], n => Int.le_refl n
  | r :: rs, n => by have := colsF_ge rs (n + colR r n); have := colR_nonneg r n; simp only [colsF]; omega
theorem colsF_append : ∀ (a b : List Int) (n : Int), colsF (a ++ b) n = colsF b (colsF a n)
  | [], b, n => rfl
  | r :: a, b, n => by simp only [List.cons_append, colsF]; exact colsF_append a b _
theorem colsF_le : ∀ (rs : List Int) (n : Int), colsF rs n ≤ n + 4 * rs.length
  | [], n => by simp [colsF]
  | r :: rs, n => by have := colsF_le rs (n + colR r n); have := colR_le r n; simp only [colsF, List.length_cons]; omega
/-- The runes from lo to hi. -/
def cut (rs : List Int) (lo hi : Nat) : List Int := (rs.drop lo).take (hi - lo)
def wid (rs : List Int) (lo hi : Nat) : Int := colsF (cut rs lo hi) 0
theorem cut_self (rs : List Int) (lo : Nat) : cut rs lo lo = [] := by simp [cut]
theorem cut_split (rs : List Int) {lo k hi : Nat} (h1 : lo ≤ k) (h2 : k ≤ hi) : cut rs lo hi = cut rs lo k ++ cut rs k hi := by
  unfold cut
  rw [show hi - lo = (k - lo) + (hi - k) by omega, List.take_add, List.drop_drop, show lo + (k - lo) = k by omega]
theorem cut_one (rs : List Int) {k : Nat} (h : k < rs.length) : cut rs k (k + 1) = [rs.getD k 0] := by
  unfold cut
  rw [List.drop_eq_getElem_cons h, show k + 1 - k = 1 by omega, List.take_succ_cons, List.take_zero]
  simp [List.getD, List.getElem?_eq_getElem h]
theorem wid_self (rs : List Int) (lo : Nat) : wid rs lo lo = 0 := by simp [wid, cut_self, colsF]
theorem wid_succ (rs : List Int) {lo k : Nat} (h1 : lo ≤ k) (h : k < rs.length) : wid rs lo (k + 1) = wid rs lo k + colR (rs.getD k 0) (wid rs lo k) := by
  unfold wid
  rw [cut_split rs h1 (Nat.le_succ k), colsF_append, cut_one rs h]
  rfl
theorem wid_mono (rs : List Int) {lo k hi : Nat} (h1 : lo ≤ k) (h2 : k ≤ hi) : wid rs lo k ≤ wid rs lo hi := by
  unfold wid
  rw [cut_split rs h1 h2, colsF_append]
  exact colsF_ge _ _
theorem wid_nonneg (rs : List Int) (lo hi : Nat) : 0 ≤ wid rs lo hi := colsF_ge _ _

def isB (r : Int) : Bool := decide (r = 32) || decide (r = 9)
/-- The runes of a row that begins at lo are gone over: the place, the last blank, the columns. -/
def scan (w : Int) (rs : List Int) (lo e : Nat) : Nat → Nat → Option Nat → Int → Nat × Option Nat × Int
  | 0, k, b, n => (k, b, n)
  | f + 1, k, b, n =>
    if k < e then
      if w < n + colR (rs.getD k 0) n ∧ lo < k then (k, b, n)
      else if w < n + colR (rs.getD k 0) n then (k + 1, if isB (rs.getD k 0) then some k else b, n + colR (rs.getD k 0) n)
      else scan w rs lo e f (k + 1) (if isB (rs.getD k 0) then some k else b) (n + colR (rs.getD k 0) n)
    else (k, b, n)
/-- What is known behind k runes. -/
structure Scanned (w : Int) (rs : List Int) (lo e k : Nat) (b : Option Nat) (n : Int) : Prop where
  ge : lo ≤ k
  le : k ≤ e
  cols : n = wid rs lo k
  last : ∀ q, b = some q → lo ≤ q ∧ q < k ∧ isB (rs.getD q 0) = true ∧ ∀ j, q < j → j < k → isB (rs.getD j 0) = false
  no : b = none → ∀ j, lo ≤ j → j < k → isB (rs.getD j 0) = false
theorem Scanned.start (w : Int) (rs : List Int) {lo e : Nat} (h : lo ≤ e) : Scanned w rs lo e lo none 0 :=
  ⟨Nat.le_refl _, h, (wid_self rs lo).symm, fun q h => (by cases h), fun _ j h1 h2 => (by omega)⟩
theorem Scanned.next {w : Int} {rs : List Int} {lo e k : Nat} {b : Option Nat} {n : Int} (h : Scanned w rs lo e k b n) (hk : k < e) (he : e ≤ rs.length) : Scanned w rs lo e (k + 1) (if isB (rs.getD k 0) then some k else b) (n + colR (rs.getD k 0) n) := by
  refine ⟨Nat.le_succ_of_le h.ge, hk, by rw [wid_succ rs h.ge (by omega), ← h.cols], fun q hq => ?_, fun hq j h1 h2 => ?_⟩
  · split at hq
    · rename_i hb
      cases hq
      exact ⟨h.ge, Nat.lt_succ_self _, hb, fun j h1 h2 => by omega⟩
    · rename_i hb
      obtain ⟨a1, a2, a3, a4⟩ := h.last q hq
      refine ⟨a1, by omega, a3, fun j h1 h2 => ?_⟩
      rcases Nat.lt_or_ge j k with h3 | h3
      · exact a4 j h1 h3
      · obtain rfl : j = k := by omega
        simpa using hb
  · split at hq
    · cases hq
    · rename_i hb
      rcases Nat.lt_or_ge j k with h3 | h3
      · exact h.no hq j h1 h3
      · obtain rfl : j = k := by omega
        simpa using hb
/-- Where the row's runes end: at the line's end, or where no more fit. -/
structure Stopped (w : Int) (rs : List Int) (lo e k : Nat) (b : Option Nat) (n : Int) : Prop extends Scanned w rs lo e k b n where
  fits : n ≤ w ∨ k = lo + 1
  more : k < e → lo < k ∧ (w < n ∨ w < n + colR (rs.getD k 0) n)
theorem scan_ok (w : Int) (rs : List Int) (lo e : Nat) (hw : 1 ≤ w) (he : e ≤ rs.length) : ∀ (f k : Nat) (b : Option Nat) (n : Int), e - k ≤ f → Scanned w rs lo e k b n → n ≤ w → Stopped w rs lo e (scan w rs lo e f k b n).1 (scan w rs lo e f k b n).2.1 (scan w rs lo e f k b n).2.2
  | 0, k, b, n, hf, hs, hn => ⟨hs, .inl hn, fun h => by have h : k < e := h; omega⟩
  | f + 1, k, b, n, hf, hs, hn => by
    unfold scan
    by_cases hk : k < e
    · rw [if_pos hk]
      by_cases h1 : w < n + colR (rs.getD k 0) n ∧ lo < k
      · rw [if_pos h1]
        exact ⟨hs, .inl hn, fun _ => ⟨h1.2, .inr h1.1⟩⟩
      · rw [if_neg h1]
        have hx := hs.next hk he
        by_cases h2 : w < n + colR (rs.getD k 0) n
        · rw [if_pos h2]
          have h3 : k = lo := by have := hs.ge; omega
          exact ⟨hx, .inr (by simp [h3]), fun _ => ⟨by simp only; omega, .inl h2⟩⟩
        · rw [if_neg h2]
          exact scan_ok w rs lo e hw he f (k + 1) _ _ (by omega) hx (by omega)
    · rw [if_neg hk]
      exact ⟨hs, .inl hn, fun h => absurd h hk⟩

structure Row where
  lo : Nat
  hi : Nat
  cols : Int
  hard : Bool
/-- Where a row ends whose runes end at k, its last blank being b. -/
def rowHi (e k : Nat) : Option Nat → Nat
  | some q => if k = e then e else q + 1
  | none => if k = e then e else k
/-- The first row of a line from lo to e. -/
def rowOf (w : Int) (rs : List Int) (lo e : Nat) : Row :=
  let s := scan w rs lo e (e - lo) lo none 0
  let hi := rowHi e s.1 s.2.1
  ⟨lo, hi, wid rs lo hi, decide (s.1 = e)⟩
/-- Behind the next blank of the line, or its end. -/
def ext (rs : List Int) : Nat → Nat → Nat
  | 0, k => k
  | f + 1, k => if k < rs.length ∧ rs.getD k 0 ≠ 10 then (if isB (rs.getD k 0) then k + 1 else ext rs f (k + 1)) else k
theorem ext_ge (rs : List Int) : ∀ (f k m : Nat), m - k ≤ f → k ≤ m → m ≤ rs.length → (∀ j, k ≤ j → j < m → rs.getD j 0 ≠ 10) → (∀ j, k ≤ j → j + 1 < m → isB (rs.getD j 0) = false) → m ≤ ext rs f k
  | 0, k, m, hf, hk, _, _, _ => by unfold ext; omega
  | f + 1, k, m, hf, hk, hm, h1, h2 => by
    unfold ext
    rcases Nat.eq_or_lt_of_le hk with rfl | hlt
    · split
      · split
        · omega
        · exact Nat.le_trans (Nat.le_succ k) (ext_ge rs f (k + 1) (k + 1) (by omega) (Nat.le_refl _) (by omega) (fun j a b => by omega) (fun j a b => by omega))
      · exact Nat.le_refl _
    · rw [if_pos ⟨by omega, h1 k (Nat.le_refl _) hlt⟩]
      split
      · rename_i hb
        rcases Nat.lt_or_ge (k + 1) m with h3 | h3
        · rw [h2 k (Nat.le_refl _) h3] at hb; cases hb
        · exact h3
      · exact ext_ge rs f (k + 1) m (by omega) hlt hm (fun j a b => h1 j (by omega) b) (fun j a b => h2 j (by omega) b)
/-- A row as it should be. -/
structure RowOk (w : Int) (rs : List Int) (x : Row) : Prop where
  le : x.lo ≤ x.hi
  len : x.hi ≤ rs.length
  cols : x.cols = wid rs x.lo x.hi
  fits : x.cols ≤ w ∨ x.hi = x.lo + 1
  noNl : ∀ q, x.lo ≤ q → q < x.hi → rs.getD q 0 ≠ 10
/-- A soft row as it should be. -/
structure SoftOk (w : Int) (rs : List Int) (x : Row) : Prop where
  lt : x.lo < x.hi
  len : x.hi < rs.length
  nl : rs.getD x.hi 0 ≠ 10
  blank : (∃ q, x.lo ≤ q ∧ q < x.hi ∧ isB (rs.getD q 0) = true) → isB (rs.getD (x.hi - 1) 0) = true
  full : w < wid rs x.lo (ext rs rs.length x.hi)
theorem rowOf_ok (w : Int) (rs : List Int) (lo e : Nat) (hw : 1 ≤ w) (hl : lo ≤ e) (he : e ≤ rs.length) (hn : ∀ q, lo ≤ q → q < e → rs.getD q 0 ≠ 10) :
    RowOk w rs (rowOf w rs lo e) ∧ ((rowOf w rs lo e).hard = true ∧ (rowOf w rs lo e).hi = e ∨ (rowOf w rs lo e).hard = false ∧ (rowOf w rs lo e).hi < e ∧ SoftOk w rs (rowOf w rs lo e)) := by
  have hs := scan_ok w rs lo e hw he (e - lo) lo none 0 (Nat.le_refl _) (Scanned.start w rs hl) (by omega)
  unfold rowOf
  generalize scan w rs lo e (e - lo) lo none 0 = s at hs
  obtain ⟨k, b, n⟩ := s
  simp only at hs ⊢
  by_cases hk : k = e
  · subst hk
    have e0 : rowHi k k b = k := by cases b <;> simp [rowHi]
    refine ⟨⟨?_, ?_, rfl, ?_, ?_⟩, .inl ⟨by simp, e0⟩⟩
    · show lo ≤ rowHi k k b; rw [e0]; exact hl
    · show rowHi k k b ≤ rs.length; rw [e0]; exact he
    · show wid rs lo (rowHi k k b) ≤ w ∨ rowHi k k b = lo + 1
      rw [e0, ← hs.cols]
      exact hs.fits
    · show ∀ q, lo ≤ q → q < rowHi k k b → rs.getD q 0 ≠ 10
      rw [e0]; exact hn
  · have hke : k < e := by have := hs.le; omega
    obtain ⟨hlk, hm⟩ := hs.more hke
    have hlen : k < rs.length := by omega
    have hH : ∃ hi, rowHi e k b = hi ∧ lo < hi ∧ hi ≤ k ∧ (∀ j, hi ≤ j → j < k → isB (rs.getD j 0) = false) ∧ ((∃ q, lo ≤ q ∧ q < hi ∧ isB (rs.getD q 0) = true) → isB (rs.getD (hi - 1) 0) = true) := by
      cases b with
      | none => exact ⟨k, by simp [rowHi, hk], hlk, Nat.le_refl _, fun j a c => by omega, fun ⟨q, a, c, d⟩ => by rw [hs.no rfl q a c] at d; cases d⟩
      | some q =>
        obtain ⟨a1, a2, a3, a4⟩ := hs.last q rfl
        exact ⟨q + 1, by simp [rowHi, hk], by omega, a2, fun j a c => a4 j a c, fun _ => a3⟩
    obtain ⟨hi, hhi, h1, h2, h3, h4⟩ := hH
    rw [hhi]
    have hmono := wid_mono rs (Nat.le_of_lt h1) h2
    have hc := hs.cols
    refine ⟨⟨Nat.le_of_lt h1, ?_, rfl, ?_, fun q a c => hn q a (Nat.lt_of_lt_of_le (show q < hi from c) (by omega))⟩, .inr ⟨by simp [hk], by omega, h1, ?_, hn hi (by omega) (by omega), h4, ?_⟩⟩
    · show hi ≤ rs.length; omega
    · show wid rs lo hi ≤ w ∨ hi = lo + 1
      rcases hs.fits with hf | hf
      · exact .inl (by omega)
      · exact .inr (by omega)
    · show hi < rs.length; omega
    · show w < wid rs lo (ext rs rs.length hi)
      have hx : k + 1 ≤ ext rs rs.length hi := ext_ge rs rs.length hi (k + 1) (by omega) (by omega) (by omega) (fun j a c => hn j (by omega) (by omega)) (fun j a c => h3 j a (by omega))
      have h5 := wid_mono rs (lo := lo) (k := k + 1) (by omega) hx
      rw [wid_succ rs (Nat.le_of_lt hlk) hlen, ← hc] at h5
      have := colR_nonneg (rs.getD k 0) n
      omega
/-- The rows of a line. -/
def lineRows (w : Int) (rs : List Int) (e : Nat) : Nat → Nat → List Row
  | 0, lo => [rowOf w rs lo e]
  | f + 1, lo => rowOf w rs lo e :: (if (rowOf w rs lo e).hard then [] else lineRows w rs e f (rowOf w rs lo e).hi)
/-- The rows of what begins at lo and is gone over up to i. -/
def rowsFrom (w : Int) (rs : List Int) : Nat → Nat → Nat → List Row
  | 0, lo, i => lineRows w rs rs.length (rs.length - lo) lo
  | f + 1, lo, i => if rs.getD i 0 = 10 then lineRows w rs i (i - lo) lo ++ rowsFrom w rs f (i + 1) (i + 1) else rowsFrom w rs f lo (i + 1)
def pageRows (w : Int) (rs : List Int) : List Row := rowsFrom w rs rs.length 0 0
/-- Rows one behind the other, from a place to the text's end. -/
inductive Chain (w : Int) (rs : List Int) : Nat → List Row → Prop where
  | last (x : Row) (h : RowOk w rs x) (hh : x.hard = true) (he : x.hi = rs.length) : Chain w rs x.lo [x]
  | hard (x : Row) (l : List Row) (h : RowOk w rs x) (hh : x.hard = true) (hlt : x.hi < rs.length) (hn : rs.getD x.hi 0 = 10) (hc : Chain w rs (x.hi + 1) l) : Chain w rs x.lo (x :: l)
  | soft (x : Row) (l : List Row) (h : RowOk w rs x) (hh : x.hard = false) (hs : SoftOk w rs x) (hc : Chain w rs x.hi l) : Chain w rs x.lo (x :: l)
theorem rowOf_lo (w : Int) (rs : List Int) (lo e : Nat) : (rowOf w rs lo e).lo = lo := rfl
theorem line_chain (w : Int) (rs : List Int) (e : Nat) (hw : 1 ≤ w) (he : e ≤ rs.length) (l : List Row) (hl : e < rs.length ∧ rs.getD e 0 = 10 ∧ Chain w rs (e + 1) l ∨ e = rs.length ∧ l = []) : ∀ (f lo : Nat), e - lo ≤ f → lo ≤ e → (∀ q, lo ≤ q → q < e → rs.getD q 0 ≠ 10) → Chain w rs lo (lineRows w rs e f lo ++ l)
  | f, lo, hf, hle, hn => by
    obtain ⟨h1, h2⟩ := rowOf_ok w rs lo e hw hle he hn
    rcases h2 with ⟨hh, hi⟩ | ⟨hh, hi, hs⟩
    · have e1 : lineRows w rs e f lo = [rowOf w rs lo e] := by cases f <;> simp [lineRows, hh]
      rw [e1]
      rcases hl with ⟨a1, a2, a3⟩ | ⟨a1, rfl⟩
      · exact Chain.hard (rowOf w rs lo e) l h1 hh (by omega) (by rw [hi]; exact a2) (by rw [hi]; exact a3)
      · exact Chain.last (rowOf w rs lo e) h1 hh (by omega)
    · have hlt : lo < (rowOf w rs lo e).hi := hs.lt
      cases f with
      | zero => omega
      | succ f =>
        have e1 : lineRows w rs e (f + 1) lo = rowOf w rs lo e :: lineRows w rs e f (rowOf w rs lo e).hi := by simp [lineRows, hh]
        rw [e1]
        exact Chain.soft (rowOf w rs lo e) _ h1 hh hs (line_chain w rs e hw he l hl f _ (by omega) (by omega) (fun q a c => hn q (by omega) c))
theorem rows_chain (w : Int) (rs : List Int) (hw : 1 ≤ w) : ∀ (f lo i : Nat), rs.length = i + f → lo ≤ i → (∀ q, lo ≤ q → q < i → rs.getD q 0 ≠ 10) → Chain w rs lo (rowsFrom w rs f lo i)
  | 0, lo, i, hf, hl, hn => by
    have := line_chain w rs rs.length hw (Nat.le_refl _) [] (.inr ⟨rfl, rfl⟩) (rs.length - lo) lo (Nat.le_refl _) (by omega) (fun q a c => hn q a (by omega))
    simpa [rowsFrom] using this
  | f + 1, lo, i, hf, hl, hn => by
    unfold rowsFrom
    by_cases h : rs.getD i 0 = 10
    · rw [if_pos h]
      exact line_chain w rs i hw (by omega) _ (.inl ⟨by omega, h, rows_chain w rs hw f (i + 1) (i + 1) (by omega) (Nat.le_refl _) (fun q a c => by omega)⟩) (i - lo) lo (Nat.le_refl _) hl hn
    · rw [if_neg h]
      refine rows_chain w rs hw f lo (i + 1) (by omega) (by omega) (fun q a c => ?_)
      rcases Nat.lt_or_ge q i with h2 | h2
      · exact hn q a h2
      · obtain rfl : q = i := by omega
        exact h
theorem page_chain (w : Int) (rs : List Int) (hw : 1 ≤ w) : Chain w rs 0 (pageRows w rs) := rows_chain w rs hw rs.length 0 0 (by omega) (Nat.le_refl _) (fun q a c => by omega)
end Go.Proofs.YtkidcleffllhbaaDoor.Pg
