/- Where a place stands: the rows' numbers, and the sheet's row, last, find. -/
import Derived.Test.YtkidcleffllhbaaDoorPgQ
import Derived.Shelf.SlSorted.Search
import Derived.Deep.QuietTactic
namespace Go.Proofs.YtkidcleffllhbaaDoor.Pg
open Go.RowKit Go.Proofs Go.Joins Go.Proofs.YtkidcleffllhbaaDoor.U Go.Proofs.YtkidcleffllhbaaDoor.Txt Go.Sort
set_option linter.unusedVariables false
set_option linter.unusedSimpArgs false
attribute [local go_sem] frozen?_alloc_cells

/-- The last place of a row. -/
def lastOf (x : Row) : Nat := if x.hard then x.hi else x.hi - 1
theorem chain_drop {w : Int} {rs : List Int} {xs : List Row} (h : Chain w rs 0 xs) : ∀ j (hj : j < xs.length), Chain w rs xs[j].lo (xs.drop j)
  | 0, hj => by
    obtain ⟨_, h1, _⟩ := chain_get (j := 0) (by simpa using h)
    rw [h1]; simpa using h
  | j + 1, hj => by
    have ih := chain_drop h j (by omega)
    obtain ⟨_, _, _, h3⟩ := chain_get ih
    rcases h3 with ⟨a, _⟩ | ⟨_, _, _, _, hc⟩ | ⟨_, _, _, hc⟩
    · omega
    · obtain ⟨_, h4, _⟩ := chain_get hc
      rw [h4]; exact hc
    · obtain ⟨_, h4, _⟩ := chain_get hc
      rw [h4]; exact hc
/-- What is known of the row with a number. -/
structure RowAt (w : Int) (rs : List Int) (xs : List Row) (j : Nat) (hj : j < xs.length) : Prop where
  ok : RowOk w rs xs[j]
  lo_le : xs[j].lo ≤ lastOf xs[j]
  last_le : lastOf xs[j] ≤ rs.length
  next : ∀ h : j + 1 < xs.length, xs[j + 1].lo = lastOf xs[j] + 1
  fin : j + 1 = xs.length → lastOf xs[j] = rs.length
  hardHi : xs[j].hard = true → lastOf xs[j] = xs[j].hi
  softHi : xs[j].hard = false → lastOf xs[j] + 1 = xs[j].hi
theorem row_at {w : Int} {rs : List Int} {xs : List Row} (h : Chain w rs 0 xs) (j : Nat) (hj : j < xs.length) : RowAt w rs xs j hj := by
  have hd := chain_drop h j hj
  obtain ⟨_, _, hok, h3⟩ := chain_get hd
  have hle := hok.le
  have hlen := hok.len
  rcases h3 with ⟨a, b, c⟩ | ⟨a, b, c, d, e⟩ | ⟨a, b, c, d⟩
  · have hl : lastOf xs[j] = xs[j].hi := by simp [lastOf, b]
    exact ⟨hok, by omega, by omega, fun h => by omega, fun _ => by omega, fun _ => hl, fun h => by rw [b] at h; cases h⟩
  · have hl : lastOf xs[j] = xs[j].hi := by simp [lastOf, b]
    obtain ⟨_, h4, _⟩ := chain_get e
    exact ⟨hok, by omega, by omega, fun h => by rw [h4, hl], fun h => by omega, fun _ => hl, fun h => by rw [b] at h; cases h⟩
  · have hl : lastOf xs[j] = xs[j].hi - 1 := by simp [lastOf, b]
    have hs := c.lt
    obtain ⟨_, h4, _⟩ := chain_get d
    exact ⟨hok, by omega, by omega, fun h => by rw [h4, hl]; omega, fun h => by omega, fun h => by rw [b] at h; (cases h), fun _ => by omega⟩
theorem lo_zero {w : Int} {rs : List Int} {xs : List Row} (h : Chain w rs 0 xs) : ∃ h0 : 0 < xs.length, xs[0].lo = 0 := by
  obtain ⟨h0, h1, _⟩ := chain_get (j := 0) (by simpa using h)
  exact ⟨h0, h1⟩
theorem lo_mono {w : Int} {rs : List Int} {xs : List Row} (h : Chain w rs 0 xs) (i : Nat) : ∀ (d : Nat) (h1 : i + d < xs.length), (xs[i]'(by omega)).lo + d ≤ xs[i + d].lo
  | 0, h1 => Nat.le_refl _
  | d + 1, h1 => by
    have ih := lo_mono h i d (by omega)
    have hr := row_at h (i + d) (by omega)
    have h2 := hr.next (by omega)
    have h3 := hr.lo_le
    have e : xs[i + (d + 1)] = xs[i + d + 1] := rfl
    rw [e, h2]; omega
theorem lo_lt {w : Int} {rs : List Int} {xs : List Row} (h : Chain w rs 0 xs) {i j : Nat} (hij : i < j) (hj : j < xs.length) : (xs[i]'(by omega)).lo < xs[j].lo := by
  obtain ⟨d, rfl⟩ : ∃ d, j = i + d := ⟨j - i, by omega⟩
  have := lo_mono h i d hj
  omega
/-- A place stands in the row with this number. -/
def Stands (xs : List Row) (at_ k : Nat) : Prop := ∃ h : k < xs.length, xs[k].lo ≤ at_ ∧ at_ ≤ lastOf xs[k]
theorem stands_ex {w : Int} {rs : List Int} {xs : List Row} (h : Chain w rs 0 xs) (at_ : Nat) (ha : at_ ≤ rs.length) : ∃ k, Stands xs at_ k := by
  obtain ⟨h0, hz⟩ := lo_zero h
  have go : ∀ (f k : Nat) (hk : k < xs.length), xs.length - k ≤ f → xs[k].lo ≤ at_ → ∃ k, Stands xs at_ k := by
    intro f
    induction f with
    | zero => intro k hk hf; omega
    | succ f ih =>
      intro k hk hf hlo
      have hr := row_at h k hk
      rcases Nat.lt_or_ge (lastOf xs[k]) at_ with h1 | h1
      · rcases Nat.lt_or_ge (k + 1) xs.length with h2 | h2
        · exact ih (k + 1) h2 (by omega) (by rw [hr.next h2]; omega)
        · have := hr.fin (by omega); omega
      · exact ⟨k, hk, hlo, h1⟩
  exact go xs.length 0 h0 (by omega) (by omega)
theorem Stands.next {w : Int} {rs : List Int} {xs : List Row} {at_ k : Nat} (h : Stands xs at_ k) (hc : Chain w rs 0 xs) (i : Nat) (hi : i < xs.length) : at_ < xs[i].lo ↔ k < i := by
  obtain ⟨hk, h1, h2⟩ := h
  constructor
  · intro h3
    rcases Nat.lt_or_ge k i with h4 | h4
    · exact h4
    · rcases Nat.eq_or_lt_of_le h4 with rfl | h5
      · omega
      · have := lo_lt hc h5 hk; omega
  · intro h3
    have hr := row_at hc k hk
    have h4 := hr.next (by omega)
    rcases Nat.eq_or_lt_of_le (show k + 1 ≤ i from h3) with rfl | h5
    · omega
    · have := lo_lt hc h5 hi; omega
theorem Stands.uniq {w : Int} {rs : List Int} {xs : List Row} {at_ k j : Nat} (h : Stands xs at_ k) (h' : Stands xs at_ j) (hc : Chain w rs 0 xs) : k = j := by
  have a := h.next hc j h'.1
  have b := h'.next hc k h.1
  obtain ⟨_, h1, _⟩ := h
  obtain ⟨_, h2, _⟩ := h'
  omega
theorem count_lt (m : Nat) : ∀ n, m ≤ n → (List.range n).countP (fun i => decide (i < m)) = m
  | 0, h => by obtain rfl : m = 0 := by omega
               rfl
  | n + 1, h => by
    rw [List.range_succ, List.countP_append]
    rcases Nat.eq_or_lt_of_le h with rfl | h1
    · have : (List.range n).countP (fun i => decide (i < n + 1)) = n := by
        rw [List.countP_eq_length.2 (fun i hi => by have := List.mem_range.1 hi; simp; omega)]
        simp
      rw [this]; simp
    · rw [count_lt m n (by omega)]
      simp
      omega
def loOf (xs : List Row) (i : Nat) : Nat := (xs[i]?.map Row.lo).getD 0
theorem loOf_eq {xs : List Row} {i : Nat} (h : i < xs.length) : loOf xs i = xs[i].lo := by simp [loOf, List.getElem?_eq_getElem h]
def pastAt (xs : List Row) (at_ : Nat) (i : Nat) : Bool := decide (at_ < loOf xs i)
theorem past_count {w : Int} {rs : List Int} {xs : List Row} {at_ k : Nat} (h : Stands xs at_ k) (hc : Chain w rs 0 xs) : (List.range xs.length).countP (fun i => !pastAt xs at_ i) = k + 1 := by
  rw [← count_lt (k + 1) xs.length h.1]
  apply List.countP_congr
  intro i hi
  have hi := List.mem_range.1 hi
  have := h.next hc i hi
  simp only [pastAt, loOf_eq hi]
  simp
  omega
/-- Where find ends: the last place of the row whose column is at most this one. -/
structure Found (rs : List Int) (lo last : Nat) (col : Int) (a : Nat) : Prop where
  ge : lo ≤ a
  le : a ≤ last
  fits : wid rs lo a ≤ col
  full : a = last ∨ col < wid rs lo (a + 1)
theorem Found.past {rs : List Int} {lo last a b : Nat} {col : Int} (h : Found rs lo last col a) (h1 : lo ≤ b) (h2 : b ≤ last) (h3 : wid rs lo b ≤ col) : b ≤ a := by
  rcases Nat.lt_or_ge a b with h4 | h4
  · rcases h.full with h5 | h5
    · omega
    · have := wid_mono rs (lo := lo) (k := a + 1) (hi := b) (by have := h.ge; omega) h4
      omega
  · exact h4

def ren16 : Go.Shelf.Ren := ⟨fun | 16 => 66 | n => n, fun | 3 => 3 | 4 => 4 | 35 => 144 | 38 => 169 | n => n, fun | n => n⟩
theorem lays16 : Go.Proofs.SlLaysO.n16 Tryd.prog ren16 := {
  mixed := by kernel_rfl
  f16 := Tryd.func66.trans (congrArg some (by kernel_rfl))
  t3 := Tryd.underlying3
  a3 := Tryd.isAgg3
  z3 := Tryd.sizeOf3
  v3 := Tryd.zeroValue3
  t4 := Tryd.underlying4
  a4 := Tryd.isAgg4
  z4 := Tryd.sizeOf4
  v4 := Tryd.zeroValue4
  t35 := Tryd.underlying144
  a35 := Tryd.isAgg144
  z35 := Tryd.sizeOf144
  v35 := Tryd.zeroValue144
  t38 := Tryd.underlying169
  a38 := Tryd.isAgg169
  z38 := Tryd.sizeOf169
  v38 := Tryd.zeroValue169 }

set_option maxRecDepth 100000 in
set_option maxHeartbeats 4000000 in
theorem rowFn_any (bs ba P g m cap lo at_ i : Nat) (W : World) (hi : i < m)
    (hs : W.cell? ⟨bs, 0, none⟩ = some (.pointer (some ⟨P, 0, none⟩))) (ha : W.cell? ⟨ba, 0, none⟩ = some (.int .i64 at_)) (hr : W.cell? ⟨P, 3, none⟩ = some (.slice (some ⟨g, 0, none⟩) m cap)) (hc : W.cell? ⟨g, i * 4, none⟩ = some (.int .i64 lo)) :
    Calls Tryd.prog 67 (#[.int .i64 i] ++ #[.pointer (some ⟨bs, 0, none⟩), .pointer (some ⟨ba, 0, none⟩)]) W fun e w' => e = .returned (.bool (decide (at_ < lo))) ∧ ∃ q, w' = W.drewN q := by
  have hiz : (i : Int) < (m : Int) := by omega
  have hi0 : (0 : Int) ≤ (i : Int) := by omega
  go_enter Tryd.func67, Tryd.ntmps67
  go_wp2_with fail
  go_quiet (fail)
  go_wp2_with fail
  go_ret
  exact ⟨rfl, _, rfl⟩
/-- A sheet with its rows, as the methods read it. -/
structure Rowed (w : World) (P : Nat) (S : ByteArray) (A : Option Addr) (c : Nat) (rs : List Int) (W : Int) (g cap : Nat) (xs : List Row) : Prop where
  sheet : Sheet w P S A c rs W (.slice (some ⟨g, 0, none⟩) xs.length cap)
  rows : RowsAt w g xs
  runes : Runes w A rs
  room : rs.length ≤ c
theorem Rowed.below {w w' : World} {P : Nat} {S : ByteArray} {A : Option Addr} {c : Nat} {rs : List Int} {W : Int} {g cap : Nat} {xs : List Row} (h : Rowed w P S A c rs W g cap xs) (hb : Below w.heap.size w w') : Rowed w' P S A c rs W g cap xs :=
  ⟨h.sheet.below hb, h.rows.below hb, h.runes.below hb, h.room⟩
theorem Lay.rowed {B : Nat} {w : World} {P : Nat} {S : ByteArray} {A : Option Addr} {c : Nat} {rs : List Int} {W : Int} {v : Value} {xs : List Row} (h : Lay B w P S A c rs W v xs) (hn : 0 < xs.length) (hc : rs.length ≤ c) : ∃ g cap, Rowed w P S A c rs W g cap xs := by
  obtain ⟨g, cap, rfl, hr⟩ := rows_of_own h.own hn
  exact ⟨g, cap, h.sheet, hr, h.runes, hc⟩

set_option maxRecDepth 100000 in
set_option maxHeartbeats 4000000 in
theorem row_any (P : Nat) (S : ByteArray) (A : Option Addr) (c : Nat) (rs : List Int) (W : Int) (g cap : Nat) (xs : List Row) (at_ k : Nat) (w : World) (hR : Rowed w P S A c rs W g cap xs) (hC : Chain W rs 0 xs) (hs : Stands xs at_ k) (hl : xs.length ≤ 1125899906842624) :
    Calls Tryd.prog 40 #[.pointer (some ⟨P, 0, none⟩), .int .i64 at_] w fun e w' => e = .returned (.int .i64 k) ∧ Below w.heap.size w w' := by
  obtain ⟨W0, hW0⟩ : ∃ W0, W0 = (w.alloc (.cells #[.pointer (some ⟨P, 0, none⟩)] 97)).alloc (.cells #[.int .i64 at_] 3) := ⟨_, rfl⟩
  have hsize : W0.heap.size = w.heap.size + 1 + 1 := by rw [hW0]; simp
  have hB0 : Below w.heap.size w W0 := by rw [hW0]; exact ((Below.refl _ w).alloc (Nat.le_refl _) _).alloc (by simp) _
  have ca : W0.cell? ⟨w.heap.size, 0, none⟩ = some (.pointer (some ⟨P, 0, none⟩)) := by rw [hW0]; exact cell_alloc_sl _ (cell_new_sl w _ _)
  have cx : W0.cell? ⟨w.heap.size + 1, 0, none⟩ = some (.int .i64 at_) := by rw [hW0]; have := cell_new_sl (w.alloc (.cells #[.pointer (some ⟨P, 0, none⟩)] 97)) (.int .i64 at_) 3; rwa [World.size_alloc] at this
  have cr := hR.sheet.rows
  have cr0 := cell_below hB0 cr
  have cc : ∀ i (hi : i < xs.length), W0.cell? ⟨g, i * 4, none⟩ = some (.int .i64 (loOf xs i)) := fun i hi => by rw [loOf_eq hi]; exact (hR.rows.below hB0 i hi).1
  have eg : ∀ args w, (callFunc 67 args).run Tryd.prog w = .ok (.enter 67 args) w := enters_of Tryd.func67 (by kernel_rfl) rfl
  have hS := Any.sort_Search lays16 67 #[.pointer (some ⟨w.heap.size, 0, none⟩), .pointer (some ⟨w.heap.size + 1, 0, none⟩)] xs.length (pastAt xs at_) W0 eg (by omega)
    (fun m os i hi => (rowFn_any w.heap.size (w.heap.size + 1) P g xs.length cap (loOf xs i) at_ i _ hi (cell_grown (by simp [hsize]; omega) ca m os) (cell_grown (by simp [hsize]) cx m os) (cell_grown (World.block_lt_of_cell? _ _ cr0) cr0 m os) (cell_grown (World.block_lt_of_cell? _ _ (cc i hi)) (cc i hi) m os)).mono
      fun _ _ ⟨he, q, hq⟩ => ⟨he, q, #[], by rw [hq, grow_empty]⟩)
    (fun a b hab hb h => by
      simp only [pastAt, loOf_eq hb, loOf_eq (show a < xs.length by omega), decide_eq_true_eq] at h ⊢
      rcases Nat.eq_or_lt_of_le hab with rfl | h2
      · exact h
      · have := lo_lt hC h2 hb; omega)
  rw [past_count hs hC] at hS
  have hk : ((k + 1 : Nat) : Int) - 1 = (k : Int) := by omega
  have hk2 : k < xs.length := hs.1
  obtain ⟨m, hm⟩ : ∃ m, xs.length = m := ⟨_, rfl⟩
  rw [hm] at hS cr hl hk2
  have hkw : IntKind.i64.wrap (((k + 1 : Nat) : Int) - 1) = (k : Int) := by rw [hk]; exact IntWalk.i64_in _ (by omega)
  obtain ⟨k1, hk1⟩ : ∃ k1 : Nat, k + 1 = k1 := ⟨_, rfl⟩
  rw [hk1] at hS hkw
  rw [hW0] at hS
  change Calls Tryd.prog 66 _ _ _ at hS
  have HB0 := Lib.hid hB0
  have HW0 := Lib.hid hW0
  have HSZ := Lib.hid hsize
  have cr2 : ((w.alloc (.cells #[.pointer (some ⟨P, 0, none⟩)] 97)).alloc (.cells #[.int .i64 at_] 3)).cell? ⟨P, 3, none⟩ = some (.slice (some ⟨g, 0, none⟩) m cap) := cell_alloc_sl _ (cell_alloc_sl _ cr)
  clear hR hC hs hB0 hW0 hsize ca cx cr0 cc eg hm hk hk1 hk2 cr
  go_enter Tryd.func40, Tryd.ntmps40
  go_wp2_with fail
  refine hS.mono ?_
  rintro e w' ⟨rfl, q, os, rfl⟩
  go_wp2_with fail
  go_ret
  refine ⟨rfl, ?_⟩
  rw [← HW0.out]
  exact HB0.out.trans (below_grown_sl w.heap.size W0 q os (by have := HSZ.out; omega))

set_option maxRecDepth 100000 in
set_option maxHeartbeats 4000000 in
theorem last_any (P : Nat) (S : ByteArray) (A : Option Addr) (c : Nat) (rs : List Int) (W : Int) (g cap : Nat) (xs : List Row) (j : Nat) (w : World) (hR : Rowed w P S A c rs W g cap xs) (hC : Chain W rs 0 xs) (hj : j < xs.length) (hn : rs.length ≤ 1125899906842624) (hl : xs.length ≤ 1125899906842624) :
    Calls Tryd.prog 98 #[.pointer (some ⟨P, 0, none⟩), .int .i64 j] w fun e w' => e = .returned (.int .i64 (lastOf xs[j])) ∧ w = w' := by
  have ra := row_at hC j hj
  obtain ⟨d0, d1, d2, d3⟩ := hR.rows j hj
  have cr := hR.sheet.rows
  have hh := ra.hardHi
  have hs := ra.softHi
  have hb := ra.last_le
  obtain ⟨x, hx⟩ : ∃ x, xs[j] = x := ⟨_, rfl⟩
  rw [hx] at d1 d3 hh hs hb ⊢
  obtain ⟨m, hm⟩ : ∃ m, xs.length = m := ⟨_, rfl⟩
  rw [hm] at cr hl
  have hjm : j < m := by omega
  obtain ⟨hi, hhi⟩ : ∃ hi, x.hi = hi := ⟨_, rfl⟩
  obtain ⟨hd, hhd⟩ : ∃ hd, x.hard = hd := ⟨_, rfl⟩
  obtain ⟨la, hla⟩ : ∃ la, lastOf x = la := ⟨_, rfl⟩
  rw [hhi] at d1 hh hs
  rw [hhd] at d3 hh hs
  rw [hla] at hh hs hb ⊢
  clear ra d0 d2 hx hR hC hm hhi hhd hla hj
  cases hd
  · have h1 := hs rfl
    have e1 : IntKind.i64.wrap ((hi : Int) - 1) = (la : Int) := by rw [show (hi : Int) - 1 = la by omega]; exact IntWalk.i64_in _ (by omega)
    clear hh hs h1
    go_enter Tryd.func98, Tryd.ntmps98
    go_wp2_with fail
    go_ret
    exact ⟨rfl, rfl⟩
  · have h1 := hh rfl
    subst h1
    clear hh hs
    go_enter Tryd.func98, Tryd.ntmps98
    go_wp2_with fail
    go_ret
    exact ⟨rfl, rfl⟩

def FoundInt (rs : List Int) (lo last : Nat) (col : Int) (e : Ending) : Prop := ∃ a : Nat, e = .returned (.int .i64 a) ∧ Found rs lo last col a
set_option maxRecDepth 100000 in
set_option maxHeartbeats 4000000 in
theorem find_any (P : Nat) (S : ByteArray) (A : Option Addr) (c : Nat) (rs : List Int) (W : Int) (g cap : Nat) (xs : List Row) (j : Nat) (col : Int) (w : World) (hR : Rowed w P S A c rs W g cap xs) (hC : Chain W rs 0 xs) (hj : j < xs.length) (hn : rs.length ≤ 1125899906842624) (hl : xs.length ≤ 1125899906842624) (hc0 : 0 ≤ col) (hT : Tabs w) :
    Calls Tryd.prog 78 #[.pointer (some ⟨P, 0, none⟩), .int .i64 j, .int .i64 col] w fun e w' => FoundInt rs xs[j].lo (lastOf xs[j]) col e ∧ Below w.heap.size w w' := by
  have ra := row_at hC j hj
  have d0 := (hR.rows j hj).1
  have h1 := ra.lo_le
  have h2 := ra.last_le
  obtain ⟨la, hla⟩ : ∃ la, lastOf xs[j] = la := ⟨_, rfl⟩
  have HLA := Lib.hid hla
  rw [hla] at h1 h2 ⊢
  obtain ⟨x, hx⟩ : ∃ x, xs[j] = x := ⟨_, rfl⟩
  rw [hx] at d0 h1 ⊢
  obtain ⟨lo, hlo⟩ : ∃ lo, x.lo = lo := ⟨_, rfl⟩
  rw [hlo] at d0 h1 ⊢
  have HR := Lib.hid hR
  have HC := Lib.hid hC
  have HT := Lib.hid hT
  have HL := Lib.hid hl
  have HN := Lib.hid hn
  have HC0 := Lib.hid hc0
  have cr := hR.sheet.rows
  have cn := hR.sheet.runes
  obtain ⟨m, hm⟩ : ∃ m, xs.length = m := ⟨_, rfl⟩
  rw [hm] at cr
  obtain ⟨n, hn'⟩ : ∃ n, rs.length = n := ⟨_, rfl⟩
  rw [hn'] at cn h2
  have hjm : j < m := by omega
  have HM := Lib.hid hm
  have HNN := Lib.hid hn'
  have HB := Lib.hid (And.intro h1 h2)
  have hm2 : m ≤ 1125899906842624 := by omega
  have hn2 : n ≤ 1125899906842624 := by omega
  clear ra hR hC hT hl hn hlo hx hla hm hn' h1 h2
  go_enter Tryd.func78, Tryd.ntmps78
  go_wp2_with fail
  clear d0
  go_loopw [7, 8, 9] (fun a q p wr => ∃ k : Nat, a = .int .i64 k ∧ q = .int .i64 (wid rs lo k) ∧ p = .int .i64 k ∧ lo ≤ k ∧ k ≤ la ∧ wid rs lo k ≤ col ∧ Below w.heap.size w wr) (fun _ _ p _ => la - (intOf p).toNat)
  case atStart => exact ⟨lo, rfl, by rw [wid_self], rfl, Nat.le_refl _, HB.out.1, by rw [wid_self]; exact HC0.out, Below.refl _ _⟩
  case round =>
    obtain ⟨k, rfl, rfl, rfl, hk1, hk2, hk3, hb⟩ := hrel
    have HBW := Lib.hid hb
    have HK := Lib.hid (And.intro hk1 (And.intro hk2 hk3))
    have cr1 := cell_below hb cr
    have cn1 := cell_below hb cn
    have hkb : k ≤ 1125899906842624 := by have := HB.out; omega
    clear hb cr cn hk1 hk3
    by_cases hlt : k < la
    · have HLT := Lib.hid hlt
      have hkn : k < rs.length := by have := HB.out; have := HNN.out; omega
      have hws := wid_succ rs (lo := lo) (k := k) HK.out.1 hkn
      obtain ⟨ad, rfl, hcell⟩ := (HR.out.runes.below HBW.out) (by omega)
      have d5 := hcell k hkn
      have hwb := wid_bound rs lo k (by omega) HN.out
      have hkn2 : k < n := by have := HNN.out; omega
      obtain ⟨r, hr⟩ : ∃ r, rs.getD k 0 = r := ⟨_, rfl⟩
      rw [hr] at d5 hws
      obtain ⟨q, hq⟩ : ∃ q, wid rs lo k = q := ⟨_, rfl⟩
      rw [hq] at hws hwb ⊢
      have hc1 := colR_nonneg r q
      have hc2 := colR_le r q
      have e1 : IntKind.i64.wrap (q + colR r q) = q + colR r q := IntWalk.i64_in _ (by omega)
      have HWS := Lib.hid hws
      have HQ := Lib.hid hq
      have HWB := Lib.hid hwb
      clear hcell hr hq hws hkn hwb hc1 hc2 hk2
      go_wp2_with (go_at_call 98; refine (last_any P S _ c rs W g cap xs j _ (HR.out.below HBW.out) HC.out hj HN.out HL.out).mono ?_; rintro e w' ⟨rfl, rfl⟩; rw [HLA.out])
      refine (Cols_any r q _ HWB.out.1 (HT.out.below HBW.out)).mono ?_
      rintro e w5 ⟨rfl, hb5⟩
      have HB5 := Lib.hid (HBW.out.trans (hb5.mono HBW.out.size))
      clear hb5
      by_cases hcl : col < q + colR r q
      · have HCL := Lib.hid hcl
        go_wp2_with fail
        go_ret
        exact ⟨⟨k, rfl, HK.out.1, Nat.le_of_lt HLT.out, HK.out.2.2, .inr (by rw [HWS.out]; exact HCL.out)⟩, HB5.out⟩
      · have HCL := Lib.hid hcl
        go_wp2_with fail
        go_roundw
        case rel => exact ⟨k + 1, by go_num, by rw [HWS.out], by go_num, by have := HK.out.1; omega, HLT.out, by rw [HWS.out]; have := HCL.out; omega, HB5.out⟩
        case measure => have := HLT.out; simp [intOf]; omega
    · have hke : k = la := by omega
      have HKE := Lib.hid hke
      clear hke
      go_wp2_with (go_at_call 98; refine (last_any P S A c rs W g cap xs j _ (HR.out.below HBW.out) HC.out hj HN.out HL.out).mono ?_; rintro e w' ⟨rfl, rfl⟩; rw [HLA.out])
      go_ret
      exact ⟨⟨k, rfl, HK.out.1, HK.out.2.1, HK.out.2.2, .inl HKE.out⟩, HBW.out⟩

/-- A text on a page, and what it asks. -/
structure Paper (S : ByteArray) (rs : List Int) (W : Int) : Prop where
  enc : S.data.toList = enc rs
  good : ∀ r ∈ rs, TxtRune r
  len : rs.length ≤ 34359738368
  wide : 1 ≤ W ∧ W ≤ 1024
theorem Paper.chain {S : ByteArray} {rs : List Int} {W : Int} (h : Paper S rs W) : Chain W rs 0 (pageRows W rs) := page_chain W rs h.wide.1
theorem Paper.rows {S : ByteArray} {rs : List Int} {W : Int} (h : Paper S rs W) : (pageRows W rs).length ≤ rs.length + 1 := by
  have := rowsFrom_len W rs rs.length 0 0 (by omega) (Nat.le_refl _)
  simpa [pageRows] using this
theorem sheet_any {S : ByteArray} {rs : List Int} {W H : Int} (w : World) (hp : Paper S rs W) (hH : 1 ≤ H ∧ H ≤ 1024) (hB : 4 ≤ w.heap.size) (hT : Tabs w) (hb : Bars w) :
    Calls Tryd.prog 39 #[.string S, .int .i64 W, .int .i64 H] w fun e w' => (∃ P A c g cap, e = .returned (.tuple #[.pointer (some ⟨P, 0, none⟩), .int .i64 0]) ∧ Rowed w' P S A c rs W g cap (pageRows W rs)) ∧ Below w.heap.size w w' := by
  refine (laid_any S rs W H w hp.enc hp.good hp.len hp.wide hH hB hT hb).mono ?_
  rintro e w' ⟨P, A, c, v, rfl, hL, hc, hbw⟩
  obtain ⟨g, cap, hR⟩ := hL.rowed hp.chain.ne hc
  exact ⟨⟨P, A, c, g, cap, rfl, hR⟩, hbw⟩

set_option maxRecDepth 100000 in
set_option maxHeartbeats 4000000 in
theorem Spot_any {S : ByteArray} {rs : List Int} {W : Int} (at_ k : Nat) (w : World) (hp : Paper S rs W) (hk : Stands (pageRows W rs) at_ k) (ha : at_ ≤ rs.length) (hB : 4 ≤ w.heap.size) (hT : Tabs w) (hb : Bars w) :
    Calls Tryd.prog 18 #[.string S, .int .i64 W, .int .i64 at_] w fun e w' => e = .returned (.tuple #[.int .i64 k, .int .i64 (wid rs (loOf (pageRows W rs) k) at_), .int .i64 0]) ∧ Below w.heap.size w w' := by
  have HP := Lib.hid hp
  have HK := Lib.hid hk
  have HT := Lib.hid hT
  have ha0 : ¬ (at_ : Int) < 0 := by omega
  have HA := Lib.hid ha
  obtain ⟨lo, hlo⟩ : ∃ lo, loOf (pageRows W rs) k = lo := ⟨_, rfl⟩
  have hle : lo ≤ at_ := by rw [← hlo, loOf_eq hk.1]; exact hk.2.1
  rw [hlo]
  have HLE := Lib.hid hle
  have HLL := Lib.hid hlo
  clear hk ha hle hlo hT
  go_enter Tryd.func18, Tryd.ntmps18
  go_wp2_with fail
  refine (sheet_any _ hp (by decide) hB HT.out hb).mono ?_
  rintro e w1 ⟨⟨P, A, c, g, cap, rfl, hR⟩, hb1⟩
  have HR := Lib.hid hR
  have HB1 := Lib.hid hb1
  have HXL := Lib.hid hp.rows
  have HCH := Lib.hid hp.chain
  have HLN := Lib.hid hp.len
  obtain ⟨xs, hxs⟩ : ∃ xs, pageRows W rs = xs := ⟨_, rfl⟩
  rw [hxs] at HR HXL HCH HK HLL hR
  have cr := hR.sheet.rows
  have cn := hR.sheet.runes
  obtain ⟨n, hn⟩ : ∃ n, rs.length = n := ⟨_, rfl⟩
  rw [hn] at cn
  have han : ¬ n < at_ := by have := HA.out; omega
  clear hR hb1 hp hxs hn hb
  go_wp2_with fail
  refine (row_any P S A c rs W g cap xs at_ k _ HR.out HCH.out HK.out (by have := HXL.out; have := HLN.out; omega)).mono ?_
  rintro e w2 ⟨rfl, hb2⟩
  have cr2 := cell_below hb2 cr
  have HB2 := Lib.hid hb2
  have d0 := ((HR.out.below hb2).rows k HK.out.1).1
  rw [← loOf_eq, HLL.out] at d0
  obtain ⟨m, hm⟩ : ∃ m, xs.length = m := ⟨_, rfl⟩
  rw [hm] at cr2
  have hkm : k < m := by rw [← hm]; exact HK.out.1
  clear hb2 cr cn hm
  go_wp2_with fail
  refine (scols_any P S A c rs W _ lo at_ _ (by have := HLN.out; omega) HLE.out HA.out HR.out.room (HR.out.below HB2.out).sheet (HR.out.below HB2.out).runes (HT.out.below (HB1.out.trans (HB2.out.mono HB1.out.size)))).mono ?_
  rintro e w3 ⟨rfl, hb3⟩
  have HB3 := Lib.hid (HB1.out.trans ((HB2.out.trans (hb3.mono HB2.out.size)).mono HB1.out.size))
  clear hb3
  go_wp2_with fail
  go_ret3
  exact ⟨rfl, HB3.out⟩

set_option maxRecDepth 100000 in
set_option maxHeartbeats 4000000 in
theorem Find_any {S : ByteArray} {rs : List Int} {W : Int} (j : Nat) (col : Int) (w : World) (hp : Paper S rs W) (hj : j < (pageRows W rs).length) (hc0 : 0 ≤ col) (hB : 4 ≤ w.heap.size) (hT : Tabs w) (hb : Bars w) :
    Calls Tryd.prog 46 #[.string S, .int .i64 W, .int .i64 j, .int .i64 col] w fun e w' => (∃ a : Nat, e = .returned (.tuple #[.int .i64 a, .int .i64 0]) ∧ Found rs (pageRows W rs)[j].lo (lastOf (pageRows W rs)[j]) col a) ∧ Below w.heap.size w w' := by
  have HP := Lib.hid hp
  have HT := Lib.hid hT
  have hj0 : ¬ (j : Int) < 0 := by omega
  have hc1 : ¬ col < 0 := by omega
  clear hT
  go_enter Tryd.func46, Tryd.ntmps46
  go_wp2_with fail
  refine (sheet_any _ hp (by decide) hB HT.out hb).mono ?_
  rintro e w1 ⟨⟨P, A, c, g, cap, rfl, hR⟩, hb1⟩
  have HR := Lib.hid hR
  have HB1 := Lib.hid hb1
  have HXL := Lib.hid hp.rows
  have HCH := Lib.hid hp.chain
  have HLN := Lib.hid hp.len
  have cr := hR.sheet.rows
  obtain ⟨m, hm⟩ : ∃ m, (pageRows W rs).length = m := ⟨_, rfl⟩
  rw [hm] at cr
  have hjm : j < m := by omega
  clear hR hb1 hp hb hm
  go_wp2_with fail
  refine (find_any P S A c rs W g cap _ j col _ HR.out HCH.out hj (by have := HLN.out; omega) (by have := HXL.out; have := HLN.out; omega) hc0 (HT.out.below HB1.out)).mono ?_
  rintro e w2 ⟨⟨a, rfl, hf⟩, hb2⟩
  have HF := Lib.hid hf
  have HB2 := Lib.hid (HB1.out.trans (hb2.mono HB1.out.size))
  clear hf hb2
  go_wp2_with fail
  go_ret2
  exact ⟨⟨a, rfl, HF.out⟩, HB2.out⟩
end Go.Proofs.YtkidcleffllhbaaDoor.Pg
