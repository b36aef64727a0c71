/- page's Spot and Walk, as the law asks for them: over one page whose rows are known. -/
import Derived.Test.YthbfkmfinalfdaaDoorPgWalk2
import Derived.Test.YthbfkmfinalfdaaDoorUWords
import Derived.Test.YthbfkmfinalfdaaDoorPgSpots
namespace Go.Proofs.YthbfkmfinalfdaaDoor.Pg
open Go.RowKit Go.Proofs Go.Joins Go.Proofs.YthbfkmfinalfdaaDoor.U Go.Proofs.YthbfkmfinalfdaaDoor.Txt
set_option linter.unusedVariables false
set_option linter.unusedSimpArgs false

/-- What the walks lean on: the program's tables, as they are laid. -/
structure Env (w : World) : Prop where
  size : 4 ≤ w.heap.size
  tabs : Tabs w
  bars : Bars w
  own : PWalks w
  text : Walks w
theorem Env.below {w w' : World} (h : Env w) (hb : Below w.heap.size w w') : Env w' := ⟨Nat.le_trans h.size hb.size, h.tabs.below hb, h.bars.below hb, h.own.below hb, h.text.below hb⟩
structure Pagex (S : ByteArray) (rs : List Int) (W : Int) (xs : List Row) : Prop where
  paper : Paper S rs W
  eq : pageRows W rs = xs
section
variable {w : World} {S : ByteArray} {rs : List Int} {W : Int} {xs : List Row}
theorem Pagex.text (h : Pagex S rs W xs) : Text S rs := ⟨h.paper.enc, h.paper.good, by
  have h1 : S.size = (enc rs).length := by rw [← size_toList, h.paper.enc]
  have h2 := enc_len_le rs
  have := h.paper.len
  omega⟩
theorem Pagex.chain (h : Pagex S rs W xs) : Chain W rs 0 xs := h.eq ▸ h.paper.chain
theorem spot_x (h : Pagex S rs W xs) (he : Env w) {a k : Nat} (hs : Stands xs a k) (ha : a ≤ rs.length) :
    Calls Tryd.prog 12 #[.string S, .int .i64 W, .int .i64 a] w fun e w' => e = .returned (.tuple #[.int .i64 k, .int .i64 (wid rs (loOf xs k) a), .int .i64 0]) ∧ Below w.heap.size w w' := by
  obtain ⟨hp, rfl⟩ := h
  exact Spot_any a k w hp hs ha he.size he.tabs he.bars
theorem home_x (h : Pagex S rs W xs) (he : Env w) {a k : Nat} (want : Int) (hs : Stands xs a k) (ha : a ≤ rs.length) :
    Calls Tryd.prog 14 #[.string S, .int .i64 W, .int .i64 a, .int .i64 want, .int .i64 3] w fun e w' => e = .returned (.tuple #[.int .i64 (loOf xs k), .int .i64 (-1), .int .i64 0]) ∧ Below w.heap.size w w' := by
  obtain ⟨hp, rfl⟩ := h
  refine (Walk_3 a k want (fun x y => x = loOf (pageRows W rs) k ∧ y = -1) w hp hs ha he.size he.tabs he.bars he.own (fun P A c g cap w1 hA hT => (home_any want w1 hA).mono fun e w' ⟨h1, h2⟩ => ⟨⟨_, _, h1, rfl, rfl⟩, h2⟩)).mono ?_
  rintro e w' ⟨⟨x, y, rfl, rfl, rfl⟩, hb⟩
  exact ⟨rfl, hb⟩
theorem end_x (h : Pagex S rs W xs) (he : Env w) {a k : Nat} (want : Int) (hs : Stands xs a k) (ha : a ≤ rs.length) (hk : k < xs.length) :
    Calls Tryd.prog 14 #[.string S, .int .i64 W, .int .i64 a, .int .i64 want, .int .i64 4] w fun e w' => e = .returned (.tuple #[.int .i64 (lastOf xs[k]), .int .i64 (-1), .int .i64 0]) ∧ Below w.heap.size w w' := by
  obtain ⟨hp, rfl⟩ := h
  refine (Walk_4 a k want (fun x y => x = lastOf (pageRows W rs)[k] ∧ y = -1) w hp hs ha he.size he.tabs he.bars he.own (fun P A c g cap w1 hA hT => (end_any want w1 hA hk).mono fun e w' ⟨h1, h2⟩ => ⟨⟨_, _, h1, rfl, rfl⟩, h2⟩)).mono ?_
  rintro e w' ⟨⟨x, y, rfl, rfl, rfl⟩, hb⟩
  exact ⟨rfl, hb⟩
theorem up0_x (h : Pagex S rs W xs) (he : Env w) {a : Nat} (want : Int) (hs : Stands xs a 0) (ha : a ≤ rs.length) :
    Calls Tryd.prog 14 #[.string S, .int .i64 W, .int .i64 a, .int .i64 want, .int .i64 5] w fun e w' => e = .returned (.tuple #[.int .i64 0, .int .i64 (wantP rs (loOf xs 0) a want), .int .i64 0]) ∧ Below w.heap.size w w' := by
  obtain ⟨hp, rfl⟩ := h
  refine (Walk_5 a 0 want (fun x y => x = 0 ∧ y = wantP rs (loOf (pageRows W rs) 0) a want) w hp hs ha he.size he.tabs he.bars he.own (fun P A c g cap w1 hA hT => (up_zero want w1 hA hT).mono fun e w' ⟨h1, h2⟩ => ⟨⟨_, _, h1, rfl, rfl⟩, h2⟩)).mono ?_
  rintro e w' ⟨⟨x, y, rfl, rfl, rfl⟩, hb⟩
  exact ⟨rfl, hb⟩
/-- A walk to the row with this number: the place that is found there. -/
def FoundRow (rs : List Int) (xs : List Row) (j : Nat) (col : Int) (a : Nat) : Prop := ∃ h : j < xs.length, Found rs xs[j].lo (lastOf xs[j]) col a
theorem FoundRow.stands {j a : Nat} {col : Int} (h : FoundRow rs xs j col a) : Stands xs a j := ⟨h.1, h.2.ge, h.2.le⟩
theorem FoundRow.fits {j a : Nat} {col : Int} (h : FoundRow rs xs j col a) : wid rs (loOf xs j) a ≤ col := by rw [loOf_eq h.1]; exact h.2.fits
theorem up_x (h : Pagex S rs W xs) (he : Env w) {a j : Nat} (want : Int) (hs : Stands xs a (j + 1)) (ha : a ≤ rs.length) :
    Calls Tryd.prog 14 #[.string S, .int .i64 W, .int .i64 a, .int .i64 want, .int .i64 5] w fun e w' => (∃ b : Nat, e = .returned (.tuple #[.int .i64 b, .int .i64 (wantP rs (loOf xs (j + 1)) a want), .int .i64 0]) ∧ FoundRow rs xs j (wantP rs (loOf xs (j + 1)) a want) b) ∧ Below w.heap.size w w' := by
  obtain ⟨hp, rfl⟩ := h
  have hj : j < (pageRows W rs).length := by have := hs.1; omega
  refine (Walk_5 a (j + 1) want (fun x y => ∃ b : Nat, x = b ∧ y = wantP rs (loOf (pageRows W rs) (j + 1)) a want ∧ FoundRow rs (pageRows W rs) j (wantP rs (loOf (pageRows W rs) (j + 1)) a want) b) w hp hs ha he.size he.tabs he.bars he.own (fun P A c g cap w1 hA hT => (up_more j want w1 hA hT hj).mono fun e w' ⟨⟨b, h1, h2⟩, h3⟩ => ⟨⟨_, _, h1, b, rfl, rfl, hj, h2⟩, h3⟩)).mono ?_
  rintro e w' ⟨⟨x, y, rfl, b, rfl, rfl, hf⟩, hb⟩
  exact ⟨⟨b, rfl, hf⟩, hb⟩
theorem down_x (h : Pagex S rs W xs) (he : Env w) {a k : Nat} (want : Int) (hs : Stands xs a k) (ha : a ≤ rs.length) (hj : k + 1 < xs.length) :
    Calls Tryd.prog 14 #[.string S, .int .i64 W, .int .i64 a, .int .i64 want, .int .i64 6] w fun e w' => (∃ b : Nat, e = .returned (.tuple #[.int .i64 b, .int .i64 (wantP rs (loOf xs k) a want), .int .i64 0]) ∧ FoundRow rs xs (k + 1) (wantP rs (loOf xs k) a want) b) ∧ Below w.heap.size w w' := by
  obtain ⟨hp, rfl⟩ := h
  refine (Walk_6 a k want (fun x y => ∃ b : Nat, x = b ∧ y = wantP rs (loOf (pageRows W rs) k) a want ∧ FoundRow rs (pageRows W rs) (k + 1) (wantP rs (loOf (pageRows W rs) k) a want) b) w hp hs ha he.size he.tabs he.bars he.own (fun P A c g cap w1 hA hT => (down_more want w1 hA hT hj).mono fun e w' ⟨⟨b, h1, h2⟩, h3⟩ => ⟨⟨_, _, h1, b, rfl, rfl, hj, h2⟩, h3⟩)).mono ?_
  rintro e w' ⟨⟨x, y, rfl, b, rfl, rfl, hf⟩, hb⟩
  exact ⟨⟨b, rfl, hf⟩, hb⟩
/-- The walks that go by the text alone: Walk goes where Step goes. -/
theorem step_x (h : Pagex S rs W xs) {a : Nat} (ha : a ≤ rs.length) (how : Int) (hh : how = 1 ∨ how = 2 ∨ how = 7 ∨ how = 8 ∨ how = 9 ∨ how = 10) : ∃ r : Int,
    (∀ w, Env w → Calls Tryd.prog 15 #[.string S, .int .i64 a, .int .i64 how] w fun e w' => e = .returned (.tuple #[.int .i64 r, .int .i64 0]) ∧ Below w.heap.size w w') ∧
    (∀ (want : Int) w, Env w → Calls Tryd.prog 14 #[.string S, .int .i64 W, .int .i64 a, .int .i64 want, .int .i64 how] w fun e w' => e = .returned (.tuple #[.int .i64 r, .int .i64 (-1), .int .i64 0]) ∧ Below w.heap.size w w') := by
  have hT := h.text
  have hl : rs.length ≤ 35184372087808 := by have := h.paper.len; omega
  have hp := h.paper
  rcases hh with rfl | rfl | rfl | rfl | rfl | rfl
  · have hr : a = 0 ∧ (if a = 0 then (0 : Int) else (a : Int) - 1) = 0 ∨ 0 < a ∧ (if a = 0 then (0 : Int) else (a : Int) - 1) = (a : Int) - 1 := by
      by_cases e : a = 0
      · exact .inl ⟨e, if_pos e⟩
      · exact .inr ⟨by omega, if_neg e⟩
    have hs : ∀ w, Env w → Calls Tryd.prog 15 #[.string S, .int .i64 a, .int .i64 1] w fun e w' => e = .returned (.tuple #[.int .i64 (if a = 0 then (0 : Int) else (a : Int) - 1), .int .i64 0]) ∧ Below w.heap.size w w' := fun w he =>
      Step_1 S rs a _ w hT hl ha he.bars he.text fun A c w1 hc hcap => (left_any A c rs.length a _ w1 (by omega) hr).mono fun e w' ⟨h1, h2⟩ => ⟨h1, h2 ▸ Below.refl _ _⟩
    exact ⟨_, hs, fun want w he => Walk_1 a want _ w hp ha he.size he.tabs he.bars he.own fun w1 hb => hs w1 (he.below hb)⟩
  · have hr : a = rs.length ∧ (if a = rs.length then (rs.length : Int) else (a : Int) + 1) = rs.length ∨ a < rs.length ∧ (if a = rs.length then (rs.length : Int) else (a : Int) + 1) = (a : Int) + 1 := by
      by_cases e : a = rs.length
      · exact .inl ⟨e, if_pos e⟩
      · exact .inr ⟨by omega, if_neg e⟩
    have hs : ∀ w, Env w → Calls Tryd.prog 15 #[.string S, .int .i64 a, .int .i64 2] w fun e w' => e = .returned (.tuple #[.int .i64 (if a = rs.length then (rs.length : Int) else (a : Int) + 1), .int .i64 0]) ∧ Below w.heap.size w w' := fun w he =>
      Step_2 S rs a _ w hT hl ha he.bars he.text fun A c w1 hc hcap => (right_any A c rs.length a _ w1 hl ha hr).mono fun e w' ⟨h1, h2⟩ => ⟨h1, h2 ▸ Below.refl _ _⟩
    exact ⟨_, hs, fun want w he => Walk_2 a want _ w hp ha he.size he.tabs he.bars he.own fun w1 hb => hs w1 (he.below hb)⟩
  · have hs : ∀ w, Env w → Calls Tryd.prog 15 #[.string S, .int .i64 a, .int .i64 7] w fun e w' => e = .returned (.tuple #[.int .i64 (wordL rs a), .int .i64 0]) ∧ Below w.heap.size w w' := fun w he =>
      Step_7 S rs a _ w hT hl ha he.bars he.text fun A c w1 hc hcap => (wordLeft_any A c a rs w1 hc hl ha).mono fun e w' ⟨h1, h2⟩ => ⟨h1, h2 ▸ Below.refl _ _⟩
    exact ⟨_, hs, fun want w he => Walk_7 a want _ w hp ha he.size he.tabs he.bars he.own fun w1 hb => hs w1 (he.below hb)⟩
  · have hs : ∀ w, Env w → Calls Tryd.prog 15 #[.string S, .int .i64 a, .int .i64 8] w fun e w' => e = .returned (.tuple #[.int .i64 (wordR rs a), .int .i64 0]) ∧ Below w.heap.size w w' := fun w he =>
      Step_8 S rs a _ w hT hl ha he.bars he.text fun A c w1 hc hcap => (wordRight_any A c a rs w1 hc hl ha).mono fun e w' ⟨h1, h2⟩ => ⟨h1, h2 ▸ Below.refl _ _⟩
    exact ⟨_, hs, fun want w he => Walk_8 a want _ w hp ha he.size he.tabs he.bars he.own fun w1 hb => hs w1 (he.below hb)⟩
  · have hs : ∀ w, Env w → Calls Tryd.prog 15 #[.string S, .int .i64 a, .int .i64 9] w fun e w' => e = .returned (.tuple #[.int .i64 0, .int .i64 0]) ∧ Below w.heap.size w w' := fun w he =>
      Step_9 S rs a _ w hT hl ha he.bars he.text fun A c w1 hc hcap => (top_any A c rs.length a w1).mono fun e w' ⟨h1, h2⟩ => ⟨h1, h2 ▸ Below.refl _ _⟩
    exact ⟨_, hs, fun want w he => Walk_9 a want _ w hp ha he.size he.tabs he.bars he.own fun w1 hb => hs w1 (he.below hb)⟩
  · have hs : ∀ w, Env w → Calls Tryd.prog 15 #[.string S, .int .i64 a, .int .i64 10] w fun e w' => e = .returned (.tuple #[.int .i64 rs.length, .int .i64 0]) ∧ Below w.heap.size w w' := fun w he =>
      Step_10 S rs a _ w hT hl ha he.bars he.text fun A c w1 hc hcap => (bottom_any A c rs.length a w1).mono fun e w' ⟨h1, h2⟩ => ⟨h1, h2 ▸ Below.refl _ _⟩
    exact ⟨_, hs, fun want w he => Walk_10 a want _ w hp ha he.size he.tabs he.bars he.own fun w1 hb => hs w1 (he.below hb)⟩
end
end Go.Proofs.YthbfkmfinalfdaaDoor.Pg
