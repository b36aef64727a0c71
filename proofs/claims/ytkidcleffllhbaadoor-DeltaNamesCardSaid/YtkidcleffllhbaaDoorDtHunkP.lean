/- Hunks, in plain Lean. -/
import Derived.Test.YtkidcleffllhbaaDoorDtMergeP
namespace Go.Proofs.YtkidcleffllhbaaDoor.Dt
set_option linter.unusedVariables false
set_option linter.unusedSimpArgs false
set_option linter.unusedSectionVars false
/-- A hunk. -/
structure Hk (α : Type) where
  old : Nat
  new : Nat
  ahead : List α
  behind : List α
  minus : List α
  plus : List α
section
variable {α : Type} [DecidableEq α]
/-- Where the next change begins. -/
def nextAt (n : Nat) : List Chg → Nat
  | [] => n
  | d :: _ => d.at_
def hkOf (x y : List α) (ar next free : Nat) (c : Chg) : Hk α :=
  ⟨c.at_ - min ar (c.at_ - free), c.from_ - min ar (c.at_ - free), seg x (c.at_ - min ar (c.at_ - free)) c.at_, seg x (c.at_ + c.del) (c.at_ + c.del + min ar (next - (c.at_ + c.del))), seg x c.at_ (c.at_ + c.del), seg y c.from_ (c.from_ + c.ins)⟩
/-- The hunks of changes, the lines up to free being taken. -/
def hkF (x y : List α) (ar : Nat) : List Chg → Nat → List (Hk α)
  | [], _ => []
  | c :: l, free => hkOf x y ar (nextAt x.length l) free c :: hkF x y ar l (c.at_ + c.del + min ar (nextAt x.length l - (c.at_ + c.del)))
def hunksL (x y : List α) (ar : Nat) : List (Hk α) := hkF x y ar (chL x y) 0
/-- What stands at a place of the loop: the changes from there on. -/
structure HkAt (x y : List α) (l : List Chg) (free : Nat) : Prop where
  segs : ∃ i j, Segs x y i j l x.length y.length ∧ i ≤ free ∧ (∀ c r, l = c :: r → free ≤ c.at_) ∧ (l = [] → free ≤ x.length)
theorem HkAt.new (x y : List α) : HkAt x y (chL x y) 0 := by
  obtain ⟨⟨o', h⟩, _⟩ := chL_cut x y
  exact ⟨0, 0, h.segs, Nat.le_refl _, fun _ _ _ => Nat.zero_le _, fun _ => Nat.zero_le _⟩
theorem segs_next {x y : List α} : ∀ {l : List Chg} {i j : Nat}, Segs x y i j l x.length y.length → i ≤ nextAt x.length l ∧ nextAt x.length l ≤ x.length
  | [], i, j, h => ⟨h.1, Nat.le_refl _⟩
  | c :: l, i, j, h => by
    have := segs_next h.2.2.2
    exact ⟨h.1, by show c.at_ ≤ _; omega⟩
theorem HkAt.step {x y : List α} {c : Chg} {l : List Chg} {free : Nat} (h : HkAt x y (c :: l) free) (ar : Nat) :
    free ≤ c.at_ ∧ c.at_ - free ≤ c.from_ ∧ c.at_ + c.del ≤ nextAt x.length l ∧ nextAt x.length l ≤ x.length ∧ c.from_ + c.ins ≤ y.length ∧ HkAt x y l (c.at_ + c.del + min ar (nextAt x.length l - (c.at_ + c.del))) := by
  obtain ⟨i, j, hs, hi, hf, _⟩ := h.segs
  have h1 := hf c l rfl
  obtain ⟨s1, s2, s3, s4⟩ := hs
  have h2 := segs_next s4
  have h3 := segs_le _ s4
  refine ⟨h1, by omega, h2.1, h2.2, h3, ⟨_, _, s4, by omega, fun d r e => ?_, fun e => ?_⟩⟩
  · subst e
    have : nextAt x.length (d :: r) = d.at_ := rfl
    rw [this] at h2 ⊢
    omega
  · have : nextAt x.length l ≤ x.length := h2.2
    omega
end
end Go.Proofs.YtkidcleffllhbaaDoor.Dt
