/- An operation's line in plain Lean: what Print writes, and that it is another line for another operation. Parts of op.Print: a number, an id, an operation's own error, its width. Parts of op.Print: an operation's own error, its width, its ranges. Other forms in plain Lean: a form with a rune more ahead is read; the same bytes written otherwise are no form. What Check's OK says of an operation: plain facts. -/
import Derived.Test.YtkdhomiieenfnaaGreatDoorLs1
import Derived.Lib.ItoaLen
import Derived.Lib.ItoaMem
import Derived.Test.YtkdhomiieenfnaaGreatDoorOpLa
import Derived.Test.YtkdhomiieenfnaaGreatDoorOqShelf
import Derived.Test.YtkdhomiieenfnaaGreatDoorUQuote
import Derived.Lib.AppendIntMem
import Derived.Deep.DeepCutAuto
import Derived.Deep.DrawnRows
import Derived.Deep.RegionWith
namespace Go.Proofs.YtkdhomiieenfnaaGreatDoor.O
open Go Go.Proofs.YtkdhomiieenfnaaGreatDoor.Txt Go.Proofs.YtkdhomiieenfnaaGreatDoor.U
set_option linter.unusedVariables false
set_option linter.unusedSimpArgs false

def idL (a b : Int) : List UInt8 := if a = 0 ∧ b = 0 then [45] else Lib.itoa a ++ 46 :: Lib.itoa b
def rgL (r : Int × Int) : List UInt8 := Lib.itoa r.1 ++ 45 :: Lib.itoa r.2
/-- What strings.Join makes of the ranges' words. -/
def rsL : List (Int × Int) → List UInt8
  | [] => []
  | [r] => rgL r
  | r :: s :: t => rgL r ++ 44 :: rsL (s :: t)
def wordL (kd : Int) (on : Bool) : List UInt8 := if kd = 1 then [32, 105, 110, 115, 32] else if kd = 2 then [32, 104, 105, 100, 101, 32] else if kd = 3 then [32, 115, 104, 111, 119, 32] else if on then [32, 111, 110, 32] else [32, 111, 102, 102, 32]
/-- An operation's line. -/
def lineL (i0 i1 kd a : Int) (tx : List UInt8) (rs : List (Int × Int)) (t0 t1 : Int) (on : Bool) : List UInt8 :=
  idL i0 i1 ++ (wordL kd on ++ (if kd = 1 then Lib.itoa a ++ 32 :: quoteL tx else if kd = 2 ∨ kd = 3 then rsL rs else idL t0 t1))

/-! ### Numbers -/
theorem dec_digit (n : Nat) : ∀ c ∈ Lib.decDigits n, 48 ≤ c.toNat ∧ c.toNat ≤ 57 := by
  induction n using Nat.strongRecOn with
  | ind n ih =>
    intro c hc
    rw [Lib.decDigits] at hc
    split at hc
    · rename_i h
      rw [List.mem_singleton.1 hc]
      simp; omega
    · rename_i h
      rcases List.mem_append.1 hc with h1 | h1
      · exact ih (n / 10) (by omega) c h1
      · rw [List.mem_singleton.1 h1]
        simp; omega
theorem dec_pos (n : Nat) : 0 < (Lib.decDigits n).length := by
  rw [Lib.decDigits]
  split <;> simp
theorem dec_inj (m n : Nat) (h : Lib.decDigits m = Lib.decDigits n) : m = n := by
  induction m using Nat.strongRecOn generalizing n with
  | ind m ih =>
    have one : ∀ k : Nat, k < 10 → (UInt8.ofNat (48 + k)).toNat = 48 + k := fun k hk => by rw [ofNat_toNat _ (by omega)]
    have e1 := h
    rw [Lib.decDigits] at e1
    by_cases hm : m < 10
    · rw [dif_pos hm] at e1
      rw [Lib.decDigits] at e1
      by_cases hn : n < 10
      · rw [dif_pos hn] at e1
        have := congrArg UInt8.toNat (List.cons.inj e1).1
        rw [one m hm, one n hn] at this
        omega
      · rw [dif_neg hn] at e1
        have := congrArg List.length e1
        have hp := dec_pos (n / 10)
        simp only [List.length_append, List.length_cons, List.length_nil] at this
        omega
    · rw [dif_neg hm] at e1
      conv at e1 => rhs; rw [Lib.decDigits]
      by_cases hn : n < 10
      · rw [dif_pos hn] at e1
        have := congrArg List.length e1
        have hp := dec_pos (m / 10)
        simp only [List.length_append, List.length_cons, List.length_nil] at this
        omega
      · rw [dif_neg hn] at e1
        have h2 := List.append_inj' e1 rfl
        have h3 := ih (m / 10) (by omega) (n / 10) h2.1
        have := congrArg UInt8.toNat (List.cons.inj h2.2).1
        rw [one (m % 10) (by omega), one (n % 10) (by omega)] at this
        omega
theorem itoa_chars (n : Int) : ∀ c ∈ Lib.itoa n, c = 45 ∨ (48 ≤ c.toNat ∧ c.toNat ≤ 57) := by
  intro c hc
  unfold Lib.itoa at hc
  split at hc
  · rcases List.mem_cons.1 hc with h | h
    · exact .inl h
    · exact .inr (dec_digit _ c h)
  · exact .inr (dec_digit _ c hc)
theorem itoa_digits (n : Int) (h : 0 ≤ n) : ∀ c ∈ Lib.itoa n, 48 ≤ c.toNat ∧ c.toNat ≤ 57 := by
  unfold Lib.itoa
  rw [if_neg (by omega)]
  exact dec_digit _
theorem itoa_inj {m n : Int} (hm : 0 ≤ m) (hn : 0 ≤ n) (h : Lib.itoa m = Lib.itoa n) : m = n := by
  unfold Lib.itoa at h
  rw [if_neg (by omega), if_neg (by omega)] at h
  have := dec_inj _ _ h
  omega
/-- Two lists with a mark behind a part that has none of it. -/
theorem split_mark (c : UInt8) : ∀ (a b x y : List UInt8), (∀ z ∈ a, z ≠ c) → (∀ z ∈ b, z ≠ c) → a ++ c :: x = b ++ c :: y → a = b ∧ x = y
  | [], [], x, y, _, _, h => ⟨rfl, (List.cons.inj h).2⟩
  | [], z :: b, x, y, _, hb, h => absurd (List.cons.inj h).1.symm (hb z (by simp))
  | z :: a, [], x, y, ha, _, h => absurd (List.cons.inj h).1 (ha z (by simp))
  | z :: a, u :: b, x, y, ha, hb, h => by
    obtain ⟨h1, h2⟩ := List.cons.inj h
    obtain ⟨h3, h4⟩ := split_mark c a b x y (fun w hw => ha w (by simp [hw])) (fun w hw => hb w (by simp [hw])) h2
    exact ⟨by rw [h1, h3], h4⟩
theorem no_mark (c : UInt8) (a b y : List UInt8) (ha : ∀ z ∈ a, z ≠ c) (h : a = b ++ c :: y) : False := ha c (by rw [h]; simp) rfl
theorem rg_no_comma (r : Int × Int) (h : 0 ≤ r.1) (h2 : 0 ≤ r.2) : ∀ z ∈ rgL r, z ≠ 44 := by
  intro z hz e
  subst e
  unfold rgL at hz
  rcases List.mem_append.1 hz with h1 | h1
  · have := itoa_digits _ h _ h1; simp at this
  · rcases List.mem_cons.1 h1 with h3 | h3
    · cases h3
    · have := itoa_digits _ h2 _ h3; simp at this
theorem digit_no (c : UInt8) (hc : c.toNat < 48) (n : Int) (h : 0 ≤ n) : ∀ z ∈ Lib.itoa n, z ≠ c := by
  intro z hz e
  subst e
  have := itoa_digits _ h _ hz
  omega
theorem rg_inj {r s : Int × Int} (h1 : 0 ≤ r.1) (h2 : 0 ≤ r.2) (h3 : 0 ≤ s.1) (h4 : 0 ≤ s.2) (h : rgL r = rgL s) : r = s := by
  unfold rgL at h
  obtain ⟨e1, e2⟩ := split_mark 45 _ _ _ _ (digit_no 45 (by decide) _ h1) (digit_no 45 (by decide) _ h3) h
  exact Prod.ext (itoa_inj h1 h3 e1) (itoa_inj h2 h4 e2)
theorem rg_ne (r : Int × Int) : rgL r ≠ [] := by unfold rgL; simp
theorem rs_inj : ∀ {a b : List (Int × Int)}, (∀ r ∈ a, 0 ≤ r.1 ∧ 0 ≤ r.2) → (∀ r ∈ b, 0 ≤ r.1 ∧ 0 ≤ r.2) → rsL a = rsL b → a = b
  | [], [], _, _, _ => rfl
  | [], [s], _, _, h => absurd h.symm (rg_ne s)
  | [], s :: t :: b, _, _, h => by
    have := congrArg List.length h
    simp [rsL] at this
  | [r], [], _, _, h => absurd h (rg_ne r)
  | r :: r' :: a, [], _, _, h => by
    have := congrArg List.length h
    simp [rsL] at this
  | [r], [s], ha, hb, h => by
    have h1 := ha r (by simp)
    have h2 := hb s (by simp)
    rw [rg_inj h1.1 h1.2 h2.1 h2.2 h]
  | [r], s :: t :: b, ha, hb, h => by
    have h1 := ha r (by simp)
    exact (no_mark 44 _ _ _ (rg_no_comma r h1.1 h1.2) h).elim
  | r :: r' :: a, [s], ha, hb, h => by
    have h1 := hb s (by simp)
    exact (no_mark 44 _ _ _ (rg_no_comma s h1.1 h1.2) h.symm).elim
  | r :: r' :: a, s :: t :: b, ha, hb, h => by
    have h1 := ha r (by simp)
    have h2 := hb s (by simp)
    obtain ⟨e1, e2⟩ := split_mark 44 _ _ _ _ (rg_no_comma r h1.1 h1.2) (rg_no_comma s h2.1 h2.2) h
    rw [rg_inj h1.1 h1.2 h2.1 h2.2 e1, rs_inj (fun x hx => ha x (List.mem_cons_of_mem _ hx)) (fun x hx => hb x (List.mem_cons_of_mem _ hx)) e2]
/-- Two right operations that are no Status, of one id, have one line just if they are one. -/
theorem line_inj {i0 i1 kd a kd' a' : Int} {tx tx' : List UInt8} {rs rs' : List (Int × Int)} {t0 t1 t0' t1' : Int} {on on' : Bool} (hk : kd = 1 ∨ kd = 2 ∨ kd = 3) (hk' : kd' = 1 ∨ kd' = 2 ∨ kd' = 3)
    (ha : 0 ≤ a) (ha' : 0 ≤ a') (hr : ∀ r ∈ rs, 0 ≤ r.1 ∧ 0 ≤ r.2) (hr' : ∀ r ∈ rs', 0 ≤ r.1 ∧ 0 ≤ r.2) (h : lineL i0 i1 kd a tx rs t0 t1 on = lineL i0 i1 kd' a' tx' rs' t0' t1' on') :
    kd = kd' ∧ (kd = 1 → a = a' ∧ tx = tx') ∧ (kd ≠ 1 → rs = rs') := by
  unfold lineL at h
  have h := List.append_cancel_left h
  have w1 : ∀ on, wordL 1 on = [32, 105, 110, 115, 32] := fun on => rfl
  have w2 : ∀ on, wordL 2 on = [32, 104, 105, 100, 101, 32] := fun on => rfl
  have w3 : ∀ on, wordL 3 on = [32, 115, 104, 111, 119, 32] := fun on => rfl
  rcases hk with rfl | rfl | rfl <;> rcases hk' with rfl | rfl | rfl
  all_goals simp [w1, w2, w3] at h
  · obtain ⟨e1, e2⟩ := split_mark 32 _ _ _ _ (digit_no 32 (by decide) _ ha) (digit_no 32 (by decide) _ ha') h
    have := (quote_uniq (t := []) (u := []) (by simpa using e2)).1
    exact ⟨rfl, fun _ => ⟨itoa_inj ha ha' e1, this⟩, fun h => absurd rfl h⟩
  · exact ⟨rfl, ⟨fun h => absurd h (by decide), fun _ => rs_inj hr hr' h⟩⟩
  · exact ⟨rfl, ⟨fun h => absurd h (by decide), fun _ => rs_inj hr hr' h⟩⟩
end Go.Proofs.YtkdhomiieenfnaaGreatDoor.O

namespace Go.Proofs.YtkdhomiieenfnaaGreatDoor.O
open Go.RowKit Go.Proofs Go.Joins Go.Proofs.YtkdhomiieenfnaaGreatDoor.U Go.Proofs.YtkdhomiieenfnaaGreatDoor.Txt
set_option linter.unusedVariables false
set_option linter.unusedSimpArgs false
attribute [local go_sem] id_eq
attribute [local go_sem ↓] Go.wp_at_zero Go.wp_at_succ

/-- What Print reads of memory. -/
structure EnvO (w : World) : Prop where
  bars : Bars w
  tz : Tz16 w
  pow : Lib.TabIs Tryz.prog w "internal/strconv.uint64pow10" .u64 Lib.pow10Tab
theorem EnvO.below {w w' : World} (h : EnvO w) (hb : Below w.heap.size w w') : EnvO w' :=
  ⟨h.bars.below hb, h.tz.below hb, Lib.tabBelow_of_tabIs h.pow w' hb⟩

theorem add_str (a b : ByteArray) (h : a.size + b.size ≤ 9223372036854775807) : ∀ W : World, (Op.stringOp .add a b).run Tryz.prog W = .ok (.string (a ++ b)) W := fun W => run_string_add_sum W a b h
def iL (n : Int) : ByteArray := ⟨(Lib.itoa n).toArray⟩
theorem Itoa_any (n : Int) (w : World) (h0 : -9223372036854775808 ≤ n) (h1 : n ≤ 9223372036854775807) (hE : EnvO w) : Calls Tryz.prog 71 #[.int .i64 n] w fun e w' => e = .returned (.string (iL n)) ∧ Below w.heap.size w w' := by
  refine (Tryz.strconv_Itoa n h0 h1 w hE.pow).mono ?_
  rintro e w' ⟨rfl, k, os, rfl⟩
  exact ⟨rfl, Lib.below_grow _ w (Nat.le_refl _) k os⟩
theorem iL_size (n : Int) (h0 : -9223372036854775808 ≤ n) (h1 : n ≤ 9223372036854775807) : (iL n).size ≤ 21 := Lib.itoa_length_le n h0 h1
theorem iL_list (n : Int) : (iL n).data.toList = Lib.itoa n := rfl

/-- A world behind w, with the id's own block. -/
structure IdBox (w W : World) (a b : Int) : Prop where
  below : Below w.heap.size w W
  box : ∃ t fr, W.heap[w.heap.size]? = some (.cells #[.int .i64 a, .int .i64 b] t fr)
theorem IdBox.new (w : World) (a b : Int) (t : TypeId) : IdBox w (w.alloc (.cells #[.int .i64 a, .int .i64 b] t)) a b := ⟨below_alloc1 w _, t, (0, 0), heap_alloc_new w _⟩
theorem IdBox.drew {w W : World} {a b : Int} (h : IdBox w W a b) : IdBox w W.drew a b := ⟨h.below.drew, h.box⟩
theorem IdBox.step {w W W' : World} {a b : Int} (h : IdBox w W a b) (hb : Below W.heap.size W W') : IdBox w W' a b :=
  ⟨h.below.trans (hb.mono h.below.size), by obtain ⟨t, fr, e⟩ := h.box; exact ⟨t, fr, by rw [hb.block _ (Array.getElem?_eq_some_iff.1 e).1]; exact e⟩⟩
theorem IdBox.c0 {w W : World} {a b : Int} (h : IdBox w W a b) : W.cell? ⟨w.heap.size, 0, none⟩ = some (.int .i64 a) := by obtain ⟨t, fr, e⟩ := h.box; simp [World.cell?, e]
theorem IdBox.c1 {w W : World} {a b : Int} (h : IdBox w W a b) : W.cell? ⟨w.heap.size, 1, none⟩ = some (.int .i64 b) := by obtain ⟨t, fr, e⟩ := h.box; simp [World.cell?, e]
set_option maxRecDepth 100000 in
set_option maxHeartbeats 4000000 in
theorem printID_any (a b : Int) (w : World) (ha0 : -9223372036854775808 ≤ a) (ha1 : a ≤ 9223372036854775807) (hb0 : -9223372036854775808 ≤ b) (hb1 : b ≤ 9223372036854775807) (hE : EnvO w) :
    Calls Tryz.prog 70 #[.agg #[.int .i64 a, .int .i64 b]] w fun e w' => e = .returned (.string ⟨(idL a b).toArray⟩) ∧ Below w.heap.size w w' := by
  have HE := Lib.hid hE
  clear hE
  by_cases hz : a = 0 ∧ b = 0
  · obtain ⟨rfl, rfl⟩ := hz
    go_enter Tryz.func70, Tryz.ntmps70
    go_wp2_with fail
    go_ret
    exact ⟨rfl, below_alloc1 _ _⟩
  · have hz' : (decide (a = 0) && decide (b = 0)) = false := by
      by_cases h : a = 0
      · simp [h]; exact fun h2 => hz ⟨h, h2⟩
      · simp [h]
    have e0 : idL a b = Lib.itoa a ++ 46 :: Lib.itoa b := if_neg hz
    have H0 := Lib.hid e0
    have s1 := iL_size a ha0 ha1
    have s2 := iL_size b hb0 hb1
    have HB := Lib.hid (IdBox.new w a b 41)
    have C : ∀ n : Int, -9223372036854775808 ≤ n → n ≤ 9223372036854775807 → ∀ W, IdBox w W a b → Calls Tryz.prog 71 #[.int .i64 n] W fun e w' => e = .returned (.string (iL n)) ∧ IdBox w w' a b ∧ w'.cell? ⟨w.heap.size, 0, none⟩ = some (.int .i64 a) ∧ w'.cell? ⟨w.heap.size, 1, none⟩ = some (.int .i64 b) := fun n h0 h1 W hW => by
      refine (Itoa_any n W h0 h1 (HE.out.below hW.below)).mono ?_
      rintro e w' ⟨rfl, hb⟩
      exact ⟨rfl, hW.step hb, (hW.step hb).c0, (hW.step hb).c1⟩
    have C1 := Lib.hid (C a ha0 ha1)
    have C2 := Lib.hid (C b hb0 hb1)
    clear C
    have hcat : (iL a ++ ⟨#[46]⟩) ++ iL b = (⟨(idL a b).toArray⟩ : ByteArray) := by
      apply ByteArray.ext
      rw [← Array.toList_inj]
      show ((iL a ++ ⟨#[46]⟩) ++ iL b).data.toList = _
      rw [app_list, app_list, iL_list, iL_list, H0.out]
      simp
    have q1 := add_str (iL a) ⟨#[46]⟩ (by show (iL a).size + 1 ≤ _; omega)
    have q2 := add_str (iL a ++ ⟨#[46]⟩) (iL b) (by rw [ByteArray.size_append]; show (iL a).size + 1 + (iL b).size ≤ _; omega)
    rw [hcat] at q2
    clear hcat e0
    generalize iL a ++ ⟨#[46]⟩ = m at q1 q2
    generalize iL a = x at C1 q1
    generalize iL b = y at C2 q2
    generalize (⟨(idL a b).toArray⟩ : ByteArray) = z at q2
    clear H0 HE hz s1 s2
    go_enter Tryz.func70, Tryz.ntmps70
    go_wp2_with fail
    go_cut [2] (fun x wx => x = .string z ∧ Below w.heap.size w wx)
    case first =>
      go_region_with (first
        | ((with_reducible refine (C1.out _ (by first | exact HB.out | exact HB.out.drew | assumption)).mono ?_); rintro e w5 ⟨rfl, hb5, x5, y5⟩)
        | ((with_reducible refine (C2.out _ (by first | exact HB.out | exact HB.out.drew | assumption)).mono ?_); rintro e w5 ⟨rfl, hb5, x5, y5⟩))
      all_goals (go_wp2_with fail)
      all_goals
        go_meet
        exact ⟨rfl, IdBox.below (by assumption)⟩
    case rest =>
      obtain ⟨rfl, hbx⟩ := hcut
      have HBX := Lib.hid hbx
      clear hbx
      go_wp2_with fail
      go_ret
      exact ⟨rfl, HBX.out⟩
end Go.Proofs.YtkdhomiieenfnaaGreatDoor.O

namespace Go.Proofs.YtkdhomiieenfnaaGreatDoor.O
open Go.RowKit Go.Proofs Go.Joins Go.Proofs.YtkdhomiieenfnaaGreatDoor.U Go.Proofs.YtkdhomiieenfnaaGreatDoor.Txt
set_option linter.unusedVariables false
set_option linter.unusedSimpArgs false
attribute [local go_sem] id_eq

/-- The total at which an operation's own error is asked. -/
def ownT (kd a : Int) : Int := if kd = 1 ∧ 0 ≤ a ∧ a ≤ 1048576 then a else 1048576
def ownE (i0 i1 kd a : Int) (tx : ByteArray) (k er : Nat) (rs : List (Int × Int)) (t0 t1 : Int) (on : Bool) : Int := opE i0 i1 kd a tx k er rs t0 t1 on (ownT kd a)

set_option maxRecDepth 100000 in
set_option maxHeartbeats 4000000 in
theorem own_any (i0 i1 kd a : Int) (tx : ByteArray) (A : Option Addr) (n m : Nat) (rs : List (Int × Int)) (t0 t1 : Int) (on : Bool) (k ps er : Nat) (hck : chk tx.data.toList = (k, ps, er)) (w : World) (hs : tx.size ≤ maxLen) (hn : n ≤ 8796093022208) (hR : Ranges w A n rs) (hg : Bars w) :
    Calls Tryz.prog 69 #[opV i0 i1 kd a tx (.slice A n m) t0 t1 on] w fun e w' => e = .returned (.int .i64 (ownE i0 i1 kd a tx k er rs t0 t1 on)) ∧ Below w.heap.size w w' := by
  have HC := Lib.hid (fun total W (hb : Below w.heap.size w W) => opCheck_any i0 i1 kd a tx A n m rs t0 t1 on total k ps er hck W hs hn (hR.below hb) (hg.below hb))
  unfold opV at HC ⊢
  unfold ownE ownT
  clear hR hg
  have hb := Lib.hid (below_alloc1 w (.cells #[.int .i64 i0, .int .i64 i1, .int .i64 kd, .int .i64 a, .string tx, .slice A n m, .int .i64 t0, .int .i64 t1, .bool on] 47))
  by_cases h1 : kd = 1
  · subst h1
    by_cases h2 : 0 ≤ a
    · by_cases h3 : a ≤ 1048576
      · rw [if_pos ⟨rfl, h2, h3⟩]
        go_enter Tryz.func69, Tryz.ntmps69
        go_wp2_with fail
        refine (HC.out _ _ hb.out).mono ?_
        rintro e w' ⟨rfl, hb'⟩
        have HB := Lib.hid (hb.out.trans (hb'.mono hb.out.size))
        clear hb'
        go_wp2_with fail
        go_ret
        exact ⟨rfl, HB.out⟩
      · rw [if_neg (by omega)]
        have d3 : decide (a ≤ 1048576) = false := by simp; omega
        go_enter Tryz.func69, Tryz.ntmps69
        go_wp2_with fail
        refine (HC.out _ _ hb.out).mono ?_
        rintro e w' ⟨rfl, hb'⟩
        have HB := Lib.hid (hb.out.trans (hb'.mono hb.out.size))
        clear hb'
        go_wp2_with fail
        go_ret
        exact ⟨rfl, HB.out⟩
    · rw [if_neg (by omega)]
      have d2 : decide (0 ≤ a) = false := by simp; omega
      go_enter Tryz.func69, Tryz.ntmps69
      go_wp2_with fail
      refine (HC.out _ _ hb.out).mono ?_
      rintro e w' ⟨rfl, hb'⟩
      have HB := Lib.hid (hb.out.trans (hb'.mono hb.out.size))
      clear hb'
      go_wp2_with fail
      go_ret
      exact ⟨rfl, HB.out⟩
  · rw [if_neg (by omega)]
    go_enter Tryz.func69, Tryz.ntmps69
    go_wp2_with fail
    refine (HC.out _ _ hb.out).mono ?_
    rintro e w' ⟨rfl, hb'⟩
    have HB := Lib.hid (hb.out.trans (hb'.mono hb.out.size))
    clear hb'
    go_wp2_with fail
    go_ret
    exact ⟨rfl, HB.out⟩
set_option maxRecDepth 100000 in
set_option maxHeartbeats 4000000 in
theorem Width_any (i0 i1 kd a : Int) (tx : ByteArray) (A : Option Addr) (n m : Nat) (t0 t1 : Int) (on : Bool) (k ps er : Nat) (hck : chk tx.data.toList = (k, ps, er)) (w : World) (hs : tx.size ≤ maxLen) (hg : Bars w) :
    Calls Tryz.prog 44 #[opV i0 i1 kd a tx (.slice A n m) t0 t1 on] w fun e w' => e = .returned (.int .i64 (if kd = 1 then (k : Int) else 0)) ∧ Below w.heap.size w w' := by
  unfold opV
  have HG := Lib.hid (hg.below (below_alloc1 w (.cells #[.int .i64 i0, .int .i64 i1, .int .i64 kd, .int .i64 a, .string tx, .slice A n m, .int .i64 t0, .int .i64 t1, .bool on] 47)))
  have HC := Lib.hid hck
  clear hg hck
  by_cases h1 : kd = 1
  · subst h1
    rw [if_pos rfl]
    go_enter Tryz.func44, Tryz.ntmps44
    go_wp2_with fail
    refine (check_at tx k ps er _ hs HG.out (by rw [HC.out]; exact ⟨rfl, rfl, rfl⟩)).mono ?_
    rintro e w' ⟨rfl, hb'⟩
    have HB := Lib.hid ((below_alloc1 w _).trans (hb'.mono (by simp)))
    clear hb'
    go_wp2_with fail
    go_ret
    exact ⟨rfl, HB.out⟩
  · rw [if_neg h1]
    go_enter Tryz.func44, Tryz.ntmps44
    go_wp2_with fail
    go_ret
    exact ⟨rfl, below_alloc1 _ _⟩
end Go.Proofs.YtkdhomiieenfnaaGreatDoor.O

namespace Go.Proofs.YtkdhomiieenfnaaGreatDoor.U
open Go Go.Proofs.YtkdhomiieenfnaaGreatDoor.Txt
set_option linter.unusedVariables false
set_option linter.unusedSimpArgs false

theorem dig_inj {m n : Nat} (hm : m < 16) (hn : n < 16) (h : dig m = dig n) : m = n := by
  have := congrArg hexV h
  rw [hexV_dig m hm, hexV_dig n hn] at this
  exact Option.some.inj this
theorem encB_ascii (n : Nat) (hn : n < 128) : encB (n : Int) = [UInt8.ofNat n] := by
  rcases encB_cases (n : Int) ((valid_iff _).2 (by omega)) with ⟨_, e⟩ | ⟨h, _⟩ | ⟨h, _⟩ | ⟨h, _⟩
  · rw [e]; simp
  all_goals omega
theorem seq_ascii (b : UInt8) (hb : b.toNat < 128) (t : List UInt8) : seq (b :: t) = some (b.toNat : Int) := by
  have h := seq_enc (b.toNat : Int) ((valid_iff _).2 (by omega)) t
  rw [encB_ascii _ hb] at h
  have e : UInt8.ofNat b.toNat = b := u8_eq b _ rfl
  rwa [e] at h
theorem quote_more (r : Int) (hv : Utf8.valid r = true) (l : List UInt8) : quoteL (encB r ++ l) = 34 :: (qR r ++ (qS l.length l ++ [34])) := by
  unfold quoteL
  have h1 := (encB_len r).1
  rw [qS_some (by rw [List.length_append]; omega) (encB_ne r l) (seq_enc r hv l), List.drop_left, qS_fuel _ l.length l (by rw [List.length_append]; omega) (Nat.le_refl _), List.append_assoc]
/-- How a form begins. -/
theorem form_cases (x : List UInt8) : quoteL x = [34, 34] ∨ (∃ b y, x = b :: y ∧ seq x = none ∧ quoteL x = 34 :: (qX b ++ (qS y.length y ++ [34]))) ∨ (∃ r y, Utf8.valid r = true ∧ x = encB r ++ y ∧ quoteL x = 34 :: (qR r ++ (qS y.length y ++ [34]))) := by
  by_cases hx : x = []
  · subst hx; exact .inl rfl
  cases hs : seq x with
  | none =>
    obtain ⟨b, y, rfl⟩ : ∃ b t, x = b :: t := by cases x with | nil => exact absurd rfl hx | cons b t => exact ⟨b, t, rfl⟩
    refine .inr (.inl ⟨b, y, rfl, rfl, ?_⟩)
    unfold quoteL
    rw [qS_none (by simp) hx hs, seq_none_len hx hs]
    simp
  | some r =>
    obtain ⟨hv, y, rfl⟩ := seq_some hx hs
    exact .inr (.inr ⟨r, y, hv, rfl, quote_more r hv y⟩)
/-- The forms of runes have no \x. -/
theorem qR_no_x (r : Int) (t u : List UInt8) (h : qR r ++ t = 92 :: 120 :: u) (hv : Utf8.valid r = true) : False := by
  have hr := (valid_iff r).1 hv
  unfold qR at h
  split at h
  · simp at h
  split at h
  · simp at h
  split at h
  · simp at h
  split at h
  · simp at h
  split at h
  · rename_i n1 n2 n3 n4 h5
    obtain ⟨n, rfl⟩ : ∃ n : Nat, r = (n : Int) := ⟨r.toNat, by omega⟩
    rw [encB_ascii n (by omega)] at h
    have h6 := congrArg UInt8.toNat (List.cons.inj h).1
    rw [ofNat_toNat n (by omega)] at h6
    simp at h6
    omega
  · simp at h
/-- A rune's form that begins with \u{ is the one of its digits. -/
theorem qR_u (r : Int) (t u : List UInt8) (h : qR r ++ t = 92 :: 117 :: 123 :: u) (hv : Utf8.valid r = true) : u = hexL r.toNat ++ 125 :: t := by
  have hr := (valid_iff r).1 hv
  unfold qR at h
  split at h
  · simp at h
  split at h
  · simp at h
  split at h
  · simp at h
  split at h
  · simp at h
  split at h
  · rename_i n1 n2 n3 n4 h5
    obtain ⟨n, rfl⟩ : ∃ n : Nat, r = (n : Int) := ⟨r.toNat, by omega⟩
    rw [encB_ascii n (by omega)] at h
    have h6 := congrArg UInt8.toNat (List.cons.inj h).1
    rw [ofNat_toNat n (by omega)] at h6
    simp at h6
    omega
  · simp at h
    rw [← h]
theorem hexL_head (n : Nat) : n = 0 ∨ ∃ m t, 1 ≤ m ∧ m < 16 ∧ hexL n = dig m :: t := by
  induction n using Nat.strongRecOn with
  | ind n ih =>
    by_cases h : n < 16
    · by_cases h0 : n = 0
      · exact .inl h0
      · exact .inr ⟨n, [], by omega, h, by rw [hexL, if_pos h]⟩
    · rcases ih (n / 16) (by omega) with h1 | ⟨m, t, h1, h2, e⟩
      · omega
      · exact .inr ⟨m, t ++ [dig (n % 16)], h1, h2, by rw [hexL, if_neg h, e]; rfl⟩
theorem hex_e9 : hexL 233 = [101, 57] := by decide +kernel
theorem enc_e9 : encB 233 = [195, 169] := by decide +kernel
theorem read_more (l : List UInt8) : unqL (34 :: 92 :: 117 :: 123 :: 101 :: 57 :: 125 :: (qS l.length l ++ [34])) = some (195 :: 169 :: l, (quoteL l).length + 6) := by
  have h := quote_more 233 (by decide +kernel) l
  have e : qR 233 = [92, 117, 123, 101, 57, 125] := by
    unfold qR
    rw [if_neg (by decide), if_neg (by decide), if_neg (by decide), if_neg (by decide), if_neg (by decide), show (233 : Int).toNat = 233 from rfl, hex_e9]
    rfl
  rw [e, enc_e9] at h
  have := unq_quote (195 :: 169 :: l) []
  rw [List.append_nil] at this
  have h2 : quoteL (195 :: 169 :: l) = 34 :: 92 :: 117 :: 123 :: 101 :: 57 :: 125 :: (qS l.length l ++ [34]) := h
  rw [h2] at this
  rw [this]
  simp [quoteL]
theorem no_x (a b : Nat) (ha : a < 8) (hb : b < 16) (t : List UInt8) : unqL (34 :: 92 :: 120 :: dig a :: dig b :: t) = none := by
  apply unq_none'
  intro x u h
  rcases form_cases x with e | ⟨c, y, rfl, hs, e⟩ | ⟨r, y, hv, rfl, e⟩
  · rw [e] at h; simp at h
  · rw [e] at h
    simp [qX] at h
    obtain ⟨h1, h2, _⟩ := h
    have hc := c.toNat_lt
    have h1 := dig_inj (by omega) (by omega) h1
    have h2 := dig_inj (by omega) (by omega) h2
    rw [seq_ascii c (by omega)] at hs
    cases hs
  · rw [e, List.cons_append, List.append_assoc] at h
    exact qR_no_x r _ _ (List.cons.inj h).2.symm hv
theorem no_0 (a b : Nat) (ha : a < 16) (hb : b < 16) (t : List UInt8) : unqL (34 :: 92 :: 117 :: 123 :: 48 :: dig a :: dig b :: 125 :: t) = none := by
  apply unq_none'
  intro x u h
  rcases form_cases x with e | ⟨c, y, rfl, hs, e⟩ | ⟨r, y, hv, rfl, e⟩
  · rw [e] at h; simp at h
  · rw [e] at h
    simp [qX] at h
  · rw [e, List.cons_append, List.append_assoc] at h
    have h1 := qR_u r _ _ (List.cons.inj h).2.symm hv
    rcases hexL_head r.toNat with h0 | ⟨m, s, hm, hm', he⟩
    · rw [h0, show hexL 0 = [48] by decide +kernel] at h1
      simp at h1
      exact (dig_ne a ha).1 h1.1
    · rw [he] at h1
      simp at h1
      have := dig_inj (m := 0) (by omega) hm' (by rw [← h1.1]; decide +kernel)
      omega
theorem no_E9 (t : List UInt8) : unqL (34 :: 92 :: 117 :: 123 :: 69 :: t) = none := by
  apply unq_none'
  intro x u h
  rcases form_cases x with e | ⟨c, y, rfl, hs, e⟩ | ⟨r, y, hv, rfl, e⟩
  · rw [e] at h; simp at h
  · rw [e] at h
    simp [qX] at h
  · rw [e, List.cons_append, List.append_assoc] at h
    have h1 := qR_u r _ _ (List.cons.inj h).2.symm hv
    have hp := hexL_pos r.toNat
    have hd := hexL_digs r.toNat
    cases hx : hexL r.toNat with
    | nil => rw [hx] at hp; simp at hp
    | cons c s =>
      rw [hx] at h1 hd
      obtain ⟨m, hm, e2⟩ := hd c (by simp)
      simp at h1
      have := dig_val m hm
      rw [← e2, ← h1.1] at this
      simp at this
      split at this <;> omega
theorem no_bytes (t : List UInt8) : unqL (34 :: 92 :: 120 :: 99 :: 51 :: 92 :: 120 :: 97 :: 57 :: t) = none := by
  apply unq_none'
  intro x u h
  rcases form_cases x with e | ⟨c, y, rfl, hs, e⟩ | ⟨r, y, hv, rfl, e⟩
  · rw [e] at h; simp at h
  · rw [e] at h
    simp [qX] at h
    obtain ⟨h1, h2, h3⟩ := h
    have hc := c.toNat_lt
    have g1 := dig_inj (m := 12) (n := c.toNat / 16) (by omega) (by omega) (by rw [← h1]; decide +kernel)
    have g2 := dig_inj (m := 3) (n := c.toNat % 16) (by omega) (by omega) (by rw [← h2]; decide +kernel)
    have hc' : c = 195 := by rw [← UInt8.toNat_inj]; simp; omega
    rcases form_cases y with e' | ⟨d, z, rfl, hs', e'⟩ | ⟨r, z, hv, rfl, e'⟩
    · have e2 : qS y.length y ++ [34] = [34] := (List.cons.inj e').2
      rw [show qS y.length y ++ 34 :: u = (qS y.length y ++ [34]) ++ u by simp, e2] at h3
      simp at h3
    · have e2 := (List.cons.inj e').2
      rw [show ∀ z, qS z.length z ++ 34 :: u = (qS z.length z ++ [34]) ++ u from fun z => by simp, e2] at h3
      simp [qX] at h3
      obtain ⟨h4, h5, _⟩ := h3
      have hd := d.toNat_lt
      have g3 := dig_inj (m := 10) (n := d.toNat / 16) (by omega) (by omega) (by rw [← h4]; decide +kernel)
      have g4 := dig_inj (m := 9) (n := d.toNat % 16) (by omega) (by omega) (by rw [← h5]; decide +kernel)
      have hd' : d = 169 := by rw [← UInt8.toNat_inj]; simp; omega
      have hq := seq_enc 233 (by decide +kernel) z
      rw [enc_e9] at hq
      rw [hc', hd'] at hs
      have hs2 : seq ([195, 169] ++ z) = none := hs
      rw [hq] at hs2
      cases hs2
    · have e2 := (List.cons.inj e').2
      rw [show ∀ z, qS z.length z ++ 34 :: u = (qS z.length z ++ [34]) ++ u from fun z => by simp, e2, List.append_assoc] at h3
      exact qR_no_x r _ _ h3.symm hv
  · rw [e, List.cons_append, List.append_assoc] at h
    exact qR_no_x r _ _ (List.cons.inj h).2.symm hv
theorem no_end (l : List UInt8) : unqL (34 :: qS l.length l) = none := by
  apply unq_none'
  intro x u h
  have h1 : quoteL l ++ [] = quoteL x ++ (u ++ [34]) := by
    rw [List.append_nil, ← List.append_assoc, ← h]; rfl
  have := (quote_uniq h1).2
  simp at this
theorem qS_le : ∀ (f : Nat) (l : List UInt8), (qS f l).length ≤ 10 * l.length
  | 0, l => by simp [qS]
  | f + 1, l => by
    by_cases hl : l = []
    · subst hl; simp [qS]
    cases hs : seq l with
    | none =>
      rw [qS_none (by omega) hl hs, seq_none_len hl hs]
      have := qS_le f (l.drop 1)
      have h0 := List.length_pos_iff.2 hl
      rw [List.length_append, show (qX (l.headD 0)).length = 4 from rfl, Nat.add_sub_cancel]
      rw [List.length_drop] at this
      omega
    | some r =>
      obtain ⟨hv, t, rfl⟩ := seq_some hl hs
      have hr := (valid_iff r).1 hv
      rw [qS_some (by omega) hl hs, List.drop_left]
      have h1 := (encB_len r).1
      have := qS_le f t
      have h2 := qR_le r (by omega)
      rw [List.length_append, List.length_append, Nat.add_sub_cancel]
      omega
theorem qR_ge (r : Int) : (encB r).length ≤ (qR r).length := by
  have h4 : (encB r).length ≤ 4 := (encB_len r).2
  have one : ∀ n : Int, n = 34 ∨ n = 92 ∨ n = 10 ∨ n = 9 → (encB n).length = 1 := fun n hn => by
    rcases hn with rfl | rfl | rfl | rfl <;> decide +kernel
  unfold qR
  split
  · rename_i h; rw [one r (.inl h)]; decide
  · split
    · rename_i h; rw [one r (.inr (.inl h))]; decide
    · split
      · rename_i h; rw [one r (.inr (.inr (.inl h)))]; decide
      · split
        · rename_i h; rw [one r (.inr (.inr (.inr h)))]; decide
        · split
          · exact Nat.le_refl _
          · have := hexL_pos r.toNat
            simp only [List.length_append, List.length_cons, List.length_nil]
            omega
theorem qS_ge : ∀ (f : Nat) (l : List UInt8), l.length ≤ f → l.length ≤ (qS f l).length
  | 0, l, h => by omega
  | f + 1, l, h => by
    by_cases hl : l = []
    · subst hl; exact Nat.zero_le _
    cases hs : seq l with
    | none =>
      rw [qS_none (by omega) hl hs, seq_none_len hl hs]
      have := qS_ge f (l.drop 1) (by rw [List.length_drop]; omega)
      rw [List.length_append, show (qX (l.headD 0)).length = 4 from rfl, Nat.add_sub_cancel]
      rw [List.length_drop] at this
      omega
    | some r =>
      rw [qS_some (by omega) hl hs]
      have h1 := (encB_len r).1
      have := qS_ge f (l.drop (encB r).length) (by rw [List.length_drop]; omega)
      have h2 := qR_ge r
      rw [List.length_append, Nat.add_sub_cancel]
      rw [List.length_drop] at this
      omega
/-- What Unquote reads is no longer than the form. -/
theorem unq_len {l x : List UInt8} {n : Nat} (h : unqL l = some (x, n)) : x.length ≤ l.length := by
  obtain ⟨t, rfl, _⟩ := unq_sound h
  have := qS_ge x.length x (Nat.le_refl _)
  rw [List.length_append, quoteL_len]
  omega
end Go.Proofs.YtkdhomiieenfnaaGreatDoor.U

namespace Go.Proofs.YtkdhomiieenfnaaGreatDoor.O
open Go.RowKit Go.Proofs Go.Joins Go.Proofs.YtkdhomiieenfnaaGreatDoor.U Go.Proofs.YtkdhomiieenfnaaGreatDoor.Txt
set_option linter.unusedVariables false
set_option linter.unusedSimpArgs false

theorem chk_ok_text {l : List UInt8} {k ps : Nat} (h : chk l = (k, ps, 0)) : ∃ rs, l = enc rs ∧ k = rs.length ∧ ∀ r ∈ rs, TxtRune r := by
  obtain ⟨rs, t, hg, he, ht⟩ := split_text l.length l (Nat.le_refl _)
  rcases ht with rfl | ⟨hn, hf⟩
  · rw [List.append_nil] at he
    rw [he, chk_text rs hg] at h
    exact ⟨rs, he, (Prod.mk.inj h).1.symm, hg⟩
  · rw [he, chk_fault rs hg t hn hf] at h
    have := (Prod.mk.inj (Prod.mk.inj h).2).2
    unfold fault at this
    split at this <;> cases this
theorem chk_ok_size {l : List UInt8} {k ps : Nat} (h : chk l = (k, ps, 0)) : l.length ≤ 4 * k := by
  obtain ⟨rs, rfl, rfl, _⟩ := chk_ok_text h
  exact enc_len_le rs
theorem span_ok : ∀ (rs : List (Int × Int)) (p : Option Int), spanE p rs = 0 → ∀ r ∈ rs, (0 ≤ r.1 ∧ r.1 ≤ 1048576) ∧ (0 ≤ r.2 ∧ r.2 ≤ 1048576)
  | [], _, _, r, hr => by cases hr
  | (lo, hi) :: rs, p, h, r, hr => by
    have h0 : (0 ≤ lo ∧ hi ≤ 1048576 ∧ lo < hi) ∧ spanE (some hi) rs = 0 := by
      cases p with
      | none =>
        simp only [spanE] at h
        split at h
        · cases h
        · exact ⟨by omega, by simpa using h⟩
      | some q =>
        simp only [spanE] at h
        split at h
        · cases h
        · split at h
          · cases h
          · exact ⟨by omega, h⟩
    obtain ⟨h1, h⟩ := h0
    rcases List.mem_cons.1 hr with rfl | hr
    · simp only; omega
    · exact span_ok rs (some hi) h r hr
/-- What an OK says. -/
structure OkOp (i0 i1 kd a : Int) (tx : ByteArray) (k er : Nat) (rs : List (Int × Int)) (t0 t1 : Int) (on : Bool) : Prop where
  kind : kd = 1 ∨ kd = 2 ∨ kd = 3 ∨ kd = 4
  id : (0 ≤ i0 ∧ i0 ≤ 1024) ∧ (0 ≤ i1 ∧ i1 ≤ 1024)
  extra : extraB kd a tx rs.length t0 t1 on = false
  ins : kd = 1 → er = 0 ∧ 1 ≤ k ∧ k ≤ 256 ∧ 0 ≤ a ∧ a ≤ 1048576
  cover : kd = 2 ∨ kd = 3 → (rs ≠ [] ∧ rs.length ≤ 32768) ∧ ∀ r ∈ rs, (0 ≤ r.1 ∧ r.1 ≤ 1048576) ∧ (0 ≤ r.2 ∧ r.2 ≤ 1048576)
  stat : kd = 4 → (0 ≤ t0 ∧ t0 ≤ 1024) ∧ (0 ≤ t1 ∧ t1 ≤ 1024)
theorem idB_le {a b : Int} (h : idB a b = true) : (0 ≤ a ∧ a ≤ 1024) ∧ (0 ≤ b ∧ b ≤ 1024) := by
  unfold idB at h
  simp at h
  omega
theorem opE_ok {i0 i1 kd a : Int} {tx : ByteArray} {k er : Nat} {rs : List (Int × Int)} {t0 t1 : Int} {on : Bool} {total : Int} (h : opE i0 i1 kd a tx k er rs t0 t1 on total = 0) : OkOp i0 i1 kd a tx k er rs t0 t1 on := by
  unfold opE at h
  split at h
  · cases h
  split at h
  · cases h
  split at h
  · cases h
  split at h
  · cases h
  rename_i g1 g2 g3 g4
  have hid : (0 ≤ i0 ∧ i0 ≤ 1024) ∧ (0 ≤ i1 ∧ i1 ≤ 1024) := by
    by_cases hz : i0 = 0 ∧ i1 = 0
    · omega
    · by_cases hb : idB i0 i1 = false
      · exact absurd ⟨hz, hb⟩ g3
      · exact idB_le (by simpa using hb)
  have hk : kd = 1 ∨ kd = 2 ∨ kd = 3 ∨ kd = 4 := by omega
  have hx : extraB kd a tx rs.length t0 t1 on = false := by simpa using g4
  by_cases h1 : kd = 1
  · rw [if_pos h1] at h
    unfold insE at h
    split at h
    · omega
    split at h
    · cases h
    split at h
    · cases h
    split at h
    · cases h
    split at h
    · cases h
    exact ⟨hk, hid, hx, fun _ => by omega, fun h => by omega, fun h => by omega⟩
  rw [if_neg h1] at h
  by_cases h4 : kd = 4
  · rw [if_pos h4] at h
    split at h
    · cases h
    rename_i g5
    have : idB t0 t1 = true := by
      by_cases hb : idB t0 t1 = false
      · exact absurd (.inl hb) g5
      · simpa using hb
    exact ⟨hk, hid, hx, fun h => by omega, fun h => by omega, fun _ => idB_le this⟩
  · rw [if_neg h4] at h
    unfold rngE at h
    split at h
    · cases h
    rename_i g5
    split at h
    · exact absurd h (by assumption)
    rename_i g6
    have g7 : spanM rs = 0 := by omega
    have g8 : rs.length ≤ 32768 := by
      unfold spanM at g7
      split at g7
      · cases g7
      · omega
    rw [spanM_small g8] at g7
    exact ⟨hk, hid, hx, fun h => absurd h h1, fun _ => ⟨⟨g5, g8⟩, span_ok rs none g7⟩, fun h => absurd h h4⟩
/-- An OK's ranges are not many. -/
theorem OkOp.len {i0 i1 kd a : Int} {tx : ByteArray} {k er : Nat} {rs : List (Int × Int)} {t0 t1 : Int} {on : Bool} (h : OkOp i0 i1 kd a tx k er rs t0 t1 on) : rs.length ≤ 32768 := by
  by_cases hc : kd = 2 ∨ kd = 3
  · exact (h.cover hc).1.2
  · have hx := h.extra
    unfold extraB at hx
    have h2 : ¬ kd = 2 := fun e => hc (.inl e)
    have h3 : ¬ kd = 3 := fun e => hc (.inr e)
    simp [h2, h3] at hx
    by_cases h0 : rs.length = 0
    · omega
    · exact absurd hx.1.2 (by intro e; exact h0 (by simp [e]))
theorem idL_le (a b : Int) (ha : 0 ≤ a ∧ a ≤ 1024) (hb : 0 ≤ b ∧ b ≤ 1024) : (idL a b).length ≤ 43 := by
  unfold idL
  split
  · decide
  · have h1 := Lib.itoa_length_le a (by omega) (by omega)
    have h2 := Lib.itoa_length_le b (by omega) (by omega)
    rw [List.length_append, List.length_cons]
    omega
end Go.Proofs.YtkdhomiieenfnaaGreatDoor.O
