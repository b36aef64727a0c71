/- Numbers and marks in plain Lean: what is written is read again. A line that Print writes is read as the operation that it was written of. The plain law of OpTakesBack: what Apply makes of a deed's operation, and of its inverse. The reference's Apply where it refuses, and of an Ins. The reference's Apply of an Ins. The reference's Apply of a Hide or Show. The reference's Apply answers as Apply does. redraftlaw04.sameRuns: two equal lists of runs. -/
import Derived.Lib.AtoiAllCases
import Derived.Lib.SplitLaws
import Derived.Lib.ItoaMem
import Derived.Test.YtkdhomiieenfnaaGreatDoorLs32
import Derived.Test.YtkdhomiieenfnaaGreatDoorLwRefP
import Derived.Test.YtkdhomiieenfnaaGreatDoorOrRight
import Derived.Test.YtkdhomiieenfnaaGreatDoorLs45
import Derived.Test.YtkdhomiieenfnaaGreatDoorLwCells
import Derived.Test.YtkdhomiieenfnaaGreatDoorLs43
import Derived.Test.YtkdhomiieenfnaaGreatDoorLs40
namespace Go.Proofs.YtkdhomiieenfnaaGreatDoor.O
open Go
set_option linter.unusedVariables false
set_option linter.unusedSimpArgs false

theorem parse_app : ∀ (a b : List UInt8) (n u : Nat), Lib.parseUint10 n a = .ok u → Lib.parseUint10 n (a ++ b) = Lib.parseUint10 u b
  | [], b, n, u, h => by
    simp only [Lib.parseUint10] at h
    injection h with h
    rw [h]; rfl
  | c :: r, b, n, u, h => by
    rw [List.cons_append]
    rw [Lib.parseUint10] at h ⊢
    by_cases h1 : 48 ≤ c.toNat ∧ c.toNat ≤ 57
    · rw [if_pos h1] at h ⊢
      by_cases h2 : 1844674407370955162 ≤ n
      · rw [if_pos h2] at h; cases h
      · rw [if_neg h2] at h ⊢
        by_cases h3 : 18446744073709551616 ≤ n * 10 + (c.toNat - 48)
        · rw [if_pos h3] at h; cases h
        · rw [if_neg h3] at h ⊢
          exact parse_app r b _ u h
    · rw [if_neg h1] at h; cases h
theorem digit_nat (d : Nat) (h : d < 10) : (UInt8.ofNat (48 + d)).toNat = 48 + d := by simp; omega
theorem parse_dec (n : Nat) (hn : n < 1000000000000000000) : Lib.parseUint10 0 (Lib.decDigits n) = .ok n := by
  induction n using Nat.strongRecOn with
  | ind n ih =>
    rw [Lib.decDigits]
    split
    · rename_i h
      rw [Lib.parseUint10, digit_nat n h, if_pos (by omega), if_neg (by omega), if_neg (by omega), Lib.parseUint10]
      congr 1; omega
    · rename_i h
      rw [parse_app _ _ _ _ (ih (n / 10) (by omega) (by omega)), Lib.parseUint10, digit_nat _ (Nat.mod_lt _ (by decide)), if_pos (by omega), if_neg (by omega), if_neg (by omega), Lib.parseUint10]
      congr 1; omega
theorem dec_head (n : Nat) : ∃ c r, Lib.decDigits n = c :: r ∧ 48 ≤ c.toNat ∧ c.toNat ≤ 57 := by
  induction n using Nat.strongRecOn with
  | ind n ih =>
    rw [Lib.decDigits]
    split
    · rename_i h
      exact ⟨_, [], rfl, by rw [digit_nat n h]; omega, by rw [digit_nat n h]; omega⟩
    · rename_i h
      obtain ⟨c, r, e, h1⟩ := ih (n / 10) (by omega)
      exact ⟨c, _, by rw [e]; rfl, h1⟩
theorem atoi_dec (n : Nat) (hn : n < 1000000000000000000) : Lib.atoiAll (Lib.decDigits n) = .ok (n : Int) := by
  obtain ⟨c, r, e, h1, h2⟩ := dec_head n
  have hp := parse_dec n hn
  rw [e] at hp ⊢
  rw [Lib.atoiAll_plain c r (by omega) (by omega)]
  unfold Lib.parseMag
  rw [if_neg (by simp), hp]
  unfold Lib.signless
  simp only
  rw [if_neg (by omega)]
theorem atoi_itoa (n : Int) (h0 : 0 ≤ n) (hn : n < 1000000000000000000) : Lib.atoiAll (Lib.itoa n) = .ok n := by
  unfold Lib.itoa
  rw [if_neg (by omega), atoi_dec _ (by omega)]
  congr 1; omega

theorem index_mark (c : UInt8) : ∀ (a b : List UInt8), (∀ x ∈ a, x ≠ c) → Lib.index (a ++ c :: b) [c] = (a.length : Nat)
  | [], b, _ => by rw [List.nil_append, Lib.index]; simp [List.isPrefixOf]
  | x :: a, b, h => by
    have hx : x ≠ c := h x (by simp)
    have ih := index_mark c a b (fun y hy => h y (by simp [hy]))
    rw [List.cons_append, Lib.index, ih]
    have : ((a.length : Nat) : Int) ≠ -1 := by omega
    simp [List.isPrefixOf, Ne.symm hx, this]
theorem index_no (c : UInt8) : ∀ (a : List UInt8), (∀ x ∈ a, x ≠ c) → Lib.index a [c] = -1
  | [], _ => by rw [Lib.index]; rfl
  | x :: a, h => by
    have hx : x ≠ c := h x (by simp)
    rw [Lib.index, index_no c a (fun y hy => h y (by simp [hy]))]
    simp [List.isPrefixOf, Ne.symm hx]
theorem cut_mark (c : UInt8) (a b : List UInt8) (h : ∀ x ∈ a, x ≠ c) : Lib.cut (a ++ c :: b) [c] = (a, b, true) := by
  unfold Lib.cut
  rw [index_mark c a b h, if_pos (by omega)]
  have e : ((a.length : Nat) : Int).toNat = a.length := by omega
  rw [e]
  simp [List.drop_append]
theorem cut_no (c : UInt8) (a : List UInt8) (h : ∀ x ∈ a, x ≠ c) : Lib.cut a [c] = (a, [], false) := by
  unfold Lib.cut
  rw [index_no c a h, if_neg (by decide)]
theorem count_no (c : UInt8) (a : List UInt8) (h : ∀ x ∈ a, x ≠ c) : a.count c = 0 := List.count_eq_zero.2 fun hc => h c hc rfl
theorem split_mark' (c : UInt8) (a b : List UInt8) (h : ∀ x ∈ a, x ≠ c) : Lib.split (a ++ c :: b) [c] = a :: Lib.split b [c] := by
  unfold Lib.split
  rw [Lib.count_one, Lib.count_one, List.count_append, count_no c a h, List.count_cons_self, Nat.zero_add, Lib.splitK, index_mark c a b h]
  rw [if_neg (by simp)]
  have e : ((a.length : Nat) : Int).toNat = a.length := by omega
  have e1 : List.drop (a.length + 1) a = [] := List.drop_of_length_le (by omega)
  rw [e]
  simp [List.drop_append, e1]
theorem split_no (c : UInt8) (a : List UInt8) (h : ∀ x ∈ a, x ≠ c) : Lib.split a [c] = [a] := by
  unfold Lib.split
  rw [Lib.count_one, count_no c a h, Lib.splitK]
end Go.Proofs.YtkdhomiieenfnaaGreatDoor.O

namespace Go.Proofs.YtkdhomiieenfnaaGreatDoor.O
open Go Go.RowKit Go.Proofs Go.Joins Go.Proofs.YtkdhomiieenfnaaGreatDoor.U Go.Proofs.YtkdhomiieenfnaaGreatDoor.Txt
set_option linter.unusedVariables false
set_option linter.unusedSimpArgs false

theorem num_itoa {n : Int} (h : 0 ≤ n) (h2 : n ≤ 1048576) : numOf (Lib.itoa n) = n := by unfold numOf; rw [atoi_itoa n h (by omega)]
theorem pair_num {c : UInt8} (hc : c.toNat < 48) {a b : Int} (ha : 0 ≤ a ∧ a ≤ 1048576) (hb : 0 ≤ b ∧ b ≤ 1048576) : pairL (Lib.itoa a ++ c :: Lib.itoa b) [c] = (a, b) := by
  unfold pairL
  rw [cut_mark c _ _ (digit_no c hc a ha.1)]
  simp only [num_itoa ha.1 ha.2, num_itoa hb.1 hb.2]
theorem pair_id {a b : Int} (ha : 0 ≤ a ∧ a ≤ 1024) (hb : 0 ≤ b ∧ b ≤ 1024) : pairL (idL a b) [46] = (a, b) := by
  unfold idL
  by_cases h : a = 0 ∧ b = 0
  · rw [if_pos h]
    obtain ⟨rfl, rfl⟩ := h
    decide +kernel
  · rw [if_neg h]
    exact pair_num (by decide) (by omega) (by omega)
theorem id_no32 {a b : Int} (ha : 0 ≤ a) (hb : 0 ≤ b) : ∀ z ∈ idL a b, z ≠ 32 := by
  unfold idL
  split
  · intro z hz; rw [List.mem_singleton.1 hz]; decide
  · intro z hz
    rcases List.mem_append.1 hz with h | h
    · exact digit_no 32 (by decide) a ha z h
    · rcases List.mem_cons.1 h with rfl | h
      · decide
      · exact digit_no 32 (by decide) b hb z h
theorem split_rs : ∀ (rs : List (Int × Int)), rs ≠ [] → (∀ r ∈ rs, (0 ≤ r.1 ∧ r.1 ≤ 1048576) ∧ (0 ≤ r.2 ∧ r.2 ≤ 1048576)) → (Lib.split (rsL rs) [44]).map (pairL · [45]) = rs
  | [], h, _ => absurd rfl h
  | [r], _, h => by
    have h1 := h r (by simp)
    rw [rsL, split_no 44 _ (rg_no_comma r h1.1.1 h1.2.1)]
    have := pair_num (c := 45) (by decide) h1.1 h1.2
    simp only [List.map_cons, List.map_nil]
    unfold rgL
    rw [this]
  | r :: s :: t, _, h => by
    have h1 := h r (by simp)
    rw [rsL, split_mark' 44 _ _ (rg_no_comma r h1.1.1 h1.2.1)]
    have := pair_num (c := 45) (by decide) h1.1 h1.2
    rw [List.map_cons, split_rs (s :: t) (by simp) (fun x hx => h x (List.mem_cons_of_mem _ hx))]
    unfold rgL
    rw [this]
theorem read_of {s w rest id : List UInt8} (hid : ∀ z ∈ id, z ≠ 32) (hw : ∀ z ∈ w, z ≠ 32) (h : s = id ++ 32 :: (w ++ 32 :: rest)) : rdId s = pairL id [46] ∧ rdW s = w ∧ rdR s = rest := by
  subst h
  have e1 := cut_mark 32 id (w ++ 32 :: rest) hid
  have e2 := cut_mark 32 w rest hw
  exact ⟨by unfold rdId; rw [e1], by unfold rdW; rw [e1]; simp only; rw [e2], by unfold rdR; rw [e1]; simp only; rw [e2]⟩
theorem unqT_quote (x : List UInt8) : unqT (quoteL x) = x := by
  have := unq_quote x []
  rw [List.append_nil] at this
  unfold unqT
  rw [this]
theorem toList_mk (l : List UInt8) : (⟨l.toArray⟩ : ByteArray).toList = l := by rw [toList_eq]
/-- Parse of print gives it back. -/
theorem read_line (L : OpL) (h : L.own = 0) : readL L.line = L := by
  obtain ⟨i0, i1, kd, a, tx, rs, t0, t1, on⟩ := L
  have hok := opE_ok h
  have hx := hok.extra
  have hid := pair_id hok.id.1 hok.id.2
  have hid2 := id_no32 hok.id.1.1 hok.id.2.1
  unfold extraB at hx
  rw [toList_mk] at hx
  unfold OpL.line lineL
  simp only at hok hx ⊢
  rcases hok.kind with rfl | rfl | rfl | rfl
  · obtain ⟨_, _, _, ha, ha2⟩ := hok.ins rfl
    obtain ⟨g1, g2, g3, g4⟩ : rs = [] ∧ t0 = 0 ∧ t1 = 0 ∧ on = false := by
      simp at hx
      obtain ⟨x1, x2, x3⟩ := hx
      exact ⟨x1, x2.1, x2.2, x3⟩
    subst g1 g2 g3 g4
    obtain ⟨e1, e2, e3⟩ := read_of (s := idL i0 i1 ++ (wordL 1 false ++ (Lib.itoa a ++ 32 :: quoteL tx))) (w := [105, 110, 115]) (rest := Lib.itoa a ++ 32 :: quoteL tx) hid2 (by decide) (by unfold wordL; simp)
    simp only [if_pos] at *
    unfold readL
    rw [e1, e2, e3, if_pos rfl, hid, cut_mark 32 _ _ (digit_no 32 (by decide) a ha)]
    simp only [num_itoa ha ha2, unqT_quote]
  · obtain ⟨⟨hne, _⟩, hb⟩ := hok.cover (.inl rfl)
    obtain ⟨g0, g1, g2, g3, g4⟩ : a = 0 ∧ tx = [] ∧ t0 = 0 ∧ t1 = 0 ∧ on = false := by
      simp at hx
      obtain ⟨⟨x1, x2⟩, x3, x4⟩ := hx
      exact ⟨x1, x2, x3.1, x3.2, x4⟩
    subst g0 g1 g2 g3 g4
    obtain ⟨e1, e2, e3⟩ := read_of (s := idL i0 i1 ++ (wordL 2 false ++ rsL rs)) (w := [104, 105, 100, 101]) (rest := rsL rs) hid2 (by decide) (by unfold wordL; simp)
    rw [if_neg (by decide), if_pos (.inl rfl)]
    unfold readL
    rw [e1, e2, e3, if_neg (by decide), if_pos rfl, hid, split_rs rs hne hb]
  · obtain ⟨⟨hne, _⟩, hb⟩ := hok.cover (.inr rfl)
    obtain ⟨g0, g1, g2, g3, g4⟩ : a = 0 ∧ tx = [] ∧ t0 = 0 ∧ t1 = 0 ∧ on = false := by
      simp at hx
      obtain ⟨⟨x1, x2⟩, x3, x4⟩ := hx
      exact ⟨x1, x2, x3.1, x3.2, x4⟩
    subst g0 g1 g2 g3 g4
    obtain ⟨e1, e2, e3⟩ := read_of (s := idL i0 i1 ++ (wordL 3 false ++ rsL rs)) (w := [115, 104, 111, 119]) (rest := rsL rs) hid2 (by decide) (by unfold wordL; simp)
    rw [if_neg (by decide), if_pos (.inr rfl)]
    unfold readL
    rw [e1, e2, e3, if_neg (by decide), if_neg (by decide), if_pos rfl, hid, split_rs rs hne hb]
  · obtain ⟨k1, k2⟩ := hok.stat rfl
    obtain ⟨g0, g1, g2⟩ : a = 0 ∧ tx = [] ∧ rs = [] := by
      simp at hx
      obtain ⟨⟨x1, x2⟩, x3⟩ := hx
      exact ⟨x1, x2, x3⟩
    subst g0 g1 g2
    have hid' := pair_id k1 k2
    rw [if_neg (by decide), if_neg (by decide)]
    cases on with
    | false =>
      obtain ⟨e1, e2, e3⟩ := read_of (s := idL i0 i1 ++ (wordL 4 false ++ idL t0 t1)) (w := [111, 102, 102]) (rest := idL t0 t1) hid2 (by decide) (by unfold wordL; simp)
      unfold readL
      rw [e1, e2, e3, if_neg (by decide), if_neg (by decide), if_neg (by decide), if_neg (by decide), if_pos rfl, hid, hid']
    | true =>
      obtain ⟨e1, e2, e3⟩ := read_of (s := idL i0 i1 ++ (wordL 4 true ++ idL t0 t1)) (w := [111, 110]) (rest := idL t0 t1) hid2 (by decide) (by unfold wordL; simp)
      unfold readL
      rw [e1, e2, e3, if_neg (by decide), if_neg (by decide), if_neg (by decide), if_pos rfl, hid, hid']
end Go.Proofs.YtkdhomiieenfnaaGreatDoor.O

namespace Go.Proofs.YtkdhomiieenfnaaGreatDoor.Lw
open Go.RowKit Go.Proofs Go.Proofs.YtkdhomiieenfnaaGreatDoor.U Go.Proofs.YtkdhomiieenfnaaGreatDoor.Txt Go.Proofs.YtkdhomiieenfnaaGreatDoor.Rp Go.Proofs.YtkdhomiieenfnaaGreatDoor.O
set_option linter.unusedVariables false
set_option linter.unusedSimpArgs false

theorem up_nrm : ∀ {p : Int} {rs : List (Int × Int)}, Up p rs → Nrm (p + 1) rs
  | p, [], _ => trivial
  | p, (a, b) :: r, h => by
    obtain ⟨h1, h2, h3⟩ := h
    exact ⟨by omega, h2, up_nrm h3⟩
/-- Cells put in. -/
def insC (cs : List Cl) (a : Nat) (xs : List Int) (h : Int) : List Cl := cs.take a ++ run xs h ++ cs.drop a
theorem insC_len {cs : List Cl} {a : Nat} (xs : List Int) (h : Int) (ha : a ≤ cs.length) : (insC cs a xs h).length = cs.length + xs.length := by
  unfold insC
  rw [List.length_append, List.length_append, List.length_take, List.length_drop, run_len]
  omega
theorem run_get (xs : List Int) (h : Int) (i : Nat) : (run xs h)[i]? = (xs[i]?).map fun r => (r, h) := by simp [run]
theorem insC_get {cs : List Cl} {a : Nat} (xs : List Int) (h : Int) (ha : a ≤ cs.length) (i : Nat) : (insC cs a xs h)[i]? = if i < a then cs[i]? else if i < a + xs.length then (xs[i - a]?).map (fun r => (r, h)) else cs[i - xs.length]? := by
  unfold insC
  have e1 : (cs.take a).length = a := by rw [List.length_take]; omega
  by_cases h1 : i < a
  · rw [if_pos h1, List.append_assoc, List.getElem?_append_left (by omega), List.getElem?_take_of_lt h1]
  · rw [if_neg h1]
    by_cases h2 : i < a + xs.length
    · rw [if_pos h2, List.getElem?_append_left (by rw [List.length_append, run_len]; omega), List.getElem?_append_right (by omega), e1, run_get]
    · rw [if_neg h2, List.getElem?_append_right (by rw [List.length_append, run_len]; omega), List.length_append, run_len, e1, List.getElem?_drop]
      congr 1; omega
theorem vis_run1 (xs : List Int) {h : Int} (hh : h ≠ 0) : vis (run xs h) = [] := by
  rw [← vpos_vis 0, vpos_run1 xs hh]; rfl
theorem vis_insC1 (cs : List Cl) (a : Nat) (xs : List Int) : vis (insC cs a xs 1) = vis cs := by
  unfold insC
  rw [vis_app, vis_app, vis_run1 xs (by decide), List.append_nil, ← vis_app, List.take_append_drop]
theorem bumpC_insC {cs : List Cl} {a : Nat} {xs : List Int} (ha : a ≤ cs.length) : bumpC 1 [((a : Int), (a : Int) + xs.length)] (insC cs a xs 0) = insC cs a xs 1 := by
  apply List.ext_getElem?
  intro i
  rw [bumpC_get, insC_get xs 0 ha, insC_get xs 1 ha, cov_one]
  by_cases h1 : i < a
  · rw [if_pos h1, if_pos h1, decide_eq_false (by simp only; omega)]
    cases cs[i]? <;> rfl
  · rw [if_neg h1, if_neg h1]
    by_cases h2 : i < a + xs.length
    · rw [if_pos h2, if_pos h2, decide_eq_true (by simp only; omega)]
      cases xs[i - a]? <;> rfl
    · rw [if_neg h2, if_neg h2, decide_eq_false (by simp only; omega)]
      cases cs[i - xs.length]? <;> rfl
theorem insC_mem {cs : List Cl} {a : Nat} {xs : List Int} {h : Int} {c : Cl} (hc : c ∈ insC cs a xs h) : c ∈ cs ∨ (c.2 = h ∧ c.1 ∈ xs) := by
  rcases List.mem_append.1 hc with h1 | h1
  · rcases List.mem_append.1 h1 with h2 | h2
    · exact .inl (List.mem_of_mem_take h2)
    · exact .inr (run_mem h2)
  · exact .inl (List.mem_of_mem_drop h1)
theorem insC_cok {cs : List Cl} {a : Nat} {xs : List Int} {h : Int} (hc : Cok cs) (hh : 0 ≤ h ∧ h ≤ M) : Cok (insC cs a xs h) := fun c hm => by
  rcases insC_mem hm with h1 | ⟨h1, _⟩
  · exact hc c h1
  · rw [h1]; exact hh
theorem insC_txt {cs : List Cl} {a : Nat} {xs : List Int} {h : Int} (hc : ∀ c ∈ cs, TxtRune c.1) (hx : ∀ r ∈ xs, TxtRune r) : ∀ c ∈ insC cs a xs h, TxtRune c.1 := fun c hm => by
  rcases insC_mem hm with h1 | ⟨_, h1⟩
  · exact hc c h1
  · exact hx _ h1
/-- An Ins taken back. -/
theorem ins_back {cs : List Cl} {a : Nat} {xs : List Int} (ha : a ≤ cs.length) (hx : xs ≠ []) (hl : cs.length + xs.length ≤ 1048576) (hco : Cok cs) :
    applyR (insC cs a xs 0) 0 0 2 0 ⟨#[]⟩ 0 0 [((a : Int), (a : Int) + xs.length)] 0 0 false [] = (0, insC cs a xs 1) := by
  have hp := List.length_pos_iff.2 hx
  have h := (apply_cover (cs := insC cs a xs 0) (rs := [((a : Int), (a : Int) + xs.length)]) (kd := 2) (.inl rfl) (by simp) ⟨by simp only; omega, by simp only; omega, trivial⟩ (by simp) (fun x hx => by rw [List.mem_singleton.1 hx, insC_len xs 0 ha]; simp only; omega) (by rw [insC_len xs 0 ha]; exact hl) (insC_cok hco (by unfold M; decide)) (by
    rw [if_pos rfl]
    rintro ⟨i, hc, c, hci, hs⟩
    rw [cov_one] at hc
    have hc' := of_decide_eq_true hc
    simp only at hc'
    rw [insC_get xs 0 ha, if_neg (by omega), if_pos (by omega)] at hci
    cases hx' : xs[i - a]? with
    | none => rw [hx'] at hci; cases hci
    | some r =>
      rw [hx'] at hci
      obtain rfl := Option.some.inj hci
      rcases hs with ⟨h1, _⟩ | ⟨_, h1⟩
      · omega
      · unfold M at h1; simp only at h1; omega) 0 []).1
  rw [h, if_pos rfl, bumpC_insC ha]
theorem right_opE {L : OpL} {T : Nat} {num : Int} (h : RightOp L T num) (hT : T ≤ 32768) : opE L.i0 L.i1 L.kd L.a ⟨L.tx.toArray⟩ (chk L.tx).1 (chk L.tx).2.2 L.rs L.t0 L.t1 L.on (T : Int) = 0 := by
  obtain ⟨i0, i1, kd, a, tx, rs, t0, t1, on⟩ := L
  obtain ⟨⟨hi1, hi2, hi3, _⟩, hk, ⟨h0, h1, h2⟩⟩ := h
  simp only at *
  subst hi3 h0 h1 h2
  have hid : idB i0 1 = true := by unfold idB; simp; omega
  rcases hk with ⟨rfl, ⟨a0, a1⟩, ⟨l, rfl, l1, l2, l3⟩, rfl⟩ | ⟨hk, rfl, rfl, hup, hhi, hne, hln⟩
  · have hc := chk_text l l3
    simp only [hc]
    unfold opE
    rw [if_neg (by omega), if_neg (by omega), if_neg (fun h => by rw [hid] at h; cases h.2)]
    rw [if_neg (by simp [extraB]), if_pos rfl]
    unfold insE
    rw [if_neg (by simp), if_neg (by omega), if_neg (by omega), if_neg (by omega), if_neg (by omega), if_neg (by omega)]
  · have hs := span_up hup (fun r hr => by have := hhi r hr; omega)
    unfold opE
    rw [if_neg (by omega), if_neg (by omega), if_neg (fun h => by rw [hid] at h; cases h.2)]
    rw [if_neg (by rcases hk with rfl | rfl <;> simp [extraB, toList_empty]), if_neg (by omega), if_neg (by omega)]
    unfold rngE
    rw [if_neg hne, spanM_small (by omega), hs, if_neg (by decide)]
    rw [if_neg]
    have hp := List.length_pos_iff.2 hne
    rw [List.getElem?_eq_getElem (by omega)]
    have := hhi (rs[rs.length - 1]'(by omega)) (List.getElem_mem _)
    simp only [Option.getD_some]
    omega
theorem right_cov {L : OpL} {T : Nat} {num : Int} (h : RightOp L T num) (hT : T ≤ 32768) : covR L.i0 L.i1 L.kd L.a ⟨L.tx.toArray⟩ (chk L.tx).1 (chk L.tx).2.2 L.rs L.t0 L.t1 L.on = if L.kd = 1 then [(L.a, L.a + ((chk L.tx).1 : Nat))] else L.rs := by
  have h0 : ownE L.i0 L.i1 L.kd L.a ⟨L.tx.toArray⟩ (chk L.tx).1 (chk L.tx).2.2 L.rs L.t0 L.t1 L.on = 0 := h.own hT
  unfold covR
  rw [if_neg]
  rintro (h1 | h1)
  · exact h1 h0
  · rcases h.kind with ⟨h2, _⟩ | ⟨h2, _⟩ <;> omega
/-- What is known of an Ins. -/
structure InsOp (L : OpL) (cs : List Cl) (a : Nat) (xs : List Int) : Prop where
  kd : L.kd = 1
  at_ : L.a = a
  le : a ≤ cs.length
  tx : L.tx = enc xs
  ne : xs ≠ []
  len : xs.length ≤ 256
  txt : ∀ r ∈ xs, TxtRune r
  rs : L.rs = []
  chk : Txt.chk L.tx = (xs.length, 0, 0)
  ap : applyR cs L.i0 L.i1 L.kd L.a ⟨L.tx.toArray⟩ (Txt.chk L.tx).1 (Txt.chk L.tx).2.2 L.rs L.t0 L.t1 L.on xs = (0, insC cs a xs 0)
theorem right_ins {L : OpL} {T : Nat} {num : Int} {cs : List Cl} (h : RightOp L T num) (hT : T ≤ 32768) (hl : cs.length = T) (h1 : L.kd = 1) : ∃ a xs, InsOp L cs a xs := by
  have hE := right_opE h hT
  rw [← hl] at hE
  rcases h.kind with ⟨_, ⟨a0, a1⟩, ⟨xs, e, l1, l2, l3⟩, e2⟩ | ⟨h2, _⟩
  · refine ⟨L.a.toNat, xs, h1, by omega, by omega, e, List.length_pos_iff.1 (by omega), l2, l3, e2, by rw [e]; exact chk_text xs l3, ?_⟩
    unfold applyR
    rw [if_neg (by rw [hE]; decide), if_pos h1]
    rfl
  · omega
def dK (kd : Int) : Int := if kd = 2 then 1 else -1
/-- What is known of a Hide or a Show. -/
structure CovOp (L : OpL) (cs : List Cl) : Prop where
  kd : L.kd = 2 ∨ L.kd = 3
  a : L.a = 0
  tx : L.tx = []
  nrm : Nrm 0 L.rs
  hi : ∀ x ∈ L.rs, x.2 ≤ (cs.length : Int)
  ne : L.rs ≠ []
  len : L.rs.length ≤ 32768
  ap : (stopsR L.kd L.rs cs → applyR cs L.i0 L.i1 L.kd L.a ⟨L.tx.toArray⟩ (chk L.tx).1 (chk L.tx).2.2 L.rs L.t0 L.t1 L.on [] = (if L.kd = 2 then 31 else 30, cs)) ∧
    (¬ stopsR L.kd L.rs cs → applyR cs L.i0 L.i1 L.kd L.a ⟨L.tx.toArray⟩ (chk L.tx).1 (chk L.tx).2.2 L.rs L.t0 L.t1 L.on [] = (0, bumpC (dK L.kd) L.rs cs) ∧ Cok (bumpC (dK L.kd) L.rs cs) ∧
      applyR (bumpC (dK L.kd) L.rs cs) 0 0 (5 - L.kd) 0 ⟨#[]⟩ 0 0 L.rs 0 0 false [] = (0, cs))
theorem right_cover {L : OpL} {T : Nat} {num : Int} {cs : List Cl} (h : RightOp L T num) (hT : T ≤ 32768) (hl : cs.length = T) (hco : Cok cs) (h23 : L.kd = 2 ∨ L.kd = 3) : CovOp L cs := by
  have hE := right_opE h hT
  rw [← hl] at hE
  rcases h.kind with ⟨h2, _⟩ | ⟨_, ha, htx, hup, hhi, hne, hln⟩
  · omega
  have hn : Nrm 0 L.rs := up_nrm hup
  have hx : ∀ x ∈ L.rs, x.2 ≤ (cs.length : Int) := by rw [hl]; exact hhi
  refine ⟨h23, ha, htx, hn, hx, hne, by omega, ?_⟩
  have hap : applyR cs L.i0 L.i1 L.kd L.a ⟨L.tx.toArray⟩ (chk L.tx).1 (chk L.tx).2.2 L.rs L.t0 L.t1 L.on [] = if (bumpR (dK L.kd) cs L.rs).1 = 0 then bumpR (dK L.kd) cs L.rs else ((bumpR (dK L.kd) cs L.rs).1, cs) := by
    unfold applyR dK
    rw [if_neg (by rw [hE]; decide), if_neg (by omega)]
    rcases h23 with e | e <;> rw [e] <;> rfl
  have hb := bumpR_spec (d := dK L.kd) (by unfold dK; split <;> simp) L.rs 0 cs (Int.le_refl _) hn hx hco
  rw [stopsR_iff h23]
  change (stopC (dK L.kd) L.rs cs → _) ∧ (¬ stopC (dK L.kd) L.rs cs → _)
  refine ⟨fun hs => ?_, fun hs => ?_⟩
  · have h1 := hb.1 hs
    rw [hap]
    rcases h23 with e | e
    · rw [e] at h1 ⊢
      have e1 : dK 2 = 1 := rfl
      rw [e1, if_neg (by decide)] at h1
      rw [e1, h1, if_neg (by decide)]; rfl
    · rw [e] at h1 ⊢
      have e1 : dK 3 = -1 := rfl
      rw [e1, if_pos (by decide)] at h1
      rw [e1, h1, if_neg (by decide)]; rfl
  · obtain ⟨h1, h2⟩ := hb.2 hs
    refine ⟨by rw [hap, h1, if_pos rfl], h2, ?_⟩
    have hd : (if 5 - L.kd = 2 then (1 : Int) else -1) = -(dK L.kd) := by
      rcases h23 with e | e <;> rw [e] <;> rfl
    have h3 := (apply_cover (cs := bumpC (dK L.kd) L.rs cs) (rs := L.rs) (kd := 5 - L.kd) (by omega) hne hn (by omega) (fun x hx' => by rw [bumpC_len]; exact hx x hx') (by rw [bumpC_len]; omega) h2 (by
      rw [hd]
      rintro ⟨i, hc, c, hci, hs'⟩
      rw [bumpC_get] at hci
      cases hc0 : cs[i]? with
      | none => rw [hc0] at hci; cases hci
      | some c0 =>
        rw [hc0, Option.map_some, hc, if_pos rfl] at hci
        obtain rfl := Option.some.inj hci
        have := hco c0 (List.mem_of_getElem? hc0)
        unfold dK at hs'
        split at hs' <;> simp only at hs' <;> omega) 0 []).1
    rw [h3, hd, bumpC_back]
end Go.Proofs.YtkdhomiieenfnaaGreatDoor.Lw

namespace Go.Proofs.YtkdhomiieenfnaaGreatDoor.K
open Go.RowKit Go.Proofs Go.Proofs.YtkdhomiieenfnaaGreatDoor.U Go.Proofs.YtkdhomiieenfnaaGreatDoor.Txt Go.Proofs.YtkdhomiieenfnaaGreatDoor.O Go.Proofs.YtkdhomiieenfnaaGreatDoor.Rp Go.Proofs.YtkdhomiieenfnaaGreatDoor.Lw
set_option linter.unusedVariables false
set_option linter.unusedSimpArgs false

/-- What the reference's Apply hands back: the cells behind it, its error. -/
def RApp (r : Int × List Cl) (w : World) (e : Ending) (w' : World) : Prop := (∃ A c, e = .returned (.tuple #[.slice A r.2.length c, .int .i64 r.1]) ∧ CellsIn w' A r.2) ∧ Below w.heap.size w w'
theorem insC_snoc_lo {cs : List Cl} {p : Nat} (xs : List Int) {i : Nat} (h : i < cs.length) : cs.take (i + 1) = cs.take i ++ [cs[i]] := List.take_succ_eq_append_getElem h
section
attribute [local go_sem ↓] ldO_fold
set_option maxRecDepth 100000 in
set_option maxHeartbeats 4000000 in
theorem rapply_err (Ac : Option Addr) (cc : Nat) (cs : List Cl) (i0 i1 kd a : Int) (tx : ByteArray) (A : Option Addr) (n c : Nat) (rs : List (Int × Int)) (t0 t1 : Int) (on : Bool) (k ps er : Nat) (hck : chk tx.data.toList = (k, ps, er)) (w : World) (hs : tx.size ≤ 4398046511104) (hn : n ≤ 1048577) (hR : Ranges w A n rs) (hC : CellsIn w Ac cs) (hl : cs.length ≤ 1048576) (E : Int) (hE : opE i0 i1 kd a tx k er rs t0 t1 on cs.length = E) (hbad : E ≠ 0 ∨ kd = 4) :
    Calls Tryz.prog 19 #[.slice Ac cs.length cc, opV i0 i1 kd a tx (.slice A n c) t0 t1 on] w (RApp (if E ≠ 0 then E else 40, cs) w) := by
  have HCK := Lib.hid (fun (W : World) (hW : Below w.heap.size w W) => rcheck_any i0 i1 kd a tx A n c rs t0 t1 on (cs.length : Nat) k ps er hck W hs (by omega) (hR.below hW))
  rw [hE] at HCK
  have HC := Lib.hid hC
  obtain ⟨nn, hnn⟩ : ∃ nn, cs.length = nn := ⟨_, rfl⟩
  have HN := Lib.hid hnn
  rw [hnn] at HCK hl ⊢
  obtain ⟨R, hR'⟩ : ∃ R, (if E ≠ 0 then E else 40) = R := ⟨_, rfl⟩
  have HRR := Lib.hid hR'
  rw [hR']
  have HO := Lib.hid (OB.mk (below_alloc1 w (.cells (opC i0 i1 kd a tx (.slice A n c) t0 t1 on) 47)) (heap_alloc_new w (.cells (opC i0 i1 kd a tx (.slice A n c) t0 t1 on) 47)))
  unfold opC at HO
  unfold opV at HCK ⊢
  have HBAD := Lib.hid hbad
  clear hck hs hn hR hC hE hnn hR' hbad
  go_enter Tryz.func19, Tryz.ntmps19
  go_upto_region 1 with fail
  obtain ⟨w1, hw1⟩ : ∃ w1, w.alloc (.cells #[.int .i64 i0, .int .i64 i1, .int .i64 kd, .int .i64 a, .string tx, .slice A n c, .int .i64 t0, .int .i64 t1, .bool on] 47) = w1 := ⟨_, rfl⟩
  rw [hw1] at HO ⊢
  obtain ⟨gr, hgr⟩ : ∃ gr, w.heap.size = gr := ⟨_, rfl⟩
  have HO : Hid (OB w w1 gr (opC i0 i1 kd a tx (.slice A n c) t0 t1 on)) := Lib.hid (by rw [← hgr]; exact HO.out)
  rw [hgr]
  have ld := ldO_run HO.out.box
  clear hw1 hgr
  go_wp2_with fail
  refine (HCK.out w1 HO.out.below).mono ?_
  rintro e w2 ⟨rfl, hb2⟩
  have HO2 := Lib.hid (HO.out.step hb2)
  have y2 := HO2.out.c.2.2.1
  clear hb2 ld HCK HO
  by_cases h0 : E = 0
  · subst h0
    obtain rfl : kd = 4 := HBAD.out.resolve_left (fun h => h rfl)
    obtain rfl : R = 40 := by rw [← HRR.out]; rfl
    go_wp2_with fail
    go_ret2
    exact ⟨⟨Ac, cc, by show _ = Ending.returned (.tuple #[.slice Ac cs.length cc, .int .i64 _]); rw [HN.out]; rfl, HC.out.below HO2.out.below⟩, HO2.out.below⟩
  · have b1 : (E == 0) = false := by simpa using h0
    have b2 : (E != 0) = true := by simpa using h0
    obtain rfl : R = E := by rw [← HRR.out]; exact if_pos h0
    clear h0
    go_wp2_with fail
    go_ret2
    exact ⟨⟨Ac, cc, by show _ = Ending.returned (.tuple #[.slice Ac cs.length cc, .int .i64 _]); rw [HN.out]; rfl, HC.out.below HO2.out.below⟩, HO2.out.below⟩
end
end Go.Proofs.YtkdhomiieenfnaaGreatDoor.K

namespace Go.Proofs.YtkdhomiieenfnaaGreatDoor.K
open Go.RowKit Go.Proofs Go.Proofs.YtkdhomiieenfnaaGreatDoor.U Go.Proofs.YtkdhomiieenfnaaGreatDoor.Txt Go.Proofs.YtkdhomiieenfnaaGreatDoor.O Go.Proofs.YtkdhomiieenfnaaGreatDoor.Rp Go.Proofs.YtkdhomiieenfnaaGreatDoor.Lw
set_option linter.unusedVariables false
set_option linter.unusedSimpArgs false

/-- What stands while Apply makes its cells: the operation's box, the runes, the cells. -/
structure AI (w W : World) (gr : Nat) (bx : Array Value) (vI : Value) (is : List Int) (v : Value) (out : List Cl) : Prop where
  below : Below w.heap.size w W
  box : W.heap[gr]? = some (.cells bx 47 (0, 0))
  ints : W.ownsRow w.heap.size 3 1 vI is.length (i64s is)
  own : W.ownsRow w.heap.size 80 2 v out.length (clCells out)
theorem box_far {W : World} {gr B n : Nat} {bx : Array Value} {v : Value} {xs : List Value} (h : W.heap[gr]? = some (.cells bx 47 (0, 0))) (ho : W.ownsRow B 80 2 v n xs) : v.ownBlock ≠ some gr := fun e => by
  rcases ho.2 with ⟨hv, _⟩ | ⟨g, cap, cur, hv, hbg, hg, _⟩
  · rw [hv] at e; cases e
  · rw [hv] at e
    have : g = gr := Option.some.inj e
    subst this
    rw [h] at hg
    exact absurd (Obj.cells.inj (Option.some.inj hg)).2.1 (by decide)
theorem AI.push {w W W9 : World} {gr : Nat} {bx : Array Value} {vI v v9 : Value} {is : List Int} {out : List Cl} {o : Obj} {r hd : Int} (h : AI w W gr bx vI is v out) (hg : (W.alloc o).grownBy W9 v.ownBlock) (hown : W9.ownsRow w.heap.size 80 2 v9 (out.length + 1) (clCells out ++ [.int .i32 r, .int .i64 hd])) :
    AI w W9 gr bx vI is v9 (out ++ [(r, hd)]) := by
  have hlt := (Array.getElem?_eq_some_iff.1 h.box).1
  have hb : Below W.heap.size W (W.alloc o) := below_alloc1 _ _
  refine ⟨(h.below.alloc h.below.size o).grown hg (by have := h.below.size; simp; omega) (fun k hk => (h.own.lt k hk).1), ?_, ?_, ?_⟩
  · rw [hg.block gr (by simp; omega) (fun e => box_far h.box h.own e.symm), hb.block gr hlt]; exact h.box
  · exact own_grown (Rp.own_below h.ints hb) (Rp.own_below h.own hb) (by decide) hg
  · rw [List.length_append, clCells_snoc]; exact hown
/-- The cells that are there when cell i comes. -/
def outC (cs : List Cl) (p : Nat) (xs : List Int) (i : Nat) : List Cl := if i ≤ p then cs.take i else cs.take p ++ run xs 0 ++ (cs.take i).drop p
/-- .. while the text is put in. -/
def outI (cs : List Cl) (p : Nat) (xs : List Int) (i t : Nat) : List Cl := if i = p then cs.take p ++ run (xs.take t) 0 else outC cs p xs i
theorem outI_zero (cs : List Cl) (p : Nat) (xs : List Int) (i : Nat) : outI cs p xs i 0 = outC cs p xs i := by
  unfold outI outC
  by_cases h : i = p
  · subst h; rw [if_pos rfl, if_pos (Nat.le_refl _)]; simp [run]
  · rw [if_neg h]
theorem outI_step {cs : List Cl} {p : Nat} {xs : List Int} {t : Nat} (h : t < xs.length) : outI cs p xs p (t + 1) = outI cs p xs p t ++ [(xs[t], 0)] := by
  unfold outI
  have e : run (xs.take t ++ [xs[t]]) 0 = run (xs.take t) 0 ++ [(xs[t], 0)] := by unfold run; rw [List.map_append]; rfl
  rw [if_pos rfl, if_pos rfl, List.take_succ_eq_append_getElem h, e, List.append_assoc]
theorem outC_step {cs : List Cl} {p : Nat} {xs : List Int} {i t : Nat} (h : i < cs.length) (ht : i = p → t = xs.length) : outC cs p xs (i + 1) = outI cs p xs i t ++ [cs[i]] := by
  unfold outI
  by_cases h1 : i = p
  · subst h1
    have e : xs.take t = xs := by rw [ht rfl, List.take_length]
    have e2 : (cs.take (i + 1)).drop i = [cs[i]] := by
      rw [List.take_succ_eq_append_getElem h, List.drop_append, List.drop_of_length_le (by rw [List.length_take]; omega), List.length_take, show i - min i cs.length = 0 by omega]
      rfl
    rw [if_pos rfl, e]
    unfold outC
    rw [if_neg (by omega), e2]
  · rw [if_neg h1]
    unfold outC
    by_cases h2 : i ≤ p
    · rw [if_pos (by omega), if_pos h2, List.take_succ_eq_append_getElem h]
    · rw [if_neg (by omega), if_neg h2, List.take_succ_eq_append_getElem h, List.drop_append_of_le_length (by rw [List.length_take]; omega)]
      simp only [List.append_assoc]
theorem outC_end {cs : List Cl} {p : Nat} {xs : List Int} {t : Nat} (hp : p ≤ cs.length) (ht : cs.length = p → t = xs.length) : outC cs p xs (cs.length + 1) = outI cs p xs cs.length t := by
  have e0 : cs.take (cs.length + 1) = cs := List.take_of_length_le (by omega)
  unfold outI
  by_cases h1 : cs.length = p
  · have e : xs.take t = xs := by rw [ht h1, List.take_length]
    rw [if_pos h1, e]
    unfold outC
    rw [if_neg (by omega), e0, List.drop_of_length_le (by omega), List.append_nil]
  · rw [if_neg h1]
    unfold outC
    rw [if_neg (by omega), if_neg (by omega), e0, List.take_length]
theorem outC_last {cs : List Cl} {p : Nat} {xs : List Int} (hp : p ≤ cs.length) : outC cs p xs (cs.length + 1) = insC cs p xs 0 := by
  have e0 : cs.take (cs.length + 1) = cs := List.take_of_length_le (by omega)
  unfold outC insC
  rw [if_neg (by omega), e0]
theorem outI_len {cs : List Cl} {p : Nat} {xs : List Int} {i t : Nat} (hx : xs.length ≤ 256) : (outI cs p xs i t).length ≤ cs.length + 256 := by
  unfold outI outC
  have h1 : (cs.take p).length ≤ cs.length := by rw [List.length_take]; omega
  split
  · rw [List.length_append, run_len, List.length_take, List.length_take]; omega
  · split
    · rw [List.length_take]; omega
    · rw [List.length_append, List.length_append, run_len, List.length_drop, List.length_take, List.length_take]; omega
section
attribute [local go_sem ↓] ldO_fold
set_option maxRecDepth 100000 in
set_option maxHeartbeats 4000000 in
theorem rapply_ins (Ac : Option Addr) (cc : Nat) (cs : List Cl) (i0 i1 : Int) (p : Nat) (tx : ByteArray) (A : Option Addr) (n c : Nat) (rs : List (Int × Int)) (t0 t1 : Int) (on : Bool) (k ps er : Nat) (xs : List Int) (hck : chk tx.data.toList = (k, ps, er)) (w : World) (hs : tx.size ≤ 4398046511104) (hn : n ≤ 1048577) (hR : Ranges w A n rs) (hC : CellsIn w Ac cs) (hl : cs.length ≤ 1048576) (hE : opE i0 i1 1 p tx k er rs t0 t1 on cs.length = 0)
    (hx : tx.data.toList = enc xs) (htx : ∀ r ∈ xs, TxtRune r) (hne : xs ≠ []) (hx256 : xs.length ≤ 256) (hp : p ≤ cs.length) :
    Calls Tryz.prog 19 #[.slice Ac cs.length cc, opV i0 i1 1 p tx (.slice A n c) t0 t1 on] w (RApp (0, insC cs p xs 0) w) := by
  have HCK := Lib.hid (fun (W : World) (hW : Below w.heap.size w W) => rcheck_any i0 i1 1 p tx A n c rs t0 t1 on (cs.length : Nat) k ps er hck W hs (by omega) (hR.below hW))
  rw [hE] at HCK
  have HRN := Lib.hid (fun (W : World) => Runes_any tx xs [] W ⟨by rw [hx, List.append_nil], htx, .inl rfl⟩ hs)
  have HC := Lib.hid hC
  have HTX := Lib.hid htx
  have hm1 := List.length_pos_iff.2 hne
  obtain ⟨i0', hi0, hz0, hz1, hz2⟩ := info_parts infoCell
  have HI := Lib.hid (And.intro hi0 (And.intro hz0 (And.intro hz1 hz2)))
  obtain ⟨nn, hnn⟩ : ∃ nn, cs.length = nn := ⟨_, rfl⟩
  have HN := Lib.hid hnn
  have HLEN := Lib.hid (fun i t => outI_len (cs := cs) (p := p) (i := i) (t := t) hx256)
  obtain ⟨m, hm⟩ : ∃ m, xs.length = m := ⟨_, rfl⟩
  have HM := Lib.hid hm
  rw [hnn] at HCK hl hp ⊢
  rw [hm] at hm1 hx256
  have HP := Lib.hid hp
  have HO := Lib.hid (OB.mk (below_alloc1 w (.cells (opC i0 i1 1 p tx (.slice A n c) t0 t1 on) 47)) (heap_alloc_new w (.cells (opC i0 i1 1 p tx (.slice A n c) t0 t1 on) 47)))
  unfold opC at HO
  unfold opV at HCK ⊢
  clear hck hs hn hR hC hE hnn hx htx hne hi0 hz0 hz1 hz2 hm
  go_enter Tryz.func19, Tryz.ntmps19
  go_upto_region 1 with fail
  obtain ⟨w1, hw1⟩ : ∃ w1, w.alloc (.cells #[.int .i64 i0, .int .i64 i1, .int .i64 1, .int .i64 p, .string tx, .slice A n c, .int .i64 t0, .int .i64 t1, .bool on] 47) = w1 := ⟨_, rfl⟩
  rw [hw1] at HO ⊢
  obtain ⟨gr, hgr⟩ : ∃ gr, w.heap.size = gr := ⟨_, rfl⟩
  have HO : Hid (OB w w1 gr (opC i0 i1 1 p tx (.slice A n c) t0 t1 on)) := Lib.hid (by rw [← hgr]; exact HO.out)
  rw [hgr]
  have ld := ldO_run HO.out.box
  clear hw1 hgr
  go_wp2_with fail
  refine (HCK.out w1 HO.out.below).mono ?_
  rintro e w2 ⟨rfl, hb2⟩
  have HO2 := Lib.hid (HO.out.step hb2)
  obtain ⟨_, _, y2, _, y4, _, _, _, _⟩ := HO2.out.c
  clear hb2 ld HCK HO
  go_wp2_with fail
  refine (HRN.out w2).mono ?_
  rintro e w3 ⟨hp3, hb3⟩
  obtain ⟨vI, rfl, hown3⟩ : ∃ v, e = .returned (.tuple #[v, .int .i64 0, .int .i64 0]) ∧ w3.ownsRow w2.heap.size 3 1 v xs.length (i64s xs) := by
    rcases hp3 with ⟨_, v, h1, h2⟩ | ⟨h1, _⟩
    · exact ⟨v, h1, h2⟩
    · exact absurd rfl h1
  have HO3 := Lib.hid (HO2.out.step hb3)
  have hown := O.own_weak' hown3 HO2.out.below.size
  obtain ⟨ga, cI, rfl⟩ : ∃ ga cI, vI = .slice (some ⟨ga, 0, none⟩) m cI := by
    rcases hown.2 with ⟨_, h0⟩ | ⟨g, cap, cur, hv, _⟩
    · have := HM.out; omega
    · exact ⟨g, cap, by rw [hv, HM.out]⟩
  have HA := Lib.hid (show AI w w3 gr (opC i0 i1 1 p tx (.slice A n c) t0 t1 on) (.slice (some ⟨ga, 0, none⟩) m cI) xs (.slice none 0 0) (outC cs p xs 0) from ⟨HO3.out.below, HO3.out.box, hown, by unfold outC; rw [if_pos (Nat.zero_le _)]; exact ⟨rfl, .inl ⟨rfl, rfl⟩⟩⟩)
  clear hp3 hb3 hown3 hown HO2 HO3 y2 y4 HRN
  go_wp2_with fail
  go_loopw [8, 12] (fun v i wr => ∃ k : Nat, k ≤ nn + 1 ∧ i = .int .i64 k ∧ AI w wr gr (opC i0 i1 1 p tx (.slice A n c) t0 t1 on) (.slice (some ⟨ga, 0, none⟩) m cI) xs v (outC cs p xs k)) (fun _ i _ => nn + 1 - (intOf i).toNat)
  case atStart => exact ⟨0, Nat.zero_le _, rfl, HA.out⟩
  case round =>
    obtain ⟨k, hk, rfl, ha⟩ := hrel
    have HA := Lib.hid ha
    clear ha
    by_cases hlt : k ≤ nn
    · have z1 : (k : Int) ≤ (nn : Int) := by omega
      have z2 : (0 : Int) ≤ (k : Int) := by omega
      have ha0 := HA.out
      rw [← outI_zero] at ha0
      have HA0 := Lib.hid ha0
      clear ha0
      obtain ⟨wo, rfl⟩ : ∃ wo : World, wo = wr := ⟨_, rfl⟩
      obtain ⟨uo, huo⟩ : ∃ uo : Value, u8 = uo := ⟨_, rfl⟩
      rw [huo] at HA0 HA ⊢
      go_wp2_with fail
      go_loopw [8, 13] (fun v j wr2 => ∃ t : Nat, t ≤ m ∧ j = .int .i64 t ∧ (k ≠ p → t = 0) ∧ AI w wr2 gr (opC i0 i1 1 p tx (.slice A n c) t0 t1 on) (.slice (some ⟨ga, 0, none⟩) m cI) xs v (outI cs p xs k t)) (fun _ j _ => m - (intOf j).toNat)
      case atStart => exact ⟨0, Nat.zero_le _, rfl, fun _ => rfl, HA0.out⟩
      case round =>
        obtain ⟨t, ht, rfl, htp, ha2⟩ := hrel
        have HA2 := Lib.hid ha2
        have HTP := Lib.hid htp
        have y3 := (OB.mk ha2.below ha2.box).c.2.2.2.1
        clear ha2 htp
        by_cases hkp : k = p ∧ t < m
        · obtain ⟨hk1, htm⟩ := hkp
          subst hk1
          have htl : t < xs.length := by have := HM.out; omega
          have hcell := HA2.out.ints.cells (g := ga) rfl t (.int .i64 xs[t]) (by simp [i64s, List.getElem?_eq_getElem htl])
          rw [show (⟨ga, 0, none⟩ : Addr).add t = ⟨ga, t, none⟩ by simp [Addr.add] <;> omega] at hcell
          have hr := txt_le ((HTX.out xs[t] (List.getElem_mem htl)).1)
          have HST := Lib.hid (outI_step (cs := cs) (p := k) htl)
          have hlen := HLEN.out k t
          have hnl := HN.out
          obtain ⟨r, hrr⟩ : ∃ r, xs[t] = r := ⟨_, rfl⟩
          rw [hrr] at hcell hr HST
          have q1 : (t : Int) < (m : Int) := by omega
          have q2 : (0 : Int) ≤ (t : Int) := by omega
          obtain ⟨lo, hlo⟩ : ∃ lo, (outI cs k xs k t).length = lo := ⟨_, rfl⟩
          have HLO := Lib.hid hlo
          rw [hlo] at hlen
          have hlen' : lo ≤ 1048832 := by omega
          clear hlo hrr hnl hlen
          go_upto_region 16 with fail
          have i1 : IntKind.i32.wrap r = r := IntWalk.i32_in _ (by omega)
          go_wp2_with (at_builtin; refine wpList_append_lies _ rfl (.tmp 61) (.tmp 68) 37 rfl w.heap.size 80 i0' (.agg #[.int .i32 0, .int .i64 0]) 2 16 Tryz.underlying37 HI.out.1 HI.out.2.1 HI.out.2.2.1 HI.out.2.2.2 rfl (by decide) _ _ _ rfl (Rp.own_below HA2.out.own (below_alloc1 _ _)) _ 1 1 [.int .i32 r, .int .i64 0] rfl rfl (fun j u hj => Rp.news_alloc _ _ _ j u hj) (by simp [Value.oneCell']) (by decide) (by have h1 := HLEN.out k t; have h2 := HN.out; unfold maxLen; omega) (by have h1 := HLEN.out k t; have h2 := HN.out; omega) (by have := HA2.out.below.size; simp; omega) _ rfl ?_; intro g9 cap9 w9 hown hgrow hat hgl; have HO9 := Lib.hid hown; have HG9 := Lib.hid hgrow; clear hown hgrow hat hgl)
          go_roundw
          case rel => exact ⟨t + 1, by omega, by go_num, fun h => absurd rfl h, by rw [HST.out]; exact HA2.out.push HG9.out HO9.out⟩
          case measure => simp [intOf]; omega
        · have HTM := Lib.hid (show k = p → t = xs.length from fun h => by have h1 := HM.out; have h2 : ¬ t < m := fun h3 => hkp ⟨h, h3⟩; omega)
          have HEND : Hid (((k : Int) == (p : Int)) = false ∨ k = p ∧ ¬ (t : Int) < (m : Int)) := Lib.hid (by
            by_cases h : k = p
            · exact .inr ⟨h, by have h2 : ¬ t < m := fun h3 => hkp ⟨h, h3⟩; omega⟩
            · exact .inl (by simp; omega))
          clear hkp
          by_cases hkn : k < nn
          · have hkl : k < cs.length := by have := HN.out; omega
            obtain ⟨g1, o1, rfl, hc1⟩ := HC.out.below HA2.out.below (by omega)
            have e1 := hc1 k hkl
            have HST := Lib.hid (outC_step (cs := cs) (p := p) (xs := xs) (t := t) hkl HTM.out)
            obtain ⟨⟨r, h⟩, hrh⟩ : ∃ c, cs[k] = c := ⟨_, rfl⟩
            rw [hrh] at e1 HST
            simp only at e1
            obtain ⟨e2, e3⟩ := e1
            have q1 : (k : Int) < (nn : Int) := by omega
            clear hc1 hrh
            rcases HEND.out with hb1 | ⟨rfl, hb1⟩
            all_goals
              clear HEND
              go_upto_region 18 with fail
              clear y3 ht
              go_wp2_with (at_builtin; refine wpList_append_lies _ rfl (.tmp 74) (.tmp 79) 37 rfl w.heap.size 80 i0' (.agg #[.int .i32 0, .int .i64 0]) 2 16 Tryz.underlying37 HI.out.1 HI.out.2.1 HI.out.2.2.1 HI.out.2.2.2 rfl (by decide) _ _ _ rfl (Rp.own_below HA2.out.own (below_alloc1 _ _)) _ 1 1 [.int .i32 r, .int .i64 h] rfl rfl (fun j u hj => Rp.news_alloc _ _ _ j u hj) (by simp [Value.oneCell']) (by decide) (by have h1 := HLEN.out k t; have h2 := HN.out; unfold maxLen; omega) (by have h1 := HLEN.out k t; have h2 := HN.out; omega) (by have := HA2.out.below.size; simp; omega) _ rfl ?_; intro g9 cap9 w9 hown hgrow hat hgl; have HO9 := Lib.hid hown; have HG9 := Lib.hid hgrow; clear hown hgrow hat hgl)
              go_roundw
              case rel => exact ⟨k + 1, by omega, by go_num, by rw [HST.out]; exact HA2.out.push HG9.out HO9.out⟩
              case measure => simp [intOf]; omega
          · obtain rfl : k = nn := by omega
            have HST := Lib.hid (show outC cs p xs (k + 1) = outI cs p xs k t by
              have h1 := HN.out
              subst h1
              exact outC_end HP.out HTM.out)
            have q1 : ¬ (k : Int) < (k : Int) := by omega
            rcases HEND.out with hb1 | ⟨rfl, hb1⟩
            all_goals
              clear HEND
              go_wp2_with fail
              go_roundw
              case rel => exact ⟨k + 1, by omega, by go_num, by rw [HST.out]; exact HA2.out⟩
              case measure => simp [intOf]
    · obtain rfl : k = nn + 1 := by omega
      have z1 : ¬ ((nn + 1 : Nat) : Int) ≤ (nn : Int) := by omega
      have HLAST := Lib.hid (show outC cs p xs (nn + 1) = insC cs p xs 0 by rw [← HN.out]; exact outC_last (by rw [HN.out]; exact HP.out))
      have own' := HA.out.own
      rw [HLAST.out] at own'
      obtain ⟨A', c', hv, _, hci⟩ := CellsIn.of_own own'
      subst hv
      have HCI := Lib.hid hci
      clear own' hci
      go_wp2_with fail
      go_ret2
      exact ⟨⟨A', c', rfl, HCI.out⟩, HA.out.below⟩
end
end Go.Proofs.YtkdhomiieenfnaaGreatDoor.K

namespace Go.Proofs.YtkdhomiieenfnaaGreatDoor.K
open Go.RowKit Go.Proofs Go.Proofs.YtkdhomiieenfnaaGreatDoor.U Go.Proofs.YtkdhomiieenfnaaGreatDoor.Txt Go.Proofs.YtkdhomiieenfnaaGreatDoor.O Go.Proofs.YtkdhomiieenfnaaGreatDoor.Rp Go.Proofs.YtkdhomiieenfnaaGreatDoor.Lw
set_option linter.unusedVariables false
set_option linter.unusedSimpArgs false

theorem AI.step {w W W1 : World} {gr : Nat} {bx : Array Value} {vI v : Value} {is : List Int} {out : List Cl} (h : AI w W gr bx vI is v out) (hb : Below W.heap.size W W1) : AI w W1 gr bx vI is v out :=
  ⟨h.below.trans (hb.mono h.below.size), (hb.block _ (Array.getElem?_eq_some_iff.1 h.box).1).trans h.box, Rp.own_below h.ints hb, Rp.own_below h.own hb⟩
theorem AI.setCell {w W : World} {gr gc i : Nat} {bx : Array Value} {vI v u : Value} {is : List Int} {out : List Cl} (h : AI w W gr bx vI is v out) (h1 : w.heap.size ≤ gc) (h2 : gc ≠ gr) (h3 : vI.ownBlock ≠ some gc) (h4 : v.ownBlock ≠ some gc) : AI w (W.setCell ⟨gc, i, none⟩ u) gr bx vI is v out :=
  ⟨h.below.setCell (p := ⟨gc, i, none⟩) h1 _, by rw [← h.box]; simp [World.setCell, Array.getElem?_modify, h2], own_set h.ints h3, own_set h.own h4⟩
theorem bumpC_step {d : Int} {rs : List (Int × Int)} {cs : List Cl} {k : Nat} (h : k < cs.length) : (bumpC d rs cs).take (k + 1) = (bumpC d rs cs).take k ++ [if cov rs k then (cs[k].1, cs[k].2 + d) else cs[k]] := by
  have hl : k < (bumpC d rs cs).length := by rw [bumpC_len]; exact h
  rw [List.take_succ_eq_append_getElem hl]
  have := bumpC_get d rs cs k
  rw [List.getElem?_eq_getElem hl, List.getElem?_eq_getElem h] at this
  simp only [Option.map_some, Option.some.injEq] at this
  rw [this]
section
attribute [local go_sem ↓] ldO_fold
set_option maxRecDepth 100000 in
set_option maxHeartbeats 8000000 in
theorem rapply_cov (Ac : Option Addr) (cc : Nat) (cs : List Cl) (i0 i1 a kd d : Int) (tx : ByteArray) (A : Option Addr) (n c : Nat) (rs : List (Int × Int)) (t0 t1 : Int) (on : Bool) (k ps er : Nat) (hck : chk tx.data.toList = (k, ps, er)) (w : World) (hs : tx.size ≤ 4398046511104) (hn : n ≤ 1048577) (hR : Ranges w A n rs) (hC : CellsIn w Ac cs) (hl : cs.length ≤ 1048576) (hE : opE i0 i1 kd a tx k er rs t0 t1 on cs.length = 0)
    (hkd : kd = 2 ∧ d = 1 ∨ kd = 3 ∧ d = -1) (hnr : Nrm 0 rs) (hco : Cok cs) (R : Int × List Cl) (hr1 : stopC d rs cs → R = (if kd = 2 then 31 else 30, cs)) (hr2 : ¬ stopC d rs cs → R = (0, bumpC d rs cs)) :
    Calls Tryz.prog 19 #[.slice Ac cs.length cc, opV i0 i1 kd a tx (.slice A n c) t0 t1 on] w (RApp R w) := by
  have HCK := Lib.hid (fun (W : World) (hW : Below w.heap.size w W) => rcheck_any i0 i1 kd a tx A n c rs t0 t1 on (cs.length : Nat) k ps er hck W hs (by omega) (hR.below hW))
  rw [hE] at HCK
  obtain rfl := hR.len
  have HC := Lib.hid hC
  have HRG := Lib.hid hR
  have HNR := Lib.hid hnr
  have HCO := Lib.hid hco
  have HR1 := Lib.hid hr1
  have HR2 := Lib.hid hr2
  obtain ⟨i0', hi0, hz0, hz1, hz2⟩ := info_parts infoCell
  have HI := Lib.hid (And.intro hi0 (And.intro hz0 (And.intro hz1 hz2)))
  obtain ⟨nn, hnn⟩ : ∃ nn, cs.length = nn := ⟨_, rfl⟩
  have HN := Lib.hid hnn
  obtain ⟨m, hmm⟩ : ∃ m, rs.length = m := ⟨_, rfl⟩
  have HM := Lib.hid hmm
  rw [hnn] at HCK hl ⊢
  rw [hmm] at HCK HRG hn ⊢
  have HO := Lib.hid (OB.mk (below_alloc1 w (.cells (opC i0 i1 kd a tx (.slice A m c) t0 t1 on) 47)) (heap_alloc_new w (.cells (opC i0 i1 kd a tx (.slice A m c) t0 t1 on) 47)))
  unfold opC at HO
  unfold opV at HCK ⊢
  clear hck hs hR hC hE hnn hmm hi0 hz0 hz1 hz2 hnr hco hr1 hr2
  have HKD := Lib.hid hkd
  have k1 : (kd == 1) = false := by simp; omega
  have k4 : (kd == 4) = false := by simp; omega
  clear hkd
  go_enter Tryz.func19, Tryz.ntmps19
  go_upto_region 1 with fail
  obtain ⟨w1, hw1⟩ : ∃ w1, w.alloc (.cells #[.int .i64 i0, .int .i64 i1, .int .i64 kd, .int .i64 a, .string tx, .slice A m c, .int .i64 t0, .int .i64 t1, .bool on] 47) = w1 := ⟨_, rfl⟩
  rw [hw1] at HO ⊢
  obtain ⟨gr, hgr⟩ : ∃ gr, w.heap.size = gr := ⟨_, rfl⟩
  have HO : Hid (OB w w1 gr (opC i0 i1 kd a tx (.slice A m c) t0 t1 on)) := Lib.hid (by rw [← hgr]; exact HO.out)
  rw [hgr]
  have ld := ldO_run HO.out.box
  clear hw1 hgr
  go_wp2_with fail
  refine (HCK.out w1 HO.out.below).mono ?_
  rintro e w2 ⟨rfl, hb2⟩
  have HO2 := Lib.hid (HO.out.step hb2)
  obtain ⟨_, _, y2, _, _, y5, _, _, _⟩ := HO2.out.c
  clear hb2 ld HCK HO
  have HA := Lib.hid (show AI w w2 gr (opC i0 i1 kd a tx (.slice A m c) t0 t1 on) (.slice none 0 0) [] (.slice none 0 0) ((bumpC d rs cs).take 0) from ⟨HO2.out.below, HO2.out.box, ⟨rfl, .inl ⟨rfl, rfl⟩⟩, ⟨rfl, .inl ⟨rfl, rfl⟩⟩⟩)
  clear HO2
  go_wp2_with fail
  go_loopw [8, 14, 15] (fun v a_ i wr => ∃ (k at_ : Nat), k ≤ nn ∧ at_ ≤ m ∧ i = .int .i64 k ∧ a_ = .int .i64 at_ ∧ (∀ j (h : j < rs.length), j < at_ → rs[j].2 ≤ (k : Int)) ∧ (∀ j, j < k → ¬ stopI d rs cs j) ∧ AI w wr gr (opC i0 i1 kd a tx (.slice A m c) t0 t1 on) (.slice none 0 0) [] v ((bumpC d rs cs).take k)) (fun _ _ i _ => nn - (intOf i).toNat)
  case atStart => exact ⟨0, 0, Nat.zero_le _, Nat.zero_le _, rfl, rfl, fun j h h' => absurd h' (by omega), fun j h => absurd h (by omega), HA.out⟩
  case round =>
    obtain ⟨k, at_, hk, hat, rfl, rfl, hlo, hst, ha⟩ := hrel
    have HLO := Lib.hid hlo
    have HST := Lib.hid hst
    have HA1 := Lib.hid ha
    clear hlo hst ha HA
    by_cases hlt : k < nn
    · have hkl : k < cs.length := by have := HN.out; omega
      obtain ⟨g1, o1, rfl, hc1⟩ := HC.out.below HA1.out.below (by omega)
      have e1 := hc1 k hkl
      have HSP := Lib.hid (show ∀ c, cs[k] = c → (stopI d rs cs k ↔ cov rs k = true ∧ ((d < 0 ∧ c.2 = 0) ∨ (0 < d ∧ c.2 = M))) from fun c e => by
        subst e
        unfold stopI
        rw [List.getElem?_eq_getElem hkl]
        simp)
      have HBS := Lib.hid (bumpC_step (d := d) (rs := rs) hkl)
      have hck := HCO.out cs[k] (List.getElem_mem _)
      obtain ⟨⟨r, h⟩, hrh⟩ : ∃ c, cs[k] = c := ⟨_, rfl⟩
      have HSQ := Lib.hid (HSP.out _ hrh)
      rw [hrh] at e1 HBS hck
      simp only at e1 hck
      replace hck : 0 ≤ h ∧ h ≤ 1048576 := hck
      obtain ⟨e2, e3⟩ := e1
      have q1 : (k : Int) < (nn : Int) := by omega
      have q2 : (0 : Int) ≤ (k : Int) := by omega
      have hto : ((bumpC d rs cs).take k).length ≤ 1048576 := by rw [List.length_take, bumpC_len]; have := HN.out; omega
      obtain ⟨o, ho⟩ : ∃ o, (bumpC d rs cs).take k = o := ⟨_, rfl⟩
      rw [ho] at HBS HA1 hto
      have HTL := Lib.hid hto
      clear hc1 hrh HSP y2 y5 ho hto
      go_upto_region 25 with fail
      obtain ⟨w2, hw2⟩ : ∃ w2, wr.alloc (.cells #[.int .i32 r, .int .i64 h] 80) = w2 := ⟨_, rfl⟩
      have hb2 : Below wr.heap.size wr w2 := by rw [← hw2]; exact below_alloc1 _ _
      have hy2 : w2.heap[wr.heap.size]? = some (.cells #[.int .i32 r, .int .i64 h] 80 (0, 0)) := by rw [← hw2]; exact heap_alloc_new _ _
      obtain ⟨gc, hgc⟩ : ∃ gc, wr.heap.size = gc := ⟨_, rfl⟩
      have HA2 := Lib.hid (HA1.out.step hb2)
      have HGC := Lib.hid (show w.heap.size ≤ gc by have := HA1.out.below.size; omega)
      have HGR := Lib.hid (show gc ≠ gr by have := (Array.getElem?_eq_some_iff.1 HA1.out.box).1; omega)
      have HVI := Lib.hid (show (Value.slice none 0 0).ownBlock ≠ some gc from fun e => by cases e)
      have HNE := Lib.hid (show u8.ownBlock ≠ some gc from fun e => by have := (HA1.out.own.lt _ e).2; omega)
      rw [hw2, hgc]
      rw [hgc] at hy2
      have HY2 := Lib.hid hy2
      have HRW := Lib.hid (HRG.out.below HA2.out.below)
      clear hw2 hb2 hy2 hgc e2 e3
      go_loopw [14] (fun a_ wr2 => w2 = wr2 ∧ ∃ a : Nat, a ≤ m ∧ a_ = .int .i64 a ∧ (∀ j (h : j < rs.length), j < a → rs[j].2 ≤ (k : Int))) (fun a_ _ => m - (intOf a_).toNat)
      case atStart => exact ⟨rfl, at_, hat, rfl, HLO.out⟩
      case round =>
        obtain ⟨rfl, a, ha, rfl, hlo2⟩ := hrel
        have HLO2 := Lib.hid hlo2
        clear hlo2 HLO
        obtain ⟨_, _, _, _, _, y5, _, _, _⟩ := (OB.mk HA2.out.below HA2.out.box).c
        obtain ⟨_, _, y2, _, _, _, _, _, _⟩ := (OB.mk HA2.out.below HA2.out.box).c
        have x0 : w2.cell? ⟨gc, 0, none⟩ = some (.int .i32 r) := by rw [Lib.cell_of_heap HY2.out]; rfl
        have x1 : w2.cell? ⟨gc, 1, none⟩ = some (.int .i64 h) := by rw [Lib.cell_of_heap HY2.out]; rfl
        have f1 : w2.frozen? ⟨gc, 1, none⟩ = false := Lib.frozen_of_heap HY2.out 1
        have f2 := (Array.getElem?_eq_some_iff.1 HY2.out).1
        by_cases ham : a < m
        · have haml : a < rs.length := by have := HM.out; omega
          obtain ⟨g3, o3, rfl, hc3⟩ := HRW.out.at_ (by omega)
          have f := hc3 a haml
          have HLAT := Lib.hid (fun (hhi : ¬ rs[a].2 ≤ (k : Int)) => cov_at HNR.out (a := a) (i := k) HLO2.out (fun _ => hhi))
          obtain ⟨⟨lo3, hi3⟩, hra⟩ : ∃ x, rs[a] = x := ⟨_, rfl⟩
          rw [hra] at f HLAT
          simp only at f HLAT
          have HRA := Lib.hid hra
          obtain ⟨e4, e5⟩ := f
          have p1 : (a : Int) < (m : Int) := by omega
          have p2 : (0 : Int) ≤ (a : Int) := by omega
          clear hc3 hra
          by_cases hhi : hi3 ≤ (k : Int)
          · have q3 : decide (hi3 ≤ (k : Int)) = true := by simpa using hhi
            clear HLAT x0 x1 f1 f2
            go_wp2_with fail
            go_roundw
            case rel =>
              refine ⟨trivial, a + 1, by omega, by go_num, fun j hj hja => ?_⟩
              rcases Nat.lt_or_ge j a with h1 | h1
              · exact HLO2.out j hj h1
              · obtain rfl : j = a := by omega
                rw [HRA.out]; exact hhi
            case measure => simp [intOf]; omega
          · have q3 : decide (hi3 ≤ (k : Int)) = false := by simpa using hhi
            have hcv := HLAT.out hhi
            by_cases hlo3 : lo3 ≤ (k : Int)
            · have q4 : decide (lo3 ≤ (k : Int)) = true := by simpa using hlo3
              have hcov := hcv.1 haml (by rw [HRA.out]; exact hlo3)
              clear hcv HLAT
              go_upto_region 28 with fail
              rcases HKD.out with ⟨rfl, rfl⟩ | ⟨rfl, rfl⟩
              · clear k1 k4
                by_cases hbad : h = 1048576
                · have HRR := Lib.hid (HR1.out ⟨k, HSQ.out.2 ⟨hcov, .inr ⟨by decide, hbad⟩⟩⟩)
                  have i1 : IntKind.i64.wrap (h + 1) = h + 1 := IntWalk.i64_in _ (by omega)
                  have z3 : decide (h + 1 < 0) = false := by simp; omega
                  have z4 : decide (1048576 < h + 1) = true := by simp; omega
                  clear hbad hcov
                  go_wp2_with fail
                  go_ret2
                  rw [HRR.out]
                  exact ⟨⟨some ⟨g1, o1, none⟩, cc, by show _ = Ending.returned (.tuple #[.slice (some ⟨g1, o1, none⟩) cs.length cc, .int .i64 _]); rw [HN.out]; rfl, HC.out.below (HA2.out.setCell (i := 1) (u := .int .i64 (h + 1)) HGC.out HGR.out HVI.out HNE.out).below⟩, (HA2.out.setCell (i := 1) (u := .int .i64 (h + 1)) HGC.out HGR.out HVI.out HNE.out).below⟩
                · have HBS2 := Lib.hid (show (bumpC (1) rs cs).take (k + 1) = o ++ [(r, h + 1)] by rw [HBS.out, hcov, if_pos rfl, show h + 1 = h + (1) by omega])
                  have HNS := Lib.hid (show ∀ j, j < k + 1 → ¬ stopI (1) rs cs j from fun j hj hs => by
                    rcases Nat.lt_or_ge j k with h1 | h1
                    · exact HST.out j h1 hs
                    · obtain rfl : j = k := by omega
                      have := (HSQ.out.1 hs).2
                      unfold M at this
                      omega)
                  have i1 : IntKind.i64.wrap (h + 1) = h + 1 := IntWalk.i64_in _ (by omega)
                  have z3 : decide (h + 1 < 0) = false := by simp; omega
                  have z4 : decide (1048576 < h + 1) = false := by simp; omega
                  have HA3 := Lib.hid (HA2.out.setCell (i := 1) (u := .int .i64 (h + 1)) HGC.out HGR.out HVI.out HNE.out)
                  have hy3 : (w2.setCell ⟨gc, 1, none⟩ (.int .i64 (h + 1))).heap[gc]? = some (.cells #[.int .i32 r, .int .i64 (h + 1)] 80 (0, 0)) := by simp [World.setCell, Array.getElem?_modify, HY2.out]
                  have HY3 := Lib.hid hy3
                  clear hcov hbad hy3
                  go_upto_region 35 with fail
                  obtain ⟨w3, hw3⟩ : ∃ w3, w2.setCell ⟨gc, 1, none⟩ (.int .i64 (h + 1)) = w3 := ⟨_, rfl⟩
                  rw [hw3] at HY3 HA3 ⊢
                  obtain ⟨hp, hhp⟩ : ∃ hp, h + 1 = hp := ⟨_, rfl⟩
                  rw [hhp] at HY3 HBS2
                  have X0 : w3.cell? ⟨gc, 0, none⟩ = some (.int .i32 r) := by rw [Lib.cell_of_heap HY3.out]; rfl
                  have X1 : w3.cell? ⟨gc, 1, none⟩ = some (.int .i64 hp) := by rw [Lib.cell_of_heap HY3.out]; rfl
                  clear hw3 hhp x0 x1 f1 f2 i1 z3 z4
                  go_wp2_with (at_builtin; refine wpList_append_lies _ rfl (.tmp 142) (.tmp 144) 37 rfl w.heap.size 80 i0' (.agg #[.int .i32 0, .int .i64 0]) 2 16 Tryz.underlying37 HI.out.1 HI.out.2.1 HI.out.2.2.1 HI.out.2.2.2 rfl (by decide) _ _ _ rfl (Rp.own_below HA3.out.own (below_alloc1 _ _)) _ 1 1 [.int .i32 r, .int .i64 hp] rfl rfl (fun j u hj => Rp.news_alloc _ _ _ j u hj) (by simp [Value.oneCell']) (by decide) (by have h1 := HTL.out; unfold maxLen; omega) (by have h1 := HTL.out; omega) (by have := HA3.out.below.size; simp; omega) _ rfl ?_; intro g9 cap9 w9 hown hgrow hat hgl; have HO9 := Lib.hid hown; have HG9 := Lib.hid hgrow; clear hown hgrow hat hgl)
                  go_roundw
                  case rel => exact ⟨k + 1, a, by omega, by omega, by go_num, rfl, fun j hj hja => by have := HLO2.out j hj hja; omega, HNS.out, by rw [HBS2.out]; exact HA3.out.push HG9.out HO9.out⟩
                  case measure => simp [intOf]; omega
              · clear k1 k4
                by_cases hbad : h = 0
                · have HRR := Lib.hid (HR1.out ⟨k, HSQ.out.2 ⟨hcov, .inl ⟨by decide, hbad⟩⟩⟩)
                  have i1 : IntKind.i64.wrap (h - 1) = h - 1 := IntWalk.i64_in _ (by omega)
                  have z3 : decide (h - 1 < 0) = true := by simp; omega
                  clear hbad hcov
                  go_wp2_with fail
                  go_ret2
                  rw [HRR.out]
                  exact ⟨⟨some ⟨g1, o1, none⟩, cc, by show _ = Ending.returned (.tuple #[.slice (some ⟨g1, o1, none⟩) cs.length cc, .int .i64 _]); rw [HN.out]; rfl, HC.out.below (HA2.out.setCell (i := 1) (u := .int .i64 (h - 1)) HGC.out HGR.out HVI.out HNE.out).below⟩, (HA2.out.setCell (i := 1) (u := .int .i64 (h - 1)) HGC.out HGR.out HVI.out HNE.out).below⟩
                · have HBS2 := Lib.hid (show (bumpC (-1) rs cs).take (k + 1) = o ++ [(r, h - 1)] by rw [HBS.out, hcov, if_pos rfl, show h - 1 = h + (-1) by omega])
                  have HNS := Lib.hid (show ∀ j, j < k + 1 → ¬ stopI (-1) rs cs j from fun j hj hs => by
                    rcases Nat.lt_or_ge j k with h1 | h1
                    · exact HST.out j h1 hs
                    · obtain rfl : j = k := by omega
                      have := (HSQ.out.1 hs).2
                      unfold M at this
                      omega)
                  have i1 : IntKind.i64.wrap (h - 1) = h - 1 := IntWalk.i64_in _ (by omega)
                  have z3 : decide (h - 1 < 0) = false := by simp; omega
                  have z4 : decide (1048576 < h - 1) = false := by simp; omega
                  have HA3 := Lib.hid (HA2.out.setCell (i := 1) (u := .int .i64 (h - 1)) HGC.out HGR.out HVI.out HNE.out)
                  have hy3 : (w2.setCell ⟨gc, 1, none⟩ (.int .i64 (h - 1))).heap[gc]? = some (.cells #[.int .i32 r, .int .i64 (h - 1)] 80 (0, 0)) := by simp [World.setCell, Array.getElem?_modify, HY2.out]
                  have HY3 := Lib.hid hy3
                  clear hcov hbad hy3
                  go_upto_region 35 with fail
                  obtain ⟨w3, hw3⟩ : ∃ w3, w2.setCell ⟨gc, 1, none⟩ (.int .i64 (h - 1)) = w3 := ⟨_, rfl⟩
                  rw [hw3] at HY3 HA3 ⊢
                  obtain ⟨hp, hhp⟩ : ∃ hp, h - 1 = hp := ⟨_, rfl⟩
                  rw [hhp] at HY3 HBS2
                  have X0 : w3.cell? ⟨gc, 0, none⟩ = some (.int .i32 r) := by rw [Lib.cell_of_heap HY3.out]; rfl
                  have X1 : w3.cell? ⟨gc, 1, none⟩ = some (.int .i64 hp) := by rw [Lib.cell_of_heap HY3.out]; rfl
                  clear hw3 hhp x0 x1 f1 f2 i1 z3 z4
                  go_wp2_with (at_builtin; refine wpList_append_lies _ rfl (.tmp 142) (.tmp 144) 37 rfl w.heap.size 80 i0' (.agg #[.int .i32 0, .int .i64 0]) 2 16 Tryz.underlying37 HI.out.1 HI.out.2.1 HI.out.2.2.1 HI.out.2.2.2 rfl (by decide) _ _ _ rfl (Rp.own_below HA3.out.own (below_alloc1 _ _)) _ 1 1 [.int .i32 r, .int .i64 hp] rfl rfl (fun j u hj => Rp.news_alloc _ _ _ j u hj) (by simp [Value.oneCell']) (by decide) (by have h1 := HTL.out; unfold maxLen; omega) (by have h1 := HTL.out; omega) (by have := HA3.out.below.size; simp; omega) _ rfl ?_; intro g9 cap9 w9 hown hgrow hat hgl; have HO9 := Lib.hid hown; have HG9 := Lib.hid hgrow; clear hown hgrow hat hgl)
                  go_roundw
                  case rel => exact ⟨k + 1, a, by omega, by omega, by go_num, rfl, fun j hj hja => by have := HLO2.out j hj hja; omega, HNS.out, by rw [HBS2.out]; exact HA3.out.push HG9.out HO9.out⟩
                  case measure => simp [intOf]; omega
            · have q4 : decide (lo3 ≤ (k : Int)) = false := by simpa using hlo3
              have hcov := hcv.2 (fun _ => ⟨haml, by rw [HRA.out]; exact hlo3⟩)
              have HBS2 := Lib.hid (show (bumpC d rs cs).take (k + 1) = o ++ [(r, h)] by rw [HBS.out, hcov, if_neg (by decide)])
              have HNS := Lib.hid (show ∀ j, j < k + 1 → ¬ stopI d rs cs j from fun j hj hs => by
                rcases Nat.lt_or_ge j k with h1 | h1
                · exact HST.out j h1 hs
                · obtain rfl : j = k := by omega
                  have := (HSQ.out.1 hs).1
                  rw [hcov] at this; cases this)
              clear hcov
              clear hcv HLAT
              go_upto_region 35 with fail
              go_wp2_with (at_builtin; refine wpList_append_lies _ rfl (.tmp 142) (.tmp 144) 37 rfl w.heap.size 80 i0' (.agg #[.int .i32 0, .int .i64 0]) 2 16 Tryz.underlying37 HI.out.1 HI.out.2.1 HI.out.2.2.1 HI.out.2.2.2 rfl (by decide) _ _ _ rfl (Rp.own_below HA2.out.own (below_alloc1 _ _)) _ 1 1 [.int .i32 r, .int .i64 (h)] rfl rfl (fun j u hj => Rp.news_alloc _ _ _ j u hj) (by simp [Value.oneCell']) (by decide) (by have h1 := HTL.out; unfold maxLen; omega) (by have h1 := HTL.out; omega) (by have := HA2.out.below.size; simp; omega) _ rfl ?_; intro g9 cap9 w9 hown hgrow hat hgl; have HO9 := Lib.hid hown; have HG9 := Lib.hid hgrow; clear hown hgrow hat hgl)
              go_roundw
              case rel => exact ⟨k + 1, a, by omega, by omega, by go_num, rfl, fun j hj hja => by have := HLO2.out j hj hja; omega, HNS.out, by rw [HBS2.out]; exact HA2.out.push HG9.out HO9.out⟩
              case measure => simp [intOf]; omega
        · have p1 : ¬ (a : Int) < (m : Int) := by omega
          have hcov := (cov_at HNR.out (a := a) (i := k) HLO2.out (fun h => absurd h (by have := HM.out; omega))).2 (fun h => absurd h (by have := HM.out; omega))
          have HBS2 := Lib.hid (show (bumpC d rs cs).take (k + 1) = o ++ [(r, h)] by rw [HBS.out, hcov, if_neg (by decide)])
          have HNS := Lib.hid (show ∀ j, j < k + 1 → ¬ stopI d rs cs j from fun j hj hs => by
            rcases Nat.lt_or_ge j k with h1 | h1
            · exact HST.out j h1 hs
            · obtain rfl : j = k := by omega
              have := (HSQ.out.1 hs).1
              rw [hcov] at this; cases this)
          clear hcov
          go_upto_region 35 with fail
          go_wp2_with (at_builtin; refine wpList_append_lies _ rfl (.tmp 142) (.tmp 144) 37 rfl w.heap.size 80 i0' (.agg #[.int .i32 0, .int .i64 0]) 2 16 Tryz.underlying37 HI.out.1 HI.out.2.1 HI.out.2.2.1 HI.out.2.2.2 rfl (by decide) _ _ _ rfl (Rp.own_below HA2.out.own (below_alloc1 _ _)) _ 1 1 [.int .i32 r, .int .i64 (h)] rfl rfl (fun j u hj => Rp.news_alloc _ _ _ j u hj) (by simp [Value.oneCell']) (by decide) (by have h1 := HTL.out; unfold maxLen; omega) (by have h1 := HTL.out; omega) (by have := HA2.out.below.size; simp; omega) _ rfl ?_; intro g9 cap9 w9 hown hgrow hat hgl; have HO9 := Lib.hid hown; have HG9 := Lib.hid hgrow; clear hown hgrow hat hgl)
          go_roundw
          case rel => exact ⟨k + 1, a, by omega, by omega, by go_num, rfl, fun j hj hja => by have := HLO2.out j hj hja; omega, HNS.out, by rw [HBS2.out]; exact HA2.out.push HG9.out HO9.out⟩
          case measure => simp [intOf]; omega
    · obtain rfl : k = nn := by omega
      have z1 : ¬ (k : Int) < (k : Int) := by omega
      have HNS := Lib.hid (HR2.out (fun ⟨i, hi⟩ => by
        have h1 : i < cs.length := by
          obtain ⟨_, c, h2, _⟩ := hi
          exact (List.getElem?_eq_some_iff.1 h2).1
        exact HST.out i (by have := HN.out; omega) hi))
      have own' := HA1.out.own
      rw [List.take_of_length_le (by rw [bumpC_len]; have := HN.out; omega)] at own'
      obtain ⟨A', c', hv, _, hci⟩ := CellsIn.of_own own'
      subst hv
      have HCI := Lib.hid hci
      clear own' hci
      go_wp2_with fail
      go_ret2
      rw [HNS.out]
      exact ⟨⟨A', c', rfl, HCI.out⟩, HA1.out.below⟩
end
end Go.Proofs.YtkdhomiieenfnaaGreatDoor.K

namespace Go.Proofs.YtkdhomiieenfnaaGreatDoor.K
open Go.RowKit Go.Proofs Go.Proofs.YtkdhomiieenfnaaGreatDoor.U Go.Proofs.YtkdhomiieenfnaaGreatDoor.Txt Go.Proofs.YtkdhomiieenfnaaGreatDoor.O Go.Proofs.YtkdhomiieenfnaaGreatDoor.Rp Go.Proofs.YtkdhomiieenfnaaGreatDoor.Lw
set_option linter.unusedVariables false
set_option linter.unusedSimpArgs false

theorem cellsIn_rope {w w' : World} {A : Option Addr} {cs cs0 : List Cl} {b : Nat} (h : CellsIn w A cs) (hr : Rope w b cs0) (hg : w.grownBy w' (some b)) : CellsIn w' A cs := fun h0 => by
  obtain ⟨g, off, e, hc⟩ := h h0
  have hne : g ≠ b := fun hgb => by
    subst hgb
    obtain ⟨v, t, h1, _, _⟩ := hr
    have h2 := (hc 0 h0).2
    rw [Lib.cell_of_heap h1] at h2
    have h3 := (Array.getElem?_eq_some_iff.1 h2).1
    simp at h3
  exact ⟨g, off, e, fun j hj => ⟨cell_keepB (hc j hj).1 hne hg, cell_keepB (hc j hj).2 hne hg⟩⟩
theorem rapply_any (Ac : Option Addr) (cc : Nat) (cs : List Cl) (i0 i1 kd a : Int) (tx : ByteArray) (A : Option Addr) (n c : Nat) (rs : List (Int × Int)) (t0 t1 : Int) (on : Bool) (k ps er : Nat) (xs : List Int) (hck : chk tx.data.toList = (k, ps, er)) (hxs : er = 0 → tx.data.toList = enc xs ∧ k = xs.length ∧ ∀ r ∈ xs, TxtRune r) (w : World) (hs : tx.size ≤ 4398046511104) (hn : n ≤ 1048577) (hR : Ranges w A n rs) (hC : CellsIn w Ac cs) (hl : cs.length ≤ 1048576) (hco : Cok cs) :
    Calls Tryz.prog 19 #[.slice Ac cs.length cc, opV i0 i1 kd a tx (.slice A n c) t0 t1 on] w (RApp (applyR cs i0 i1 kd a tx k er rs t0 t1 on xs) w) := by
  obtain ⟨E, hE⟩ : ∃ E, opE i0 i1 kd a tx k er rs t0 t1 on cs.length = E := ⟨_, rfl⟩
  have hap : applyR cs i0 i1 kd a tx k er rs t0 t1 on xs = if E ≠ 0 then (E, cs) else if kd = 1 then (0, cs.take a.toNat ++ run xs 0 ++ cs.drop a.toNat) else
        if kd = 2 then (if (bumpR 1 cs rs).1 = 0 then bumpR 1 cs rs else ((bumpR 1 cs rs).1, cs)) else
        if kd = 3 then (if (bumpR (-1) cs rs).1 = 0 then bumpR (-1) cs rs else ((bumpR (-1) cs rs).1, cs)) else (40, cs) := by
    unfold applyR
    rw [hE]
  by_cases h0 : E = 0
  · subst h0
    have hk := (opE_ok hE).kind
    have hp := opE_parts hE
    rw [if_neg (by decide)] at hap
    have hk4 : kd = 1 ∨ (kd = 2 ∨ kd = 3) ∨ kd = 4 := by omega
    rcases hk4 with h1 | h23 | h4
    · subst h1
      rw [if_pos rfl] at hap
      obtain ⟨he, hk0, hk256, ha0, hat, _⟩ := insE_ok (hp.2.1 rfl)
      obtain ⟨h1, h2, h3⟩ := hxs he
      obtain ⟨p, rfl⟩ : ∃ p : Nat, a = p := ⟨a.toNat, by omega⟩
      rw [hap]
      exact rapply_ins Ac cc cs i0 i1 p tx A n c rs t0 t1 on k ps er xs hck w hs hn hR hC hl hE h1 h3 (fun h => hk0 (by rw [h2, h]; rfl)) (by omega) (by omega)
    · obtain ⟨hne, hln, hsp, hnr, hx⟩ := rngE_ok (hp.2.2 h23)
      rcases h23 with rfl | rfl
      · have hb := bumpR_spec (d := 1) (.inl rfl) rs 0 cs (Int.le_refl _) hnr hx hco
        rw [if_neg (by decide), if_pos rfl] at hap
        refine rapply_cov Ac cc cs i0 i1 a 2 1 tx A n c rs t0 t1 on k ps er hck w hs hn hR hC hl hE (.inl ⟨rfl, rfl⟩) hnr hco _ (fun hs => ?_) (fun hs => ?_)
        · have h1 := hb.1 hs
          rw [if_neg (by decide)] at h1
          rw [hap, h1, if_neg (by decide), if_pos rfl]
        · have h1 := (hb.2 hs).1
          rw [hap, h1, if_pos rfl]
      · have hb := bumpR_spec (d := -1) (.inr rfl) rs 0 cs (Int.le_refl _) hnr hx hco
        rw [if_neg (by decide), if_neg (by decide), if_pos rfl] at hap
        refine rapply_cov Ac cc cs i0 i1 a 3 (-1) tx A n c rs t0 t1 on k ps er hck w hs hn hR hC hl hE (.inr ⟨rfl, rfl⟩) hnr hco _ (fun hs => ?_) (fun hs => ?_)
        · have h1 := hb.1 hs
          rw [if_pos (by decide)] at h1
          rw [hap, h1, if_neg (by decide), if_neg (by decide)]
        · have h1 := (hb.2 hs).1
          rw [hap, h1, if_pos rfl]
    · subst h4
      rw [if_neg (by decide), if_neg (by decide), if_neg (by decide)] at hap
      rw [hap]
      have := rapply_err Ac cc cs i0 i1 4 a tx A n c rs t0 t1 on k ps er hck w hs hn hR hC hl 0 hE (.inr rfl)
      rw [if_neg (by decide)] at this
      exact this
  · rw [if_pos h0] at hap
    rw [hap]
    have := rapply_err Ac cc cs i0 i1 kd a tx A n c rs t0 t1 on k ps er hck w hs hn hR hC hl E hE (.inl h0)
    rw [if_pos h0] at this
    exact this
end Go.Proofs.YtkdhomiieenfnaaGreatDoor.K

namespace Go.Proofs.YtkdhomiieenfnaaGreatDoor.K
open Go.RowKit Go.Proofs Go.Proofs.YtkdhomiieenfnaaGreatDoor.U Go.Proofs.YtkdhomiieenfnaaGreatDoor.Txt Go.Proofs.YtkdhomiieenfnaaGreatDoor.O Go.Proofs.YtkdhomiieenfnaaGreatDoor.Rp Go.Proofs.YtkdhomiieenfnaaGreatDoor.Lw
set_option linter.unusedVariables false
set_option linter.unusedSimpArgs false

set_option maxRecDepth 100000 in
set_option maxHeartbeats 4000000 in
theorem sameRuns_any (A B : Option Addr) (c c' : Nat) (l : List Pce) (w : World) (hn : l.length ≤ 1048576) (h1 : PcesIn w A l) (h2 : PcesIn w B l) :
    Calls Tryz.prog 21 #[.slice A l.length c, .slice B l.length c'] w (SameRes true w) := by
  have H1 := Lib.hid h1
  have H2 := Lib.hid h2
  obtain ⟨n, hn'⟩ : ∃ n, l.length = n := ⟨_, rfl⟩
  have HN := Lib.hid hn'
  rw [hn'] at hn ⊢
  have b1 : ((n : Int) != (n : Int)) = false := by simp
  clear h1 h2 hn'
  go_enter Tryz.func21, Tryz.ntmps21
  go_wp2_with fail
  clear b1
  go_loopw [5] (fun i wr => ∃ k : Nat, k ≤ n ∧ i = .int .i64 k ∧ Below w.heap.size w wr) (fun i _ => n - (intOf i).toNat)
  case atStart => exact ⟨0, Nat.zero_le _, rfl, Below.refl _ _⟩
  case round =>
    obtain ⟨k, hk, rfl, hb⟩ := hrel
    have HB := Lib.hid hb
    clear hb
    by_cases hlt : k < n
    · have k1 : k < l.length := by have := HN.out; omega
      obtain ⟨g1, o1, rfl, hc1⟩ := H1.out (by omega)
      obtain ⟨g2, o2, rfl, hc2⟩ := H2.out (by omega)
      have e1 := hc1 k k1
      have e2 := hc2 k k1
      obtain ⟨S, hS⟩ : ∃ S, Str l[k].1 = S := ⟨_, rfl⟩
      obtain ⟨h, hh⟩ : ∃ h, l[k].2 = h := ⟨_, rfl⟩
      rw [hS, hh] at e1 e2
      have f1 := U.cell_below HB.out e1.1
      have f2 := U.cell_below HB.out e1.2
      have f3 := U.cell_below HB.out e2.1
      have f4 := U.cell_below HB.out e2.2
      have z1 : (k : Int) < (n : Int) := by omega
      have z2 : (0 : Int) ≤ (k : Int) := by omega
      clear hc1 hc2 e1 e2 hS hh
      go_upto_region 6 with fail
      go_quiet (fail)
      go_wp2_with fail
      go_roundw
      case rel => exact ⟨k + 1, by omega, by go_num, below_drewN HB.out _⟩
      case measure => simp [intOf]; omega
    · obtain rfl : k = n := by omega
      go_wp2_with fail
      go_ret
      exact ⟨rfl, HB.out⟩
end Go.Proofs.YtkdhomiieenfnaaGreatDoor.K
