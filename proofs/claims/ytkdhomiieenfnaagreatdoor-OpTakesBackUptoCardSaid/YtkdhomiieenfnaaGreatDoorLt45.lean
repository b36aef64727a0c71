/- Numbers and marks in plain Lean: what is written is read again. A line that Print writes is read as the operation that it was written of. The plain law of OpTakesBack: what Apply makes of a deed's operation, and of its inverse. redraftlaw04.grown: is the row as it was, with a text's cells put in? How long a right operation's line is. -/
import Derived.Lib.AtoiAllCases
import Derived.Lib.SplitLaws
import Derived.Lib.ItoaMem
import Derived.Test.YtkdhomiieenfnaaGreatDoorOqParse
import Derived.Test.YtkdhomiieenfnaaGreatDoorLwRefP
import Derived.Test.YtkdhomiieenfnaaGreatDoorLt44
import Derived.Test.YtkdhomiieenfnaaGreatDoorLt18
import Derived.Lib.ItoaLen
namespace Go.Proofs.YtkdhomiieenfnaaGreatDoor.O
open Go
set_option linter.unusedVariables false
set_option linter.unusedSimpArgs false

theorem parse_app : ∀ (a b : List UInt8) (n u : Nat), Lib.parseUint10 n a = .ok u → Lib.parseUint10 n (a ++ b) = Lib.parseUint10 u b
  | [], b, n, u, h => by
    simp only [Lib.parseUint10] at h
    injection h with h
    rw [h]; rfl
  | c :: r, b, n, u, h => by
    rw [List.cons_append]
    rw [Lib.parseUint10] at h ⊢
    by_cases h1 : 48 ≤ c.toNat ∧ c.toNat ≤ 57
    · rw [if_pos h1] at h ⊢
      by_cases h2 : 1844674407370955162 ≤ n
      · rw [if_pos h2] at h; cases h
      · rw [if_neg h2] at h ⊢
        by_cases h3 : 18446744073709551616 ≤ n * 10 + (c.toNat - 48)
        · rw [if_pos h3] at h; cases h
        · rw [if_neg h3] at h ⊢
          exact parse_app r b _ u h
    · rw [if_neg h1] at h; cases h
theorem digit_nat (d : Nat) (h : d < 10) : (UInt8.ofNat (48 + d)).toNat = 48 + d := by simp; omega
theorem parse_dec (n : Nat) (hn : n < 1000000000000000000) : Lib.parseUint10 0 (Lib.decDigits n) = .ok n := by
  induction n using Nat.strongRecOn with
  | ind n ih =>
    rw [Lib.decDigits]
    split
    · rename_i h
      rw [Lib.parseUint10, digit_nat n h, if_pos (by omega), if_neg (by omega), if_neg (by omega), Lib.parseUint10]
      congr 1; omega
    · rename_i h
      rw [parse_app _ _ _ _ (ih (n / 10) (by omega) (by omega)), Lib.parseUint10, digit_nat _ (Nat.mod_lt _ (by decide)), if_pos (by omega), if_neg (by omega), if_neg (by omega), Lib.parseUint10]
      congr 1; omega
theorem dec_head (n : Nat) : ∃ c r, Lib.decDigits n = c :: r ∧ 48 ≤ c.toNat ∧ c.toNat ≤ 57 := by
  induction n using Nat.strongRecOn with
  | ind n ih =>
    rw [Lib.decDigits]
    split
    · rename_i h
      exact ⟨_, [], rfl, by rw [digit_nat n h]; omega, by rw [digit_nat n h]; omega⟩
    · rename_i h
      obtain ⟨c, r, e, h1⟩ := ih (n / 10) (by omega)
      exact ⟨c, _, by rw [e]; rfl, h1⟩
theorem atoi_dec (n : Nat) (hn : n < 1000000000000000000) : Lib.atoiAll (Lib.decDigits n) = .ok (n : Int) := by
  obtain ⟨c, r, e, h1, h2⟩ := dec_head n
  have hp := parse_dec n hn
  rw [e] at hp ⊢
  rw [Lib.atoiAll_plain c r (by omega) (by omega)]
  unfold Lib.parseMag
  rw [if_neg (by simp), hp]
  unfold Lib.signless
  simp only
  rw [if_neg (by omega)]
theorem atoi_itoa (n : Int) (h0 : 0 ≤ n) (hn : n < 1000000000000000000) : Lib.atoiAll (Lib.itoa n) = .ok n := by
  unfold Lib.itoa
  rw [if_neg (by omega), atoi_dec _ (by omega)]
  congr 1; omega

theorem index_mark (c : UInt8) : ∀ (a b : List UInt8), (∀ x ∈ a, x ≠ c) → Lib.index (a ++ c :: b) [c] = (a.length : Nat)
  | [], b, _ => by rw [List.nil_append, Lib.index]; simp [List.isPrefixOf]
  | x :: a, b, h => by
    have hx : x ≠ c := h x (by simp)
    have ih := index_mark c a b (fun y hy => h y (by simp [hy]))
    rw [List.cons_append, Lib.index, ih]
    have : ((a.length : Nat) : Int) ≠ -1 := by omega
    simp [List.isPrefixOf, Ne.symm hx, this]
theorem index_no (c : UInt8) : ∀ (a : List UInt8), (∀ x ∈ a, x ≠ c) → Lib.index a [c] = -1
  | [], _ => by rw [Lib.index]; rfl
  | x :: a, h => by
    have hx : x ≠ c := h x (by simp)
    rw [Lib.index, index_no c a (fun y hy => h y (by simp [hy]))]
    simp [List.isPrefixOf, Ne.symm hx]
theorem cut_mark (c : UInt8) (a b : List UInt8) (h : ∀ x ∈ a, x ≠ c) : Lib.cut (a ++ c :: b) [c] = (a, b, true) := by
  unfold Lib.cut
  rw [index_mark c a b h, if_pos (by omega)]
  have e : ((a.length : Nat) : Int).toNat = a.length := by omega
  rw [e]
  simp [List.drop_append]
theorem cut_no (c : UInt8) (a : List UInt8) (h : ∀ x ∈ a, x ≠ c) : Lib.cut a [c] = (a, [], false) := by
  unfold Lib.cut
  rw [index_no c a h, if_neg (by decide)]
theorem count_no (c : UInt8) (a : List UInt8) (h : ∀ x ∈ a, x ≠ c) : a.count c = 0 := List.count_eq_zero.2 fun hc => h c hc rfl
theorem split_mark' (c : UInt8) (a b : List UInt8) (h : ∀ x ∈ a, x ≠ c) : Lib.split (a ++ c :: b) [c] = a :: Lib.split b [c] := by
  unfold Lib.split
  rw [Lib.count_one, Lib.count_one, List.count_append, count_no c a h, List.count_cons_self, Nat.zero_add, Lib.splitK, index_mark c a b h]
  rw [if_neg (by simp)]
  have e : ((a.length : Nat) : Int).toNat = a.length := by omega
  have e1 : List.drop (a.length + 1) a = [] := List.drop_of_length_le (by omega)
  rw [e]
  simp [List.drop_append, e1]
theorem split_no (c : UInt8) (a : List UInt8) (h : ∀ x ∈ a, x ≠ c) : Lib.split a [c] = [a] := by
  unfold Lib.split
  rw [Lib.count_one, count_no c a h, Lib.splitK]
end Go.Proofs.YtkdhomiieenfnaaGreatDoor.O

namespace Go.Proofs.YtkdhomiieenfnaaGreatDoor.O
open Go Go.RowKit Go.Proofs Go.Joins Go.Proofs.YtkdhomiieenfnaaGreatDoor.U Go.Proofs.YtkdhomiieenfnaaGreatDoor.Txt
set_option linter.unusedVariables false
set_option linter.unusedSimpArgs false

theorem num_itoa {n : Int} (h : 0 ≤ n) (h2 : n ≤ 1048576) : numOf (Lib.itoa n) = n := by unfold numOf; rw [atoi_itoa n h (by omega)]
theorem pair_num {c : UInt8} (hc : c.toNat < 48) {a b : Int} (ha : 0 ≤ a ∧ a ≤ 1048576) (hb : 0 ≤ b ∧ b ≤ 1048576) : pairL (Lib.itoa a ++ c :: Lib.itoa b) [c] = (a, b) := by
  unfold pairL
  rw [cut_mark c _ _ (digit_no c hc a ha.1)]
  simp only [num_itoa ha.1 ha.2, num_itoa hb.1 hb.2]
theorem pair_id {a b : Int} (ha : 0 ≤ a ∧ a ≤ 1024) (hb : 0 ≤ b ∧ b ≤ 1024) : pairL (idL a b) [46] = (a, b) := by
  unfold idL
  by_cases h : a = 0 ∧ b = 0
  · rw [if_pos h]
    obtain ⟨rfl, rfl⟩ := h
    decide +kernel
  · rw [if_neg h]
    exact pair_num (by decide) (by omega) (by omega)
theorem id_no32 {a b : Int} (ha : 0 ≤ a) (hb : 0 ≤ b) : ∀ z ∈ idL a b, z ≠ 32 := by
  unfold idL
  split
  · intro z hz; rw [List.mem_singleton.1 hz]; decide
  · intro z hz
    rcases List.mem_append.1 hz with h | h
    · exact digit_no 32 (by decide) a ha z h
    · rcases List.mem_cons.1 h with rfl | h
      · decide
      · exact digit_no 32 (by decide) b hb z h
theorem split_rs : ∀ (rs : List (Int × Int)), rs ≠ [] → (∀ r ∈ rs, (0 ≤ r.1 ∧ r.1 ≤ 1048576) ∧ (0 ≤ r.2 ∧ r.2 ≤ 1048576)) → (Lib.split (rsL rs) [44]).map (pairL · [45]) = rs
  | [], h, _ => absurd rfl h
  | [r], _, h => by
    have h1 := h r (by simp)
    rw [rsL, split_no 44 _ (rg_no_comma r h1.1.1 h1.2.1)]
    have := pair_num (c := 45) (by decide) h1.1 h1.2
    simp only [List.map_cons, List.map_nil]
    unfold rgL
    rw [this]
  | r :: s :: t, _, h => by
    have h1 := h r (by simp)
    rw [rsL, split_mark' 44 _ _ (rg_no_comma r h1.1.1 h1.2.1)]
    have := pair_num (c := 45) (by decide) h1.1 h1.2
    rw [List.map_cons, split_rs (s :: t) (by simp) (fun x hx => h x (List.mem_cons_of_mem _ hx))]
    unfold rgL
    rw [this]
theorem read_of {s w rest id : List UInt8} (hid : ∀ z ∈ id, z ≠ 32) (hw : ∀ z ∈ w, z ≠ 32) (h : s = id ++ 32 :: (w ++ 32 :: rest)) : rdId s = pairL id [46] ∧ rdW s = w ∧ rdR s = rest := by
  subst h
  have e1 := cut_mark 32 id (w ++ 32 :: rest) hid
  have e2 := cut_mark 32 w rest hw
  exact ⟨by unfold rdId; rw [e1], by unfold rdW; rw [e1]; simp only; rw [e2], by unfold rdR; rw [e1]; simp only; rw [e2]⟩
theorem unqT_quote (x : List UInt8) : unqT (quoteL x) = x := by
  have := unq_quote x []
  rw [List.append_nil] at this
  unfold unqT
  rw [this]
theorem toList_mk (l : List UInt8) : (⟨l.toArray⟩ : ByteArray).toList = l := by rw [toList_eq]
/-- Parse of print gives it back. -/
theorem read_line (L : OpL) (h : L.own = 0) : readL L.line = L := by
  obtain ⟨i0, i1, kd, a, tx, rs, t0, t1, on⟩ := L
  have hok := opE_ok h
  have hx := hok.extra
  have hid := pair_id hok.id.1 hok.id.2
  have hid2 := id_no32 hok.id.1.1 hok.id.2.1
  unfold extraB at hx
  rw [toList_mk] at hx
  unfold OpL.line lineL
  simp only at hok hx ⊢
  rcases hok.kind with rfl | rfl | rfl | rfl
  · obtain ⟨_, _, _, ha, ha2⟩ := hok.ins rfl
    obtain ⟨g1, g2, g3, g4⟩ : rs = [] ∧ t0 = 0 ∧ t1 = 0 ∧ on = false := by
      simp at hx
      obtain ⟨x1, x2, x3⟩ := hx
      exact ⟨x1, x2.1, x2.2, x3⟩
    subst g1 g2 g3 g4
    obtain ⟨e1, e2, e3⟩ := read_of (s := idL i0 i1 ++ (wordL 1 false ++ (Lib.itoa a ++ 32 :: quoteL tx))) (w := [105, 110, 115]) (rest := Lib.itoa a ++ 32 :: quoteL tx) hid2 (by decide) (by unfold wordL; simp)
    simp only [if_pos] at *
    unfold readL
    rw [e1, e2, e3, if_pos rfl, hid, cut_mark 32 _ _ (digit_no 32 (by decide) a ha)]
    simp only [num_itoa ha ha2, unqT_quote]
  · obtain ⟨⟨hne, _⟩, hb⟩ := hok.cover (.inl rfl)
    obtain ⟨g0, g1, g2, g3, g4⟩ : a = 0 ∧ tx = [] ∧ t0 = 0 ∧ t1 = 0 ∧ on = false := by
      simp at hx
      obtain ⟨⟨x1, x2⟩, x3, x4⟩ := hx
      exact ⟨x1, x2, x3.1, x3.2, x4⟩
    subst g0 g1 g2 g3 g4
    obtain ⟨e1, e2, e3⟩ := read_of (s := idL i0 i1 ++ (wordL 2 false ++ rsL rs)) (w := [104, 105, 100, 101]) (rest := rsL rs) hid2 (by decide) (by unfold wordL; simp)
    rw [if_neg (by decide), if_pos (.inl rfl)]
    unfold readL
    rw [e1, e2, e3, if_neg (by decide), if_pos rfl, hid, split_rs rs hne hb]
  · obtain ⟨⟨hne, _⟩, hb⟩ := hok.cover (.inr rfl)
    obtain ⟨g0, g1, g2, g3, g4⟩ : a = 0 ∧ tx = [] ∧ t0 = 0 ∧ t1 = 0 ∧ on = false := by
      simp at hx
      obtain ⟨⟨x1, x2⟩, x3, x4⟩ := hx
      exact ⟨x1, x2, x3.1, x3.2, x4⟩
    subst g0 g1 g2 g3 g4
    obtain ⟨e1, e2, e3⟩ := read_of (s := idL i0 i1 ++ (wordL 3 false ++ rsL rs)) (w := [115, 104, 111, 119]) (rest := rsL rs) hid2 (by decide) (by unfold wordL; simp)
    rw [if_neg (by decide), if_pos (.inr rfl)]
    unfold readL
    rw [e1, e2, e3, if_neg (by decide), if_neg (by decide), if_pos rfl, hid, split_rs rs hne hb]
  · obtain ⟨k1, k2⟩ := hok.stat rfl
    obtain ⟨g0, g1, g2⟩ : a = 0 ∧ tx = [] ∧ rs = [] := by
      simp at hx
      obtain ⟨⟨x1, x2⟩, x3⟩ := hx
      exact ⟨x1, x2, x3⟩
    subst g0 g1 g2
    have hid' := pair_id k1 k2
    rw [if_neg (by decide), if_neg (by decide)]
    cases on with
    | false =>
      obtain ⟨e1, e2, e3⟩ := read_of (s := idL i0 i1 ++ (wordL 4 false ++ idL t0 t1)) (w := [111, 102, 102]) (rest := idL t0 t1) hid2 (by decide) (by unfold wordL; simp)
      unfold readL
      rw [e1, e2, e3, if_neg (by decide), if_neg (by decide), if_neg (by decide), if_neg (by decide), if_pos rfl, hid, hid']
    | true =>
      obtain ⟨e1, e2, e3⟩ := read_of (s := idL i0 i1 ++ (wordL 4 true ++ idL t0 t1)) (w := [111, 110]) (rest := idL t0 t1) hid2 (by decide) (by unfold wordL; simp)
      unfold readL
      rw [e1, e2, e3, if_neg (by decide), if_neg (by decide), if_neg (by decide), if_pos rfl, hid, hid']
end Go.Proofs.YtkdhomiieenfnaaGreatDoor.O

namespace Go.Proofs.YtkdhomiieenfnaaGreatDoor.Lw
open Go.RowKit Go.Proofs Go.Proofs.YtkdhomiieenfnaaGreatDoor.U Go.Proofs.YtkdhomiieenfnaaGreatDoor.Txt Go.Proofs.YtkdhomiieenfnaaGreatDoor.Rp Go.Proofs.YtkdhomiieenfnaaGreatDoor.O
set_option linter.unusedVariables false
set_option linter.unusedSimpArgs false

theorem up_nrm : ∀ {p : Int} {rs : List (Int × Int)}, Up p rs → Nrm (p + 1) rs
  | p, [], _ => trivial
  | p, (a, b) :: r, h => by
    obtain ⟨h1, h2, h3⟩ := h
    exact ⟨by omega, h2, up_nrm h3⟩
/-- Cells put in. -/
def insC (cs : List Cl) (a : Nat) (xs : List Int) (h : Int) : List Cl := cs.take a ++ run xs h ++ cs.drop a
theorem insC_len {cs : List Cl} {a : Nat} (xs : List Int) (h : Int) (ha : a ≤ cs.length) : (insC cs a xs h).length = cs.length + xs.length := by
  unfold insC
  rw [List.length_append, List.length_append, List.length_take, List.length_drop, run_len]
  omega
theorem run_get (xs : List Int) (h : Int) (i : Nat) : (run xs h)[i]? = (xs[i]?).map fun r => (r, h) := by simp [run]
theorem insC_get {cs : List Cl} {a : Nat} (xs : List Int) (h : Int) (ha : a ≤ cs.length) (i : Nat) : (insC cs a xs h)[i]? = if i < a then cs[i]? else if i < a + xs.length then (xs[i - a]?).map (fun r => (r, h)) else cs[i - xs.length]? := by
  unfold insC
  have e1 : (cs.take a).length = a := by rw [List.length_take]; omega
  by_cases h1 : i < a
  · rw [if_pos h1, List.append_assoc, List.getElem?_append_left (by omega), List.getElem?_take_of_lt h1]
  · rw [if_neg h1]
    by_cases h2 : i < a + xs.length
    · rw [if_pos h2, List.getElem?_append_left (by rw [List.length_append, run_len]; omega), List.getElem?_append_right (by omega), e1, run_get]
    · rw [if_neg h2, List.getElem?_append_right (by rw [List.length_append, run_len]; omega), List.length_append, run_len, e1, List.getElem?_drop]
      congr 1; omega
theorem vis_run1 (xs : List Int) {h : Int} (hh : h ≠ 0) : vis (run xs h) = [] := by
  rw [← vpos_vis 0, vpos_run1 xs hh]; rfl
theorem vis_insC1 (cs : List Cl) (a : Nat) (xs : List Int) : vis (insC cs a xs 1) = vis cs := by
  unfold insC
  rw [vis_app, vis_app, vis_run1 xs (by decide), List.append_nil, ← vis_app, List.take_append_drop]
theorem bumpC_insC {cs : List Cl} {a : Nat} {xs : List Int} (ha : a ≤ cs.length) : bumpC 1 [((a : Int), (a : Int) + xs.length)] (insC cs a xs 0) = insC cs a xs 1 := by
  apply List.ext_getElem?
  intro i
  rw [bumpC_get, insC_get xs 0 ha, insC_get xs 1 ha, cov_one]
  by_cases h1 : i < a
  · rw [if_pos h1, if_pos h1, decide_eq_false (by simp only; omega)]
    cases cs[i]? <;> rfl
  · rw [if_neg h1, if_neg h1]
    by_cases h2 : i < a + xs.length
    · rw [if_pos h2, if_pos h2, decide_eq_true (by simp only; omega)]
      cases xs[i - a]? <;> rfl
    · rw [if_neg h2, if_neg h2, decide_eq_false (by simp only; omega)]
      cases cs[i - xs.length]? <;> rfl
theorem insC_mem {cs : List Cl} {a : Nat} {xs : List Int} {h : Int} {c : Cl} (hc : c ∈ insC cs a xs h) : c ∈ cs ∨ (c.2 = h ∧ c.1 ∈ xs) := by
  rcases List.mem_append.1 hc with h1 | h1
  · rcases List.mem_append.1 h1 with h2 | h2
    · exact .inl (List.mem_of_mem_take h2)
    · exact .inr (run_mem h2)
  · exact .inl (List.mem_of_mem_drop h1)
theorem insC_cok {cs : List Cl} {a : Nat} {xs : List Int} {h : Int} (hc : Cok cs) (hh : 0 ≤ h ∧ h ≤ M) : Cok (insC cs a xs h) := fun c hm => by
  rcases insC_mem hm with h1 | ⟨h1, _⟩
  · exact hc c h1
  · rw [h1]; exact hh
theorem insC_txt {cs : List Cl} {a : Nat} {xs : List Int} {h : Int} (hc : ∀ c ∈ cs, TxtRune c.1) (hx : ∀ r ∈ xs, TxtRune r) : ∀ c ∈ insC cs a xs h, TxtRune c.1 := fun c hm => by
  rcases insC_mem hm with h1 | ⟨_, h1⟩
  · exact hc c h1
  · exact hx _ h1
/-- An Ins taken back. -/
theorem ins_back {cs : List Cl} {a : Nat} {xs : List Int} (ha : a ≤ cs.length) (hx : xs ≠ []) (hl : cs.length + xs.length ≤ 1048576) (hco : Cok cs) :
    applyR (insC cs a xs 0) 0 0 2 0 ⟨#[]⟩ 0 0 [((a : Int), (a : Int) + xs.length)] 0 0 false [] = (0, insC cs a xs 1) := by
  have hp := List.length_pos_iff.2 hx
  have h := (apply_cover (cs := insC cs a xs 0) (rs := [((a : Int), (a : Int) + xs.length)]) (kd := 2) (.inl rfl) (by simp) ⟨by simp only; omega, by simp only; omega, trivial⟩ (by simp) (fun x hx => by rw [List.mem_singleton.1 hx, insC_len xs 0 ha]; simp only; omega) (by rw [insC_len xs 0 ha]; exact hl) (insC_cok hco (by unfold M; decide)) (by
    rw [if_pos rfl]
    rintro ⟨i, hc, c, hci, hs⟩
    rw [cov_one] at hc
    have hc' := of_decide_eq_true hc
    simp only at hc'
    rw [insC_get xs 0 ha, if_neg (by omega), if_pos (by omega)] at hci
    cases hx' : xs[i - a]? with
    | none => rw [hx'] at hci; cases hci
    | some r =>
      rw [hx'] at hci
      obtain rfl := Option.some.inj hci
      rcases hs with ⟨h1, _⟩ | ⟨_, h1⟩
      · omega
      · unfold M at h1; simp only at h1; omega) 0 []).1
  rw [h, if_pos rfl, bumpC_insC ha]
theorem right_opE {L : OpL} {T : Nat} {num : Int} (h : RightOp L T num) (hT : T ≤ 32768) : opE L.i0 L.i1 L.kd L.a ⟨L.tx.toArray⟩ (chk L.tx).1 (chk L.tx).2.2 L.rs L.t0 L.t1 L.on (T : Int) = 0 := by
  obtain ⟨i0, i1, kd, a, tx, rs, t0, t1, on⟩ := L
  obtain ⟨⟨hi1, hi2, hi3, _⟩, hk, ⟨h0, h1, h2⟩⟩ := h
  simp only at *
  subst hi3 h0 h1 h2
  have hid : idB i0 1 = true := by unfold idB; simp; omega
  rcases hk with ⟨rfl, ⟨a0, a1⟩, ⟨l, rfl, l1, l2, l3⟩, rfl⟩ | ⟨hk, rfl, rfl, hup, hhi, hne, hln⟩
  · have hc := chk_text l l3
    simp only [hc]
    unfold opE
    rw [if_neg (by omega), if_neg (by omega), if_neg (fun h => by rw [hid] at h; cases h.2)]
    rw [if_neg (by simp [extraB]), if_pos rfl]
    unfold insE
    rw [if_neg (by simp), if_neg (by omega), if_neg (by omega), if_neg (by omega), if_neg (by omega), if_neg (by omega)]
  · have hs := span_up hup (fun r hr => by have := hhi r hr; omega)
    unfold opE
    rw [if_neg (by omega), if_neg (by omega), if_neg (fun h => by rw [hid] at h; cases h.2)]
    rw [if_neg (by rcases hk with rfl | rfl <;> simp [extraB, toList_empty]), if_neg (by omega), if_neg (by omega)]
    unfold rngE
    rw [if_neg hne, spanM_small (by omega), hs, if_neg (by decide)]
    rw [if_neg]
    have hp := List.length_pos_iff.2 hne
    rw [List.getElem?_eq_getElem (by omega)]
    have := hhi (rs[rs.length - 1]'(by omega)) (List.getElem_mem _)
    simp only [Option.getD_some]
    omega
theorem right_cov {L : OpL} {T : Nat} {num : Int} (h : RightOp L T num) (hT : T ≤ 32768) : covR L.i0 L.i1 L.kd L.a ⟨L.tx.toArray⟩ (chk L.tx).1 (chk L.tx).2.2 L.rs L.t0 L.t1 L.on = if L.kd = 1 then [(L.a, L.a + ((chk L.tx).1 : Nat))] else L.rs := by
  have h0 : ownE L.i0 L.i1 L.kd L.a ⟨L.tx.toArray⟩ (chk L.tx).1 (chk L.tx).2.2 L.rs L.t0 L.t1 L.on = 0 := h.own hT
  unfold covR
  rw [if_neg]
  rintro (h1 | h1)
  · exact h1 h0
  · rcases h.kind with ⟨h2, _⟩ | ⟨h2, _⟩ <;> omega
/-- What is known of an Ins. -/
structure InsOp (L : OpL) (cs : List Cl) (a : Nat) (xs : List Int) : Prop where
  kd : L.kd = 1
  at_ : L.a = a
  le : a ≤ cs.length
  tx : L.tx = enc xs
  ne : xs ≠ []
  len : xs.length ≤ 256
  txt : ∀ r ∈ xs, TxtRune r
  rs : L.rs = []
  chk : Txt.chk L.tx = (xs.length, 0, 0)
  ap : applyR cs L.i0 L.i1 L.kd L.a ⟨L.tx.toArray⟩ (Txt.chk L.tx).1 (Txt.chk L.tx).2.2 L.rs L.t0 L.t1 L.on xs = (0, insC cs a xs 0)
theorem right_ins {L : OpL} {T : Nat} {num : Int} {cs : List Cl} (h : RightOp L T num) (hT : T ≤ 32768) (hl : cs.length = T) (h1 : L.kd = 1) : ∃ a xs, InsOp L cs a xs := by
  have hE := right_opE h hT
  rw [← hl] at hE
  rcases h.kind with ⟨_, ⟨a0, a1⟩, ⟨xs, e, l1, l2, l3⟩, e2⟩ | ⟨h2, _⟩
  · refine ⟨L.a.toNat, xs, h1, by omega, by omega, e, List.length_pos_iff.1 (by omega), l2, l3, e2, by rw [e]; exact chk_text xs l3, ?_⟩
    unfold applyR
    rw [if_neg (by rw [hE]; decide), if_pos h1]
    rfl
  · omega
def dK (kd : Int) : Int := if kd = 2 then 1 else -1
/-- What is known of a Hide or a Show. -/
structure CovOp (L : OpL) (cs : List Cl) : Prop where
  kd : L.kd = 2 ∨ L.kd = 3
  a : L.a = 0
  tx : L.tx = []
  nrm : Nrm 0 L.rs
  hi : ∀ x ∈ L.rs, x.2 ≤ (cs.length : Int)
  ne : L.rs ≠ []
  len : L.rs.length ≤ 32768
  ap : (stopsR L.kd L.rs cs → applyR cs L.i0 L.i1 L.kd L.a ⟨L.tx.toArray⟩ (chk L.tx).1 (chk L.tx).2.2 L.rs L.t0 L.t1 L.on [] = (if L.kd = 2 then 31 else 30, cs)) ∧
    (¬ stopsR L.kd L.rs cs → applyR cs L.i0 L.i1 L.kd L.a ⟨L.tx.toArray⟩ (chk L.tx).1 (chk L.tx).2.2 L.rs L.t0 L.t1 L.on [] = (0, bumpC (dK L.kd) L.rs cs) ∧ Cok (bumpC (dK L.kd) L.rs cs) ∧
      applyR (bumpC (dK L.kd) L.rs cs) 0 0 (5 - L.kd) 0 ⟨#[]⟩ 0 0 L.rs 0 0 false [] = (0, cs))
theorem right_cover {L : OpL} {T : Nat} {num : Int} {cs : List Cl} (h : RightOp L T num) (hT : T ≤ 32768) (hl : cs.length = T) (hco : Cok cs) (h23 : L.kd = 2 ∨ L.kd = 3) : CovOp L cs := by
  have hE := right_opE h hT
  rw [← hl] at hE
  rcases h.kind with ⟨h2, _⟩ | ⟨_, ha, htx, hup, hhi, hne, hln⟩
  · omega
  have hn : Nrm 0 L.rs := up_nrm hup
  have hx : ∀ x ∈ L.rs, x.2 ≤ (cs.length : Int) := by rw [hl]; exact hhi
  refine ⟨h23, ha, htx, hn, hx, hne, by omega, ?_⟩
  have hap : applyR cs L.i0 L.i1 L.kd L.a ⟨L.tx.toArray⟩ (chk L.tx).1 (chk L.tx).2.2 L.rs L.t0 L.t1 L.on [] = if (bumpR (dK L.kd) cs L.rs).1 = 0 then bumpR (dK L.kd) cs L.rs else ((bumpR (dK L.kd) cs L.rs).1, cs) := by
    unfold applyR dK
    rw [if_neg (by rw [hE]; decide), if_neg (by omega)]
    rcases h23 with e | e <;> rw [e] <;> rfl
  have hb := bumpR_spec (d := dK L.kd) (by unfold dK; split <;> simp) L.rs 0 cs (Int.le_refl _) hn hx hco
  rw [stopsR_iff h23]
  change (stopC (dK L.kd) L.rs cs → _) ∧ (¬ stopC (dK L.kd) L.rs cs → _)
  refine ⟨fun hs => ?_, fun hs => ?_⟩
  · have h1 := hb.1 hs
    rw [hap]
    rcases h23 with e | e
    · rw [e] at h1 ⊢
      have e1 : dK 2 = 1 := rfl
      rw [e1, if_neg (by decide)] at h1
      rw [e1, h1, if_neg (by decide)]; rfl
    · rw [e] at h1 ⊢
      have e1 : dK 3 = -1 := rfl
      rw [e1, if_pos (by decide)] at h1
      rw [e1, h1, if_neg (by decide)]; rfl
  · obtain ⟨h1, h2⟩ := hb.2 hs
    refine ⟨by rw [hap, h1, if_pos rfl], h2, ?_⟩
    have hd : (if 5 - L.kd = 2 then (1 : Int) else -1) = -(dK L.kd) := by
      rcases h23 with e | e <;> rw [e] <;> rfl
    have h3 := (apply_cover (cs := bumpC (dK L.kd) L.rs cs) (rs := L.rs) (kd := 5 - L.kd) (by omega) hne hn (by omega) (fun x hx' => by rw [bumpC_len]; exact hx x hx') (by rw [bumpC_len]; omega) h2 (by
      rw [hd]
      rintro ⟨i, hc, c, hci, hs'⟩
      rw [bumpC_get] at hci
      cases hc0 : cs[i]? with
      | none => rw [hc0] at hci; cases hci
      | some c0 =>
        rw [hc0, Option.map_some, hc, if_pos rfl] at hci
        obtain rfl := Option.some.inj hci
        have := hco c0 (List.mem_of_getElem? hc0)
        unfold dK at hs'
        split at hs' <;> simp only at hs' <;> omega) 0 []).1
    rw [h3, hd, bumpC_back]
end Go.Proofs.YtkdhomiieenfnaaGreatDoor.Lw

namespace Go.Proofs.YtkdhomiieenfnaaGreatDoor.Lw
open Go.RowKit Go.Proofs Go.Proofs.YtkdhomiieenfnaaGreatDoor.U Go.Proofs.YtkdhomiieenfnaaGreatDoor.Txt Go.Proofs.YtkdhomiieenfnaaGreatDoor.Rp Go.Proofs.YtkdhomiieenfnaaGreatDoor.O
set_option linter.unusedVariables false
set_option linter.unusedSimpArgs false

/-- What stands at a place of a row with cells put in. -/
def GrownAt (was : List Cl) (a : Nat) (xs : List Int) (h : Int) (k : Nat) (c : Cl) : Prop :=
  (k < a ∧ ∃ h1 : k < was.length, was[k] = c) ∨ ((a ≤ k ∧ k < a + xs.length) ∧ ∃ h1 : k - a < xs.length, (xs[k - a], h) = c) ∨ (a + xs.length ≤ k ∧ ∃ h1 : k - xs.length < was.length, was[k - xs.length] = c)
theorem grown_at {was : List Cl} {a : Nat} (xs : List Int) (h : Int) (ha : a ≤ was.length) (k : Nat) (hk : k < (insC was a xs h).length) : GrownAt was a xs h k (insC was a xs h)[k] := by
  have h1 := insC_get xs h ha k
  have hl := insC_len xs h ha
  rw [List.getElem?_eq_getElem hk] at h1
  by_cases g1 : k < a
  · rw [if_pos g1, List.getElem?_eq_getElem (by omega)] at h1
    exact .inl ⟨g1, by omega, (Option.some.inj h1).symm⟩
  · rw [if_neg g1] at h1
    by_cases g2 : k < a + xs.length
    · rw [if_pos g2, List.getElem?_eq_getElem (by omega)] at h1
      exact .inr (.inl ⟨⟨by omega, g2⟩, by omega, (Option.some.inj h1).symm⟩)
    · rw [if_neg g2, List.getElem?_eq_getElem (by omega)] at h1
      exact .inr (.inr ⟨by omega, by omega, (Option.some.inj h1).symm⟩)
theorem two_set {w : World} {g : Nat} {x y u v : Value} {T : TypeId} (h : w.heap[g]? = some (.cells #[x, y] T (0, 0))) : ((w.setCell ⟨g, 0, none⟩ u).setCell ⟨g, 1, none⟩ v).heap[g]? = some (.cells #[u, v] T (0, 0)) := by
  simp [World.setCell, Array.getElem?_modify, h]
set_option maxRecDepth 100000 in
set_option maxHeartbeats 8000000 in
theorem grown_any (A1 A2 : Option Addr) (c1 c2 : Nat) (was : List Cl) (a : Nat) (xs : List Int) (h : Int) (w : World) (ha : a ≤ was.length) (htx : ∀ r ∈ xs, TxtRune r) (h1 : CellsIn w A1 was) (h2 : CellsIn w A2 (insC was a xs h)) (hl : was.length ≤ 1048576) (hx : xs.length ≤ 1048576) :
    Calls Tryz.prog 37 #[.slice A1 was.length c1, .slice A2 (insC was a xs h).length c2, .int .i64 a, .string (Str xs), .int .i64 h] w fun e w' => e = .returned (.bool true) ∧ Below w.heap.size w w' := by
  obtain ⟨ccap, w2, hcv, hcap, hb2, hcl⟩ := conv_to_runes (Str xs) xs (text_str' htx (by omega)) (by omega) w
  have HAT := Lib.hid (grown_at xs h ha)
  have HLEN := Lib.hid (insC_len xs h ha)
  have H1 := Lib.hid h1
  have H2 := Lib.hid h2
  obtain ⟨now, hnow⟩ : ∃ now, insC was a xs h = now := ⟨_, rfl⟩
  rw [hnow] at HAT HLEN H2
  rw [hnow]
  obtain ⟨n, hnn⟩ : ∃ n, was.length = n := ⟨_, rfl⟩
  obtain ⟨m, hmm⟩ : ∃ m, xs.length = m := ⟨_, rfl⟩
  obtain ⟨N, hNN⟩ : ∃ N, now.length = N := ⟨_, rfl⟩
  rw [hmm] at hcv hcap hx
  rw [hnn] at ha hl ⊢
  rw [hNN]
  have hsum : N = n + m := by have := HLEN.out; omega
  have HS := Lib.hid hsum
  have hsum' : ((N : Int) != (n : Int) + (m : Int)) = false := by simp; omega
  have HN := Lib.hid hnn
  have HM := Lib.hid hmm
  have HNN := Lib.hid hNN
  have HB2 := Lib.hid hb2
  have HCL := Lib.hid hcl
  obtain ⟨ga, hga⟩ : ∃ ga, w.heap.size = ga := ⟨_, rfl⟩
  have HGA := Lib.hid hga
  rw [hga] at hcv HCL
  have z0 : ¬ (n : Int) < (a : Int) := by omega
  have HA := Lib.hid ha
  clear h1 h2 hnow hnn hmm hNN hb2 hcl hga hsum htx ha
  go_enter Tryz.func37, Tryz.ntmps37
  go_wp2_with fail
  clear hcv hsum'
  go_loopw [12] (fun i wr => ∃ k : Nat, k ≤ N ∧ i = .int .i64 k ∧ Below w2.heap.size w2 wr) (fun i _ => N - (intOf i).toNat)
  case atStart => exact ⟨0, Nat.zero_le _, rfl, Below.refl _ _⟩
  case round =>
    obtain ⟨k, hk, rfl, hb⟩ := hrel
    have HB := Lib.hid hb
    clear hb
    have hsz1 : N ≤ n + m := by have := HS.out; omega
    have hsz2 : n + m ≤ N := by have := HS.out; omega
    by_cases hlt : k < N
    · have hkl : k < now.length := by have := HNN.out; omega
      obtain ⟨g2, o2, rfl, hc2⟩ := H2.out (by omega)
      have e2 := hc2 k hkl
      have hat := HAT.out k hkl
      obtain ⟨⟨r, hh⟩, hrh⟩ : ∃ c, now[k] = c := ⟨_, rfl⟩
      rw [hrh] at e2 hat
      simp only at e2
      have HE := Lib.hid (fun (W : World) (hW : Below w2.heap.size w2 W) => And.intro (U.cell_below (HB2.out.trans (hW.mono HB2.out.size)) e2.1) (U.cell_below (HB2.out.trans (hW.mono HB2.out.size)) e2.2))
      have z1 : (k : Int) < (N : Int) := by omega
      have z2 : (0 : Int) ≤ (k : Int) := by omega
      have z3 : (k : Int) ≤ 2097152 := by omega
      have hm0 : (m : Int) ≤ 1048576 := by omega
      clear hc2 hrh e2 hkl
      go_upto_region 9 with fail
      obtain ⟨w3, hw3⟩ : ∃ w3, wr.alloc (.cells #[.int .i32 0, .int .i64 0] 80) = w3 := ⟨_, rfl⟩
      obtain ⟨gq, hgq⟩ : ∃ gq, wr.heap.size = gq := ⟨_, rfl⟩
      have hb3 : Below wr.heap.size wr w3 := by rw [← hw3]; exact below_alloc1 _ _
      have hy3 : w3.heap[gq]? = some (.cells #[.int .i32 0, .int .i64 0] 80 (0, 0)) := by rw [← hw3, ← hgq]; exact heap_at rfl
      have HB3 := Lib.hid (HB.out.trans (hb3.mono HB.out.size))
      have HGQ := Lib.hid (show w2.heap.size ≤ gq by rw [← hgq]; exact HB.out.size)
      have y0 : w3.cell? ⟨gq, 0, none⟩ = some (.int .i32 0) := by rw [Lib.cell_of_heap hy3]; rfl
      have y1 : w3.cell? ⟨gq, 1, none⟩ = some (.int .i64 0) := by rw [Lib.cell_of_heap hy3]; rfl
      have y2 : w3.frozen? ⟨gq, 0, none⟩ = false := Lib.frozen_of_heap hy3 0
      have y3 : w3.frozen? ⟨gq, 1, none⟩ = false := Lib.frozen_of_heap hy3 1
      have y4 := (Array.getElem?_eq_some_iff.1 hy3).1
      rw [hw3, hgq]
      have HY3 := Lib.hid hy3
      clear hw3 hgq hb3 hy3
      rcases hat with ⟨g1, hkw, hat⟩ | ⟨⟨g1, g2'⟩, hkx, hat⟩ | ⟨g1, hkw, hat⟩
      · obtain ⟨ga1, o1, rfl, hc1⟩ := H1.out (by omega)
        have e1 := hc1 k hkw
        rw [hat] at e1
        simp only at e1
        have f1 := U.cell_below (HB2.out.trans (HB3.out.mono HB2.out.size)) e1.1
        have f2 := U.cell_below (HB2.out.trans (HB3.out.mono HB2.out.size)) e1.2
        have q1 : decide (k < a) = true := by simpa using g1
        have q2 : (k : Int) < (n : Int) := by have := HN.out; omega
        clear hc1 hat e1 hlt hkw
        go_upto_region 13 with fail
        clear f1 f2
        obtain ⟨w4, hw4⟩ : ∃ w4, (w3.setCell ⟨gq, 0, none⟩ (.int .i32 r)).setCell ⟨gq, 1, none⟩ (.int .i64 hh) = w4 := ⟨_, rfl⟩
        have hy4 : w4.heap[gq]? = some (.cells #[.int .i32 r, .int .i64 hh] 80 (0, 0)) := by rw [← hw4]; exact two_set HY3.out
        have HB4 := Lib.hid (show Below w2.heap.size w2 w4 by rw [← hw4]; exact (HB3.out.setCell (p := ⟨gq, 0, none⟩) HGQ.out _).setCell (p := ⟨gq, 1, none⟩) HGQ.out _)
        rw [hw4]
        have x0 : w4.cell? ⟨gq, 0, none⟩ = some (.int .i32 r) := by rw [Lib.cell_of_heap hy4]; rfl
        have x1 : w4.cell? ⟨gq, 1, none⟩ = some (.int .i64 hh) := by rw [Lib.cell_of_heap hy4]; rfl
        obtain ⟨x2, x3⟩ := HE.out w4 HB4.out
        clear hw4 hy4 y0 y1 y2 y3 y4
        go_quiet (fail)
        go_wp2_with fail
        go_roundw
        case rel => exact ⟨k + 1, by omega, by go_num, below_drewN HB4.out _⟩
        case measure => simp [intOf]; omega
      · obtain ⟨j, hj⟩ : ∃ j, k - a = j := ⟨_, rfl⟩
        have hji : (k : Int) - (a : Int) = (j : Int) := by omega
        have hxj : r = xs.getD j 0 ∧ hh = h := by
          have h1 := (Prod.mk.inj hat).1
          have h2 := (Prod.mk.inj hat).2
          refine ⟨?_, h2.symm⟩
          rw [← h1, ← hj, List.getD, List.getElem?_eq_getElem hkx]; rfl
        obtain ⟨ad, e, hcs⟩ := HCL.out (by omega)
        obtain rfl := Option.some.inj e
        have h8 := hcs j (by omega)
        rw [show (⟨ga, 0, none⟩ : Addr).add j = ⟨ga, j, none⟩ by unfold Addr.add; split <;> simp_all, ← hxj.1] at h8
        have f1 := U.cell_below HB3.out h8
        have q1 : decide (k < a) = false := by simp; omega
        have q2 : (k : Int) < (a : Int) + (m : Int) := by have := HM.out; omega
        have q3 : (j : Int) < (m : Int) := by have := HM.out; omega
        have q4 : (0 : Int) ≤ (j : Int) := by omega
        obtain rfl := hxj.2
        clear hcs e hat hlt hkx h8 hj hxj
        go_upto_region 13 with fail
        clear f1 hji
        obtain ⟨w4, hw4⟩ : ∃ w4, (w3.setCell ⟨gq, 0, none⟩ (.int .i32 r)).setCell ⟨gq, 1, none⟩ (.int .i64 hh) = w4 := ⟨_, rfl⟩
        have hy4 : w4.heap[gq]? = some (.cells #[.int .i32 r, .int .i64 hh] 80 (0, 0)) := by rw [← hw4]; exact two_set HY3.out
        have HB4 := Lib.hid (show Below w2.heap.size w2 w4 by rw [← hw4]; exact (HB3.out.setCell (p := ⟨gq, 0, none⟩) HGQ.out _).setCell (p := ⟨gq, 1, none⟩) HGQ.out _)
        rw [hw4]
        have x0 : w4.cell? ⟨gq, 0, none⟩ = some (.int .i32 r) := by rw [Lib.cell_of_heap hy4]; rfl
        have x1 : w4.cell? ⟨gq, 1, none⟩ = some (.int .i64 hh) := by rw [Lib.cell_of_heap hy4]; rfl
        obtain ⟨x2, x3⟩ := HE.out w4 HB4.out
        clear hw4 hy4 y0 y1 y2 y3 y4
        go_quiet (fail)
        go_wp2_with fail
        go_roundw
        case rel => exact ⟨k + 1, by omega, by go_num, below_drewN HB4.out _⟩
        case measure => simp [intOf]; omega
      · obtain ⟨j, hj⟩ : ∃ j, k - xs.length = j := ⟨_, rfl⟩
        have hji : (k : Int) - (m : Int) = (j : Int) := by have := HM.out; omega
        have hjl : j < was.length := by omega
        have hat2 : was[j] = (r, hh) := by rw [← hat]; congr 1; exact hj.symm
        obtain ⟨ga1, o1, rfl, hc1⟩ := H1.out (by omega)
        have e1 := hc1 j hjl
        rw [hat2] at e1
        simp only at e1
        have f1 := U.cell_below (HB2.out.trans (HB3.out.mono HB2.out.size)) e1.1
        have f2 := U.cell_below (HB2.out.trans (HB3.out.mono HB2.out.size)) e1.2
        have q1 : decide (k < a) = false := by have := HM.out; simp; omega
        have q2 : ¬ (k : Int) < (a : Int) + (m : Int) := by have := HM.out; omega
        have q3 : (j : Int) < (n : Int) := by have := HN.out; omega
        have q4 : (0 : Int) ≤ (j : Int) := by omega
        clear hc1 hat hat2 e1 hlt hkw hj hjl
        go_upto_region 13 with fail
        clear f1 f2 hji
        obtain ⟨w4, hw4⟩ : ∃ w4, (w3.setCell ⟨gq, 0, none⟩ (.int .i32 r)).setCell ⟨gq, 1, none⟩ (.int .i64 hh) = w4 := ⟨_, rfl⟩
        have hy4 : w4.heap[gq]? = some (.cells #[.int .i32 r, .int .i64 hh] 80 (0, 0)) := by rw [← hw4]; exact two_set HY3.out
        have HB4 := Lib.hid (show Below w2.heap.size w2 w4 by rw [← hw4]; exact (HB3.out.setCell (p := ⟨gq, 0, none⟩) HGQ.out _).setCell (p := ⟨gq, 1, none⟩) HGQ.out _)
        rw [hw4]
        have x0 : w4.cell? ⟨gq, 0, none⟩ = some (.int .i32 r) := by rw [Lib.cell_of_heap hy4]; rfl
        have x1 : w4.cell? ⟨gq, 1, none⟩ = some (.int .i64 hh) := by rw [Lib.cell_of_heap hy4]; rfl
        obtain ⟨x2, x3⟩ := HE.out w4 HB4.out
        clear hw4 hy4 y0 y1 y2 y3 y4
        go_quiet (fail)
        go_wp2_with fail
        go_roundw
        case rel => exact ⟨k + 1, by omega, by go_num, below_drewN HB4.out _⟩
        case measure => simp [intOf]; omega
    · obtain rfl : k = N := by omega
      go_wp2_with fail
      go_ret
      exact ⟨rfl, HB2.out.trans (HB.out.mono HB2.out.size)⟩
end Go.Proofs.YtkdhomiieenfnaaGreatDoor.Lw

namespace Go.Proofs.YtkdhomiieenfnaaGreatDoor.O
open Go Go.RowKit Go.Proofs Go.Joins Go.Proofs.YtkdhomiieenfnaaGreatDoor.U Go.Proofs.YtkdhomiieenfnaaGreatDoor.Txt
set_option linter.unusedVariables false
set_option linter.unusedSimpArgs false

theorem dec_len_le7 (n : Nat) : ∀ k, n < 10 ^ (k + 1) → (Lib.decDigits n).length ≤ k + 1 := by
  induction n using Nat.strongRecOn with
  | ind n ih =>
    intro k hk
    rw [Lib.decDigits]
    split
    · simp
    · rename_i h
      cases k with
      | zero => omega
      | succ k =>
        have := ih (n / 10) (by omega) k (by rw [Nat.pow_succ] at hk; omega)
        rw [List.length_append, List.length_singleton]
        omega
theorem itoa_len7 {n : Int} (h : 0 ≤ n) (h2 : n ≤ 1048576) : (Lib.itoa n).length ≤ 7 := by
  unfold Lib.itoa
  rw [if_neg (by omega)]
  exact dec_len_le7 n.toNat 6 (by omega)
theorem id_len {a b : Int} (ha : 0 ≤ a ∧ a ≤ 1024) (hb : 0 ≤ b ∧ b ≤ 1024) : (idL a b).length ≤ 15 := by
  have h1 := itoa_len7 ha.1 (by omega)
  have h2 := itoa_len7 hb.1 (by omega)
  unfold idL
  split
  · simp
  · rw [List.length_append, List.length_cons]; omega
theorem rs_len : ∀ (rs : List (Int × Int)), (∀ r ∈ rs, (0 ≤ r.1 ∧ r.1 ≤ 1048576) ∧ (0 ≤ r.2 ∧ r.2 ≤ 1048576)) → (rsL rs).length ≤ rs.length * 16
  | [], _ => by simp [rsL]
  | [r], h => by
    have h1 := h r (by simp)
    have h2 := itoa_len7 h1.1.1 h1.1.2
    have h3 := itoa_len7 h1.2.1 h1.2.2
    rw [rsL]; unfold rgL
    rw [List.length_append, List.length_cons, List.length_singleton]; omega
  | r :: s :: t, h => by
    have h1 := h r (by simp)
    have h2 := itoa_len7 h1.1.1 h1.1.2
    have h3 := itoa_len7 h1.2.1 h1.2.2
    have ih := rs_len (s :: t) (fun x hx => h x (List.mem_cons_of_mem _ hx))
    rw [rsL, List.length_append, List.length_cons]; unfold rgL
    rw [List.length_append, List.length_cons]
    simp only [List.length_cons] at ih ⊢
    omega
theorem word_len (kd : Int) (on : Bool) : (wordL kd on).length ≤ 6 := by
  unfold wordL
  repeat' split
  all_goals simp
theorem line_len (L : OpL) (h : L.own = 0) (ht : L.tx.length ≤ 1024) : L.line.length ≤ 1048576 := by
  obtain ⟨i0, i1, kd, a, tx, rs, t0, t1, on⟩ := L
  have hok := opE_ok h
  have h1 := id_len hok.id.1 hok.id.2
  have h2 := word_len kd on
  unfold OpL.line lineL
  simp only at hok ht h1 ⊢
  rw [List.length_append, List.length_append]
  rcases hok.kind with rfl | rfl | rfl | rfl
  · obtain ⟨_, _, _, ha, ha2⟩ := hok.ins rfl
    have h3 := itoa_len7 ha ha2
    have h4 := qS_le tx.length tx
    rw [if_pos rfl, List.length_append, List.length_cons, quoteL_len]
    omega
  · obtain ⟨⟨hne, hl⟩, hb⟩ := hok.cover (.inl rfl)
    have h3 := rs_len rs hb
    rw [if_neg (by decide), if_pos (.inl rfl)]
    omega
  · obtain ⟨⟨hne, hl⟩, hb⟩ := hok.cover (.inr rfl)
    have h3 := rs_len rs hb
    rw [if_neg (by decide), if_pos (.inr rfl)]
    omega
  · obtain ⟨k1, k2⟩ := hok.stat rfl
    have h3 := id_len k1 k2
    rw [if_neg (by decide), if_neg (by decide)]
    omega
end Go.Proofs.YtkdhomiieenfnaaGreatDoor.O
