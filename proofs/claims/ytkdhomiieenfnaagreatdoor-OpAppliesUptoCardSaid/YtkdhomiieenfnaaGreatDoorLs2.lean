/- Strings of runes that the statements make themselves: string(l) of a list of runes that the call owns; its bytes; Check of it. redraftlaw04.letters. A string that is a text: its runes. The pieces of a tree in plain Lean, and a walk over them. -/
import Derived.Test.YtkdhomiieenfnaaGreatDoorLs1
import Derived.Deep.AppendLies
import Derived.OwnWalk
import Derived.Laws.Cover4
namespace Go.Proofs.YtkdhomiieenfnaaGreatDoor.U
open Go.RowKit Go.Proofs.YtkdhomiieenfnaaGreatDoor.Txt
set_option linter.unusedVariables false
set_option linter.unusedSimpArgs false

/-- The string of a list of runes. -/
def Str (xs : List Int) : ByteArray := runesBytes xs
theorem foldl_enc (xs : List Int) : ∀ s : ByteArray, (xs.foldl (fun r n => r ++ Utf8.encode n) s).data.toList = s.data.toList ++ enc xs := by
  induction xs with
  | nil => intro s; simp [enc]
  | cons x xs ih =>
    intro s
    rw [List.foldl_cons, ih, enc_cons]
    simp [encB]
theorem str_list (xs : List Int) : (Str xs).data.toList = enc xs := by
  unfold Str runesBytes
  rw [foldl_enc]
  simp
theorem str_size (xs : List Int) : (Str xs).size = (enc xs).length := by rw [← size_toList, str_list]
theorem app_list (a b : ByteArray) : (a ++ b).data.toList = a.data.toList ++ b.data.toList := by simp
theorem take_list (a : ByteArray) (n : Nat) : (a.extract 0 n).data.toList = a.data.toList.take n := by
  simp [ByteArray.data_extract, Array.toList_extract]

/-- A slice of int32 whose cells are these numbers (nil, if there are none and it is nil). -/
def Cells32 (w : World) (A : Option Addr) (xs : List Int) : Prop := 0 < xs.length → ∃ ad, A = some ad ∧ ∀ j, j < xs.length → w.cell? (ad.add j) = some (.int .i32 (xs.getD j 0))
theorem own_runes {W : World} {base e : Nat} {v : Value} {xs : List Int} (h : W.ownsRow base e 1 v xs.length (i32s xs)) : ∃ A c, v = .slice A xs.length c ∧ xs.length ≤ c ∧ Cells32 W A xs := by
  rcases h.2 with ⟨rfl, h0⟩ | ⟨g, cap, cur, rfl, _, _, hcap, _⟩
  · exact ⟨none, 0, by rw [h0], by omega, fun hp => by omega⟩
  · refine ⟨_, cap, rfl, hcap, fun _ => ⟨_, rfl, fun j hj => h.cells (g := g) rfl j _ ?_⟩⟩
    simp [i32s, List.getElem?_eq_getElem (show j < xs.length by omega), List.getD_eq_getElem?_getD]
theorem conv_runes {W : World} {A : Option Addr} {c : Nat} {xs : List Int} (h : Cells32 W A xs) : (convert 49 9 (.slice A xs.length c)).run Tryz.prog W = .ok (.string (Str xs)) W := by
  rcases Nat.eq_zero_or_pos xs.length with h0 | h0
  · obtain rfl : xs = [] := List.length_eq_zero_iff.1 h0
    rw [run_convert_runes_string W _ _ _ _ _ _ Tryz.underlying49 Tryz.underlying21 Tryz.underlying9]
    cases A with
    | none => rfl
    | some a => exact run_runesToString W a 0 c [] (by rw [run_loadCells W a 0 (fun _ => .int .i32 0) (fun j hj => by omega)]; rfl)
  · obtain ⟨ad, rfl, hc⟩ := h h0
    have := run_convert_runes W 49 9 21 ad xs.length c xs (Nat.le_refl _) Tryz.underlying49 Tryz.underlying21 Tryz.underlying9 hc
    rwa [List.take_length] at this
theorem Reads32.below {w w' : World} {A : Option Addr} {n : Nat} {xs : List Int} (h : Reads32 w A n xs) (hb : Below w.heap.size w w') : Reads32 w' A n xs :=
  ⟨h.1, h.2.1, fun h0 => by
    obtain ⟨ad, e, hlt, hc⟩ := h.2.2 h0
    exact ⟨ad, e, Nat.lt_of_lt_of_le hlt hb.size, fun j hj => by rw [hb.cell (by rw [add_block]; exact hlt)]; exact hc j hj⟩⟩
/-- A list of runes that let hands back: its string is a text of so many runes. -/
theorem str_chk (xs : List Int) : chk (Str (xs.map letR)).data.toList = (xs.length, 0, 0) := by
  rw [str_list, chk_text _ (lets_good xs), List.length_map]
theorem cell_below {w w1 : World} (h : Below w.heap.size w w1) {a : Addr} {v : Value} (hc : w.cell? a = some v) : w1.cell? a = some v := (h.cell (World.block_lt_of_cell? w a hc)).trans hc
theorem Cells32.below {w w' : World} {A : Option Addr} {xs : List Int} (h : Cells32 w A xs) (hb : Below w.heap.size w w') : Cells32 w' A xs := fun h0 => by
  obtain ⟨ad, e, hc⟩ := h h0
  exact ⟨ad, e, fun j hj => cell_below hb (hc j hj)⟩
theorem Cells32.take {w : World} {A : Option Addr} {xs : List Int} (h : Cells32 w A xs) (k : Nat) : Cells32 w A (xs.take k) := fun h0 => by
  rw [List.length_take] at h0
  obtain ⟨ad, e, hc⟩ := h (by omega)
  refine ⟨ad, e, fun j hj => ?_⟩
  rw [List.length_take] at hj
  rw [hc j (by omega)]
  simp [List.getD, List.getElem?_take, show j < k by omega]
/-- string(l[:k]). -/
theorem conv_take {W : World} {A : Option Addr} {c k : Nat} {xs : List Int} (h : Cells32 W A xs) (hk : k ≤ xs.length) : (convert 49 9 (.slice A k c)).run Tryz.prog W = .ok (.string (Str (xs.take k))) W := by
  have := conv_runes (c := c) (h.take k)
  rwa [List.length_take, Nat.min_eq_left hk] at this
end Go.Proofs.YtkdhomiieenfnaaGreatDoor.U

namespace Go.Proofs.YtkdhomiieenfnaaGreatDoor.O
open Go.RowKit Go.Proofs.YtkdhomiieenfnaaGreatDoor.Txt Go.Proofs.YtkdhomiieenfnaaGreatDoor.U
set_option linter.unusedVariables false
set_option linter.unusedSimpArgs false

theorem i32s_snoc (l : List Int) (y : Int) : i32s l ++ [.int .i32 y] = i32s (l ++ [y]) := by simp [i32s]
theorem txt_plain {r : Int} (h : r = 10 ∨ (32 ≤ r ∧ r ≤ 126) ∨ (161 ≤ r ∧ r ≤ 55295)) : TxtRune r := by
  have := txt_letR r
  unfold letR at this
  rwa [if_pos (by omega)] at this
theorem txt_snoc {l : List Int} {y : Int} (h : ∀ r ∈ l, TxtRune r) (hy : TxtRune y) : ∀ r ∈ l ++ [y], TxtRune r := fun r hr => by
  rcases List.mem_append.1 hr with h1 | h1
  · exact h r h1
  · rw [List.mem_singleton.1 h1]; exact hy
/-- What letters hands back. -/
def LettersRes (w : World) (e : Ending) (w' : World) : Prop :=
  ∃ v l, e = .returned v ∧ w'.ownsRow w.heap.size 21 1 v l.length (i32s l) ∧ 1 ≤ l.length ∧ l.length ≤ 256 ∧ (∀ r ∈ l, TxtRune r) ∧ Below w.heap.size w w'
/-- What letters hands back, its length too. -/
def LettersLen (n : Nat) (w : World) (e : Ending) (w' : World) : Prop :=
  ∃ v l, e = .returned v ∧ w'.ownsRow w.heap.size 21 1 v l.length (i32s l) ∧ 1 ≤ l.length ∧ l.length ≤ 256 ∧ (∀ r ∈ l, TxtRune r) ∧ Below w.heap.size w w' ∧ (0 < n → n ≤ 256 → l.length = n)
set_option maxRecDepth 100000 in
set_option maxHeartbeats 4000000 in
theorem letters_len (A : Option Addr) (n c : Nat) (xs : List Int) (w : World) (hr : Reads32 w A n xs) :
    Calls Tryz.prog 40 #[.slice A n c] w (LettersLen n w) := by
  obtain ⟨hl, hn, hr⟩ := hr
  obtain ⟨i0, hi, hz0, hz1, hz2⟩ := info_parts info32
  have hsl := Tryz.underlying49
  have HHR := Lib.hid hr
  clear hr
  go_enter Tryz.func40, Tryz.ntmps40
  go_wp2_with fail
  go_loopw [3, 4] (fun v i wr => ∃ (k : Nat) (l : List Int), k ≤ n ∧ k ≤ 256 ∧ i = .int .i64 k ∧ l.length = k ∧ wr.ownsRow w.heap.size 21 1 v k (i32s l) ∧ (∀ r ∈ l, TxtRune r) ∧ Below w.heap.size w wr) (fun _ i _ => n - (intOf i).toNat)
  case atStart => exact ⟨0, [], Nat.zero_le _, by omega, rfl, rfl, ⟨rfl, .inl ⟨rfl, rfl⟩⟩, (fun r hr => by cases hr), Below.refl _ _⟩
  case round =>
    obtain ⟨k, l, hk, hk2, rfl, hlk, hown, htx, hb⟩ := hrel
    have HO := Lib.hid hown
    have HB := Lib.hid hb
    have HT := Lib.hid htx
    have HLK := Lib.hid hlk
    have hbase : ∀ o, w.heap.size ≤ (wr.alloc o).heap.size := fun o => by have := HB.out.size; simp; omega
    have HBASE := Lib.hid hbase
    have H63 := Lib.hid (show k + 1 ≤ maxLen by unfold maxLen; omega)
    have HBY := Lib.hid (show (k + 1) * 4 ≤ 140737488355328 by omega)
    clear hown hb htx hlk hbase
    by_cases hlt : k < n
    · by_cases h256 : k < 256
      · have h256' : decide ((k : Int) < 256) = true := by simp; omega
        obtain ⟨ad, rfl, hbl, hcs⟩ := HHR.out (by omega)
        have hcell := hcs k hlt
        rw [← HB.out.cell (by rw [add_block]; exact hbl)] at hcell
        generalize xs.getD k 0 = x at hcell
        clear hcs
        have HC : x = 10 ∨ (x < 10 ∨ (10 < x ∧ x < 32)) ∨ (32 ≤ x ∧ x ≤ 126) ∨ (126 < x ∧ x < 161) ∨ (161 ≤ x ∧ x ≤ 55295) ∨ 55295 < x := by omega
        rcases HC with rfl | h | h | h | h | h
        case inl =>
          go_wp2_with (at_builtin; refine wpList_append_own _ rfl (.tmp 38) (.tmp 40) 49 rfl w.heap.size 21 i0 (.int .i32 0) 1 4 hsl hi hz0 hz1 hz2 rfl (by decide) _ _ _ rfl (HO.out.alloc _) ⟨wr.heap.size, 0, none⟩ 1 1 [_] rfl rfl (cell_one_new _ _ _) (by simp [Value.oneCell']) H63.out HBY.out (HBASE.out _) ?_; intro v' w1 hown1 hgrow1 _; have HO1 := Lib.hid hown1; have HG1 := Lib.hid hgrow1; clear hown1 hgrow1)
          go_roundw
          case rel => exact ⟨k + 1, l ++ [10], by omega, by omega, by go_num, by rw [List.length_append, HLK.out]; rfl, by have := HO1.out; rwa [i32s_snoc] at this, txt_snoc HT.out (txt_plain (.inl rfl)), round_below HB.out HO.out HG1.out⟩
          case measure => simp [intOf]; omega
        all_goals
          have b10 : (x != 10) = true := by simp; omega
          go_wp2_with (at_builtin; refine wpList_append_own _ rfl (.tmp 38) (.tmp 40) 49 rfl w.heap.size 21 i0 (.int .i32 0) 1 4 hsl hi hz0 hz1 hz2 rfl (by decide) _ _ _ rfl (HO.out.alloc _) ⟨wr.heap.size, 0, none⟩ 1 1 [_] rfl rfl (cell_one_new _ _ _) (by simp [Value.oneCell']) H63.out HBY.out (HBASE.out _) ?_; intro v' w1 hown1 hgrow1 _; have HO1 := Lib.hid hown1; have HG1 := Lib.hid hgrow1; clear hown1 hgrow1)
          go_roundw
          case rel => exact ⟨k + 1, l ++ [_], by omega, by omega, by go_num, by rw [List.length_append, HLK.out]; rfl, by have := HO1.out; rwa [i32s_snoc] at this, txt_snoc HT.out (txt_plain (by omega)), round_below HB.out HO.out HG1.out⟩
          case measure => simp [intOf]; omega
      · have h256' : decide ((k : Int) < 256) = false := by simp; omega
        have HLT := Lib.hid (show n ≤ 256 → k = n by omega)
        have hk0 : ¬ (k : Int) = 0 := by omega
        have hk1 : ((k : Int) == 0) = false := by simp; omega
        obtain ⟨A', cap, rfl⟩ : ∃ A' cap, u3 = .slice A' k cap := by
          rcases HO.out.2 with ⟨h, h0⟩ | ⟨g, cap, cur, hv, _⟩
          · exact ⟨_, _, by rw [h, h0]⟩
          · exact ⟨_, cap, hv⟩
        go_wp2_with fail
        go_ret
        exact ⟨_, l, rfl, by rw [HLK.out]; exact HO.out, by have := HLK.out; omega, by have := HLK.out; omega, HT.out, HB.out, fun _ _ => by have := HLK.out; have := HLT.out; omega⟩
    · have hkn : decide (k < n) = false := by simp; omega
      have HLT := Lib.hid (show k = n by omega)
      obtain ⟨A', cap, hu⟩ : ∃ A' cap, u3 = .slice A' k cap := by
        rcases HO.out.2 with ⟨h, h0⟩ | ⟨g, cap, cur, hv, _⟩
        · exact ⟨_, _, by rw [h, h0]⟩
        · exact ⟨_, cap, hv⟩
      subst hu
      by_cases h0 : k = 0
      · subst h0
        obtain rfl : l = [] := List.length_eq_zero_iff.1 HLK.out
        go_wp2_with (at_builtin; refine wpList_append_own _ rfl (.tmp 45) (.tmp 46) 49 rfl w.heap.size 21 i0 (.int .i32 0) 1 4 hsl hi hz0 hz1 hz2 rfl (by decide) _ _ _ rfl (HO.out.alloc _) ⟨wr.heap.size, 0, none⟩ 1 1 [_] rfl rfl (cell_one_new _ _ _) (by simp [Value.oneCell']) H63.out HBY.out (HBASE.out _) ?_; intro v' w1 hown1 hgrow1 _; have HO1 := Lib.hid hown1; have HG1 := Lib.hid hgrow1; clear hown1 hgrow1)
        go_ret
        exact ⟨_, [120], rfl, HO1.out, by decide, by decide, (fun r hr => by rw [List.mem_singleton.1 hr]; exact txt_plain (by omega)), round_below HB.out HO.out HG1.out, fun h1 _ => by have := HLT.out; omega⟩
      · have hk1 : ((k : Int) == 0) = false := by simp; omega
        have hk2' : ¬ (k : Int) = 0 := by omega
        go_wp2_with fail
        go_ret
        exact ⟨_, l, rfl, by rw [HLK.out]; exact HO.out, by have := HLK.out; omega, by have := HLK.out; omega, HT.out, HB.out, fun _ _ => by have := HLK.out; have := HLT.out; omega⟩
theorem letters_any (A : Option Addr) (n c : Nat) (xs : List Int) (w : World) (hr : Reads32 w A n xs) :
    Calls Tryz.prog 40 #[.slice A n c] w (LettersRes w) :=
  (letters_len A n c xs w hr).mono fun _ _ ⟨v, l, h1, h2, h3, h4, h5, h6, _⟩ => ⟨v, l, h1, h2, h3, h4, h5, h6⟩
end Go.Proofs.YtkdhomiieenfnaaGreatDoor.O

namespace Go.Proofs.YtkdhomiieenfnaaGreatDoor.U
open Go.RowKit Go.Proofs.YtkdhomiieenfnaaGreatDoor.Txt
set_option linter.unusedVariables false
set_option linter.unusedSimpArgs false

/-- A string that is a text: its runes. -/
structure Text (S : ByteArray) (rs : List Int) : Prop where
  eq : S.data.toList = enc rs
  ok : ∀ r ∈ rs, TxtRune r
  size : S.size ≤ 1152921504606846976
theorem Text.len {S : ByteArray} {rs : List Int} (h : Text S rs) : S.size = (enc rs).length := by rw [← size_toList, h.eq]
theorem Text.le {S : ByteArray} {rs : List Int} (h : Text S rs) : rs.length ≤ S.size := by rw [h.len]; exact enc_len_ge rs
theorem Text.chk {S : ByteArray} {rs : List Int} (h : Text S rs) : ((chk S.data.toList).1 : Int) = rs.length ∧ ((chk S.data.toList).2.1 : Int) = 0 ∧ ((chk S.data.toList).2.2 : Int) = 0 := by
  rw [h.eq, chk_text rs h.ok]; exact ⟨rfl, rfl, rfl⟩
theorem Text.dec {S : ByteArray} {rs : List Int} (h : Text S rs) (k : Nat) (hk : k < rs.length) : Utf8.decode S (psz rs k) = ((rs.getD k 0).toNat, (encB (rs.getD k 0)).length) := by
  rw [dec_eq, h.eq]; exact dec_psz rs h.ok k hk
theorem Text.str (xs : List Int) (hl : xs.length ≤ 35184372087808) : Text (Str (xs.map letR)) (xs.map letR) :=
  ⟨str_list _, lets_good xs, by rw [str_size]; have := enc_len_le (xs.map letR); rw [List.length_map] at this; omega⟩

theorem ret_ii {a b c d : Int} (h : a = c) (h' : b = d) : Ending.returned (.tuple #[.int .i64 a, .int .i64 b]) = .returned (.tuple #[.int .i64 c, .int .i64 d]) := by rw [h, h']
/-- Where a loop over a text's runes stands. -/
def AtRune (S : ByteArray) (rs : List Int) (w : World) (k : Nat) (wr : World) : Prop := wr = w.iter S (psz rs k)

end Go.Proofs.YtkdhomiieenfnaaGreatDoor.U

namespace Go.Proofs.YtkdhomiieenfnaaGreatDoor.Rp
set_option linter.unusedVariables false
set_option linter.unusedSimpArgs false

/-- A piece: its runes, its counter. -/
abbrev Pce := List Int × Int
def pcs : T → List Pce
  | .nil => []
  | .node l rs h r p => (pcs l ++ (rs, h) :: pcs r).map fun q => (q.1, q.2 + p)
def flat (ps : List Pce) : List Cl := ps.flatMap fun q => run q.1 q.2
theorem flat_nil : flat [] = [] := rfl
theorem flat_cons (q : Pce) (ps : List Pce) : flat (q :: ps) = run q.1 q.2 ++ flat ps := by simp [flat]
theorem flat_app (a b : List Pce) : flat (a ++ b) = flat a ++ flat b := by simp [flat]
theorem flat_up (p : Int) (ps : List Pce) : flat (ps.map fun q => (q.1, q.2 + p)) = up p (flat ps) := by
  induction ps with
  | nil => rfl
  | cons q ps ih => rw [List.map_cons, flat_cons, flat_cons, ih, up_app, up_run]
theorem flat_pcs : ∀ t : T, flat (pcs t) = cells t
  | .nil => rfl
  | .node l rs h r p => by
    rw [pcs, flat_up, flat_app, flat_cons, flat_pcs l, flat_pcs r, cells, List.append_assoc]
theorem pcs_lift (k : Int) (t : T) : pcs (lift k t) = (pcs t).map fun q => (q.1, q.2 + k) := by
  cases t with
  | nil => rfl
  | node l rs h r p =>
    rw [lift, pcs, pcs, List.map_map]
    apply List.map_congr_left
    intro q _
    simp [Int.add_assoc]
theorem pcs_open (l : T) (rs : List Int) (h : Int) (r : T) (p : Int) : pcs (.node l rs h r p) = pcs (lift p l) ++ (rs, h + p) :: pcs (lift p r) := by
  rw [pcs_lift, pcs_lift, pcs, List.map_append, List.map_cons]
theorem flat_len_pos {q : Pce} (h : q.1 ≠ []) (ps : List Pce) : 0 < (flat (q :: ps)).length := by
  rw [flat_cons, List.length_append, run_len]
  have := List.length_pos_iff.2 h
  omega
/-- Pieces that are not empty, with counters in their bounds. -/
def POk (ps : List Pce) : Prop := ∀ q ∈ ps, q.1 ≠ [] ∧ 0 ≤ q.2 ∧ q.2 ≤ M
theorem WF.pcs : ∀ {t : T}, WF t → POk (pcs t)
  | .nil, _ => fun q hq => by cases hq
  | .node l rs h r p, hw => by
    have h1 := WF.pcs hw.1
    have h2 := WF.pcs hw.2.1
    have hok := hw.ok
    have hne : ∀ q ∈ Rp.pcs (.node l rs h r p), q.1 ≠ [] := by
      intro q hq
      rw [Rp.pcs] at hq
      obtain ⟨q', hq', rfl⟩ := List.mem_map.1 hq
      rcases List.mem_append.1 hq' with h3 | h3
      · exact (h1 q' h3).1
      · rcases List.mem_cons.1 h3 with rfl | h3
        · exact hw.2.2.1
        · exact (h2 q' h3).1
    intro q hq
    refine ⟨hne q hq, ?_⟩
    have hn := hne q hq
    rw [← flat_pcs] at hok
    obtain ⟨x, xs, hx⟩ := List.exists_cons_of_ne_nil hn
    exact hok (x, q.2) (List.mem_flatMap.2 ⟨q, hq, by rw [hx]; simp [run]⟩)

variable {σ : Type}
/-- A walk over pieces from place lo on, till it is told to end. -/
def walkF (step : σ → Nat → Pce → σ × Bool) (lo : Nat) : Nat → List Pce → σ → σ × Bool
  | _, [], s => (s, true)
  | a, q :: ps, s => if lo < a + q.1.length then (if (step s a q).2 then walkF step lo (a + q.1.length) ps (step s a q).1 else ((step s a q).1, false)) else walkF step lo (a + q.1.length) ps s
theorem walkF_app (step : σ → Nat → Pce → σ × Bool) (lo : Nat) (b : List Pce) : ∀ (a : List Pce) (n : Nat) (s : σ), walkF step lo n (a ++ b) s = if (walkF step lo n a s).2 then walkF step lo (n + (flat a).length) b (walkF step lo n a s).1 else ((walkF step lo n a s).1, false)
  | [], n, s => by simp [walkF, flat]
  | q :: a, n, s => by
    rw [List.cons_append, walkF, walkF, flat_cons, List.length_append, run_len, ← Nat.add_assoc]
    by_cases h : lo < n + q.1.length
    · rw [if_pos h, if_pos h]
      by_cases h2 : (step s n q).2 = true
      · rw [if_pos h2, if_pos h2, walkF_app step lo b a]
      · rw [if_neg h2, if_neg h2]; simp
    · rw [if_neg h, if_neg h, walkF_app step lo b a]
theorem walkF_skip (step : σ → Nat → Pce → σ × Bool) (lo : Nat) : ∀ (ps : List Pce) (n : Nat) (s : σ), n + (flat ps).length ≤ lo → walkF step lo n ps s = (s, true)
  | [], n, s, _ => rfl
  | q :: ps, n, s, h => by
    rw [flat_cons, List.length_append, run_len] at h
    rw [walkF, if_neg (by omega), walkF_skip step lo ps _ s (by omega)]
end Go.Proofs.YtkdhomiieenfnaaGreatDoor.Rp
