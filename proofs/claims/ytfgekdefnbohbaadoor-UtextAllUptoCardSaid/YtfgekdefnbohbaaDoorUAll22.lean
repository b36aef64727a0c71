/- The reference's where, find, Word, word, walked. Exact laws, walks: the reference's word runes and its walks over words; a line that no place has. Exact laws, walks: what Where, Find and Step answer; the program's contracts. -/
import Derived.Test.YtfgekdefnbohbaaDoorUAll0
import Derived.Test.YtfgekdefnbohbaaDoorUAll14
import Derived.Test.YtfgekdefnbohbaaDoorUAll15
import Derived.Test.YtfgekdefnbohbaaDoorUAll21
namespace Go.Proofs.YtfgekdefnbohbaaDoor.U
open Go.RowKit Go.Proofs.YtfgekdefnbohbaaDoor.Txt
set_option linter.unusedVariables false
set_option linter.unusedSimpArgs false
attribute [local go_sem] frozen?_alloc_cells

set_option maxRecDepth 100000 in
set_option maxHeartbeats 4000000 in
theorem refwhere_any (A : Option Addr) (c a : Nat) (rs : List Int) (q : Int) (w : World) (hc : Cells64 w A rs) (hl : rs.length ≤ 1048576) (ha : a ≤ rs.length) (hq : (a : Int) - homeP rs a = q) :
    Calls Tryd.prog 86 #[.slice A rs.length c, .int .i64 a] w fun e w' => e = .returned (.tuple #[.int .i64 (nl rs a), .int .i64 q]) ∧ w = w' := by
  have HC := Lib.hid hc
  have HQ := Lib.hid hq
  obtain ⟨n, hn⟩ : ∃ n, rs.length = n := ⟨_, rfl⟩
  rw [hn] at hl ha ⊢
  have HN := Lib.hid hn
  clear hc hq hn
  go_enter Tryd.func86, Tryd.ntmps86
  go_wp2_with fail
  go_loop [6, 7, 8] (fun ln col i => ∃ j : Nat, i = .int .i64 j ∧ j ≤ a ∧ ln = .int .i64 (nl rs j : Nat) ∧ col = .int .i64 ((j : Int) - (homeP rs j : Nat))) (fun _ _ i => a - (intOf i).toNat)
  case atStart => exact ⟨0, rfl, Nat.zero_le _, rfl, rfl⟩
  case round =>
    obtain ⟨j, rfl, hj, rfl, rfl⟩ := hrel
    have h1 := nl_le rs j
    have h2 := homeP_le rs j
    have HST := Lib.hid (And.intro (nl_succ rs j) (home_succ rs j))
    obtain ⟨m, hm⟩ : ∃ m, nl rs j = m := ⟨_, rfl⟩
    obtain ⟨hp, hhp⟩ : ∃ p, homeP rs j = p := ⟨_, rfl⟩
    have HEQ := Lib.hid (show j = a → nl rs a = m ∧ homeP rs a = hp from fun h => by subst h; exact ⟨hm, hhp⟩)
    rw [hm] at h1 HST ⊢
    rw [hhp] at h2 HST ⊢
    have e1 : IntKind.i64.wrap ((j : Int) - (hp : Int) + 1) = (j : Int) - hp + 1 := IntWalk.i64_in _ (by omega)
    clear hm hhp
    by_cases hlt : j < a
    · have hjl : j < rs.length := by have := HN.out; omega
      obtain ⟨ad, rfl, hcs⟩ := HC.out (by omega)
      have d0 := hcs j hjl
      have hjn : j < n := by omega
      obtain ⟨r, hr⟩ : ∃ r, rs.getD j 0 = r := ⟨_, rfl⟩
      rw [hr] at d0 HST
      have HLT := Lib.hid hlt
      clear hcs hr hjl
      by_cases h10 : r = 10
      · have b : (r == 10) = true := by simp [h10]
        have H10 := Lib.hid h10
        clear h10
        go_wp2_with fail
        go_round
        case rel => exact ⟨j + 1, by go_num, HLT.out, by rw [HST.out.1, if_pos H10.out]; go_num, by rw [HST.out.2, if_pos H10.out]; congr 1; omega⟩
        case measure => have := HLT.out; simp [intOf]; omega
      · have b : (r == 10) = false := by simp [h10]
        have H10 := Lib.hid h10
        clear h10
        go_wp2_with fail
        go_round
        case rel => exact ⟨j + 1, by go_num, HLT.out, by rw [HST.out.1, if_neg H10.out], by rw [HST.out.2, if_neg H10.out]; congr 1; omega⟩
        case measure => have := HLT.out; simp [intOf]; omega
    · obtain rfl : j = a := by omega
      obtain ⟨z1, z2⟩ := HEQ.out rfl
      have HZ := Lib.hid (And.intro z1 z2)
      clear e1 z1 z2
      go_wp2_with fail
      go_ret2
      exact ⟨by rw [← HQ.out, HZ.out.1, HZ.out.2]; rfl, rfl⟩

/-- The best place so far, where all places ahead of i have been looked at. -/
def bestP (p d col i : Nat) : Int := if i ≤ p then -1 else ((p + min (min col d) (i - 1 - p) : Nat) : Int)
set_option maxRecDepth 100000 in
set_option maxHeartbeats 4000000 in
theorem reffind_in (A : Option Addr) (c ln p d col : Nat) (rs : List Int) (w : World) (hc : Cells64 w A rs) (hl : rs.length ≤ 1048576) (hL : LineIs rs ln p d) (hcol : col ≤ 9223372036854775807) :
    Calls Tryd.prog 88 #[.slice A rs.length c, .int .i64 ln, .int .i64 col] w fun e w' => e = .returned (.int .i64 ((p + min col d : Nat) : Int)) ∧ w = w' := by
  have HC := Lib.hid hc
  have HL := Lib.hid hL
  have hle := hL.le
  obtain ⟨n, hn⟩ : ∃ n, rs.length = n := ⟨_, rfl⟩
  rw [hn] at hl hle ⊢
  have HN := Lib.hid hn
  clear hc hL hn
  go_enter Tryd.func88, Tryd.ntmps88
  go_wp2_with fail
  go_loop [7, 8, 9, 10] (fun k b cc i => ∃ (j : Nat) (kk ci : Int), i = .int .i64 j ∧ j ≤ n + 1 ∧ k = .int .i64 kk ∧ cc = .int .i64 ci ∧ b = .int .i64 (bestP p d col j) ∧ 0 ≤ kk ∧ kk ≤ n ∧ 0 ≤ ci ∧ ci ≤ n + 1 ∧ (j ≤ n → kk = (nl rs j : Nat) ∧ ci = (j : Int) - (homeP rs j : Nat))) (fun _ _ _ i => n + 1 - (intOf i).toNat)
  case atStart => exact ⟨0, 0, 0, rfl, Nat.zero_le _, rfl, rfl, rfl, by omega, by omega, by omega, by omega, fun _ => ⟨rfl, rfl⟩⟩
  case round =>
    obtain ⟨j, kk, ci, rfl, hj, rfl, rfl, rfl, k0, k1, c0, c1, hkc⟩ := hrel
    by_cases hjn : j ≤ n
    case neg =>
      have HB := Lib.hid (show bestP p d col j = (p : Int) + ((min col d : Nat) : Int) by unfold bestP; rw [if_neg (by omega)]; have := HL.out.le; omega)
      clear hkc
      go_wp2_with fail
      go_ret
      exact ⟨by rw [← HB.out]; rfl, rfl⟩
    obtain ⟨hk, hci⟩ := hkc hjn
    have h1 := nl_le rs j
    have h2 := homeP_le rs j
    have hmem := HL.out.mem j (by have := HN.out; omega)
    have hhome := HL.out.home j
    have hst1 := nl_succ rs j
    have hst2 := home_succ rs j
    have h1' := nl_le rs (j + 1)
    have h2' := homeP_le rs (j + 1)
    -- does the place belong to the line, and is its column let in?
    have hyes : (kk = (ln : Int) ∧ ci ≤ (col : Int)) → bestP p d col (j + 1) = (j : Int) := fun ⟨a, b⟩ => by
      have hm := hmem.1 (by omega)
      have hh := hhome hm.1 hm.2
      unfold bestP
      rw [if_neg (by omega)]
      congr 1; omega
    have hno : ¬ (kk = (ln : Int) ∧ ci ≤ (col : Int)) → bestP p d col (j + 1) = bestP p d col j := fun hn => by
      unfold bestP
      rcases Nat.lt_trichotomy j p with h | h | h
      · rw [if_pos (by omega), if_pos (by omega)]
      · exfalso
        have hm := hmem.2 ⟨by omega, by omega⟩
        have hh := hhome (by omega) (by omega)
        exact hn ⟨by omega, by omega⟩
      · rw [if_neg (by omega), if_neg (by omega)]
        congr 2
        rcases Nat.lt_or_ge (p + d) j with h3 | h3
        · omega
        · have hm := hmem.2 ⟨by omega, h3⟩
          have hh := hhome (by omega) h3
          have : (col : Int) < ci := by
            rcases Int.lt_or_le (col : Int) ci with h4 | h4
            · exact h4
            · exact absurd ⟨by omega, h4⟩ hn
          omega
    have hnew : (if rs.getD j 0 = 10 then (kk + 1 = (nl rs (j + 1) : Nat) ∧ (0 : Int) = ((j + 1 : Nat) : Int) - (homeP rs (j + 1) : Nat)) else (kk = (nl rs (j + 1) : Nat) ∧ ci + 1 = ((j + 1 : Nat) : Int) - (homeP rs (j + 1) : Nat))) := by
      by_cases h10 : rs.getD j 0 = 10
      · rw [if_pos h10]; rw [if_pos h10] at hst1 hst2; omega
      · rw [if_neg h10]; rw [if_neg h10] at hst1 hst2; omega
    have HY := Lib.hid hyes
    have HNO := Lib.hid hno
    have HNW := Lib.hid hnew
    have hkn : kk ≤ j := by omega
    have hcn : ci ≤ j := by omega
    obtain ⟨bst, hbst⟩ : ∃ bst, bestP p d col j = bst := ⟨_, rfl⟩
    rw [hbst] at HNO ⊢
    have HJ := Lib.hid hjn
    clear hk hci hmem hhome hst1 hst2 hyes hno hnew hkc hbst h1 h2 h1' h2'
    by_cases hlt : j < n
    case pos =>
      have hjl : j < rs.length := by have := HN.out; omega
      obtain ⟨ad, rfl, hcs⟩ := HC.out (by omega)
      have d0 := hcs j hjl
      obtain ⟨r, hr⟩ : ∃ r, rs.getD j 0 = r := ⟨_, rfl⟩
      rw [hr] at d0 HNW
      have HLT := Lib.hid hlt
      clear hcs hr hjl
      by_cases h10 : r = 10
      case' pos =>
        have b10 : (r == 10) = true := by simp [h10]
        have hw2 := HNW.out
        rw [if_pos h10] at hw2
        have HW := Lib.hid hw2
        clear h10 hw2
      case' neg =>
        have b10 : (r == 10) = false := by simp [h10]
        have hw2 := HNW.out
        rw [if_neg h10] at hw2
        have HW := Lib.hid hw2
        clear h10 hw2
      all_goals
        by_cases g1 : kk = (ln : Int)
        · by_cases g2 : ci ≤ (col : Int)
          · have b1 : (kk == (ln : Int)) = true := by simp [g1]
            have HB := Lib.hid (HY.out ⟨g1, g2⟩)
            clear g1
            go_wp2_with fail
            go_round
            case rel => exact ⟨j + 1, _, _, by go_num, by have := HLT.out; omega, rfl, rfl, by rw [HB.out], by omega, by omega, by omega, by omega, fun _ => HW.out⟩
            case measure => have := HLT.out; simp [intOf]; omega
          · have b1 : (kk == (ln : Int)) = true := by simp [g1]
            have HB := Lib.hid (HNO.out (fun h => g2 h.2))
            clear g1
            go_wp2_with fail
            go_round
            case rel => exact ⟨j + 1, _, _, by go_num, by have := HLT.out; omega, rfl, rfl, by rw [HB.out], by omega, by omega, by omega, by omega, fun _ => HW.out⟩
            case measure => have := HLT.out; simp [intOf]; omega
        · have b1 : (kk == (ln : Int)) = false := by simp [g1]
          have HB := Lib.hid (HNO.out (fun h => g1 h.1))
          clear g1
          go_wp2_with fail
          go_round
          case rel => exact ⟨j + 1, _, _, by go_num, by have := HLT.out; omega, rfl, rfl, by rw [HB.out], by omega, by omega, by omega, by omega, fun _ => HW.out⟩
          case measure => have := HLT.out; simp [intOf]; omega
    case neg =>
      have HJE := Lib.hid (show j = n by omega)
      clear hjn
      by_cases g1 : kk = (ln : Int)
      · by_cases g2 : ci ≤ (col : Int)
        · have b1 : (kk == (ln : Int)) = true := by simp [g1]
          have HB := Lib.hid (HY.out ⟨g1, g2⟩)
          clear g1
          go_wp2_with fail
          go_round
          case rel => exact ⟨j + 1, _, _, by go_num, by have := HJE.out; omega, rfl, rfl, by rw [HB.out], by omega, by omega, by omega, by omega, fun h => by have := HJE.out; omega⟩
          case measure => have := HJE.out; simp [intOf]; omega
        · have b1 : (kk == (ln : Int)) = true := by simp [g1]
          have HB := Lib.hid (HNO.out (fun h => g2 h.2))
          clear g1
          go_wp2_with fail
          go_round
          case rel => exact ⟨j + 1, _, _, by go_num, by have := HJE.out; omega, rfl, rfl, by rw [HB.out], by omega, by omega, by omega, by omega, fun h => by have := HJE.out; omega⟩
          case measure => have := HJE.out; simp [intOf]; omega
      · have b1 : (kk == (ln : Int)) = false := by simp [g1]
        have HB := Lib.hid (HNO.out (fun h => g1 h.1))
        clear g1
        go_wp2_with fail
        go_round
        case rel => exact ⟨j + 1, _, _, by go_num, by have := HJE.out; omega, rfl, rfl, by rw [HB.out], by omega, by omega, by omega, by omega, fun h => by have := HJE.out; omega⟩
        case measure => have := HJE.out; simp [intOf]; omega
end Go.Proofs.YtfgekdefnbohbaaDoor.U

namespace Go.Proofs.YtfgekdefnbohbaaDoor.U
open Go.RowKit Go.Proofs.YtfgekdefnbohbaaDoor.Txt
set_option linter.unusedVariables false
set_option linter.unusedSimpArgs false

set_option maxHeartbeats 4000000 in
theorem Word_any (r : Int) (w : World) : Calls Tryd.prog 95 #[.int .i64 r] w fun e w' => e = .returned (.bool (wordB r)) ∧ w = w' := by
  have HC : (r < 48 ∨ (57 < r ∧ r < 65) ∨ (90 < r ∧ r < 95) ∨ r = 96 ∨ (122 < r ∧ r < 192)) ∨ ((48 ≤ r ∧ r ≤ 57) ∨ (65 ≤ r ∧ r ≤ 90) ∨ (97 ≤ r ∧ r ≤ 122) ∨ 192 ≤ r) ∨ r = 95 := by omega
  rcases HC with h | h | rfl
  · have hb : wordB r = false := by unfold wordB; simp; omega
    have b95 : (r == 95) = false := by simp; omega
    have HB := Lib.hid hb
    clear hb
    rcases h with h | h | h | rfl | h
    all_goals
      go_enter Tryd.func95, Tryd.ntmps95
      go_wp2
      go_ret
      first | exact ⟨ret_bool HB.out.symm, rfl⟩ | exact ⟨ret_bool (by rw [HB.out]; simp; omega), rfl⟩
  · have hb : wordB r = true := by unfold wordB; simp; omega
    have b95 : (r == 95) = false := by simp; omega
    have HB := Lib.hid hb
    clear hb
    rcases h with h | h | h | h
    all_goals
      go_enter Tryd.func95, Tryd.ntmps95
      go_wp2
      go_ret
      first | exact ⟨ret_bool HB.out.symm, rfl⟩ | exact ⟨ret_bool (by rw [HB.out]; simp; omega), rfl⟩
  · go_enter Tryd.func95, Tryd.ntmps95
    go_wp2
    go_ret
    exact ⟨ret_bool rfl, rfl⟩

set_option maxRecDepth 100000 in
set_option maxHeartbeats 4000000 in
theorem refword_back (A : Option Addr) (c k : Nat) (rs : List Int) (w : World) (hc : Cells64 w A rs) (hl : rs.length ≤ 1048576) (hk : k ≤ rs.length) :
    Calls Tryd.prog 89 #[.slice A rs.length c, .int .i64 k, .bool true] w fun e w' => e = .returned (.int .i64 (wordL rs k : Nat)) ∧ w = w' := by
  have HC := Lib.hid hc
  clear hc
  go_enter Tryd.func89, Tryd.ntmps89
  go_wp2_with fail
  go_loop [1, 7] (fun v p => ∃ j : Nat, v = .int .i64 j ∧ j ≤ rs.length ∧ ((p = .int .i64 0 ∧ j = k) ∨ (p = .int .i64 1 ∧ j = skipL rs false k) ∨ (p = .int .i64 2 ∧ j = skipL rs true (skipL rs false k)))) (fun _ p => 2 - (intOf p).toNat)
  case atStart => exact ⟨k, rfl, hk, .inl ⟨rfl, rfl⟩⟩
  case round =>
    obtain ⟨j, rfl, hj, hp⟩ := hrel
    rcases hp with ⟨rfl, hst⟩ | ⟨rfl, hst⟩ | ⟨rfl, hst⟩
    · go_wp2_with fail
      go_loop [1] (fun v => ∃ i : Nat, i ≤ rs.length ∧ v = .int .i64 i ∧ skipL rs false i = skipL rs false k) (fun v => (intOf v).toNat)
      case atStart => exact ⟨k, by rw [← hst]; exact hj, rfl, rfl⟩
      case round =>
        obtain ⟨i, hi, rfl, hh⟩ := hrel
        have HH := Lib.hid hh
        clear hh
        cases i with
        | zero =>
          have he : skipL rs false k = 0 := by rw [← HH.out]; rfl
          have HE := Lib.hid he
          clear he
          go_wp2_with fail
          go_round
          case rel => exact ⟨0, by go_num, Nat.zero_le _, .inr (.inl ⟨rfl, HE.out.symm⟩)⟩
          case measure => first | simp [intOf] | decide
        | succ i =>
          obtain ⟨ad, rfl, hcs⟩ := HC.out (by omega)
          have hcell := hcs i (by omega)
          have hd : skipL rs false (i + 1) = if wordB (rs.getD i 0) = false then skipL rs false i else i + 1 := rfl
          generalize hx : rs.getD i 0 = r at hcell hd
          have hneg : ¬ (i : Int) < 0 := by omega
          have hbig : ¬ rs.length ≤ i := by omega
          clear hx hcs
          cases hb : wordB r with
          | true =>
            rw [hb, if_neg (by simp)] at hd
            have HD := Lib.hid hd
            have HBB := Lib.hid hb
            clear hd hb
            go_wp2_with fail
            refine (Word_any r _).mono ?_
            rintro e w' ⟨rfl, rfl⟩
            rw [HBB.out]
            go_wp2_with fail
            go_round
            case rel => exact ⟨i + 1, by go_num, by omega, .inr (.inl ⟨rfl, by show _ = skipL rs false k; rw [← HH.out, HD.out]⟩)⟩
            case measure => first | simp [intOf] | decide
          | false =>
            rw [hb, if_pos rfl] at hd
            have HD := Lib.hid hd
            have HBB := Lib.hid hb
            clear hd hb
            go_wp2_with fail
            refine (Word_any r _).mono ?_
            rintro e w' ⟨rfl, rfl⟩
            rw [HBB.out]
            go_wp2_with fail
            go_round
            case rel => exact ⟨i, by omega, by go_num, by rw [← HH.out, HD.out]⟩
            case measure => simp [intOf]
    · go_wp2_with fail
      go_loop [1] (fun v => ∃ i : Nat, i ≤ rs.length ∧ v = .int .i64 i ∧ skipL rs true i = skipL rs true (skipL rs false k)) (fun v => (intOf v).toNat)
      case atStart => exact ⟨(skipL rs false k), by rw [← hst]; exact hj, rfl, rfl⟩
      case round =>
        obtain ⟨i, hi, rfl, hh⟩ := hrel
        have HH := Lib.hid hh
        clear hh
        cases i with
        | zero =>
          have he : skipL rs true (skipL rs false k) = 0 := by rw [← HH.out]; rfl
          have HE := Lib.hid he
          clear he
          go_wp2_with fail
          go_round
          case rel => exact ⟨0, by go_num, Nat.zero_le _, .inr (.inr ⟨rfl, HE.out.symm⟩)⟩
          case measure => first | simp [intOf] | decide
        | succ i =>
          obtain ⟨ad, rfl, hcs⟩ := HC.out (by omega)
          have hcell := hcs i (by omega)
          have hd : skipL rs true (i + 1) = if wordB (rs.getD i 0) = true then skipL rs true i else i + 1 := rfl
          generalize hx : rs.getD i 0 = r at hcell hd
          have hneg : ¬ (i : Int) < 0 := by omega
          have hbig : ¬ rs.length ≤ i := by omega
          clear hx hcs
          cases hb : wordB r with
          | true =>
            rw [hb, if_pos rfl] at hd
            have HD := Lib.hid hd
            have HBB := Lib.hid hb
            clear hd hb
            go_wp2_with fail
            refine (Word_any r _).mono ?_
            rintro e w' ⟨rfl, rfl⟩
            rw [HBB.out]
            go_wp2_with fail
            go_round
            case rel => exact ⟨i, by omega, by go_num, by rw [← HH.out, HD.out]⟩
            case measure => simp [intOf]
          | false =>
            rw [hb, if_neg (by simp)] at hd
            have HD := Lib.hid hd
            have HBB := Lib.hid hb
            clear hd hb
            go_wp2_with fail
            refine (Word_any r _).mono ?_
            rintro e w' ⟨rfl, rfl⟩
            rw [HBB.out]
            go_wp2_with fail
            go_round
            case rel => exact ⟨i + 1, by go_num, by omega, .inr (.inr ⟨rfl, by show _ = skipL rs true (skipL rs false k); rw [← HH.out, HD.out]⟩)⟩
            case measure => first | simp [intOf] | decide
    · have HST := Lib.hid hst
      clear hst
      go_wp2_with fail
      go_ret
      exact ⟨ret_int (by rw [HST.out]; rfl), rfl⟩

set_option maxRecDepth 100000 in
set_option maxHeartbeats 4000000 in
theorem refword_fore (A : Option Addr) (c k : Nat) (rs : List Int) (w : World) (hc : Cells64 w A rs) (hl : rs.length ≤ 1048576) (hk : k ≤ rs.length) :
    Calls Tryd.prog 89 #[.slice A rs.length c, .int .i64 k, .bool false] w fun e w' => e = .returned (.int .i64 (wordR rs k : Nat)) ∧ w = w' := by
  have HC := Lib.hid hc
  clear hc
  go_enter Tryd.func89, Tryd.ntmps89
  go_wp2_with fail
  go_loop [1, 7] (fun v p => ∃ j : Nat, v = .int .i64 j ∧ j ≤ rs.length ∧ ((p = .int .i64 0 ∧ j = k) ∨ (p = .int .i64 1 ∧ j = skipR rs false k) ∨ (p = .int .i64 2 ∧ j = skipR rs true (skipR rs false k)))) (fun _ p => 2 - (intOf p).toNat)
  case atStart => exact ⟨k, rfl, hk, .inl ⟨rfl, rfl⟩⟩
  case round =>
    obtain ⟨j, rfl, hj, hp⟩ := hrel
    rcases hp with ⟨rfl, hst⟩ | ⟨rfl, hst⟩ | ⟨rfl, hst⟩
    · go_wp2_with fail
      go_loop [1] (fun v => ∃ i : Nat, i ≤ rs.length ∧ v = .int .i64 i ∧ skipR rs false i = skipR rs false k) (fun v => rs.length - (intOf v).toNat)
      case atStart => exact ⟨k, by rw [← hst]; exact hj, rfl, rfl⟩
      case round =>
        obtain ⟨i, hi, rfl, hh⟩ := hrel
        have HH := Lib.hid hh
        clear hh
        by_cases hlt : i < rs.length
        case neg =>
          have hie : i = rs.length := by omega
          have he : skipR rs false k = i := by rw [← HH.out, hie, skipR_end]
          clear hie
          have HE := Lib.hid he
          have hbig : rs.length ≤ i := by omega
          have hneg : ¬ (i : Int) < 0 := by omega
          clear he
          go_wp2_with fail
          go_round
          case rel => exact ⟨i, by go_num, hi, .inr (.inl ⟨rfl, HE.out.symm⟩)⟩
          case measure => first | simp [intOf] | decide
        case pos =>
          obtain ⟨ad, rfl, hcs⟩ := HC.out (by omega)
          have hcell := hcs i (by omega)
          have hd := skipR_step rs false i hlt
          generalize hx : rs.getD i 0 = r at hcell hd
          have hneg : ¬ (i : Int) < 0 := by omega
          have hbig : ¬ rs.length ≤ i := by omega
          clear hx hcs
          cases hb : wordB r with
          | true =>
            rw [hb, if_neg (by simp)] at hd
            have HD := Lib.hid hd
            have HBB := Lib.hid hb
            clear hd hb
            go_wp2_with fail
            refine (Word_any r _).mono ?_
            rintro e w' ⟨rfl, rfl⟩
            rw [HBB.out]
            go_wp2_with fail
            go_round
            case rel => exact ⟨i, by go_num, by omega, .inr (.inl ⟨rfl, by show _ = skipR rs false k; rw [← HH.out, HD.out]⟩)⟩
            case measure => first | simp [intOf] | decide
          | false =>
            rw [hb, if_pos rfl] at hd
            have HD := Lib.hid hd
            have HBB := Lib.hid hb
            clear hd hb
            go_wp2_with fail
            refine (Word_any r _).mono ?_
            rintro e w' ⟨rfl, rfl⟩
            rw [HBB.out]
            go_wp2_with fail
            go_round
            case rel => exact ⟨i + 1, by omega, by go_num, by rw [← HH.out, HD.out]⟩
            case measure => simp [intOf]; omega
    · go_wp2_with fail
      go_loop [1] (fun v => ∃ i : Nat, i ≤ rs.length ∧ v = .int .i64 i ∧ skipR rs true i = skipR rs true (skipR rs false k)) (fun v => rs.length - (intOf v).toNat)
      case atStart => exact ⟨(skipR rs false k), by rw [← hst]; exact hj, rfl, rfl⟩
      case round =>
        obtain ⟨i, hi, rfl, hh⟩ := hrel
        have HH := Lib.hid hh
        clear hh
        by_cases hlt : i < rs.length
        case neg =>
          have hie : i = rs.length := by omega
          have he : skipR rs true (skipR rs false k) = i := by rw [← HH.out, hie, skipR_end]
          clear hie
          have HE := Lib.hid he
          have hbig : rs.length ≤ i := by omega
          have hneg : ¬ (i : Int) < 0 := by omega
          clear he
          go_wp2_with fail
          go_round
          case rel => exact ⟨i, by go_num, hi, .inr (.inr ⟨rfl, HE.out.symm⟩)⟩
          case measure => first | simp [intOf] | decide
        case pos =>
          obtain ⟨ad, rfl, hcs⟩ := HC.out (by omega)
          have hcell := hcs i (by omega)
          have hd := skipR_step rs true i hlt
          generalize hx : rs.getD i 0 = r at hcell hd
          have hneg : ¬ (i : Int) < 0 := by omega
          have hbig : ¬ rs.length ≤ i := by omega
          clear hx hcs
          cases hb : wordB r with
          | true =>
            rw [hb, if_pos rfl] at hd
            have HD := Lib.hid hd
            have HBB := Lib.hid hb
            clear hd hb
            go_wp2_with fail
            refine (Word_any r _).mono ?_
            rintro e w' ⟨rfl, rfl⟩
            rw [HBB.out]
            go_wp2_with fail
            go_round
            case rel => exact ⟨i + 1, by omega, by go_num, by rw [← HH.out, HD.out]⟩
            case measure => simp [intOf]; omega
          | false =>
            rw [hb, if_neg (by simp)] at hd
            have HD := Lib.hid hd
            have HBB := Lib.hid hb
            clear hd hb
            go_wp2_with fail
            refine (Word_any r _).mono ?_
            rintro e w' ⟨rfl, rfl⟩
            rw [HBB.out]
            go_wp2_with fail
            go_round
            case rel => exact ⟨i, by go_num, by omega, .inr (.inr ⟨rfl, by show _ = skipR rs true (skipR rs false k); rw [← HH.out, HD.out]⟩)⟩
            case measure => first | simp [intOf] | decide
    · have HST := Lib.hid hst
      clear hst
      go_wp2_with fail
      go_ret
      exact ⟨ret_int (by rw [HST.out]; rfl), rfl⟩

set_option maxRecDepth 100000 in
set_option maxHeartbeats 4000000 in
theorem reffind_out (A : Option Addr) (c : Nat) (ln col : Int) (rs : List Int) (w : World) (hc : Cells64 w A rs) (hl : rs.length ≤ 1048576) (hL : ln < 0 ∨ (nl rs rs.length : Int) < ln) :
    Calls Tryd.prog 88 #[.slice A rs.length c, .int .i64 ln, .int .i64 col] w fun e w' => e = .returned (.int .i64 (-1)) ∧ w = w' := by
  have HC := Lib.hid hc
  have hno : ∀ j, j ≤ rs.length → ((nl rs j : Nat) : Int) ≠ ln := fun j hj => by
    have := nl_mono rs j _ hj
    rcases hL with h | h <;> omega
  have HL := Lib.hid hno
  obtain ⟨n, hn⟩ : ∃ n, rs.length = n := ⟨_, rfl⟩
  rw [hn] at hl ⊢
  have HN := Lib.hid hn
  clear hc hL hno hn
  go_enter Tryd.func88, Tryd.ntmps88
  go_wp2_with fail
  go_loop [7, 8, 9, 10] (fun k b cc i => ∃ (j : Nat) (kk ci : Int), i = .int .i64 j ∧ j ≤ n + 1 ∧ k = .int .i64 kk ∧ cc = .int .i64 ci ∧ b = .int .i64 (-1) ∧ 0 ≤ kk ∧ kk ≤ n ∧ 0 ≤ ci ∧ ci ≤ n + 1 ∧ (j ≤ n → kk = (nl rs j : Nat) ∧ ci ≤ j)) (fun _ _ _ i => n + 1 - (intOf i).toNat)
  case atStart => exact ⟨0, 0, 0, rfl, Nat.zero_le _, rfl, rfl, rfl, by omega, by omega, by omega, by omega, fun _ => ⟨rfl, by omega⟩⟩
  case round =>
    obtain ⟨j, kk, ci, rfl, hj, rfl, rfl, rfl, k0, k1, c0, c1, hkc⟩ := hrel
    by_cases hjn : j ≤ n
    case neg =>
      clear hkc
      go_wp2_with fail
      go_ret
      exact ⟨rfl, rfl⟩
    obtain ⟨hk, hci⟩ := hkc hjn
    have h1 := nl_le rs j
    have hst1 := nl_succ rs j
    have h1' := nl_le rs (j + 1)
    have hne := HL.out j (by have := HN.out; omega)
    rw [← hk] at hne
    have b1 : (kk == ln) = false := by simpa using hne
    have hkn : kk ≤ j := by omega
    by_cases hlt : j < n
    case pos =>
      have hjl : j < rs.length := by have := HN.out; omega
      obtain ⟨ad, rfl, hcs⟩ := HC.out (by omega)
      have d0 := hcs j hjl
      obtain ⟨r, hr⟩ : ∃ r, rs.getD j 0 = r := ⟨_, rfl⟩
      rw [hr] at d0 hst1
      have HLT := Lib.hid hlt
      clear hcs hr hjl hne
      by_cases h10 : r = 10
      case' pos =>
        have b10 : (r == 10) = true := by simp [h10]
        rw [if_pos h10] at hst1
        have hw2 : kk + 1 = (nl rs (j + 1) : Nat) := by omega
        have HW := Lib.hid hw2
        clear h10 hw2 hst1 hkc hk
      case' neg =>
        have b10 : (r == 10) = false := by simp [h10]
        rw [if_neg h10] at hst1
        have hw2 : kk = (nl rs (j + 1) : Nat) := by omega
        have HW := Lib.hid hw2
        clear h10 hw2 hst1 hkc hk
      all_goals
        clear h1 h1'
        go_wp2_with fail
        go_round
        case rel => exact ⟨j + 1, _, _, by go_num, by have := HLT.out; omega, rfl, rfl, rfl, by omega, by omega, by omega, by omega, fun _ => ⟨HW.out, by omega⟩⟩
        case measure => have := HLT.out; simp [intOf]; omega
    case neg =>
      have HJ := Lib.hid hjn
      obtain rfl : j = n := by omega
      clear hk hst1 hkc h1 h1' hne
      go_wp2_with fail
      go_round
      case rel => exact ⟨j + 1, _, _, by go_num, by omega, rfl, rfl, rfl, by omega, by omega, by omega, by omega, fun h => absurd h (by omega)⟩
      case measure => simp [intOf]
end Go.Proofs.YtfgekdefnbohbaaDoor.U

namespace Go.Proofs.YtfgekdefnbohbaaDoor.U
open Go.RowKit Go.Proofs.YtfgekdefnbohbaaDoor.Txt
set_option linter.unusedVariables false
set_option linter.unusedSimpArgs false

inductive WhereIs (rs : List Int) (t : List UInt8) (a : Int) : Int → Int → Int → Prop where
  | fault (f : Int) (ht : t ≠ []) (hf : (fault t : Int) = f) : WhereIs rs t a 0 0 f
  | out (ht : t = []) (ha : a < 0 ∨ rs.length < a) : WhereIs rs t a 0 0 12
  | ok (k q : Nat) (ht : t = []) (ha : a = k) (hk : k ≤ rs.length) (hq : (k : Int) - homeP rs k = q) : WhereIs rs t a (nl rs k : Nat) q 0
theorem where_is (rs : List Int) (t : List UInt8) (a : Int) : ∃ x y e, WhereIs rs t a x y e := by
  by_cases ht : t = []
  · by_cases ha : a < 0 ∨ rs.length < a
    · exact ⟨_, _, _, .out ht ha⟩
    · have := homeP_le rs a.toNat
      exact ⟨_, _, _, .ok a.toNat (a.toNat - homeP rs a.toNat) ht (by omega) (by omega) (by omega)⟩
  · exact ⟨_, _, _, .fault _ ht rfl⟩
inductive FindIs (rs : List Int) (t : List UInt8) (ln col : Int) : Int → Int → Prop where
  | fault (f : Int) (ht : t ≠ []) (hf : (fault t : Int) = f) : FindIs rs t ln col 0 f
  | out (ht : t = []) (h : ln < 0 ∨ nl rs rs.length < ln) : FindIs rs t ln col 0 12
  | neg (l : Nat) (ht : t = []) (hl : ln = l) (h : l ≤ nl rs rs.length) (hc : col < 0) : FindIs rs t ln col 0 12
  | ok (l k p d r : Nat) (ht : t = []) (hl : ln = l) (h : l ≤ nl rs rs.length) (hc : col = k) (hL : LineIs rs l p d) (hr : p + min k d = r) : FindIs rs t ln col r 0
theorem find_is (rs : List Int) (t : List UInt8) (ln col : Int) : ∃ x e, FindIs rs t ln col x e := by
  by_cases ht : t = []
  · by_cases ha : ln < 0 ∨ nl rs rs.length < ln
    · exact ⟨_, _, .out ht ha⟩
    · by_cases hc : col < 0
      · exact ⟨_, _, .neg ln.toNat ht (by omega) (by omega) hc⟩
      · obtain ⟨p, d, hL⟩ := line_is rs ln.toNat (by omega)
        exact ⟨_, _, .ok ln.toNat col.toNat p d _ ht (by omega) (by omega) (by omega) hL rfl⟩
  · exact ⟨_, _, .fault _ ht rfl⟩
/-- Where a walk leads. -/
inductive GoesTo (rs : List Int) (k : Nat) : Int → Nat → Prop where
  | s1a (h : k = 0) : GoesTo rs k 1 0
  | s1b (m : Nat) (h : k = m + 1) : GoesTo rs k 1 m
  | s2a (h : k = rs.length) : GoesTo rs k 2 k
  | s2b (h : k < rs.length) : GoesTo rs k 2 (k + 1)
  | s3 (p d : Nat) (hL : LineIs rs (nl rs k) p d) (hp : homeP rs k = p) : GoesTo rs k 3 p
  | s4 (p d e : Nat) (hL : LineIs rs (nl rs k) p d) (hp : endP rs k = e) (he : p + d = e) : GoesTo rs k 4 e
  | s5a (h : nl rs k = 0) : GoesTo rs k 5 0
  | s5b (m p d q r : Nat) (h : nl rs k = m + 1) (hL : LineIs rs m p d) (hq : (k : Int) - homeP rs k = q) (hr : p + min q d = r) : GoesTo rs k 5 r
  | s6a (h : nl rs k = nl rs rs.length) : GoesTo rs k 6 rs.length
  | s6b (m p d q r : Nat) (h : nl rs k = m) (hm : m < nl rs rs.length) (hL : LineIs rs (m + 1) p d) (hq : (k : Int) - homeP rs k = q) (hr : p + min q d = r) : GoesTo rs k 6 r
  | s7 (r : Nat) (hr : wordL rs k = r) : GoesTo rs k 7 r
  | s8 (r : Nat) (hr : wordR rs k = r) : GoesTo rs k 8 r
  | s9 : GoesTo rs k 9 0
  | s10 : GoesTo rs k 10 rs.length
theorem goes_to (rs : List Int) (k : Nat) (hk : k ≤ rs.length) (how : Int) (h1 : 1 ≤ how) (h2 : how ≤ 10) : ∃ r, GoesTo rs k how r := by
  have hh := homeP_le rs k
  have hm := nl_mono rs k _ hk
  obtain ⟨e1, e2, _⟩ := endP_spec rs k hk
  have hL := line_at rs k hk
  have : how = 1 ∨ how = 2 ∨ how = 3 ∨ how = 4 ∨ how = 5 ∨ how = 6 ∨ how = 7 ∨ how = 8 ∨ how = 9 ∨ how = 10 := by omega
  rcases this with rfl | rfl | rfl | rfl | rfl | rfl | rfl | rfl | rfl | rfl
  · cases k with
    | zero => exact ⟨_, .s1a rfl⟩
    | succ m => exact ⟨_, .s1b m rfl⟩
  · by_cases h : k = rs.length
    · exact ⟨_, .s2a h⟩
    · exact ⟨_, .s2b (by omega)⟩
  · exact ⟨_, .s3 _ _ hL rfl⟩
  · exact ⟨_, .s4 _ _ _ hL rfl (by omega)⟩
  · rcases hc : nl rs k with _ | m
    · exact ⟨_, .s5a hc⟩
    · obtain ⟨p, d, hL⟩ := line_is rs m (by omega)
      exact ⟨_, .s5b m p d (k - homeP rs k) _ hc hL (by omega) rfl⟩
  · by_cases h : nl rs k = nl rs rs.length
    · exact ⟨_, .s6a h⟩
    · obtain ⟨p, d, hL⟩ := line_is rs (nl rs k + 1) (by omega)
      exact ⟨_, .s6b _ p d (k - homeP rs k) _ rfl (by omega) hL (by omega) rfl⟩
  · exact ⟨_, .s7 _ rfl⟩
  · exact ⟨_, .s8 _ rfl⟩
  · exact ⟨_, .s9⟩
  · exact ⟨_, .s10⟩
inductive StepIs (rs : List Int) (t : List UInt8) (a how : Int) : Int → Int → Prop where
  | fault (f : Int) (ht : t ≠ []) (hf : (fault t : Int) = f) : StepIs rs t a how 0 f
  | out (ht : t = []) (ha : a < 0 ∨ rs.length < a) : StepIs rs t a how 0 12
  | bad (k : Nat) (ht : t = []) (ha : a = k) (hk : k ≤ rs.length) (h : how < 1 ∨ 10 < how) : StepIs rs t a how 0 16
  | ok (k r : Nat) (ht : t = []) (ha : a = k) (hk : k ≤ rs.length) (h : GoesTo rs k how r) : StepIs rs t a how r 0
theorem step_is (rs : List Int) (t : List UInt8) (a how : Int) : ∃ x e, StepIs rs t a how x e := by
  by_cases ht : t = []
  · by_cases ha : a < 0 ∨ rs.length < a
    · exact ⟨_, _, .out ht ha⟩
    · by_cases hh : how < 1 ∨ 10 < how
      · exact ⟨_, _, .bad a.toNat ht (by omega) (by omega) hh⟩
      · obtain ⟨r, hr⟩ := goes_to rs a.toNat (by omega) how (by omega) (by omega)
        exact ⟨_, _, .ok a.toNat r ht (by omega) (by omega) hr⟩
  · exact ⟨_, _, .fault _ ht rfl⟩
theorem stay_below {P : Program} {f : FuncId} {args : Array Value} {w : World} {v : Value} (h : Calls P f args w fun e w' => e = .returned v ∧ w = w') : Calls P f args w fun e w' => e = .returned v ∧ Below w.heap.size w w' :=
  h.mono fun _ _ ⟨a, b⟩ => ⟨a, b ▸ Below.refl _ _⟩

set_option maxRecDepth 100000 in
set_option maxHeartbeats 4000000 in
theorem Where_bad (S : ByteArray) (a f : Int) (w : World) (b : (f != 0) = true)
    (hP : Calls Tryd.prog 31 #[.string S, .int .i64 a] w fun e' w' => e' = .returned (.tuple #[.int .i64 0, .int .i64 f]) ∧ Below w.heap.size w w') :
    Calls Tryd.prog 65 #[.string S, .int .i64 a] w fun e' w' => e' = .returned (.tuple #[.int .i64 0, .int .i64 0, .int .i64 f]) ∧ Below w.heap.size w w' := by
  have HP := Lib.hid hP
  clear hP
  go_enter Tryd.func65, Tryd.ntmps65
  go_wp2_with fail
  refine HP.out.mono ?_
  rintro e w1 ⟨rfl, hb1⟩
  have HB := Lib.hid hb1
  clear hb1
  go_wp2_with fail
  go_ret3
  exact ⟨rfl, HB.out⟩
theorem Where_is (S : ByteArray) (rs : List Int) (t : List UInt8) (a x y e : Int) (w : World) (h : Halves S rs t) (hs : S.size ≤ 1048576) (ha0 : -9223372036854775808 ≤ a) (ha1 : a ≤ 9223372036854775807) (hp : WhereIs rs t a x y e) (hg : Bars w) :
    Calls Tryd.prog 65 #[.string S, .int .i64 a] w fun e' w' => e' = .returned (.tuple #[.int .i64 x, .int .i64 y, .int .i64 e]) ∧ Below w.heap.size w w' := by
  cases hp with
  | fault f ht hf => exact Where_bad S a e w (fault_ne hf) (Place_is S rs t a 0 e w h hs ha0 ha1 (.fault e ht hf) hg)
  | out ht ha => exact Where_bad S a 12 w rfl (Place_is S rs t a 0 12 w h hs ha0 ha1 (.out ht ha) hg)
  | ok k q ht ha hk hq =>
    subst ht ha
    exact Where_at S rs k q w (h.text (by omega)) (by have := (len_bound h hs).1; omega) hk hq hg

set_option maxRecDepth 100000 in
set_option maxHeartbeats 4000000 in
theorem Find_fault (S : ByteArray) (rs : List Int) (t : List UInt8) (ln col f : Int) (w : World) (h : Halves S rs t) (hs : S.size ≤ 1048576) (ht : t ≠ []) (hf : (fault t : Int) = f) (hg : Bars w) :
    Calls Tryd.prog 67 #[.string S, .int .i64 ln, .int .i64 col] w fun e' w' => e' = .returned (.tuple #[.int .i64 0, .int .i64 f]) ∧ Below w.heap.size w w' := by
  have hC := Check_halves S rs t w h (by omega) hg
  rw [chkN_fault ht hf] at hC
  have b := fault_ne hf
  obtain ⟨p, hp⟩ : ∃ p : Int, ((enc rs).length : Int) = p := ⟨_, rfl⟩
  rw [hp] at hC
  have HC := Lib.hid hC
  clear hC hp hf ht h hg
  go_enter Tryd.func67, Tryd.ntmps67
  go_wp2_with fail
  refine HC.out.mono ?_
  rintro e w1 ⟨rfl, hb1⟩
  have HB := Lib.hid hb1
  clear hb1
  go_wp2_with fail
  go_ret2
  exact ⟨rfl, HB.out⟩
set_option maxRecDepth 100000 in
set_option maxHeartbeats 4000000 in
theorem Find_neg (S : ByteArray) (rs : List Int) (ln : Nat) (col : Int) (w : World) (h : Text S rs) (hl : rs.length ≤ 4398046511104) (hln : ln ≤ nl rs rs.length) (hcol : col < 0) (hg : Bars w) :
    Calls Tryd.prog 67 #[.string S, .int .i64 ln, .int .i64 col] w fun e w' => e = .returned (.tuple #[.int .i64 0, .int .i64 12]) ∧ Below w.heap.size w w' := by
  have hsz := h.size
  have hnl := nl_le rs rs.length
  have HT := Lib.hid h
  have HG := Lib.hid hg
  clear h hg
  go_enter Tryd.func67, Tryd.ntmps67
  go_wp2_with fail
  refine (check_at S rs.length 0 0 _ (by unfold maxLen; omega) HG.out HT.out.chk).mono ?_
  rintro e w1 ⟨rfl, hb1⟩
  have HB1 := Lib.hid hb1
  clear hb1
  obtain ⟨c, w2, hcv, hcap, hb2, hcl⟩ := conv_to_runes S rs HT.out (by omega) w1
  have HB2 := Lib.hid (HB1.out.trans (hb2.mono HB1.out.size))
  have HC := Lib.hid hcl
  clear hb2 hcl
  go_wp2_with fail
  refine (lines_any _ c rs _ HC.out hl).mono ?_
  rintro e w3 ⟨v, rfl, hown, hb3⟩
  have HB3 := Lib.hid (HB2.out.trans (hb3.mono HB2.out.size))
  obtain ⟨A, c3, rfl, hcap3, hcs⟩ := own_ints hown
  rw [lines_len] at hcap3 ⊢
  clear hb3 hown hcs hcv
  go_wp2_with fail
  go_ret2
  exact ⟨rfl, HB3.out⟩
theorem Find_is (S : ByteArray) (rs : List Int) (t : List UInt8) (ln col x e : Int) (w : World) (h : Halves S rs t) (hs : S.size ≤ 1048576) (hl0 : -9223372036854775808 ≤ ln) (hl1 : ln ≤ 9223372036854775807) (hc0 : -9223372036854775808 ≤ col) (hc1 : col ≤ 9223372036854775807) (hp : FindIs rs t ln col x e) (hg : Bars w) :
    Calls Tryd.prog 67 #[.string S, .int .i64 ln, .int .i64 col] w fun e' w' => e' = .returned (.tuple #[.int .i64 x, .int .i64 e]) ∧ Below w.heap.size w w' := by
  have hlen := (len_bound h hs).1
  cases hp with
  | fault f ht hf => exact Find_fault S rs t ln col _ w h hs ht hf hg
  | out ht h1 =>
    subst ht
    exact Find_out S rs ln col w (h.text (by omega)) (by omega) h1 hl0 hl1 hg
  | neg l ht hl h1 hc =>
    subst ht hl
    exact Find_neg S rs l col w (h.text (by omega)) (by omega) h1 hc hg
  | ok l k p d r ht hl h1 hc hL hr =>
    subst ht hl hc
    have := hL.le
    exact Find_in S rs l k p d _ w (h.text (by omega)) (by omega) h1 hL.l0 hL.l1 (by omega) (by omega) (by omega) (by omega) hc1 (by omega) hg

set_option maxRecDepth 100000 in
set_option maxHeartbeats 4000000 in
theorem Step_none (S : ByteArray) (a how f : Int) (w : World) (b : (f != 0) = true)
    (hP : Calls Tryd.prog 31 #[.string S, .int .i64 a] w fun e' w' => e' = .returned (.tuple #[.int .i64 0, .int .i64 f]) ∧ Below w.heap.size w w') :
    Calls Tryd.prog 69 #[.string S, .int .i64 a, .int .i64 how] w fun e' w' => e' = .returned (.tuple #[.int .i64 0, .int .i64 f]) ∧ Below w.heap.size w w' := by
  have HP := Lib.hid hP
  clear hP
  go_enter Tryd.func69, Tryd.ntmps69
  go_wp2_with fail
  refine HP.out.mono ?_
  rintro e w1 ⟨rfl, hb1⟩
  have HB := Lib.hid hb1
  clear hb1
  go_wp2_with fail
  go_ret2
  exact ⟨rfl, HB.out⟩
set_option maxRecDepth 100000 in
set_option maxHeartbeats 4000000 in
theorem Step_bad (S : ByteArray) (rs : List Int) (k : Nat) (how : Int) (w : World) (h : Text S rs) (hk : k ≤ rs.length) (hh : how < 1 ∨ 10 < how) (hg : Bars w) :
    Calls Tryd.prog 69 #[.string S, .int .i64 k, .int .i64 how] w fun e' w' => e' = .returned (.tuple #[.int .i64 0, .int .i64 16]) ∧ Below w.heap.size w w' := by
  have HP := Lib.hid (place_in S rs k w h hk hg)
  clear h hg
  rcases hh with hh | hh
  · go_enter Tryd.func69, Tryd.ntmps69
    go_wp2_with fail
    refine HP.out.mono ?_
    rintro e w1 ⟨rfl, hb1⟩
    have HB := Lib.hid hb1
    clear hb1
    go_wp2_with fail
    go_ret2
    exact ⟨rfl, HB.out⟩
  · have h1 : ¬ how < 1 := by omega
    have h2 : 11 ≤ how := by omega
    clear hh
    go_enter Tryd.func69, Tryd.ntmps69
    go_wp2_with fail
    refine HP.out.mono ?_
    rintro e w1 ⟨rfl, hb1⟩
    have HB := Lib.hid hb1
    clear hb1
    go_wp2_with fail
    go_ret2
    exact ⟨rfl, HB.out⟩

theorem Step_is (S : ByteArray) (rs : List Int) (t : List UInt8) (a how x e : Int) (w : World) (h : Halves S rs t) (hs : S.size ≤ 1048576) (ha0 : -9223372036854775808 ≤ a) (ha1 : a ≤ 9223372036854775807) (hp : StepIs rs t a how x e) (hg : Bars w) (hw : Walks w) :
    Calls Tryd.prog 69 #[.string S, .int .i64 a, .int .i64 how] w fun e' w' => e' = .returned (.tuple #[.int .i64 x, .int .i64 e]) ∧ Below w.heap.size w w' := by
  have hlen := (len_bound h hs).1
  cases hp with
  | fault f ht hf => exact Step_none S a how e w (fault_ne hf) (Place_is S rs t a 0 e w h hs ha0 ha1 (.fault e ht hf) hg)
  | out ht ha => exact Step_none S a how 12 w rfl (Place_is S rs t a 0 12 w h hs ha0 ha1 (.out ht ha) hg)
  | bad k ht ha hk hh =>
    subst ht ha
    exact Step_bad S rs k how w (h.text (by omega)) hk hh hg
  | ok k r ht ha hk hG =>
    subst ht ha
    have hT := h.text (by omega)
    cases hG with
    | s1a h => exact Step_1 S rs k _ w hT (by omega) hk hg hw (fun A c w _ _ => stay_below (left_any A c rs.length k _ w (by omega) (.inl ⟨h, rfl⟩)))
    | s1b m h => exact Step_1 S rs k _ w hT (by omega) hk hg hw (fun A c w _ _ => stay_below (left_any A c rs.length k _ w (by omega) (.inr ⟨by omega, by omega⟩)))
    | s2a h => exact Step_2 S rs k _ w hT (by omega) hk hg hw (fun A c w _ _ => stay_below (right_any A c rs.length k _ w (by omega) hk (.inl ⟨h, by omega⟩)))
    | s2b h => exact Step_2 S rs k _ w hT (by omega) hk hg hw (fun A c w _ _ => stay_below (right_any A c rs.length k _ w (by omega) hk (.inr ⟨h, by omega⟩)))
    | s3 p d hL hp => subst hp; exact Step_3 S rs k _ w hT (by omega) hk hg hw (fun A c w hc hcap => stay_below (uhome_any A c k rs w hc (by omega) hcap hk))
    | s4 p d e hL hp he => subst hp; exact Step_4 S rs k _ w hT (by omega) hk hg hw (fun A c w hc hcap => stay_below (lineEnd_any A c k rs w hc (by omega) hk))
    | s5a h => exact Step_5 S rs k _ w hT (by omega) hk hg hw (fun A c w hc hcap => up_first A c k rs w hc (by omega) hcap hk h)
    | s5b m p d q r h hL hq hr =>
      have := hL.le
      have := homeP_le rs k
      exact Step_5 S rs k _ w hT (by omega) hk hg hw (fun A c w hc hcap => up_more A c k m p d q _ rs w hc (by omega) hcap hk h hq hL.l0 hL.l1 (by omega) (by omega) (by omega) (by omega) (by omega) (by omega))
    | s6a h => exact Step_6 S rs k _ w hT (by omega) hk hg hw (fun A c w hc hcap => down_last A c k rs w hc (by omega) hcap hk h)
    | s6b m p d q r h hm hL hq hr =>
      have := hL.le
      have := homeP_le rs k
      exact Step_6 S rs k _ w hT (by omega) hk hg hw (fun A c w hc hcap => down_more A c k m p d q _ rs w hc (by omega) hcap hk h hm hq hL.l0 hL.l1 (by omega) (by omega) (by omega) (by omega) (by omega) (by omega))
    | s7 r hr => subst hr; exact Step_7 S rs k _ w hT (by omega) hk hg hw (fun A c w hc hcap => stay_below (wordLeft_any A c k rs w hc (by omega) hk))
    | s8 r hr => subst hr; exact Step_8 S rs k _ w hT (by omega) hk hg hw (fun A c w hc hcap => stay_below (wordRight_any A c k rs w hc (by omega) hk))
    | s9 => exact Step_9 S rs k _ w hT (by omega) hk hg hw (fun A c w hc hcap => stay_below (top_any A c rs.length k w))
    | s10 => exact Step_10 S rs k _ w hT (by omega) hk hg hw (fun A c w hc hcap => stay_below (bottom_any A c rs.length k w))
end Go.Proofs.YtfgekdefnbohbaaDoor.U
