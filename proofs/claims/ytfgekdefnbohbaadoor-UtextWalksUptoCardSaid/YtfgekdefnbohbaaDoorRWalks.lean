/- The reference's where, find, Word, word, walked. -/
import Derived.Test.YtfgekdefnbohbaaDoorRLinesP
import Derived.Test.YtfgekdefnbohbaaDoorRSlices
import Derived.Test.YtfgekdefnbohbaaDoorRSplices2
namespace Go.Proofs.YtfgekdefnbohbaaDoor.U
open Go.RowKit Go.Proofs.YtfgekdefnbohbaaDoor.Txt
set_option linter.unusedVariables false
set_option linter.unusedSimpArgs false
attribute [local go_sem] frozen?_alloc_cells

set_option maxRecDepth 100000 in
set_option maxHeartbeats 4000000 in
theorem refwhere_any (A : Option Addr) (c a : Nat) (rs : List Int) (q : Int) (w : World) (hc : Cells64 w A rs) (hl : rs.length ≤ 1048576) (ha : a ≤ rs.length) (hq : (a : Int) - homeP rs a = q) :
    Calls Tryd.prog 86 #[.slice A rs.length c, .int .i64 a] w fun e w' => e = .returned (.tuple #[.int .i64 (nl rs a), .int .i64 q]) ∧ w = w' := by
  have HC := Lib.hid hc
  have HQ := Lib.hid hq
  obtain ⟨n, hn⟩ : ∃ n, rs.length = n := ⟨_, rfl⟩
  rw [hn] at hl ha ⊢
  have HN := Lib.hid hn
  clear hc hq hn
  go_enter Tryd.func86, Tryd.ntmps86
  go_wp2_with fail
  go_loop [6, 7, 8] (fun ln col i => ∃ j : Nat, i = .int .i64 j ∧ j ≤ a ∧ ln = .int .i64 (nl rs j : Nat) ∧ col = .int .i64 ((j : Int) - (homeP rs j : Nat))) (fun _ _ i => a - (intOf i).toNat)
  case atStart => exact ⟨0, rfl, Nat.zero_le _, rfl, rfl⟩
  case round =>
    obtain ⟨j, rfl, hj, rfl, rfl⟩ := hrel
    have h1 := nl_le rs j
    have h2 := homeP_le rs j
    have HST := Lib.hid (And.intro (nl_succ rs j) (home_succ rs j))
    obtain ⟨m, hm⟩ : ∃ m, nl rs j = m := ⟨_, rfl⟩
    obtain ⟨hp, hhp⟩ : ∃ p, homeP rs j = p := ⟨_, rfl⟩
    have HEQ := Lib.hid (show j = a → nl rs a = m ∧ homeP rs a = hp from fun h => by subst h; exact ⟨hm, hhp⟩)
    rw [hm] at h1 HST ⊢
    rw [hhp] at h2 HST ⊢
    have e1 : IntKind.i64.wrap ((j : Int) - (hp : Int) + 1) = (j : Int) - hp + 1 := IntWalk.i64_in _ (by omega)
    clear hm hhp
    by_cases hlt : j < a
    · have hjl : j < rs.length := by have := HN.out; omega
      obtain ⟨ad, rfl, hcs⟩ := HC.out (by omega)
      have d0 := hcs j hjl
      have hjn : j < n := by omega
      obtain ⟨r, hr⟩ : ∃ r, rs.getD j 0 = r := ⟨_, rfl⟩
      rw [hr] at d0 HST
      have HLT := Lib.hid hlt
      clear hcs hr hjl
      by_cases h10 : r = 10
      · have b : (r == 10) = true := by simp [h10]
        have H10 := Lib.hid h10
        clear h10
        go_wp2_with fail
        go_round
        case rel => exact ⟨j + 1, by go_num, HLT.out, by rw [HST.out.1, if_pos H10.out]; go_num, by rw [HST.out.2, if_pos H10.out]; congr 1; omega⟩
        case measure => have := HLT.out; simp [intOf]; omega
      · have b : (r == 10) = false := by simp [h10]
        have H10 := Lib.hid h10
        clear h10
        go_wp2_with fail
        go_round
        case rel => exact ⟨j + 1, by go_num, HLT.out, by rw [HST.out.1, if_neg H10.out], by rw [HST.out.2, if_neg H10.out]; congr 1; omega⟩
        case measure => have := HLT.out; simp [intOf]; omega
    · obtain rfl : j = a := by omega
      obtain ⟨z1, z2⟩ := HEQ.out rfl
      have HZ := Lib.hid (And.intro z1 z2)
      clear e1 z1 z2
      go_wp2_with fail
      go_ret2
      exact ⟨by rw [← HQ.out, HZ.out.1, HZ.out.2]; rfl, rfl⟩

/-- The best place so far, where all places ahead of i have been looked at. -/
def bestP (p d col i : Nat) : Int := if i ≤ p then -1 else ((p + min (min col d) (i - 1 - p) : Nat) : Int)
set_option maxRecDepth 100000 in
set_option maxHeartbeats 4000000 in
theorem reffind_in (A : Option Addr) (c ln p d col : Nat) (rs : List Int) (w : World) (hc : Cells64 w A rs) (hl : rs.length ≤ 1048576) (hL : LineIs rs ln p d) (hcol : col ≤ 9223372036854775807) :
    Calls Tryd.prog 88 #[.slice A rs.length c, .int .i64 ln, .int .i64 col] w fun e w' => e = .returned (.int .i64 ((p + min col d : Nat) : Int)) ∧ w = w' := by
  have HC := Lib.hid hc
  have HL := Lib.hid hL
  have hle := hL.le
  obtain ⟨n, hn⟩ : ∃ n, rs.length = n := ⟨_, rfl⟩
  rw [hn] at hl hle ⊢
  have HN := Lib.hid hn
  clear hc hL hn
  go_enter Tryd.func88, Tryd.ntmps88
  go_wp2_with fail
  go_loop [7, 8, 9, 10] (fun k b cc i => ∃ (j : Nat) (kk ci : Int), i = .int .i64 j ∧ j ≤ n + 1 ∧ k = .int .i64 kk ∧ cc = .int .i64 ci ∧ b = .int .i64 (bestP p d col j) ∧ 0 ≤ kk ∧ kk ≤ n ∧ 0 ≤ ci ∧ ci ≤ n + 1 ∧ (j ≤ n → kk = (nl rs j : Nat) ∧ ci = (j : Int) - (homeP rs j : Nat))) (fun _ _ _ i => n + 1 - (intOf i).toNat)
  case atStart => exact ⟨0, 0, 0, rfl, Nat.zero_le _, rfl, rfl, rfl, by omega, by omega, by omega, by omega, fun _ => ⟨rfl, rfl⟩⟩
  case round =>
    obtain ⟨j, kk, ci, rfl, hj, rfl, rfl, rfl, k0, k1, c0, c1, hkc⟩ := hrel
    by_cases hjn : j ≤ n
    case neg =>
      have HB := Lib.hid (show bestP p d col j = (p : Int) + ((min col d : Nat) : Int) by unfold bestP; rw [if_neg (by omega)]; have := HL.out.le; omega)
      clear hkc
      go_wp2_with fail
      go_ret
      exact ⟨by rw [← HB.out]; rfl, rfl⟩
    obtain ⟨hk, hci⟩ := hkc hjn
    have h1 := nl_le rs j
    have h2 := homeP_le rs j
    have hmem := HL.out.mem j (by have := HN.out; omega)
    have hhome := HL.out.home j
    have hst1 := nl_succ rs j
    have hst2 := home_succ rs j
    have h1' := nl_le rs (j + 1)
    have h2' := homeP_le rs (j + 1)
    -- does the place belong to the line, and is its column let in?
    have hyes : (kk = (ln : Int) ∧ ci ≤ (col : Int)) → bestP p d col (j + 1) = (j : Int) := fun ⟨a, b⟩ => by
      have hm := hmem.1 (by omega)
      have hh := hhome hm.1 hm.2
      unfold bestP
      rw [if_neg (by omega)]
      congr 1; omega
    have hno : ¬ (kk = (ln : Int) ∧ ci ≤ (col : Int)) → bestP p d col (j + 1) = bestP p d col j := fun hn => by
      unfold bestP
      rcases Nat.lt_trichotomy j p with h | h | h
      · rw [if_pos (by omega), if_pos (by omega)]
      · exfalso
        have hm := hmem.2 ⟨by omega, by omega⟩
        have hh := hhome (by omega) (by omega)
        exact hn ⟨by omega, by omega⟩
      · rw [if_neg (by omega), if_neg (by omega)]
        congr 2
        rcases Nat.lt_or_ge (p + d) j with h3 | h3
        · omega
        · have hm := hmem.2 ⟨by omega, h3⟩
          have hh := hhome (by omega) h3
          have : (col : Int) < ci := by
            rcases Int.lt_or_le (col : Int) ci with h4 | h4
            · exact h4
            · exact absurd ⟨by omega, h4⟩ hn
          omega
    have hnew : (if rs.getD j 0 = 10 then (kk + 1 = (nl rs (j + 1) : Nat) ∧ (0 : Int) = ((j + 1 : Nat) : Int) - (homeP rs (j + 1) : Nat)) else (kk = (nl rs (j + 1) : Nat) ∧ ci + 1 = ((j + 1 : Nat) : Int) - (homeP rs (j + 1) : Nat))) := by
      by_cases h10 : rs.getD j 0 = 10
      · rw [if_pos h10]; rw [if_pos h10] at hst1 hst2; omega
      · rw [if_neg h10]; rw [if_neg h10] at hst1 hst2; omega
    have HY := Lib.hid hyes
    have HNO := Lib.hid hno
    have HNW := Lib.hid hnew
    have hkn : kk ≤ j := by omega
    have hcn : ci ≤ j := by omega
    obtain ⟨bst, hbst⟩ : ∃ bst, bestP p d col j = bst := ⟨_, rfl⟩
    rw [hbst] at HNO ⊢
    have HJ := Lib.hid hjn
    clear hk hci hmem hhome hst1 hst2 hyes hno hnew hkc hbst h1 h2 h1' h2'
    by_cases hlt : j < n
    case pos =>
      have hjl : j < rs.length := by have := HN.out; omega
      obtain ⟨ad, rfl, hcs⟩ := HC.out (by omega)
      have d0 := hcs j hjl
      obtain ⟨r, hr⟩ : ∃ r, rs.getD j 0 = r := ⟨_, rfl⟩
      rw [hr] at d0 HNW
      have HLT := Lib.hid hlt
      clear hcs hr hjl
      by_cases h10 : r = 10
      case' pos =>
        have b10 : (r == 10) = true := by simp [h10]
        have hw2 := HNW.out
        rw [if_pos h10] at hw2
        have HW := Lib.hid hw2
        clear h10 hw2
      case' neg =>
        have b10 : (r == 10) = false := by simp [h10]
        have hw2 := HNW.out
        rw [if_neg h10] at hw2
        have HW := Lib.hid hw2
        clear h10 hw2
      all_goals
        by_cases g1 : kk = (ln : Int)
        · by_cases g2 : ci ≤ (col : Int)
          · have b1 : (kk == (ln : Int)) = true := by simp [g1]
            have HB := Lib.hid (HY.out ⟨g1, g2⟩)
            clear g1
            go_wp2_with fail
            go_round
            case rel => exact ⟨j + 1, _, _, by go_num, by have := HLT.out; omega, rfl, rfl, by rw [HB.out], by omega, by omega, by omega, by omega, fun _ => HW.out⟩
            case measure => have := HLT.out; simp [intOf]; omega
          · have b1 : (kk == (ln : Int)) = true := by simp [g1]
            have HB := Lib.hid (HNO.out (fun h => g2 h.2))
            clear g1
            go_wp2_with fail
            go_round
            case rel => exact ⟨j + 1, _, _, by go_num, by have := HLT.out; omega, rfl, rfl, by rw [HB.out], by omega, by omega, by omega, by omega, fun _ => HW.out⟩
            case measure => have := HLT.out; simp [intOf]; omega
        · have b1 : (kk == (ln : Int)) = false := by simp [g1]
          have HB := Lib.hid (HNO.out (fun h => g1 h.1))
          clear g1
          go_wp2_with fail
          go_round
          case rel => exact ⟨j + 1, _, _, by go_num, by have := HLT.out; omega, rfl, rfl, by rw [HB.out], by omega, by omega, by omega, by omega, fun _ => HW.out⟩
          case measure => have := HLT.out; simp [intOf]; omega
    case neg =>
      have HJE := Lib.hid (show j = n by omega)
      clear hjn
      by_cases g1 : kk = (ln : Int)
      · by_cases g2 : ci ≤ (col : Int)
        · have b1 : (kk == (ln : Int)) = true := by simp [g1]
          have HB := Lib.hid (HY.out ⟨g1, g2⟩)
          clear g1
          go_wp2_with fail
          go_round
          case rel => exact ⟨j + 1, _, _, by go_num, by have := HJE.out; omega, rfl, rfl, by rw [HB.out], by omega, by omega, by omega, by omega, fun h => by have := HJE.out; omega⟩
          case measure => have := HJE.out; simp [intOf]; omega
        · have b1 : (kk == (ln : Int)) = true := by simp [g1]
          have HB := Lib.hid (HNO.out (fun h => g2 h.2))
          clear g1
          go_wp2_with fail
          go_round
          case rel => exact ⟨j + 1, _, _, by go_num, by have := HJE.out; omega, rfl, rfl, by rw [HB.out], by omega, by omega, by omega, by omega, fun h => by have := HJE.out; omega⟩
          case measure => have := HJE.out; simp [intOf]; omega
      · have b1 : (kk == (ln : Int)) = false := by simp [g1]
        have HB := Lib.hid (HNO.out (fun h => g1 h.1))
        clear g1
        go_wp2_with fail
        go_round
        case rel => exact ⟨j + 1, _, _, by go_num, by have := HJE.out; omega, rfl, rfl, by rw [HB.out], by omega, by omega, by omega, by omega, fun h => by have := HJE.out; omega⟩
        case measure => have := HJE.out; simp [intOf]; omega
end Go.Proofs.YtfgekdefnbohbaaDoor.U
