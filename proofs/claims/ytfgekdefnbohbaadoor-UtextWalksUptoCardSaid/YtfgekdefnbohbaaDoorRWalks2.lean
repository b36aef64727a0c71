/- Exact laws, walks: the reference's word runes and its walks over words; a line that no place has. -/
import Derived.Test.YtfgekdefnbohbaaDoorRWalks
import Derived.Test.YtfgekdefnbohbaaDoorUWords
namespace Go.Proofs.YtfgekdefnbohbaaDoor.U
open Go.RowKit Go.Proofs.YtfgekdefnbohbaaDoor.Txt
set_option linter.unusedVariables false
set_option linter.unusedSimpArgs false

set_option maxHeartbeats 4000000 in
theorem Word_any (r : Int) (w : World) : Calls Tryd.prog 95 #[.int .i64 r] w fun e w' => e = .returned (.bool (wordB r)) ∧ w = w' := by
  have HC : (r < 48 ∨ (57 < r ∧ r < 65) ∨ (90 < r ∧ r < 95) ∨ r = 96 ∨ (122 < r ∧ r < 192)) ∨ ((48 ≤ r ∧ r ≤ 57) ∨ (65 ≤ r ∧ r ≤ 90) ∨ (97 ≤ r ∧ r ≤ 122) ∨ 192 ≤ r) ∨ r = 95 := by omega
  rcases HC with h | h | rfl
  · have hb : wordB r = false := by unfold wordB; simp; omega
    have b95 : (r == 95) = false := by simp; omega
    have HB := Lib.hid hb
    clear hb
    rcases h with h | h | h | rfl | h
    all_goals
      go_enter Tryd.func95, Tryd.ntmps95
      go_wp2
      go_ret
      first | exact ⟨ret_bool HB.out.symm, rfl⟩ | exact ⟨ret_bool (by rw [HB.out]; simp; omega), rfl⟩
  · have hb : wordB r = true := by unfold wordB; simp; omega
    have b95 : (r == 95) = false := by simp; omega
    have HB := Lib.hid hb
    clear hb
    rcases h with h | h | h | h
    all_goals
      go_enter Tryd.func95, Tryd.ntmps95
      go_wp2
      go_ret
      first | exact ⟨ret_bool HB.out.symm, rfl⟩ | exact ⟨ret_bool (by rw [HB.out]; simp; omega), rfl⟩
  · go_enter Tryd.func95, Tryd.ntmps95
    go_wp2
    go_ret
    exact ⟨ret_bool rfl, rfl⟩

set_option maxRecDepth 100000 in
set_option maxHeartbeats 4000000 in
theorem refword_back (A : Option Addr) (c k : Nat) (rs : List Int) (w : World) (hc : Cells64 w A rs) (hl : rs.length ≤ 1048576) (hk : k ≤ rs.length) :
    Calls Tryd.prog 89 #[.slice A rs.length c, .int .i64 k, .bool true] w fun e w' => e = .returned (.int .i64 (wordL rs k : Nat)) ∧ w = w' := by
  have HC := Lib.hid hc
  clear hc
  go_enter Tryd.func89, Tryd.ntmps89
  go_wp2_with fail
  go_loop [1, 7] (fun v p => ∃ j : Nat, v = .int .i64 j ∧ j ≤ rs.length ∧ ((p = .int .i64 0 ∧ j = k) ∨ (p = .int .i64 1 ∧ j = skipL rs false k) ∨ (p = .int .i64 2 ∧ j = skipL rs true (skipL rs false k)))) (fun _ p => 2 - (intOf p).toNat)
  case atStart => exact ⟨k, rfl, hk, .inl ⟨rfl, rfl⟩⟩
  case round =>
    obtain ⟨j, rfl, hj, hp⟩ := hrel
    rcases hp with ⟨rfl, hst⟩ | ⟨rfl, hst⟩ | ⟨rfl, hst⟩
    · go_wp2_with fail
      go_loop [1] (fun v => ∃ i : Nat, i ≤ rs.length ∧ v = .int .i64 i ∧ skipL rs false i = skipL rs false k) (fun v => (intOf v).toNat)
      case atStart => exact ⟨k, by rw [← hst]; exact hj, rfl, rfl⟩
      case round =>
        obtain ⟨i, hi, rfl, hh⟩ := hrel
        have HH := Lib.hid hh
        clear hh
        cases i with
        | zero =>
          have he : skipL rs false k = 0 := by rw [← HH.out]; rfl
          have HE := Lib.hid he
          clear he
          go_wp2_with fail
          go_round
          case rel => exact ⟨0, by go_num, Nat.zero_le _, .inr (.inl ⟨rfl, HE.out.symm⟩)⟩
          case measure => first | simp [intOf] | decide
        | succ i =>
          obtain ⟨ad, rfl, hcs⟩ := HC.out (by omega)
          have hcell := hcs i (by omega)
          have hd : skipL rs false (i + 1) = if wordB (rs.getD i 0) = false then skipL rs false i else i + 1 := rfl
          generalize hx : rs.getD i 0 = r at hcell hd
          have hneg : ¬ (i : Int) < 0 := by omega
          have hbig : ¬ rs.length ≤ i := by omega
          clear hx hcs
          cases hb : wordB r with
          | true =>
            rw [hb, if_neg (by simp)] at hd
            have HD := Lib.hid hd
            have HBB := Lib.hid hb
            clear hd hb
            go_wp2_with fail
            refine (Word_any r _).mono ?_
            rintro e w' ⟨rfl, rfl⟩
            rw [HBB.out]
            go_wp2_with fail
            go_round
            case rel => exact ⟨i + 1, by go_num, by omega, .inr (.inl ⟨rfl, by show _ = skipL rs false k; rw [← HH.out, HD.out]⟩)⟩
            case measure => first | simp [intOf] | decide
          | false =>
            rw [hb, if_pos rfl] at hd
            have HD := Lib.hid hd
            have HBB := Lib.hid hb
            clear hd hb
            go_wp2_with fail
            refine (Word_any r _).mono ?_
            rintro e w' ⟨rfl, rfl⟩
            rw [HBB.out]
            go_wp2_with fail
            go_round
            case rel => exact ⟨i, by omega, by go_num, by rw [← HH.out, HD.out]⟩
            case measure => simp [intOf]
    · go_wp2_with fail
      go_loop [1] (fun v => ∃ i : Nat, i ≤ rs.length ∧ v = .int .i64 i ∧ skipL rs true i = skipL rs true (skipL rs false k)) (fun v => (intOf v).toNat)
      case atStart => exact ⟨(skipL rs false k), by rw [← hst]; exact hj, rfl, rfl⟩
      case round =>
        obtain ⟨i, hi, rfl, hh⟩ := hrel
        have HH := Lib.hid hh
        clear hh
        cases i with
        | zero =>
          have he : skipL rs true (skipL rs false k) = 0 := by rw [← HH.out]; rfl
          have HE := Lib.hid he
          clear he
          go_wp2_with fail
          go_round
          case rel => exact ⟨0, by go_num, Nat.zero_le _, .inr (.inr ⟨rfl, HE.out.symm⟩)⟩
          case measure => first | simp [intOf] | decide
        | succ i =>
          obtain ⟨ad, rfl, hcs⟩ := HC.out (by omega)
          have hcell := hcs i (by omega)
          have hd : skipL rs true (i + 1) = if wordB (rs.getD i 0) = true then skipL rs true i else i + 1 := rfl
          generalize hx : rs.getD i 0 = r at hcell hd
          have hneg : ¬ (i : Int) < 0 := by omega
          have hbig : ¬ rs.length ≤ i := by omega
          clear hx hcs
          cases hb : wordB r with
          | true =>
            rw [hb, if_pos rfl] at hd
            have HD := Lib.hid hd
            have HBB := Lib.hid hb
            clear hd hb
            go_wp2_with fail
            refine (Word_any r _).mono ?_
            rintro e w' ⟨rfl, rfl⟩
            rw [HBB.out]
            go_wp2_with fail
            go_round
            case rel => exact ⟨i, by omega, by go_num, by rw [← HH.out, HD.out]⟩
            case measure => simp [intOf]
          | false =>
            rw [hb, if_neg (by simp)] at hd
            have HD := Lib.hid hd
            have HBB := Lib.hid hb
            clear hd hb
            go_wp2_with fail
            refine (Word_any r _).mono ?_
            rintro e w' ⟨rfl, rfl⟩
            rw [HBB.out]
            go_wp2_with fail
            go_round
            case rel => exact ⟨i + 1, by go_num, by omega, .inr (.inr ⟨rfl, by show _ = skipL rs true (skipL rs false k); rw [← HH.out, HD.out]⟩)⟩
            case measure => first | simp [intOf] | decide
    · have HST := Lib.hid hst
      clear hst
      go_wp2_with fail
      go_ret
      exact ⟨ret_int (by rw [HST.out]; rfl), rfl⟩

set_option maxRecDepth 100000 in
set_option maxHeartbeats 4000000 in
theorem refword_fore (A : Option Addr) (c k : Nat) (rs : List Int) (w : World) (hc : Cells64 w A rs) (hl : rs.length ≤ 1048576) (hk : k ≤ rs.length) :
    Calls Tryd.prog 89 #[.slice A rs.length c, .int .i64 k, .bool false] w fun e w' => e = .returned (.int .i64 (wordR rs k : Nat)) ∧ w = w' := by
  have HC := Lib.hid hc
  clear hc
  go_enter Tryd.func89, Tryd.ntmps89
  go_wp2_with fail
  go_loop [1, 7] (fun v p => ∃ j : Nat, v = .int .i64 j ∧ j ≤ rs.length ∧ ((p = .int .i64 0 ∧ j = k) ∨ (p = .int .i64 1 ∧ j = skipR rs false k) ∨ (p = .int .i64 2 ∧ j = skipR rs true (skipR rs false k)))) (fun _ p => 2 - (intOf p).toNat)
  case atStart => exact ⟨k, rfl, hk, .inl ⟨rfl, rfl⟩⟩
  case round =>
    obtain ⟨j, rfl, hj, hp⟩ := hrel
    rcases hp with ⟨rfl, hst⟩ | ⟨rfl, hst⟩ | ⟨rfl, hst⟩
    · go_wp2_with fail
      go_loop [1] (fun v => ∃ i : Nat, i ≤ rs.length ∧ v = .int .i64 i ∧ skipR rs false i = skipR rs false k) (fun v => rs.length - (intOf v).toNat)
      case atStart => exact ⟨k, by rw [← hst]; exact hj, rfl, rfl⟩
      case round =>
        obtain ⟨i, hi, rfl, hh⟩ := hrel
        have HH := Lib.hid hh
        clear hh
        by_cases hlt : i < rs.length
        case neg =>
          have hie : i = rs.length := by omega
          have he : skipR rs false k = i := by rw [← HH.out, hie, skipR_end]
          clear hie
          have HE := Lib.hid he
          have hbig : rs.length ≤ i := by omega
          have hneg : ¬ (i : Int) < 0 := by omega
          clear he
          go_wp2_with fail
          go_round
          case rel => exact ⟨i, by go_num, hi, .inr (.inl ⟨rfl, HE.out.symm⟩)⟩
          case measure => first | simp [intOf] | decide
        case pos =>
          obtain ⟨ad, rfl, hcs⟩ := HC.out (by omega)
          have hcell := hcs i (by omega)
          have hd := skipR_step rs false i hlt
          generalize hx : rs.getD i 0 = r at hcell hd
          have hneg : ¬ (i : Int) < 0 := by omega
          have hbig : ¬ rs.length ≤ i := by omega
          clear hx hcs
          cases hb : wordB r with
          | true =>
            rw [hb, if_neg (by simp)] at hd
            have HD := Lib.hid hd
            have HBB := Lib.hid hb
            clear hd hb
            go_wp2_with fail
            refine (Word_any r _).mono ?_
            rintro e w' ⟨rfl, rfl⟩
            rw [HBB.out]
            go_wp2_with fail
            go_round
            case rel => exact ⟨i, by go_num, by omega, .inr (.inl ⟨rfl, by show _ = skipR rs false k; rw [← HH.out, HD.out]⟩)⟩
            case measure => first | simp [intOf] | decide
          | false =>
            rw [hb, if_pos rfl] at hd
            have HD := Lib.hid hd
            have HBB := Lib.hid hb
            clear hd hb
            go_wp2_with fail
            refine (Word_any r _).mono ?_
            rintro e w' ⟨rfl, rfl⟩
            rw [HBB.out]
            go_wp2_with fail
            go_round
            case rel => exact ⟨i + 1, by omega, by go_num, by rw [← HH.out, HD.out]⟩
            case measure => simp [intOf]; omega
    · go_wp2_with fail
      go_loop [1] (fun v => ∃ i : Nat, i ≤ rs.length ∧ v = .int .i64 i ∧ skipR rs true i = skipR rs true (skipR rs false k)) (fun v => rs.length - (intOf v).toNat)
      case atStart => exact ⟨(skipR rs false k), by rw [← hst]; exact hj, rfl, rfl⟩
      case round =>
        obtain ⟨i, hi, rfl, hh⟩ := hrel
        have HH := Lib.hid hh
        clear hh
        by_cases hlt : i < rs.length
        case neg =>
          have hie : i = rs.length := by omega
          have he : skipR rs true (skipR rs false k) = i := by rw [← HH.out, hie, skipR_end]
          clear hie
          have HE := Lib.hid he
          have hbig : rs.length ≤ i := by omega
          have hneg : ¬ (i : Int) < 0 := by omega
          clear he
          go_wp2_with fail
          go_round
          case rel => exact ⟨i, by go_num, hi, .inr (.inr ⟨rfl, HE.out.symm⟩)⟩
          case measure => first | simp [intOf] | decide
        case pos =>
          obtain ⟨ad, rfl, hcs⟩ := HC.out (by omega)
          have hcell := hcs i (by omega)
          have hd := skipR_step rs true i hlt
          generalize hx : rs.getD i 0 = r at hcell hd
          have hneg : ¬ (i : Int) < 0 := by omega
          have hbig : ¬ rs.length ≤ i := by omega
          clear hx hcs
          cases hb : wordB r with
          | true =>
            rw [hb, if_pos rfl] at hd
            have HD := Lib.hid hd
            have HBB := Lib.hid hb
            clear hd hb
            go_wp2_with fail
            refine (Word_any r _).mono ?_
            rintro e w' ⟨rfl, rfl⟩
            rw [HBB.out]
            go_wp2_with fail
            go_round
            case rel => exact ⟨i + 1, by omega, by go_num, by rw [← HH.out, HD.out]⟩
            case measure => simp [intOf]; omega
          | false =>
            rw [hb, if_neg (by simp)] at hd
            have HD := Lib.hid hd
            have HBB := Lib.hid hb
            clear hd hb
            go_wp2_with fail
            refine (Word_any r _).mono ?_
            rintro e w' ⟨rfl, rfl⟩
            rw [HBB.out]
            go_wp2_with fail
            go_round
            case rel => exact ⟨i, by go_num, by omega, .inr (.inr ⟨rfl, by show _ = skipR rs true (skipR rs false k); rw [← HH.out, HD.out]⟩)⟩
            case measure => first | simp [intOf] | decide
    · have HST := Lib.hid hst
      clear hst
      go_wp2_with fail
      go_ret
      exact ⟨ret_int (by rw [HST.out]; rfl), rfl⟩

set_option maxRecDepth 100000 in
set_option maxHeartbeats 4000000 in
theorem reffind_out (A : Option Addr) (c : Nat) (ln col : Int) (rs : List Int) (w : World) (hc : Cells64 w A rs) (hl : rs.length ≤ 1048576) (hL : ln < 0 ∨ (nl rs rs.length : Int) < ln) :
    Calls Tryd.prog 88 #[.slice A rs.length c, .int .i64 ln, .int .i64 col] w fun e w' => e = .returned (.int .i64 (-1)) ∧ w = w' := by
  have HC := Lib.hid hc
  have hno : ∀ j, j ≤ rs.length → ((nl rs j : Nat) : Int) ≠ ln := fun j hj => by
    have := nl_mono rs j _ hj
    rcases hL with h | h <;> omega
  have HL := Lib.hid hno
  obtain ⟨n, hn⟩ : ∃ n, rs.length = n := ⟨_, rfl⟩
  rw [hn] at hl ⊢
  have HN := Lib.hid hn
  clear hc hL hno hn
  go_enter Tryd.func88, Tryd.ntmps88
  go_wp2_with fail
  go_loop [7, 8, 9, 10] (fun k b cc i => ∃ (j : Nat) (kk ci : Int), i = .int .i64 j ∧ j ≤ n + 1 ∧ k = .int .i64 kk ∧ cc = .int .i64 ci ∧ b = .int .i64 (-1) ∧ 0 ≤ kk ∧ kk ≤ n ∧ 0 ≤ ci ∧ ci ≤ n + 1 ∧ (j ≤ n → kk = (nl rs j : Nat) ∧ ci ≤ j)) (fun _ _ _ i => n + 1 - (intOf i).toNat)
  case atStart => exact ⟨0, 0, 0, rfl, Nat.zero_le _, rfl, rfl, rfl, by omega, by omega, by omega, by omega, fun _ => ⟨rfl, by omega⟩⟩
  case round =>
    obtain ⟨j, kk, ci, rfl, hj, rfl, rfl, rfl, k0, k1, c0, c1, hkc⟩ := hrel
    by_cases hjn : j ≤ n
    case neg =>
      clear hkc
      go_wp2_with fail
      go_ret
      exact ⟨rfl, rfl⟩
    obtain ⟨hk, hci⟩ := hkc hjn
    have h1 := nl_le rs j
    have hst1 := nl_succ rs j
    have h1' := nl_le rs (j + 1)
    have hne := HL.out j (by have := HN.out; omega)
    rw [← hk] at hne
    have b1 : (kk == ln) = false := by simpa using hne
    have hkn : kk ≤ j := by omega
    by_cases hlt : j < n
    case pos =>
      have hjl : j < rs.length := by have := HN.out; omega
      obtain ⟨ad, rfl, hcs⟩ := HC.out (by omega)
      have d0 := hcs j hjl
      obtain ⟨r, hr⟩ : ∃ r, rs.getD j 0 = r := ⟨_, rfl⟩
      rw [hr] at d0 hst1
      have HLT := Lib.hid hlt
      clear hcs hr hjl hne
      by_cases h10 : r = 10
      case' pos =>
        have b10 : (r == 10) = true := by simp [h10]
        rw [if_pos h10] at hst1
        have hw2 : kk + 1 = (nl rs (j + 1) : Nat) := by omega
        have HW := Lib.hid hw2
        clear h10 hw2 hst1 hkc hk
      case' neg =>
        have b10 : (r == 10) = false := by simp [h10]
        rw [if_neg h10] at hst1
        have hw2 : kk = (nl rs (j + 1) : Nat) := by omega
        have HW := Lib.hid hw2
        clear h10 hw2 hst1 hkc hk
      all_goals
        clear h1 h1'
        go_wp2_with fail
        go_round
        case rel => exact ⟨j + 1, _, _, by go_num, by have := HLT.out; omega, rfl, rfl, rfl, by omega, by omega, by omega, by omega, fun _ => ⟨HW.out, by omega⟩⟩
        case measure => have := HLT.out; simp [intOf]; omega
    case neg =>
      have HJ := Lib.hid hjn
      obtain rfl : j = n := by omega
      clear hk hst1 hkc h1 h1' hne
      go_wp2_with fail
      go_round
      case rel => exact ⟨j + 1, _, _, by go_num, by omega, rfl, rfl, rfl, by omega, by omega, by omega, by omega, fun h => absurd h (by omega)⟩
      case measure => simp [intOf]
end Go.Proofs.YtfgekdefnbohbaaDoor.U
