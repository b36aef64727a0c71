/- internal/strconv.ParseUint at base 16, bit sizes 8 and 32, over texts too short to overflow. -/
import Derived.Test.YtkdhomiieenfnaaGreatDoorLs1
import Derived.Lib.ConvBytes
import Derived.Lib.AtoiErrMem
import Derived.Lib.Hide
import Derived.Laws.Closers25b
import Derived.WalkKit
import Derived.BigCall
import Derived.BigGuard
namespace Go.Proofs.YtkdhomiieenfnaaGreatDoor.U
open Go.RowKit Go.Proofs.YtkdhomiieenfnaaGreatDoor.Txt
set_option linter.unusedVariables false
set_option linter.unusedSimpArgs false

theorem ilower_any (c : Int) (w : World) : Calls Tryz.prog 182 #[.int .u8 c] w fun e w' => e = .returned (.int .u8 (bits .or .u8 c 32)) ∧ w = w' := by
  go_enter Tryz.func182, Tryz.ntmps182
  go_wp2
  go_ret
  exact ⟨rfl, rfl⟩
/-- What a byte is as a digit of base 16, by its lower form. -/
theorem lower_val (c : Nat) (h : c < 256) : ∃ L : Nat, bits .or .u8 (c : Int) 32 = (L : Int) ∧ L < 256 ∧
    ((48 ≤ c ∧ c ≤ 57) ∨ (c < 48 ∨ 57 < c) ∧ (97 ≤ L ∧ L ≤ 102 ∧ c ≠ 95 ∧ hexV c.toUInt8 = some (L - 87) ∨ (L < 97 ∨ 122 < L) ∧ hexV c.toUInt8 = none ∨ 103 ≤ L ∧ L ≤ 122 ∧ c ≠ 95 ∧ hexV c.toUInt8 = none)) := by
  have H : ∀ c : Fin 256, bits .or .u8 ((c.1 : Nat) : Int) 32 = (((bits .or .u8 ((c.1 : Nat) : Int) 32).toNat : Nat) : Int) ∧ (bits .or .u8 ((c.1 : Nat) : Int) 32).toNat < 256 ∧
    ((48 ≤ c.1 ∧ c.1 ≤ 57) ∨ (c.1 < 48 ∨ 57 < c.1) ∧ (97 ≤ (bits .or .u8 ((c.1 : Nat) : Int) 32).toNat ∧ (bits .or .u8 ((c.1 : Nat) : Int) 32).toNat ≤ 102 ∧ c.1 ≠ 95 ∧ hexV c.1.toUInt8 = some ((bits .or .u8 ((c.1 : Nat) : Int) 32).toNat - 87) ∨ ((bits .or .u8 ((c.1 : Nat) : Int) 32).toNat < 97 ∨ 122 < (bits .or .u8 ((c.1 : Nat) : Int) 32).toNat) ∧ hexV c.1.toUInt8 = none ∨ 103 ≤ (bits .or .u8 ((c.1 : Nat) : Int) 32).toNat ∧ (bits .or .u8 ((c.1 : Nat) : Int) 32).toNat ≤ 122 ∧ c.1 ≠ 95 ∧ hexV c.1.toUInt8 = none)) := by
    decide +kernel
  exact ⟨_, H ⟨c, h⟩⟩

def pRes : Option Nat → Value
  | some n => .tuple #[.int .u64 n, .nilIface]
  | none => .tuple #[.int .u64 0, .iface 209 (.int .i64 2)]

set_option maxRecDepth 100000 in
set_option maxHeartbeats 4000000 in
theorem iparse_8 (t : ByteArray) (hne : t.size ≠ 0) (hmax : t.size ≤ 2) (w : World) :
    Calls Tryz.prog 172 #[.string t, .int .i64 16, .int .i64 8] w fun e w' => e = .returned (pRes (parseH t.data.toList)) ∧ w' = Lib.bytesWorld w 5 t := by
  have hpow : 16 ^ t.size ≤ 256 := Nat.le_trans (Nat.pow_le_pow_right (by omega) hmax) (by decide)
  have hemp : t.toList.isEmpty = false := by
    rw [← decide_eq_emptyBytes]
    exact decide_eq_false (fun h => hne (by rw [h]; rfl))
  have hcv := Lib.run_convert_string_bytes (P := Tryz.prog) w 9 109 5 t (u := .string) Tryz.underlying9 Tryz.underlying109 Tryz.underlying5
  have hB : ∀ j, j < t.size → (Lib.bytesWorld w 5 t).cell? ⟨w.heap.size, j, none⟩ = some (.int .u8 (t.data.toList.getD j 0).toNat) := fun j hj => Lib.bytesWorld_cell w 5 t j hj
  obtain ⟨W1, hW1⟩ : ∃ W1, W1 = Lib.bytesWorld w 5 t := ⟨_, rfl⟩
  rw [← hW1] at hcv hB ⊢
  clear hW1
  obtain ⟨bs, hL⟩ : ∃ bs, bs = t.data.toList := ⟨_, rfl⟩
  have hLn : bs.length = t.size := by rw [hL]; exact size_toList t
  rw [← hL] at hB ⊢
  clear hL
  have HP := Lib.hid hpow
  clear hpow
  go_enter Tryz.func172, Tryz.ntmps172
  go_wp2
  go_loop [12, 13, 101] (fun vu vn vi => ∃ (k acc : Nat) (a : Int), vu = .bool false ∧ vn = .int .u64 a ∧ vi = .int .i64 k ∧ k ≤ t.size ∧ Hid (a = (acc : Int) ∧ acc < 16 ^ k ∧ parseH bs = parseF acc (bs.drop k))) (fun _ _ vi => t.size - (intOf vi).toNat)
  case atStart => exact ⟨0, 0, 0, rfl, rfl, rfl, by omega, rfl, by decide, rfl⟩
  case round =>
    obtain ⟨k, acc, a, rfl, rfl, rfl, hk, hh⟩ := hrel
    obtain ⟨ha, hacc, hdec⟩ := hh.out
    clear hh
    by_cases hkn : k < t.size
    · have hc := hB k hkn
      have hdrop : bs.drop k = bs[k]'(by omega) :: bs.drop (k + 1) := List.drop_eq_getElem_cons (by omega)
      have hget : bs.getD k 0 = bs[k]'(by omega) := by simp [List.getD, List.getElem?_eq_getElem (show k < bs.length by omega)]
      rw [hdrop] at hdec
      rw [hget] at hc
      generalize bs[k]'(by omega) = c at hc hdec
      have hc256 : c.toNat < 256 := c.toNat_lt
      clear hB hdrop hget
      have hle : 16 ^ (k + 1) ≤ 16 ^ t.size := Nat.pow_le_pow_right (by omega) (by omega)
      have hps : 16 ^ (k + 1) = 16 ^ k * 16 := Nat.pow_succ 16 k
      have hpo := HP.out
      have hst : ∀ d : Nat, d < 16 → acc * 16 + d < 16 ^ (k + 1) := fun d hd => by omega
      have hbd : ∀ d : Nat, d < 16 → a * 16 + d ≤ 255 := fun d hd => by have := hst d hd; omega
      have HN : ∀ d : Nat, d < 16 → hexV c = some d → Hid (a * 16 + (d : Int) = ((acc * 16 + d : Nat) : Int) ∧ acc * 16 + d < 16 ^ (k + 1) ∧ parseH bs = parseF (acc * 16 + d) (bs.drop (k + 1))) := fun d hd hv => Lib.hid ⟨by omega, hst d hd, by rw [hdec]; simp only [parseF, hv]⟩
      have HZ : hexV c = none → Hid (parseH bs = none) := fun hv => Lib.hid (by rw [hdec]; simp only [parseF, hv])
      have ha0 : 0 ≤ a := by omega
      have ha1 : a ≤ 268435455 := by have := hbd 0 (by omega); omega
      have hcu : c.toNat.toUInt8 = c := by simp
      obtain ⟨L, hLv, hL256, hcase⟩ := lower_val c.toNat hc256
      rw [hcu] at hcase
      obtain ⟨x, hx⟩ : ∃ x, c.toNat = x := ⟨_, rfl⟩
      rw [hx] at hc hLv hcase hc256
      have HLV := Lib.hid hLv
      have icut : a < 1152921504606846976 := by omega
      clear hdec hacc hst hle hps hpo ha hcu hLv
      rcases hcase with ⟨hd0, hd1⟩ | ⟨hnd, ⟨hl0, hl1, hn95, hv⟩ | ⟨hl, hv⟩ | ⟨hl0, hl1, hn95, hv⟩⟩
      · have hv : hexV c = some (x - 48) := by unfold hexV; rw [hx, if_pos ⟨hd0, hd1⟩]
        obtain ⟨d, hd⟩ : ∃ d, x - 48 = d := ⟨_, rfl⟩
        rw [hd] at hv
        have H2 := HN d (by omega) hv
        have h1 : a * 16 + ((x : Int) - 48) ≤ 255 := by have := hbd d (by omega); omega
        have HD := Lib.hid (show (x : Int) - 48 = d by omega)
        clear HN HZ hbd hv hd hL256 hx
        go_wp2
        go_round
        case rel => exact ⟨k + 1, acc * 16 + d, a * 16 + d, rfl, (by rw [← HD.out]), (by first | rfl | (congr 1; omega)), by omega, H2⟩
        case measure => simp [intOf]; omega
      · obtain ⟨d, hd⟩ : ∃ d, L - 87 = d := ⟨_, rfl⟩
        rw [hd] at hv
        have H2 := HN d (by omega) hv
        have h1 : a * 16 + ((L : Int) - 97 + 10) ≤ 255 := by have := hbd d (by omega); omega
        have HD := Lib.hid (show (L : Int) - 97 + 10 = d by omega)
        have b95 : ((x : Int) == 95) = false := by simp; omega
        clear HN HZ hbd hv hd hx
        have hw1 : IntKind.u8.wrap ((L : Int) - 97) = (L : Int) - 97 := by rw [IntKind.wrap_u8]; omega
        rcases hnd with hnd | hnd
        all_goals
          go_wp2_with (go_at_call 182; refine (ilower_any _ _).mono ?_; rintro e w' ⟨rfl, rfl⟩; rw [HLV.out])
          go_round
          case rel => exact ⟨k + 1, acc * 16 + d, a * 16 + d, rfl, (by rw [← HD.out]), (by first | rfl | (congr 1; omega)), by omega, H2⟩
          case measure => simp [intOf]; omega
      · have HZ2 := HZ hv
        clear HN HZ hbd hv hx
        by_cases h95 : x = 95
        · subst h95
          have HLV2 := Lib.hid (show bits .or .u8 95 32 = 127 by kernel_rfl)
          clear HLV hl hL256 hnd
          go_wp2_with (go_at_call 182; refine (ilower_any _ _).mono ?_; rintro e w' ⟨rfl, rfl⟩; rw [HLV2.out])
          all_goals go_ret2
          all_goals exact ⟨by rw [HZ2.out]; rfl, rfl⟩
        · have b95 : ((x : Int) == 95) = false := by simp; omega
          rcases hl with hl | hl
          · have g1 : ¬ 97 ≤ L := by omega
            have g2 : ¬ (97 : Int) ≤ L := by omega
            have g3 : decide ((97 : Int) ≤ L) = false := by simp; omega
            rcases hnd with hnd | hnd
            all_goals
              go_wp2_with (go_at_call 182; refine (ilower_any _ _).mono ?_; rintro e w' ⟨rfl, rfl⟩; rw [HLV.out])
            all_goals go_ret2
            all_goals exact ⟨by rw [HZ2.out]; rfl, rfl⟩
          · rcases hnd with hnd | hnd
            all_goals
              go_wp2_with (go_at_call 182; refine (ilower_any _ _).mono ?_; rintro e w' ⟨rfl, rfl⟩; rw [HLV.out])
            all_goals go_ret2
            all_goals exact ⟨by rw [HZ2.out]; rfl, rfl⟩
      · have HZ2 := HZ hv
        have b95 : ((x : Int) == 95) = false := by simp; omega
        clear HN HZ hbd hv hx
        rcases hnd with hnd | hnd
        all_goals
          go_wp2_with (go_at_call 182; refine (ilower_any _ _).mono ?_; rintro e w' ⟨rfl, rfl⟩; rw [HLV.out])
        all_goals go_ret2
        all_goals exact ⟨by rw [HZ2.out]; rfl, rfl⟩
    · have hF : parseF acc (bs.drop k) = some acc := by rw [List.drop_eq_nil_of_le (by omega)]; rfl
      rw [hF] at hdec
      have HD := Lib.hid hdec
      have HA := Lib.hid ha
      have hkk : k = t.size := by omega
      clear hdec hF hacc ha hB
      subst hkk
      go_wp2
      go_ret2
      exact ⟨by rw [HD.out, HA.out]; rfl, rfl⟩

set_option maxRecDepth 100000 in
set_option maxHeartbeats 4000000 in
theorem iparse_32 (t : ByteArray) (hne : t.size ≠ 0) (hmax : t.size ≤ 6) (w : World) :
    Calls Tryz.prog 172 #[.string t, .int .i64 16, .int .i64 32] w fun e w' => e = .returned (pRes (parseH t.data.toList)) ∧ w' = Lib.bytesWorld w 5 t := by
  have hpow : 16 ^ t.size ≤ 16777216 := Nat.le_trans (Nat.pow_le_pow_right (by omega) hmax) (by decide)
  have hemp : t.toList.isEmpty = false := by
    rw [← decide_eq_emptyBytes]
    exact decide_eq_false (fun h => hne (by rw [h]; rfl))
  have hcv := Lib.run_convert_string_bytes (P := Tryz.prog) w 9 109 5 t (u := .string) Tryz.underlying9 Tryz.underlying109 Tryz.underlying5
  have hB : ∀ j, j < t.size → (Lib.bytesWorld w 5 t).cell? ⟨w.heap.size, j, none⟩ = some (.int .u8 (t.data.toList.getD j 0).toNat) := fun j hj => Lib.bytesWorld_cell w 5 t j hj
  obtain ⟨W1, hW1⟩ : ∃ W1, W1 = Lib.bytesWorld w 5 t := ⟨_, rfl⟩
  rw [← hW1] at hcv hB ⊢
  clear hW1
  obtain ⟨bs, hL⟩ : ∃ bs, bs = t.data.toList := ⟨_, rfl⟩
  have hLn : bs.length = t.size := by rw [hL]; exact size_toList t
  rw [← hL] at hB ⊢
  clear hL
  have HP := Lib.hid hpow
  clear hpow
  go_enter Tryz.func172, Tryz.ntmps172
  go_wp2
  go_loop [12, 13, 101] (fun vu vn vi => ∃ (k acc : Nat) (a : Int), vu = .bool false ∧ vn = .int .u64 a ∧ vi = .int .i64 k ∧ k ≤ t.size ∧ Hid (a = (acc : Int) ∧ acc < 16 ^ k ∧ parseH bs = parseF acc (bs.drop k))) (fun _ _ vi => t.size - (intOf vi).toNat)
  case atStart => exact ⟨0, 0, 0, rfl, rfl, rfl, by omega, rfl, by decide, rfl⟩
  case round =>
    obtain ⟨k, acc, a, rfl, rfl, rfl, hk, hh⟩ := hrel
    obtain ⟨ha, hacc, hdec⟩ := hh.out
    clear hh
    by_cases hkn : k < t.size
    · have hc := hB k hkn
      have hdrop : bs.drop k = bs[k]'(by omega) :: bs.drop (k + 1) := List.drop_eq_getElem_cons (by omega)
      have hget : bs.getD k 0 = bs[k]'(by omega) := by simp [List.getD, List.getElem?_eq_getElem (show k < bs.length by omega)]
      rw [hdrop] at hdec
      rw [hget] at hc
      generalize bs[k]'(by omega) = c at hc hdec
      have hc256 : c.toNat < 256 := c.toNat_lt
      clear hB hdrop hget
      have hle : 16 ^ (k + 1) ≤ 16 ^ t.size := Nat.pow_le_pow_right (by omega) (by omega)
      have hps : 16 ^ (k + 1) = 16 ^ k * 16 := Nat.pow_succ 16 k
      have hpo := HP.out
      have hst : ∀ d : Nat, d < 16 → acc * 16 + d < 16 ^ (k + 1) := fun d hd => by omega
      have hbd : ∀ d : Nat, d < 16 → a * 16 + d ≤ 4294967295 := fun d hd => by have := hst d hd; omega
      have HN : ∀ d : Nat, d < 16 → hexV c = some d → Hid (a * 16 + (d : Int) = ((acc * 16 + d : Nat) : Int) ∧ acc * 16 + d < 16 ^ (k + 1) ∧ parseH bs = parseF (acc * 16 + d) (bs.drop (k + 1))) := fun d hd hv => Lib.hid ⟨by omega, hst d hd, by rw [hdec]; simp only [parseF, hv]⟩
      have HZ : hexV c = none → Hid (parseH bs = none) := fun hv => Lib.hid (by rw [hdec]; simp only [parseF, hv])
      have ha0 : 0 ≤ a := by omega
      have ha1 : a ≤ 268435455 := by have := hbd 0 (by omega); omega
      have hcu : c.toNat.toUInt8 = c := by simp
      obtain ⟨L, hLv, hL256, hcase⟩ := lower_val c.toNat hc256
      rw [hcu] at hcase
      obtain ⟨x, hx⟩ : ∃ x, c.toNat = x := ⟨_, rfl⟩
      rw [hx] at hc hLv hcase hc256
      have HLV := Lib.hid hLv
      have icut : a < 1152921504606846976 := by omega
      clear hdec hacc hst hle hps hpo ha hcu hLv
      rcases hcase with ⟨hd0, hd1⟩ | ⟨hnd, ⟨hl0, hl1, hn95, hv⟩ | ⟨hl, hv⟩ | ⟨hl0, hl1, hn95, hv⟩⟩
      · have hv : hexV c = some (x - 48) := by unfold hexV; rw [hx, if_pos ⟨hd0, hd1⟩]
        obtain ⟨d, hd⟩ : ∃ d, x - 48 = d := ⟨_, rfl⟩
        rw [hd] at hv
        have H2 := HN d (by omega) hv
        have h1 : a * 16 + ((x : Int) - 48) ≤ 4294967295 := by have := hbd d (by omega); omega
        have HD := Lib.hid (show (x : Int) - 48 = d by omega)
        clear HN HZ hbd hv hd hL256 hx
        go_wp2
        go_round
        case rel => exact ⟨k + 1, acc * 16 + d, a * 16 + d, rfl, (by rw [← HD.out]), (by first | rfl | (congr 1; omega)), by omega, H2⟩
        case measure => simp [intOf]; omega
      · obtain ⟨d, hd⟩ : ∃ d, L - 87 = d := ⟨_, rfl⟩
        rw [hd] at hv
        have H2 := HN d (by omega) hv
        have h1 : a * 16 + ((L : Int) - 97 + 10) ≤ 4294967295 := by have := hbd d (by omega); omega
        have HD := Lib.hid (show (L : Int) - 97 + 10 = d by omega)
        have b95 : ((x : Int) == 95) = false := by simp; omega
        clear HN HZ hbd hv hd hx
        have hw1 : IntKind.u8.wrap ((L : Int) - 97) = (L : Int) - 97 := by rw [IntKind.wrap_u8]; omega
        rcases hnd with hnd | hnd
        all_goals
          go_wp2_with (go_at_call 182; refine (ilower_any _ _).mono ?_; rintro e w' ⟨rfl, rfl⟩; rw [HLV.out])
          go_round
          case rel => exact ⟨k + 1, acc * 16 + d, a * 16 + d, rfl, (by rw [← HD.out]), (by first | rfl | (congr 1; omega)), by omega, H2⟩
          case measure => simp [intOf]; omega
      · have HZ2 := HZ hv
        clear HN HZ hbd hv hx
        by_cases h95 : x = 95
        · subst h95
          have HLV2 := Lib.hid (show bits .or .u8 95 32 = 127 by kernel_rfl)
          clear HLV hl hL256 hnd
          go_wp2_with (go_at_call 182; refine (ilower_any _ _).mono ?_; rintro e w' ⟨rfl, rfl⟩; rw [HLV2.out])
          all_goals go_ret2
          all_goals exact ⟨by rw [HZ2.out]; rfl, rfl⟩
        · have b95 : ((x : Int) == 95) = false := by simp; omega
          rcases hl with hl | hl
          · have g1 : ¬ 97 ≤ L := by omega
            have g2 : ¬ (97 : Int) ≤ L := by omega
            have g3 : decide ((97 : Int) ≤ L) = false := by simp; omega
            rcases hnd with hnd | hnd
            all_goals
              go_wp2_with (go_at_call 182; refine (ilower_any _ _).mono ?_; rintro e w' ⟨rfl, rfl⟩; rw [HLV.out])
            all_goals go_ret2
            all_goals exact ⟨by rw [HZ2.out]; rfl, rfl⟩
          · rcases hnd with hnd | hnd
            all_goals
              go_wp2_with (go_at_call 182; refine (ilower_any _ _).mono ?_; rintro e w' ⟨rfl, rfl⟩; rw [HLV.out])
            all_goals go_ret2
            all_goals exact ⟨by rw [HZ2.out]; rfl, rfl⟩
      · have HZ2 := HZ hv
        have b95 : ((x : Int) == 95) = false := by simp; omega
        clear HN HZ hbd hv hx
        rcases hnd with hnd | hnd
        all_goals
          go_wp2_with (go_at_call 182; refine (ilower_any _ _).mono ?_; rintro e w' ⟨rfl, rfl⟩; rw [HLV.out])
        all_goals go_ret2
        all_goals exact ⟨by rw [HZ2.out]; rfl, rfl⟩
    · have hF : parseF acc (bs.drop k) = some acc := by rw [List.drop_eq_nil_of_le (by omega)]; rfl
      rw [hF] at hdec
      have HD := Lib.hid hdec
      have HA := Lib.hid ha
      have hkk : k = t.size := by omega
      clear hdec hF hacc ha hB
      subst hkk
      go_wp2
      go_ret2
      exact ⟨by rw [HD.out, HA.out]; rfl, rfl⟩

end Go.Proofs.YtkdhomiieenfnaaGreatDoor.U
