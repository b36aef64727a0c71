/- Exact laws, quotes: the reference's digits, written. -/
import Derived.Test.YtfgekdefnbohbaaDoorUEsc2
namespace Go.Proofs.YtfgekdefnbohbaaDoor.U
open Go.RowKit Go.Proofs.YtfgekdefnbohbaaDoor.Txt
set_option linter.unusedVariables false
set_option linter.unusedSimpArgs false
attribute [local go_sem] frozen?_alloc_cells

set_option maxRecDepth 100000 in
theorem dig_slice (k : Nat) (h : k < 16) : ∀ w, (Instr.slice 9 (.string ⟨#[48, 49, 50, 51, 52, 53, 54, 55, 56, 57, 97, 98, 99, 100, 101, 102]⟩) (some (.int .i64 k)) (some (.int .i64 ((k : Int) + 1))) none).run Tryd.prog w = .ok (.string ⟨#[dig k]⟩) w := by
  have hm : k = 0 ∨ k = 1 ∨ k = 2 ∨ k = 3 ∨ k = 4 ∨ k = 5 ∨ k = 6 ∨ k = 7 ∨ k = 8 ∨ k = 9 ∨ k = 10 ∨ k = 11 ∨ k = 12 ∨ k = 13 ∨ k = 14 ∨ k = 15 := by omega
  rcases hm with rfl | rfl | rfl | rfl | rfl | rfl | rfl | rfl | rfl | rfl | rfl | rfl | rfl | rfl | rfl | rfl
  all_goals exact fun _ => by kernel_rfl
theorem cons_str (x : UInt8) (l : List UInt8) : (⟨#[x]⟩ : ByteArray) ++ ⟨l.toArray⟩ = ⟨(x :: l).toArray⟩ := by
  apply ByteArray.ext
  rw [← Array.toList_inj, app_list]
  simp

theorem hex_step (m : Nat) : hexL m = (if m / 16 = 0 then [] else hexL (m / 16)) ++ [dig (m % 16)] := by
  conv => lhs; rw [hexL]
  by_cases h : m < 16
  · rw [if_pos h, if_pos (by omega), Nat.mod_eq_of_lt h]; rfl
  · rw [if_neg h, if_neg (by omega)]
theorem mk_list (l : List UInt8) : (⟨l.toArray⟩ : ByteArray).data.toList = l := rfl

set_option maxRecDepth 100000 in
set_option maxHeartbeats 4000000 in
theorem digits_one (n : Nat) (w : World) (hn : n < 16777216) :
    Calls Tryd.prog 62 #[.int .i64 n, .int .i64 1] w fun e w' => e = .returned (.string ⟨(hexL n).toArray⟩) ∧ w = w' := by
  have hx6 := hexL_le n hn
  have HX := Lib.hid hx6
  clear hx6
  go_enter Tryd.func62, Tryd.ntmps62
  go_wp2_with fail
  go_loop [0, 5] (fun v s => ∃ (m : Nat) (acc : List UInt8) (S : ByteArray), v = .int .i64 m ∧ m < 16777216 ∧ s = .string S ∧ S.data.toList = acc ∧ ((acc = [] ∧ m = n) ∨ (acc ≠ [] ∧ m = 0 ∧ acc = hexL n) ∨ (acc ≠ [] ∧ 0 < m ∧ hexL m ++ acc = hexL n))) (fun v s => 2 * (intOf v).toNat + (match s with | .string S => if S.size = 0 then 1 else 0 | _ => 0))
  case atStart => exact ⟨n, [], ⟨#[]⟩, rfl, hn, rfl, rfl, .inl ⟨rfl, rfl⟩⟩
  case round =>
    obtain ⟨m, acc, S, rfl, hm, rfl, hS, hh⟩ := hrel
    have hSs : S.size = acc.length := by rw [← hS]; rfl
    have HS := Lib.hid hS
    rcases hh with ⟨rfl, rfl⟩ | ⟨hne, rfl, hacc⟩ | ⟨hne, hpos, hacc⟩
    case inr.inl =>
      have h1 : ¬ S.size < 1 := by
        have := List.length_pos_iff.2 hne
        omega
      have HA := Lib.hid hacc
      clear hacc hne hSs
      go_wp2_with fail
      go_ret
      exact ⟨by
        have e : S = ⟨(hexL n).toArray⟩ := by
          apply ByteArray.ext
          rw [← Array.toList_inj, HS.out, HA.out]
        rw [← e]; rfl, rfl⟩
    · have hS0 : S = ⟨#[]⟩ := by
        apply ByteArray.ext
        rw [← Array.toList_inj, hS]
      subst hS0
      have hk16 : m % 16 < 16 := by omega
      have hsl := dig_slice (m % 16) hk16
      have a1 : (m : Int) % 16 = ((m % 16 : Nat) : Int) := by omega
      have a2 : (m : Int) / 16 = ((m / 16 : Nat) : Int) := by omega
      have HST := Lib.hid (hex_step m)
      have HM := Lib.hid (show m / 16 ≤ m ∧ (0 < m → m / 16 < m) by omega)
      have hm16 : m / 16 < 16777216 := by omega
      generalize hk : m % 16 = k at hk16 hsl a1 HST
      generalize hq : m / 16 = q at a2 HST HM hm16
      clear hk hq
      clear hS HS hSs hn
      have fin : ∃ (m' : Nat) (acc : List UInt8) (S : ByteArray), (Value.int .i64 (q : Int)) = .int .i64 m' ∧ m' < 16777216 ∧ (Value.string (⟨#[dig k]⟩ : ByteArray)) = .string S ∧ S.data.toList = acc ∧ ((acc = [] ∧ m' = m) ∨ (acc ≠ [] ∧ m' = 0 ∧ acc = hexL m) ∨ (acc ≠ [] ∧ 0 < m' ∧ hexL m' ++ acc = hexL m)) := by
        refine ⟨q, [dig k], _, rfl, hm16, rfl, rfl, .inr ?_⟩
        rw [HST.out]
        by_cases h0 : q = 0
        · exact .inl ⟨by simp, h0, by rw [if_pos h0]; rfl⟩
        · exact .inr ⟨by simp, by omega, by rw [if_neg h0]⟩
      have FIN := Lib.hid fin
      clear fin HST
      by_cases h0 : 0 < m
      · go_wp2_with fail
        go_round
        case rel => exact FIN.out
        case measure => have e1 : ((⟨#[dig k]⟩ : ByteArray) ++ (⟨#[]⟩ : ByteArray)).size = 1 := rfl; have e0 : (⟨#[]⟩ : ByteArray).size = 0 := rfl; have e2 : (⟨#[dig k]⟩ : ByteArray).size = 1 := rfl; have := HM.out.2 h0; simp only [intOf, e1, e0, e2]; simp <;> omega
      · go_wp2_with fail
        go_round
        case rel => exact FIN.out
        case measure => have e1 : ((⟨#[dig k]⟩ : ByteArray) ++ (⟨#[]⟩ : ByteArray)).size = 1 := rfl; have e0 : (⟨#[]⟩ : ByteArray).size = 0 := rfl; have e2 : (⟨#[dig k]⟩ : ByteArray).size = 1 := rfl; have := HM.out.1; simp only [intOf, e1, e0, e2]; simp <;> omega
    · have hle : acc.length ≤ 6 := by
        have h1 := HX.out
        rw [← hacc, List.length_append] at h1
        omega
      have hk16 : m % 16 < 16 := by omega
      have hsl := dig_slice (m % 16) hk16
      have a1 : (m : Int) % 16 = ((m % 16 : Nat) : Int) := by omega
      have a2 : (m : Int) / 16 = ((m / 16 : Nat) : Int) := by omega
      have HST := Lib.hid (hex_step m)
      have HM := Lib.hid (show m / 16 ≤ m ∧ (0 < m → m / 16 < m) by omega)
      have hm16 : m / 16 < 16777216 := by omega
      generalize hk : m % 16 = k at hk16 hsl a1 HST
      generalize hq : m / 16 = q at a2 HST HM hm16
      clear hk hq
      have hap : (⟨#[dig k]⟩ : ByteArray) ++ S = ⟨(dig k :: acc).toArray⟩ := by
        have e : S = ⟨acc.toArray⟩ := by
          apply ByteArray.ext
          rw [← Array.toList_inj, hS]
        rw [e, cons_str]
      have fin : ∃ (m' : Nat) (acc : List UInt8) (S' : ByteArray), (Value.int .i64 (q : Int)) = .int .i64 m' ∧ m' < 16777216 ∧ (Value.string ((⟨#[dig k]⟩ : ByteArray) ++ S)) = .string S' ∧ S'.data.toList = acc ∧ ((acc = [] ∧ m' = n) ∨ (acc ≠ [] ∧ m' = 0 ∧ acc = hexL n) ∨ (acc ≠ [] ∧ 0 < m' ∧ hexL m' ++ acc = hexL n)) := by
        refine ⟨q, dig k :: acc, _, rfl, hm16, rfl, by rw [hap], .inr ?_⟩
        rw [← hacc, HST.out]
        by_cases h0 : q = 0
        · exact .inl ⟨by simp, h0, by rw [if_pos h0]; rfl⟩
        · exact .inr ⟨by simp, by omega, by rw [if_neg h0]; simp⟩
      have FIN := Lib.hid fin
      have hsz : ((⟨#[dig k]⟩ : ByteArray) ++ S).size ≠ 0 := by rw [hap, ← size_toList]; simp
      have hSn : S.size ≠ 0 := by
        have := List.length_pos_iff.2 hne
        omega
      have HZ := Lib.hid (And.intro hsz hSn)
      clear fin HST hacc hap hsz hSn hne hS
      go_wp2_with fail
      go_round
      case rel => exact FIN.out
      case measure => have := HM.out.2 hpos; have h2 := HZ.out.1; have h3 := HZ.out.2; simp only [intOf]; rw [if_neg h2, if_neg h3]; simp; omega

theorem str_of {S : ByteArray} {l : List UInt8} (h : S.data.toList = l) : S = ⟨l.toArray⟩ := by
  apply ByteArray.ext
  rw [← Array.toList_inj, h]
set_option maxRecDepth 100000 in
set_option maxHeartbeats 4000000 in
theorem digits_two (n : Nat) (w : World) (hn : n < 256) :
    Calls Tryd.prog 62 #[.int .i64 n, .int .i64 2] w fun e w' => e = .returned (.string ⟨#[dig (n / 16), dig (n % 16)]⟩) ∧ w = w' := by
  go_enter Tryd.func62, Tryd.ntmps62
  go_wp2_with fail
  go_loop [0, 5] (fun v s => ∃ (m : Nat) (S : ByteArray), v = .int .i64 m ∧ m < 256 ∧ s = .string S ∧ ((S = ⟨#[]⟩ ∧ m = n) ∨ (S = ⟨#[dig (n % 16)]⟩ ∧ m = n / 16) ∨ (S = ⟨#[dig (n / 16), dig (n % 16)]⟩ ∧ m = 0))) (fun _ s => 2 - (match s with | .string S => S.size | _ => 0))
  case atStart => exact ⟨n, ⟨#[]⟩, rfl, hn, rfl, .inl ⟨rfl, rfl⟩⟩
  case round =>
    obtain ⟨m, S, rfl, hm, rfl, hh⟩ := hrel
    rcases hh with ⟨rfl, rfl⟩ | ⟨rfl, rfl⟩ | ⟨rfl, rfl⟩
    · have hsl := dig_slice (m % 16) (by omega)
      have a1 : (m : Int) % 16 = ((m % 16 : Nat) : Int) := by omega
      have a2 : (m : Int) / 16 = ((m / 16 : Nat) : Int) := by omega
      have hq : m / 16 < 256 := by omega
      have hk16 : m % 16 < 16 := by omega
      have FIN := Lib.hid (show ∃ (m' : Nat) (S : ByteArray), (Value.int .i64 ((m / 16 : Nat) : Int)) = .int .i64 m' ∧ m' < 256 ∧ (Value.string (⟨#[dig (m % 16)]⟩ : ByteArray)) = .string S ∧ ((S = ⟨#[]⟩ ∧ m' = m) ∨ (S = ⟨#[dig (m % 16)]⟩ ∧ m' = m / 16) ∨ (S = ⟨#[dig (m / 16), dig (m % 16)]⟩ ∧ m' = 0)) from ⟨_, _, rfl, hq, rfl, .inr (.inl ⟨rfl, rfl⟩)⟩)
      generalize m % 16 = k at hk16 hsl a1 FIN
      by_cases h0 : 0 < m
      all_goals
        generalize m / 16 = q at hq a2 FIN
        go_wp2_with fail
        go_round
        case rel => exact FIN.out
        case measure => have e1 : ((⟨#[dig k]⟩ : ByteArray) ++ (⟨#[]⟩ : ByteArray)).size = 1 := rfl; have e0 : (⟨#[]⟩ : ByteArray).size = 0 := rfl; have e2 : (⟨#[dig k]⟩ : ByteArray).size = 1 := rfl; simp only [e1, e0, e2]; decide
    · have hq0 : n / 16 / 16 = 0 := by omega
      have hqq : n / 16 % 16 = n / 16 := by omega
      generalize n % 16 = k2 at *
      generalize n / 16 = m at *
      have hsl := dig_slice (m % 16) (by omega)
      rw [hqq] at hsl
      have a1 : (m : Int) % 16 = (m : Int) := by omega
      have a2 : (m : Int) / 16 = 0 := by omega
      have hm16 : m < 16 := by omega
      have FIN := Lib.hid (show ∃ (m' : Nat) (S : ByteArray), (Value.int .i64 0) = .int .i64 m' ∧ m' < 256 ∧ (Value.string (⟨#[dig m, dig k2]⟩ : ByteArray)) = .string S ∧ ((S = ⟨#[]⟩ ∧ m' = n) ∨ (S = ⟨#[dig k2]⟩ ∧ m' = m) ∨ (S = ⟨#[dig m, dig k2]⟩ ∧ m' = 0)) from ⟨0, _, rfl, by decide, rfl, .inr (.inr ⟨rfl, rfl⟩)⟩)
      clear hq0 hqq
      by_cases h0 : 0 < m
      all_goals
        go_wp2_with fail
        go_round
        case rel => exact FIN.out
        case measure => have e1 : ((⟨#[dig m]⟩ : ByteArray) ++ (⟨#[dig k2]⟩ : ByteArray)).size = 2 := rfl; have e0 : (⟨#[dig m, dig k2]⟩ : ByteArray).size = 2 := rfl; have e2 : (⟨#[dig k2]⟩ : ByteArray).size = 1 := rfl; simp only [e1, e0, e2]; decide
    · go_wp2_with fail
      go_ret
      exact ⟨rfl, rfl⟩

/-- What the reference writes of a rune. -/
theorem app_str (a b : List UInt8) : (⟨a.toArray⟩ : ByteArray) ++ ⟨b.toArray⟩ = ⟨(a ++ b).toArray⟩ := by
  apply ByteArray.ext
  rw [← Array.toList_inj, app_list]
set_option maxRecDepth 100000 in
set_option maxHeartbeats 4000000 in
theorem written_any (r : Nat) (w : World) (hr : r ≤ 1114111) :
    Calls Tryd.prog 63 #[.int .i64 r] w fun e w' => e = .returned (.string ⟨(qR r).toArray⟩) ∧ Below w.heap.size w w' := by
  by_cases h34 : r = 34
  · subst h34
    have HE := Lib.hid (show (⟨(qR ((34 : Nat) : Int)).toArray⟩ : ByteArray) = ⟨#[92, 34]⟩ by rw [show qR ((34 : Nat) : Int) = [92, 34] by decide +kernel])
    rw [HE.out]
    go_enter Tryd.func63, Tryd.ntmps63
    go_wp2
    go_ret
    exact ⟨rfl, Below.refl _ _⟩
  have b34 : ((r : Int) == 34) = false := by simp; omega
  by_cases h92 : r = 92
  · subst h92
    have HE := Lib.hid (show (⟨(qR ((92 : Nat) : Int)).toArray⟩ : ByteArray) = ⟨#[92, 92]⟩ by rw [show qR ((92 : Nat) : Int) = [92, 92] by decide +kernel])
    rw [HE.out]
    go_enter Tryd.func63, Tryd.ntmps63
    go_wp2
    go_ret
    exact ⟨rfl, Below.refl _ _⟩
  have b92 : ((r : Int) == 92) = false := by simp; omega
  by_cases h10 : r = 10
  · subst h10
    have HE := Lib.hid (show (⟨(qR ((10 : Nat) : Int)).toArray⟩ : ByteArray) = ⟨#[92, 110]⟩ by rw [show qR ((10 : Nat) : Int) = [92, 110] by decide +kernel])
    rw [HE.out]
    go_enter Tryd.func63, Tryd.ntmps63
    go_wp2
    go_ret
    exact ⟨rfl, Below.refl _ _⟩
  have b10 : ((r : Int) == 10) = false := by simp; omega
  by_cases h9 : r = 9
  · subst h9
    have HE := Lib.hid (show (⟨(qR ((9 : Nat) : Int)).toArray⟩ : ByteArray) = ⟨#[92, 116]⟩ by rw [show qR ((9 : Nat) : Int) = [92, 116] by decide +kernel])
    rw [HE.out]
    go_enter Tryd.func63, Tryd.ntmps63
    go_wp2
    go_ret
    exact ⟨rfl, Below.refl _ _⟩
  have b9 : ((r : Int) == 9) = false := by simp; omega
  by_cases h32 : 32 ≤ r
  · by_cases h127 : r < 127
    · have hq : qR (r : Int) = [UInt8.ofNat r] := by
        unfold qR
        rw [if_neg (by omega), if_neg (by omega), if_neg (by omega), if_neg (by omega), if_pos (by omega)]
        have := bytesR_enc (r : Int) ((valid_iff _).2 (by omega))
        rw [← this, Int.toNat_natCast]
        unfold bytesR
        rw [if_pos (by omega)]
      have HE := Lib.hid (show (⟨(qR (r : Int)).toArray⟩ : ByteArray) = ⟨#[UInt8.ofNat r]⟩ by rw [hq])
      rw [HE.out]
      have hcv := conv_one w (UInt8.ofNat r)
      have e8 : (UInt8.ofNat r).toNat = r := by simp; omega
      rw [e8] at hcv
      clear hq e8 h34 h92 h10 h9
      go_enter Tryd.func63, Tryd.ntmps63
      go_wp2
      go_ret
      exact ⟨rfl, (Below.refl _ _).alloc (Nat.le_refl _) _⟩
    · have hq : qR (r : Int) = [92, 117, 123] ++ hexL r ++ [125] := by
        unfold qR
        rw [if_neg (by omega), if_neg (by omega), if_neg (by omega), if_neg (by omega), if_neg (by omega), Int.toNat_natCast]
      have HD := Lib.hid (fun w => digits_one r w (by omega))
      obtain ⟨X, hX⟩ : ∃ X : ByteArray, X = ⟨(hexL r).toArray⟩ := ⟨_, rfl⟩
      have HE := Lib.hid (show (⟨(qR (r : Int)).toArray⟩ : ByteArray) = ⟨#[92, 117, 123]⟩ ++ X ++ ⟨#[125]⟩ by rw [hq, hX, ← app_str, ← app_str])
      have hx6 : X.size ≤ 6 := by rw [hX]; exact hexL_le r (by omega)
      rw [← hX] at HD
      rw [HE.out]
      clear hq h34 h92 h10 h9 hX
      go_enter Tryd.func63, Tryd.ntmps63
      go_wp2_with fail
      refine (HD.out _).mono ?_
      rintro e w1 ⟨rfl, rfl⟩
      go_wp2_with fail
      go_ret
      exact ⟨rfl, Below.refl _ _⟩
  · have hq : qR (r : Int) = [92, 117, 123] ++ hexL r ++ [125] := by
      unfold qR
      rw [if_neg (by omega), if_neg (by omega), if_neg (by omega), if_neg (by omega), if_neg (by omega), Int.toNat_natCast]
    have HD := Lib.hid (fun w => digits_one r w (by omega))
    obtain ⟨X, hX⟩ : ∃ X : ByteArray, X = ⟨(hexL r).toArray⟩ := ⟨_, rfl⟩
    have HE := Lib.hid (show (⟨(qR (r : Int)).toArray⟩ : ByteArray) = ⟨#[92, 117, 123]⟩ ++ X ++ ⟨#[125]⟩ by rw [hq, hX, ← app_str, ← app_str])
    have hx6 : X.size ≤ 6 := by rw [hX]; exact hexL_le r (by omega)
    rw [← hX] at HD
    rw [HE.out]
    clear hq h34 h92 h10 h9 hX
    go_enter Tryd.func63, Tryd.ntmps63
    go_wp2_with fail
    refine (HD.out _).mono ?_
    rintro e w1 ⟨rfl, rfl⟩
    go_wp2_with fail
    go_ret
    exact ⟨rfl, Below.refl _ _⟩
end Go.Proofs.YtfgekdefnbohbaaDoor.U
