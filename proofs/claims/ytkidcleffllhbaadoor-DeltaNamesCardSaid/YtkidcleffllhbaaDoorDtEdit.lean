/- redraftlaw27.edited. -/
import Derived.Test.YtkidcleffllhbaaDoorDtApp
namespace Go.Proofs.YtkidcleffllhbaaDoor.Dt
open Go.RowKit Go.Proofs Go.Proofs.YtkidcleffllhbaaDoor.U Go.Proofs.YtkidcleffllhbaaDoor.Txt
set_option linter.unusedVariables false
set_option linter.unusedSimpArgs false

/-- A list of edits that is read. -/
def EditsIn (w : World) (A : Option Addr) (n : Nat) : Prop := n ≤ 17592186044416 ∧ (0 < n → ∃ b off, A = some ⟨b, off, none⟩ ∧ ∀ j, j < n → ∃ at_ del A' n' c' xs, w.cell? ⟨b, off + j * 3, none⟩ = some (.int .i64 at_) ∧ w.cell? ⟨b, off + j * 3 + 1, none⟩ = some (.int .i64 del) ∧ w.cell? ⟨b, off + j * 3 + 2, none⟩ = some (.slice A' n' c') ∧ Reads32 w A' n' xs)
theorem EditsIn.below {w w' : World} {A : Option Addr} {n : Nat} (h : EditsIn w A n) (hb : Below w.heap.size w w') : EditsIn w' A n :=
  ⟨h.1, fun h0 => by
    obtain ⟨b, off, e, hc⟩ := h.2 h0
    refine ⟨b, off, e, fun j hj => ?_⟩
    obtain ⟨at_, del, A', n', c', xs, h1, h2, h3, h4⟩ := hc j hj
    exact ⟨at_, del, A', n', c', xs, cell_below hb h1, cell_below hb h2, cell_below hb h3, h4.below hb⟩⟩
theorem txt_app {a b : List Int} (ha : ∀ r ∈ a, TxtRune r) (hb : ∀ r ∈ b, TxtRune r) : ∀ r ∈ a ++ b, TxtRune r := fun r hr => (List.mem_append.1 hr).elim (ha r) (hb r)
/-- One edit. -/
theorem edit_dist (rs ins : List Int) (p d : Nat) (h : p + d ≤ rs.length) : dist rs (rs.take p ++ ins ++ rs.drop (p + d)) ≤ d + ins.length := by
  have h1 := dist_mid (rs.take p) ((rs.drop p).take d) ins (rs.drop (p + d))
  have h2 : rs.take p ++ (rs.drop p).take d ++ rs.drop (p + d) = rs := by
    rw [List.append_assoc, ← List.drop_drop, List.take_append_drop, List.take_append_drop]
  rw [h2] at h1
  have h3 : ((rs.drop p).take d).length ≤ d := by rw [List.length_take]; omega
  omega
theorem grown_base {w wr w9 : World} {e size n : Nat} {v : Value} {xs : List Value} (hb : Below w.heap.size w wr) (ho : wr.ownsRow w.heap.size e size v n xs) (hg : wr.grownBy w9 v.ownBlock) : Below w.heap.size w w9 :=
  hb.grown hg hb.size (fun k hk => (own_lt ho k hk).1)
theorem own_keep {w wr w9 : World} {B e size n : Nat} {v : Value} {xs : List Value} {v' : Value} {B' e' size' n' : Nat} {xs' : List Value} (ho : wr.ownsRow B e size v n xs) (ho' : wr.ownsRow B' e' size' v' n' xs') (hne : ∀ k, v.ownBlock = some k → k < B') (hg : wr.grownBy w9 v.ownBlock) : w9.ownsRow B' e' size' v' n' xs' := by
  refine ⟨ho'.1, ?_⟩
  rcases ho'.2 with hn | ⟨g, cap, cur, hv, hbg, hgr, rest⟩
  · exact .inl hn
  · refine .inr ⟨g, cap, cur, hv, hbg, ?_, rest⟩
    rw [hg.block _ (Array.getElem?_eq_some_iff.1 hgr).1 (fun e => by have := hne _ e.symm; omega)]
    exact hgr
set_option maxRecDepth 100000 in
set_option maxHeartbeats 4000000 in
theorem edited_any (v : Value) (rs : List Int) (A : Option Addr) (n c : Nat) (w : World) (ht : TIn w v rs) (hok : ∀ r ∈ rs, TxtRune r) (hrl : rs.length ≤ 300) (he : EditsIn w A n) :
    Calls Tryd.prog 27 #[v, .slice A n c] w fun e w' => ∃ (v' : Value) (rs' : List Int) (m : Nat), e = .returned (.tuple #[v', .int .i64 m]) ∧ TIn w' v' rs' ∧ (∀ r ∈ rs', TxtRune r) ∧ rs'.length ≤ 380 ∧ dist rs rs' ≤ m ∧ m ≤ 104 ∧ Below w.heap.size w w' := by
  have HT0 := Lib.hid ht
  have HOK0 := Lib.hid hok
  have HE := Lib.hid he
  have hnn := he.1
  clear ht hok he
  go_enter Tryd.func27, Tryd.ntmps27
  go_wp2_with fail
  go_loopw [0, 6, 7] (fun t m i wr => ∃ (k q : Nat) (rs' : List Int), m = .int .i64 q ∧ i = .int .i64 k ∧ k ≤ n ∧ k ≤ 4 ∧ q ≤ 26 * k ∧ TIn wr t rs' ∧ (∀ r ∈ rs', TxtRune r) ∧ rs'.length ≤ 300 + 20 * k ∧ dist rs rs' ≤ q ∧ Below w.heap.size w wr) (fun _ _ i _ => n - (intOf i).toNat)
  case atStart => exact ⟨0, 0, rs, rfl, rfl, Nat.zero_le _, Nat.zero_le _, Nat.zero_le _, HT0.out, HOK0.out, by omega, by rw [dist_zero.2 rfl]; omega, Below.refl _ _⟩
  case round =>
    obtain ⟨k, q, rs', rfl, rfl, hk, hk4, hq, hT, hok, hrl', hd, hb⟩ := hrel
    have HOK := Lib.hid hok
    have HB := Lib.hid hb
    have HD := Lib.hid hd
    obtain ⟨A0, c0, rfl, hcap, hnil, hcl⟩ := hT
    have HC := Lib.hid hcl
    have HNIL := Lib.hid hnil
    clear hok hb hd hcl hnil
    obtain ⟨L, hL⟩ : ∃ L, rs'.length = L := ⟨_, rfl⟩
    have HL := Lib.hid hL
    rw [hL] at hcap HNIL hrl' ⊢
    clear hL
    by_cases hgo : k < n ∧ k < 4
    · obtain ⟨g1, g2⟩ := hgo
      have g2' : decide ((k : Int) < 4) = true := by simp; omega
      obtain ⟨eb, eo, hA, hes⟩ := (HE.out.below HB.out).2 (by omega)
      subst hA
      obtain ⟨at_, del, A', n', c', xs, x0, x1, x2, x3⟩ := hes k g1
      have HX3 := Lib.hid x3
      clear x3 hes
      go_wp2_with fail
      refine (pick_any at_ ((L : Int) + 1) _ (by omega)).mono ?_
      rintro e w1 ⟨⟨r, rfl, r0, r1⟩, rfl⟩
      obtain ⟨p, rfl⟩ : ∃ p : Nat, r = p := ⟨r.toNat, by omega⟩
      go_wp2_with fail
      all_goals
        refine (pick_any del _ _ (by omega)).mono ?_
        rintro e w1 ⟨⟨r2, rfl, r3, r4⟩, rfl⟩
        obtain ⟨d, rfl⟩ : ∃ d : Nat, r2 = d := ⟨r2.toNat, by omega⟩
        have hpd : p + d ≤ L ∧ d ≤ 6 := by omega
        have CL := letters_any A' n' c' xs 20 _ (by omega) HX3.out
        rw [show ((20 : Nat) : Int) = 20 from rfl] at CL
        have HCL := Lib.hid CL
        clear CL
        go_wp2_with fail
        refine HCL.out.mono ?_
        rintro e w2 ⟨vi, l, rfl, hown, hll, hlok, hb2⟩
        have HTI := Lib.hid (own_tin hown)
        have HLOK := Lib.hid hlok
        have HB2 := Lib.hid (HB.out.trans (hb2.mono HB.out.size))
        have HC2 := Lib.hid (HC.out.below hb2)
        obtain ⟨A2, c2, rfl, hcap2, hnil2, hcl2⟩ := HTI.out
        have HNIL2 := Lib.hid hnil2
        have HCI := Lib.hid hcl2
        obtain ⟨l2, hl2⟩ : ∃ l2, l.length = l2 := ⟨_, rfl⟩
        have HL2 := Lib.hid hl2
        rw [hl2] at hll HNIL2 ⊢
        obtain ⟨m, hm⟩ : ∃ m, p + d = m := ⟨_, rfl⟩
        have hw : IntKind.i64.wrap ((p : Int) + (d : Int)) = (m : Int) := by rw [IntWalk.i64_in _ (by omega)]; omega
        obtain ⟨A1, hs1, hn1, hc1⟩ := slice_head A0 L c0 p (by omega) hcap HNIL.out
        obtain ⟨A3, hs3, hn3, hc3⟩ := slice_tail A0 L c0 m (by omega) hcap HNIL.out
        have HN1 := Lib.hid hn1
        have HN3 := Lib.hid hn3
        have HC1 := Lib.hid (hc1 w2 rs' HL.out HC2.out)
        have HC3 := Lib.hid (hc3 w2 rs' HL.out HC2.out)
        have HM := Lib.hid hm
        have HLT := Lib.hid (show (rs'.take p).length = p by rw [List.length_take, HL.out]; omega)
        have HLD := Lib.hid (show (rs'.drop m).length = L - m by rw [List.length_drop, HL.out])
        clear hown hlok hb2 hcap2 hnil2 hcl2 hl2 hm hn1 hn3 hc1 hc3 HTI HC HCL x0 x1 x2
        go_wp2_with (first
          | (at_builtin; refine wpList_app32 rfl (.tmp 49) (.tmp 52) rfl w2.heap.size (.slice none 0 0) [] (rs'.take p) rfl ⟨rfl, .inl ⟨rfl, rfl⟩⟩ A1 p c0 rfl HLT.out HN1.out HC1.out (by simp; omega) (Nat.le_refl _) ?_; intro v3 w3 ho3 hg3; have HO3 := Lib.hid ho3; have HB3 := Lib.hid (show Below w2.heap.size w2 w3 from grown_base (Below.refl _ _) (v := .slice none 0 0) (xs := []) (e := 21) (size := 1) (n := 0) ⟨rfl, .inl ⟨rfl, rfl⟩⟩ hg3); clear ho3 hg3)
          | (at_builtin; refine wpList_app32 rfl (.tmp 54) (.tmp 55) rfl w2.heap.size v3 _ l rfl HO3.out A2 l2 c2 rfl HL2.out HNIL2.out (HCI.out.below HB3.out) (by rw [List.nil_append, HLT.out]; omega) HB3.out.size ?_; intro v4 w4 ho4 hg4; have HO4 := Lib.hid ho4; have HB4 := Lib.hid (grown_base HB3.out HO3.out hg4); clear ho4 hg4)
          | (at_builtin; refine wpList_app32 rfl (.tmp 57) (.tmp 62) rfl w2.heap.size v4 _ (rs'.drop m) rfl HO4.out A3 (L - m) (c0 - m) rfl HLD.out HN3.out (HC3.out.below HB4.out) (by rw [List.nil_append, List.length_append, HLT.out, HL2.out]; omega) HB4.out.size ?_; intro v5 w5 ho5 hg5; have HO5 := Lib.hid ho5; have HB5 := Lib.hid (grown_base HB4.out HO4.out hg5); clear ho5 hg5))
        go_roundw
        case rel =>
          refine ⟨k + 1, q + d + l2, rs'.take p ++ l ++ rs'.drop m, by go_num, by go_num, by omega, by omega, by omega, own_tin HO5.out, txt_app (txt_app (fun r hr => HOK.out r (List.mem_of_mem_take hr)) HLOK.out) (fun r hr => HOK.out r (List.mem_of_mem_drop hr)), ?_, ?_, HB2.out.trans (HB5.out.mono HB2.out.size)⟩
          · rw [List.length_append, List.length_append, HLT.out, HLD.out, HL2.out]; have := HM.out; omega
          · have h1 := dist_tri rs rs' (rs'.take p ++ l ++ rs'.drop m)
            have h2 := edit_dist rs' l p d (by rw [HL.out]; omega)
            rw [HM.out, HL2.out] at h2
            have h3 := HD.out
            omega
        case measure => simp [intOf]; omega
    · have hend : (decide (k < n) = false) ∨ (k < n ∧ decide ((k : Int) < 4) = false) := by
        by_cases g1 : k < n
        · exact .inr ⟨g1, by simp; omega⟩
        · exact .inl (by simp; omega)
      have HTE := Lib.hid (show TIn wr (.slice A0 L c0) rs' from ⟨A0, c0, by rw [HL.out], by rw [HL.out]; exact hcap, by rw [HL.out]; exact HNIL.out, HC.out⟩)
      rcases hend with g1 | ⟨g1, g2⟩
      all_goals
        go_wp2_with fail
        refine bodyPost_ret (results_tmp2 rfl _ _ _) rfl ?_
        exact ⟨_, rs', q, rfl, HTE.out, HOK.out, by rw [HL.out]; omega, HD.out, by omega, HB.out⟩
end Go.Proofs.YtkidcleffllhbaaDoor.Dt
