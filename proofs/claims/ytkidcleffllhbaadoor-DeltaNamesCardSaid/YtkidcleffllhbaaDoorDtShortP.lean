/- What the splices of two texts are, in plain Lean. -/
import Derived.Test.YtkidcleffllhbaaDoorDtSplices
import Derived.Test.YtkidcleffllhbaaDoorUDiff
namespace Go.Proofs.YtkidcleffllhbaaDoor.Dt
open Go.RowKit Go.Proofs Go.Proofs.YtkidcleffllhbaaDoor.U Go.Proofs.YtkidcleffllhbaaDoor.Txt
set_option linter.unusedVariables false
set_option linter.unusedSimpArgs false

theorem chgSpl_len {a b : List Int} {c : Chg} (h : c ∈ chL a b) : (chgSpl b c).ins.length = c.ins := by
  obtain ⟨⟨o', h1⟩, _⟩ := chL_cut a b
  have := h1.apart.pos c h
  simp only [chgSpl, List.length_drop, List.length_take]
  omega
theorem splCost_map {a b : List Int} : ∀ l : List Chg, (∀ c ∈ l, c ∈ chL a b) → splCost (l.map (chgSpl b)) = cost l
  | [], _ => rfl
  | c :: l, h => by
    have h1 := chgSpl_len (h c (List.mem_cons_self ..))
    have h2 := splCost_map l (fun d hd => h d (List.mem_cons_of_mem _ hd))
    simp only [List.map_cons, splCost, cost, h1, h2]
    rfl
theorem splL_cost (a b : List Int) : splCost (splL a b) = dist a b := by
  unfold splL
  rw [splCost_rev, splCost_map (a := a) _ (fun c h => h)]
  exact (chL_cut a b).2
theorem splL_len (a b : List Int) : (splL a b).length = (chL a b).length := by simp [splL]
theorem splL_small {a b : List Int} (ha : a.length ≤ 2048) (hb : b.length ≤ 2048) (hok : ∀ r ∈ b, TxtRune r) : Small (splL a b) := by
  obtain ⟨⟨o', h⟩, _⟩ := chL_cut a b
  refine ⟨by rw [splL_len]; have := h.length_le; omega, by rw [splL_cost]; unfold dist; omega, fun s hs => ?_⟩
  simp only [splL, List.mem_reverse, List.mem_map] at hs
  obtain ⟨c, hc, rfl⟩ := hs
  have h1 := h.apart.pos c hc
  have h2 := chgSpl_len hc
  refine ⟨?_, ?_, ?_, fun r hr => hok r (List.mem_of_mem_take (List.mem_of_mem_drop hr))⟩
  · show c.at_ ≤ _; omega
  · show c.del ≤ _; omega
  · rw [h2]; omega
/-- Each splice takes out or puts in something; each is apart from the next. -/
theorem splL_apart (a b : List Int) (i : Nat) (hi : i < (splL a b).length) : 0 < (splL a b)[i].del + (splL a b)[i].ins.length ∧ (0 < i → ∀ h : i - 1 < (splL a b).length, (splL a b)[i].at_ + (splL a b)[i].del < (splL a b)[i - 1].at_) := by
  obtain ⟨⟨o', h⟩, _⟩ := chL_cut a b
  have hn := splL_len a b
  have hget : ∀ j k (hj : j < (splL a b).length) (hk : k < (chL a b).length), (chL a b).length - 1 - j = k → (splL a b)[j] = chgSpl b ((chL a b)[k]'hk) := fun j k hj hk e => by
    subst e
    simp only [splL, List.getElem_reverse, List.getElem_map, List.length_map]
  obtain ⟨k, hk⟩ : ∃ k, (chL a b).length - 1 - i = k := ⟨_, rfl⟩
  have hkl : k < (chL a b).length := by omega
  rw [hget i k hi hkl hk]
  have hm := List.getElem_mem (l := chL a b) (n := k) hkl
  refine ⟨?_, fun h0 h1 => ?_⟩
  · rw [chgSpl_len hm]
    exact (h.apart.pos _ hm).1
  · have hk1 : k + 1 < (chL a b).length := by omega
    rw [hget (i - 1) (k + 1) h1 hk1 (by omega)]
    have hs : chL a b = (chL a b).take k ++ (chL a b)[k] :: (chL a b)[k + 1] :: (chL a b).drop (k + 2) := by
      conv => lhs; rw [← List.take_append_drop k (chL a b), List.drop_eq_getElem_cons hkl, List.drop_eq_getElem_cons hk1]
    exact (h.apart.pair _ _ _ _ hs).1
theorem getD_ext {a b : List Int} (hl : a.length = b.length) (h : ∀ i, i < a.length → a.getD i 0 = b.getD i 0) : a = b := by
  apply List.ext_getElem? 
  intro i
  by_cases hi : i < a.length
  · have := h i hi
    rw [List.getD_eq_getElem?_getD, List.getD_eq_getElem?_getD, List.getElem?_eq_getElem hi, List.getElem?_eq_getElem (by omega)] at this
    rw [List.getElem?_eq_getElem hi, List.getElem?_eq_getElem (by omega)]
    simpa using this
  · rw [List.getElem?_eq_none (by omega), List.getElem?_eq_none (by omega)]
theorem cut_three (l : List Int) (h t : Nat) (hl : h + t ≤ l.length) : l.take h ++ (l.take (l.length - t)).drop h ++ l.drop (l.length - t) = l := by
  have h1 : l.take h = (l.take (l.length - t)).take h := by rw [List.take_take, Nat.min_eq_left (by omega)]
  rw [h1, List.take_append_drop, List.take_append_drop]
theorem meets_dist {a b : List Int} {h t : Nat} (hm : Meets a b h t) : dist a b ≤ (a.length - h - t) + (midB b h t).length := by
  have e1 := cut_three a h t hm.la
  have e2 := cut_three b h t hm.lb
  have hp : b.take h = a.take h := by
    apply getD_ext
    · have := hm.la; have := hm.lb; simp only [List.length_take]; omega
    · intro i hi
      have hi' : i < h := by simp only [List.length_take] at hi; omega
      have := hm.pre i hi'
      simp only [List.getD_eq_getElem?_getD, List.getElem?_take, hi', if_true] at this ⊢
      exact this.symm
  have hq : b.drop (b.length - t) = a.drop (a.length - t) := by
    apply getD_ext
    · have := hm.la; have := hm.lb; simp only [List.length_drop]; omega
    · intro i hi
      have h1 := hm.la
      have h2 := hm.lb
      have hi' : i < t := by simp only [List.length_drop] at hi; omega
      have := hm.suf (t - 1 - i) (by omega)
      rw [show a.length - 1 - (t - 1 - i) = a.length - t + i by omega, show b.length - 1 - (t - 1 - i) = b.length - t + i by omega] at this
      simp only [List.getD_eq_getElem?_getD, List.getElem?_drop] at this ⊢
      exact this.symm
  have h3 := dist_mid (a.take h) ((a.take (a.length - t)).drop h) ((b.take (b.length - t)).drop h) (a.drop (a.length - t))
  rw [e1] at h3
  rw [hp, hq] at e2
  rw [e2] at h3
  have h4 : ((a.take (a.length - t)).drop h).length ≤ a.length - h - t := by simp only [List.length_drop, List.length_take]; omega
  unfold midB
  omega
theorem enc_inj : ∀ {a b : List Int}, (∀ r ∈ a, TxtRune r) → (∀ r ∈ b, TxtRune r) → enc a = enc b → a = b
  | [], [], _, _, _ => rfl
  | [], s :: b, _, _, h => absurd h.symm (by rw [enc_cons, enc_nil]; exact encB_ne _ _)
  | r :: a, [], _, _, h => absurd h (by rw [enc_cons, enc_nil]; exact encB_ne _ _)
  | r :: a, s :: b, ha, hb, h => by
    rw [enc_cons, enc_cons] at h
    have v1 := (ha r (List.mem_cons_self ..)).1
    have v2 := (hb s (List.mem_cons_self ..)).1
    have d1 := dec_enc r v1 (enc a)
    have d2 := dec_enc s v2 (enc b)
    rw [h, d2] at d1
    have e1 : s.toNat = r.toNat := congrArg Prod.fst d1
    have p1 := (valid_iff r).1 v1
    have p2 := (valid_iff s).1 v2
    obtain rfl : r = s := by omega
    have h2 := List.append_cancel_left h
    rw [enc_inj (fun x hx => ha x (List.mem_cons_of_mem _ hx)) (fun x hx => hb x (List.mem_cons_of_mem _ hx)) h2]
theorem str_inj {a b : List Int} (ha : ∀ r ∈ a, TxtRune r) (hb : ∀ r ∈ b, TxtRune r) (h : (Str a).toList = (Str b).toList) : a = b := by
  rw [toList_eq, toList_eq, str_list, str_list] at h
  exact enc_inj ha hb h
end Go.Proofs.YtkidcleffllhbaaDoor.Dt
