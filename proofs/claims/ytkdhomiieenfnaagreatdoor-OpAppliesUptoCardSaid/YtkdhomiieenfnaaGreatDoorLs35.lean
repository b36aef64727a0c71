/- Own rows behind a walk that keeps all but numbers. The visible text: Slice, Text. All cells as the fewest runs: Runs. -/
import Derived.Test.YtkdhomiieenfnaaGreatDoorRpBt
import Derived.Test.YtkdhomiieenfnaaGreatDoorLs27
import Derived.Test.YtkdhomiieenfnaaGreatDoorLs34
namespace Go.Proofs.YtkdhomiieenfnaaGreatDoor.Rp
open Go.RowKit Go.Proofs Go.Proofs.YtkdhomiieenfnaaGreatDoor.U Go.Proofs.YtkdhomiieenfnaaGreatDoor.Txt
set_option linter.unusedVariables false
set_option linter.unusedSimpArgs false

theorem own_keepN {w w' : World} {B e size n : Nat} {v : Value} {xs : List Value} (he : e ≠ 3) (hk : KeepN w w') (h : w.ownsRow B e size v n xs) : w'.ownsRow B e size v n xs := by
  refine ⟨h.1, h.2.imp id ?_⟩
  rintro ⟨g, cap, cur, hv, hbg, hg, rest⟩
  exact ⟨g, cap, cur, hv, hbg, hk.2 _ _ hg (fun cs fz e2 => he (Obj.cells.inj e2).2.1), rest⟩
end Go.Proofs.YtkdhomiieenfnaaGreatDoor.Rp

namespace Go.Proofs.YtkdhomiieenfnaaGreatDoor.Rp
open Go.RowKit Go.Proofs Go.Shelf Go.Proofs.YtkdhomiieenfnaaGreatDoor.U Go.Proofs.YtkdhomiieenfnaaGreatDoor.Txt Go.Proofs.YtkdhomiieenfnaaGreatDoor.Sh
set_option linter.unusedVariables false
set_option linter.unusedSimpArgs false

theorem bld_block {B b : Nat} {bs : List Value} {w : World} (h : Bld B b bs w) : ∃ cs fz, w.heap[b]? = some (.cells cs 111 fz) := by
  rcases h with h | h
  · obtain ⟨_, v, hb, _⟩ := h; exact ⟨_, _, hb⟩
  · obtain ⟨_, v, hb, _⟩ := h; exact ⟨_, _, hb⟩
theorem bld_keepN {B b : Nat} {bs : List Value} {w w' : World} (h : Bld B b bs w) (hk : KeepN w w') : Bld B b bs w' := by
  have H : ∀ p, Lib.BuilderAt 111 5 B b p bs w → Lib.BuilderAt 111 5 B b p bs w' := by
    rintro p ⟨hB, v, hb, hown, hne⟩
    exact ⟨hB, v, hk.2 _ _ hb (fun cs fz e => absurd (Obj.cells.inj e).2.1 (by decide)), own_keepN (by decide) hk hown, hne⟩
  exact h.elim (fun x => .inl (H _ x)) (fun x => .inr (H _ x))
theorem keepU_bld {B b : Nat} {bs : List Value} {w w' : World} (h : Bld B b bs w) (hs : w.heap.size ≤ w'.heap.size) (hk : Lib.OthersKept 5 (some b) w w') : KeepU w w' := ⟨hs, fun k cs T fz hk1 hT => by
  obtain ⟨cs0, fz0, hb⟩ := bld_block h
  rw [hk1]
  refine hk k _ hk1 (fun e => ?_) (fun c fz' e => ?_)
  · obtain rfl := Option.some.inj e
    rw [hk1] at hb
    have := (Obj.cells.inj (Option.some.inj hb)).2.1
    revert hT; unfold RopeT; rw [this]; decide
  · have := (Obj.cells.inj e).2.1
    revert hT; unfold RopeT; rw [this]; decide⟩
theorem str_of (V : List Int) : (⟨(enc V).toArray⟩ : ByteArray) = Str V := by
  have h := str_list V
  generalize Str V = S at h
  obtain ⟨d⟩ := S
  simp only at h
  rw [← h]
/-- What Slice keeps. -/
structure JT (W0 : World) (p : Nat) (s : List Int) (w : World) : Prop where
  bld : TBld W0.heap.size W0.heap.size s w
  len : s.length ≤ p
  below : Below W0.heap.size W0 w
set_option maxRecDepth 100000 in
set_option maxHeartbeats 8000000 in
theorem text_step (W0 : World) (s : List Int) (a : Nat) (l : List Int) (A : Option Addr) (c : Nat) (w : World) (hj : JT W0 a s w) (hr : Rn w A l) (hpr : ∀ r ∈ l, TxtRune r) (ha : a + l.length ≤ 2097152) :
    Calls Tryz.prog 104 (#[.int .i64 (a : Nat), .slice A l.length c] ++ #[.pointer (some ⟨W0.heap.size, 0, none⟩)]) w fun e w' => e = .returned (.tuple #[]) ∧ JT W0 (a + l.length) (innerT s a l) w' ∧ KeepU w w' := by
  have HJ := Lib.hid hj
  have HR := Lib.hid hr
  have HPR := Lib.hid hpr
  obtain ⟨bo, hbo⟩ : ∃ bo, W0.heap.size = bo := ⟨_, rfl⟩
  have HBO := Lib.hid hbo
  have hbl := hj.bld
  rw [hbo] at hbl ⊢
  have HBL := Lib.hid hbl
  have hlen := hj.len
  unfold innerT
  obtain ⟨n, hn⟩ : ∃ n, l.length = n := ⟨_, rfl⟩
  rw [hn] at ha ⊢
  have HN := Lib.hid hn
  have hsb : s.length + n ≤ 2097152 := by omega
  have HSB := Lib.hid hsb
  have hbs : bo ≤ w.heap.size := by rw [← hbo]; exact hj.below.size
  have HBS := Lib.hid hbs
  clear hj hr hpr hbo hbl hlen hn hsb hbs
  go_enter Tryz.func104, Tryz.ntmps104
  go_wp2_with fail
  go_loopw [9] (fun i wr => ∃ k : Nat, k ≤ n ∧ i = .int .i64 k ∧ TBld bo bo (s ++ l.take k) wr ∧ Below bo w wr ∧ KeepU w wr) (fun i _ => n - (intOf i).toNat)
  case atStart => exact ⟨0, Nat.zero_le _, rfl, by rw [List.take_zero, List.append_nil]; exact HBL.out, Below.refl _ _, KeepU.of_below (Below.refl _ _)⟩
  case round =>
    obtain ⟨k, hk, rfl, hbk, hbb, hku⟩ := hrel
    have HBK := Lib.hid hbk
    have HBB := Lib.hid hbb
    have HKU := Lib.hid hku
    clear hbk hbb hku
    by_cases hlt : k < n
    · have hkl : k < l.length := by have := HN.out; omega
      obtain ⟨ad, rfl, hcs⟩ := (HR.out.keepT HKU.out.t).cells (by omega)
      have hc := hcs k hkl
      have hrt := HPR.out _ (List.getElem_mem hkl)
      have hsn : l.take (k + 1) = l.take k ++ [l.getD k 0] := by rw [List.take_add_one]; simp [List.getD, List.getElem?_eq_getElem hkl]
      have hgd : l.getD k 0 = l[k] := by simp [List.getD, List.getElem?_eq_getElem hkl]
      rw [hgd] at hsn hc
      obtain ⟨r, hrr⟩ : ∃ r, l[k] = r := ⟨_, rfl⟩
      rw [hrr] at hc hrt hsn
      have HSN := Lib.hid hsn
      have HC := Lib.hid (TRune bo bo (s ++ l.take k) r wr hrt.1 HBK.out (by rw [List.length_append, List.length_take]; have := HSB.out; omega) (by have := HBS.out; have := HKU.out.1; omega))
      clear hcs hrt hsn hgd hrr hkl
      go_wp2_with fail
      refine HC.out.mono ?_
      rintro e w2 ⟨⟨nn, rfl⟩, hb2, hbb2, hok2⟩
      have HB2 := Lib.hid hb2
      have HBB2 := Lib.hid (HBB.out.trans hbb2)
      have HK2 := Lib.hid (HKU.out.trans (keepU_bld HBK.out (hbb2.size) hok2))
      clear hb2 hbb2 hok2 hc
      go_wp2_with fail
      go_roundw
      case rel => exact ⟨k + 1, hlt, by go_num, by rw [HSN.out, ← List.append_assoc]; exact HB2.out, HBB2.out, HK2.out⟩
      case measure => simp [intOf]; omega
    · obtain rfl : k = n := by omega
      go_wp2_with fail
      go_end0
      have hbo := HBO.out
      have h8 := HBK.out
      have h9 := HBB.out
      rw [List.take_of_length_le (by have := HN.out; omega)] at h8
      subst hbo
      exact ⟨rfl, ⟨h8, by rw [List.length_append, HN.out]; have := HJ.out.len; omega, HJ.out.below.trans h9⟩, HKU.out⟩
set_option maxRecDepth 100000 in
set_option maxHeartbeats 8000000 in
/-- Slice's contract. -/
theorem Slice_any (b : Nat) (cs : List Cl) (lo hi : Nat) (w : World) (hR : Rope w b cs) (hlh : lo ≤ hi) (hh : hi ≤ shown cs) (hpr : ∀ c ∈ cs, TxtRune c.1) :
    Calls Tryz.prog 67 #[.pointer (some ⟨b, 0, none⟩), .int .i64 lo, .int .i64 hi] w fun e w' => e = .returned (.tuple #[.string (Str (((vis cs).drop lo).take (hi - lo))), .int .i64 0]) ∧ Below w.heap.size w w' := by
  have HR := Lib.hid hR
  have HC1 := Lib.hid (fun (W : World) (hW : Below w.heap.size w W) => Shown_any b cs W (hR.below hW))
  have hmf : ∀ (fn : Fn) (first cap : Array Value) (w : World), (Instr.makeFunc fn first cap).run Tryz.prog w = .ok (.func fn first cap) w := fun _ _ _ _ => rfl
  have hsl := shown_le cs
  have hcl : cs.length ≤ 2097152 := by obtain ⟨v, t, h1, h2, h3⟩ := hR; rw [← h3]; exact h2.len
  have HB := Lib.hid (fun (W0 W : World) (hb0 : Below w.heap.size w W0) (hj : JT W0 0 [] W) (hb : Below W0.heap.size W0 W) => between_any 104 #[.pointer (some ⟨W0.heap.size, 0, none⟩)] innerT (JT W0) TxtRune W0.heap.size (enters_of Tryz.func104 (by kernel_rfl) rfl) innerT_hin
    (fun p s w1 w2 h h0 h1 h2 => ⟨bld_keepN h.bld h2, h.len, h.below.trans h1⟩) (fun p p' s w1 hp h => ⟨h.bld, Nat.le_trans h.len hp, h.below⟩) (fun s a l A c W h h0 h1 h2 h3 h5 h4 => text_step W0 s a l A c W h h1 h5 h4) b cs lo hi [] W ((hR.below hb0).below hb) hlh hh hj hpr hb.size)
  have hfn : inner1 innerT [] (((vpos 0 cs).drop lo).take (hi - lo)) = ((vis cs).drop lo).take (hi - lo) := by
    rw [innerT_one, List.nil_append, ← vpos_vis 0, List.map_take, List.map_drop]
  rw [hfn] at HB
  have hvl : (((vis cs).drop lo).take (hi - lo)).length ≤ 2097152 := by rw [List.length_take, List.length_drop, vis_len]; omega
  clear hfn
  obtain ⟨n, hn⟩ : ∃ n, shown cs = n := ⟨_, rfl⟩
  rw [hn] at hh hsl HC1
  obtain ⟨L, hL⟩ : ∃ L, ((vis cs).drop lo).take (hi - lo) = L := ⟨_, rfl⟩
  rw [hL] at HB hvl ⊢
  have b1 : decide ((lo : Int) < 0) = false := by simp
  have b2' : ¬ hi < lo := by omega
  have b3' : ¬ n < hi := by omega
  obtain ⟨cl, hcl2⟩ : ∃ cl, cs.length = cl := ⟨_, rfl⟩
  rw [hcl2] at HB
  have HM := Lib.hid hvl
  clear hR hlh hh hvl hsl hcl hn hL hcl2 hpr
  go_enter Tryz.func67, Tryz.ntmps67
  go_wp2_with fail
  refine (HC1.out w (Below.refl _ _)).mono ?_
  rintro e w1 ⟨rfl, hb1⟩
  have HB1 := Lib.hid hb1
  clear hb1
  go_wp2_with fail
  refine (HB.out w1 _ HB1.out ⟨Bld.new w1, Nat.le_refl _, below_alloc1 _ _⟩ (below_alloc1 _ _)).mono ?_
  rintro e w2 ⟨rfl, hj2, hk2⟩
  have HBW := Lib.hid (HB1.out.trans (hj2.below.mono HB1.out.size))
  have HC := Lib.hid (Tryz.Builder_String_any w1.heap.size w1.heap.size (enc L) w2 hj2.bld hj2.below.size)
  rw [str_of] at HC
  clear hj2 hk2
  go_wp2_with fail
  refine HC.out.mono ?_
  rintro e w3 ⟨rfl, hb3⟩
  have HB3 := Lib.hid (HBW.out.trans (hb3.mono (by have := HB1.out.size; omega)))
  clear hb3
  go_wp2_with fail
  go_ret2
  exact ⟨rfl, HB3.out⟩
set_option maxRecDepth 100000 in
set_option maxHeartbeats 8000000 in
/-- Text's contract. -/
theorem Text_any (b : Nat) (cs : List Cl) (w : World) (hR : Rope w b cs) (hpr : ∀ c ∈ cs, TxtRune c.1) :
    Calls Tryz.prog 31 #[.pointer (some ⟨b, 0, none⟩)] w fun e w' => e = .returned (.string (Str (vis cs))) ∧ Below w.heap.size w w' := by
  have HC1 := Lib.hid (Shown_any b cs w hR)
  have HC2 := Lib.hid (fun (W : World) (hW : Below w.heap.size w W) => Slice_any b cs 0 (shown cs) W (hR.below hW) (Nat.zero_le _) (Nat.le_refl _) hpr)
  rw [show ((vis cs).drop 0).take (shown cs - 0) = vis cs by rw [List.drop_zero, Nat.sub_zero, List.take_of_length_le (by rw [vis_len]; exact Nat.le_refl _)], show (((0 : Nat)) : Int) = 0 from rfl] at HC2
  obtain ⟨n, hn⟩ : ∃ n, shown cs = n := ⟨_, rfl⟩
  rw [hn] at HC1 HC2
  obtain ⟨L, hL⟩ : ∃ L, Str (vis cs) = L := ⟨_, rfl⟩
  rw [hL] at HC2 ⊢
  clear hR hpr hn hL
  go_enter Tryz.func31, Tryz.ntmps31
  go_wp2_with fail
  refine HC1.out.mono ?_
  rintro e w1 ⟨rfl, hb1⟩
  have HB1 := Lib.hid hb1
  clear hb1
  go_wp2_with fail
  refine (HC2.out w1 HB1.out).mono ?_
  rintro e w2 ⟨rfl, hb2⟩
  have HB2 := Lib.hid (HB1.out.trans (hb2.mono HB1.out.size))
  clear hb2
  go_wp2_with fail
  go_ret
  exact ⟨rfl, HB2.out⟩
end Go.Proofs.YtkdhomiieenfnaaGreatDoor.Rp

namespace Go.Proofs.YtkdhomiieenfnaaGreatDoor.Rp
open Go.RowKit Go.Proofs Go.Shelf Go.Proofs.YtkdhomiieenfnaaGreatDoor.U Go.Proofs.YtkdhomiieenfnaaGreatDoor.Txt Go.Proofs.YtkdhomiieenfnaaGreatDoor.Sh
set_option linter.unusedVariables false
set_option linter.unusedSimpArgs false

def runCells (l : List Pce) : List Value := l.flatMap fun q => [.string (Str q.1), .int .i64 q.2]
theorem runCells_snoc (l : List Pce) (a : List Int) (h : Int) : runCells (l ++ [(a, h)]) = runCells l ++ [.string (Str a), .int .i64 h] := by simp [runCells]
theorem infoRun : (Tryz.prog.info? 68).map (fun i => (i.zero, i.size, i.bytes)) = some (some (.agg #[.string ⟨#[]⟩, .int .i64 0]), 2, 24) := by kernel_rfl
theorem own_others {e e' : TypeId} {b : Nat} {w w' : World} {B size n : Nat} {v : Value} {xs : List Value} {T : TypeId} {cs : Array Value} {fz : Nat × Nat} (h : w.ownsRow B e size v n xs) (hk : Lib.OthersKept e' (some b) w w') (hne : e ≠ e') (hb : w.heap[b]? = some (.cells cs T fz)) (hT : T ≠ e) : w'.ownsRow B e size v n xs := by
  refine ⟨h.1, h.2.imp id ?_⟩
  rintro ⟨g, cap, cur, hv, hbg, hg, rest⟩
  refine ⟨g, cap, cur, hv, hbg, hk _ _ hg (fun e2 => ?_) (fun c fz e2 => hne (Obj.cells.inj e2).2.1), rest⟩
  obtain rfl := Option.some.inj e2
  rw [hg] at hb
  exact hT (Obj.cells.inj (Option.some.inj hb)).2.1.symm
theorem keepT_others {e : TypeId} {b : Nat} {w w' : World} {T : TypeId} {cs : Array Value} {fz : Nat × Nat} (hk : Lib.OthersKept e (some b) w w') (hs : w.heap.size ≤ w'.heap.size) (he : ¬ RopeT e) (hb : w.heap[b]? = some (.cells cs T fz)) (hT : ¬ RopeT T) : KeepT w w' := ⟨hs, fun k cs' T' fz' h hT' => by
  rw [h]
  refine hk k _ h (fun e2 => ?_) (fun c fz2 e2 => he ((Obj.cells.inj e2).2.1 ▸ hT'))
  obtain rfl := Option.some.inj e2
  rw [h] at hb
  exact hT ((Obj.cells.inj (Option.some.inj hb)).2.1 ▸ hT')⟩
theorem bld_others {B b N : Nat} {bs : List Value} {w w' : World} {e : TypeId} {cs : Array Value} {T : TypeId} {fz : Nat × Nat} (h : Bld B b bs w) (hk : Lib.OthersKept e (some N) w w') (he : 5 ≠ e) (he2 : 111 ≠ e) (hb : w.heap[N]? = some (.cells cs T fz)) (hT : T ≠ 5) (hT2 : T ≠ 111) : Bld B b bs w' := by
  have H : ∀ p, Lib.BuilderAt 111 5 B b p bs w → Lib.BuilderAt 111 5 B b p bs w' := by
    rintro p ⟨hB, v, hbb, hown, hne⟩
    refine ⟨hB, v, hk _ _ hbb (fun e2 => ?_) (fun c fz e2 => he2 (Obj.cells.inj e2).2.1), own_others hown hk he hb hT, hne⟩
    obtain rfl := Option.some.inj e2
    rw [hbb] at hb
    exact hT2 (Obj.cells.inj (Option.some.inj hb)).2.1.symm
  exact h.elim (fun x => .inl (H _ x)) (fun x => .inr (H _ x))
/-- What Runs keeps. -/
structure JR (W0 : World) (p : Nat) (s : RunS) (w : World) : Prop where
  out : ∃ v, w.heap[W0.heap.size]? = some (.cells #[v] 35 (0, 0)) ∧ w.ownsRow (W0.heap.size + 1) 68 2 v s.out.length (runCells s.out)
  bld : TBld (W0.heap.size + 1) (W0.heap.size + 1) s.b w
  hid : w.heap[W0.heap.size + 2]? = some (.cells #[.int .i64 s.hid] 3 (0, 0))
  fn : w.heap[W0.heap.size + 3]? = some (.cells #[.func (.func 49) #[] #[.pointer (some ⟨W0.heap.size + 1, 0, none⟩), .pointer (some ⟨W0.heap.size, 0, none⟩), .pointer (some ⟨W0.heap.size + 2, 0, none⟩)]] 1 (0, 0))
  lo : s.out.length ≤ p
  lb : s.b.length ≤ p
  below : Below W0.heap.size W0 w
theorem JR.step {W0 w w' : World} {p : Nat} {s : RunS} (h : JR W0 p s w) (hb : Below w.heap.size w w') : JR W0 p s w' := by
  obtain ⟨v, h1, h2⟩ := h.out
  exact ⟨⟨v, (hb.block _ (Array.getElem?_eq_some_iff.1 h1).1).trans h1, own_below h2 hb⟩, h.bld.below hb, (hb.block _ (Array.getElem?_eq_some_iff.1 h.hid).1).trans h.hid, (hb.block _ (Array.getElem?_eq_some_iff.1 h.fn).1).trans h.fn, h.lo, h.lb, h.below.trans (hb.mono h.below.size)⟩
theorem JR.mono {W0 w : World} {p p' : Nat} {s : RunS} (h : JR W0 p s w) (hp : p ≤ p') : JR W0 p' s w := ⟨h.out, h.bld, h.hid, h.fn, Nat.le_trans h.lo hp, Nat.le_trans h.lb hp, h.below⟩
/-- What a writer into the builder leaves of the rest. -/
theorem JR.write {W0 w w' : World} {p p' : Nat} {s : RunS} {b' : List Int} (h : JR W0 p s w) (hk : Lib.OthersKept 5 (some (W0.heap.size + 1)) w w') (hb : Below W0.heap.size w w') (hbl : TBld (W0.heap.size + 1) (W0.heap.size + 1) b' w') (hp : p ≤ p') (hl : b'.length ≤ p') : JR W0 p' ⟨s.out, b', s.hid⟩ w' := by
  obtain ⟨v, h1, h2⟩ := h.out
  obtain ⟨cs, fz, hbb⟩ := bld_block h.bld
  exact ⟨⟨v, hk _ _ h1 (by simp) (fun c fz e => absurd (Obj.cells.inj e).2.1 (by decide)), own_others h2 hk (by decide) hbb (by decide)⟩, hbl, hk _ _ h.hid (by simp) (fun c fz e => absurd (Obj.cells.inj e).2.1 (by decide)), hk _ _ h.fn (by simp) (fun c fz e => absurd (Obj.cells.inj e).2.1 (by decide)), Nat.le_trans h.lo hp, hl, h.below.trans hb⟩
theorem bldF_block {B b : Nat} {bs : List Value} {w : World} (h : Lib.IsBuilderF 111 5 B b bs w) : ∃ p v, w.heap[b]? = some (.cells #[p, v] 111 (0, 0)) := by
  rcases h with h | h
  · obtain ⟨_, v, hb, _⟩ := h; exact ⟨_, _, hb⟩
  · obtain ⟨_, v, hb, _⟩ := h; exact ⟨_, _, hb⟩
theorem two_facts' {w : World} {b : Nat} {p v : Value} (h : w.heap[b]? = some (.cells #[p, v] 111 (0, 0))) : w.cell? ⟨b, 0, none⟩ = some p ∧ w.cell? ⟨b, 1, none⟩ = some v ∧ w.frozen? ⟨b, 0, none⟩ = false ∧ w.frozen? ⟨b, 1, none⟩ = false ∧ b < w.heap.size :=
  ⟨by rw [Lib.cell_of_heap h]; rfl, by rw [Lib.cell_of_heap h]; rfl, Lib.frozen_of_heap h 0, Lib.frozen_of_heap h 1, (Array.getElem?_eq_some_iff.1 h).1⟩
set_option maxRecDepth 100000 in
set_option maxHeartbeats 4000000 in
theorem Reset_any (b : Nat) (p v : Value) (w : World) (h : w.heap[b]? = some (.cells #[p, v] 111 (0, 0))) :
    Calls Tryz.prog 52 #[.pointer (some ⟨b, 0, none⟩)] w fun e w' => e = .returned (.tuple #[]) ∧ TBld b b [] w' ∧ Lib.OthersKept 5 (some b) w w' ∧ Below b w w' := by
  have H := Lib.hid h
  obtain ⟨y0, y1, y2, y3, y4⟩ := two_facts' h
  clear h
  go_enter Tryz.func52, Tryz.ntmps52
  go_wp2_with fail
  go_end0
  refine ⟨rfl, .inl ⟨Nat.le_refl _, .slice none 0 0, ?_, ⟨rfl, .inl ⟨rfl, rfl⟩⟩, by simp [Value.ownBlock]⟩, ?_, ((Below.refl _ _).setCell (p := ⟨b, 0, none⟩) (Nat.le_refl _) _).setCell (p := ⟨b, 1, none⟩) (Nat.le_refl _) _⟩
  · simp [World.setCell, Array.getElem?_modify, H.out]
  · exact Lib.OthersKept.setCell (b := b) (Lib.OthersKept.setCell (b := b) (Lib.OthersKept.refl _ _ _) ⟨b, 0, none⟩ rfl _) ⟨b, 1, none⟩ rfl _
theorem enc_pos {b : List Int} (h : b ≠ []) : 0 < (enc b).length := by
  have := enc_len_ge b
  have := List.length_pos_iff.2 h
  omega
/-- What an append to the own list of runs leaves of the rest. -/
theorem runs_after {w w9 : World} {N n : Nat} {hd : Int} {v : Value} {xs bs : List Value} {o : Obj} (ho : w.ownsRow (N + 1) 68 2 v n xs) (hb : w.heap[N]? = some (.cells #[v] 35 (0, 0))) (hh : w.heap[N + 2]? = some (.cells #[.int .i64 hd] 3 (0, 0)))
    (hf : Lib.IsBuilderF 111 5 (N + 1) (N + 1) bs w) (hg : (w.alloc o).grownBy w9 v.ownBlock) :
    w9.heap[N]? = some (.cells #[v] 35 (0, 0)) ∧ w9.heap[N + 2]? = some (.cells #[.int .i64 hd] 3 (0, 0)) ∧ (∃ p u, w9.heap[N + 1]? = some (.cells #[p, u] 111 (0, 0))) ∧ Below N w w9 ∧ Lib.OthersKept 68 (some N) w w9 := by
  have hlt := (Array.getElem?_eq_some_iff.1 hb).1
  have ho' := own_below ho (below_alloc1 w o)
  have hk : Lib.OthersKept 68 (some N) w w9 := ((Lib.OthersKept.refl _ _ _).alloc o).grown hg (fun g hgg => by
    rcases ho'.2 with ⟨rfl, _⟩ | ⟨g', cap, cur, rfl, _, hgb, _⟩
    · simp [Value.ownBlock] at hgg
    · simp only [Value.ownBlock, Option.some.injEq] at hgg
      subst hgg
      exact ⟨_, _, hgb⟩)
  obtain ⟨p, u, hbl⟩ := bldF_block hf
  refine ⟨?_, hk _ _ hh (by simp) (fun c fz e => absurd (Obj.cells.inj e).2.1 (by decide)), ⟨p, u, hk _ _ hbl (by simp) (fun c fz e => absurd (Obj.cells.inj e).2.1 (by decide))⟩, ?_, hk⟩
  · rw [hg.block N (by simp; omega) (fun e => by have := ho.lt _ e.symm; omega), Lib.alloc_old w _ _ hlt]; exact hb
  · exact ((Below.refl _ _).alloc (by omega) o).grown hg (by simp; omega) (fun k hk => by have := (ho.lt k hk).1; omega)
theorem end_fin {W0 w w2 w9 w11 : World} {p N : Nat} {s : RunS} {s' : List Pce} {v v' : Value} {cs0 : Array Value} {fz0 : Nat × Nat} {hd : Int} (hN : W0.heap.size = N) (hj : JR W0 p s w) (hb0 : w.heap[N + 1]? = some (.cells cs0 111 fz0)) (hx : w.heap[N]? = some (.cells #[v] 35 (0, 0)))
    (ho2 : Lib.OthersKept 5 (some (N + 1)) w w2) (hb2 : Below (N + 1) w w2) (hx9 : w9.heap[N]? = some (.cells #[v] 35 (0, 0))) (hh9 : w9.heap[N + 2]? = some (.cells #[.int .i64 hd] 3 (0, 0))) (hl9 : ∃ p u, w9.heap[N + 1]? = some (.cells #[p, u] 111 (0, 0))) (hb9 : Below N w2 w9) (ho9 : Lib.OthersKept 68 (some N) w2 w9)
    (hown : w9.ownsRow (N + 1) 68 2 v' s'.length (runCells s')) (hl : s'.length ≤ p + 1) (ho11 : Lib.OthersKept 5 (some (N + 1)) (w9.setCell ⟨N, 0, none⟩ v') w11) (hb11 : Below (N + 1) (w9.setCell ⟨N, 0, none⟩ v') w11) (hbl : TBld (N + 1) (N + 1) [] w11) :
    JR W0 (p + 1) ⟨s', [], hd⟩ w11 ∧ KeepT w w11 := by
  subst hN
  have hoth : ∀ k, k ≠ W0.heap.size → (w9.setCell ⟨W0.heap.size, 0, none⟩ v').heap[k]? = w9.heap[k]? := fun k hk => by simp [World.setCell, Array.getElem?_modify, Ne.symm hk]
  have hx10 : (w9.setCell ⟨W0.heap.size, 0, none⟩ v').heap[W0.heap.size]? = some (.cells #[v'] 35 (0, 0)) := by simp [World.setCell, Array.getElem?_modify, hx9]
  have ho10 : Lib.OthersKept 5 (some W0.heap.size) w9 (w9.setCell ⟨W0.heap.size, 0, none⟩ v') := (Lib.OthersKept.refl _ _ _).setCell ⟨W0.heap.size, 0, none⟩ rfl _
  have hfn2 := ho2 _ _ hj.fn (by simp) (fun c fz e => absurd (Obj.cells.inj e).2.1 (by decide))
  have hfn9 := ho9 _ _ hfn2 (by simp) (fun c fz e => absurd (Obj.cells.inj e).2.1 (by decide))
  have h1 := own_others hown ho10 (by decide) hx9 (by decide)
  obtain ⟨pp, uu, hl9⟩ := hl9
  have hl10 := (hoth (W0.heap.size + 1) (by omega)).trans hl9
  have h2 := own_others h1 ho11 (by decide) hl10 (by decide)
  have hk11 : ∀ (k : Nat) (cs : Array Value) (T : TypeId) (fz : Nat × Nat), k ≠ W0.heap.size + 1 → T ≠ 5 → (w9.setCell ⟨W0.heap.size, 0, none⟩ v').heap[k]? = some (.cells cs T fz) → w11.heap[k]? = some (.cells cs T fz) := fun k cs T fz hk hT h => ho11 _ _ h (by simpa using hk) (fun c fz2 e => hT (Obj.cells.inj e).2.1)
  have hx2 := ho2 _ _ hx (by simp) (fun c fz e => absurd (Obj.cells.inj e).2.1 (by decide))
  have hB9 : Below W0.heap.size w w9 := (hb2.mono (Nat.le_succ _)).trans hb9
  have hB10 : Below W0.heap.size w9 (w9.setCell ⟨W0.heap.size, 0, none⟩ v') := (Below.refl _ _).setCell (p := ⟨W0.heap.size, 0, none⟩) (Nat.le_refl _) _
  refine ⟨⟨⟨v', hk11 _ _ _ _ (by omega) (by decide) hx10, h2⟩, hbl, hk11 _ _ _ _ (by omega) (by decide) ((hoth _ (by omega)).trans hh9), hk11 _ _ _ _ (by omega) (by decide) ((hoth _ (by omega)).trans hfn9), hl, Nat.zero_le _, ((hj.below.trans hB9).trans hB10).trans (hb11.mono (Nat.le_succ _))⟩, ?_⟩
  exact (((keepT_others ho2 hb2.size (by unfold RopeT; decide) hb0 (by unfold RopeT; decide)).trans (keepT_others ho9 hb9.size (by unfold RopeT; decide) hx2 (by unfold RopeT; decide))).trans (KeepT.set hx9 (by unfold RopeT; decide))).trans (keepT_others ho11 hb11.size (by unfold RopeT; decide) hl10 (by unfold RopeT; decide))
set_option maxRecDepth 100000 in
set_option maxHeartbeats 8000000 in
theorem end_any (W0 : World) (p : Nat) (s : RunS) (w : World) (hj : JR W0 p s w) (hp : p ≤ 2097152) :
    Calls Tryz.prog 49 (#[] ++ #[.pointer (some ⟨W0.heap.size + 1, 0, none⟩), .pointer (some ⟨W0.heap.size, 0, none⟩), .pointer (some ⟨W0.heap.size + 2, 0, none⟩)]) w fun e w' => e = .returned (.tuple #[]) ∧ JR W0 (p + 1) ⟨endR s, [], s.hid⟩ w' ∧ KeepT w w' := by
  have HJ := Lib.hid hj
  have HBF := Lib.hid (Lib.IsBuilderF.of hj.bld)
  obtain ⟨N, hN⟩ : ∃ N, W0.heap.size = N := ⟨_, rfl⟩
  have HNN := Lib.hid hN
  have HL := Lib.hid ((Tryz.Builder_Len (N + 1) (N + 1) _ w (by rw [← hN]; exact hj.bld)).mono (R' := fun e w' => e = .returned (.int .i64 (Lib.byteCells (enc s.b)).length) ∧ w = w') fun e w' ⟨h1, h2⟩ => ⟨h1, h2.symm⟩)
  rw [Lib.byteCells_length] at HL
  rw [hN]
  rw [hN] at HBF
  obtain ⟨cs0, fz0, hb0⟩ := bld_block hj.bld
  rw [hN] at hb0
  have HB0 := Lib.hid hb0
  have hsz := hj.below.size
  rw [hN] at hsz
  have hlt := (Array.getElem?_eq_some_iff.1 hb0).1
  have HSZ := Lib.hid hlt
  clear hj hb0 hN hsz hlt
  by_cases hb : s.b = []
  · have hend : endR s = s.out := by unfold endR; rw [if_pos hb, List.append_nil]
    rw [hend]
    rw [hb, show (enc []).length = 0 from rfl, show (((0 : Nat)) : Int) = 0 from rfl] at HL
    obtain ⟨pp, vv, hbk⟩ := bldF_block HBF.out
    have HR := Lib.hid (Reset_any (N + 1) pp vv w hbk)
    clear hend hb hbk
    go_enter Tryz.func49, Tryz.ntmps49
    go_wp2_with fail
    refine HL.out.mono ?_
    rintro e w1 ⟨rfl, rfl⟩
    go_wp2_with fail
    refine HR.out.mono ?_
    rintro e w2 ⟨rfl, hb2, ho2, hbw2⟩
    have H2 := Lib.hid (And.intro hb2 (And.intro ho2 hbw2))
    clear hb2 ho2 hbw2
    go_wp2_with fail
    go_end0
    have hn := HNN.out
    have h8 := H2.out
    have h9 := HB0.out
    subst hn
    exact ⟨rfl, HJ.out.write h8.2.1 (h8.2.2.mono (Nat.le_succ _)) h8.1 (Nat.le_succ _) (Nat.zero_le _), keepT_others h8.2.1 h8.2.2.size (by unfold RopeT; decide) h9 (by unfold RopeT; decide)⟩
  · have hend : endR s = s.out ++ [(s.b, s.hid)] := by unfold endR; rw [if_neg hb]
    rw [hend]
    have hep := enc_pos hb
    have HS := Lib.hid (fun (W : World) (hW : Below w.heap.size w W) => (Tryz.Builder_String_any_k (N + 1) (N + 1) (enc s.b) W (Lib.IsBuilderF.of (by have := HJ.out.bld; rw [HNN.out] at this; exact this.below hW)) (by have := HSZ.out; have := hW.size; omega)).mono (R' := fun e w' => e = .returned (.string (Str s.b)) ∧ Lib.IsBuilderF 111 5 (N + 1) (N + 1) (Lib.byteCells (enc s.b)) w' ∧ Below (N + 1) w w' ∧ Lib.OthersKept 5 (some (N + 1)) w w') fun e w' ⟨h1, h2, h3, h4⟩ => ⟨by rw [h1, str_of], h2, (hW.mono (by have := HSZ.out; omega)).trans h3, fun k o hk1 hk2 hk3 => h4 k o ((hW.block k (Array.getElem?_eq_some_iff.1 hk1).1).trans hk1) hk2 hk3⟩)
    obtain ⟨K, hK⟩ : ∃ K, (enc s.b).length = K := ⟨_, rfl⟩
    rw [hK] at HL hep
    have hep2 : (0 : Int) < (K : Int) := by omega
    obtain ⟨v, hbx, hown⟩ := HJ.out.out
    have hhd := HJ.out.hid
    rw [HNN.out] at hbx hown hhd
    have HO := Lib.hid hown
    have HX := Lib.hid hbx
    have HH := Lib.hid hhd
    have s0 := one_cell hbx
    have s1 := one_cell hhd
    obtain ⟨hd, hhd2⟩ : ∃ hd, s.hid = hd := ⟨_, rfl⟩
    rw [hhd2] at s1 HH ⊢
    have HHD := Lib.hid hhd2
    obtain ⟨SB, hSB⟩ : ∃ SB, Str s.b = SB := ⟨_, rfl⟩
    rw [hSB] at HS
    have HSB := Lib.hid hSB
    have hlo := HJ.out.lo
    obtain ⟨m, hm⟩ : ∃ m, s.out.length = m := ⟨_, rfl⟩
    rw [hm] at HO hlo
    have HM := Lib.hid hm
    have hmb : m ≤ 2097152 := by omega
    have HMB := Lib.hid hmb
    obtain ⟨i0, hi0, hz0, hz1, hz2⟩ := info_parts infoRun
    have HI := Lib.hid (And.intro hi0 (And.intro hz0 (And.intro hz1 hz2)))
    clear hend hb hK hbx hown hhd hhd2 hSB hlo hm hep hi0 hz0 hz1 hz2 hmb
    go_enter Tryz.func49, Tryz.ntmps49
    go_wp2_with fail
    refine HL.out.mono ?_
    rintro e w1 ⟨rfl, rfl⟩
    go_wp2_with fail
    go_region_law (first
      | (go_simp; go_at_call 51; refine (HS.out _ (by first | exact Below.refl _ _ | exact (Below.refl _ _).drew)).mono ?_; rintro _ w2 ⟨rfl, hf2, hb2, ho2⟩; have HF2 := Lib.hid hf2; have HBW2 := Lib.hid hb2; have HO2 := Lib.hid ho2; have hx2 := ho2 _ _ HX.out (by simp) (fun c fz e => absurd (Obj.cells.inj e).2.1 (by decide)); have hh2 := ho2 _ _ HH.out (by simp) (fun c fz e => absurd (Obj.cells.inj e).2.1 (by decide)); have HX2 := Lib.hid hx2; have HH2 := Lib.hid hh2; have HOW2 := Lib.hid (own_others HO.out ho2 (by decide) HB0.out (by decide)); have t0 := one_cell hx2; have t1 := one_cell hh2; have t2 : ∀ o, (w2.alloc o).cell? ⟨N, 0, none⟩ = some v := fun o => cell_below (below_alloc1 w2 o) t0; have t3 : ∀ o, (w2.alloc o).cell? ⟨N + 2, 0, none⟩ = some (.int .i64 hd) := fun o => cell_below (below_alloc1 w2 o) t1; clear hf2 hb2 ho2 hx2 hh2)
      | (refine step_append_lies _ rfl (.tmp 5) (.tmp 9) 35 rfl (N + 1) 68 i0 (.agg #[.string ⟨#[]⟩, .int .i64 0]) 2 24 Tryz.underlying35 HI.out.1 HI.out.2.1 HI.out.2.2.1 HI.out.2.2.2 rfl (by decide) v m (runCells s.out) (by simp [Act.eval, Act.put]) (own_below HOW2.out (below_alloc1 _ _)) _ 1 1 [.string SB, .int .i64 hd] (by simp [Act.eval, Act.put]) rfl (fun j u hj => news_alloc _ _ _ j u hj) (by simp [Value.oneCell']) (by decide) (by unfold maxLen; have := HMB.out; omega) (by have := HMB.out; omega) (by have := HSZ.out; have := HBW2.out.size; simp; omega) _ rfl ?_; intro g9 cap9 w9 hown hgrow hat hgl; have HO9 := Lib.hid hown; have HA9 := Lib.hid (runs_after HOW2.out HX2.out HH2.out HF2.out hgrow); have y0 := one_cell HA9.out.1; have y1 := (one_facts HA9.out.1).2.1; have y2 := (one_facts HA9.out.1).2.2; clear hown hgrow hat hgl t0 t1 t2 t3))
    all_goals (go_wp2_with fail)
    all_goals
      obtain ⟨pp, uu, hbk⟩ := HA9.out.2.2.1
      refine (Reset_any (N + 1) pp uu _ ((show (w9.setCell ⟨N, 0, none⟩ (.slice (some ⟨g9, 0, none⟩) (m + 1) cap9)).heap[N + 1]? = w9.heap[N + 1]? by simp [World.setCell, Array.getElem?_modify]).trans hbk)).mono ?_
      rintro e w11 ⟨rfl, hb11, ho11, hbw11⟩
      have H11 := Lib.hid (And.intro hb11 (And.intro ho11 hbw11))
      clear hb11 ho11 hbw11 hbk y0 y1 y2
      go_wp2_with fail
      go_end0
      have h10 := HO9.out
      have hrow : runCells s.out ++ [Value.string SB, .int .i64 hd] = runCells (s.out ++ [(s.b, s.hid)]) := by rw [runCells_snoc, HSB.out, HHD.out]
      rw [hrow] at h10
      have h13 : (s.out ++ [(s.b, s.hid)]).length = m + 1 := by rw [List.length_append, HM.out]; rfl
      have h12 := end_fin HNN.out HJ.out HB0.out HX.out HO2.out HBW2.out HA9.out.1 HA9.out.2.1 HA9.out.2.2.1 HA9.out.2.2.2.1 HA9.out.2.2.2.2 (v' := .slice (some ⟨g9, 0, none⟩) (m + 1) cap9) (s' := s.out ++ [(s.b, s.hid)]) (by rw [h13]; exact h10) (by rw [h13]; have := HJ.out.lo; rw [HM.out] at this; omega) H11.out.2.1 H11.out.2.2 H11.out.1
      rw [HHD.out] at h12
      exact ⟨rfl, h12⟩
end Go.Proofs.YtkdhomiieenfnaaGreatDoor.Rp
