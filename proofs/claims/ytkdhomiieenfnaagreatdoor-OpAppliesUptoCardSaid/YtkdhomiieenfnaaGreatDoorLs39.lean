/- op.Apply on a rope. op.Covers: the cells that an operation is about, in new memory. The reference's Check: its small parts. The reference's Check of a list of ranges. -/
import Derived.Test.YtkdhomiieenfnaaGreatDoorLwLd
import Derived.Test.YtkdhomiieenfnaaGreatDoorOpLa
import Derived.Test.YtkdhomiieenfnaaGreatDoorLs23
import Derived.Test.YtkdhomiieenfnaaGreatDoorLs36
import Derived.Test.YtkdhomiieenfnaaGreatDoorLs27
namespace Go.Proofs.YtkdhomiieenfnaaGreatDoor.Lw
open Go.RowKit Go.Proofs Go.Proofs.YtkdhomiieenfnaaGreatDoor.U Go.Proofs.YtkdhomiieenfnaaGreatDoor.Txt Go.Proofs.YtkdhomiieenfnaaGreatDoor.Rp Go.Proofs.YtkdhomiieenfnaaGreatDoor.O
set_option linter.unusedVariables false
set_option linter.unusedSimpArgs false

/-- What Apply makes of cells: its error, the cells. -/
def applyR (cs : List Cl) (i0 i1 kd a : Int) (tx : ByteArray) (k er : Nat) (rs : List (Int × Int)) (t0 t1 : Int) (on : Bool) (xs : List Int) : Int × List Cl :=
  if opE i0 i1 kd a tx k er rs t0 t1 on cs.length ≠ 0 then (opE i0 i1 kd a tx k er rs t0 t1 on cs.length, cs) else
  if kd = 1 then (0, cs.take a.toNat ++ run xs 0 ++ cs.drop a.toNat) else
  if kd = 2 then (if (bumpR 1 cs rs).1 = 0 then bumpR 1 cs rs else ((bumpR 1 cs rs).1, cs)) else
  if kd = 3 then (if (bumpR (-1) cs rs).1 = 0 then bumpR (-1) cs rs else ((bumpR (-1) cs rs).1, cs)) else (40, cs)
theorem grown_of_below {w w' : World} {r : Option Nat} (h : Below w.heap.size w w') : w.grownBy w' r := ⟨h.os, h.tape, h.output, h.size, fun k hk _ => h.block k hk⟩
theorem grown_trans {w w1 w2 : World} {r : Option Nat} (h : w.grownBy w1 r) (h2 : w1.grownBy w2 r) : w.grownBy w2 r := ⟨h2.os.trans h.os, h2.tape.trans h.tape, h2.output.trans h.output, Nat.le_trans h.size h2.size, fun k hk hr => (h2.block k (Nat.lt_of_lt_of_le hk h.size) hr).trans (h.block k hk hr)⟩
/-- What Apply answers. -/
def Applied (b : Nat) (r : Int × List Cl) (w : World) (e : Ending) (w' : World) : Prop := e = .returned (.int .i64 r.1) ∧ Rope w' b r.2 ∧ w.grownBy w' (some b)
theorem Bumped.applied {b : Nat} {cs : List Cl} {rs : List (Int × Int)} {d : Int} {w : World} {e : Ending} {w' : World} (hR : Rope w b cs) (h : Bumped b cs rs d w e w') : Applied b (if (bumpR d cs rs).1 = 0 then bumpR d cs rs else ((bumpR d cs rs).1, cs)) w e w' := by
  obtain ⟨h1, h2, h3⟩ := h
  by_cases h0 : (bumpR d cs rs).1 = 0
  · rw [if_pos h0]
    exact ⟨h1, h2 h0⟩
  · rw [if_neg h0]
    exact ⟨h1, hR.below (h3 h0), grown_of_below (h3 h0)⟩
set_option maxRecDepth 100000 in
set_option maxHeartbeats 4000000 in
theorem Apply_nil (i0 i1 kd a : Int) (tx : ByteArray) (A : Option Addr) (n c : Nat) (t0 t1 : Int) (on : Bool) (w : World) :
    Calls Tryz.prog 18 #[.pointer none, opV i0 i1 kd a tx (.slice A n c) t0 t1 on] w fun e w' => e = .returned (.int .i64 3) ∧ Below w.heap.size w w' := by
  unfold opV
  go_enter Tryz.func18, Tryz.ntmps18
  go_wp2_with fail
  go_ret
  exact ⟨rfl, below_alloc1 _ _⟩
theorem opE_parts {i0 i1 kd a : Int} {tx : ByteArray} {k er : Nat} {rs : List (Int × Int)} {t0 t1 : Int} {on : Bool} {total : Int} (h : opE i0 i1 kd a tx k er rs t0 t1 on total = 0) : (0 ≤ total ∧ total ≤ 1048576) ∧ (kd = 1 → insE k er a total = 0) ∧ (kd = 2 ∨ kd = 3 → rngE rs total = 0) := by
  unfold opE at h
  by_cases h1 : total < 0 ∨ 1048576 < total
  · rw [if_pos h1] at h; exact absurd h (by decide)
  rw [if_neg h1] at h
  by_cases h2 : kd < 1 ∨ 4 < kd
  · rw [if_pos h2] at h; exact absurd h (by decide)
  rw [if_neg h2] at h
  by_cases h3 : ¬(i0 = 0 ∧ i1 = 0) ∧ idB i0 i1 = false
  · rw [if_pos h3] at h; exact absurd h (by decide)
  rw [if_neg h3] at h
  by_cases h4 : extraB kd a tx rs.length t0 t1 on = true
  · rw [if_pos h4] at h; exact absurd h (by decide)
  rw [if_neg h4] at h
  refine ⟨by omega, fun e => ?_, fun e => ?_⟩
  · rw [if_pos e] at h; exact h
  · rw [if_neg (by omega), if_neg (by omega)] at h; exact h
theorem insE_ok {n e : Nat} {a total : Int} (h : insE n e a total = 0) : e = 0 ∧ n ≠ 0 ∧ n ≤ 256 ∧ 0 ≤ a ∧ a ≤ total ∧ total + n ≤ 1048576 := by
  unfold insE at h
  by_cases h1 : e ≠ 0
  · rw [if_pos h1] at h; omega
  rw [if_neg h1] at h
  by_cases h2 : n = 0
  · rw [if_pos h2] at h; exact absurd h (by decide)
  rw [if_neg h2] at h
  by_cases h3 : 256 < n
  · rw [if_pos h3] at h; exact absurd h (by decide)
  rw [if_neg h3] at h
  by_cases h4 : a < 0
  · rw [if_pos h4] at h; exact absurd h (by decide)
  rw [if_neg h4] at h
  by_cases h5 : total < a
  · rw [if_pos h5] at h; exact absurd h (by decide)
  rw [if_neg h5] at h
  by_cases h6 : 1048576 < total + n
  · rw [if_pos h6] at h; exact absurd h (by decide)
  omega
theorem Nrm_last {m : Int} {rs : List (Int × Int)} (h : Nrm m rs) {x : Int × Int} (hx : x ∈ rs) : x.2 ≤ (rs[rs.length - 1]?.getD (0, 0)).2 := by
  rcases List.eq_nil_or_concat rs with rfl | ⟨ys, z, rfl⟩
  · cases hx
  · rw [List.concat_eq_append] at h hx ⊢
    have h1 := (Nrm_snoc ys m z).1 h
    rw [List.length_append, List.length_singleton, Nat.add_sub_cancel, List.getElem?_append_right (Nat.le_refl _), Nat.sub_self]
    simp only [List.getElem?_cons_zero, Option.getD_some]
    rcases List.mem_append.1 hx with h2 | h2
    · have := h1.2.1 x h2; have := h1.2.2.2; omega
    · rw [List.mem_singleton.1 h2]; exact Int.le_refl _
theorem rngE_ok {rs : List (Int × Int)} {total : Int} (h : rngE rs total = 0) : rs ≠ [] ∧ rs.length ≤ 32768 ∧ spanE none rs = 0 ∧ Nrm 0 rs ∧ ∀ x ∈ rs, x.2 ≤ total := by
  unfold rngE at h
  by_cases h1 : rs = []
  · rw [if_pos h1] at h; exact absurd h (by decide)
  rw [if_neg h1] at h
  by_cases h2 : spanM rs ≠ 0
  · rw [if_pos h2] at h; omega
  rw [if_neg h2] at h
  have h3 : spanM rs = 0 := by omega
  by_cases h4 : total < (rs[rs.length - 1]?.getD (0, 0)).2
  · rw [if_pos h4] at h; exact absurd h (by decide)
  have h5 : rs.length ≤ 32768 := by
    unfold spanM at h3
    by_cases h6 : 32768 < rs.length
    · rw [if_pos h6] at h3; exact absurd h3 (by decide)
    · omega
  rw [spanM_small h5] at h3
  have h7 := (spanE_ok h3).2
  exact ⟨h1, h5, h3, h7, fun x hx => by have := Nrm_last h7 hx; omega⟩
section
attribute [local go_sem ↓] ldO_fold
set_option maxRecDepth 100000 in
set_option maxHeartbeats 8000000 in
theorem Apply_any (b : Nat) (cs : List Cl) (i0 i1 kd a : Int) (tx : ByteArray) (A : Option Addr) (n c : Nat) (rs : List (Int × Int)) (t0 t1 : Int) (on : Bool) (k ps er : Nat) (xs : List Int) (hck : chk tx.data.toList = (k, ps, er)) (hxs : er = 0 → tx.data.toList = enc xs ∧ k = xs.length ∧ ∀ r ∈ xs, TxtRune r) (w : World) (hR : Rope w b cs) (hs : tx.size ≤ maxLen) (hn : n ≤ 8796093022208) (hG : Ranges w A n rs) (hg : Bars w) :
    Calls Tryz.prog 18 #[.pointer (some ⟨b, 0, none⟩), opV i0 i1 kd a tx (.slice A n c) t0 t1 on] w (Applied b (applyR cs i0 i1 kd a tx k er rs t0 t1 on xs) w) := by
  have HR := Lib.hid hR
  have HG := Lib.hid hG
  have HBA := Lib.hid hg
  have HX := Lib.hid hxs
  have HCK := Lib.hid hck
  have HS := Lib.hid hs
  have hcl : cs.length ≤ 2097152 := by obtain ⟨v, t, h1, h2, h3⟩ := hR; rw [← h3]; exact h2.len
  have HT := Lib.hid (fun (W : World) (hW : Below w.heap.size w W) => Total_any b cs W (hR.below hW))
  obtain ⟨N, hN⟩ : ∃ N, cs.length = N := ⟨_, rfl⟩
  have HNN := Lib.hid hN
  have HC := Lib.hid (fun (W : World) (hW : Below w.heap.size w W) => opCheck_any i0 i1 kd a tx A n c rs t0 t1 on N k ps er hck W hs hn (hG.below hW) (hg.below hW))
  rw [hN] at hcl HT
  have hok := fun h => opE_ok (i0 := i0) (i1 := i1) (kd := kd) (a := a) (tx := tx) (k := k) (er := er) (rs := rs) (t0 := t0) (t1 := t1) (on := on) (total := N) h
  have HAR := Lib.hid (show applyR cs i0 i1 kd a tx k er rs t0 t1 on xs = if opE i0 i1 kd a tx k er rs t0 t1 on N ≠ 0 then (opE i0 i1 kd a tx k er rs t0 t1 on N, cs) else
  if kd = 1 then (0, cs.take a.toNat ++ run xs 0 ++ cs.drop a.toNat) else
  if kd = 2 then (if (bumpR 1 cs rs).1 = 0 then bumpR 1 cs rs else ((bumpR 1 cs rs).1, cs)) else
  if kd = 3 then (if (bumpR (-1) cs rs).1 = 0 then bumpR (-1) cs rs else ((bumpR (-1) cs rs).1, cs)) else (40, cs) by unfold applyR; rw [hN])
  have HOK := Lib.hid (fun (h : opE i0 i1 kd a tx k er rs t0 t1 on N = 0) => And.intro h (hok h))
  obtain ⟨E, hE⟩ : ∃ E, opE i0 i1 kd a tx k er rs t0 t1 on N = E := ⟨_, rfl⟩
  have HEE := Lib.hid hE
  rw [hE] at HC HAR HOK
  unfold opV at HC ⊢
  clear hR hG hg hxs hck hs hN hok hE
  have hy := heap_alloc_new w (.cells #[.int .i64 i0, .int .i64 i1, .int .i64 kd, .int .i64 a, .string tx, .slice A n c, .int .i64 t0, .int .i64 t1, .bool on] 47)
  have hB1 := below_alloc1 w (.cells #[.int .i64 i0, .int .i64 i1, .int .i64 kd, .int .i64 a, .string tx, .slice A n c, .int .i64 t0, .int .i64 t1, .bool on] 47)
  have HY := Lib.hid hy
  have HB1 := Lib.hid hB1
  clear hy hB1
  go_enter Tryz.func18, Tryz.ntmps18
  go_upto_region 3 with fail
  obtain ⟨w1, hw1⟩ : ∃ w1, w.alloc (.cells #[.int .i64 i0, .int .i64 i1, .int .i64 kd, .int .i64 a, .string tx, .slice A n c, .int .i64 t0, .int .i64 t1, .bool on] 47) = w1 := ⟨_, rfl⟩
  rw [hw1] at HY HB1 ⊢
  obtain ⟨gr, hgr⟩ : ∃ gr, w.heap.size = gr := ⟨_, rfl⟩
  rw [hgr] at HY
  rw [hgr]
  clear hw1 hgr
  have HLD := Lib.hid (fun (W : World) (hW : Below w1.heap.size w1 W) => ldO_run ((hW.block _ (Array.getElem?_eq_some_iff.1 HY.out).1).trans HY.out))
  have HT1 := Lib.hid (fun (W : World) (hW : Below w1.heap.size w1 W) => (HT.out W (HB1.out.trans (hW.mono HB1.out.size))).mono (R' := fun e w' => e = .returned (.int .i64 N) ∧ Below w1.heap.size w1 w') fun e w' ⟨h1, h2⟩ => ⟨h1, hW.trans (h2.mono hW.size)⟩)
  have HC1 := Lib.hid (fun (W : World) (hW : Below w1.heap.size w1 W) => (HC.out W (HB1.out.trans (hW.mono HB1.out.size))).mono (R' := fun e w' => e = .returned (.int .i64 E) ∧ Below w1.heap.size w1 w') fun e w' ⟨h1, h2⟩ => ⟨h1, hW.trans (h2.mono hW.size)⟩)
  have s0 := HLD.out w1 (Below.refl _ _)
  go_region_held3 (fun w' => (ldO (.pointer (some ⟨gr, 0, none⟩))).run Tryz.prog w' = .ok (.agg #[.int .i64 i0, .int .i64 i1, .int .i64 kd, .int .i64 a, .string tx, .slice A n c, .int .i64 t0, .int .i64 t1, .bool on]) w')
    (first | (with_reducible exact HLD.out _ hbC) | (with_reducible exact HLD.out _ hbT) | (with_reducible exact HLD.out _ (Below.refl _ _).drew))
    (first
    | ((with_reducible refine (HT1.out _ (Below.refl _ _).drew).mono ?_); rintro e wT ⟨rfl, hbT⟩)
    | ((with_reducible refine (HC1.out _ hbT).mono ?_); rintro e wC ⟨rfl, hbC⟩))
  have hBC := HB1.out.trans (hbC.mono HB1.out.size)
  have HBC := Lib.hid hBC
  have hyC := (hbC.block _ (Array.getElem?_eq_some_iff.1 HY.out).1).trans HY.out
  have y2 : wC.cell? ⟨gr, 2, none⟩ = some (.int .i64 kd) := by rw [Lib.cell_of_heap hyC]; rfl
  have y3 : wC.cell? ⟨gr, 3, none⟩ = some (.int .i64 a) := by rw [Lib.cell_of_heap hyC]; rfl
  have y4 : wC.cell? ⟨gr, 4, none⟩ = some (.string tx) := by rw [Lib.cell_of_heap hyC]; rfl
  have y5 : wC.cell? ⟨gr, 5, none⟩ = some (.slice A n c) := by rw [Lib.cell_of_heap hyC]; rfl
  clear hbT hbC hBC hyC HT1 HC1 HLD s0 HT HC
  by_cases hE0 : E = 0
  · have b1 : (E != 0) = false := by simp [hE0]
    obtain ⟨hE, hok⟩ := HOK.out hE0
    have hpt := opE_parts (HEE.out.trans hE0)
    have HPT := Lib.hid hpt
    have HA2 := Lib.hid (show applyR cs i0 i1 kd a tx k er rs t0 t1 on xs = if kd = 1 then (0, cs.take a.toNat ++ run xs 0 ++ cs.drop a.toNat) else if kd = 2 then (if (bumpR 1 cs rs).1 = 0 then bumpR 1 cs rs else ((bumpR 1 cs rs).1, cs)) else if kd = 3 then (if (bumpR (-1) cs rs).1 = 0 then bumpR (-1) cs rs else ((bumpR (-1) cs rs).1, cs)) else (40, cs) by rw [HAR.out, if_neg (by simp [hE0])])
    have hkd := hok.kind
    clear hE0 hE hok hpt HOK HAR
    rcases hkd with rfl | rfl | rfl | rfl
    · have hi := insE_ok (HPT.out.2.1 rfl)
      obtain ⟨P, rfl⟩ : ∃ P : Nat, a = P := ⟨a.toNat, by omega⟩
      have hx := HX.out hi.1
      have HI := Lib.hid (insert_in b cs tx xs P 0 wC (HR.out.below HBC.out) ⟨hx.1, hx.2.2, by have := chk_ok_size (k := k) (ps := ps) (by rw [HCK.out, hi.1]); rw [size_toList] at this; omega⟩ (HBA.out.below HBC.out) (by rw [HNN.out]; omega) (by decide) (by rw [HNN.out]; omega) (by intro e; rw [e] at hx; exact hi.2.1 hx.2.1))
      have HA3 := Lib.hid (show applyR cs i0 i1 1 P tx k er rs t0 t1 on xs = (0, cs.take P ++ run xs 0 ++ cs.drop P) by rw [HA2.out, if_pos rfl]; rfl)
      clear hi hx y5 HA2
      go_wp2_with fail
      refine HI.out.mono ?_
      rintro e w5 ⟨rfl, hr5, hg5⟩
      have HF := Lib.hid (And.intro hr5 hg5)
      clear hr5 hg5
      go_wp2_with fail
      go_ret
      exact ⟨by rw [HA3.out]; rfl, by rw [HA3.out]; exact HF.out.1, grown_trans (grown_of_below HBC.out) HF.out.2⟩
    · have hi := rngE_ok (HPT.out.2.2 (.inl rfl))
      have HI := Lib.hid (bump_up b cs A n c rs wC (HR.out.below HBC.out) (HG.out.below HBC.out) (by have := HG.out.len; omega) hi.2.2.1 (fun x hx => by rw [HNN.out]; exact hi.2.2.2.2 x hx) (by rw [HNN.out]; omega))
      have HA3 := Lib.hid (show applyR cs i0 i1 2 a tx k er rs t0 t1 on xs = (if (bumpR 1 cs rs).1 = 0 then bumpR 1 cs rs else ((bumpR 1 cs rs).1, cs)) by rw [HA2.out, if_neg (by decide), if_pos rfl])
      have HI2 := Lib.hid (HI.out.mono fun e w5 hb5 => Bumped.applied (HR.out.below HBC.out) hb5)
      obtain ⟨R, hR⟩ : ∃ R, (if (bumpR 1 cs rs).1 = 0 then bumpR 1 cs rs else ((bumpR 1 cs rs).1, cs)) = R := ⟨_, rfl⟩
      rw [hR] at HI2 HA3
      clear hi y3 y4 HA2 HI hR
      go_wp2_with fail
      refine HI2.out.mono ?_
      rintro e w5 ⟨rfl, hr5, hg5⟩
      have HF := Lib.hid (And.intro hr5 hg5)
      clear hr5 hg5
      go_wp2_with fail
      go_ret
      exact ⟨by rw [HA3.out]; rfl, by rw [HA3.out]; exact HF.out.1, grown_trans (grown_of_below HBC.out) HF.out.2⟩
    · have hi := rngE_ok (HPT.out.2.2 (.inr rfl))
      have HI := Lib.hid (bump_down b cs A n c rs wC (HR.out.below HBC.out) (HG.out.below HBC.out) (by have := HG.out.len; omega) hi.2.2.1 (fun x hx => by rw [HNN.out]; exact hi.2.2.2.2 x hx) (by rw [HNN.out]; omega))
      have HA3 := Lib.hid (show applyR cs i0 i1 3 a tx k er rs t0 t1 on xs = (if (bumpR (-1) cs rs).1 = 0 then bumpR (-1) cs rs else ((bumpR (-1) cs rs).1, cs)) by rw [HA2.out, if_neg (by decide), if_neg (by decide), if_pos rfl])
      have HI2 := Lib.hid (HI.out.mono fun e w5 hb5 => Bumped.applied (HR.out.below HBC.out) hb5)
      obtain ⟨R, hR⟩ : ∃ R, (if (bumpR (-1) cs rs).1 = 0 then bumpR (-1) cs rs else ((bumpR (-1) cs rs).1, cs)) = R := ⟨_, rfl⟩
      rw [hR] at HI2 HA3
      clear hi y3 y4 HA2 HI hR
      go_wp2_with fail
      refine HI2.out.mono ?_
      rintro e w5 ⟨rfl, hr5, hg5⟩
      have HF := Lib.hid (And.intro hr5 hg5)
      clear hr5 hg5
      go_wp2_with fail
      go_ret
      exact ⟨by rw [HA3.out]; rfl, by rw [HA3.out]; exact HF.out.1, grown_trans (grown_of_below HBC.out) HF.out.2⟩
    · have HA3 := Lib.hid (show applyR cs i0 i1 4 a tx k er rs t0 t1 on xs = (40, cs) by rw [HA2.out, if_neg (by decide), if_neg (by decide), if_neg (by decide)])
      clear y3 y4 y5 HA2
      go_wp2_with fail
      go_ret
      exact ⟨by rw [HA3.out]; rfl, by rw [HA3.out]; exact HR.out.below HBC.out, grown_of_below HBC.out⟩
  · have b1 : (E != 0) = true := by simp [hE0]
    have HA2 := Lib.hid (show applyR cs i0 i1 kd a tx k er rs t0 t1 on xs = (E, cs) by rw [HAR.out, if_pos (by simp [hE0])])
    clear hE0 HAR HOK y2 y3 y4 y5
    go_wp2_with fail
    go_ret
    exact ⟨by rw [HA2.out]; rfl, by rw [HA2.out]; exact HR.out.below HBC.out, grown_of_below HBC.out⟩
end
end Go.Proofs.YtkdhomiieenfnaaGreatDoor.Lw

namespace Go.Proofs.YtkdhomiieenfnaaGreatDoor.Lw
open Go.RowKit Go.Proofs Go.Proofs.YtkdhomiieenfnaaGreatDoor.U Go.Proofs.YtkdhomiieenfnaaGreatDoor.Txt Go.Proofs.YtkdhomiieenfnaaGreatDoor.Rp Go.Proofs.YtkdhomiieenfnaaGreatDoor.O
set_option linter.unusedVariables false
set_option linter.unusedSimpArgs false

/-- What Covers makes of an operation. -/
def covR (i0 i1 kd a : Int) (tx : ByteArray) (k er : Nat) (rs : List (Int × Int)) (t0 t1 : Int) (on : Bool) : List (Int × Int) :=
  if ownE i0 i1 kd a tx k er rs t0 t1 on ≠ 0 ∨ kd = 4 then [] else if kd = 1 then [(a, a + k)] else rs
/-- What Covers answers. -/
def CovRes (l : List (Int × Int)) (w : World) (e : Ending) (w' : World) : Prop := (∃ v, e = .returned v ∧ w'.ownsRow w.heap.size 102 2 v l.length (rsCells l)) ∧ Below w.heap.size w w'
theorem rsCells_lies {w : World} {b off : Nat} {rs : List (Int × Int)} (hc : ∀ j (h : j < rs.length), w.cell? ⟨b, off + j * 2, none⟩ = some (.int .i64 rs[j].1) ∧ w.cell? ⟨b, off + j * 2 + 1, none⟩ = some (.int .i64 rs[j].2)) : ∀ (j : Nat) u, (rsCells rs)[j]? = some u → w.cell? ((⟨b, off, none⟩ : Addr).add j) = some u := fun j u hu => by
  have hlt := (List.getElem?_eq_some_iff.1 hu).1
  rw [rsCells_len] at hlt
  have e1 : ((⟨b, off, none⟩ : Addr).add j) = ⟨b, off + j, none⟩ := by unfold Addr.add; split <;> simp_all
  rw [e1]
  obtain ⟨q, hq⟩ : ∃ q, j / 2 = q := ⟨_, rfl⟩
  have hql : q < rs.length := by omega
  have hg := rsCells_get rs q hql
  rcases (show j = q * 2 ∨ j = q * 2 + 1 by omega) with h | h
  · subst h; rw [hg.1] at hu; rw [← Option.some.inj hu]; exact (hc q hql).1
  · subst h; rw [hg.2] at hu; rw [← Option.some.inj hu, ← Nat.add_assoc]; exact (hc q hql).2
theorem rsCells_ones (rs : List (Int × Int)) : ∀ u ∈ rsCells rs, u.oneCell' = true := by
  intro u hu
  unfold rsCells at hu
  rcases List.mem_flatMap.1 hu with ⟨r, _, h⟩
  simp at h
  rcases h with rfl | rfl <;> rfl
section
attribute [local go_sem ↓] ldO_fold
set_option maxRecDepth 100000 in
set_option maxHeartbeats 8000000 in
theorem Covers_any (i0 i1 kd a : Int) (tx : ByteArray) (A : Option Addr) (n c : Nat) (rs : List (Int × Int)) (t0 t1 : Int) (on : Bool) (k ps er : Nat) (hck : chk tx.data.toList = (k, ps, er)) (w : World) (hs : tx.size ≤ maxLen) (hn : n ≤ 8796093022208) (hG : Ranges w A n rs) (hg : Bars w) :
    Calls Tryz.prog 57 #[opV i0 i1 kd a tx (.slice A n c) t0 t1 on] w (CovRes (covR i0 i1 kd a tx k er rs t0 t1 on) w) := by
  have HG := Lib.hid hG
  have HOWN := Lib.hid (fun (W : World) (hW : Below w.heap.size w W) => own_any i0 i1 kd a tx A n c rs t0 t1 on k ps er hck W hs hn (hG.below hW) (hg.below hW))
  have HWID := Lib.hid (fun (W : World) (hW : Below w.heap.size w W) => Width_any i0 i1 kd a tx A n c t0 t1 on k ps er hck W hs (hg.below hW))
  have hok := fun h => opE_ok (i0 := i0) (i1 := i1) (kd := kd) (a := a) (tx := tx) (k := k) (er := er) (rs := rs) (t0 := t0) (t1 := t1) (on := on) (total := ownT kd a) h
  have hpt := fun h => opE_parts (i0 := i0) (i1 := i1) (kd := kd) (a := a) (tx := tx) (k := k) (er := er) (rs := rs) (t0 := t0) (t1 := t1) (on := on) (total := ownT kd a) h
  have HOK := Lib.hid (fun (h : ownE i0 i1 kd a tx k er rs t0 t1 on = 0) => And.intro (hok h) (hpt h))
  have HCV := Lib.hid (show covR i0 i1 kd a tx k er rs t0 t1 on = if ownE i0 i1 kd a tx k er rs t0 t1 on ≠ 0 ∨ kd = 4 then [] else if kd = 1 then [(a, a + k)] else rs from rfl)
  obtain ⟨CV, hCV⟩ : ∃ CV, covR i0 i1 kd a tx k er rs t0 t1 on = CV := ⟨_, rfl⟩
  rw [hCV] at HCV ⊢
  obtain ⟨E, hE⟩ : ∃ E, ownE i0 i1 kd a tx k er rs t0 t1 on = E := ⟨_, rfl⟩
  rw [hE] at HOWN HOK HCV
  unfold opV at HOWN HWID ⊢
  clear hG hg hck hs hok hpt hCV hE
  have hy := heap_alloc_new w (.cells #[.int .i64 i0, .int .i64 i1, .int .i64 kd, .int .i64 a, .string tx, .slice A n c, .int .i64 t0, .int .i64 t1, .bool on] 47)
  have hB1 := below_alloc1 w (.cells #[.int .i64 i0, .int .i64 i1, .int .i64 kd, .int .i64 a, .string tx, .slice A n c, .int .i64 t0, .int .i64 t1, .bool on] 47)
  have HY := Lib.hid hy
  have HB1 := Lib.hid hB1
  clear hy hB1
  go_enter Tryz.func57, Tryz.ntmps57
  go_upto_region 1 with fail
  obtain ⟨w1, hw1⟩ : ∃ w1, w.alloc (.cells #[.int .i64 i0, .int .i64 i1, .int .i64 kd, .int .i64 a, .string tx, .slice A n c, .int .i64 t0, .int .i64 t1, .bool on] 47) = w1 := ⟨_, rfl⟩
  rw [hw1] at HY HB1 ⊢
  obtain ⟨gr, hgr⟩ : ∃ gr, w.heap.size = gr := ⟨_, rfl⟩
  rw [hgr] at HY
  rw [hgr]
  clear hw1
  have HLD := Lib.hid (fun (W : World) (hW : Below w1.heap.size w1 W) => ldO_run ((hW.block _ (Array.getElem?_eq_some_iff.1 HY.out).1).trans HY.out))
  have HCL := Lib.hid (fun (W : World) (hW : Below w1.heap.size w1 W) => (show W.cell? ⟨gr, 2, none⟩ = some (.int .i64 kd) ∧ W.cell? ⟨gr, 3, none⟩ = some (.int .i64 a) ∧ W.cell? ⟨gr, 5, none⟩ = some (.slice A n c) from
    have e := (hW.block _ (Array.getElem?_eq_some_iff.1 HY.out).1).trans HY.out
    ⟨by rw [Lib.cell_of_heap e]; rfl, by rw [Lib.cell_of_heap e]; rfl, by rw [Lib.cell_of_heap e]; rfl⟩))
  have s0 := HLD.out w1 (Below.refl _ _)
  go_wp2_with fail
  refine (HOWN.out _ HB1.out).mono ?_
  rintro e w2 ⟨rfl, hb2⟩
  have HB2 := Lib.hid hb2
  obtain ⟨q2, q3, q5⟩ := HCL.out w2 hb2
  clear hb2 s0
  by_cases hE0 : E = 0
  · have b1 : (E != 0) = false := by simp [hE0]
    obtain ⟨hok, hpt⟩ := HOK.out hE0
    have hkd := hok.kind
    have HPT := Lib.hid hpt
    have HCV2 := Lib.hid (show CV = if kd = 4 then [] else if kd = 1 then [(a, a + k)] else rs by
      rw [HCV.out]
      by_cases h4 : kd = 4
      · rw [if_pos (.inr h4), if_pos h4]
      · rw [if_neg (fun h => h.elim (fun h => h hE0) h4), if_neg h4])
    clear hE0 hok hpt HOK HCV
    rcases hkd with rfl | hk23 | hk23 | rfl
    · have hi := insE_ok (HPT.out.2.1 rfl)
      have hab : 0 ≤ a ∧ a ≤ 1048576 ∧ k ≤ 256 := by have := HPT.out.1; omega
      have HCV3 := Lib.hid (show CV = [(a, a + k)] by rw [HCV2.out, if_neg (by decide), if_pos rfl])
      have i1' : IntKind.i64.wrap (a + k) = a + k := IntWalk.i64_in _ (by omega)
      have HW2 := Lib.hid (fun (W : World) (hW : Below w2.heap.size w2 W) => ((HWID.out W (HB1.out.trans ((HB2.out.trans (hW.mono HB2.out.size)).mono HB1.out.size))).mono (R' := fun e w' => e = .returned (.int .i64 k) ∧ Below w2.heap.size w2 w') fun e w' ⟨h1, h2⟩ => ⟨by rw [h1, if_pos rfl], hW.trans (h2.mono hW.size)⟩))
      have HS := Lib.hid (fun (W : World) (hW : Below w2.heap.size w2 W) => And.intro (HCL.out W (HB2.out.trans (hW.mono HB2.out.size))).2.1 (HLD.out W (HB2.out.trans (hW.mono HB2.out.size))))
      obtain ⟨s1, s2⟩ := HS.out w2 (Below.refl _ _)
      clear hi hab q5 HCV2
      go_upto_region 4 with fail
      go_region_held3 (fun w' => w'.cell? ⟨gr, 3, none⟩ = some (.int .i64 a) ∧ (ldO (.pointer (some ⟨gr, 0, none⟩))).run Tryz.prog w' = .ok (.agg #[.int .i64 i0, .int .i64 i1, .int .i64 1, .int .i64 a, .string tx, .slice A n c, .int .i64 t0, .int .i64 t1, .bool on]) w')
        (first | (with_reducible exact HS.out _ hb3) | (with_reducible exact HS.out _ (Below.refl _ _).drew) | exact HS.out _ (hb3.alloc hb3.size _))
        (first | ((with_reducible refine (HW2.out _ (Below.refl _ _).drew).mono ?_); rintro e w3 ⟨rfl, hb3⟩))
      go_wp2_with fail
      go_ret
      refine ⟨⟨_, rfl, ?_⟩, HB1.out.trans ((HB2.out.trans ((hb3.alloc hb3.size _).mono HB2.out.size)).mono HB1.out.size)⟩
      rw [HCV3.out]
      refine ⟨rfl, .inr ⟨w3.heap.size, 1, _, rfl, ?_, heap_alloc_new _ _, Nat.le_refl _, by decide, rfl, rfl⟩⟩
      have := HB1.out.size
      have := HB2.out.size
      have := hb3.size
      omega
    · subst hk23
      have hi := rngE_ok (HPT.out.2.2 (.inl rfl))
      have HCV3 := Lib.hid (show CV = rs by rw [HCV2.out, if_neg (by decide), if_neg (by decide)])
      obtain ⟨i0', hi0, hz0, hz1, hz2⟩ := info_parts infoRg
      have HI := Lib.hid (And.intro hi0 (And.intro hz0 (And.intro hz1 hz2)))
      have hn0 : 0 < n := by have := HG.out.len; have := List.length_pos_iff.2 hi.1; omega
      have hnb : n ≤ 32768 := by have := HG.out.len; omega
      obtain ⟨b', off', rfl, hce⟩ := HG.out.at_ hn0
      have HCE := Lib.hid (rsCells_lies (w := w2) (rs := rs) (b := b') (off := off') (fun j hj => ⟨U.cell_below HB2.out (U.cell_below HB1.out (hce j hj).1), U.cell_below HB2.out (U.cell_below HB1.out (hce j hj).2)⟩))
      have HLN := Lib.hid HG.out.len
      have HNB := Lib.hid (And.intro hn0 hnb)
      clear hi hi0 hz0 hz1 hz2 hce q3 HCV2 hn0 hnb
      go_wp2_with (at_builtin; refine wpList_append_lies _ rfl (.const (.slice none 0 0)) (.tmp 26) 45 rfl gr 102 i0' (.agg #[.int .i64 0, .int .i64 0]) 2 16 Tryz.underlying45 HI.out.1 HI.out.2.1 HI.out.2.2.1 HI.out.2.2.2 rfl (by decide) (.slice none 0 0) 0 [] rfl ⟨rfl, .inl ⟨rfl, rfl⟩⟩ ⟨b', off', none⟩ n c (rsCells rs) rfl (by rw [rsCells_len, HLN.out]) HCE.out (rsCells_ones rs) HNB.out.1 (by have := HNB.out.2; unfold maxLen; omega) (by have := HNB.out.2; omega) (by have := HB1.out.size; have := HB2.out.size; omega) _ rfl ?_; intro g9 cap9 w9 hown hgrow _ _; have HO9 := Lib.hid hown; have HG9 := Lib.hid hgrow; clear hown hgrow)
      go_ret
      refine ⟨⟨_, rfl, ?_⟩, (HB1.out.trans (HB2.out.mono HB1.out.size)).grown HG9.out (by have := HB1.out.size; have := HB2.out.size; omega) (fun k hk => by cases hk)⟩
      have h9 := HO9.out
      rw [HCV3.out, ← HLN.out, hgr]
      rw [Nat.zero_add, List.nil_append] at h9
      exact h9
    · subst hk23
      have hi := rngE_ok (HPT.out.2.2 (.inr rfl))
      have HCV3 := Lib.hid (show CV = rs by rw [HCV2.out, if_neg (by decide), if_neg (by decide)])
      obtain ⟨i0', hi0, hz0, hz1, hz2⟩ := info_parts infoRg
      have HI := Lib.hid (And.intro hi0 (And.intro hz0 (And.intro hz1 hz2)))
      have hn0 : 0 < n := by have := HG.out.len; have := List.length_pos_iff.2 hi.1; omega
      have hnb : n ≤ 32768 := by have := HG.out.len; omega
      obtain ⟨b', off', rfl, hce⟩ := HG.out.at_ hn0
      have HCE := Lib.hid (rsCells_lies (w := w2) (rs := rs) (b := b') (off := off') (fun j hj => ⟨U.cell_below HB2.out (U.cell_below HB1.out (hce j hj).1), U.cell_below HB2.out (U.cell_below HB1.out (hce j hj).2)⟩))
      have HLN := Lib.hid HG.out.len
      have HNB := Lib.hid (And.intro hn0 hnb)
      clear hi hi0 hz0 hz1 hz2 hce q3 HCV2 hn0 hnb
      go_wp2_with (at_builtin; refine wpList_append_lies _ rfl (.const (.slice none 0 0)) (.tmp 26) 45 rfl gr 102 i0' (.agg #[.int .i64 0, .int .i64 0]) 2 16 Tryz.underlying45 HI.out.1 HI.out.2.1 HI.out.2.2.1 HI.out.2.2.2 rfl (by decide) (.slice none 0 0) 0 [] rfl ⟨rfl, .inl ⟨rfl, rfl⟩⟩ ⟨b', off', none⟩ n c (rsCells rs) rfl (by rw [rsCells_len, HLN.out]) HCE.out (rsCells_ones rs) HNB.out.1 (by have := HNB.out.2; unfold maxLen; omega) (by have := HNB.out.2; omega) (by have := HB1.out.size; have := HB2.out.size; omega) _ rfl ?_; intro g9 cap9 w9 hown hgrow _ _; have HO9 := Lib.hid hown; have HG9 := Lib.hid hgrow; clear hown hgrow)
      go_ret
      refine ⟨⟨_, rfl, ?_⟩, (HB1.out.trans (HB2.out.mono HB1.out.size)).grown HG9.out (by have := HB1.out.size; have := HB2.out.size; omega) (fun k hk => by cases hk)⟩
      have h9 := HO9.out
      rw [HCV3.out, ← HLN.out, hgr]
      rw [Nat.zero_add, List.nil_append] at h9
      exact h9
    · have HCV3 := Lib.hid (show CV = [] by rw [HCV2.out, if_pos rfl])
      clear q3 q5 HCV2
      go_wp2_with fail
      go_ret
      exact ⟨⟨_, rfl, by rw [HCV3.out]; exact ⟨rfl, .inl ⟨rfl, rfl⟩⟩⟩, HB1.out.trans (HB2.out.mono HB1.out.size)⟩
  · have b1 : (E != 0) = true := by simp [hE0]
    have HCV3 := Lib.hid (show CV = [] by rw [HCV.out, if_pos (.inl hE0)])
    clear hE0 HOK HCV q2 q3 q5
    go_wp2_with fail
    go_ret
    exact ⟨⟨_, rfl, by rw [HCV3.out]; exact ⟨rfl, .inl ⟨rfl, rfl⟩⟩⟩, HB1.out.trans (HB2.out.mono HB1.out.size)⟩
end
end Go.Proofs.YtkdhomiieenfnaaGreatDoor.Lw

namespace Go.Proofs.YtkdhomiieenfnaaGreatDoor.K
open Go.RowKit Go.Proofs Go.Proofs.YtkdhomiieenfnaaGreatDoor.U Go.Proofs.YtkdhomiieenfnaaGreatDoor.Txt Go.Proofs.YtkdhomiieenfnaaGreatDoor.O Go.Proofs.YtkdhomiieenfnaaGreatDoor.Rp Go.Proofs.YtkdhomiieenfnaaGreatDoor.Lw
set_option linter.unusedVariables false
set_option linter.unusedSimpArgs false

def nilB (a b : Int) : Bool := decide (a = 0) && decide (b = 0)
set_option maxRecDepth 100000 in
set_option maxHeartbeats 4000000 in
theorem isID_any (a b : Int) (w : World) : Calls Tryz.prog 83 #[.agg #[.int .i64 a, .int .i64 b]] w fun e w' => e = .returned (.bool (idB a b)) ∧ Below w.heap.size w w' := by
  unfold idB
  by_cases h1 : 1 ≤ a <;> by_cases h2 : a ≤ 8 <;> by_cases h3 : 1 ≤ b <;> by_cases h4 : b ≤ 1024
  all_goals
    go_enter Tryz.func83, Tryz.ntmps83
    go_wp2_with fail
    go_ret
    refine ⟨?_, by first | exact Below.refl _ _ | exact below_alloc1 _ _⟩
    simp [h1, h2, h3, h4]
set_option maxRecDepth 100000 in
set_option maxHeartbeats 4000000 in
theorem none_any (a b : Int) (w : World) : Calls Tryz.prog 84 #[.agg #[.int .i64 a, .int .i64 b]] w fun e w' => e = .returned (.bool (nilB a b)) ∧ Below w.heap.size w w' := by
  unfold nilB
  by_cases h1 : a = 0
  · have h1' : (a == 0) = true := by simpa using h1
    go_enter Tryz.func84, Tryz.ntmps84
    go_wp2_with fail
    go_ret
    refine ⟨?_, by first | exact Below.refl _ _ | exact below_alloc1 _ _⟩
    rw [h1]; rfl
  · have h1' : (a == 0) = false := by simpa using h1
    go_enter Tryz.func84, Tryz.ntmps84
    go_wp2_with fail
    go_ret
    refine ⟨?_, by first | exact Below.refl _ _ | exact below_alloc1 _ _⟩
    simp [h1]
set_option maxRecDepth 100000 in
set_option maxHeartbeats 8000000 in
theorem rextra_any (i0 i1 kd a : Int) (tx : ByteArray) (A : Option Addr) (n m : Nat) (t0 t1 : Int) (on : Bool) (hk : kd = 1 ∨ kd = 2 ∨ kd = 3 ∨ kd = 4) (w : World) : Calls Tryz.prog 85 #[opV i0 i1 kd a tx (.slice A n m) t0 t1 on] w fun e w' => e = .returned (.bool (extraB kd a tx n t0 t1 on)) ∧ Below w.heap.size w w' := by
  unfold extraB opV
  generalize he : tx.toList.isEmpty = em
  have he1 : tx.toList.isEmpty = em := he
  obtain ⟨P, hP⟩ : ∃ P, P = (!decide (a = 0) || !em) := ⟨_, rfl⟩
  obtain ⟨S, hS⟩ : ∃ S, S = (!(decide (t0 = 0) && decide (t1 = 0)) || on) := ⟨_, rfl⟩
  obtain ⟨Q, hQ⟩ : ∃ Q, Q = decide (0 < n) := ⟨_, rfl⟩
  rw [← hP, ← hS, ← hQ]
  have HP := Lib.hid hP
  have HS := Lib.hid hS
  have HQ := Lib.hid hQ
  clear hP hS hQ
  have hy := heap_alloc_new w (.cells #[.int .i64 i0, .int .i64 i1, .int .i64 kd, .int .i64 a, .string tx, .slice A n m, .int .i64 t0, .int .i64 t1, .bool on] 47)
  have hB1 := below_alloc1 w (.cells #[.int .i64 i0, .int .i64 i1, .int .i64 kd, .int .i64 a, .string tx, .slice A n m, .int .i64 t0, .int .i64 t1, .bool on] 47)
  have HY := Lib.hid hy
  have HB1 := Lib.hid hB1
  clear hy hB1
  go_enter Tryz.func85, Tryz.ntmps85
  go_upto_region 2 with fail
  obtain ⟨w1, hw1⟩ : ∃ w1, w.alloc (.cells #[.int .i64 i0, .int .i64 i1, .int .i64 kd, .int .i64 a, .string tx, .slice A n m, .int .i64 t0, .int .i64 t1, .bool on] 47) = w1 := ⟨_, rfl⟩
  rw [hw1] at HY HB1 ⊢
  obtain ⟨gr, hgr⟩ : ∃ gr, w.heap.size = gr := ⟨_, rfl⟩
  rw [hgr] at HY
  rw [hgr]
  have y3 : w1.cell? ⟨gr, 3, none⟩ = some (.int .i64 a) := by rw [Lib.cell_of_heap HY.out]; rfl
  have y4 : w1.cell? ⟨gr, 4, none⟩ = some (.string tx) := by rw [Lib.cell_of_heap HY.out]; rfl
  have y5 : w1.cell? ⟨gr, 5, none⟩ = some (.slice A n m) := by rw [Lib.cell_of_heap HY.out]; rfl
  have y6 : w1.cell? ⟨gr, 6, none⟩ = some (.int .i64 t0) := by rw [Lib.cell_of_heap HY.out]; rfl
  have y7 : w1.cell? ⟨gr, 7, none⟩ = some (.int .i64 t1) := by rw [Lib.cell_of_heap HY.out]; rfl
  have y8 : w1.cell? ⟨gr, 8, none⟩ = some (.bool on) := by rw [Lib.cell_of_heap HY.out]; rfl
  clear hw1 hgr he
  go_cut [4] from 4 to 52 (fun p wx => p = .bool P ∧ w1 = wx)
  case first =>
    by_cases h1 : a = 0
    · have h1' : (a != 0) = false := by simpa using h1
      go_wp2_with fail
      go_meet
      exact ⟨congrArg Value.bool (by rw [HP.out, h1]; simp [he1]), rfl⟩
    · have h1' : (a != 0) = true := by simpa using h1
      go_wp2_with fail
      go_meet
      exact ⟨congrArg Value.bool (by rw [HP.out]; simp [h1]), rfl⟩
  case rest =>
    obtain ⟨rfl, rfl⟩ := hcut
    clear he1 y3 y4
    go_upto_region 4 with fail
    clear y5
    go_cut [6] from 6 to 52 (fun p wx => p = .bool S ∧ w1 = wx)
    case first =>
      by_cases h1 : t0 = 0
      · have h1' : (t0 != 0) = false := by simpa using h1
        by_cases h2 : t1 = 0
        · have h2' : (t1 != 0) = false := by simpa using h2
          go_wp2_with fail
          go_meet
          exact ⟨congrArg Value.bool (by rw [HS.out, h1, h2]; simp), rfl⟩
        · have h2' : (t1 != 0) = true := by simpa using h2
          go_wp2_with fail
          go_meet
          exact ⟨congrArg Value.bool (by rw [HS.out]; simp [h2]), rfl⟩
      · have h1' : (t0 != 0) = true := by simpa using h1
        go_wp2_with fail
        go_meet
        exact ⟨congrArg Value.bool (by rw [HS.out]; simp [h1]), rfl⟩
    case rest =>
      obtain ⟨rfl, rfl⟩ := hcut
      clear y6 y7 y8
      by_cases hn : 0 < n
      · have hn' : (0 : Int) < (n : Int) := by omega
        have hQ : Q = true := by rw [HQ.out]; simpa using hn
        rcases hk with rfl | rfl | rfl | rfl <;> cases P
        all_goals
          go_wp2_with fail
          go_ret
          exact ⟨by first | rfl | simp, HB1.out⟩
      · obtain rfl : n = 0 := by omega
        have hQ : Q = false := by rw [HQ.out]; simp
        rcases hk with rfl | rfl | rfl | rfl <;> cases P
        all_goals
          go_wp2_with fail
          go_ret
          exact ⟨by first | rfl | simp, HB1.out⟩
end Go.Proofs.YtkdhomiieenfnaaGreatDoor.K

namespace Go.Proofs.YtkdhomiieenfnaaGreatDoor.K
open Go.RowKit Go.Proofs Go.Proofs.YtkdhomiieenfnaaGreatDoor.U Go.Proofs.YtkdhomiieenfnaaGreatDoor.Txt Go.Proofs.YtkdhomiieenfnaaGreatDoor.O Go.Proofs.YtkdhomiieenfnaaGreatDoor.Rp Go.Proofs.YtkdhomiieenfnaaGreatDoor.Lw
set_option linter.unusedVariables false
set_option linter.unusedSimpArgs false

/-- What the range ahead ends with. -/
def prevO (rs : List (Int × Int)) (k : Nat) : Option Int := if k = 0 then none else some (rs.getD (k - 1) (0, 0)).2
def SpanRes (E : Int) (w : World) (e : Ending) (w' : World) : Prop := (∃ i : Int, e = .returned (.tuple #[.int .i64 i, .int .i64 E])) ∧ Below w.heap.size w w'
theorem span_step {rs : List (Int × Int)} {k : Nat} (h : k < rs.length) : spanE (prevO rs k) (rs.drop k) = if rs[k].1 < 0 ∨ 1048576 < rs[k].2 ∨ rs[k].2 ≤ rs[k].1 then 20 else if (match prevO rs k with | none => false | some q => decide (rs[k].1 ≤ q)) then 22 else spanE (prevO rs (k + 1)) (rs.drop (k + 1)) := by
  have e : prevO rs (k + 1) = some rs[k].2 := by
    unfold prevO
    rw [if_neg (by omega), Nat.add_sub_cancel, List.getD, List.getElem?_eq_getElem h]; rfl
  rw [e]
  conv => lhs; rw [List.drop_eq_getElem_cons h]
  obtain ⟨a, b⟩ := rs[k]
  rfl
set_option maxRecDepth 100000 in
set_option maxHeartbeats 8000000 in
theorem rspan_any (A : Option Addr) (n m : Nat) (rs : List (Int × Int)) (w : World) (hn : n ≤ 8796093022208) (hR : Ranges w A n rs) : Calls Tryz.prog 87 #[.slice A n m] w (SpanRes (spanM rs) w) := by
  obtain rfl := hR.len
  have HR := Lib.hid hR
  by_cases hbig : 32768 < rs.length
  · have HE := Lib.hid (show spanM rs = 21 from if_pos hbig)
    obtain ⟨E, hE⟩ : ∃ E, spanM rs = E := ⟨_, rfl⟩
    rw [hE] at HE ⊢
    obtain ⟨n, hnn⟩ : ∃ n, rs.length = n := ⟨_, rfl⟩
    rw [hnn] at hbig hn ⊢
    have hb' : decide ((32768 : Int) < (n : Int)) = true := by simp; omega
    clear hR hE hnn hbig
    go_enter Tryz.func87, Tryz.ntmps87
    go_wp2_with fail
    go_ret2
    obtain rfl := HE.out
    exact ⟨⟨_, rfl⟩, Below.refl _ _⟩
  · have HE := Lib.hid (spanM_small (rs := rs) (by omega))
    obtain ⟨E, hE⟩ : ∃ E, spanM rs = E := ⟨_, rfl⟩
    rw [hE] at HE ⊢
    obtain ⟨n, hnn⟩ : ∃ n, rs.length = n := ⟨_, rfl⟩
    have HN := Lib.hid hnn
    rw [hnn] at hbig hn ⊢
    have hb' : decide ((32768 : Int) < (n : Int)) = false := by simp; omega
    have hb2 : n ≤ 32768 := by omega
    clear hR hE hnn hbig
    go_enter Tryz.func87, Tryz.ntmps87
    go_wp2_with fail
    clear hb'
    go_loopw [4] (fun i wr => ∃ k : Nat, k ≤ n ∧ i = .int .i64 k ∧ E = spanE (prevO rs k) (rs.drop k) ∧ Below w.heap.size w wr) (fun i _ => n - (intOf i).toNat)
    case atStart => exact ⟨0, Nat.zero_le _, rfl, HE.out, Below.refl _ _⟩
    case round =>
      obtain ⟨k, hk, rfl, he, hb⟩ := hrel
      have HK := Lib.hid he
      have HB := Lib.hid hb
      clear he hb
      by_cases hlt : k < n
      · have hkl : k < rs.length := by have := HN.out; omega
        obtain ⟨g, off, rfl, hc⟩ := HR.out.at_ (by omega)
        have hst := span_step hkl
        have f := hc k hkl
        have hpr : k ≠ 0 → ∃ q, prevO rs k = some q ∧ w.cell? ⟨g, off + (k - 1) * 2 + 1, none⟩ = some (.int .i64 q) := fun h0 => by
          refine ⟨_, if_neg h0, ?_⟩
          have h1 := (hc (k - 1) (by omega)).2
          rw [h1, List.getD, List.getElem?_eq_getElem (by omega)]; rfl
        obtain ⟨⟨lo, hi⟩, hra⟩ : ∃ x, rs[k] = x := ⟨_, rfl⟩
        rw [hra] at f hst
        simp only at f hst
        have HST := Lib.hid hst
        have f1 := U.cell_below HB.out f.1
        have f2 := U.cell_below HB.out f.2
        have z1 : (k : Int) < (n : Int) := by omega
        have z2 : (0 : Int) ≤ (k : Int) := by omega
        have HPR := Lib.hid hpr
        clear hc hst f hra hpr
        go_upto_region 6 with fail
        by_cases c1 : lo < 0 ∨ 1048576 < hi ∨ hi ≤ lo
        · have HEE := Lib.hid (show E = 20 by rw [HK.out, HST.out, if_pos c1])
          have HC : lo < 0 ∨ (¬ lo < 0 ∧ 1048576 < hi) ∨ (¬ lo < 0 ∧ ¬ 1048576 < hi ∧ hi ≤ lo) := by omega
          clear c1 HST HK HPR
          rcases HC with d1 | ⟨d1, d2⟩ | ⟨d1, d2, d3⟩
          all_goals
            go_quiet (fail)
            go_wp2_with fail
            go_ret2
            obtain rfl := HEE.out
            exact ⟨⟨_, rfl⟩, below_drewN HB.out _⟩
        · have d1 : ¬ lo < 0 := by omega
          have d2 : ¬ 1048576 < hi := by omega
          have d3 : ¬ hi ≤ lo := by omega
          have HS2 := Lib.hid (HK.out.trans (HST.out.trans (if_neg c1)))
          clear c1 HST HK
          go_quiet (fail)
          go_upto_region 8 with fail
          clear d1 d2 d3
          by_cases hk0 : k = 0
          · have z3 : ¬ 0 < k := by omega
            have HN3 := Lib.hid (show E = spanE (prevO rs (k + 1)) (rs.drop (k + 1)) from HS2.out.trans (by rw [show prevO rs k = none from if_pos hk0]; exact if_neg (fun h => Bool.noConfusion h)))
            clear hk0 HS2 HPR f2
            refine wp_region_quiet_lit (by kernel_rfl) (by kernel_rfl) (Veil.out ?_)
            repeat
              (refine hq_step (fun K hK => ?_)
               go_simp
               refine hK _ ?_
               clear hK K)
            refine hq_nil ?_
            rintro _ ⟨nq2, rfl⟩
            go_wp2_with fail
            go_roundw
            case rel => exact ⟨k + 1, by omega, by go_num, HN3.out, by first | exact below_drewN HB.out _ | exact below_drewN (below_drewN HB.out _) _⟩
            case measure => simp [intOf]; omega
          · obtain ⟨q, hq, hcq⟩ := HPR.out hk0
            have f3 := U.cell_below HB.out hcq
            obtain ⟨j, rfl⟩ : ∃ j, k = j + 1 := ⟨k - 1, by omega⟩
            rw [show j + 1 - 1 = j by omega] at f3
            have e1 : IntKind.i64.wrap (j : Int) = j := IntWalk.i64_in _ (by omega)
            have e2 : j < n := by omega
            rw [hq] at HS2
            by_cases hc : lo ≤ q
            · have HEE := Lib.hid (show E = 22 from HS2.out.trans (if_pos (by simpa using hc)))
              clear hk0 HS2 HPR f2 hq hcq
              go_quiet (fail)
              go_wp2_with fail
              go_ret2
              obtain rfl := HEE.out
              exact ⟨⟨_, rfl⟩, by first | exact below_drewN HB.out _ | exact below_drewN (below_drewN HB.out _) _⟩
            · have HN3 := Lib.hid (show E = spanE (prevO rs (j + 1 + 1)) (rs.drop (j + 1 + 1)) from HS2.out.trans (if_neg (by simpa using hc)))
              clear hk0 HS2 HPR f2 hq hcq
              go_quiet (fail)
              clear e1
              go_wp2_with fail
              go_roundw
              case rel => exact ⟨j + 1 + 1, by omega, by go_num, HN3.out, by first | exact below_drewN HB.out _ | exact below_drewN (below_drewN HB.out _) _⟩
              case measure => simp [intOf]; omega
      · obtain rfl : k = n := by omega
        go_wp2_with fail
        go_ret2
        obtain rfl : E = 0 := by rw [HK.out, List.drop_of_length_le (by rw [HN.out]; exact Nat.le_refl _)]; cases prevO rs k <;> rfl
        exact ⟨⟨_, rfl⟩, HB.out⟩
end Go.Proofs.YtkdhomiieenfnaaGreatDoor.K
