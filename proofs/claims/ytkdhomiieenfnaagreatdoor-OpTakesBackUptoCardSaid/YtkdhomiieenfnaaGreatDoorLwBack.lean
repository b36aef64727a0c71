/- redraftlaw04.back: one deed done on a rope and taken back. -/
import Derived.Test.YtkdhomiieenfnaaGreatDoorLt45
import Derived.Test.YtkdhomiieenfnaaGreatDoorLt33
import Derived.Test.YtkdhomiieenfnaaGreatDoorLt46
namespace Go.Proofs.YtkdhomiieenfnaaGreatDoor.Lw
open Go.RowKit Go.Proofs Go.Proofs.YtkdhomiieenfnaaGreatDoor.U Go.Proofs.YtkdhomiieenfnaaGreatDoor.Txt Go.Proofs.YtkdhomiieenfnaaGreatDoor.Rp Go.Proofs.YtkdhomiieenfnaaGreatDoor.O
set_option linter.unusedVariables false
set_option linter.unusedSimpArgs false

/-- What back hands back. -/
def BackRes (b : Nat) (cs : List Cl) (L : OpL) (w : World) (e : Ending) (w' : World) : Prop :=
  e = .returned (.bool true) ∧ ∃ cs', Rope w' b cs' ∧ (∀ c ∈ cs', TxtRune c.1) ∧ cs'.length = cs.length + (if L.kd = 1 then (chk L.tx).1 else 0) ∧ w.grownBy w' (some b)
/-- What is done to a rope's cells, and taken back. -/
inductive Done (L : OpL) (cs : List Cl) : Prop
  | ins (a : Nat) (xs : List Int) (h : InsOp L cs a xs)
  | stop (h : CovOp L cs) (hs : stopsR L.kd L.rs cs)
  | done (h : CovOp L cs) (hs : ¬ stopsR L.kd L.rs cs)
theorem done_of {L : OpL} {num : Int} {cs : List Cl} (h : RightOp L cs.length num) (hT : cs.length ≤ 32768) (hco : Cok cs) : Done L cs := by
  rcases h.kind with ⟨h1, _⟩ | ⟨h1, _⟩
  · obtain ⟨a, xs, h2⟩ := right_ins h hT rfl h1
    exact .ins a xs h2
  · have h2 := right_cover h hT rfl hco h1
    by_cases hs : stopsR L.kd L.rs cs
    · exact .stop h2 hs
    · exact .done h2 hs
theorem inv_rg {w : World} {B : Nat} {A : Option Addr} {m c : Nat} {rs : List (Int × Int)} (h : w.ownsRow B 102 2 (.slice A m c) rs.length (O.rsCells rs)) : m = rs.length ∧ Ranges w A rs.length rs ∧ (∀ b off, A = some ⟨b, off, none⟩ → 0 < rs.length → B ≤ b ∧ b < w.heap.size) := by
  rcases h.2 with ⟨hv, h0⟩ | ⟨g, cap, cur, hv, hbg, hg, hcap, hrest⟩
  · injection hv with h1 h2 h3
    exact ⟨by omega, ⟨rfl, fun hp => by omega⟩, fun _ _ _ hp => by omega⟩
  · injection hv with h1 h2 h3
    subst h1 h2
    refine ⟨rfl, ⟨rfl, fun hp => ⟨g, 0, rfl, fun j hj => ?_⟩⟩, fun b off e _ => ?_⟩
    · obtain ⟨a1, a2⟩ := O.rsCells_get rs j hj
      have e : ∀ k, (⟨g, 0 + k, none⟩ : Addr) = (⟨g, 0, none⟩ : Addr).add k := fun k => by simp [Addr.add]
      exact ⟨by rw [e, h.cells (g := g) rfl _ _ a1], by rw [show 0 + j * 2 + 1 = 0 + (j * 2 + 1) by omega, e, h.cells (g := g) rfl _ _ a2]⟩
    · have := Option.some.inj e; injection this with h4; subst h4
      exact ⟨hbg, (Array.getElem?_eq_some_iff.1 hg).1⟩
theorem chk_nil0 : chk (⟨#[]⟩ : ByteArray).data.toList = (0, 0, 0) := by decide +kernel
/-- What stays while a deed is done and taken back. -/
structure BK (b : Nat) (w w0 W : World) (A3 A : Option Addr) (cs : List Cl) (gq n : Nat) (xs : Array Value) (rs : List (Int × Int)) : Prop where
  gr : w.grownBy W (some b)
  below : Below w0.heap.size w0 W
  was : CellsIn W A3 cs
  box : W.heap[gq]? = some (.cells xs 47 (0, 0))
  rg : Ranges W A n rs
theorem BK.step {b : Nat} {w w0 W W' : World} {A3 A : Option Addr} {cs : List Cl} {gq n : Nat} {xs : Array Value} {rs : List (Int × Int)} (h : BK b w w0 W A3 A cs gq n xs rs) (hb : Below W.heap.size W W') : BK b w w0 W' A3 A cs gq n xs rs :=
  ⟨grown_trans h.gr (grown_of_below hb), h.below.trans (hb.mono h.below.size), h.was.below hb, (hb.block _ (Array.getElem?_eq_some_iff.1 h.box).1).trans h.box, h.rg.below hb⟩
theorem BK.keep {b : Nat} {w w0 W W' : World} {A3 A : Option Addr} {cs : List Cl} {gq n : Nat} {xs : Array Value} {rs : List (Int × Int)} (h : BK b w w0 W A3 A cs gq n xs rs) (hg : W.grownBy W' (some b)) (hn : w0.heap.size ≤ b ∧ (∀ g off, A3 = some ⟨g, off, none⟩ → g ≠ b) ∧ gq ≠ b ∧ (∀ g off, A = some ⟨g, off, none⟩ → 0 < n → g ≠ b)) : BK b w w0 W' A3 A cs gq n xs rs :=
  ⟨grown_trans h.gr hg, below_keepB h.below hn.1 hg, cellsIn_keepB h.was hn.2.1 hg, (hg.block _ (Array.getElem?_eq_some_iff.1 h.box).1 (fun e => hn.2.2.1 (Option.some.inj e))).trans h.box,
    ⟨h.rg.len, fun h0 => by
      obtain ⟨g, off, e, hc⟩ := h.rg.at_ h0
      exact ⟨g, off, e, fun j hj => ⟨cell_keepB (hc j hj).1 (hn.2.2.2 g off e h0) hg, cell_keepB (hc j hj).2 (hn.2.2.2 g off e h0) hg⟩⟩⟩⟩
section
attribute [local go_sem ↓] ldO_fold stO_fold
attribute [local go_sem] stO_run
set_option maxRecDepth 100000 in
set_option maxHeartbeats 8000000 in
theorem back_any (L : OpL) (A : Option Addr) (c b : Nat) (cs : List Cl) (num : Int) (w0 w : World) (hR : Rope w b cs) (htx : ∀ c ∈ cs, TxtRune c.1) (hT : cs.length ≤ 16128) (hop : RightOp L cs.length num) (hG : Ranges w A L.rs.length L.rs)
    (hA : ∀ g off, A = some ⟨g, off, none⟩ → 0 < L.rs.length → g ≠ b) (hB : Below w0.heap.size w0 w) (hb : w0.heap.size ≤ b) (hE : EnvP w0) :
    Calls Tryz.prog 13 #[.pointer (some ⟨b, 0, none⟩), L.val A c] w (BackRes b cs L w) := by
  have hco : Cok cs := by obtain ⟨_, _, _, h2, rfl⟩ := hR; exact h2.wf.ok
  have hgo : Good cs := fun c hc => ⟨htx c hc, (hco c hc).1, (hco c hc).2⟩
  have hown := hop.own (show cs.length ≤ 32768 by omega)
  have hsm := hop.small (show cs.length ≤ 32768 by omega)
  have hrl := read_line L hown
  have hll := line_len L hown hsm.1
  have hdn := done_of hop (by omega) hco
  have hbl : b < w.heap.size := by obtain ⟨_, _, h1, _⟩ := hR; exact (Array.getElem?_eq_some_iff.1 h1).1
  have HPR := Lib.hid (fun (W : World) (hW : Below w0.heap.size w0 W) (hg : Ranges W A L.rs.length L.rs) => PrintL_ok L A c W (by omega) hg (hE.below hW).o hown)
  have HPA := Lib.hid (fun (W : World) (hW : Below w0.heap.size w0 W) => Parse_good ⟨L.line.toArray⟩ W (by rw [L_size]; exact hll) (hE.below hW) (by rw [show (⟨L.line.toArray⟩ : ByteArray).data.toList = L.line from rfl, hrl]; exact hown) (by rw [show (⟨L.line.toArray⟩ : ByteArray).data.toList = L.line from rfl, hrl]))
  rw [show (⟨L.line.toArray⟩ : ByteArray).data.toList = L.line from rfl, hrl] at HPA
  have HEQ := Lib.hid (fun (A' : Option Addr) (c' : Nat) (W : World) (h1 : Ranges W A L.rs.length L.rs) (h2 : Ranges W A' L.rs.length L.rs) => Equal_any L L A A' c c' W (by omega) h1 h2)
  rw [decide_eq_true (rfl : L = L)] at HEQ
  have HNO := Lib.hid hop.none
  have HOW := Lib.hid hown
  have HCV := Lib.hid (right_cov hop (show cs.length ≤ 32768 by omega))
  have HBN := Lib.hid (fun (W : World) (hW : Below w0.heap.size w0 W) => ((hE.below hW).o.bars))
  have HDN := Lib.hid hdn
  have HCO := Lib.hid hco
  have HTX := Lib.hid htx
  have HGO := Lib.hid hgo
  have HT := Lib.hid hT
  have HSM := Lib.hid hsm
  have HA := Lib.hid hA
  have HBB := Lib.hid hb
  obtain ⟨lineS, hline⟩ : ∃ S : ByteArray, (⟨L.line.toArray⟩ : ByteArray) = S := ⟨_, rfl⟩
  rw [hline] at HPR HPA
  clear hco hgo hown hrl hll hdn htx hT hsm hA hb hE hop hline
  obtain ⟨i0, i1, kd, a, tx, rs, t0, t1, on⟩ := L
  obtain ⟨S, hS⟩ : ∃ S : ByteArray, (⟨tx.toArray⟩ : ByteArray) = S := ⟨_, rfl⟩
  have HS := Lib.hid hS
  obtain ⟨n, hn⟩ : ∃ n, rs.length = n := ⟨_, rfl⟩
  have HN := Lib.hid hn
  unfold ParseGood at HPA
  unfold OpL.val at HPR HPA HEQ ⊢
  simp only [hS, hn] at HPR HPA HEQ HNO hG HSM HA ⊢
  unfold opV at HPR HPA HEQ ⊢
  obtain ⟨w1, hw1⟩ : ∃ w1, w.alloc (.cells #[.int .i64 i0, .int .i64 i1, .int .i64 kd, .int .i64 a, .string S, .slice A n c, .int .i64 t0, .int .i64 t1, .bool on] 47) = w1 := ⟨_, rfl⟩
  have hB1 : Below w.heap.size w w1 := by rw [← hw1]; exact below_alloc1 _ _
  obtain ⟨gq, hgq⟩ : ∃ gq, w.heap.size = gq := ⟨_, rfl⟩
  have hy1 : w1.heap[gq]? = some (.cells (opC i0 i1 kd a S (.slice A n c) t0 t1 on) 47 (0, 0)) := by rw [← hw1, ← hgq]; exact heap_at rfl
  have HY1 := Lib.hid hy1
  have HGB := Lib.hid (show b < gq by omega)
  have HW1 := Lib.hid hw1
  have HGQ := Lib.hid hgq
  have HB1 := Lib.hid hB1
  have HBW1 := Lib.hid (hB.trans (hB1.mono hB.size))
  have HR1 := Lib.hid (hR.below hB1)
  have HG1 := Lib.hid (hG.below hB1)
  have HRU := Lib.hid (Runs_any b cs w1 HR1.out HTX.out)
  clear hw1 hgq hB1 hy1 hR hG hB hbl hS hn
  go_enter Tryz.func13, Tryz.ntmps13
  go_upto_region 1 with fail
  rw [HW1.out, HGQ.out]
  go_wp2_with fail
  refine HRU.out.mono ?_
  rintro e w2 ⟨⟨v2, rfl, ho2⟩, hb2⟩
  obtain ⟨A2, c2, rfl, hc2, hpi2⟩ := PcesIn.of_own ho2
  have HCE := Lib.hid (cells_any A2 c2 (runsL cs) w2 hpi2 (fun q hq => (good_pce HGO.out hq).1) (by rw [flat_runsL]; have := HT.out; omega) (by have := runsL_len cs; have := HT.out; omega))
  have HB12 := Lib.hid hb2
  clear ho2 hc2 hpi2 hb2 HRU
  go_wp2_with fail
  refine HCE.out.mono ?_
  rintro e w3 ⟨⟨v3, rfl, ho3⟩, hb3⟩
  rw [flat_runsL] at ho3
  obtain ⟨A3, c3, rfl, hci3, hA3⟩ := cells_own ho3
  have HB13 := Lib.hid (HB12.out.trans (hb3.mono HB12.out.size))
  have HBW3 := Lib.hid (HBW1.out.trans (HB13.out.mono HBW1.out.size))
  have HCI3 := Lib.hid hci3
  have HA3 := Lib.hid (show ∀ g off, A3 = some ⟨g, off, none⟩ → g ≠ b from fun g off e => by have := hA3 g off e; have := HGB.out; have := HB12.out.size; have := (Array.getElem?_eq_some_iff.1 HY1.out).1; omega)
  have HTE := Lib.hid (Text_any b cs w3 (HR1.out.below HB13.out) HTX.out)
  obtain ⟨nn, hnn⟩ : ∃ nn, cs.length = nn := ⟨_, rfl⟩
  have HNN := Lib.hid hnn
  rw [hnn]
  clear ho3 hci3 hA3 hb3 HCE hnn
  go_wp2_with fail
  refine HTE.out.mono ?_
  rintro e w4 ⟨rfl, hb4⟩
  have HB14 := Lib.hid (HB13.out.trans (hb4.mono HB13.out.size))
  have HBW4 := Lib.hid (HBW3.out.trans (hb4.mono HBW3.out.size))
  have HCI4 := Lib.hid (HCI3.out.below hb4)
  have ld := ldO_run ((HB14.out.block _ (Array.getElem?_eq_some_iff.1 HY1.out).1).trans HY1.out)
  obtain ⟨TX, hTXT⟩ : ∃ TX : ByteArray, Str (vis cs) = TX := ⟨_, rfl⟩
  have HTXT := Lib.hid hTXT
  rw [hTXT]
  clear hb4 HTE hTXT
  go_wp2_with fail
  refine (HPR.out w4 HBW4.out (HG1.out.below HB14.out)).mono ?_
  rintro e w5 ⟨rfl, hb5⟩
  have HB15 := Lib.hid (HB14.out.trans (hb5.mono HB14.out.size))
  have HBW5 := Lib.hid (HBW4.out.trans (hb5.mono HBW4.out.size))
  have HCI5 := Lib.hid (HCI4.out.below hb5)
  clear hb5 ld HPR
  go_wp2_with fail
  refine (HPA.out w5 HBW5.out).mono ?_
  rintro e w6 ⟨⟨A6, c6, rfl, hg6, hf6⟩, hb6⟩
  have HB16 := Lib.hid (HB15.out.trans (hb6.mono HB15.out.size))
  have HBW6 := Lib.hid (HBW5.out.trans (hb6.mono HBW5.out.size))
  have HCI6 := Lib.hid (HCI5.out.below hb6)
  have HG6 := Lib.hid hg6
  have hf := Fresh.new w6 (.int .i64 0) (.int .i64 0) (.int .i64 0) (.int .i64 0) (.string ⟨#[]⟩) (.slice none 0 0) (.int .i64 0) (.int .i64 0) (.bool false)
  clear hb6 hg6 hf6 HPA
  go_upto_region 5 with fail
  obtain ⟨w7, hw7⟩ : ∃ w7, (w6.alloc (.cells #[.int .i64 0, .int .i64 0, .int .i64 0, .int .i64 0, .string ⟨#[]⟩, .slice none 0 0, .int .i64 0, .int .i64 0, .bool false] 47)).setRow w6.heap.size (opC i0 i1 kd a S (.slice A6 n c6) t0 t1 on) = w7 := ⟨_, rfl⟩
  obtain ⟨gp, hgp⟩ : ∃ gp, w6.heap.size = gp := ⟨_, rfl⟩
  have hb7 : Below w6.heap.size w6 w7 := by rw [← hw7]; exact below_setRow (below_alloc1 _ _) (Nat.le_refl _) _
  have hy7 : w7.heap[gp]? = some (.cells (opC i0 i1 kd a S (.slice A6 n c6) t0 t1 on) 47 (0, 0)) := by rw [← hw7, ← hgp]; exact setRow_heap _ _ _ _ _ _ (heap_at rfl)
  unfold opC at hw7
  rw [hw7, hgp]
  have HB17 := Lib.hid (HB16.out.trans (hb7.mono HB16.out.size))
  have HBK := Lib.hid (BK.mk (b := b) (grown_of_below (HB1.out.trans (HB17.out.mono HB1.out.size))) (HBW6.out.trans (hb7.mono HBW6.out.size)) (HCI6.out.below hb7) ((HB17.out.block _ (Array.getElem?_eq_some_iff.1 HY1.out).1).trans HY1.out) (HG1.out.below HB17.out))
  have HR7 := Lib.hid (HR1.out.below HB17.out)
  have HE7 := Lib.hid (HEQ.out A6 c6 w7 HBK.out.rg (HG6.out.below hb7))
  have HNB := Lib.hid (show w0.heap.size ≤ b ∧ (∀ g off, A3 = some ⟨g, off, none⟩ → g ≠ b) ∧ gq ≠ b ∧ (∀ g off, A = some ⟨g, off, none⟩ → 0 < n → g ≠ b) from ⟨HBB.out, HA3.out, by have := HGB.out; omega, HA.out⟩)
  have ldp := ldO_run hy7
  have ldq := ldO_run HBK.out.box
  clear hf hw7 hgp hb7 hy7 HEQ HG6
  go_wp2_with fail
  refine HE7.out.mono ?_
  rintro e w8 ⟨he, hb8⟩
  obtain rfl : e = .returned (.bool true) := he
  have HBK8 := Lib.hid (HBK.out.step hb8)
  have HR8 := Lib.hid (HR7.out.below hb8)
  have ldq8 := ldO_run HBK8.out.box
  clear hb8 ldp ldq HE7 HBK HR7 HB17 HB16 HB15 HB14 HB13 HB12 HBW6 HBW5 HBW4 HBW3 HCI6 HCI5 HCI4 HCI3 HR1 HG1
  obtain ⟨kk, hkk⟩ : ∃ x, chk tx = x := ⟨_, rfl⟩
  go_upto_region 7 with fail
  cases HDN.out with
  | ins a' xs h =>
    obtain ⟨hkd, hat, hle, htx0, hne, hlen, htxt, hrs, hchk, hap⟩ := h
    simp only at hkd hat hle htx0 hne hlen htxt hrs hchk hap
    have HK0 : rs ≠ [] → kd = 2 ∨ kd = 3 := fun h => absurd hrs h
    have HLO : ∀ x ∈ rs, 0 ≤ x.1 := fun x hx => by rw [hrs] at hx; cases hx
    have HHI : ∀ x ∈ rs, x.2 ≤ (cs.length : Int) := fun x hx => by rw [hrs] at hx; cases hx
    have hs : ¬ stopsR kd rs cs := by rintro ⟨j, hj, _⟩; rw [hrs] at hj; exact absurd hj (by simp)
    have how : ownE i0 i1 kd a S (chk tx).1 (chk tx).2.2 rs t0 t1 on = 0 := by rw [← HS.out]; exact HOW.out
    obtain ⟨m, hm⟩ : ∃ m, xs.length = m := ⟨_, rfl⟩
    have HM := Lib.hid hm
    have hcv : covR i0 i1 kd a S (chk tx).1 (chk tx).2.2 rs t0 t1 on = [((a' : Int), (a' : Int) + (m : Int))] := by
      rw [← HS.out]; refine HCV.out.trans ((if_pos hkd).trans ?_); simp only [hchk, hat, hm]
    have hno := HNO.out
    have hS2 : S = Str xs := by rw [← HS.out, htx0]; exact str_of xs
    have HCK := Lib.hid (show (if kd = 1 then (chk tx).1 else 0) = m by rw [if_pos hkd, hchk]; exact hm)
    have HAP := Lib.hid (fun (W : World) (hW : Below w0.heap.size w0 W) (hg : Ranges W A n rs) (hr : Rope W b cs) => Apply_any b cs i0 i1 kd a S A n c rs t0 t1 on (chk tx).1 (chk tx).2.1 (chk tx).2.2 xs (by rw [← HS.out]) (fun _ => by rw [← HS.out]; exact ⟨htx0, by rw [hchk], htxt⟩) W hr (by rw [← HS.out, L_size]; have := HSM.out; unfold maxLen; omega) (by have := HSM.out; omega) hg (HBN.out W hW))
    have HST := Lib.hid (fun (W : World) (hc : CellsIn W A3 cs) (hg : Ranges W A n rs) => stops_gen A3 A c3 n c cs rs i0 i1 kd a t0 t1 S on W HK0 hc hg HLO HHI (by have := HT.out; omega) (by have := HSM.out; have := HN.out; omega))
    have HIN := Lib.hid (fun (W : World) (hW : Below w0.heap.size w0 W) (hg : Ranges W A n rs) => Inverse_any i0 i1 kd a S A n c rs t0 t1 on (chk tx).1 (chk tx).2.1 (chk tx).2.2 (by rw [← HS.out]) W (by rw [← HS.out, L_size]; have := HSM.out; unfold maxLen; omega) (by have := HSM.out; omega) hg (HBN.out W hW) 0 how)
    rw [HS.out] at hap
    rw [hap] at HAP
    rw [hcv] at HIN
    obtain ⟨cs1, hcs1⟩ : ∃ cs1, insC cs a' xs 0 = cs1 := ⟨_, rfl⟩
    obtain ⟨cs2, hcs2⟩ : ∃ cs2, insC cs a' xs 1 = cs2 := ⟨_, rfl⟩
    have hl1 : cs1.length = cs.length + m := by rw [← hcs1, insC_len xs 0 hle, hm]
    have hl2 : cs2.length = cs.length + m := by rw [← hcs2, insC_len xs 1 hle, hm]
    have htx1 : ∀ c ∈ cs1, TxtRune c.1 := by rw [← hcs1]; exact insC_txt HTX.out htxt
    have htx2 : ∀ c ∈ cs2, TxtRune c.1 := by rw [← hcs2]; exact insC_txt HTX.out htxt
    have hco1 : Cok cs1 := by rw [← hcs1]; exact insC_cok HCO.out (by unfold M; decide)
    have hco2 : Cok cs2 := by rw [← hcs2]; exact insC_cok HCO.out (by unfold M; decide)
    have hap2 := ins_back hle hne (by have := HT.out; omega) HCO.out
    rw [hcs1, hcs2, hm] at hap2
    rw [hcs1] at HAP
    have HGO1 : Hid (Good cs1) := Lib.hid (fun c hc => ⟨htx1 c hc, (hco1 c hc).1, (hco1 c hc).2⟩)
    have HGO2 : Hid (Good cs2) := Lib.hid (fun c hc => ⟨htx2 c hc, (hco2 c hc).1, (hco2 c hc).2⟩)
    have HTX2 := Lib.hid htx2
    have HT1 := Lib.hid (show cs1.length ≤ 16384 by have := HT.out; omega)
    have HT2 := Lib.hid (show cs2.length ≤ 16384 by have := HT.out; omega)
    have HL2 := Lib.hid hl2
    have HVI := Lib.hid (show vis cs2 = vis cs by rw [← hcs2]; exact vis_insC1 cs a' xs)
    have HGR1 := Lib.hid (fun (A12 : Option Addr) (c12 : Nat) (W : World) (h1 : CellsIn W A3 cs) (h2 : CellsIn W A12 cs1) => grown_any A3 A12 c3 c12 cs a' xs 0 W hle htxt h1 (by rw [hcs1]; exact h2) (by have := HT.out; omega) (by omega))
    have HGR2 := Lib.hid (fun (A12 : Option Addr) (c12 : Nat) (W : World) (h1 : CellsIn W A3 cs) (h2 : CellsIn W A12 cs2) => grown_any A3 A12 c3 c12 cs a' xs 1 W hle htxt h1 (by rw [hcs2]; exact h2) (by have := HT.out; omega) (by omega))
    rw [hcs1, HNN.out, ← hS2] at HGR1
    rw [hcs2, HNN.out, ← hS2] at HGR2
    have HAP2 := Lib.hid (fun (W : World) (A' : Option Addr) (c' : Nat) (hW : Below w0.heap.size w0 W) (hg : Ranges W A' 1 [((a' : Int), (a' : Int) + (m : Int))]) (hr : Rope W b cs1) => Apply_any b cs1 0 0 2 0 ⟨#[]⟩ A' 1 c' [((a' : Int), (a' : Int) + (m : Int))] 0 0 false 0 0 0 [] chk_nil0 (fun _ => ⟨rfl, rfl, fun r hr => by cases hr⟩) W hr (by decide) (by omega) hg (HBN.out W hW))
    rw [hap2] at HAP2
    unfold opV at HAP HST HIN HAP2
    rw [HNN.out] at HST
    rw [hrs] at HN
    obtain rfl : n = 0 := HN.out.symm
    obtain ⟨n1, hn1⟩ : ∃ n1, cs1.length = n1 := ⟨_, rfl⟩
    obtain ⟨n2, hn2⟩ : ∃ n2, cs2.length = n2 := ⟨_, rfl⟩
    rw [hn1] at HGR1
    rw [hn2] at HGR2
    have HN1 := Lib.hid hn1
    have HN2 := Lib.hid hn2
    clear hkk hap hap2 HK0 HLO HHI hle hne hlen hrs htx0 hco1 hco2 htx1 htx2 hl1 hl2 hcs1 hcs2 how hcv hchk hm hS2 htxt hn1 hn2
    obtain ⟨hno0, hno1, hno2⟩ := hno
    subst hno0 hno1 hno2 hkd hat
    rw [show invK 0 1 = 2 from rfl, ite_self, if_neg (by decide)] at HIN
    go_wp2_with fail
    refine (HST.out w8 HBK8.out.was HBK8.out.rg).mono ?_
    rintro e w9 ⟨⟨bo, rfl, hbo⟩, hb9⟩
    obtain rfl : bo = false := by cases bo with | false => rfl | true => exact absurd (hbo.1 rfl) hs
    have HBK9 := Lib.hid (HBK8.out.step hb9)
    have HR9 := Lib.hid (HR8.out.below hb9)
    have ldq9 := ldO_run HBK9.out.box
    clear hb9 hbo ldq8 HST HBK8 HR8
    go_wp2_with fail
    refine (HAP.out w9 HBK9.out.below HBK9.out.rg HR9.out).mono ?_
    rintro e w10 ⟨he, hr10, hg10⟩
    have he' : e = .returned (.int .i64 0) := he
    subst he'
    clear he
    have HBK10 := Lib.hid (HBK9.out.keep hg10 HNB.out)
    have HR10 := Lib.hid (show Rope w10 b cs1 from hr10)
    clear hr10 hg10 HAP ldq9 HBK9 HR9
    have HRU := Lib.hid (Runs_any b cs1 w10 HR10.out (fun c hc => (HGO1.out c hc).1))
    go_wp2_with fail
    refine HRU.out.mono ?_
    rintro e w11 ⟨⟨v11, rfl, ho11⟩, hb11⟩
    obtain ⟨A11, c11, rfl, hc11, hpi11⟩ := PcesIn.of_own ho11
    have HCE := Lib.hid (cells_any A11 c11 (runsL cs1) w11 hpi11 (fun q hq => (good_pce HGO1.out hq).1) (by rw [flat_runsL]; have := HT1.out; omega) (by have := runsL_len cs1; have := HT1.out; omega))
    have HBK11 := Lib.hid (HBK10.out.step hb11)
    have HR11 := Lib.hid (HR10.out.below hb11)
    clear ho11 hc11 hpi11 hb11 HRU
    go_wp2_with fail
    refine HCE.out.mono ?_
    rintro e w12 ⟨⟨v12, rfl, ho12⟩, hb12⟩
    rw [flat_runsL] at ho12
    obtain ⟨A12, c12, rfl, hci12, hA12⟩ := cells_own ho12
    have HBK12 := Lib.hid (HBK11.out.step hb12)
    have HR12 := Lib.hid (HR11.out.below hb12)
    have HCI12 := Lib.hid hci12
    clear ho12 hci12 hA12 hb12 HCE HBK11 HR11
    rw [HN1.out]
    have x2 : w12.cell? ⟨gq, 2, none⟩ = some (.int .i64 1) := by rw [Lib.cell_of_heap HBK12.out.box]; rfl
    have x3 : w12.cell? ⟨gq, 3, none⟩ = some (.int .i64 a') := by rw [Lib.cell_of_heap HBK12.out.box]; rfl
    have x4 : w12.cell? ⟨gq, 4, none⟩ = some (.string S) := by rw [Lib.cell_of_heap HBK12.out.box]; rfl
    go_wp2_with fail
    refine (HGR1.out A12 c12 w12 HBK12.out.was HCI12.out).mono ?_
    rintro e w13 ⟨rfl, hb13⟩
    have HBK13 := Lib.hid (HBK12.out.step hb13)
    have HR13 := Lib.hid (HR12.out.below hb13)
    have ldq13 := ldO_run HBK13.out.box
    clear hb13 x2 x3 x4 HGR1 HBK12 HR12
    go_wp2_with fail
    refine (HIN.out w13 HBK13.out.below HBK13.out.rg).mono ?_
    rintro e w14 ⟨⟨A14, m14, c14, rfl, ho14⟩, hb14⟩
    obtain ⟨hm14, hrg14, hlt14⟩ := inv_rg ho14
    rw [show [((a' : Int), (a' : Int) + (m : Int))].length = 1 from rfl] at hm14 hrg14
    obtain rfl := hm14.symm
    unfold opV
    have HBK14 := Lib.hid (HBK13.out.step hb14)
    have HR14 := Lib.hid (HR13.out.below hb14)
    have HRG14 := Lib.hid hrg14
    have hf := Fresh.new w14 (.int .i64 0) (.int .i64 0) (.int .i64 0) (.int .i64 0) (.string ⟨#[]⟩) (.slice none 0 0) (.int .i64 0) (.int .i64 0) (.bool false)
    clear ho14 hb14 hrg14 hlt14 ldq13 HBK13 HR13 HIN
    go_upto_region 22 with fail
    obtain ⟨w15, hw15⟩ : ∃ w15, (w14.alloc (.cells #[.int .i64 0, .int .i64 0, .int .i64 0, .int .i64 0, .string ⟨#[]⟩, .slice none 0 0, .int .i64 0, .int .i64 0, .bool false] 47)).setRow w14.heap.size (opC 0 0 2 0 ⟨#[]⟩ (.slice A14 1 c14) 0 0 false) = w15 := ⟨_, rfl⟩
    obtain ⟨gi, hgi⟩ : ∃ gi, w14.heap.size = gi := ⟨_, rfl⟩
    have hb15 : Below w14.heap.size w14 w15 := by rw [← hw15]; exact below_setRow (below_alloc1 _ _) (Nat.le_refl _) _
    have hy15 : w15.heap[gi]? = some (.cells (opC 0 0 2 0 ⟨#[]⟩ (.slice A14 1 c14) 0 0 false) 47 (0, 0)) := by rw [← hw15, ← hgi]; exact setRow_heap _ _ _ _ _ _ (heap_at rfl)
    unfold opC at hw15
    rw [hw15, hgi]
    have HBK15 := Lib.hid (HBK14.out.step hb15)
    have HR15 := Lib.hid (HR14.out.below hb15)
    have HRG15 := Lib.hid (HRG14.out.below hb15)
    have ldi := ldO_run hy15
    clear hf hw15 hgi hb15 hy15 HBK14 HR14 HRG14
    go_wp2_with fail
    refine (HAP2.out w15 A14 c14 HBK15.out.below HRG15.out HR15.out).mono ?_
    rintro e w16 ⟨he, hr16, hg16⟩
    have he' : e = .returned (.int .i64 0) := he
    subst he'
    clear he
    have HBK16 := Lib.hid (HBK15.out.keep hg16 HNB.out)
    have HR16 := Lib.hid (show Rope w16 b cs2 from hr16)
    clear hr16 hg16 HAP2 ldi HBK15 HR15 HRG15
    have HTE := Lib.hid (Text_any b cs2 w16 HR16.out HTX2.out)
    rw [HVI.out, HTXT.out] at HTE
    go_wp2_with fail
    refine HTE.out.mono ?_
    rintro e w17 ⟨rfl, hb17⟩
    have HBK17 := Lib.hid (HBK16.out.step hb17)
    have HR17 := Lib.hid (HR16.out.below hb17)
    clear hb17 HTE HBK16 HR16
    have HRU := Lib.hid (Runs_any b cs2 w17 HR17.out (fun c hc => (HGO2.out c hc).1))
    go_wp2_with fail
    refine HRU.out.mono ?_
    rintro e w18 ⟨⟨v18, rfl, ho18⟩, hb18⟩
    obtain ⟨A18, c18, rfl, hc18, hpi18⟩ := PcesIn.of_own ho18
    have HCE := Lib.hid (cells_any A18 c18 (runsL cs2) w18 hpi18 (fun q hq => (good_pce HGO2.out hq).1) (by rw [flat_runsL]; have := HT2.out; omega) (by have := runsL_len cs2; have := HT2.out; omega))
    have HBK18 := Lib.hid (HBK17.out.step hb18)
    have HR18 := Lib.hid (HR17.out.below hb18)
    clear ho18 hc18 hpi18 hb18 HRU
    go_wp2_with fail
    refine HCE.out.mono ?_
    rintro e w19 ⟨⟨v19, rfl, ho19⟩, hb19⟩
    rw [flat_runsL] at ho19
    obtain ⟨A19, c19, rfl, hci19, hA19⟩ := cells_own ho19
    have HBK19 := Lib.hid (HBK18.out.step hb19)
    have HR19 := Lib.hid (HR18.out.below hb19)
    have HCI19 := Lib.hid hci19
    clear ho19 hci19 hA19 hb19 HCE HBK18 HR18
    rw [HN2.out]
    have x2 : w19.cell? ⟨gq, 2, none⟩ = some (.int .i64 1) := by rw [Lib.cell_of_heap HBK19.out.box]; rfl
    have x3 : w19.cell? ⟨gq, 3, none⟩ = some (.int .i64 a') := by rw [Lib.cell_of_heap HBK19.out.box]; rfl
    have x4 : w19.cell? ⟨gq, 4, none⟩ = some (.string S) := by rw [Lib.cell_of_heap HBK19.out.box]; rfl
    go_wp2_with fail
    refine (HGR2.out A19 c19 w19 HBK19.out.was HCI19.out).mono ?_
    rintro e w20 ⟨rfl, hb20⟩
    have HBK20 := Lib.hid (HBK19.out.step hb20)
    have HR20 := Lib.hid (HR19.out.below hb20)
    clear hb20 x2 x3 x4 HGR2
    go_wp2_with fail
    go_ret
    exact ⟨rfl, cs2, HR20.out, HTX2.out, by have h1 := HCK.out; have h2 := HL2.out; simp at h1; show cs2.length = cs.length + (chk tx).1; omega, HBK20.out.gr⟩
  | stop h hs =>
    obtain ⟨hkd, ha0, htx0, hnrm, hhi, hne, hlen, hap, _⟩ := h
    simp only at hkd ha0 htx0 hnrm hhi hne hlen hap hs
    have hap := hap hs
    have HK0 : rs ≠ [] → kd = 2 ∨ kd = 3 := fun _ => hkd
    have HLO : ∀ x ∈ rs, 0 ≤ x.1 := fun x hx => Nrm.lo hnrm x hx
    have HHI := hhi
    have HAP := Lib.hid (fun (W : World) (hW : Below w0.heap.size w0 W) (hg : Ranges W A n rs) (hr : Rope W b cs) => Apply_any b cs i0 i1 kd a S A n c rs t0 t1 on (chk tx).1 (chk tx).2.1 (chk tx).2.2 [] (by rw [← HS.out]) (fun _ => by rw [← HS.out, htx0]; exact ⟨rfl, rfl, fun r hr => by cases hr⟩) W hr (by rw [← HS.out, L_size]; have := HSM.out; unfold maxLen; omega) (by have := HSM.out; omega) hg (HBN.out W hW))
    have HST := Lib.hid (fun (W : World) (hc : CellsIn W A3 cs) (hg : Ranges W A n rs) => stops_gen A3 A c3 n c cs rs i0 i1 kd a t0 t1 S on W HK0 hc hg HLO HHI (by have := HT.out; omega) (by have := HSM.out; have := HN.out; omega))
    rw [HS.out] at hap
    rw [hap] at HAP
    unfold opV at HAP HST
    rw [HNN.out] at HST
    clear hkk hap HK0 HLO HHI hnrm hhi hne hlen ha0 htx0
    rcases hkd with rfl | rfl
    · rw [if_pos rfl] at HAP
      go_wp2_with fail
      refine (HST.out w8 HBK8.out.was HBK8.out.rg).mono ?_
      rintro e w9 ⟨⟨bo, rfl, hbo⟩, hb9⟩
      obtain rfl : bo = true := hbo.2 hs
      have HBK9 := Lib.hid (HBK8.out.step hb9)
      have HR9 := Lib.hid (HR8.out.below hb9)
      have ldq9 := ldO_run HBK9.out.box
      clear hb9 hbo ldq8 HST HBK8 HR8
      go_wp2_with fail
      refine (HAP.out w9 HBK9.out.below HBK9.out.rg HR9.out).mono ?_
      rintro e w10 ⟨he, hr10, hg10⟩
      have he' : e = .returned (.int .i64 31) := he
      subst he'
      clear he
      have HBK10 := Lib.hid (HBK9.out.keep hg10 HNB.out)
      have HR10 := Lib.hid (show Rope w10 b cs from hr10)
      clear hr10 hg10 HAP ldq9 HBK9 HR9
      have HRU := Lib.hid (Runs_any b cs w10 HR10.out (fun c hc => (HGO.out c hc).1))
      go_wp2_with fail
      refine HRU.out.mono ?_
      rintro e w11 ⟨⟨v11, rfl, ho11⟩, hb11⟩
      obtain ⟨A11, c11, rfl, hc11, hpi11⟩ := PcesIn.of_own ho11
      have HCE := Lib.hid (cells_any A11 c11 (runsL cs) w11 hpi11 (fun q hq => (good_pce HGO.out hq).1) (by rw [flat_runsL]; have := HT.out; omega) (by have := runsL_len cs; have := HT.out; omega))
      have HBK11 := Lib.hid (HBK10.out.step hb11)
      have HR11 := Lib.hid (HR10.out.below hb11)
      clear ho11 hc11 hpi11 hb11 HRU
      go_wp2_with fail
      refine HCE.out.mono ?_
      rintro e w12 ⟨⟨v12, rfl, ho12⟩, hb12⟩
      rw [flat_runsL] at ho12
      obtain ⟨A12, c12, rfl, hci12, hA12⟩ := cells_own ho12
      have HBK12 := Lib.hid (HBK11.out.step hb12)
      have HR12 := Lib.hid (HR11.out.below hb12)
      have HCI12 := Lib.hid hci12
      clear ho12 hci12 hA12 hb12 HCE HBK11 HR11
      have HBU := Lib.hid (bumped_any A3 A12 none c3 c12 0 0 cs cs [] 0 w12 (by rw [bumpC_nil]) trivial HBK12.out.was HCI12.out (Ranges.none _ _) (by have := HT.out; omega) (by simp) (by omega) HCO.out)
      rw [HNN.out] at HBU ⊢
      have x2 : w12.cell? ⟨gq, 2, none⟩ = some (.int .i64 2) := by rw [Lib.cell_of_heap HBK12.out.box]; rfl
      go_wp2_with fail
      refine HBU.out.mono ?_
      rintro e w13 ⟨rfl, hb13⟩
      have HBK13 := Lib.hid (HBK12.out.step hb13)
      have HR13 := Lib.hid (HR12.out.below hb13)
      clear hb13 x2 HBU
      go_wp2_with fail
      go_ret
      exact ⟨rfl, cs, HR13.out, HTX.out, by rw [if_neg (by simp)]; rfl, HBK13.out.gr⟩
    · rw [if_neg (by decide)] at HAP
      go_wp2_with fail
      refine (HST.out w8 HBK8.out.was HBK8.out.rg).mono ?_
      rintro e w9 ⟨⟨bo, rfl, hbo⟩, hb9⟩
      obtain rfl : bo = true := hbo.2 hs
      have HBK9 := Lib.hid (HBK8.out.step hb9)
      have HR9 := Lib.hid (HR8.out.below hb9)
      have ldq9 := ldO_run HBK9.out.box
      clear hb9 hbo ldq8 HST HBK8 HR8
      go_wp2_with fail
      refine (HAP.out w9 HBK9.out.below HBK9.out.rg HR9.out).mono ?_
      rintro e w10 ⟨he, hr10, hg10⟩
      have he' : e = .returned (.int .i64 30) := he
      subst he'
      clear he
      have HBK10 := Lib.hid (HBK9.out.keep hg10 HNB.out)
      have HR10 := Lib.hid (show Rope w10 b cs from hr10)
      clear hr10 hg10 HAP ldq9 HBK9 HR9
      have HRU := Lib.hid (Runs_any b cs w10 HR10.out (fun c hc => (HGO.out c hc).1))
      go_wp2_with fail
      refine HRU.out.mono ?_
      rintro e w11 ⟨⟨v11, rfl, ho11⟩, hb11⟩
      obtain ⟨A11, c11, rfl, hc11, hpi11⟩ := PcesIn.of_own ho11
      have HCE := Lib.hid (cells_any A11 c11 (runsL cs) w11 hpi11 (fun q hq => (good_pce HGO.out hq).1) (by rw [flat_runsL]; have := HT.out; omega) (by have := runsL_len cs; have := HT.out; omega))
      have HBK11 := Lib.hid (HBK10.out.step hb11)
      have HR11 := Lib.hid (HR10.out.below hb11)
      clear ho11 hc11 hpi11 hb11 HRU
      go_wp2_with fail
      refine HCE.out.mono ?_
      rintro e w12 ⟨⟨v12, rfl, ho12⟩, hb12⟩
      rw [flat_runsL] at ho12
      obtain ⟨A12, c12, rfl, hci12, hA12⟩ := cells_own ho12
      have HBK12 := Lib.hid (HBK11.out.step hb12)
      have HR12 := Lib.hid (HR11.out.below hb12)
      have HCI12 := Lib.hid hci12
      clear ho12 hci12 hA12 hb12 HCE HBK11 HR11
      have HBU := Lib.hid (bumped_any A3 A12 none c3 c12 0 0 cs cs [] 0 w12 (by rw [bumpC_nil]) trivial HBK12.out.was HCI12.out (Ranges.none _ _) (by have := HT.out; omega) (by simp) (by omega) HCO.out)
      rw [HNN.out] at HBU ⊢
      have x2 : w12.cell? ⟨gq, 2, none⟩ = some (.int .i64 3) := by rw [Lib.cell_of_heap HBK12.out.box]; rfl
      go_wp2_with fail
      refine HBU.out.mono ?_
      rintro e w13 ⟨rfl, hb13⟩
      have HBK13 := Lib.hid (HBK12.out.step hb13)
      have HR13 := Lib.hid (HR12.out.below hb13)
      clear hb13 x2 HBU
      go_wp2_with fail
      go_ret
      exact ⟨rfl, cs, HR13.out, HTX.out, by rw [if_neg (by simp)]; rfl, HBK13.out.gr⟩
  | done h hs =>
    obtain ⟨hkd, ha0, htx0, hnrm, hhi, hne, hlen, _, hap⟩ := h
    simp only at hkd ha0 htx0 hnrm hhi hne hlen hap hs
    obtain ⟨hap, hco1, hap2⟩ := hap hs
    have HK0 : rs ≠ [] → kd = 2 ∨ kd = 3 := fun _ => hkd
    have HLO : ∀ x ∈ rs, 0 ≤ x.1 := fun x hx => Nrm.lo hnrm x hx
    have HHI := hhi
    have how : ownE i0 i1 kd a S (chk tx).1 (chk tx).2.2 rs t0 t1 on = 0 := by rw [← HS.out]; exact HOW.out
    have hcv : covR i0 i1 kd a S (chk tx).1 (chk tx).2.2 rs t0 t1 on = rs := by
      rw [← HS.out]; exact HCV.out.trans (if_neg (by show ¬ kd = 1; omega))
    have hno := HNO.out
    have HRL := Lib.hid (show rs.length ≤ 32768 from hlen)
    have HAP := Lib.hid (fun (W : World) (hW : Below w0.heap.size w0 W) (hg : Ranges W A n rs) (hr : Rope W b cs) => Apply_any b cs i0 i1 kd a S A n c rs t0 t1 on (chk tx).1 (chk tx).2.1 (chk tx).2.2 [] (by rw [← HS.out]) (fun _ => by rw [← HS.out, htx0]; exact ⟨rfl, rfl, fun r hr => by cases hr⟩) W hr (by rw [← HS.out, L_size]; have := HSM.out; unfold maxLen; omega) (by have := HSM.out; omega) hg (HBN.out W hW))
    have HST := Lib.hid (fun (W : World) (hc : CellsIn W A3 cs) (hg : Ranges W A n rs) => stops_gen A3 A c3 n c cs rs i0 i1 kd a t0 t1 S on W HK0 hc hg HLO HHI (by have := HT.out; omega) (by have := HSM.out; have := HN.out; omega))
    have HIN := Lib.hid (fun (W : World) (hW : Below w0.heap.size w0 W) (hg : Ranges W A n rs) => Inverse_any i0 i1 kd a S A n c rs t0 t1 on (chk tx).1 (chk tx).2.1 (chk tx).2.2 (by rw [← HS.out]) W (by rw [← HS.out, L_size]; have := HSM.out; unfold maxLen; omega) (by have := HSM.out; omega) hg (HBN.out W hW) 0 how)
    rw [HS.out] at hap
    rw [hap] at HAP
    rw [hcv] at HIN
    obtain ⟨cs1, hcs1⟩ : ∃ cs1, bumpC (dK kd) rs cs = cs1 := ⟨_, rfl⟩
    have hl1 : cs1.length = cs.length := by rw [← hcs1, bumpC_len]
    have htx1 : ∀ c ∈ cs1, TxtRune c.1 := by rw [← hcs1]; exact (bump_txt HTX.out).1
    rw [hcs1] at HAP hco1 hap2
    have HGO1 : Hid (Good cs1) := Lib.hid (fun c hc => ⟨htx1 c hc, (hco1 c hc).1, (hco1 c hc).2⟩)
    have HT1 := Lib.hid (show cs1.length ≤ 16128 by have := HT.out; omega)
    have HL1 := Lib.hid (show cs1.length = nn by rw [hl1]; exact HNN.out)
    have HC1 := Lib.hid hcs1
    have HAP2 := Lib.hid (fun (W : World) (A' : Option Addr) (c' : Nat) (hW : Below w0.heap.size w0 W) (hg : Ranges W A' n rs) (hr : Rope W b cs1) => Apply_any b cs1 0 0 (5 - kd) 0 ⟨#[]⟩ A' n c' rs 0 0 false 0 0 0 [] chk_nil0 (fun _ => ⟨rfl, rfl, fun r hr => by cases hr⟩) W hr (by decide) (by have := HSM.out; omega) hg (HBN.out W hW))
    rw [hap2] at HAP2
    have HNR := Lib.hid hnrm
    unfold opV at HAP HST HIN HAP2
    rw [HNN.out] at HST
    clear hkk hap hap2 HK0 HLO HHI hnrm hhi hne hlen ha0 htx0 hco1 htx1 hl1 hcs1 how hcv
    obtain ⟨hn0, hn1, hn2⟩ := hno
    subst hn0 hn1 hn2
    rcases hkd with rfl | rfl
    · rw [show invK 0 2 = 3 from rfl, ite_self, if_neg (by decide)] at HIN
      rw [show (5 : Int) - 2 = 3 from rfl] at HAP2
      go_wp2_with fail
      refine (HST.out w8 HBK8.out.was HBK8.out.rg).mono ?_
      rintro e w9 ⟨⟨bo, rfl, hbo⟩, hb9⟩
      obtain rfl : bo = false := by cases bo with | false => rfl | true => exact absurd (hbo.1 rfl) hs
      have HBK9 := Lib.hid (HBK8.out.step hb9)
      have HR9 := Lib.hid (HR8.out.below hb9)
      have ldq9 := ldO_run HBK9.out.box
      clear hb9 hbo ldq8 HST HBK8 HR8
      go_wp2_with fail
      refine (HAP.out w9 HBK9.out.below HBK9.out.rg HR9.out).mono ?_
      rintro e w10 ⟨he, hr10, hg10⟩
      have he' : e = .returned (.int .i64 0) := he
      subst he'
      clear he
      have HBK10 := Lib.hid (HBK9.out.keep hg10 HNB.out)
      have HR10 := Lib.hid (show Rope w10 b cs1 from hr10)
      clear hr10 hg10 HAP ldq9 HBK9 HR9
      have HRU := Lib.hid (Runs_any b cs1 w10 HR10.out (fun c hc => (HGO1.out c hc).1))
      go_wp2_with fail
      refine HRU.out.mono ?_
      rintro e w11 ⟨⟨v11, rfl, ho11⟩, hb11⟩
      obtain ⟨A11, c11, rfl, hc11, hpi11⟩ := PcesIn.of_own ho11
      have HCE := Lib.hid (cells_any A11 c11 (runsL cs1) w11 hpi11 (fun q hq => (good_pce HGO1.out hq).1) (by rw [flat_runsL]; have := HT1.out; omega) (by have := runsL_len cs1; have := HT1.out; omega))
      have HBK11 := Lib.hid (HBK10.out.step hb11)
      have HR11 := Lib.hid (HR10.out.below hb11)
      clear ho11 hc11 hpi11 hb11 HRU
      go_wp2_with fail
      refine HCE.out.mono ?_
      rintro e w12 ⟨⟨v12, rfl, ho12⟩, hb12⟩
      rw [flat_runsL] at ho12
      obtain ⟨A12, c12, rfl, hci12, hA12⟩ := cells_own ho12
      have HBK12 := Lib.hid (HBK11.out.step hb12)
      have HR12 := Lib.hid (HR11.out.below hb12)
      have HCI12 := Lib.hid hci12
      clear ho12 hci12 hA12 hb12 HCE HBK11 HR11
      have HBU := Lib.hid (bumped_any A3 A12 A c3 c12 n c cs cs1 rs 1 w12 HC1.out.symm HNR.out HBK12.out.was HCI12.out HBK12.out.rg (by have := HT.out; omega) (by have := HRL.out; omega) (by omega) HCO.out)
      rw [HNN.out, HL1.out] at HBU
      rw [HL1.out]
      have x2 : w12.cell? ⟨gq, 2, none⟩ = some (.int .i64 2) := by rw [Lib.cell_of_heap HBK12.out.box]; rfl
      have x5 : w12.cell? ⟨gq, 5, none⟩ = some (.slice A n c) := by rw [Lib.cell_of_heap HBK12.out.box]; rfl
      go_wp2_with fail
      refine HBU.out.mono ?_
      rintro e w13 ⟨rfl, hb13⟩
      have HBK13 := Lib.hid (HBK12.out.step hb13)
      have HR13 := Lib.hid (HR12.out.below hb13)
      have y2 : w13.cell? ⟨gq, 2, none⟩ = some (.int .i64 2) := by rw [Lib.cell_of_heap HBK13.out.box]; rfl
      have ldq13 := ldO_run HBK13.out.box
      clear hb13 x2 x5 HBU HBK12 HR12
      go_wp2_with fail
      clear y2
      refine (HIN.out w13 HBK13.out.below HBK13.out.rg).mono ?_
      rintro e w14 ⟨⟨A14, m14, c14, rfl, ho14⟩, hb14⟩
      obtain ⟨hm14, hrg14, hlt14⟩ := inv_rg ho14
      rw [HN.out] at hm14 hrg14
      obtain rfl := hm14.symm
      unfold opV
      have HBK14 := Lib.hid (HBK13.out.step hb14)
      have HR14 := Lib.hid (HR13.out.below hb14)
      have HRG14 := Lib.hid hrg14
      have hf := Fresh.new w14 (.int .i64 0) (.int .i64 0) (.int .i64 0) (.int .i64 0) (.string ⟨#[]⟩) (.slice none 0 0) (.int .i64 0) (.int .i64 0) (.bool false)
      clear ho14 hb14 hrg14 hlt14 ldq13 HBK13 HR13 HIN
      go_upto_region 22 with fail
      obtain ⟨w15, hw15⟩ : ∃ w15, (w14.alloc (.cells #[.int .i64 0, .int .i64 0, .int .i64 0, .int .i64 0, .string ⟨#[]⟩, .slice none 0 0, .int .i64 0, .int .i64 0, .bool false] 47)).setRow w14.heap.size (opC 0 0 3 0 ⟨#[]⟩ (.slice A14 n c14) 0 0 false) = w15 := ⟨_, rfl⟩
      obtain ⟨gi, hgi⟩ : ∃ gi, w14.heap.size = gi := ⟨_, rfl⟩
      have hb15 : Below w14.heap.size w14 w15 := by rw [← hw15]; exact below_setRow (below_alloc1 _ _) (Nat.le_refl _) _
      have hy15 : w15.heap[gi]? = some (.cells (opC 0 0 3 0 ⟨#[]⟩ (.slice A14 n c14) 0 0 false) 47 (0, 0)) := by rw [← hw15, ← hgi]; exact setRow_heap _ _ _ _ _ _ (heap_at rfl)
      unfold opC at hw15
      rw [hw15, hgi]
      have HBK15 := Lib.hid (HBK14.out.step hb15)
      have HR15 := Lib.hid (HR14.out.below hb15)
      have HRG15 := Lib.hid (HRG14.out.below hb15)
      have ldi := ldO_run hy15
      clear hf hw15 hgi hb15 hy15 HBK14 HR14 HRG14
      go_wp2_with fail
      refine (HAP2.out w15 A14 c14 HBK15.out.below HRG15.out HR15.out).mono ?_
      rintro e w16 ⟨he, hr16, hg16⟩
      have he' : e = .returned (.int .i64 0) := he
      subst he'
      clear he
      have HBK16 := Lib.hid (HBK15.out.keep hg16 HNB.out)
      have HR16 := Lib.hid (show Rope w16 b cs from hr16)
      clear hr16 hg16 HAP2 ldi HBK15 HR15 HRG15
      have HTE := Lib.hid (Text_any b cs w16 HR16.out HTX.out)
      rw [HTXT.out] at HTE
      go_wp2_with fail
      refine HTE.out.mono ?_
      rintro e w17 ⟨rfl, hb17⟩
      have HBK17 := Lib.hid (HBK16.out.step hb17)
      have HR17 := Lib.hid (HR16.out.below hb17)
      clear hb17 HTE HBK16 HR16
      have HRU := Lib.hid (Runs_any b cs w17 HR17.out (fun c hc => (HGO.out c hc).1))
      go_wp2_with fail
      refine HRU.out.mono ?_
      rintro e w18 ⟨⟨v18, rfl, ho18⟩, hb18⟩
      obtain ⟨A18, c18, rfl, hc18, hpi18⟩ := PcesIn.of_own ho18
      have HCE := Lib.hid (cells_any A18 c18 (runsL cs) w18 hpi18 (fun q hq => (good_pce HGO.out hq).1) (by rw [flat_runsL]; have := HT.out; omega) (by have := runsL_len cs; have := HT.out; omega))
      have HBK18 := Lib.hid (HBK17.out.step hb18)
      have HR18 := Lib.hid (HR17.out.below hb18)
      clear ho18 hc18 hpi18 hb18 HRU
      go_wp2_with fail
      refine HCE.out.mono ?_
      rintro e w19 ⟨⟨v19, rfl, ho19⟩, hb19⟩
      rw [flat_runsL] at ho19
      obtain ⟨A19, c19, rfl, hci19, hA19⟩ := cells_own ho19
      have HBK19 := Lib.hid (HBK18.out.step hb19)
      have HR19 := Lib.hid (HR18.out.below hb19)
      have HCI19 := Lib.hid hci19
      clear ho19 hci19 hA19 hb19 HCE HBK18 HR18
      have HBU := Lib.hid (bumped_any A3 A19 none c3 c19 0 0 cs cs [] 0 w19 (by rw [bumpC_nil]) trivial HBK19.out.was HCI19.out (Ranges.none _ _) (by have := HT.out; omega) (by simp) (by omega) HCO.out)
      rw [HNN.out] at HBU ⊢
      have x2 : w19.cell? ⟨gq, 2, none⟩ = some (.int .i64 2) := by rw [Lib.cell_of_heap HBK19.out.box]; rfl
      go_wp2_with fail
      refine HBU.out.mono ?_
      rintro e w20 ⟨rfl, hb20⟩
      have HBK20 := Lib.hid (HBK19.out.step hb20)
      have HR20 := Lib.hid (HR19.out.below hb20)
      clear hb20 x2 HBU
      go_wp2_with fail
      go_ret
      exact ⟨rfl, cs, HR20.out, HTX.out, by rw [if_neg (by simp)]; rfl, HBK20.out.gr⟩
    · rw [show invK 0 3 = 2 from rfl, ite_self, if_neg (by decide)] at HIN
      rw [show (5 : Int) - 3 = 2 from rfl] at HAP2
      go_wp2_with fail
      refine (HST.out w8 HBK8.out.was HBK8.out.rg).mono ?_
      rintro e w9 ⟨⟨bo, rfl, hbo⟩, hb9⟩
      obtain rfl : bo = false := by cases bo with | false => rfl | true => exact absurd (hbo.1 rfl) hs
      have HBK9 := Lib.hid (HBK8.out.step hb9)
      have HR9 := Lib.hid (HR8.out.below hb9)
      have ldq9 := ldO_run HBK9.out.box
      clear hb9 hbo ldq8 HST HBK8 HR8
      go_wp2_with fail
      refine (HAP.out w9 HBK9.out.below HBK9.out.rg HR9.out).mono ?_
      rintro e w10 ⟨he, hr10, hg10⟩
      have he' : e = .returned (.int .i64 0) := he
      subst he'
      clear he
      have HBK10 := Lib.hid (HBK9.out.keep hg10 HNB.out)
      have HR10 := Lib.hid (show Rope w10 b cs1 from hr10)
      clear hr10 hg10 HAP ldq9 HBK9 HR9
      have HRU := Lib.hid (Runs_any b cs1 w10 HR10.out (fun c hc => (HGO1.out c hc).1))
      go_wp2_with fail
      refine HRU.out.mono ?_
      rintro e w11 ⟨⟨v11, rfl, ho11⟩, hb11⟩
      obtain ⟨A11, c11, rfl, hc11, hpi11⟩ := PcesIn.of_own ho11
      have HCE := Lib.hid (cells_any A11 c11 (runsL cs1) w11 hpi11 (fun q hq => (good_pce HGO1.out hq).1) (by rw [flat_runsL]; have := HT1.out; omega) (by have := runsL_len cs1; have := HT1.out; omega))
      have HBK11 := Lib.hid (HBK10.out.step hb11)
      have HR11 := Lib.hid (HR10.out.below hb11)
      clear ho11 hc11 hpi11 hb11 HRU
      go_wp2_with fail
      refine HCE.out.mono ?_
      rintro e w12 ⟨⟨v12, rfl, ho12⟩, hb12⟩
      rw [flat_runsL] at ho12
      obtain ⟨A12, c12, rfl, hci12, hA12⟩ := cells_own ho12
      have HBK12 := Lib.hid (HBK11.out.step hb12)
      have HR12 := Lib.hid (HR11.out.below hb12)
      have HCI12 := Lib.hid hci12
      clear ho12 hci12 hA12 hb12 HCE HBK11 HR11
      have HBU := Lib.hid (bumped_any A3 A12 A c3 c12 n c cs cs1 rs (-1) w12 HC1.out.symm HNR.out HBK12.out.was HCI12.out HBK12.out.rg (by have := HT.out; omega) (by have := HRL.out; omega) (by omega) HCO.out)
      rw [HNN.out, HL1.out] at HBU
      rw [HL1.out]
      have x2 : w12.cell? ⟨gq, 2, none⟩ = some (.int .i64 3) := by rw [Lib.cell_of_heap HBK12.out.box]; rfl
      have x5 : w12.cell? ⟨gq, 5, none⟩ = some (.slice A n c) := by rw [Lib.cell_of_heap HBK12.out.box]; rfl
      go_wp2_with fail
      refine HBU.out.mono ?_
      rintro e w13 ⟨rfl, hb13⟩
      have HBK13 := Lib.hid (HBK12.out.step hb13)
      have HR13 := Lib.hid (HR12.out.below hb13)
      have y2 : w13.cell? ⟨gq, 2, none⟩ = some (.int .i64 3) := by rw [Lib.cell_of_heap HBK13.out.box]; rfl
      have ldq13 := ldO_run HBK13.out.box
      clear hb13 x2 x5 HBU HBK12 HR12
      go_wp2_with fail
      clear y2
      refine (HIN.out w13 HBK13.out.below HBK13.out.rg).mono ?_
      rintro e w14 ⟨⟨A14, m14, c14, rfl, ho14⟩, hb14⟩
      obtain ⟨hm14, hrg14, hlt14⟩ := inv_rg ho14
      rw [HN.out] at hm14 hrg14
      obtain rfl := hm14.symm
      unfold opV
      have HBK14 := Lib.hid (HBK13.out.step hb14)
      have HR14 := Lib.hid (HR13.out.below hb14)
      have HRG14 := Lib.hid hrg14
      have hf := Fresh.new w14 (.int .i64 0) (.int .i64 0) (.int .i64 0) (.int .i64 0) (.string ⟨#[]⟩) (.slice none 0 0) (.int .i64 0) (.int .i64 0) (.bool false)
      clear ho14 hb14 hrg14 hlt14 ldq13 HBK13 HR13 HIN
      go_upto_region 22 with fail
      obtain ⟨w15, hw15⟩ : ∃ w15, (w14.alloc (.cells #[.int .i64 0, .int .i64 0, .int .i64 0, .int .i64 0, .string ⟨#[]⟩, .slice none 0 0, .int .i64 0, .int .i64 0, .bool false] 47)).setRow w14.heap.size (opC 0 0 2 0 ⟨#[]⟩ (.slice A14 n c14) 0 0 false) = w15 := ⟨_, rfl⟩
      obtain ⟨gi, hgi⟩ : ∃ gi, w14.heap.size = gi := ⟨_, rfl⟩
      have hb15 : Below w14.heap.size w14 w15 := by rw [← hw15]; exact below_setRow (below_alloc1 _ _) (Nat.le_refl _) _
      have hy15 : w15.heap[gi]? = some (.cells (opC 0 0 2 0 ⟨#[]⟩ (.slice A14 n c14) 0 0 false) 47 (0, 0)) := by rw [← hw15, ← hgi]; exact setRow_heap _ _ _ _ _ _ (heap_at rfl)
      unfold opC at hw15
      rw [hw15, hgi]
      have HBK15 := Lib.hid (HBK14.out.step hb15)
      have HR15 := Lib.hid (HR14.out.below hb15)
      have HRG15 := Lib.hid (HRG14.out.below hb15)
      have ldi := ldO_run hy15
      clear hf hw15 hgi hb15 hy15 HBK14 HR14 HRG14
      go_wp2_with fail
      refine (HAP2.out w15 A14 c14 HBK15.out.below HRG15.out HR15.out).mono ?_
      rintro e w16 ⟨he, hr16, hg16⟩
      have he' : e = .returned (.int .i64 0) := he
      subst he'
      clear he
      have HBK16 := Lib.hid (HBK15.out.keep hg16 HNB.out)
      have HR16 := Lib.hid (show Rope w16 b cs from hr16)
      clear hr16 hg16 HAP2 ldi HBK15 HR15 HRG15
      have HTE := Lib.hid (Text_any b cs w16 HR16.out HTX.out)
      rw [HTXT.out] at HTE
      go_wp2_with fail
      refine HTE.out.mono ?_
      rintro e w17 ⟨rfl, hb17⟩
      have HBK17 := Lib.hid (HBK16.out.step hb17)
      have HR17 := Lib.hid (HR16.out.below hb17)
      clear hb17 HTE HBK16 HR16
      have HRU := Lib.hid (Runs_any b cs w17 HR17.out (fun c hc => (HGO.out c hc).1))
      go_wp2_with fail
      refine HRU.out.mono ?_
      rintro e w18 ⟨⟨v18, rfl, ho18⟩, hb18⟩
      obtain ⟨A18, c18, rfl, hc18, hpi18⟩ := PcesIn.of_own ho18
      have HCE := Lib.hid (cells_any A18 c18 (runsL cs) w18 hpi18 (fun q hq => (good_pce HGO.out hq).1) (by rw [flat_runsL]; have := HT.out; omega) (by have := runsL_len cs; have := HT.out; omega))
      have HBK18 := Lib.hid (HBK17.out.step hb18)
      have HR18 := Lib.hid (HR17.out.below hb18)
      clear ho18 hc18 hpi18 hb18 HRU
      go_wp2_with fail
      refine HCE.out.mono ?_
      rintro e w19 ⟨⟨v19, rfl, ho19⟩, hb19⟩
      rw [flat_runsL] at ho19
      obtain ⟨A19, c19, rfl, hci19, hA19⟩ := cells_own ho19
      have HBK19 := Lib.hid (HBK18.out.step hb19)
      have HR19 := Lib.hid (HR18.out.below hb19)
      have HCI19 := Lib.hid hci19
      clear ho19 hci19 hA19 hb19 HCE HBK18 HR18
      have HBU := Lib.hid (bumped_any A3 A19 none c3 c19 0 0 cs cs [] 0 w19 (by rw [bumpC_nil]) trivial HBK19.out.was HCI19.out (Ranges.none _ _) (by have := HT.out; omega) (by simp) (by omega) HCO.out)
      rw [HNN.out] at HBU ⊢
      have x2 : w19.cell? ⟨gq, 2, none⟩ = some (.int .i64 3) := by rw [Lib.cell_of_heap HBK19.out.box]; rfl
      go_wp2_with fail
      refine HBU.out.mono ?_
      rintro e w20 ⟨rfl, hb20⟩
      have HBK20 := Lib.hid (HBK19.out.step hb20)
      have HR20 := Lib.hid (HR19.out.below hb20)
      clear hb20 x2 HBU
      go_wp2_with fail
      go_ret
      exact ⟨rfl, cs, HR20.out, HTX.out, by rw [if_neg (by simp)]; rfl, HBK20.out.gr⟩
end
end Go.Proofs.YtkdhomiieenfnaaGreatDoor.Lw
