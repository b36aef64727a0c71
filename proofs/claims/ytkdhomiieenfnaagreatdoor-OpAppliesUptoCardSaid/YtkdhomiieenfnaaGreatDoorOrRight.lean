/- redraftlaw04.right: the operation of a deed. -/
import Derived.Test.YtkdhomiieenfnaaGreatDoorOrChosen
import Derived.Test.YtkdhomiieenfnaaGreatDoorLs2
import Derived.Test.YtkdhomiieenfnaaGreatDoorLs32
namespace Go.Proofs.YtkdhomiieenfnaaGreatDoor.O
open Go.RowKit Go.Proofs Go.Joins Go.Proofs.YtkdhomiieenfnaaGreatDoor.U Go.Proofs.YtkdhomiieenfnaaGreatDoor.Txt
set_option linter.unusedVariables false
set_option linter.unusedSimpArgs false
attribute [local go_sem] id_eq
attribute [local go_sem ↓] Go.wp_at_zero Go.wp_at_succ

/-- What is known of the operation of a deed. -/
structure RightOp (L : OpL) (T : Nat) (num : Int) : Prop where
  id : 1 ≤ L.i0 ∧ L.i0 ≤ 8 ∧ L.i1 = 1 ∧ (0 ≤ num ∧ num < 8 → L.i0 = 1 + num)
  kind : (L.kd = 1 ∧ (0 ≤ L.a ∧ L.a ≤ T) ∧ (∃ rs, L.tx = enc rs ∧ 1 ≤ rs.length ∧ rs.length ≤ 256 ∧ ∀ r ∈ rs, TxtRune r) ∧ L.rs = []) ∨ ((L.kd = 2 ∨ L.kd = 3) ∧ L.a = 0 ∧ L.tx = [] ∧ Up (-1) L.rs ∧ (∀ r ∈ L.rs, r.2 ≤ (T : Int)) ∧ L.rs ≠ [] ∧ L.rs.length ≤ T)
  none : L.t0 = 0 ∧ L.t1 = 0 ∧ L.on = false
theorem RightOp.small {L : OpL} {T : Nat} {num : Int} (h : RightOp L T num) (hT : T ≤ 32768) : L.tx.length ≤ 1024 ∧ L.rs.length ≤ 32768 := by
  rcases h.kind with ⟨_, _, ⟨rs, e, _, hl, _⟩, e2⟩ | ⟨_, _, e, _, _, _, hl⟩
  · rw [e, e2]; have := enc_len_le rs; simp; omega
  · rw [e]; simp; omega
theorem toList_empty : (⟨([] : List UInt8).toArray⟩ : ByteArray).toList.isEmpty = true := by kernel_rfl
theorem RightOp.own {L : OpL} {T : Nat} {num : Int} (h : RightOp L T num) (hT : T ≤ 32768) : L.own = 0 := by
  obtain ⟨i0, i1, kd, a, tx, rs, t0, t1, on⟩ := L
  obtain ⟨⟨hi1, hi2, hi3, _⟩, hk, ⟨h0, h1, h2⟩⟩ := h
  simp only at *
  subst hi3 h0 h1 h2
  have hid : idB i0 1 = true := by unfold idB; simp; omega
  rcases hk with ⟨rfl, ⟨a0, a1⟩, ⟨l, rfl, l1, l2, l3⟩, rfl⟩ | ⟨hk, rfl, rfl, hup, hhi, hne, hln⟩
  · have hc := chk_text l l3
    have hT' : ownT 1 a = a := by unfold ownT; rw [if_pos (by omega)]
    show ownE _ _ _ _ _ _ _ _ _ _ _ = 0
    unfold ownE
    simp only [hc, hT']
    unfold opE
    rw [if_neg (by omega), if_neg (by omega), if_neg (fun h => by rw [hid] at h; cases h.2)]
    rw [if_neg (by simp [extraB]), if_pos rfl]
    unfold insE
    rw [if_neg (by simp), if_neg (by omega), if_neg (by omega), if_neg (by omega), if_neg (by omega), if_neg (by omega)]
  · have hT' : ownT kd 0 = 1048576 := by unfold ownT; rw [if_neg (by omega)]
    have hs := span_up hup (fun r hr => by have := hhi r hr; omega)
    show ownE _ _ _ _ _ _ _ _ _ _ _ = 0
    unfold ownE
    simp only [hT']
    unfold opE
    rw [if_neg (by omega), if_neg (by omega), if_neg (fun h => by rw [hid] at h; cases h.2)]
    rw [if_neg (by rcases hk with rfl | rfl <;> simp [extraB, toList_empty]), if_neg (by omega), if_neg (by omega)]
    unfold rngE
    rw [if_neg hne, spanM_small (by omega), hs, if_neg (by decide)]
    rw [if_neg]
    have hp := List.length_pos_iff.2 hne
    rw [List.getElem?_eq_getElem (by omega)]
    have := hhi (rs[rs.length - 1]'(by omega)) (List.getElem_mem _)
    simp only [Option.getD_some]
    omega
/-- What right hands back. -/
def RightRes (w : World) (T : Nat) (num : Int) (e : Ending) (w' : World) : Prop :=
  (∃ (L : OpL) (A : Option Addr) (c : Nat), e = .returned (L.val A c) ∧ RightOp L T num ∧ Ranges w' A L.rs.length L.rs ∧ (∀ b off, A = some ⟨b, off, none⟩ → 0 < L.rs.length → w.heap.size ≤ b) ∧ (L.rs = [] → A = Option.none ∧ c = 0)) ∧ Below w.heap.size w w'
set_option maxRecDepth 100000 in
set_option maxHeartbeats 4000000 in
theorem pick_exact (t n : Int) (w : World) (hn : 0 < n ∧ n ≤ 1000000) : Calls Tryz.prog 39 #[.int .i64 t, .int .i64 n] w fun e w' => (∃ r, e = .returned (.int .i64 r) ∧ 0 ≤ r ∧ r < n ∧ (0 ≤ t ∧ t < n → r = t)) ∧ w' = w := by
  by_cases hc : 0 ≤ t ∧ t < n
  · have hz : ¬ n = 0 := by omega
    have h0 : t.tmod n = t := Int.tmod_eq_of_lt hc.1 hc.2
    have e1 : IntKind.i64.wrap (t.tmod n) = t.tmod n := IntWalk.i64_in _ (by omega)
    have h : ¬ t.tmod n < 0 := by omega
    have H0 := Lib.hid h0
    have HC := Lib.hid hc
    clear h0 hc
    go_enter Tryz.func39, Tryz.ntmps39
    go_wp2_with fail
    go_ret
    exact ⟨⟨_, rfl, by rw [H0.out]; exact HC.out.1, by rw [H0.out]; exact HC.out.2, by first | exact fun _ => H0.out | exact fun _ _ => H0.out⟩, rfl⟩
  · refine (pick_any t n w hn).mono ?_
    rintro e w' ⟨⟨r, rfl, h0, h1⟩, hw⟩
    exact ⟨⟨r, rfl, h0, h1, fun h2 => absurd h2 hc⟩, hw⟩
/-- Rd's facts, the block's number spelled as the walk spells it. -/
theorem Rd.facts {D W : World} {b : Nat} {i0 i1 kd a : Int} {tx : ByteArray} {v v' : Value} {t0 t1 : Int} {on : Bool} {rs : List (Int × Int)} (h : Rd D W (opCells i0 i1 kd a tx v t0 t1 on) v' rs) (hs : D.heap.size = b) :
    (W.frozen? ⟨b + 1, 0, Option.none⟩ = false ∧ W.frozen? ⟨b + 1, 1, Option.none⟩ = false ∧ W.frozen? ⟨b + 1, 2, Option.none⟩ = false ∧ W.frozen? ⟨b + 1, 3, Option.none⟩ = false ∧ W.frozen? ⟨b + 1, 4, Option.none⟩ = false ∧ W.frozen? ⟨b + 1, 5, Option.none⟩ = false ∧ W.frozen? ⟨b + 1, 6, Option.none⟩ = false ∧ W.frozen? ⟨b + 1, 7, Option.none⟩ = false ∧ W.frozen? ⟨b + 1, 8, Option.none⟩ = false) ∧ (W.cell? ⟨b + 1, 0, Option.none⟩ = some (.int .i64 i0) ∧ W.cell? ⟨b + 1, 1, Option.none⟩ = some (.int .i64 i1) ∧ W.cell? ⟨b + 1, 2, Option.none⟩ = some (.int .i64 kd) ∧ W.cell? ⟨b + 1, 3, Option.none⟩ = some (.int .i64 a) ∧ W.cell? ⟨b + 1, 4, Option.none⟩ = some (.string tx) ∧ W.cell? ⟨b + 1, 5, Option.none⟩ = some (v) ∧ W.cell? ⟨b + 1, 6, Option.none⟩ = some (.int .i64 t0) ∧ W.cell? ⟨b + 1, 7, Option.none⟩ = some (.int .i64 t1) ∧ W.cell? ⟨b + 1, 8, Option.none⟩ = some (.bool on)) := by
  subst hs; exact ⟨h.fz, h.cells9⟩
theorem Rd.factsR {D W : World} {b : Nat} {vs : Array Value} {v : Value} {rs : List (Int × Int)} (h : Rd D W vs v rs) (hs : D.heap.size = b) :
    (W.frozen? ⟨b, 0, Option.none⟩ = false ∧ W.frozen? ⟨b, 1, Option.none⟩ = false ∧ W.frozen? ⟨b, 2, Option.none⟩ = false ∧ W.frozen? ⟨b, 3, Option.none⟩ = false ∧ W.frozen? ⟨b, 4, Option.none⟩ = false ∧ W.frozen? ⟨b, 5, Option.none⟩ = false ∧ W.frozen? ⟨b, 6, Option.none⟩ = false ∧ W.frozen? ⟨b, 7, Option.none⟩ = false ∧ W.frozen? ⟨b, 8, Option.none⟩ = false) ∧ (W.cell? ⟨b, 0, Option.none⟩ = some (.int .i64 0) ∧ W.cell? ⟨b, 1, Option.none⟩ = some (.int .i64 0) ∧ W.cell? ⟨b, 2, Option.none⟩ = some (.int .i64 0) ∧ W.cell? ⟨b, 3, Option.none⟩ = some (.int .i64 0) ∧ W.cell? ⟨b, 4, Option.none⟩ = some (.string ⟨#[]⟩) ∧ W.cell? ⟨b, 5, Option.none⟩ = some (.slice Option.none 0 0) ∧ W.cell? ⟨b, 6, Option.none⟩ = some (.int .i64 0) ∧ W.cell? ⟨b, 7, Option.none⟩ = some (.int .i64 0) ∧ W.cell? ⟨b, 8, Option.none⟩ = some (.bool false)) := by
  subst hs; exact ⟨h.fzr, h.nineR⟩
theorem Rd.mk' {D W : World} {vs : Array Value} {v v' : Value} {rs rs' : List (Int × Int)} (h : Rd D W vs v' rs') (ho : W.ownsRow (D.heap.size + 2) 102 2 v rs.length (rsCells rs)) : Rd D W vs v rs := ⟨h.b2, h.b3, ho, h.below⟩
theorem own_weak' {w : World} {B B' e size n : Nat} {v : Value} {xs : List Value} (h : w.ownsRow B e size v n xs) (hb : B' ≤ B) : w.ownsRow B' e size v n xs := by
  refine ⟨h.1, ?_⟩
  rcases h.2 with hn | ⟨b, cap, cur, hv, hbg, rest⟩
  · exact .inl hn
  · exact .inr ⟨b, cap, cur, hv, by omega, rest⟩
theorem ReadsI.below {w w' : World} {A : Option Addr} {n : Nat} {xs : List Int} (h : ReadsI w A n xs) (hb : Below w.heap.size w w') : ReadsI w' A n xs :=
  ⟨h.1, h.2.1, h.2.2.1, fun h0 => by
    obtain ⟨ad, e, hl, hc⟩ := h.2.2.2 h0
    exact ⟨ad, e, Nat.lt_of_lt_of_le hl hb.size, fun j hj => cell_below hb (hc j hj)⟩⟩
theorem Rd.put' {D W : World} {b : Nat} {vs : Array Value} {v : Value} {rs : List (Int × Int)} (h : Rd D W vs v rs) (hs : D.heap.size = b) (i : Nat) (x : Value) : Rd D (W.setCell ⟨b + 1, i, Option.none⟩ x) (vs.setIfInBounds i x) v rs := by
  subst hs; exact h.put i x
theorem rd_end' {D W : World} {b : Nat} (hs : D.heap.size = b) (L : OpL) {v : Value} (h : Rd D W (opCells L.i0 L.i1 L.kd L.a ⟨L.tx.toArray⟩ v L.t0 L.t1 L.on) v L.rs) :
    ReadRes D L (.returned (.agg (opCells L.i0 L.i1 L.kd L.a ⟨L.tx.toArray⟩ v L.t0 L.t1 L.on))) (((((((((W.setCell ⟨b, 0, none⟩ (.int .i64 L.i0)).setCell ⟨b, 1, none⟩ (.int .i64 L.i1)).setCell ⟨b, 2, none⟩ (.int .i64 L.kd)).setCell ⟨b, 3, none⟩ (.int .i64 L.a)).setCell ⟨b, 4, none⟩ (.string ⟨L.tx.toArray⟩)).setCell ⟨b, 5, none⟩ v).setCell ⟨b, 6, none⟩ (.int .i64 L.t0)).setCell ⟨b, 7, none⟩ (.int .i64 L.t1)).setCell ⟨b, 8, none⟩ (.bool L.on)) := by
  subst hs; exact rd_end L h
theorem Rd.b2' {D W : World} {b : Nat} {vs : Array Value} {v : Value} {rs : List (Int × Int)} (h : Rd D W vs v rs) (hs : D.heap.size = b) : W.heap[b]? = some (.cells zOp 47 (0, 0)) := by
  subst hs; exact h.b2
theorem right_of_read {w D : World} {L : OpL} {T : Nat} {num : Int} {v : Value} {w' : World} (hb : Below w.heap.size w D) (hv : v = .slice none 0 0 ∨ L.rs ≠ []) (hR : RightOp L T num) (h : ReadRes D L (.returned (.agg (opCells L.i0 L.i1 L.kd L.a ⟨L.tx.toArray⟩ v L.t0 L.t1 L.on))) w') : RightRes w T num (.returned (.agg (opCells L.i0 L.i1 L.kd L.a ⟨L.tx.toArray⟩ v L.t0 L.t1 L.on))) w' := by
  obtain ⟨⟨A, c, he, h1, h2⟩, h3⟩ := h
  have e1 : v = .slice A L.rs.length c := by simpa [opCells, opV] using he
  subst e1
  refine ⟨⟨L, A, c, rfl, hR, h1, fun b off hA h0 => by have := h2 b off hA h0; have := hb.size; omega, fun h0 => ?_⟩, hb.trans (h3.mono hb.size)⟩
  rcases hv with e | e
  · have h9 := Value.slice.inj e; exact ⟨h9.1, h9.2.2⟩
  · exact absurd h0 e
set_option maxRecDepth 100000 in
set_option maxHeartbeats 8000000 in
theorem rightDeed_any (kd at_ : Int) (A1 : Option Addr) (n1 c1 : Nat) (xs1 : List Int) (A2 : Option Addr) (n2 c2 : Nat) (xs2 : List Int) (T : Nat) (num : Int) (w : World) (hT : T ≤ 32768) (r1 : Reads32 w A1 n1 xs1) (r2 : ReadsI w A2 n2 xs2) :
    Calls Tryz.prog 14 #[.agg #[.int .i64 kd, .int .i64 at_, .slice A1 n1 c1, .slice A2 n2 c2], .int .i64 T, .int .i64 num] w (RightRes w T num) := by
  have HR1 := Lib.hid r1
  have HR2 := Lib.hid r2
  clear r1 r2
  obtain ⟨D, hD⟩ : ∃ D, w.alloc (.cells #[.int .i64 kd, .int .i64 at_, .slice A1 n1 c1, .slice A2 n2 c2] 52) = D := ⟨_, rfl⟩
  obtain ⟨W0, hW0⟩ : ∃ W0, ((w.alloc (.cells #[.int .i64 kd, .int .i64 at_, .slice A1 n1 c1, .slice A2 n2 c2] 52)).alloc (.cells #[.int .i64 0, .int .i64 0, .int .i64 0, .int .i64 0, .string ⟨#[]⟩, .slice none 0 0, .int .i64 0, .int .i64 0, .bool false] 47)).alloc (.cells #[.int .i64 0, .int .i64 0, .int .i64 0, .int .i64 0, .string ⟨#[]⟩, .slice none 0 0, .int .i64 0, .int .i64 0, .bool false] 47) = W0 := ⟨_, rfl⟩
  have hbx : D.heap[w.heap.size]? = some (.cells #[.int .i64 kd, .int .i64 at_, .slice A1 n1 c1, .slice A2 n2 c2] 52 (0, 0)) := by rw [← hD]; exact heap_alloc_new w _
  have hbd : Below w.heap.size w D := by rw [← hD]; exact below_alloc1 w _
  have hsz : D.heap.size = w.heap.size + 1 := by rw [← hD]; simp
  have HBX := Lib.hid hbx
  have HBD := Lib.hid hbd
  have HSZ := Lib.hid hsz
  have R0 : Hid (Rd D W0 (opCells 0 0 0 0 ⟨#[]⟩ (.slice none 0 0) 0 0 false) (.slice none 0 0) []) := Lib.hid (by rw [← hW0, hD]; exact Rd.new D)
  have DK := Lib.hid (fun W (hW : Below D.heap.size D W) => (hW.block _ (by rw [HSZ.out]; omega)).trans HBX.out)
  have HW0 := Lib.hid hW0
  clear hbx hbd hsz hD hW0
  go_enter Tryz.func14, Tryz.ntmps14
  go_wp2_with fail
  rw [HW0.out]
  refine (pick_exact num 8 _ (by decide)).mono ?_
  rintro e w' ⟨⟨r, rfl, q0, q1, q2⟩, hw⟩
  obtain rfl := hw.symm
  have HQ2 := Lib.hid q2
  clear HW0 q2 hw
  obtain ⟨⟨f0, f1, f2, f3, f4, f5, f6, f7, f8⟩, d0, d1, d2, d3, d4, d5, d6, d7, d8⟩ := R0.out.facts HSZ.out
  have hbk := DK.out _ R0.out.below
  have e0 : W0.cell? ⟨w.heap.size, 0, none⟩ = some (.int .i64 kd) := by rw [Lib.cell_of_heap hbk]; rfl
  have e1 : W0.cell? ⟨w.heap.size, 1, none⟩ = some (.int .i64 at_) := by rw [Lib.cell_of_heap hbk]; rfl
  have e2 : W0.cell? ⟨w.heap.size, 2, none⟩ = some (.slice A1 n1 c1) := by rw [Lib.cell_of_heap hbk]; rfl
  have e3 : W0.cell? ⟨w.heap.size, 3, none⟩ = some (.slice A2 n2 c2) := by rw [Lib.cell_of_heap hbk]; rfl
  clear hbk
  have r1' : Rd D _ (opCells (1 + r) 1 0 0 ⟨#[]⟩ (.slice none 0 0) 0 0 false) (.slice none 0 0) [] := (R0.out.put' HSZ.out 0 (.int .i64 (1 + r))).put' HSZ.out 1 (.int .i64 1)
  have R1 := Lib.hid r1'
  clear r1'
  go_wp2_with fail
  generalize (W0.setCell ⟨w.heap.size + 1 + 1, 0, none⟩ (.int .i64 (1 + r))).setCell ⟨w.heap.size + 1 + 1, 1, none⟩ (.int .i64 1) = W1 at R1 ⊢
  clear f0 f1 f2 f3 f4 f5 f6 f7 f8 d0 d1 d2 d3 d4 d5 d6 d7 d8 e0 e1 e2 e3
  refine (pick_exact kd 3 _ (by decide)).mono ?_
  rintro e w' ⟨⟨kk, rfl, u0, u1, u2⟩, hw⟩
  obtain rfl := hw.symm
  clear u2 hw
  have HI0 := Lib.hid (show 1 ≤ 1 + r ∧ 1 + r ≤ 8 ∧ (0 ≤ num ∧ num < 8 → 1 + r = 1 + num) from ⟨by omega, by omega, fun h => by rw [HQ2.out h]⟩)
  obtain ⟨⟨f0, f1, f2, f3, f4, f5, f6, f7, f8⟩, d0, d1, d2, d3, d4, d5, d6, d7, d8⟩ := R1.out.facts HSZ.out
  have hbk := DK.out _ R1.out.below
  have e0 : W1.cell? ⟨w.heap.size, 0, none⟩ = some (.int .i64 kd) := by rw [Lib.cell_of_heap hbk]; rfl
  have e1 : W1.cell? ⟨w.heap.size, 1, none⟩ = some (.int .i64 at_) := by rw [Lib.cell_of_heap hbk]; rfl
  have e2 : W1.cell? ⟨w.heap.size, 2, none⟩ = some (.slice A1 n1 c1) := by rw [Lib.cell_of_heap hbk]; rfl
  have e3 : W1.cell? ⟨w.heap.size, 3, none⟩ = some (.slice A2 n2 c2) := by rw [Lib.cell_of_heap hbk]; rfl
  clear hbk
  have HUR := Lib.hid (show 0 ≤ kk ∧ kk < 3 from ⟨u0, u1⟩)
  have HC : (kk = 0) ∨ (¬ kk = 0 ∧ T = 0) ∨ (¬ kk = 0 ∧ ¬ T = 0 ∧ n2 = 0) ∨ (kk = 1 ∧ ¬ T = 0 ∧ ¬ n2 = 0) ∨ (kk = 2 ∧ ¬ T = 0 ∧ ¬ n2 = 0) := by omega
  rcases HC with h1 | ⟨h1, h2⟩ | ⟨h1, h2, h3⟩ | ⟨h1, h2, h3⟩ | ⟨h1, h2, h3⟩
  case inl =>
    subst h1
    go_wp2_with fail
    have r2 : Rd D _ (opCells (1 + r) 1 1 0 ⟨#[]⟩ (.slice none 0 0) 0 0 false) (.slice none 0 0) [] := R1.out.put' HSZ.out 2 (.int .i64 1)
    have R2 := Lib.hid r2
    clear r2
    generalize W1.setCell ⟨w.heap.size + 1 + 1, 2, none⟩ (.int .i64 1) = W2 at R2 ⊢
    clear f0 f1 f2 f3 f4 f5 f6 f7 f8 d0 d1 d2 d3 d4 d5 d6 d7 d8 e0 e1 e2 e3
    refine (pick_exact at_ ((T : Int) + 1) _ (by constructor <;> omega)).mono ?_
    rintro e w' ⟨⟨a, rfl, a0, a1, _⟩, hw⟩
    obtain rfl := hw.symm
    clear hw
    obtain ⟨⟨f0, f1, f2, f3, f4, f5, f6, f7, f8⟩, d0, d1, d2, d3, d4, d5, d6, d7, d8⟩ := R2.out.facts HSZ.out
    have hbk := DK.out _ R2.out.below
    have e0 : W2.cell? ⟨w.heap.size, 0, none⟩ = some (.int .i64 kd) := by rw [Lib.cell_of_heap hbk]; rfl
    have e1 : W2.cell? ⟨w.heap.size, 1, none⟩ = some (.int .i64 at_) := by rw [Lib.cell_of_heap hbk]; rfl
    have e2 : W2.cell? ⟨w.heap.size, 2, none⟩ = some (.slice A1 n1 c1) := by rw [Lib.cell_of_heap hbk]; rfl
    have e3 : W2.cell? ⟨w.heap.size, 3, none⟩ = some (.slice A2 n2 c2) := by rw [Lib.cell_of_heap hbk]; rfl
    clear hbk
    have r3 : Rd D _ (opCells (1 + r) 1 1 a ⟨#[]⟩ (.slice none 0 0) 0 0 false) (.slice none 0 0) [] := R2.out.put' HSZ.out 3 (.int .i64 a)
    have R3 := Lib.hid r3
    clear r3
    go_wp2_with fail
    generalize W2.setCell ⟨w.heap.size + 1 + 1, 3, none⟩ (.int .i64 a) = W3 at R3 ⊢
    clear f0 f1 f2 f3 f4 f5 f6 f7 f8 d0 d1 d2 d3 d4 d5 d6 d7 d8 e0 e1 e2 e3
    refine (letters_any A1 n1 c1 xs1 _ (HR1.out.below (HBD.out.trans (R3.out.below.mono HBD.out.size)))).mono ?_
    rintro e w4 ⟨v, l, rfl, hown, l1, l2, l3, hb⟩
    obtain ⟨A4, c4, rfl, hcc, hcl⟩ := own_runes hown
    have hcv := conv_runes (c := c4) hcl
    rw [show Str l = ⟨(enc l).toArray⟩ from lit_str _ _ (str_list l)] at hcv
    have R4 := Lib.hid (R3.out.step hb)
    have HL := Lib.hid (And.intro l1 (And.intro l2 l3))
    clear hown hcl hb l1 l2 l3
    obtain ⟨⟨f0, f1, f2, f3, f4, f5, f6, f7, f8⟩, d0, d1, d2, d3, d4, d5, d6, d7, d8⟩ := R4.out.facts HSZ.out
    have hbk := DK.out _ R4.out.below
    have e0 : w4.cell? ⟨w.heap.size, 0, none⟩ = some (.int .i64 kd) := by rw [Lib.cell_of_heap hbk]; rfl
    have e1 : w4.cell? ⟨w.heap.size, 1, none⟩ = some (.int .i64 at_) := by rw [Lib.cell_of_heap hbk]; rfl
    have e2 : w4.cell? ⟨w.heap.size, 2, none⟩ = some (.slice A1 n1 c1) := by rw [Lib.cell_of_heap hbk]; rfl
    have e3 : w4.cell? ⟨w.heap.size, 3, none⟩ = some (.slice A2 n2 c2) := by rw [Lib.cell_of_heap hbk]; rfl
    clear hbk
    obtain ⟨S, hS⟩ : ∃ S : ByteArray, (⟨(enc l).toArray⟩ : ByteArray) = S := ⟨_, rfl⟩
    rw [hS] at hcv
    have r5 : Rd D _ (opCells (1 + r) 1 1 a S (.slice none 0 0) 0 0 false) (.slice none 0 0) [] := R4.out.put' HSZ.out 4 (.string S)
    have R5 := Lib.hid r5
    have HS := Lib.hid hS
    clear r5 hS
    obtain ⟨⟨g0, g1, g2, g3, g4, g5, g6, g7, g8⟩, k0, k1, k2, k3, k4, k5, k6, k7, k8⟩ := R4.out.factsR HSZ.out
    go_wp2_with fail
    try simp only [Exit.inBlock, Exit.then]
    refine bodyPost_ret (v := .agg (opCells (1 + r) 1 1 a S (.slice none 0 0) 0 0 false)) ?hr1 ?hd1 ?hb1
    case hd1 => rfl
    case hr1 => exact results_cell_row rfl _ _ (w.heap.size + 1) 47 _ (0, 0) _ rfl (fin_box rfl (R5.out.b2' HSZ.out) _ _ _ _ _ _ _ _ _) Tryz.underlying47 rfl (by kernel_rfl)
    case hb1 => rw [← HS.out] at R5 ⊢; exact right_of_read HBD.out (.inl rfl) ⟨⟨HI0.out.1, HI0.out.2.1, rfl, HI0.out.2.2⟩, .inl ⟨rfl, ⟨a0, by simp only; omega⟩, ⟨l, rfl, HL.out.1, HL.out.2.1, HL.out.2.2⟩, rfl⟩, ⟨rfl, rfl, rfl⟩⟩ (rd_end' HSZ.out ⟨1 + r, 1, 1, a, enc l, [], 0, 0, false⟩ R5.out)
  case inr.inl =>
    subst h2
    have b1 : (kk == 0) = false := by simpa using h1
    go_wp2_with fail
    have r2 : Rd D _ (opCells (1 + r) 1 1 0 ⟨#[]⟩ (.slice none 0 0) 0 0 false) (.slice none 0 0) [] := R1.out.put' HSZ.out 2 (.int .i64 1)
    have R2 := Lib.hid r2
    clear r2
    generalize W1.setCell ⟨w.heap.size + 1 + 1, 2, none⟩ (.int .i64 1) = W2 at R2 ⊢
    clear f0 f1 f2 f3 f4 f5 f6 f7 f8 d0 d1 d2 d3 d4 d5 d6 d7 d8 e0 e1 e2 e3
    refine (pick_exact at_ (1) _ (by constructor <;> omega)).mono ?_
    rintro e w' ⟨⟨a, rfl, a0, a1, _⟩, hw⟩
    obtain rfl := hw.symm
    clear hw
    obtain ⟨⟨f0, f1, f2, f3, f4, f5, f6, f7, f8⟩, d0, d1, d2, d3, d4, d5, d6, d7, d8⟩ := R2.out.facts HSZ.out
    have hbk := DK.out _ R2.out.below
    have e0 : W2.cell? ⟨w.heap.size, 0, none⟩ = some (.int .i64 kd) := by rw [Lib.cell_of_heap hbk]; rfl
    have e1 : W2.cell? ⟨w.heap.size, 1, none⟩ = some (.int .i64 at_) := by rw [Lib.cell_of_heap hbk]; rfl
    have e2 : W2.cell? ⟨w.heap.size, 2, none⟩ = some (.slice A1 n1 c1) := by rw [Lib.cell_of_heap hbk]; rfl
    have e3 : W2.cell? ⟨w.heap.size, 3, none⟩ = some (.slice A2 n2 c2) := by rw [Lib.cell_of_heap hbk]; rfl
    clear hbk
    have r3 : Rd D _ (opCells (1 + r) 1 1 a ⟨#[]⟩ (.slice none 0 0) 0 0 false) (.slice none 0 0) [] := R2.out.put' HSZ.out 3 (.int .i64 a)
    have R3 := Lib.hid r3
    clear r3
    go_wp2_with fail
    generalize W2.setCell ⟨w.heap.size + 1 + 1, 3, none⟩ (.int .i64 a) = W3 at R3 ⊢
    clear f0 f1 f2 f3 f4 f5 f6 f7 f8 d0 d1 d2 d3 d4 d5 d6 d7 d8 e0 e1 e2 e3
    refine (letters_any A1 n1 c1 xs1 _ (HR1.out.below (HBD.out.trans (R3.out.below.mono HBD.out.size)))).mono ?_
    rintro e w4 ⟨v, l, rfl, hown, l1, l2, l3, hb⟩
    obtain ⟨A4, c4, rfl, hcc, hcl⟩ := own_runes hown
    have hcv := conv_runes (c := c4) hcl
    rw [show Str l = ⟨(enc l).toArray⟩ from lit_str _ _ (str_list l)] at hcv
    have R4 := Lib.hid (R3.out.step hb)
    have HL := Lib.hid (And.intro l1 (And.intro l2 l3))
    clear hown hcl hb l1 l2 l3
    obtain ⟨⟨f0, f1, f2, f3, f4, f5, f6, f7, f8⟩, d0, d1, d2, d3, d4, d5, d6, d7, d8⟩ := R4.out.facts HSZ.out
    have hbk := DK.out _ R4.out.below
    have e0 : w4.cell? ⟨w.heap.size, 0, none⟩ = some (.int .i64 kd) := by rw [Lib.cell_of_heap hbk]; rfl
    have e1 : w4.cell? ⟨w.heap.size, 1, none⟩ = some (.int .i64 at_) := by rw [Lib.cell_of_heap hbk]; rfl
    have e2 : w4.cell? ⟨w.heap.size, 2, none⟩ = some (.slice A1 n1 c1) := by rw [Lib.cell_of_heap hbk]; rfl
    have e3 : w4.cell? ⟨w.heap.size, 3, none⟩ = some (.slice A2 n2 c2) := by rw [Lib.cell_of_heap hbk]; rfl
    clear hbk
    obtain ⟨S, hS⟩ : ∃ S : ByteArray, (⟨(enc l).toArray⟩ : ByteArray) = S := ⟨_, rfl⟩
    rw [hS] at hcv
    have r5 : Rd D _ (opCells (1 + r) 1 1 a S (.slice none 0 0) 0 0 false) (.slice none 0 0) [] := R4.out.put' HSZ.out 4 (.string S)
    have R5 := Lib.hid r5
    have HS := Lib.hid hS
    clear r5 hS
    obtain ⟨⟨g0, g1, g2, g3, g4, g5, g6, g7, g8⟩, k0, k1, k2, k3, k4, k5, k6, k7, k8⟩ := R4.out.factsR HSZ.out
    go_wp2_with fail
    try simp only [Exit.inBlock, Exit.then]
    refine bodyPost_ret (v := .agg (opCells (1 + r) 1 1 a S (.slice none 0 0) 0 0 false)) ?hr2 ?hd2 ?hb2
    case hd2 => rfl
    case hr2 => exact results_cell_row rfl _ _ (w.heap.size + 1) 47 _ (0, 0) _ rfl (fin_box rfl (R5.out.b2' HSZ.out) _ _ _ _ _ _ _ _ _) Tryz.underlying47 rfl (by kernel_rfl)
    case hb2 => rw [← HS.out] at R5 ⊢; exact right_of_read HBD.out (.inl rfl) ⟨⟨HI0.out.1, HI0.out.2.1, rfl, HI0.out.2.2⟩, .inl ⟨rfl, ⟨a0, by simp only; omega⟩, ⟨l, rfl, HL.out.1, HL.out.2.1, HL.out.2.2⟩, rfl⟩, ⟨rfl, rfl, rfl⟩⟩ (rd_end' HSZ.out ⟨1 + r, 1, 1, a, enc l, [], 0, 0, false⟩ R5.out)
  case inr.inr.inl =>
    subst h3
    have b1 : (kk == 0) = false := by simpa using h1
    have b2 : ((T : Int) == 0) = false := by simp; omega
    go_wp2_with fail
    have r2 : Rd D _ (opCells (1 + r) 1 1 0 ⟨#[]⟩ (.slice none 0 0) 0 0 false) (.slice none 0 0) [] := R1.out.put' HSZ.out 2 (.int .i64 1)
    have R2 := Lib.hid r2
    clear r2
    generalize W1.setCell ⟨w.heap.size + 1 + 1, 2, none⟩ (.int .i64 1) = W2 at R2 ⊢
    clear f0 f1 f2 f3 f4 f5 f6 f7 f8 d0 d1 d2 d3 d4 d5 d6 d7 d8 e0 e1 e2 e3
    refine (pick_exact at_ ((T : Int) + 1) _ (by constructor <;> omega)).mono ?_
    rintro e w' ⟨⟨a, rfl, a0, a1, _⟩, hw⟩
    obtain rfl := hw.symm
    clear hw
    obtain ⟨⟨f0, f1, f2, f3, f4, f5, f6, f7, f8⟩, d0, d1, d2, d3, d4, d5, d6, d7, d8⟩ := R2.out.facts HSZ.out
    have hbk := DK.out _ R2.out.below
    have e0 : W2.cell? ⟨w.heap.size, 0, none⟩ = some (.int .i64 kd) := by rw [Lib.cell_of_heap hbk]; rfl
    have e1 : W2.cell? ⟨w.heap.size, 1, none⟩ = some (.int .i64 at_) := by rw [Lib.cell_of_heap hbk]; rfl
    have e2 : W2.cell? ⟨w.heap.size, 2, none⟩ = some (.slice A1 n1 c1) := by rw [Lib.cell_of_heap hbk]; rfl
    have e3 : W2.cell? ⟨w.heap.size, 3, none⟩ = some (.slice A2 0 c2) := by rw [Lib.cell_of_heap hbk]; rfl
    clear hbk
    have r3 : Rd D _ (opCells (1 + r) 1 1 a ⟨#[]⟩ (.slice none 0 0) 0 0 false) (.slice none 0 0) [] := R2.out.put' HSZ.out 3 (.int .i64 a)
    have R3 := Lib.hid r3
    clear r3
    go_wp2_with fail
    generalize W2.setCell ⟨w.heap.size + 1 + 1, 3, none⟩ (.int .i64 a) = W3 at R3 ⊢
    clear f0 f1 f2 f3 f4 f5 f6 f7 f8 d0 d1 d2 d3 d4 d5 d6 d7 d8 e0 e1 e2 e3
    refine (letters_any A1 n1 c1 xs1 _ (HR1.out.below (HBD.out.trans (R3.out.below.mono HBD.out.size)))).mono ?_
    rintro e w4 ⟨v, l, rfl, hown, l1, l2, l3, hb⟩
    obtain ⟨A4, c4, rfl, hcc, hcl⟩ := own_runes hown
    have hcv := conv_runes (c := c4) hcl
    rw [show Str l = ⟨(enc l).toArray⟩ from lit_str _ _ (str_list l)] at hcv
    have R4 := Lib.hid (R3.out.step hb)
    have HL := Lib.hid (And.intro l1 (And.intro l2 l3))
    clear hown hcl hb l1 l2 l3
    obtain ⟨⟨f0, f1, f2, f3, f4, f5, f6, f7, f8⟩, d0, d1, d2, d3, d4, d5, d6, d7, d8⟩ := R4.out.facts HSZ.out
    have hbk := DK.out _ R4.out.below
    have e0 : w4.cell? ⟨w.heap.size, 0, none⟩ = some (.int .i64 kd) := by rw [Lib.cell_of_heap hbk]; rfl
    have e1 : w4.cell? ⟨w.heap.size, 1, none⟩ = some (.int .i64 at_) := by rw [Lib.cell_of_heap hbk]; rfl
    have e2 : w4.cell? ⟨w.heap.size, 2, none⟩ = some (.slice A1 n1 c1) := by rw [Lib.cell_of_heap hbk]; rfl
    have e3 : w4.cell? ⟨w.heap.size, 3, none⟩ = some (.slice A2 0 c2) := by rw [Lib.cell_of_heap hbk]; rfl
    clear hbk
    obtain ⟨S, hS⟩ : ∃ S : ByteArray, (⟨(enc l).toArray⟩ : ByteArray) = S := ⟨_, rfl⟩
    rw [hS] at hcv
    have r5 : Rd D _ (opCells (1 + r) 1 1 a S (.slice none 0 0) 0 0 false) (.slice none 0 0) [] := R4.out.put' HSZ.out 4 (.string S)
    have R5 := Lib.hid r5
    have HS := Lib.hid hS
    clear r5 hS
    obtain ⟨⟨g0, g1, g2, g3, g4, g5, g6, g7, g8⟩, k0, k1, k2, k3, k4, k5, k6, k7, k8⟩ := R4.out.factsR HSZ.out
    go_wp2_with fail
    try simp only [Exit.inBlock, Exit.then]
    refine bodyPost_ret (v := .agg (opCells (1 + r) 1 1 a S (.slice none 0 0) 0 0 false)) ?hr3 ?hd3 ?hb3
    case hd3 => rfl
    case hr3 => exact results_cell_row rfl _ _ (w.heap.size + 1) 47 _ (0, 0) _ rfl (fin_box rfl (R5.out.b2' HSZ.out) _ _ _ _ _ _ _ _ _) Tryz.underlying47 rfl (by kernel_rfl)
    case hb3 => rw [← HS.out] at R5 ⊢; exact right_of_read HBD.out (.inl rfl) ⟨⟨HI0.out.1, HI0.out.2.1, rfl, HI0.out.2.2⟩, .inl ⟨rfl, ⟨a0, by simp only; omega⟩, ⟨l, rfl, HL.out.1, HL.out.2.1, HL.out.2.2⟩, rfl⟩, ⟨rfl, rfl, rfl⟩⟩ (rd_end' HSZ.out ⟨1 + r, 1, 1, a, enc l, [], 0, 0, false⟩ R5.out)
  case inr.inr.inr.inl =>
    subst h1
    have b2 : ((T : Int) == 0) = false := by simp; omega
    have b3 : ((n2 : Int) == 0) = false := by simp; omega
    go_wp2_with fail
    have r2 : Rd D _ (opCells (1 + r) 1 2 0 ⟨#[]⟩ (.slice none 0 0) 0 0 false) (.slice none 0 0) [] := R1.out.put' HSZ.out 2 (.int .i64 2)
    have R2 := Lib.hid r2
    clear r2
    generalize W1.setCell ⟨w.heap.size + 1 + 1, 2, none⟩ (.int .i64 2) = W2 at R2 ⊢
    clear f0 f1 f2 f3 f4 f5 f6 f7 f8 d0 d1 d2 d3 d4 d5 d6 d7 d8 e0 e1 e2 e3
    refine (chosen_any A2 n2 c2 xs2 T _ ⟨by omega, by omega⟩ (by omega) (HR2.out.below (HBD.out.trans (R2.out.below.mono HBD.out.size)))).mono ?_
    rintro e w4 ⟨v, rs, rfl, hown, hup, hhi, hne, hln, hb⟩
    have R4 := Lib.hid (Rd.mk' (R2.out.step hb) (own_weak' hown (by have := R2.out.lt; omega)))
    obtain ⟨A4, n4, c4, rfl⟩ : ∃ A n c, v = .slice A n c := by obtain ⟨A, c, h, _⟩ := R4.out.ranges; exact ⟨A, _, c, h⟩
    have HL := Lib.hid (And.intro hup (And.intro hhi (And.intro hne hln)))
    clear hown hb hup hhi hne hln
    obtain ⟨⟨f0, f1, f2, f3, f4, f5, f6, f7, f8⟩, d0, d1, d2, d3, d4, d5, d6, d7, d8⟩ := R4.out.facts HSZ.out
    have hbk := DK.out _ R4.out.below
    have e0 : w4.cell? ⟨w.heap.size, 0, none⟩ = some (.int .i64 kd) := by rw [Lib.cell_of_heap hbk]; rfl
    have e1 : w4.cell? ⟨w.heap.size, 1, none⟩ = some (.int .i64 at_) := by rw [Lib.cell_of_heap hbk]; rfl
    have e2 : w4.cell? ⟨w.heap.size, 2, none⟩ = some (.slice A1 n1 c1) := by rw [Lib.cell_of_heap hbk]; rfl
    have e3 : w4.cell? ⟨w.heap.size, 3, none⟩ = some (.slice A2 n2 c2) := by rw [Lib.cell_of_heap hbk]; rfl
    clear hbk
    have r5 : Rd D _ (opCells (1 + r) 1 2 0 ⟨#[]⟩ (.slice A4 n4 c4) 0 0 false) (.slice A4 n4 c4) rs := R4.out.put' HSZ.out 5 (.slice A4 n4 c4)
    have R5 := Lib.hid r5
    clear r5
    obtain ⟨⟨g0, g1, g2, g3, g4, g5, g6, g7, g8⟩, k0, k1, k2, k3, k4, k5, k6, k7, k8⟩ := R4.out.factsR HSZ.out
    go_wp2_with fail
    try simp only [Exit.inBlock, Exit.then]
    refine bodyPost_ret (v := .agg (opCells (1 + r) 1 2 0 ⟨#[]⟩ (.slice A4 n4 c4) 0 0 false)) ?hr4 ?hd4 ?hb4
    case hd4 => rfl
    case hr4 => exact results_cell_row rfl _ _ (w.heap.size + 1) 47 _ (0, 0) _ rfl (fin_box rfl (R5.out.b2' HSZ.out) _ _ _ _ _ _ _ _ _) Tryz.underlying47 rfl (by kernel_rfl)
    case hb4 => exact right_of_read HBD.out (.inr HL.out.2.2.1) ⟨⟨HI0.out.1, HI0.out.2.1, rfl, HI0.out.2.2⟩, .inr ⟨.inl rfl, rfl, rfl, HL.out.1, HL.out.2.1, HL.out.2.2.1, HL.out.2.2.2⟩, ⟨rfl, rfl, rfl⟩⟩ (rd_end' HSZ.out ⟨1 + r, 1, 2, 0, [], rs, 0, 0, false⟩ R5.out)
  case inr.inr.inr.inr =>
    subst h1
    have b2 : ((T : Int) == 0) = false := by simp; omega
    have b3 : ((n2 : Int) == 0) = false := by simp; omega
    go_wp2_with fail
    have r2 : Rd D _ (opCells (1 + r) 1 3 0 ⟨#[]⟩ (.slice none 0 0) 0 0 false) (.slice none 0 0) [] := (R1.out.put' HSZ.out 2 (.int .i64 2)).put' HSZ.out 2 (.int .i64 3)
    have R2 := Lib.hid r2
    clear r2
    generalize (W1.setCell ⟨w.heap.size + 1 + 1, 2, none⟩ (.int .i64 2)).setCell ⟨w.heap.size + 1 + 1, 2, none⟩ (.int .i64 3) = W2 at R2 ⊢
    clear f0 f1 f2 f3 f4 f5 f6 f7 f8 d0 d1 d2 d3 d4 d5 d6 d7 d8 e0 e1 e2 e3
    refine (chosen_any A2 n2 c2 xs2 T _ ⟨by omega, by omega⟩ (by omega) (HR2.out.below (HBD.out.trans (R2.out.below.mono HBD.out.size)))).mono ?_
    rintro e w4 ⟨v, rs, rfl, hown, hup, hhi, hne, hln, hb⟩
    have R4 := Lib.hid (Rd.mk' (R2.out.step hb) (own_weak' hown (by have := R2.out.lt; omega)))
    obtain ⟨A4, n4, c4, rfl⟩ : ∃ A n c, v = .slice A n c := by obtain ⟨A, c, h, _⟩ := R4.out.ranges; exact ⟨A, _, c, h⟩
    have HL := Lib.hid (And.intro hup (And.intro hhi (And.intro hne hln)))
    clear hown hb hup hhi hne hln
    obtain ⟨⟨f0, f1, f2, f3, f4, f5, f6, f7, f8⟩, d0, d1, d2, d3, d4, d5, d6, d7, d8⟩ := R4.out.facts HSZ.out
    have hbk := DK.out _ R4.out.below
    have e0 : w4.cell? ⟨w.heap.size, 0, none⟩ = some (.int .i64 kd) := by rw [Lib.cell_of_heap hbk]; rfl
    have e1 : w4.cell? ⟨w.heap.size, 1, none⟩ = some (.int .i64 at_) := by rw [Lib.cell_of_heap hbk]; rfl
    have e2 : w4.cell? ⟨w.heap.size, 2, none⟩ = some (.slice A1 n1 c1) := by rw [Lib.cell_of_heap hbk]; rfl
    have e3 : w4.cell? ⟨w.heap.size, 3, none⟩ = some (.slice A2 n2 c2) := by rw [Lib.cell_of_heap hbk]; rfl
    clear hbk
    have r5 : Rd D _ (opCells (1 + r) 1 3 0 ⟨#[]⟩ (.slice A4 n4 c4) 0 0 false) (.slice A4 n4 c4) rs := R4.out.put' HSZ.out 5 (.slice A4 n4 c4)
    have R5 := Lib.hid r5
    clear r5
    obtain ⟨⟨g0, g1, g2, g3, g4, g5, g6, g7, g8⟩, k0, k1, k2, k3, k4, k5, k6, k7, k8⟩ := R4.out.factsR HSZ.out
    go_wp2_with fail
    try simp only [Exit.inBlock, Exit.then]
    refine bodyPost_ret (v := .agg (opCells (1 + r) 1 3 0 ⟨#[]⟩ (.slice A4 n4 c4) 0 0 false)) ?hr5 ?hd5 ?hb5
    case hd5 => rfl
    case hr5 => exact results_cell_row rfl _ _ (w.heap.size + 1) 47 _ (0, 0) _ rfl (fin_box rfl (R5.out.b2' HSZ.out) _ _ _ _ _ _ _ _ _) Tryz.underlying47 rfl (by kernel_rfl)
    case hb5 => exact right_of_read HBD.out (.inr HL.out.2.2.1) ⟨⟨HI0.out.1, HI0.out.2.1, rfl, HI0.out.2.2⟩, .inr ⟨.inr rfl, rfl, rfl, HL.out.1, HL.out.2.1, HL.out.2.2.1, HL.out.2.2.2⟩, ⟨rfl, rfl, rfl⟩⟩ (rd_end' HSZ.out ⟨1 + r, 1, 3, 0, [], rs, 0, 0, false⟩ R5.out)
end Go.Proofs.YtkdhomiieenfnaaGreatDoor.O
