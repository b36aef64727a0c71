/- How an argument of type Play is opened: its cells, and the first operations of its steps. -/
import Derived.Test.YtkdhomiieenfnaaDoorLwIn
import Derived.Test.YtkdhomiieenfnaaDoorXLm38
import Derived.OpenShut
namespace Go.Proofs.YtkdhomiieenfnaaDoor.Lw
open Go.Joins Go.ChangeShapes Go.WideShapes Go.ChangeAt Go.RowKit Go.Deep Go.Proofs.YtkdhomiieenfnaaDoor.U Go.Proofs.YtkdhomiieenfnaaDoor.O
set_option linter.unusedVariables false
set_option linter.unusedSimpArgs false

theorem list_of {α : Type} {P : Nat → α → Prop} : ∀ n, (∀ i, i < n → ∃ o, P i o) → ∃ os : List α, os.length = n ∧ ∀ i (h : i < os.length), P i os[i]
  | 0, _ => ⟨[], rfl, fun i h => by simp at h⟩
  | n + 1, h => by
    obtain ⟨os, hl, ho⟩ := list_of n fun i hi => h i (by omega)
    obtain ⟨o, hp⟩ := h n (by omega)
    refine ⟨os ++ [o], by simp [hl], fun i hi => ?_⟩
    rcases Nat.lt_or_ge i n with h1 | h1
    · rw [List.getElem_append_left (by omega)]; exact ho i (by omega)
    · obtain rfl : i = n := by simp [hl] at hi; omega
      rw [List.getElem_append_right (by omega)]
      simpa [hl] using hp
section
variable {H : Type} {enc : TypeId × Value → H} {P : Program} {w : World} {base : Nat} {spare : Nat → Bool} {held : Bool}
theorem open_two {r : Reach} {b0 : Nat} {t : TypeId} {f0 f1 : Field} {v : Value} {d : DataW H} {p : List MemPlace} (hs : P.underlying t = some (.struct #[f0, f1])) (hone : oneCellFields P #[f0, f1] = true) (hC : P.cellsOf t = 2)
    (hv : Value.okWide P w r b0 t v) (h : DataW.Trod enc P w base spare held t v d p) :
    ∃ (v0 v1 : Value) (y0 y1 : DataW H × List MemPlace) (n : Nat), v = .agg #[v0, v1] ∧ d = .agg [y0.1, y1.1] ∧
      DataW.trod enc P w base spare held n f0.type [v0] = some y0 ∧ DataW.trod enc P w base spare held n f1.type [v1] = some y1 := by
  obtain ⟨cs, rfl, hsz⟩ := okWide_struct hs hv
  obtain ⟨l⟩ := cs
  match l, hsz.trans hC with
  | [c0, c1], _ =>
    obtain ⟨fuel, hf⟩ := h
    obtain ⟨xs, n, _, hx, _, hlen, hg⟩ := DataW.trod_struct hs hf
    obtain ⟨o0, k0⟩ := hone_of hone 0 f0 rfl
    obtain ⟨o1, k1⟩ := hone_of hone 1 f1 rfl
    match xs, hlen with
    | [y0, y1], _ =>
      simp only [Prod.mk.injEq] at hx
      exact ⟨c0, c1, y0, y1, n, rfl, by simpa using hx.1, by simpa [Value.cells, o0, k0] using hg 0 f0 rfl, by simpa [Value.cells, o1, k1] using hg 1 f1 rfl⟩
end
theorem cOp9 : Tryd.prog.cellsOf 48 = 9 := by kernel_rfl
theorem cHead3 : Tryd.prog.cellsOf 45 = 3 := by kernel_rfl
theorem cId2 : Tryd.prog.cellsOf 42 = 2 := by kernel_rfl
theorem cKind1 : Tryd.prog.cellsOf 43 = 1 := by kernel_rfl
theorem cRg2 : Tryd.prog.cellsOf 110 = 2 := by kernel_rfl
theorem cRgs1 : Tryd.prog.cellsOf 46 = 1 := by kernel_rfl
theorem cStr1 : Tryd.prog.cellsOf 9 = 1 := by kernel_rfl
theorem cBool1 : Tryd.prog.cellsOf 4 = 1 := by kernel_rfl
theorem bRg : Tryd.prog.bytesOf 110 = 16 := by kernel_rfl
theorem bStep : Tryd.prog.bytesOf 64 = 224 := by kernel_rfl
theorem cStep21 : Tryd.prog.cellsOf 64 = 21 := by kernel_rfl
section
variable {H : Type} {enc : TypeId × Value → H} {w : World} {base : Nat} {spare : Nat → Bool} {held : Bool}
set_option maxRecDepth 100000 in
theorem id_read {fuel : Nat} {a b : Value} {y : DataW H × List MemPlace} (h : DataW.trod enc Tryd.prog w base spare held fuel 42 [a, b] = some y) : ∃ i j, a = .int .i64 i ∧ b = .int .i64 j := by
  obtain ⟨xs, m, _, _, _, hl, hf⟩ := DataW.trod_array Tryd.underlying42 h
  match xs, hl with
  | [y0, y1], _ =>
    have g0 := hf 0 (by decide)
    have g1 := hf 1 (by decide)
    rw [cInt1] at g0 g1
    change DataW.trod enc Tryd.prog w base spare held m 3 [a] = some y0 at g0
    change DataW.trod enc Tryd.prog w base spare held m 3 [b] = some y1 at g1
    obtain ⟨i, ei, _, _⟩ := DataW.trod_int Tryd.underlying3 g0
    obtain ⟨j, ej, _, _⟩ := DataW.trod_int Tryd.underlying3 g1
    exact ⟨i, j, (List.cons.inj ei).1, (List.cons.inj ej).1⟩
set_option maxRecDepth 100000 in
theorem head_read {fuel : Nat} {a b c : Value} {y : DataW H × List MemPlace} (h : DataW.trod enc Tryd.prog w base spare held fuel 45 [a, b, c] = some y) : ∃ i j k, a = .int .i64 i ∧ b = .int .i64 j ∧ c = .int .i64 k := by
  obtain ⟨xs, m, _, _, _, hl, hf⟩ := DataW.trod_struct Tryd.underlying45 h
  match xs, hl with
  | [y0, y1], _ =>
    have g0 := hf 0 _ rfl
    have g1 := hf 1 _ rfl
    change DataW.trod enc Tryd.prog w base spare held m 42 (List.take (Tryd.prog.cellsOf 42) [a, b, c]) = some y0 at g0
    change DataW.trod enc Tryd.prog w base spare held m 43 (List.take (Tryd.prog.cellsOf 43) [c]) = some y1 at g1
    rw [cId2] at g0
    rw [cKind1] at g1
    simp only [List.take_succ_cons, List.take_zero] at g0 g1
    obtain ⟨i, j, e1, e2⟩ := id_read g0
    obtain ⟨k, ek, _, _⟩ := DataW.trod_int Tryd.underlying43 g1
    exact ⟨i, j, k, e1, e2, (List.cons.inj ek).1⟩
set_option maxRecDepth 100000 in
theorem ranges_read {v : Value} {y : DataW H × List MemPlace} {fuel : Nat} (hf : DataW.trod enc Tryd.prog w base spare held fuel 46 [v] = some y) (hw : (y.1.weights Tryd.prog 46).all (· ≤ reachBytes) = true) : ∃ A n c rs, v = .slice A n c ∧ Ranges w A n rs ∧ n ≤ 8796093021952 := by
  rcases open_slice_pairs Tryd.underlying46 Tryd.underlying110 cRg2 rfl rfl cInt1 cInt1 hf with ⟨hcs, hx⟩ | ⟨a, len, cap, m, n, V0, V1, D0, D1, P0, P1, hcs, hb', hl, hm, hmm, hx, hi⟩
  · exact ⟨none, 0, 0, [], (List.cons.inj hcs).1, ⟨rfl, fun h0 => by omega⟩, by omega⟩
  · have hlm : len ≤ m := by rw [hmm]; split <;> omega
    obtain ⟨rs, hrl, ho⟩ := list_of (P := fun i (x : Int × Int) => w.cell? (a.add (i * 2)) = some (.int .i64 x.1) ∧ w.cell? (a.add (i * 2 + 1)) = some (.int .i64 x.2)) len fun i hil => by
      obtain ⟨c0, c1, g0, g1⟩ := hi i (by omega)
      obtain ⟨k, ek, _, wk⟩ := DataW.trod_int Tryd.underlying3 g0
      obtain ⟨l, el, _, wl⟩ := DataW.trod_int Tryd.underlying3 g1
      exact ⟨(k, l), by rw [c0, (List.cons.inj ek).1], by rw [c1, (List.cons.inj el).1]⟩
    refine ⟨some a, len, cap, rs, (List.cons.inj hcs).1, ⟨hrl.symm, fun h0 => ?_⟩, ?_⟩
    · have hsp : a.spot = none := by
        have := (ho 0 (by omega)).1
        exact World.cell?_spot (a := a) (by simpa [Addr.add] using this)
      obtain ⟨b, off, sp⟩ := a
      obtain rfl : sp = none := hsp
      refine ⟨b, off, rfl, fun i hil => ?_⟩
      obtain ⟨c0, c1⟩ := ho i hil
      simp only [Addr.add_lit] at c0 c1
      exact ⟨c0, c1⟩
    · rw [hx] at hw
      simp only [DataW.weights, Tryd.underlying46, List.all_cons, Bool.and_eq_true, decide_eq_true_eq, bRg, List.length_map, List.length_range] at hw
      have h1 := hw.1
      have h2 : reachBytes = 140737488351232 := rfl
      omega
set_option maxRecDepth 100000 in
theorem op_of {cs : List Value} {y : DataW H × List MemPlace} {fuel : Nat} (h : DataW.trod enc Tryd.prog w base spare held fuel 48 cs = some y) (hw : (y.1.weights Tryd.prog 48).all (· ≤ reachBytes) = true) :
    ∃ i0 i1 kd a tx A n c rs t0 t1 on, cs = [.int .i64 i0, .int .i64 i1, .int .i64 kd, .int .i64 a, .string tx, .slice A n c, .int .i64 t0, .int .i64 t1, .bool on] ∧ Ranges w A n rs ∧ n ≤ 8796093021952 ∧ tx.size ≤ maxLen := by
  obtain ⟨ys, m, _, hy, hcl, hl, hf⟩ := DataW.trod_struct Tryd.underlying48 h
  rw [cOp9] at hcl
  match ys, hl with
  | [y0, y1, y2, y3, y4, y5], _ =>
  match cs, hcl with
  | [x0, x1, x2, x3, x4, x5, x6, x7, x8], _ =>
    have g0 := hf 0 _ rfl
    have g1 := hf 1 _ rfl
    have g2 := hf 2 _ rfl
    have g3 := hf 3 _ rfl
    have g4 := hf 4 _ rfl
    have g5 := hf 5 _ rfl
    change DataW.trod enc Tryd.prog w base spare held m 45 (List.take (Tryd.prog.cellsOf 45) [x0, x1, x2, x3, x4, x5, x6, x7, x8]) = some y0 at g0
    change DataW.trod enc Tryd.prog w base spare held m 3 (List.take (Tryd.prog.cellsOf 3) [x3, x4, x5, x6, x7, x8]) = some y1 at g1
    change DataW.trod enc Tryd.prog w base spare held m 9 (List.take (Tryd.prog.cellsOf 9) [x4, x5, x6, x7, x8]) = some y2 at g2
    change DataW.trod enc Tryd.prog w base spare held m 46 (List.take (Tryd.prog.cellsOf 46) [x5, x6, x7, x8]) = some y3 at g3
    change DataW.trod enc Tryd.prog w base spare held m 42 (List.take (Tryd.prog.cellsOf 42) [x6, x7, x8]) = some y4 at g4
    change DataW.trod enc Tryd.prog w base spare held m 4 (List.take (Tryd.prog.cellsOf 4) [x8]) = some y5 at g5
    rw [cHead3] at g0
    rw [cInt1] at g1
    rw [cStr1] at g2
    rw [cRgs1] at g3
    rw [cId2] at g4
    rw [cBool1] at g5
    simp only [List.take_succ_cons, List.take_zero] at g0 g1 g2 g3 g4 g5
    obtain ⟨i0, i1, kd, rfl, rfl, rfl⟩ := head_read g0
    obtain ⟨a, ea, _, _⟩ := DataW.trod_int Tryd.underlying3 g1
    obtain ⟨tx, et, rfl, htx⟩ := DataW.trod_string Tryd.underlying9 g2
    obtain ⟨t0, t1, rfl, rfl⟩ := id_read g4
    obtain ⟨on, eo, _⟩ := DataW.trod_bool Tryd.underlying4 g5
    have hd : y.1 = .agg [y0.1, y1.1, .lit (.string tx.data.toList), y3.1, y4.1, y5.1] := congrArg Prod.fst hy
    rw [hd] at hw
    simp only [DataW.weights, Tryd.underlying48, DataW.weightsEach, List.map_cons, List.map_nil, List.append_nil, List.nil_append, List.all_append, Bool.and_eq_true] at hw
    have h3w : (y3.1.weights Tryd.prog 46).all (· ≤ reachBytes) = true := by
      first | exact hw.2.2.1 | exact hw.2.2.2.1 | exact hw.2.1
    obtain ⟨A, n, c, rs, rfl, hr, hn⟩ := ranges_read g3 h3w
    simp only [List.cons.injEq, and_true] at ea et eo
    subst ea et eo
    exact ⟨i0, i1, kd, a, tx, A, n, c, rs, t0, t1, on, rfl, hr, hn, htx⟩
set_option maxRecDepth 100000 in
theorem step_read {b off : Nat} {n : Nat} {cs : List Value} {d : DataW H} {p : List MemPlace} (hc : w.cells? base ⟨b, off, none⟩ 21 = some cs) (ht : DataW.trod enc Tryd.prog w base spare held n 64 cs = some (d, p)) (hw : (d.weights Tryd.prog 64).all (· ≤ reachBytes) = true) :
    ∃ i0 i1 kd a tx A' n' c' rs t0 t1 on, OpAt9 w b (off + 1) i0 i1 kd a tx (.slice A' n' c') t0 t1 on ∧ Ranges w A' n' rs ∧ n' ≤ 8796093021952 ∧ tx.size ≤ maxLen := by
  obtain ⟨ys, m, _, hy, _, hl, hf⟩ := DataW.trod_struct Tryd.underlying64 ht
  obtain ⟨_, hcl, hat⟩ := World.cells?_some hc
  match ys, hl with
  | [y0, y1, y2, y3, y4], _ =>
  match cs, hcl with
  | [x0, x1, x2, x3, x4, x5, x6, x7, x8, x9, x10, x11, x12, x13, x14, x15, x16, x17, x18, x19, x20], _ =>
    have g1 := hf 1 _ rfl
    change DataW.trod enc Tryd.prog w base spare held m 48 (List.take (Tryd.prog.cellsOf 48) [x1, x2, x3, x4, x5, x6, x7, x8, x9, x10, x11, x12, x13, x14, x15, x16, x17, x18, x19, x20]) = some y1 at g1
    rw [cOp9] at g1
    simp only [List.take_succ_cons, List.take_zero] at g1
    have hd : d = .agg [y0.1, y1.1, y2.1, y3.1, y4.1] := congrArg Prod.fst hy
    rw [hd] at hw
    simp only [DataW.weights, Tryd.underlying64, DataW.weightsEach, List.map_cons, List.map_nil, List.append_nil, List.nil_append, List.all_append, Bool.and_eq_true] at hw
    have h1w : (y1.1.weights Tryd.prog 48).all (· ≤ reachBytes) = true := by
      first | exact hw.2.1 | exact hw.1
    obtain ⟨i0, i1, kd, a, tx, A, n', c, rs, t0, t1, on, e, hr, hn, hs⟩ := op_of g1 h1w
    simp only [List.cons.injEq, and_true] at e
    obtain ⟨rfl, rfl, rfl, rfl, rfl, rfl, rfl, rfl, rfl⟩ := e
    exact ⟨i0, i1, kd, a, tx, A, n', c, rs, t0, t1, on, ⟨hat 1 (by decide), hat 2 (by decide), hat 3 (by decide), hat 4 (by decide), hat 5 (by decide), hat 6 (by decide), hat 7 (by decide), hat 8 (by decide), hat 9 (by decide)⟩, hr, hn, hs⟩
set_option maxRecDepth 100000 in
theorem steps_read {v : Value} {y : DataW H × List MemPlace} {fuel : Nat} (hf : DataW.trod enc Tryd.prog w base spare held fuel 58 [v] = some y) (hw : (y.1.weights Tryd.prog 58).all (· ≤ reachBytes) = true) : ∃ A n c, v = .slice A n c ∧ ReadsS w A n := by
  rcases open_slice Tryd.underlying58 hf with ⟨hcs, hx⟩ | ⟨a, len, cap, m, n, D, Pl, hcs, hb', hl, hm, hmm, hx, hi⟩
  · exact ⟨none, 0, 0, (List.cons.inj hcs).1, by omega, fun h0 => by omega⟩
  · have hlm : len ≤ m := by rw [hmm]; split <;> omega
    rw [hx] at hw
    simp only [DataW.weights, Tryd.underlying58, List.all_cons, List.all_append, Bool.and_eq_true, decide_eq_true_eq, bStep, List.length_map, List.length_range] at hw
    refine ⟨some a, len, cap, (List.cons.inj hcs).1, ?_, fun h0 => ?_⟩
    · have h1 := hw.1
      have h2 : reachBytes = 140737488351232 := rfl
      omega
    have hsp : a.spot = none := by
      obtain ⟨cs', hc, _⟩ := hi 0 (by omega)
      rw [cStep21] at hc
      obtain ⟨_, hcl, hat⟩ := World.cells?_some hc
      have := hat 0 (by decide)
      rw [Nat.zero_mul, List.getElem?_eq_getElem (by omega)] at this
      exact World.cell?_spot (a := a) (by simpa [Addr.add] using this)
    obtain ⟨b, off, sp⟩ := a
    obtain rfl : sp = none := hsp
    refine ⟨b, off, rfl, fun i hil => ?_⟩
    obtain ⟨cs', hc, ht⟩ := hi i (by omega)
    rw [cStep21] at hc
    simp only [Addr.add_lit] at hc
    exact step_read hc ht (weights_mem (List.mem_map.2 ⟨i, List.mem_range.2 hil, rfl⟩) hw.2.1)
end
set_option maxRecDepth 100000 in
theorem play_in {H : Type} {enc : TypeId × Value → H} {w : World} {base b0 : Nat} {r : Reach} {spare : Nat → Bool} {held : Bool} {v : Value} {d : DataW H} {p : List MemPlace}
    (hv : Value.okWide Tryd.prog w r b0 60 v) (h : DataW.Trod enc Tryd.prog w base spare held 60 v d p)
    (hsz : (d.weights Tryd.prog 60).all (· ≤ reachBytes) = true) : ∃ A1 n1 c1 A2 n2 c2, v = .agg #[.slice A1 n1 c1, .slice A2 n2 c2] ∧ ReadsC w A1 n1 ∧ ReadsS w A2 n2 := by
  obtain ⟨v0, v1, y0, y1, n, rfl, rfl, g0, g1⟩ := open_two Tryd.underlying60 (by kernel_rfl) (by kernel_rfl) hv h
  simp only [DataW.weightsEach, DataW.weights, Tryd.underlying60, List.append_nil, List.map_cons, List.map_nil, List.all_append, Bool.and_eq_true] at hsz
  obtain ⟨A1, n1, c1, rfl, r1⟩ := cells_read g0 hsz.1
  obtain ⟨A2, n2, c2, rfl, r2⟩ := steps_read g1 hsz.2
  exact ⟨A1, n1, c1, A2, n2, c2, rfl, r1, r2⟩
end Go.Proofs.YtkdhomiieenfnaaDoor.Lw
