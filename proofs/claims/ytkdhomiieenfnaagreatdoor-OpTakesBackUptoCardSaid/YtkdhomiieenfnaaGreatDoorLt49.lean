/- What the rows' lists give: the table of bits.TrailingZeros64 lies in memory as its text lays it. What the rows' lists give: the table of powers of ten; all that Print reads. What the rows' lists give: the library's error for a bad numeral lies in memory as its text lays it. What the rows' lists give: all that Parse reads. -/
import Derived.Test.YtkdhomiieenfnaaGreatDoorLt48
import Derived.Test.YtkdhomiieenfnaaGreatDoorUHex
import Derived.Test.YtkdhomiieenfnaaGreatDoorLt31
import Derived.LaidMore
import Derived.Test.YtkdhomiieenfnaaGreatDoorOqT
namespace Go.Proofs.YtkdhomiieenfnaaGreatDoor.U
open Go.ChangeShapes Go.WideShapes Go.ChangeAt Go.RowKit
set_option linter.unusedVariables false

/-- An array of one-cell elements: each cell's own reading. -/
theorem array_cell1 {H : Type} {enc : TypeId × Value → H} {P : Program} {w : World} {base : Nat} {sp : Nat → Bool} {held : Bool} {fuel : Nat} {t e : TypeId} {n : Nat} {cs : List Value} {ds : List (DataW H)} {p : List MemPlace}
    (ht : P.underlying t = some (.array n e)) (ce : P.cellsOf e = 1) (ct : P.cellsOf t = n) (h : DataW.trod enc P w base sp held fuel t cs = some (.agg ds, p)) (i : Nat) (d : DataW H) (hd : ds[i]? = some d) : ∃ v m q, cs[i]? = some v ∧ DataW.trod enc P w base sp held m e [v] = some (d, q) := by
  obtain ⟨xs, m, _, hx, hl, hn, hi⟩ := DataW.trod_array ht h
  have hxs : xs.map (·.1) = ds := by
    have := congrArg Prod.fst hx
    simpa using this.symm
  rw [← hxs, List.getElem?_map] at hd
  obtain ⟨x, hxi, rfl⟩ := Option.map_eq_some_iff.1 hd
  have hin : i < n := by have := (List.getElem?_eq_some_iff.1 hxi).1; omega
  have h2 := hi i hin
  rw [ce, hxi, Nat.mul_one] at h2
  have hc : cs[i]? = some (cs[i]'(by omega)) := List.getElem?_eq_getElem (by omega)
  have e1 : (cs.drop i).take 1 = [cs[i]'(by omega)] := by
    rw [List.drop_eq_getElem_cons (by omega)]; rfl
  rw [e1] at h2
  exact ⟨_, m, x.2, hc, h2⟩
theorem gTz : Tryz.prog.globalNamed "math/bits.deBruijn64tab" = some 6 := by kernel_rfl
theorem gTzType : (Tryz.prog.globals[6]?).map (·.type) = some 240 := by kernel_rfl
theorem cTz : Tryz.prog.cellsOf 240 = 64 := by kernel_rfl
theorem cByte : Tryz.prog.cellsOf 5 = 1 := by kernel_rfl
def tzD : List (DataW Unit) := match (Rows.laid_math_bits_deBruijn64tab : DataW Unit) with | .agg l => l | _ => []
theorem tz_of_laid {l : List (String × DataW Unit)} {W : World} (hx : (l.filter fun x => x.1 == "math/bits.deBruijn64tab") = [("math/bits.deBruijn64tab", (Rows.laid_math_bits_deBruijn64tab : DataW Unit))]) (h : laidMetH Tryz.prog l W) : Tz16 W := by
  have h1 := laidMetH.filter (fun x => x.1 == "math/bits.deBruijn64tab") h
  rw [hx] at h1
  obtain ⟨ps, ⟨g, t, cs, fuel, p, q, hg, ht, hvar, hd, _, _⟩, _⟩ := (laidMetH_iff.1 h1).1
  obtain rfl := Option.some.inj (gTz.symm.trans hg)
  obtain rfl := Option.some.inj (gTzType.symm.trans ht)
  obtain ⟨v, m, q', hc, hr⟩ := array_cell1 (ds := tzD) Tryz.underlying240 cByte cTz hd 15 (.lit (.int .u8 4)) (by kernel_rfl)
  obtain ⟨n, en, e2, _⟩ := DataW.trod_int Tryz.underlying5 hr
  simp at en e2
  subst en
  unfold Tz16
  simp only [World.var?, hg, Option.bind_some] at hvar
  split at hvar
  · rename_i c t fr e
    obtain rfl := Option.some.inj hvar
    rw [Lib.cell_of_heap e, ← Array.getElem?_toList, hc, ← e2.1]
  · cases hvar
end Go.Proofs.YtkdhomiieenfnaaGreatDoor.U

namespace Go.Proofs.YtkdhomiieenfnaaGreatDoor.O
open Go.ChangeShapes Go.WideShapes Go.ChangeAt Go.RowKit Go.Proofs.YtkdhomiieenfnaaGreatDoor.U
set_option linter.unusedVariables false

theorem gPow : Tryz.prog.globalNamed "internal/strconv.uint64pow10" = some 1 := by kernel_rfl
theorem gPowType : (Tryz.prog.globals[1]?).map (·.type) = some 223 := by kernel_rfl
theorem cPow : Tryz.prog.cellsOf 223 = 20 := by kernel_rfl
theorem cU64 : Tryz.prog.cellsOf 203 = 1 := by kernel_rfl
theorem pow_of_laid {l : List (String × DataW Unit)} {W : World} (hx : (l.filter fun x => x.1 == "internal/strconv.uint64pow10") = [("internal/strconv.uint64pow10", (Rows.laid_internal_strconv_uint64pow10 : DataW Unit))]) (h : laidMetH Tryz.prog l W) : Lib.TabIs Tryz.prog W "internal/strconv.uint64pow10" .u64 Lib.pow10Tab := by
  have h1 := laidMetH.filter (fun x => x.1 == "internal/strconv.uint64pow10") h
  rw [hx] at h1
  have h2 := (laidMetH_iff.1 h1).1
  rw [show (Rows.laid_internal_strconv_uint64pow10 : DataW Unit) = Lib.tabData .u64 Lib.pow10Tab by kernel_rfl] at h2
  exact Lib.tabIs_of_head gPow gPowType Tryz.underlying223 Tryz.underlying203 cU64 cPow h2
end Go.Proofs.YtkdhomiieenfnaaGreatDoor.O

namespace Go.Proofs.YtkdhomiieenfnaaGreatDoor.U
open Go.ChangeShapes Go.WideShapes Go.ChangeAt Go.RowKit
set_option linter.unusedVariables false

theorem gSyn : Tryz.prog.globalNamed "strconv.ErrSyntax" = some 3 := by kernel_rfl
theorem gSynType : (Tryz.prog.globals[3]?).map (·.type) = some 116 := by kernel_rfl
theorem syn_of_laid {l : List (String × DataW Unit)} {W : World} (hx : (l.filter fun x => x.1 == "strconv.ErrSyntax") = [("strconv.ErrSyntax", (Rows.laid_strconv_ErrSyntax : DataW Unit))]) (h : laidMetH Tryz.prog l W) :
    ∃ ev, W.cell? ⟨3, 0, none⟩ = some ev ∧ (ev = .nilIface ∨ ∃ te pe, ev = .iface te pe) := by
  have h3 := laidMetH.filter (fun x => x.1 == "strconv.ErrSyntax") h
  rw [hx] at h3
  obtain ⟨ps, ⟨g, t, cs, fuel, p, q, hg, ht, hvar, hd, _, _⟩, _⟩ := (laidMetH_iff.1 h3).1
  obtain rfl := Option.some.inj (gSyn.symm.trans hg)
  obtain rfl := Option.some.inj (gSynType.symm.trans ht)
  obtain ⟨f1, u, v, hcs, _, _⟩ := iface_of_trod Tryz.underlying116 hd
  have hc := World.var?_cell gSyn hvar 0
  have e0 : cs[0]? = some (.iface u v) := by
    have : cs.toList[0]? = some (.iface u v) := by rw [hcs]; rfl
    simpa using this
  exact ⟨_, hc.trans e0, .inr ⟨_, _, rfl⟩⟩
end Go.Proofs.YtkdhomiieenfnaaGreatDoor.U

namespace Go.Proofs.YtkdhomiieenfnaaGreatDoor.O
open Go.ChangeShapes Go.WideShapes Go.ChangeAt Go.RowKit Go.Proofs.YtkdhomiieenfnaaGreatDoor.U
set_option linter.unusedVariables false

theorem gRng : Tryz.prog.globalNamed "strconv.ErrRange" = some 4 := by kernel_rfl
theorem gRngType : (Tryz.prog.globals[4]?).map (·.type) = some 116 := by kernel_rfl
theorem rng_of_laid {l : List (String × DataW Unit)} {W : World} (hx : (l.filter fun x => x.1 == "strconv.ErrRange") = [("strconv.ErrRange", (Rows.laid_strconv_ErrRange : DataW Unit))]) (h : laidMetH Tryz.prog l W) :
    ∃ ev, W.cell? ⟨4, 0, none⟩ = some ev ∧ (ev = .nilIface ∨ ∃ te pe, ev = .iface te pe) := by
  have h3 := laidMetH.filter (fun x => x.1 == "strconv.ErrRange") h
  rw [hx] at h3
  obtain ⟨ps, ⟨g, t, cs, fuel, p, q, hg, ht, hvar, hd, _, _⟩, _⟩ := (laidMetH_iff.1 h3).1
  obtain rfl := Option.some.inj (gRng.symm.trans hg)
  obtain rfl := Option.some.inj (gRngType.symm.trans ht)
  obtain ⟨f1, u, v, hcs, _, _⟩ := iface_of_trod Tryz.underlying116 hd
  have hc := World.var?_cell gRng hvar 0
  have e0 : cs[0]? = some (.iface u v) := by
    have : cs.toList[0]? = some (.iface u v) := by rw [hcs]; rfl
    simpa using this
  exact ⟨_, hc.trans e0, .inr ⟨_, _, rfl⟩⟩
theorem ml_of_shape {W : World} (h : W.ShapedOpen Tryz.prog) : ∃ m, W.cell? ⟨2, 0, none⟩ = some (.int .i64 m) := Tryz.laysM145.s1_3 W h
end Go.Proofs.YtkdhomiieenfnaaGreatDoor.O
