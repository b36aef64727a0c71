/- op.Check: what it answers. op.Check: what it answers. -/
import Derived.Test.YtkdhomiieenfnaaGreatDoorOpB
import Derived.Test.YtkdhomiieenfnaaGreatDoorOpC
namespace Go.Proofs.YtkdhomiieenfnaaGreatDoor.O
open Go.RowKit Go.Proofs Go.Joins Go.Proofs.YtkdhomiieenfnaaGreatDoor.U Go.Proofs.YtkdhomiieenfnaaGreatDoor.Txt
set_option linter.unusedVariables false
set_option linter.unusedSimpArgs false
attribute [local go_sem] id_eq

/-- Of an Ins, whose text Check counts n runes and error e of. -/
def insE (n e : Nat) (a total : Int) : Int := if e ≠ 0 then e else if n = 0 then 15 else if 256 < n then 14 else if a < 0 then 12 else if total < a then 12 else if 1048576 < total + n then 24 else 0
/-- Of the ranges of a Hide or Show. -/
def rngE (rs : List (Int × Int)) (total : Int) : Int := if rs = [] then 43 else if spanM rs ≠ 0 then spanM rs else if total < (rs[rs.length - 1]?.getD (0, 0)).2 then 12 else 0

set_option maxRecDepth 100000 in
set_option maxHeartbeats 1000000 in
theorem ranges_any (A : Option Addr) (n m : Nat) (rs : List (Int × Int)) (total : Int) (w : World) (hn : n ≤ 8796093022208) (hR : Ranges w A n rs) : Calls Tryz.prog 78 #[.slice A n m, .int .i64 total] w fun e w' => e = .returned (.int .i64 (rngE rs total)) ∧ Below w.heap.size w w' := by
  have HL := Lib.hid hR.len
  by_cases h0 : n = 0
  · have hnil : rs = [] := List.length_eq_zero_iff.1 (by have := HL.out; omega)
    have HE := Lib.hid (show rngE rs total = 43 by unfold rngE; rw [if_pos hnil])
    clear hnil
    have h1 : (n : Int) = 0 := by omega
    clear h0 hR HL
    go_enter Tryz.func78, Tryz.ntmps78
    go_wp2_with fail
    go_ret
    exact ⟨by rw [HE.out]; rfl, Below.refl _ _⟩
  · have hne : rs ≠ [] := fun h => by have := HL.out; subst h; simp at this; exact h0 this
    have hE : ∀ k, n = k + 1 → rngE rs total = if spanM rs ≠ 0 then spanM rs else if total < (rs[k]?.getD (0, 0)).2 then 12 else 0 := fun k hk => by unfold rngE; rw [if_neg hne, show rs.length - 1 = k by have := HL.out; omega]
    obtain ⟨k, hk⟩ : ∃ k, n = k + 1 := ⟨n - 1, by omega⟩
    have e1 : IntKind.i64.wrap ((n : Int) - 1) = k := by rw [hk]; rw [show ((k + 1 : Nat) : Int) - 1 = k by omega]; exact IntWalk.i64_in _ (by omega)
    have hz : ¬ ((n : Int) = 0) := by omega
    have e2 : k < n := by omega
    have HR := Lib.hid hR
    have HK := Lib.hid hk
    have HE := Lib.hid (hE k hk)
    clear hR h0 hne hk hE
    go_enter Tryz.func78, Tryz.ntmps78
    go_wp2_with fail
    refine (span_all A n m rs _ (by omega) HR.out).mono ?_
    rintro e w1 ⟨⟨i, rfl⟩, hb⟩
    have HB := Lib.hid hb
    clear hb
    have HE2 := Lib.hid HE.out
    clear HE
    generalize spanM rs = s at HE2 ⊢
    by_cases hs : s = 0
    · obtain ⟨b, off, rfl, hc⟩ := HR.out.at_ (by omega)
      have hkl : k < rs.length := by have := HL.out; omega
      have c1 := cell_below HB.out (hc k hkl).2
      have h5 : rs[k]? = some rs[k] := List.getElem?_eq_getElem hkl
      have hE3 : rngE rs total = if total < rs[k].2 then 12 else 0 := by rw [HE2.out, if_neg (by simpa using hs), h5]; rfl
      obtain ⟨hi, hhi⟩ : ∃ hi, rs[k].2 = hi := ⟨_, rfl⟩
      rw [hhi] at c1 hE3
      clear hhi
      have HE3 := Lib.hid hE3
      clear hE3
      clear hc h5 hkl
      by_cases g : total < hi
      · go_wp2_with fail
        go_ret
        exact ⟨by rw [HE3.out, if_pos g]; rfl, HB.out⟩
      · go_wp2_with fail
        go_ret
        exact ⟨by rw [HE3.out, if_neg (by omega)]; rfl, HB.out⟩
    · go_wp2_with fail
      go_ret
      exact ⟨by rw [HE2.out, if_pos hs]; rfl, HB.out⟩
set_option maxRecDepth 100000 in
set_option maxHeartbeats 1000000 in
theorem ins_any (i0 i1 a : Int) (tx : ByteArray) (A : Option Addr) (n m : Nat) (t0 t1 : Int) (on : Bool) (total : Int) (k ps er : Nat) (hck : chk tx.data.toList = (k, ps, er)) (w : World) (ht : 0 ≤ total ∧ total ≤ 1048576) (hs : tx.size ≤ maxLen) (hg : Bars w) : Calls Tryz.prog 77 #[opV i0 i1 1 a tx (.slice A n m) t0 t1 on, .int .i64 total] w fun e w' => e = .returned (.int .i64 (insE k er a total)) ∧ Below w.heap.size w w' := by
  have hco : chkOut tx = .tuple #[.int .i64 k, .int .i64 ps, .int .i64 er] := by unfold chkOut; rw [hck]
  clear hck
  unfold opV
  have HG := Lib.hid hg
  clear hg
  have hb0 := fun o => below_alloc1 w o
  go_enter Tryz.func77, Tryz.ntmps77
  go_wp2_with fail
  refine (check_any tx _ hs (HG.out.below (hb0 _))).mono ?_
  rintro e w1 ⟨rfl, hb⟩
  rw [hco]
  have hc : w1.cell? ⟨w.heap.size, 3, none⟩ = some (.int .i64 a) := cell_below hb (by simp)
  have HB := Lib.hid ((hb0 _).trans (hb.mono (by simp)))
  clear hb hb0
  have hdone : ∀ v : Nat, insE k er a total = v → (Ending.returned (Value.int .i64 (v : Int)) = Ending.returned (Value.int .i64 (insE k er a total))) := fun v h => by rw [h]
  have HD := Lib.hid hdone
  clear hdone
  by_cases h1 : er = 0
  · have g1 : ∀ y : Int, (if er ≠ 0 then (er : Int) else y) = y := fun y => if_neg (by simpa using h1)
    have G1 := Lib.hid g1
    clear g1
    by_cases h2 : k = 0
    · have HE := Lib.hid (show insE k er a total = (15 : Nat) by unfold insE; rw [G1.out, if_pos h2]; rfl)
      go_wp2_with fail
      go_ret
      exact ⟨HD.out _ HE.out, HB.out⟩
    by_cases h3 : 256 < k
    · have HE := Lib.hid (show insE k er a total = (14 : Nat) by unfold insE; rw [G1.out, if_neg h2, if_pos h3]; rfl)
      go_wp2_with fail
      go_ret
      exact ⟨HD.out _ HE.out, HB.out⟩
    by_cases h4 : a < 0
    · have HE := Lib.hid (show insE k er a total = (12 : Nat) by unfold insE; rw [G1.out, if_neg h2, if_neg h3, if_pos h4]; rfl)
      go_wp2_with fail
      go_ret
      exact ⟨HD.out _ HE.out, HB.out⟩
    by_cases h5 : total < a
    · have HE := Lib.hid (show insE k er a total = (12 : Nat) by unfold insE; rw [G1.out, if_neg h2, if_neg h3, if_neg h4, if_pos h5]; rfl)
      go_wp2_with fail
      go_ret
      exact ⟨HD.out _ HE.out, HB.out⟩
    have ew : IntKind.i64.wrap (total + k) = total + k := IntWalk.i64_in _ (by omega)
    by_cases h6 : 1048576 < total + k
    · have HE := Lib.hid (show insE k er a total = (24 : Nat) by unfold insE; rw [G1.out, if_neg h2, if_neg h3, if_neg h4, if_neg h5, if_pos h6]; rfl)
      go_wp2_with fail
      go_ret
      exact ⟨HD.out _ HE.out, HB.out⟩
    · have HE := Lib.hid (show insE k er a total = (0 : Nat) by unfold insE; rw [G1.out, if_neg h2, if_neg h3, if_neg h4, if_neg h5, if_neg h6]; rfl)
      go_wp2_with fail
      go_ret
      exact ⟨HD.out _ HE.out, HB.out⟩
  · have HE := Lib.hid (show insE k er a total = (er : Nat) by unfold insE; rw [if_pos h1])
    go_wp2_with fail
    go_ret
    exact ⟨HD.out _ HE.out, HB.out⟩
end Go.Proofs.YtkdhomiieenfnaaGreatDoor.O

namespace Go.Proofs.YtkdhomiieenfnaaGreatDoor.O
open Go.RowKit Go.Proofs Go.Joins Go.Proofs.YtkdhomiieenfnaaGreatDoor.U Go.Proofs.YtkdhomiieenfnaaGreatDoor.Txt
set_option linter.unusedVariables false
set_option linter.unusedSimpArgs false
attribute [local go_sem] id_eq

/-- The error of an operation where there are total cells; its text has k runes, or the error er. -/
def opE (i0 i1 kd a : Int) (tx : ByteArray) (k er : Nat) (rs : List (Int × Int)) (t0 t1 : Int) (on : Bool) (total : Int) : Int :=
  if total < 0 ∨ 1048576 < total then 12 else if kd < 1 ∨ 4 < kd then 40 else if ¬(i0 = 0 ∧ i1 = 0) ∧ idB i0 i1 = false then 41 else if extraB kd a tx rs.length t0 t1 on = true then 42 else if kd = 1 then insE k er a total else if kd = 4 then (if idB t0 t1 = false ∨ (t0 = i0 ∧ t1 = i1) then 63 else 0) else rngE rs total
/-- An operation's nine cells. -/
structure OpAt (w : World) (B : Nat) (i0 i1 kd a : Int) (tx : ByteArray) (rg : Value) (t0 t1 : Int) (on : Bool) : Prop where
  c0 : w.cell? ⟨B, 0, none⟩ = some (.int .i64 i0)
  c1 : w.cell? ⟨B, 1, none⟩ = some (.int .i64 i1)
  c2 : w.cell? ⟨B, 2, none⟩ = some (.int .i64 kd)
  c3 : w.cell? ⟨B, 3, none⟩ = some (.int .i64 a)
  c4 : w.cell? ⟨B, 4, none⟩ = some (.string tx)
  c5 : w.cell? ⟨B, 5, none⟩ = some rg
  c6 : w.cell? ⟨B, 6, none⟩ = some (.int .i64 t0)
  c7 : w.cell? ⟨B, 7, none⟩ = some (.int .i64 t1)
  c8 : w.cell? ⟨B, 8, none⟩ = some (.bool on)
theorem OpAt.below {w w1 : World} {B : Nat} {i0 i1 kd a : Int} {tx : ByteArray} {rg : Value} {t0 t1 : Int} {on : Bool} (h : OpAt w B i0 i1 kd a tx rg t0 t1 on) (hb : Below w.heap.size w w1) : OpAt w1 B i0 i1 kd a tx rg t0 t1 on :=
  ⟨cell_below hb h.c0, cell_below hb h.c1, cell_below hb h.c2, cell_below hb h.c3, cell_below hb h.c4, cell_below hb h.c5, cell_below hb h.c6, cell_below hb h.c7, cell_below hb h.c8⟩
theorem OpAt.new (w : World) (i0 i1 kd a : Int) (tx : ByteArray) (rg : Value) (t0 t1 : Int) (on : Bool) (T : Nat) : OpAt (w.alloc (.cells #[.int .i64 i0, .int .i64 i1, .int .i64 kd, .int .i64 a, .string tx, rg, .int .i64 t0, .int .i64 t1, .bool on] T)) w.heap.size i0 i1 kd a tx rg t0 t1 on := by
  constructor <;> simp
theorem Ranges.new {w : World} {A : Option Addr} {n : Nat} {rs : List (Int × Int)} (h : Ranges w A n rs) (o : Obj) : Ranges (w.alloc o) A n rs := h.below (below_alloc1 w o)

set_option maxRecDepth 100000 in
set_option maxHeartbeats 4000000 in
theorem opCheck_bad (i0 i1 kd a : Int) (tx : ByteArray) (A : Option Addr) (n m : Nat) (rs : List (Int × Int)) (t0 t1 : Int) (on : Bool) (total : Int) (k er : Nat) (w : World) (h : (total < 0 ∨ 1048576 < total) ∨ (kd < 1 ∨ 4 < kd)) :
    Calls Tryz.prog 43 #[opV i0 i1 kd a tx (.slice A n m) t0 t1 on, .int .i64 total] w fun e w' => e = .returned (.int .i64 (opE i0 i1 kd a tx k er rs t0 t1 on total)) ∧ Below w.heap.size w w' := by
  unfold opV
  by_cases h1 : total < 0 ∨ 1048576 < total
  · have HE := Lib.hid (show opE i0 i1 kd a tx k er rs t0 t1 on total = 12 by unfold opE; rw [if_pos h1])
    clear h
    rcases h1 with h1 | h1
    · go_enter Tryz.func43, Tryz.ntmps43
      go_wp2_with fail
      go_ret
      exact ⟨by rw [HE.out]; rfl, below_alloc1 _ _⟩
    · have h2 : ¬ total < 0 := by omega
      go_enter Tryz.func43, Tryz.ntmps43
      go_wp2_with fail
      go_ret
      exact ⟨by rw [HE.out]; rfl, below_alloc1 _ _⟩
  · have h2 := h.resolve_left h1
    have HE := Lib.hid (show opE i0 i1 kd a tx k er rs t0 t1 on total = 40 by unfold opE; rw [if_neg h1, if_pos h2])
    clear h
    have g1 : ¬ total < 0 := by omega
    have g2 : ¬ 1048576 < total := by omega
    clear h1
    rcases h2 with h1 | h1
    · go_enter Tryz.func43, Tryz.ntmps43
      go_wp2_with fail
      go_ret
      exact ⟨by rw [HE.out]; rfl, below_alloc1 _ _⟩
    · have h2 : ¬ kd < 1 := by omega
      go_enter Tryz.func43, Tryz.ntmps43
      go_wp2_with fail
      go_ret
      exact ⟨by rw [HE.out]; rfl, below_alloc1 _ _⟩
set_option maxRecDepth 100000 in
set_option maxHeartbeats 8000000 in
theorem opCheck_good (i0 i1 kd a : Int) (tx : ByteArray) (A : Option Addr) (n m : Nat) (rs : List (Int × Int)) (t0 t1 : Int) (on : Bool) (total : Int) (k ps er : Nat) (hck : chk tx.data.toList = (k, ps, er)) (w : World) (hs : tx.size ≤ maxLen) (hn : n ≤ 8796093022208) (hR : Ranges w A n rs) (hg : Bars w)
    (g1 : 0 ≤ total) (g2 : total ≤ 1048576) (g3 : 1 ≤ kd) (g4 : kd ≤ 4) :
    Calls Tryz.prog 43 #[opV i0 i1 kd a tx (.slice A n m) t0 t1 on, .int .i64 total] w fun e w' => e = .returned (.int .i64 (opE i0 i1 kd a tx k er rs t0 t1 on total)) ∧ Below w.heap.size w w' := by
  have hE1 : opE i0 i1 kd a tx k er rs t0 t1 on total = if ¬(i0 = 0 ∧ i1 = 0) ∧ idB i0 i1 = false then 41 else if extraB kd a tx rs.length t0 t1 on = true then 42 else if kd = 1 then insE k er a total else if kd = 4 then (if idB t0 t1 = false ∨ (t0 = i0 ∧ t1 = i1) then 63 else 0) else rngE rs total := by
    unfold opE; rw [if_neg (by omega), if_neg (by omega)]
  rw [← hR.len] at hE1
  have hX := OpAt.new w i0 i1 kd a tx (.slice A n m) t0 t1 on 47
  have HX := Lib.hid hX
  have HR := Lib.hid (hR.new (.cells #[.int .i64 i0, .int .i64 i1, .int .i64 kd, .int .i64 a, .string tx, (.slice A n m), .int .i64 t0, .int .i64 t1, .bool on] 47))
  have HG := Lib.hid (hg.below (below_alloc1 w (.cells #[.int .i64 i0, .int .i64 i1, .int .i64 kd, .int .i64 a, .string tx, (.slice A n m), .int .i64 t0, .int .i64 t1, .bool on] 47)))
  have HB0 := Lib.hid (below_alloc1 w (.cells #[.int .i64 i0, .int .i64 i1, .int .i64 kd, .int .i64 a, .string tx, (.slice A n m), .int .i64 t0, .int .i64 t1, .bool on] 47))
  have HCK := Lib.hid hck
  have HE1 := Lib.hid hE1
  clear hX hR hg hck hE1
  unfold opV
  have k1 : ¬ total < 0 := by omega
  have k2 : ¬ 1048576 < total := by omega
  have k3 : ¬ kd < 1 := by omega
  have k4 : ¬ 4 < kd := by omega
  have KD := Lib.hid (show kd = 1 ∨ kd = 2 ∨ kd = 3 ∨ kd = 4 by omega)
  clear g3 g4
  by_cases hz : i0 = 0 ∧ i1 = 0
  · have z1 : (decide (i0 = 0) && decide (i1 = 0)) = true := by simp [hz.1, hz.2]
    have HE2 := Lib.hid (by have := HE1.out; rwa [if_neg (fun h => h.1 hz)] at this)
    clear HE1
    have HZ := Lib.hid hz
    clear hz
    go_enter Tryz.func43, Tryz.ntmps43
    go_wp2_with fail
    refine (extra_any i0 i1 kd a tx A n m t0 t1 on KD.out _).mono ?_
    rintro e w5 ⟨rfl, hb⟩
    have hX5 := HX.out.below hb
    have HX5 := Lib.hid hX5
    have HR5 := Lib.hid (HR.out.below hb)
    have HG5 := Lib.hid (HG.out.below hb)
    have HB5 := Lib.hid (HB0.out.trans (hb.mono HB0.out.size))
    clear hb hX5 HX HR HG HB0
    rcases Bool.eq_false_or_eq_true (extraB kd a tx n t0 t1 on) with hx | hx
    · have HE3 := Lib.hid (by have := HE2.out; rwa [if_pos hx] at this)
      go_wp2_with fail
      go_ret
      exact ⟨by rw [HE3.out]; rfl, HB5.out⟩
    · have HE3 := Lib.hid (by have := HE2.out; rwa [if_neg (by rw [hx]; exact Bool.false_ne_true)] at this)
      clear HE2
      obtain ⟨c0, c1, c2, c3, c4, c5, c6, c7, c8⟩ := HX5.out
      rcases KD.out with rfl | rfl | rfl | rfl
      · have HE4 := Lib.hid (by have := HE3.out; rwa [if_pos rfl] at this)
        clear HE3 KD
        go_wp2_with fail
        refine (ins_any i0 i1 a tx A n m t0 t1 on total k ps er HCK.out _ ⟨g1, g2⟩ hs HG5.out).mono ?_
        rintro e w6 ⟨rfl, hb⟩
        have HB6 := Lib.hid (HB5.out.trans (hb.mono HB5.out.size))
        clear hb
        go_wp2_with fail
        go_ret
        exact ⟨by rw [HE4.out]; rfl, HB6.out⟩
      · have HE4 := Lib.hid (by have := HE3.out; rwa [if_neg (by decide), if_neg (by decide)] at this)
        clear HE3 KD
        go_wp2_with fail
        refine (ranges_any A n m rs total _ hn HR5.out).mono ?_
        rintro e w6 ⟨rfl, hb⟩
        have HB6 := Lib.hid (HB5.out.trans (hb.mono HB5.out.size))
        clear hb
        go_wp2_with fail
        go_ret
        exact ⟨by rw [HE4.out]; rfl, HB6.out⟩
      · have HE4 := Lib.hid (by have := HE3.out; rwa [if_neg (by decide), if_neg (by decide)] at this)
        clear HE3 KD
        go_wp2_with fail
        refine (ranges_any A n m rs total _ hn HR5.out).mono ?_
        rintro e w6 ⟨rfl, hb⟩
        have HB6 := Lib.hid (HB5.out.trans (hb.mono HB5.out.size))
        clear hb
        go_wp2_with fail
        go_ret
        exact ⟨by rw [HE4.out]; rfl, HB6.out⟩
      · have HE4 := Lib.hid (by have := HE3.out; rwa [if_neg (by decide), if_pos rfl] at this)
        clear HE3 KD
        go_wp2_with fail
        refine (right_any t0 t1 _).mono ?_
        rintro e w6 ⟨rfl, hb⟩
        have hX6 := HX5.out.below hb
        have HB6 := Lib.hid (HB5.out.trans (hb.mono HB5.out.size))
        clear hb c0 c1 c2 c3 c4 c5 c6 c7 c8 HX5
        obtain ⟨c0, c1, c2, c3, c4, c5, c6, c7, c8⟩ := hX6
        rcases Bool.eq_false_or_eq_true (idB t0 t1) with hi | hi
        · by_cases he : t0 = i0 ∧ t1 = i1
          · have z2 : (decide (t0 = i0) && decide (t1 = i1)) = true := by simp [he.1, he.2]
            have HE5 := Lib.hid (by have := HE4.out; rwa [if_pos (.inr he)] at this)
            clear he
            go_wp2_with fail
            go_ret
            exact ⟨by rw [HE5.out]; rfl, HB6.out⟩
          · have z2 : (decide (t0 = i0) && decide (t1 = i1)) = false := by
              rcases Decidable.em (t0 = i0) with h | h
              · have : ¬ t1 = i1 := fun h2 => he ⟨h, h2⟩
                simp [this]
              · simp [h]
            have HE5 := Lib.hid (by have := HE4.out; rwa [if_neg (fun h => h.elim (fun h => by rw [hi] at h; cases h) he)] at this)
            clear he
            go_wp2_with fail
            go_ret
            exact ⟨by rw [HE5.out]; rfl, HB6.out⟩
        · have HE5 := Lib.hid (by have := HE4.out; rwa [if_pos (.inl hi)] at this)
          go_wp2_with fail
          go_ret
          exact ⟨by rw [HE5.out]; rfl, HB6.out⟩
  · have z1 : (decide (i0 = 0) && decide (i1 = 0)) = false := by
      rcases Decidable.em (i0 = 0) with h | h
      · have : ¬ i1 = 0 := fun h2 => hz ⟨h, h2⟩
        simp [this]
      · simp [h]
    have HZ := Lib.hid hz
    clear hz
    go_enter Tryz.func43, Tryz.ntmps43
    go_wp2_with fail
    refine (right_any i0 i1 _).mono ?_
    rintro e w4 ⟨rfl, hb⟩
    have hX4 := HX.out.below hb
    have HX4 := Lib.hid hX4
    have HR4 := Lib.hid (HR.out.below hb)
    have HG4 := Lib.hid (HG.out.below hb)
    have HB4 := Lib.hid (HB0.out.trans (hb.mono HB0.out.size))
    clear hb HX HR HG HB0
    obtain ⟨d0, d1, d2, d3, d4, d5, d6, d7, d8⟩ := hX4
    rcases Bool.eq_false_or_eq_true (idB i0 i1) with hi | hi
    · have HE2 := Lib.hid (by have := HE1.out; rwa [if_neg (fun h => by rw [hi] at h; exact absurd h.2 (by decide))] at this)
      clear HE1
      go_wp2_with fail
      clear d0 d1 d2 d3 d4 d5 d6 d7 d8
      refine (extra_any i0 i1 kd a tx A n m t0 t1 on KD.out _).mono ?_
      rintro e w5 ⟨rfl, hb⟩
      have hX5 := HX4.out.below hb
      have HX5 := Lib.hid hX5
      have HR5 := Lib.hid (HR4.out.below hb)
      have HG5 := Lib.hid (HG4.out.below hb)
      have HB5 := Lib.hid (HB4.out.trans (hb.mono HB4.out.size))
      clear hb hX5 HX4 HR4 HG4 HB4
      rcases Bool.eq_false_or_eq_true (extraB kd a tx n t0 t1 on) with hx | hx
      · have HE3 := Lib.hid (by have := HE2.out; rwa [if_pos hx] at this)
        go_wp2_with fail
        go_ret
        exact ⟨by rw [HE3.out]; rfl, HB5.out⟩
      · have HE3 := Lib.hid (by have := HE2.out; rwa [if_neg (by rw [hx]; exact Bool.false_ne_true)] at this)
        clear HE2
        obtain ⟨c0, c1, c2, c3, c4, c5, c6, c7, c8⟩ := HX5.out
        rcases KD.out with rfl | rfl | rfl | rfl
        · have HE4 := Lib.hid (by have := HE3.out; rwa [if_pos rfl] at this)
          clear HE3 KD
          go_wp2_with fail
          refine (ins_any i0 i1 a tx A n m t0 t1 on total k ps er HCK.out _ ⟨g1, g2⟩ hs HG5.out).mono ?_
          rintro e w6 ⟨rfl, hb⟩
          have HB6 := Lib.hid (HB5.out.trans (hb.mono HB5.out.size))
          clear hb
          go_wp2_with fail
          go_ret
          exact ⟨by rw [HE4.out]; rfl, HB6.out⟩
        · have HE4 := Lib.hid (by have := HE3.out; rwa [if_neg (by decide), if_neg (by decide)] at this)
          clear HE3 KD
          go_wp2_with fail
          refine (ranges_any A n m rs total _ hn HR5.out).mono ?_
          rintro e w6 ⟨rfl, hb⟩
          have HB6 := Lib.hid (HB5.out.trans (hb.mono HB5.out.size))
          clear hb
          go_wp2_with fail
          go_ret
          exact ⟨by rw [HE4.out]; rfl, HB6.out⟩
        · have HE4 := Lib.hid (by have := HE3.out; rwa [if_neg (by decide), if_neg (by decide)] at this)
          clear HE3 KD
          go_wp2_with fail
          refine (ranges_any A n m rs total _ hn HR5.out).mono ?_
          rintro e w6 ⟨rfl, hb⟩
          have HB6 := Lib.hid (HB5.out.trans (hb.mono HB5.out.size))
          clear hb
          go_wp2_with fail
          go_ret
          exact ⟨by rw [HE4.out]; rfl, HB6.out⟩
        · have HE4 := Lib.hid (by have := HE3.out; rwa [if_neg (by decide), if_pos rfl] at this)
          clear HE3 KD
          go_wp2_with fail
          refine (right_any t0 t1 _).mono ?_
          rintro e w6 ⟨rfl, hb⟩
          have hX6 := HX5.out.below hb
          have HB6 := Lib.hid (HB5.out.trans (hb.mono HB5.out.size))
          clear hb c0 c1 c2 c3 c4 c5 c6 c7 c8 HX5
          obtain ⟨c0, c1, c2, c3, c4, c5, c6, c7, c8⟩ := hX6
          rcases Bool.eq_false_or_eq_true (idB t0 t1) with hi | hi
          · by_cases he : t0 = i0 ∧ t1 = i1
            · have z2 : (decide (t0 = i0) && decide (t1 = i1)) = true := by simp [he.1, he.2]
              have HE5 := Lib.hid (by have := HE4.out; rwa [if_pos (.inr he)] at this)
              clear he
              go_wp2_with fail
              go_ret
              exact ⟨by rw [HE5.out]; rfl, HB6.out⟩
            · have z2 : (decide (t0 = i0) && decide (t1 = i1)) = false := by
                rcases Decidable.em (t0 = i0) with h | h
                · have : ¬ t1 = i1 := fun h2 => he ⟨h, h2⟩
                  simp [this]
                · simp [h]
              have HE5 := Lib.hid (by have := HE4.out; rwa [if_neg (fun h => h.elim (fun h => by rw [hi] at h; cases h) he)] at this)
              clear he
              go_wp2_with fail
              go_ret
              exact ⟨by rw [HE5.out]; rfl, HB6.out⟩
          · have HE5 := Lib.hid (by have := HE4.out; rwa [if_pos (.inl hi)] at this)
            go_wp2_with fail
            go_ret
            exact ⟨by rw [HE5.out]; rfl, HB6.out⟩
    · have HE2 := Lib.hid (by have := HE1.out; rwa [if_pos ⟨HZ.out, hi⟩] at this)
      clear HE1
      go_wp2_with fail
      go_ret
      exact ⟨by rw [HE2.out]; rfl, HB4.out⟩
end Go.Proofs.YtkdhomiieenfnaaGreatDoor.O
