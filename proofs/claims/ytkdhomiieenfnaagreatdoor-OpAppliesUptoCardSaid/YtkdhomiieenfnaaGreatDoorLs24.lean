/- op.printRanges. op.Print. redraftlaw04.fixed. -/
import Derived.Test.YtkdhomiieenfnaaGreatDoorLs23
import Derived.Deep.AppendLies
import Derived.Deep.RegionLaw
import Derived.Deep.CutBlock
import Derived.Laws.MakeOwn
import Derived.Lib.Join
namespace Go.Proofs.YtkdhomiieenfnaaGreatDoor.O
open Go.RowKit Go.Proofs Go.Joins Go.Proofs.YtkdhomiieenfnaaGreatDoor.U Go.Proofs.YtkdhomiieenfnaaGreatDoor.Txt
set_option linter.unusedVariables false
set_option linter.unusedSimpArgs false
attribute [local go_sem ↓] Go.wp_at_zero Go.wp_at_succ

theorem own_below {w w' : World} {B e size n : Nat} {v : Value} {xs : List Value} (h : w.ownsRow B e size v n xs) (hb : Below w.heap.size w w') : w'.ownsRow B e size v n xs := by
  refine ⟨h.1, ?_⟩
  rcases h.2 with hn | ⟨g, cap, cur, hv, hbg, hg, rest⟩
  · exact .inl hn
  · exact .inr ⟨g, cap, cur, hv, hbg, (hb.block g (Array.getElem?_eq_some_iff.1 hg).1).trans hg, rest⟩
theorem news_alloc (w : World) (cs : Array Value) (T : TypeId) (j : Nat) (u : Value) (h : cs.toList[j]? = some u) : (w.alloc (.cells cs T)).cell? ((⟨w.heap.size, 0, none⟩ : Addr).add j) = some u :=
  World.news_of_block (heap_alloc_new w _) j u h
theorem infoStr : (Tryz.prog.info? 9).map (fun i => (i.zero, i.size, i.bytes)) = some (some (.string ⟨#[]⟩), 1, 16) := by kernel_rfl
def rgB (r : Int × Int) : ByteArray := ⟨(rgL r).toArray⟩
def rgVs (rs : List (Int × Int)) : List Value := rs.map fun r => .string (rgB r)
theorem rgVs_succ (rs : List (Int × Int)) (j : Nat) (h : j < rs.length) : rgVs (rs.take j) ++ [.string (rgB rs[j])] = rgVs (rs.take (j + 1)) := by
  unfold rgVs; rw [List.take_succ_eq_append_getElem h, List.map_append]; rfl
theorem rs_join : ∀ rs : List (Int × Int), Lib.join (rs.map rgL) [44] = rsL rs
  | [] => rfl
  | [r] => by rw [List.map_cons, List.map_nil, Lib.join_one]; rfl
  | r :: s :: t => by
    have h := rs_join (s :: t)
    rw [List.map_cons, List.map_cons, Lib.join_cons] at *
    rw [rsL, ← h, Lib.joinTail, Lib.joinTail]
    simp
theorem rgL_le (r : Int × Int) (h1 : 0 ≤ r.1 ∧ r.1 ≤ 1048576) (h2 : 0 ≤ r.2 ∧ r.2 ≤ 1048576) : (rgL r).length ≤ 43 := by
  have a := Lib.itoa_length_le r.1 (by omega) (by omega)
  have b := Lib.itoa_length_le r.2 (by omega) (by omega)
  unfold rgL
  rw [List.length_append, List.length_cons]
  omega
theorem rsL_le : ∀ rs : List (Int × Int), (∀ r ∈ rs, (0 ≤ r.1 ∧ r.1 ≤ 1048576) ∧ (0 ≤ r.2 ∧ r.2 ≤ 1048576)) → (rsL rs).length ≤ 44 * rs.length
  | [], _ => Nat.zero_le _
  | [r], h => by have h1 := h r (by simp); have := rgL_le r h1.1 h1.2; simp only [rsL, List.length_cons, List.length_nil]; omega
  | r :: s :: t, h => by
    have h1 := h r (by simp)
    have := rgL_le r h1.1 h1.2
    have ih := rsL_le (s :: t) (fun x hx => h x (List.mem_cons_of_mem _ hx))
    simp only [rsL, List.length_append, List.length_cons] at ih ⊢
    omega

theorem own_strs {W : World} {base e : Nat} {v : Value} {rs : List (Int × Int)} (h : W.ownsRow base e 1 v rs.length (rgVs rs)) : ∃ A c, v = .slice A rs.length c ∧ rs.length ≤ c ∧ (0 < rs.length → ∃ g, A = some ⟨g, 0, none⟩ ∧ g < W.heap.size ∧ ∀ (j : Nat) x, (rs.map rgB)[j]? = some x → W.cell? ⟨g, j, none⟩ = some (.string x)) := by
  rcases h.2 with ⟨rfl, h0⟩ | ⟨g, cap, cur, rfl, _, hg, hcap, _⟩
  · exact ⟨none, 0, by rw [h0], by omega, fun hp => by omega⟩
  · refine ⟨_, cap, rfl, hcap, fun _ => ⟨g, rfl, (Array.getElem?_eq_some_iff.1 hg).1, fun j x hx => ?_⟩⟩
    have := h.cells (g := g) rfl j (.string x) (by
      unfold rgVs
      rw [List.getElem?_map] at hx ⊢
      cases hr : rs[j]? with
      | none => rw [hr] at hx; cases hx
      | some r => rw [hr] at hx; obtain rfl := Option.some.inj hx; rfl)
    rw [show (⟨g, j, none⟩ : Addr) = (⟨g, 0, none⟩ : Addr).add j by simp [Addr.add]]
    exact this
theorem round_below2 {w wr w4 w1 : World} {e k : Nat} {v : Value} {xs : List Value} {o : Obj} (ho : wr.ownsRow w.heap.size e 1 v k xs) (hb : Below wr.heap.size wr w4) (hbw : Below w.heap.size w wr) (hg : (w4.alloc o).grownBy w1 v.ownBlock) : Below w.heap.size w w1 := by
  have h4 : Below w.heap.size w w4 := hbw.trans (hb.mono hbw.size)
  exact round_below h4 (own_below ho hb) hg
set_option maxRecDepth 100000 in
set_option maxHeartbeats 4000000 in
theorem printRanges_any (A : Option Addr) (n m : Nat) (rs : List (Int × Int)) (w : World) (hn : n ≤ 32768) (hR : Ranges w A n rs) (hb : ∀ r ∈ rs, (0 ≤ r.1 ∧ r.1 ≤ 1048576) ∧ (0 ≤ r.2 ∧ r.2 ≤ 1048576)) (hE : EnvO w) :
    Calls Tryz.prog 73 #[.slice A n m] w fun e w' => e = .returned (.string ⟨(rsL rs).toArray⟩) ∧ Below w.heap.size w w' := by
  have HLEN := Lib.hid hR.len
  obtain ⟨i0, hi0, hz0, hz1, hz2⟩ := info_parts infoStr
  have HI := Lib.hid (And.intro hi0 (And.intro hz0 (And.intro hz1 hz2)))
  have HR := Lib.hid hR
  have HE := Lib.hid hE
  have HBD := Lib.hid hb
  clear hR hE hb hi0 hz0 hz1 hz2
  go_enter Tryz.func73, Tryz.ntmps73
  go_wp2_with fail
  go_loopw [3, 8] (fun v i wr => ∃ j : Nat, j ≤ n ∧ i = .int .i64 j ∧ wr.ownsRow w.heap.size 9 1 v j (rgVs (rs.take j)) ∧ Below w.heap.size w wr) (fun _ i _ => n - (intOf i).toNat)
  case atStart => exact ⟨0, Nat.zero_le _, rfl, ⟨by simp [rgVs], .inl ⟨rfl, by simp [rgVs]⟩⟩, Below.refl _ _⟩
  case round =>
    obtain ⟨j, hj, rfl, hown, hb⟩ := hrel
    have HO := Lib.hid hown
    have HB := Lib.hid hb
    clear hown hb
    by_cases hlt : j < n
    · obtain ⟨b, off, rfl, hc⟩ := (HR.out.below HB.out).at_ (by omega)
      have hjl : j < rs.length := by have := HLEN.out; omega
      obtain ⟨r, hr⟩ : ∃ r, rs[j] = r := ⟨_, rfl⟩
      have hcj := hc j hjl
      rw [hr] at hcj
      clear hc
      have hrb := HBD.out r (by rw [← hr]; exact List.getElem_mem hjl)
      have HRJ := Lib.hid hr
      obtain ⟨lo, hi⟩ := r
      obtain ⟨c0, c1⟩ := hcj
      obtain ⟨⟨l0, l1⟩, l2, l3⟩ := hrb
      simp only at c0 c1 l0 l1 l2 l3
      clear hr
      have s1 := iL_size lo (by omega) (by omega)
      have s2 := iL_size hi (by omega) (by omega)
      have hcat : (iL lo ++ ⟨#[45]⟩) ++ iL hi = rgB (lo, hi) := by
        apply ByteArray.ext
        rw [← Array.toList_inj]
        show ((iL lo ++ ⟨#[45]⟩) ++ iL hi).data.toList = rgL (lo, hi)
        rw [app_list, app_list, iL_list, iL_list]
        unfold rgL
        simp
      have q1 := add_str (iL lo) ⟨#[45]⟩ (by show (iL lo).size + 1 ≤ _; omega)
      have q2 := add_str (iL lo ++ ⟨#[45]⟩) (iL hi) (by rw [ByteArray.size_append]; show (iL lo).size + 1 + (iL hi).size ≤ _; omega)
      rw [hcat] at q2
      have C : ∀ k : Int, 0 ≤ k → k ≤ 1048576 → ∀ W, IdBox wr W lo hi → Calls Tryz.prog 71 #[.int .i64 k] W fun e w' => e = .returned (.string (iL k)) ∧ IdBox wr w' lo hi ∧ w.heap.size ≤ w'.heap.size ∧ w'.cell? ⟨wr.heap.size, 0, none⟩ = some (.int .i64 lo) ∧ w'.cell? ⟨wr.heap.size, 1, none⟩ = some (.int .i64 hi) := fun k h0 h1 W hW => by
        refine (Itoa_any k W (by omega) (by omega) (HE.out.below (HB.out.trans (hW.below.mono HB.out.size)))).mono ?_
        rintro e w' ⟨rfl, hb⟩
        exact ⟨rfl, hW.step hb, Nat.le_trans HB.out.size (hW.step hb).below.size, (hW.step hb).c0, (hW.step hb).c1⟩
      have C1 := Lib.hid (C lo l0 l1)
      have C2 := Lib.hid (C hi l2 l3)
      have HX := Lib.hid (IdBox.new wr lo hi 102)
      clear C hcat s1 s2 l0 l1 l2 l3
      generalize iL lo ++ ⟨#[45]⟩ = m0 at q1 q2
      generalize iL lo = x at C1 q1
      generalize iL hi = y at C2 q2
      generalize hz : rgB (lo, hi) = z at q2
      have HZ := Lib.hid hz
      have HN := Lib.hid hn
      have HW0 := Lib.hid (HB.out.size)
      clear hz
      go_wp2_with fail
      go_region_law (first
        | (go_simp; go_at_call 71; (first | (with_reducible refine (C1.out _ (by first | exact HX.out.drew | assumption)).mono ?_) | (with_reducible refine (C2.out _ (by first | exact HX.out.drew | assumption)).mono ?_)); rintro e w5 ⟨rfl, hx5, z5, x5, y5⟩)
        | (refine step_append_lies _ rfl (.tmp 12) (.tmp 21) 171 rfl w.heap.size 9 i0 (.string ⟨#[]⟩) 1 16 Tryz.underlying171 HI.out.1 HI.out.2.1 HI.out.2.2.1 HI.out.2.2.2 rfl (by decide) u3 j (rgVs (rs.take j)) (by simp [Act.eval, Act.put]) (by exact own_below HO.out ((IdBox.below (by assumption)).trans ((below_alloc1 _ _).mono (IdBox.below (by assumption)).size))) _ 1 1 [.string z] (by simp [Act.eval, Act.put]) rfl (fun j u hj => news_alloc _ _ _ j u hj) (by simp [Value.oneCell']) (by decide) (by have := HN.out; have := HLEN.out; unfold maxLen; omega) (by have := HN.out; have := HLEN.out; omega) (by simp; omega) _ rfl ?_; intro g cap w9 hown hgrow hat hgl; have HP := Lib.hid hown; have HG := Lib.hid hgrow; clear hown hgrow hat hgl))
      all_goals (go_wp2_with fail)
      all_goals
        go_roundw
        case rel => exact ⟨j + 1, by omega, by go_num, by have h1 := HP.out; rw [← HZ.out, ← HRJ.out, rgVs_succ rs j hjl] at h1; exact h1, round_below2 HO.out (IdBox.below (by assumption)) HB.out HG.out⟩
        case measure => simp [intOf]; omega
    · obtain rfl : j = n := by omega
      have hown := HO.out
      rw [HLEN.out, List.take_length] at hown
      clear HO
      obtain ⟨A', c', rfl, hcap, hcl⟩ := own_strs hown
      have HJ : Hid (Calls Tryz.prog 111 #[.slice A' rs.length c', .string ⟨#[44]⟩] wr fun e w' => e = .returned (.string ⟨(rsL rs).toArray⟩) ∧ Below wr.heap.size wr w') := Lib.hid (by
        by_cases h0 : rs.length = 0
        · obtain rfl : rs = [] := List.length_eq_zero_iff.1 h0
          refine (Tryz.strings_Join_none A' c' ⟨#[44]⟩ wr).mono ?_
          rintro e w' ⟨rfl, rfl⟩
          exact ⟨rfl, Below.refl _ _⟩
        · obtain ⟨bk, rfl, hbk, hc⟩ := hcl (by omega)
          have e1 : (rs.map rgB).map (·.data.toList) = rs.map rgL := by rw [List.map_map]; rfl
          have := Tryz.strings_Join bk 0 c' (rs.map rgB) ⟨#[44]⟩ wr (fun j x hx => by rw [Nat.zero_add]; exact hc j x hx) hbk (by rw [List.length_map]; have := HLEN.out; omega) (by rw [List.length_map]; exact hcap) (by
            rw [e1, show (⟨#[44]⟩ : ByteArray).data.toList = [44] from rfl, rs_join]
            have := rsL_le rs HBD.out
            have := HLEN.out
            omega)
          rw [e1, show (⟨#[44]⟩ : ByteArray).data.toList = [44] from rfl, rs_join, List.length_map] at this
          exact this)
      clear hown hcl hcap
      have HL2 := Lib.hid HLEN.out.symm
      generalize rs.length = n' at *
      obtain rfl := HL2.out
      go_wp2_with fail
      refine HJ.out.mono ?_
      rintro e w1 ⟨rfl, hb1⟩
      have HB1 := Lib.hid (HB.out.trans (hb1.mono HB.out.size))
      clear hb1
      go_wp2_with fail
      go_ret
      exact ⟨rfl, HB1.out⟩
end Go.Proofs.YtkdhomiieenfnaaGreatDoor.O

namespace Go.Proofs.YtkdhomiieenfnaaGreatDoor.O
open Go.RowKit Go.Proofs Go.Joins Go.Proofs.YtkdhomiieenfnaaGreatDoor.U Go.Proofs.YtkdhomiieenfnaaGreatDoor.Txt
set_option linter.unusedVariables false
set_option linter.unusedSimpArgs false
attribute [local go_sem] id_eq
attribute [local go_sem ↓] Go.wp_at_zero Go.wp_at_succ

/-- A world behind w, with the operation's own block. -/
structure OpBox (w W : World) (i0 i1 kd a : Int) (tx : ByteArray) (rg : Value) (t0 t1 : Int) (on : Bool) : Prop where
  below : Below w.heap.size w W
  at_ : OpAt W w.heap.size i0 i1 kd a tx rg t0 t1 on
section
variable {w W W' : World} {i0 i1 kd a : Int} {tx : ByteArray} {rg : Value} {t0 t1 : Int} {on : Bool}
theorem OpBox.new (w : World) (i0 i1 kd a : Int) (tx : ByteArray) (rg : Value) (t0 t1 : Int) (on : Bool) (T : TypeId) : OpBox w (w.alloc (.cells #[.int .i64 i0, .int .i64 i1, .int .i64 kd, .int .i64 a, .string tx, rg, .int .i64 t0, .int .i64 t1, .bool on] T)) i0 i1 kd a tx rg t0 t1 on :=
  ⟨below_alloc1 w _, OpAt.new w i0 i1 kd a tx rg t0 t1 on T⟩
theorem OpBox.drew (h : OpBox w W i0 i1 kd a tx rg t0 t1 on) : OpBox w W.drew i0 i1 kd a tx rg t0 t1 on := ⟨h.below.drew, ⟨h.at_.c0, h.at_.c1, h.at_.c2, h.at_.c3, h.at_.c4, h.at_.c5, h.at_.c6, h.at_.c7, h.at_.c8⟩⟩
theorem OpBox.step (h : OpBox w W i0 i1 kd a tx rg t0 t1 on) (hb : Below W.heap.size W W') : OpBox w W' i0 i1 kd a tx rg t0 t1 on :=
  ⟨h.below.trans (hb.mono h.below.size), h.at_.below hb⟩
end
def PrintOut (i0 i1 kd a : Int) (tx : ByteArray) (rs : List (Int × Int)) (t0 t1 : Int) (on : Bool) (E : Int) : Value :=
  .tuple #[.string (if E = 0 then ⟨(lineL i0 i1 kd a tx.data.toList rs t0 t1 on).toArray⟩ else ⟨#[]⟩), .int .i64 E]
theorem lit_str (l : List UInt8) (b : ByteArray) (h : b.data.toList = l) : b = ⟨l.toArray⟩ := by
  apply ByteArray.ext
  rw [← Array.toList_inj]
  exact h

set_option maxRecDepth 100000 in
set_option maxHeartbeats 8000000 in
theorem Print_bad (i0 i1 kd a : Int) (tx : ByteArray) (A : Option Addr) (n m : Nat) (rs : List (Int × Int)) (t0 t1 : Int) (on : Bool) (k ps er : Nat) (hck : chk tx.data.toList = (k, ps, er)) (w : World) (hs : tx.size ≤ maxLen) (hn : n ≤ 8796093022208) (hR : Ranges w A n rs) (hE : EnvO w)
    (hbad : ownE i0 i1 kd a tx k er rs t0 t1 on ≠ 0) :
    Calls Tryz.prog 32 #[opV i0 i1 kd a tx (.slice A n m) t0 t1 on] w fun e w' => e = .returned (.tuple #[.string ⟨#[]⟩, .int .i64 (ownE i0 i1 kd a tx k er rs t0 t1 on)]) ∧ Below w.heap.size w w' := by
  have HX := Lib.hid (OpBox.new w i0 i1 kd a tx (.slice A n m) t0 t1 on 47)
  have HO := Lib.hid (own_any i0 i1 kd a tx A n m rs t0 t1 on k ps er hck _ hs hn (hR.below HX.out.below) (hE.bars.below HX.out.below))
  unfold opV at HO ⊢
  generalize ownE i0 i1 kd a tx k er rs t0 t1 on = E at HO hbad ⊢
  clear hR hE hck
  go_enter Tryz.func32, Tryz.ntmps32
  go_wp2_with fail
  refine HO.out.mono ?_
  rintro e w1 ⟨rfl, hb1⟩
  have HB := Lib.hid (HX.out.below.trans (hb1.mono HX.out.below.size))
  clear hb1
  go_wp2_with fail
  go_ret2
  exact ⟨rfl, HB.out⟩
set_option maxRecDepth 100000 in
set_option maxHeartbeats 8000000 in
theorem Print_ok (i0 i1 kd a : Int) (tx : ByteArray) (A : Option Addr) (n m : Nat) (rs : List (Int × Int)) (t0 t1 : Int) (on : Bool) (k ps er : Nat) (hck : chk tx.data.toList = (k, ps, er)) (w : World) (hs : tx.size ≤ maxLen) (hn : n ≤ 32768) (hR : Ranges w A n rs) (hE : EnvO w)
    (hok : ownE i0 i1 kd a tx k er rs t0 t1 on = 0) :
    Calls Tryz.prog 32 #[opV i0 i1 kd a tx (.slice A n m) t0 t1 on] w fun e w' => e = .returned (.tuple #[.string ⟨(lineL i0 i1 kd a tx.data.toList rs t0 t1 on).toArray⟩, .int .i64 0]) ∧ Below w.heap.size w w' := by
  have OK := Lib.hid (opE_ok hok)
  have HX := Lib.hid (OpBox.new w i0 i1 kd a tx (.slice A n m) t0 t1 on 47)
  have HO := Lib.hid (own_any i0 i1 kd a tx A n m rs t0 t1 on k ps er hck _ hs (by omega) (hR.below HX.out.below) (hE.bars.below HX.out.below))
  rw [hok] at HO
  have HD := Lib.hid (fun W hb => printID_any i0 i1 W (by have := OK.out.id; omega) (by have := OK.out.id; omega) (by have := OK.out.id; omega) (by have := OK.out.id; omega) (hE.below (w' := W) hb))
  have HE := Lib.hid hE
  have HR := Lib.hid hR
  have HCK := Lib.hid hck
  have ids := idL_le i0 i1 OK.out.id.1 OK.out.id.2
  obtain ⟨I, hI⟩ : ∃ I : ByteArray, I = ⟨(idL i0 i1).toArray⟩ := ⟨_, rfl⟩
  rw [← hI] at HD
  have hIl : I.data.toList = idL i0 i1 := by rw [hI]
  have hIs : I.size ≤ 43 := by rw [← size_toList, hIl]; exact ids
  unfold opV at HO ⊢
  clear hR hE hck hI ids
  rcases OK.out.kind with rfl | rfl | rfl | rfl
  · obtain ⟨he, hk1, hk2, ha0, ha1⟩ := OK.out.ins rfl
    have hts : tx.size ≤ 1024 := by
      have := HCK.out
      rw [he] at this
      have := chk_ok_size this
      rw [← size_toList]; omega
    obtain ⟨Q, hQ⟩ : ∃ Q : ByteArray, Q = ⟨(quoteL tx.data.toList).toArray⟩ := ⟨_, rfl⟩
    have hQl : Q.data.toList = quoteL tx.data.toList := by rw [hQ]
    have hQs : Q.size ≤ 10242 := by
      rw [← size_toList, hQl, quoteL_len]
      have := qS_le tx.data.toList.length tx.data.toList
      have h5 := size_toList tx
      omega
    have s1 := iL_size a (by omega) (by omega)
    have C1 : Hid (∀ W, OpBox w W i0 i1 1 a tx (.slice A n m) t0 t1 on → Calls Tryz.prog 71 #[.int .i64 a] W fun e w' => e = .returned (.string (iL a)) ∧ OpBox w w' i0 i1 1 a tx (.slice A n m) t0 t1 on ∧ w'.cell? ⟨w.heap.size, 3, none⟩ = some (.int .i64 a) ∧ w'.cell? ⟨w.heap.size, 4, none⟩ = some (.string tx)) := Lib.hid fun W hW => by
      refine (Itoa_any a W (by omega) (by omega) (HE.out.below hW.below)).mono ?_
      rintro e w' ⟨rfl, hb⟩
      exact ⟨rfl, hW.step hb, (hW.step hb).at_.c3, (hW.step hb).at_.c4⟩
    have C2 : Hid (∀ W, OpBox w W i0 i1 1 a tx (.slice A n m) t0 t1 on → Calls Tryz.prog 72 #[.string tx] W fun e w' => e = .returned (.string Q) ∧ OpBox w w' i0 i1 1 a tx (.slice A n m) t0 t1 on ∧ w'.cell? ⟨w.heap.size, 3, none⟩ = some (.int .i64 a) ∧ w'.cell? ⟨w.heap.size, 4, none⟩ = some (.string tx)) := Lib.hid fun W hW => by
      refine (Quote_any tx W (by omega) (HE.out.below hW.below).tz).mono ?_
      rintro e w' ⟨rfl, hb⟩
      exact ⟨by rw [hQ], hW.step hb, (hW.step hb).at_.c3, (hW.step hb).at_.c4⟩
    have q1 := add_str I ⟨#[32, 105, 110, 115, 32]⟩ (by show I.size + 5 ≤ _; omega)
    have q2 := add_str (I ++ ⟨#[32, 105, 110, 115, 32]⟩) (iL a) (by rw [ByteArray.size_append]; show I.size + 5 + (iL a).size ≤ _; omega)
    have q3 := add_str (I ++ ⟨#[32, 105, 110, 115, 32]⟩ ++ iL a) ⟨#[32]⟩ (by rw [ByteArray.size_append, ByteArray.size_append]; show I.size + 5 + (iL a).size + 1 ≤ _; omega)
    have q4 := add_str (I ++ ⟨#[32, 105, 110, 115, 32]⟩ ++ iL a ++ ⟨#[32]⟩) Q (by rw [ByteArray.size_append, ByteArray.size_append, ByteArray.size_append]; show I.size + 5 + (iL a).size + 1 + Q.size ≤ _; omega)
    have hz : I ++ ⟨#[32, 105, 110, 115, 32]⟩ ++ iL a ++ ⟨#[32]⟩ ++ Q = ⟨(lineL i0 i1 1 a tx.data.toList rs t0 t1 on).toArray⟩ := lit_str _ _ (by
      rw [app_list, app_list, app_list, app_list, hIl, iL_list, hQl]
      unfold lineL wordL
      simp)
    rw [hz] at q4
    clear hz hQ hQl hQs hIl hIs s1 hts he hk1 hk2 ha0 ha1
    generalize I ++ ⟨#[32, 105, 110, 115, 32]⟩ ++ iL a ++ ⟨#[32]⟩ = m3 at q3 q4
    generalize I ++ ⟨#[32, 105, 110, 115, 32]⟩ ++ iL a = m2 at q2 q3
    generalize I ++ ⟨#[32, 105, 110, 115, 32]⟩ = m1 at q1 q2
    generalize iL a = x at C1 q2
    generalize (⟨(lineL i0 i1 1 a tx.data.toList rs t0 t1 on).toArray⟩ : ByteArray) = z at q4 ⊢
    clear HCK HR OK
    go_enter Tryz.func32, Tryz.ntmps32
    go_wp2_with fail
    refine HO.out.mono ?_
    rintro e w1 ⟨rfl, hb1⟩
    have HX1 := Lib.hid (HX.out.step hb1)
    obtain ⟨d0, d1, d2, d3, d4, d5, d6, d7, d8⟩ := HX1.out.at_
    clear hb1
    go_wp2_with fail
    refine (HD.out _ HX1.out.below).mono ?_
    rintro e w2 ⟨rfl, hb2⟩
    have HX2 := Lib.hid (HX1.out.step hb2)
    clear hb2 d0 d1 d2 d3 d4 d5 d6 d7 d8
    obtain ⟨d0, d1, d2, d3, d4, d5, d6, d7, d8⟩ := HX2.out.at_
    go_wp2_with fail
    go_region_with (first
      | ((with_reducible refine (C1.out _ (by first | exact HX2.out.drew | assumption)).mono ?_); rintro e w5 ⟨rfl, hx5, x5, y5⟩)
      | ((with_reducible refine (C2.out _ (by first | exact HX2.out.drew | assumption)).mono ?_); rintro e w5 ⟨rfl, hx5, x5, y5⟩))
    all_goals (go_wp2_with fail)
    all_goals
      go_ret2
      exact ⟨rfl, OpBox.below (by assumption)⟩
  · have hc := OK.out.cover (.inl rfl)
    have HC := Lib.hid (fun W (hW : Below w.heap.size w W) => printRanges_any A n m rs W hn (HR.out.below hW) hc.2 (HE.out.below hW))
    have hrl := rsL_le rs hc.2
    have hlen := HR.out.len
    obtain ⟨R, hR⟩ : ∃ R : ByteArray, R = ⟨(rsL rs).toArray⟩ := ⟨_, rfl⟩
    rw [← hR] at HC
    have hRl : R.data.toList = rsL rs := by rw [hR]
    have hRs : R.size ≤ 1441792 := by rw [← size_toList, hRl]; omega
    have q1 := add_str I ⟨#[32, 104, 105, 100, 101, 32]⟩ (by show I.size + 6 ≤ _; omega)
    have q2 := add_str (I ++ ⟨#[32, 104, 105, 100, 101, 32]⟩) R (by rw [ByteArray.size_append]; show I.size + 6 + R.size ≤ _; omega)
    have hz : I ++ ⟨#[32, 104, 105, 100, 101, 32]⟩ ++ R = ⟨(lineL i0 i1 2 a tx.data.toList rs t0 t1 on).toArray⟩ := lit_str _ _ (by
      rw [app_list, app_list, hIl, hRl]
      unfold lineL wordL
      simp)
    rw [hz] at q2
    clear hz hR hRl hRs hIl hIs hrl hlen hc
    generalize I ++ ⟨#[32, 104, 105, 100, 101, 32]⟩ = m1 at q1 q2
    generalize (⟨(lineL i0 i1 2 a tx.data.toList rs t0 t1 on).toArray⟩ : ByteArray) = z at q2 ⊢
    clear HCK HR OK hn hs
    go_enter Tryz.func32, Tryz.ntmps32
    go_wp2_with fail
    refine HO.out.mono ?_
    rintro e w1 ⟨rfl, hb1⟩
    have HX1 := Lib.hid (HX.out.step hb1)
    obtain ⟨d0, d1, d2, d3, d4, d5, d6, d7, d8⟩ := HX1.out.at_
    clear hb1
    go_wp2_with fail
    refine (HD.out _ HX1.out.below).mono ?_
    rintro e w2 ⟨rfl, hb2⟩
    have HX2 := Lib.hid (HX1.out.step hb2)
    clear hb2 d0 d1 d2 d3 d4 d5 d6 d7 d8
    obtain ⟨d0, d1, d2, d3, d4, d5, d6, d7, d8⟩ := HX2.out.at_
    go_wp2_with fail
    refine (HC.out _ HX2.out.below).mono ?_
    rintro e w3 ⟨rfl, hb3⟩
    have HX3 := Lib.hid (HX2.out.step hb3)
    clear hb3 d0 d1 d2 d3 d4 d5 d6 d7 d8
    go_wp2_with fail
    go_ret2
    exact ⟨rfl, HX3.out.below⟩
  · have hc := OK.out.cover (.inr rfl)
    have HC := Lib.hid (fun W (hW : Below w.heap.size w W) => printRanges_any A n m rs W hn (HR.out.below hW) hc.2 (HE.out.below hW))
    have hrl := rsL_le rs hc.2
    have hlen := HR.out.len
    obtain ⟨R, hR⟩ : ∃ R : ByteArray, R = ⟨(rsL rs).toArray⟩ := ⟨_, rfl⟩
    rw [← hR] at HC
    have hRl : R.data.toList = rsL rs := by rw [hR]
    have hRs : R.size ≤ 1441792 := by rw [← size_toList, hRl]; omega
    have q1 := add_str I ⟨#[32, 115, 104, 111, 119, 32]⟩ (by show I.size + 6 ≤ _; omega)
    have q2 := add_str (I ++ ⟨#[32, 115, 104, 111, 119, 32]⟩) R (by rw [ByteArray.size_append]; show I.size + 6 + R.size ≤ _; omega)
    have hz : I ++ ⟨#[32, 115, 104, 111, 119, 32]⟩ ++ R = ⟨(lineL i0 i1 3 a tx.data.toList rs t0 t1 on).toArray⟩ := lit_str _ _ (by
      rw [app_list, app_list, hIl, hRl]
      unfold lineL wordL
      simp)
    rw [hz] at q2
    clear hz hR hRl hRs hIl hIs hrl hlen hc
    generalize I ++ ⟨#[32, 115, 104, 111, 119, 32]⟩ = m1 at q1 q2
    generalize (⟨(lineL i0 i1 3 a tx.data.toList rs t0 t1 on).toArray⟩ : ByteArray) = z at q2 ⊢
    clear HCK HR OK hn hs
    go_enter Tryz.func32, Tryz.ntmps32
    go_wp2_with fail
    refine HO.out.mono ?_
    rintro e w1 ⟨rfl, hb1⟩
    have HX1 := Lib.hid (HX.out.step hb1)
    obtain ⟨d0, d1, d2, d3, d4, d5, d6, d7, d8⟩ := HX1.out.at_
    clear hb1
    go_wp2_with fail
    refine (HD.out _ HX1.out.below).mono ?_
    rintro e w2 ⟨rfl, hb2⟩
    have HX2 := Lib.hid (HX1.out.step hb2)
    clear hb2 d0 d1 d2 d3 d4 d5 d6 d7 d8
    obtain ⟨d0, d1, d2, d3, d4, d5, d6, d7, d8⟩ := HX2.out.at_
    go_wp2_with fail
    refine (HC.out _ HX2.out.below).mono ?_
    rintro e w3 ⟨rfl, hb3⟩
    have HX3 := Lib.hid (HX2.out.step hb3)
    clear hb3 d0 d1 d2 d3 d4 d5 d6 d7 d8
    go_wp2_with fail
    go_ret2
    exact ⟨rfl, HX3.out.below⟩
  · have hst := OK.out.stat rfl
    have HD2 := Lib.hid (fun W hb => printID_any t0 t1 W (by omega) (by omega) (by omega) (by omega) (HE.out.below (w' := W) hb))
    have tds := idL_le t0 t1 hst.1 hst.2
    obtain ⟨T, hT⟩ : ∃ T : ByteArray, T = ⟨(idL t0 t1).toArray⟩ := ⟨_, rfl⟩
    rw [← hT] at HD2
    have hTl : T.data.toList = idL t0 t1 := by rw [hT]
    have hTs : T.size ≤ 43 := by rw [← size_toList, hTl]; exact tds
    have q1 := add_str I ⟨#[32, 111, 110, 32]⟩ (by show I.size + 4 ≤ _; omega)
    have q2 := add_str (I ++ ⟨#[32, 111, 110, 32]⟩) T (by rw [ByteArray.size_append]; show I.size + 4 + T.size ≤ _; omega)
    have q3 := add_str I ⟨#[32, 111, 102, 102, 32]⟩ (by show I.size + 5 ≤ _; omega)
    have q4 := add_str (I ++ ⟨#[32, 111, 102, 102, 32]⟩) T (by rw [ByteArray.size_append]; show I.size + 5 + T.size ≤ _; omega)
    have hz : I ++ ⟨#[32, 111, 110, 32]⟩ ++ T = ⟨(lineL i0 i1 4 a tx.data.toList rs t0 t1 true).toArray⟩ := lit_str _ _ (by
      rw [app_list, app_list, hIl, hTl]
      unfold lineL wordL
      simp)
    have hz2 : I ++ ⟨#[32, 111, 102, 102, 32]⟩ ++ T = ⟨(lineL i0 i1 4 a tx.data.toList rs t0 t1 false).toArray⟩ := lit_str _ _ (by
      rw [app_list, app_list, hIl, hTl]
      unfold lineL wordL
      simp)
    rw [hz] at q2
    rw [hz2] at q4
    clear hz hz2 hT hTl hTs hIl hIs hst tds
    generalize I ++ ⟨#[32, 111, 110, 32]⟩ = m1 at q1 q2
    generalize I ++ ⟨#[32, 111, 102, 102, 32]⟩ = m2 at q3 q4
    clear HCK HR OK hn hs
    cases on
    case true =>
      generalize (⟨(lineL i0 i1 4 a tx.data.toList rs t0 t1 true).toArray⟩ : ByteArray) = z at q2 ⊢
      clear q3 q4
      go_enter Tryz.func32, Tryz.ntmps32
      go_wp2_with fail
      refine HO.out.mono ?_
      rintro e w1 ⟨rfl, hb1⟩
      have HX1 := Lib.hid (HX.out.step hb1)
      obtain ⟨d0, d1, d2, d3, d4, d5, d6, d7, d8⟩ := HX1.out.at_
      clear hb1
      go_wp2_with fail
      refine (HD.out _ HX1.out.below).mono ?_
      rintro e w2 ⟨rfl, hb2⟩
      have HX2 := Lib.hid (HX1.out.step hb2)
      clear hb2 d0 d1 d2 d3 d4 d5 d6 d7 d8
      obtain ⟨d0, d1, d2, d3, d4, d5, d6, d7, d8⟩ := HX2.out.at_
      go_wp2_with fail
      refine (HD2.out _ HX2.out.below).mono ?_
      rintro e w3 ⟨rfl, hb3⟩
      have HX3 := Lib.hid (HX2.out.step hb3)
      clear hb3 d0 d1 d2 d3 d4 d5 d6 d7 d8
      go_wp2_with fail
      go_ret2
      exact ⟨rfl, HX3.out.below⟩
    case false =>
      generalize (⟨(lineL i0 i1 4 a tx.data.toList rs t0 t1 false).toArray⟩ : ByteArray) = z at q4 ⊢
      clear q1 q2
      go_enter Tryz.func32, Tryz.ntmps32
      go_wp2_with fail
      refine HO.out.mono ?_
      rintro e w1 ⟨rfl, hb1⟩
      have HX1 := Lib.hid (HX.out.step hb1)
      obtain ⟨d0, d1, d2, d3, d4, d5, d6, d7, d8⟩ := HX1.out.at_
      clear hb1
      go_wp2_with fail
      refine (HD.out _ HX1.out.below).mono ?_
      rintro e w2 ⟨rfl, hb2⟩
      have HX2 := Lib.hid (HX1.out.step hb2)
      clear hb2 d0 d1 d2 d3 d4 d5 d6 d7 d8
      obtain ⟨d0, d1, d2, d3, d4, d5, d6, d7, d8⟩ := HX2.out.at_
      go_wp2_with fail
      refine (HD2.out _ HX2.out.below).mono ?_
      rintro e w3 ⟨rfl, hb3⟩
      have HX3 := Lib.hid (HX2.out.step hb3)
      clear hb3 d0 d1 d2 d3 d4 d5 d6 d7 d8
      go_wp2_with fail
      go_ret2
      exact ⟨rfl, HX3.out.below⟩
end Go.Proofs.YtkdhomiieenfnaaGreatDoor.O

namespace Go.Proofs.YtkdhomiieenfnaaGreatDoor.O
open Go.RowKit Go.Proofs Go.Joins Go.Proofs.YtkdhomiieenfnaaGreatDoor.U Go.Proofs.YtkdhomiieenfnaaGreatDoor.Txt
set_option linter.unusedVariables false
set_option linter.unusedSimpArgs false
attribute [local go_sem] id_eq
attribute [local go_sem ↓] Go.wp_at_zero Go.wp_at_succ

theorem chk_ab' : chk (⟨#[97, 98]⟩ : ByteArray).data.toList = (2, 0, 0) := by decide +kernel
theorem line_fixed : lineL 1 1 1 0 (⟨#[97, 98]⟩ : ByteArray).data.toList [] 0 0 false = [49, 46, 49, 32, 105, 110, 115, 32, 48, 32, 34, 97, 98, 34] := by decide +kernel
set_option maxRecDepth 100000 in
set_option maxHeartbeats 4000000 in
theorem opFixed_any (w : World) (hE : EnvO w) : Calls Tryz.prog 16 #[] w fun e w' => e = .returned (.bool true) ∧ Below w.heap.size w w' := by
  have HX := Lib.hid (OpBox.new w 1 1 1 0 ⟨#[97, 98]⟩ (.slice none 0 0) 0 0 false 47)
  have HR := Lib.hid (Ranges.none w none)
  have HE := Lib.hid hE
  have e1 : opE 1 1 1 0 ⟨#[97, 98]⟩ 2 0 [] 0 0 false 0 = 0 := by decide +kernel
  have e2 : ownE 1 1 1 0 ⟨#[97, 98]⟩ 2 0 [] 0 0 false = 0 := by decide +kernel
  have C1 := Lib.hid (opCheck_any 1 1 1 0 ⟨#[97, 98]⟩ none 0 0 [] 0 0 false 0 2 0 0 chk_ab' _ (by decide) (by decide) (HR.out.below HX.out.below) (hE.bars.below HX.out.below))
  rw [e1] at C1
  have C2 := Lib.hid (fun W (hW : Below w.heap.size w W) => Width_any 1 1 1 0 ⟨#[97, 98]⟩ none 0 0 0 0 false 2 0 0 chk_ab' W (by decide) (hE.bars.below hW))
  have C3 := Lib.hid (fun W (hW : Below w.heap.size w W) => Print_ok 1 1 1 0 ⟨#[97, 98]⟩ none 0 0 [] 0 0 false 2 0 0 chk_ab' W (by decide) (by decide) (HR.out.below hW) (hE.below hW) e2)
  rw [line_fixed] at C3
  unfold opV at C1 C2 C3
  clear hE e1 e2 HR HE
  go_enter Tryz.func16, Tryz.ntmps16
  go_wp2_with fail
  refine C1.out.mono ?_
  rintro e w1 ⟨rfl, hb1⟩
  have HX1 := Lib.hid (HX.out.step hb1)
  obtain ⟨d0, d1, d2, d3, d4, d5, d6, d7, d8⟩ := HX1.out.at_
  clear hb1
  go_wp2_with fail
  refine (C2.out _ HX1.out.below).mono ?_
  rintro e w2 ⟨rfl, hb2⟩
  have HX2 := Lib.hid (HX1.out.step hb2)
  clear hb2 d0 d1 d2 d3 d4 d5 d6 d7 d8
  obtain ⟨d0, d1, d2, d3, d4, d5, d6, d7, d8⟩ := HX2.out.at_
  go_wp2_with fail
  refine (C3.out _ HX2.out.below).mono ?_
  rintro e w3 ⟨rfl, hb3⟩
  have HX3 := Lib.hid (HX2.out.step hb3)
  clear hb3 d0 d1 d2 d3 d4 d5 d6 d7 d8
  go_wp2_with fail
  go_ret
  exact ⟨rfl, HX3.out.below⟩
end Go.Proofs.YtkdhomiieenfnaaGreatDoor.O
