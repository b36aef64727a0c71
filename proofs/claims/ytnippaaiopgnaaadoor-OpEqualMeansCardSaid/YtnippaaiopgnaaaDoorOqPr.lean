/- op.Print. -/
import Derived.Test.YtnippaaiopgnaaaDoorOqR
import Derived.Test.YtnippaaiopgnaaaDoorOqE
namespace Go.Proofs.YtnippaaiopgnaaaDoor.O
open Go.RowKit Go.Proofs Go.Joins Go.Proofs.YtnippaaiopgnaaaDoor.U Go.Proofs.YtnippaaiopgnaaaDoor.Txt
set_option linter.unusedVariables false
set_option linter.unusedSimpArgs false
attribute [local go_sem] id_eq
attribute [local go_sem ↓] Go.wp_at_zero Go.wp_at_succ

/-- A world behind w, with the operation's own block. -/
structure OpBox (w W : World) (i0 i1 kd a : Int) (tx : ByteArray) (rg : Value) (t0 t1 : Int) (on : Bool) : Prop where
  below : Below w.heap.size w W
  at_ : OpAt W w.heap.size i0 i1 kd a tx rg t0 t1 on
section
variable {w W W' : World} {i0 i1 kd a : Int} {tx : ByteArray} {rg : Value} {t0 t1 : Int} {on : Bool}
theorem OpBox.new (w : World) (i0 i1 kd a : Int) (tx : ByteArray) (rg : Value) (t0 t1 : Int) (on : Bool) (T : TypeId) : OpBox w (w.alloc (.cells #[.int .i64 i0, .int .i64 i1, .int .i64 kd, .int .i64 a, .string tx, rg, .int .i64 t0, .int .i64 t1, .bool on] T)) i0 i1 kd a tx rg t0 t1 on :=
  ⟨below_alloc1 w _, OpAt.new w i0 i1 kd a tx rg t0 t1 on T⟩
theorem OpBox.drew (h : OpBox w W i0 i1 kd a tx rg t0 t1 on) : OpBox w W.drew i0 i1 kd a tx rg t0 t1 on := ⟨h.below.drew, ⟨h.at_.c0, h.at_.c1, h.at_.c2, h.at_.c3, h.at_.c4, h.at_.c5, h.at_.c6, h.at_.c7, h.at_.c8⟩⟩
theorem OpBox.step (h : OpBox w W i0 i1 kd a tx rg t0 t1 on) (hb : Below W.heap.size W W') : OpBox w W' i0 i1 kd a tx rg t0 t1 on :=
  ⟨h.below.trans (hb.mono h.below.size), h.at_.below hb⟩
end
def PrintOut (i0 i1 kd a : Int) (tx : ByteArray) (rs : List (Int × Int)) (t0 t1 : Int) (on : Bool) (E : Int) : Value :=
  .tuple #[.string (if E = 0 then ⟨(lineL i0 i1 kd a tx.data.toList rs t0 t1 on).toArray⟩ else ⟨#[]⟩), .int .i64 E]
theorem lit_str (l : List UInt8) (b : ByteArray) (h : b.data.toList = l) : b = ⟨l.toArray⟩ := by
  apply ByteArray.ext
  rw [← Array.toList_inj]
  exact h

set_option maxRecDepth 100000 in
set_option maxHeartbeats 8000000 in
theorem Print_bad (i0 i1 kd a : Int) (tx : ByteArray) (A : Option Addr) (n m : Nat) (rs : List (Int × Int)) (t0 t1 : Int) (on : Bool) (k ps er : Nat) (hck : chk tx.data.toList = (k, ps, er)) (w : World) (hs : tx.size ≤ maxLen) (hn : n ≤ 1099511627776) (hR : Ranges w A n rs) (hE : EnvO w)
    (hbad : ownE i0 i1 kd a tx k er rs t0 t1 on ≠ 0) :
    Calls Tryd.prog 14 #[opV i0 i1 kd a tx (.slice A n m) t0 t1 on] w fun e w' => e = .returned (.tuple #[.string ⟨#[]⟩, .int .i64 (ownE i0 i1 kd a tx k er rs t0 t1 on)]) ∧ Below w.heap.size w w' := by
  have HX := Lib.hid (OpBox.new w i0 i1 kd a tx (.slice A n m) t0 t1 on 31)
  have HO := Lib.hid (own_any i0 i1 kd a tx A n m rs t0 t1 on k ps er hck _ hs hn (hR.below HX.out.below) (hE.bars.below HX.out.below))
  unfold opV at HO ⊢
  generalize ownE i0 i1 kd a tx k er rs t0 t1 on = E at HO hbad ⊢
  clear hR hE hck
  go_enter Tryd.func14, Tryd.ntmps14
  go_wp2_with fail
  refine HO.out.mono ?_
  rintro e w1 ⟨rfl, hb1⟩
  have HB := Lib.hid (HX.out.below.trans (hb1.mono HX.out.below.size))
  clear hb1
  go_wp2_with fail
  go_ret2
  exact ⟨rfl, HB.out⟩
set_option maxRecDepth 100000 in
set_option maxHeartbeats 8000000 in
theorem Print_ok (i0 i1 kd a : Int) (tx : ByteArray) (A : Option Addr) (n m : Nat) (rs : List (Int × Int)) (t0 t1 : Int) (on : Bool) (k ps er : Nat) (hck : chk tx.data.toList = (k, ps, er)) (w : World) (hs : tx.size ≤ maxLen) (hn : n ≤ 32768) (hR : Ranges w A n rs) (hE : EnvO w)
    (hok : ownE i0 i1 kd a tx k er rs t0 t1 on = 0) :
    Calls Tryd.prog 14 #[opV i0 i1 kd a tx (.slice A n m) t0 t1 on] w fun e w' => e = .returned (.tuple #[.string ⟨(lineL i0 i1 kd a tx.data.toList rs t0 t1 on).toArray⟩, .int .i64 0]) ∧ Below w.heap.size w w' := by
  have OK := Lib.hid (opE_ok hok)
  have HX := Lib.hid (OpBox.new w i0 i1 kd a tx (.slice A n m) t0 t1 on 31)
  have HO := Lib.hid (own_any i0 i1 kd a tx A n m rs t0 t1 on k ps er hck _ hs (by omega) (hR.below HX.out.below) (hE.bars.below HX.out.below))
  rw [hok] at HO
  have HD := Lib.hid (fun W hb => printID_any i0 i1 W (by have := OK.out.id; omega) (by have := OK.out.id; omega) (by have := OK.out.id; omega) (by have := OK.out.id; omega) (hE.below (w' := W) hb))
  have HE := Lib.hid hE
  have HR := Lib.hid hR
  have HCK := Lib.hid hck
  have ids := idL_le i0 i1 OK.out.id.1 OK.out.id.2
  obtain ⟨I, hI⟩ : ∃ I : ByteArray, I = ⟨(idL i0 i1).toArray⟩ := ⟨_, rfl⟩
  rw [← hI] at HD
  have hIl : I.data.toList = idL i0 i1 := by rw [hI]
  have hIs : I.size ≤ 43 := by rw [← size_toList, hIl]; exact ids
  unfold opV at HO ⊢
  clear hR hE hck hI ids
  rcases OK.out.kind with rfl | rfl | rfl | rfl
  · obtain ⟨he, hk1, hk2, ha0, ha1⟩ := OK.out.ins rfl
    have hts : tx.size ≤ 1024 := by
      have := HCK.out
      rw [he] at this
      have := chk_ok_size this
      rw [← size_toList]; omega
    obtain ⟨Q, hQ⟩ : ∃ Q : ByteArray, Q = ⟨(quoteL tx.data.toList).toArray⟩ := ⟨_, rfl⟩
    have hQl : Q.data.toList = quoteL tx.data.toList := by rw [hQ]
    have hQs : Q.size ≤ 10242 := by
      rw [← size_toList, hQl, quoteL_len]
      have := qS_le tx.data.toList.length tx.data.toList
      have h5 := size_toList tx
      omega
    have s1 := iL_size a (by omega) (by omega)
    have C1 : Hid (∀ W, OpBox w W i0 i1 1 a tx (.slice A n m) t0 t1 on → Calls Tryd.prog 28 #[.int .i64 a] W fun e w' => e = .returned (.string (iL a)) ∧ OpBox w w' i0 i1 1 a tx (.slice A n m) t0 t1 on ∧ w'.cell? ⟨w.heap.size, 3, none⟩ = some (.int .i64 a) ∧ w'.cell? ⟨w.heap.size, 4, none⟩ = some (.string tx)) := Lib.hid fun W hW => by
      refine (Itoa_any a W (by omega) (by omega) (HE.out.below hW.below)).mono ?_
      rintro e w' ⟨rfl, hb⟩
      exact ⟨rfl, hW.step hb, (hW.step hb).at_.c3, (hW.step hb).at_.c4⟩
    have C2 : Hid (∀ W, OpBox w W i0 i1 1 a tx (.slice A n m) t0 t1 on → Calls Tryd.prog 29 #[.string tx] W fun e w' => e = .returned (.string Q) ∧ OpBox w w' i0 i1 1 a tx (.slice A n m) t0 t1 on ∧ w'.cell? ⟨w.heap.size, 3, none⟩ = some (.int .i64 a) ∧ w'.cell? ⟨w.heap.size, 4, none⟩ = some (.string tx)) := Lib.hid fun W hW => by
      refine (Quote_any tx W (by omega) (HE.out.below hW.below).tz).mono ?_
      rintro e w' ⟨rfl, hb⟩
      exact ⟨by rw [hQ], hW.step hb, (hW.step hb).at_.c3, (hW.step hb).at_.c4⟩
    have q1 := add_str I ⟨#[32, 105, 110, 115, 32]⟩ (by show I.size + 5 ≤ _; omega)
    have q2 := add_str (I ++ ⟨#[32, 105, 110, 115, 32]⟩) (iL a) (by rw [ByteArray.size_append]; show I.size + 5 + (iL a).size ≤ _; omega)
    have q3 := add_str (I ++ ⟨#[32, 105, 110, 115, 32]⟩ ++ iL a) ⟨#[32]⟩ (by rw [ByteArray.size_append, ByteArray.size_append]; show I.size + 5 + (iL a).size + 1 ≤ _; omega)
    have q4 := add_str (I ++ ⟨#[32, 105, 110, 115, 32]⟩ ++ iL a ++ ⟨#[32]⟩) Q (by rw [ByteArray.size_append, ByteArray.size_append, ByteArray.size_append]; show I.size + 5 + (iL a).size + 1 + Q.size ≤ _; omega)
    have hz : I ++ ⟨#[32, 105, 110, 115, 32]⟩ ++ iL a ++ ⟨#[32]⟩ ++ Q = ⟨(lineL i0 i1 1 a tx.data.toList rs t0 t1 on).toArray⟩ := lit_str _ _ (by
      rw [app_list, app_list, app_list, app_list, hIl, iL_list, hQl]
      unfold lineL wordL
      simp)
    rw [hz] at q4
    clear hz hQ hQl hQs hIl hIs s1 hts he hk1 hk2 ha0 ha1
    generalize I ++ ⟨#[32, 105, 110, 115, 32]⟩ ++ iL a ++ ⟨#[32]⟩ = m3 at q3 q4
    generalize I ++ ⟨#[32, 105, 110, 115, 32]⟩ ++ iL a = m2 at q2 q3
    generalize I ++ ⟨#[32, 105, 110, 115, 32]⟩ = m1 at q1 q2
    generalize iL a = x at C1 q2
    generalize (⟨(lineL i0 i1 1 a tx.data.toList rs t0 t1 on).toArray⟩ : ByteArray) = z at q4 ⊢
    clear HCK HR OK
    go_enter Tryd.func14, Tryd.ntmps14
    go_wp2_with fail
    refine HO.out.mono ?_
    rintro e w1 ⟨rfl, hb1⟩
    have HX1 := Lib.hid (HX.out.step hb1)
    obtain ⟨d0, d1, d2, d3, d4, d5, d6, d7, d8⟩ := HX1.out.at_
    clear hb1
    go_wp2_with fail
    refine (HD.out _ HX1.out.below).mono ?_
    rintro e w2 ⟨rfl, hb2⟩
    have HX2 := Lib.hid (HX1.out.step hb2)
    clear hb2 d0 d1 d2 d3 d4 d5 d6 d7 d8
    obtain ⟨d0, d1, d2, d3, d4, d5, d6, d7, d8⟩ := HX2.out.at_
    go_wp2_with fail
    go_region_with (first
      | ((with_reducible refine (C1.out _ (by first | exact HX2.out.drew | assumption)).mono ?_); rintro e w5 ⟨rfl, hx5, x5, y5⟩)
      | ((with_reducible refine (C2.out _ (by first | exact HX2.out.drew | assumption)).mono ?_); rintro e w5 ⟨rfl, hx5, x5, y5⟩))
    all_goals (go_wp2_with fail)
    all_goals
      go_ret2
      exact ⟨rfl, OpBox.below (by assumption)⟩
  · have hc := OK.out.cover (.inl rfl)
    have HC := Lib.hid (fun W (hW : Below w.heap.size w W) => printRanges_any A n m rs W hn (HR.out.below hW) hc.2 (HE.out.below hW))
    have hrl := rsL_le rs hc.2
    have hlen := HR.out.len
    obtain ⟨R, hR⟩ : ∃ R : ByteArray, R = ⟨(rsL rs).toArray⟩ := ⟨_, rfl⟩
    rw [← hR] at HC
    have hRl : R.data.toList = rsL rs := by rw [hR]
    have hRs : R.size ≤ 1441792 := by rw [← size_toList, hRl]; omega
    have q1 := add_str I ⟨#[32, 104, 105, 100, 101, 32]⟩ (by show I.size + 6 ≤ _; omega)
    have q2 := add_str (I ++ ⟨#[32, 104, 105, 100, 101, 32]⟩) R (by rw [ByteArray.size_append]; show I.size + 6 + R.size ≤ _; omega)
    have hz : I ++ ⟨#[32, 104, 105, 100, 101, 32]⟩ ++ R = ⟨(lineL i0 i1 2 a tx.data.toList rs t0 t1 on).toArray⟩ := lit_str _ _ (by
      rw [app_list, app_list, hIl, hRl]
      unfold lineL wordL
      simp)
    rw [hz] at q2
    clear hz hR hRl hRs hIl hIs hrl hlen hc
    generalize I ++ ⟨#[32, 104, 105, 100, 101, 32]⟩ = m1 at q1 q2
    generalize (⟨(lineL i0 i1 2 a tx.data.toList rs t0 t1 on).toArray⟩ : ByteArray) = z at q2 ⊢
    clear HCK HR OK hn hs
    go_enter Tryd.func14, Tryd.ntmps14
    go_wp2_with fail
    refine HO.out.mono ?_
    rintro e w1 ⟨rfl, hb1⟩
    have HX1 := Lib.hid (HX.out.step hb1)
    obtain ⟨d0, d1, d2, d3, d4, d5, d6, d7, d8⟩ := HX1.out.at_
    clear hb1
    go_wp2_with fail
    refine (HD.out _ HX1.out.below).mono ?_
    rintro e w2 ⟨rfl, hb2⟩
    have HX2 := Lib.hid (HX1.out.step hb2)
    clear hb2 d0 d1 d2 d3 d4 d5 d6 d7 d8
    obtain ⟨d0, d1, d2, d3, d4, d5, d6, d7, d8⟩ := HX2.out.at_
    go_wp2_with fail
    refine (HC.out _ HX2.out.below).mono ?_
    rintro e w3 ⟨rfl, hb3⟩
    have HX3 := Lib.hid (HX2.out.step hb3)
    clear hb3 d0 d1 d2 d3 d4 d5 d6 d7 d8
    go_wp2_with fail
    go_ret2
    exact ⟨rfl, HX3.out.below⟩
  · have hc := OK.out.cover (.inr rfl)
    have HC := Lib.hid (fun W (hW : Below w.heap.size w W) => printRanges_any A n m rs W hn (HR.out.below hW) hc.2 (HE.out.below hW))
    have hrl := rsL_le rs hc.2
    have hlen := HR.out.len
    obtain ⟨R, hR⟩ : ∃ R : ByteArray, R = ⟨(rsL rs).toArray⟩ := ⟨_, rfl⟩
    rw [← hR] at HC
    have hRl : R.data.toList = rsL rs := by rw [hR]
    have hRs : R.size ≤ 1441792 := by rw [← size_toList, hRl]; omega
    have q1 := add_str I ⟨#[32, 115, 104, 111, 119, 32]⟩ (by show I.size + 6 ≤ _; omega)
    have q2 := add_str (I ++ ⟨#[32, 115, 104, 111, 119, 32]⟩) R (by rw [ByteArray.size_append]; show I.size + 6 + R.size ≤ _; omega)
    have hz : I ++ ⟨#[32, 115, 104, 111, 119, 32]⟩ ++ R = ⟨(lineL i0 i1 3 a tx.data.toList rs t0 t1 on).toArray⟩ := lit_str _ _ (by
      rw [app_list, app_list, hIl, hRl]
      unfold lineL wordL
      simp)
    rw [hz] at q2
    clear hz hR hRl hRs hIl hIs hrl hlen hc
    generalize I ++ ⟨#[32, 115, 104, 111, 119, 32]⟩ = m1 at q1 q2
    generalize (⟨(lineL i0 i1 3 a tx.data.toList rs t0 t1 on).toArray⟩ : ByteArray) = z at q2 ⊢
    clear HCK HR OK hn hs
    go_enter Tryd.func14, Tryd.ntmps14
    go_wp2_with fail
    refine HO.out.mono ?_
    rintro e w1 ⟨rfl, hb1⟩
    have HX1 := Lib.hid (HX.out.step hb1)
    obtain ⟨d0, d1, d2, d3, d4, d5, d6, d7, d8⟩ := HX1.out.at_
    clear hb1
    go_wp2_with fail
    refine (HD.out _ HX1.out.below).mono ?_
    rintro e w2 ⟨rfl, hb2⟩
    have HX2 := Lib.hid (HX1.out.step hb2)
    clear hb2 d0 d1 d2 d3 d4 d5 d6 d7 d8
    obtain ⟨d0, d1, d2, d3, d4, d5, d6, d7, d8⟩ := HX2.out.at_
    go_wp2_with fail
    refine (HC.out _ HX2.out.below).mono ?_
    rintro e w3 ⟨rfl, hb3⟩
    have HX3 := Lib.hid (HX2.out.step hb3)
    clear hb3 d0 d1 d2 d3 d4 d5 d6 d7 d8
    go_wp2_with fail
    go_ret2
    exact ⟨rfl, HX3.out.below⟩
  · have hst := OK.out.stat rfl
    have HD2 := Lib.hid (fun W hb => printID_any t0 t1 W (by omega) (by omega) (by omega) (by omega) (HE.out.below (w' := W) hb))
    have tds := idL_le t0 t1 hst.1 hst.2
    obtain ⟨T, hT⟩ : ∃ T : ByteArray, T = ⟨(idL t0 t1).toArray⟩ := ⟨_, rfl⟩
    rw [← hT] at HD2
    have hTl : T.data.toList = idL t0 t1 := by rw [hT]
    have hTs : T.size ≤ 43 := by rw [← size_toList, hTl]; exact tds
    have q1 := add_str I ⟨#[32, 111, 110, 32]⟩ (by show I.size + 4 ≤ _; omega)
    have q2 := add_str (I ++ ⟨#[32, 111, 110, 32]⟩) T (by rw [ByteArray.size_append]; show I.size + 4 + T.size ≤ _; omega)
    have q3 := add_str I ⟨#[32, 111, 102, 102, 32]⟩ (by show I.size + 5 ≤ _; omega)
    have q4 := add_str (I ++ ⟨#[32, 111, 102, 102, 32]⟩) T (by rw [ByteArray.size_append]; show I.size + 5 + T.size ≤ _; omega)
    have hz : I ++ ⟨#[32, 111, 110, 32]⟩ ++ T = ⟨(lineL i0 i1 4 a tx.data.toList rs t0 t1 true).toArray⟩ := lit_str _ _ (by
      rw [app_list, app_list, hIl, hTl]
      unfold lineL wordL
      simp)
    have hz2 : I ++ ⟨#[32, 111, 102, 102, 32]⟩ ++ T = ⟨(lineL i0 i1 4 a tx.data.toList rs t0 t1 false).toArray⟩ := lit_str _ _ (by
      rw [app_list, app_list, hIl, hTl]
      unfold lineL wordL
      simp)
    rw [hz] at q2
    rw [hz2] at q4
    clear hz hz2 hT hTl hTs hIl hIs hst tds
    generalize I ++ ⟨#[32, 111, 110, 32]⟩ = m1 at q1 q2
    generalize I ++ ⟨#[32, 111, 102, 102, 32]⟩ = m2 at q3 q4
    clear HCK HR OK hn hs
    cases on
    case true =>
      generalize (⟨(lineL i0 i1 4 a tx.data.toList rs t0 t1 true).toArray⟩ : ByteArray) = z at q2 ⊢
      clear q3 q4
      go_enter Tryd.func14, Tryd.ntmps14
      go_wp2_with fail
      refine HO.out.mono ?_
      rintro e w1 ⟨rfl, hb1⟩
      have HX1 := Lib.hid (HX.out.step hb1)
      obtain ⟨d0, d1, d2, d3, d4, d5, d6, d7, d8⟩ := HX1.out.at_
      clear hb1
      go_wp2_with fail
      refine (HD.out _ HX1.out.below).mono ?_
      rintro e w2 ⟨rfl, hb2⟩
      have HX2 := Lib.hid (HX1.out.step hb2)
      clear hb2 d0 d1 d2 d3 d4 d5 d6 d7 d8
      obtain ⟨d0, d1, d2, d3, d4, d5, d6, d7, d8⟩ := HX2.out.at_
      go_wp2_with fail
      refine (HD2.out _ HX2.out.below).mono ?_
      rintro e w3 ⟨rfl, hb3⟩
      have HX3 := Lib.hid (HX2.out.step hb3)
      clear hb3 d0 d1 d2 d3 d4 d5 d6 d7 d8
      go_wp2_with fail
      go_ret2
      exact ⟨rfl, HX3.out.below⟩
    case false =>
      generalize (⟨(lineL i0 i1 4 a tx.data.toList rs t0 t1 false).toArray⟩ : ByteArray) = z at q4 ⊢
      clear q1 q2
      go_enter Tryd.func14, Tryd.ntmps14
      go_wp2_with fail
      refine HO.out.mono ?_
      rintro e w1 ⟨rfl, hb1⟩
      have HX1 := Lib.hid (HX.out.step hb1)
      obtain ⟨d0, d1, d2, d3, d4, d5, d6, d7, d8⟩ := HX1.out.at_
      clear hb1
      go_wp2_with fail
      refine (HD.out _ HX1.out.below).mono ?_
      rintro e w2 ⟨rfl, hb2⟩
      have HX2 := Lib.hid (HX1.out.step hb2)
      clear hb2 d0 d1 d2 d3 d4 d5 d6 d7 d8
      obtain ⟨d0, d1, d2, d3, d4, d5, d6, d7, d8⟩ := HX2.out.at_
      go_wp2_with fail
      refine (HD2.out _ HX2.out.below).mono ?_
      rintro e w3 ⟨rfl, hb3⟩
      have HX3 := Lib.hid (HX2.out.step hb3)
      clear hb3 d0 d1 d2 d3 d4 d5 d6 d7 d8
      go_wp2_with fail
      go_ret2
      exact ⟨rfl, HX3.out.below⟩
end Go.Proofs.YtnippaaiopgnaaaDoor.O
