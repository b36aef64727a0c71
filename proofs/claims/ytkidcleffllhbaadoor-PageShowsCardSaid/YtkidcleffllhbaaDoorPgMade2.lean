/- The law's own text once more: none of its runes is a bar. -/
import Derived.Test.YtkidcleffllhbaaDoorPgMade
namespace Go.Proofs.YtkidcleffllhbaaDoor.Pg
open Go.RowKit Go.Proofs Go.Joins Go.Proofs.YtkidcleffllhbaaDoor.U Go.Proofs.YtkidcleffllhbaaDoor.Txt
set_option linter.unusedVariables false
set_option linter.unusedSimpArgs false
attribute [local go_sem] frozen?_alloc_cells

/-- A rune of the law's text. -/
def MadeRune (r : Int) : Prop := TxtRune r ∧ r ≠ 124
theorem small_made (k : Int) (h1 : 12 ≤ k) (h2 : k < 24) : MadeRune (97 + k) := ⟨small_rune k h1 h2, by omega⟩
set_option maxRecDepth 100000 in
set_option maxHeartbeats 4000000 in
theorem made2_any (A : Option Addr) (c : Nat) (zs : List Int) (w : World) (hl : zs.length ≤ 140737488351232) (hZ : Ints w A zs) : Calls Tryd.prog 15 #[.slice A zs.length c] w fun e w' => (∃ v rs, e = .returned v ∧ w'.ownsRow w.heap.size 21 1 v rs.length (runeCells rs) ∧ (∀ r ∈ rs, MadeRune r) ∧ rs.length ≤ 200) ∧ Below w.heap.size w w' := by
  have HZ := Lib.hid hZ
  obtain ⟨n, hn⟩ : ∃ n, zs.length = n := ⟨_, rfl⟩
  rw [hn] at hl ⊢
  have HN := Lib.hid hn
  obtain ⟨i0, hi0, hz0, hz1, hz2⟩ := info_parts infoRune
  have HI := Lib.hid (And.intro hi0 (And.intro hz0 (And.intro hz1 hz2)))
  clear hZ hn hi0 hz0 hz1 hz2
  go_enter Tryd.func15, Tryd.ntmps15
  go_wp2_with fail
  go_loopw [3, 4] (fun v i wr => ∃ (j : Nat) (rs : List Int), i = .int .i64 j ∧ j ≤ n ∧ j ≤ 200 ∧ rs.length = j ∧ wr.ownsRow w.heap.size 21 1 v j (runeCells rs) ∧ (∀ r ∈ rs, MadeRune r) ∧ Below w.heap.size w wr) (fun _ i _ => n - (intOf i).toNat)
  case atStart => exact ⟨0, [], rfl, Nat.zero_le _, Nat.zero_le _, rfl, ⟨rfl, .inl ⟨rfl, rfl⟩⟩, (by simp), Below.refl _ _⟩
  case round =>
    obtain ⟨j, rs, rfl, hj, hj2, hrl, hown, hg, hb⟩ := hrel
    have HO := Lib.hid hown
    have HG := Lib.hid hg
    have HB := Lib.hid hb
    have HRL := Lib.hid hrl
    clear hown hg hb hrl
    by_cases hlt : j < n
    · by_cases hlt2 : j < 200
      · obtain ⟨ad, rfl, hc⟩ := HZ.out (by have := HN.out; omega)
        have d1 := cell_below HB.out (hc j (by have := HN.out; omega))
        obtain ⟨z, hz⟩ : ∃ z, zs.getD j 0 = z := ⟨_, rfl⟩
        rw [hz] at d1
        have HLT := Lib.hid (And.intro hlt hlt2)
        clear hc hz
        go_wp2_with fail
        refine (rest_any z 24 _ (by decide)).mono ?_
        rintro e w1 ⟨⟨k, rfl, hk0, hk1⟩, rfl⟩
        have e1 : IntKind.i64.wrap (97 + k) = 97 + k := IntWalk.i64_in _ (by omega)
        have e2 : IntKind.i32.wrap (97 + k) = 97 + k := IntWalk.i32_in _ (by omega)
        go_upto_block 2 with fail
        go_cut [6] (fun cv wx => ∃ r, cv = .int .i32 r ∧ MadeRune r ∧ wx = w1)
        case first =>
          have HK := Lib.hid (And.intro hk0 hk1)
          clear e1 e2 hk0 hk1
          by_cases g1 : k < 5
          · go_wp2_with fail
            go_meet
            exact ⟨32, rfl, ⟨⟨by decide, by decide⟩, by decide⟩, rfl⟩
          by_cases g2 : k = 5
          · have b2 : (k == 5) = true := by simp [g2]
            clear g2
            go_wp2_with fail
            go_meet
            exact ⟨9, rfl, ⟨⟨by decide, by decide⟩, by decide⟩, rfl⟩
          have b2 : (k == 5) = false := by simp [g2]
          by_cases g3 : k < 8
          · go_wp2_with fail
            go_meet
            exact ⟨10, rfl, ⟨⟨by decide, by decide⟩, by decide⟩, rfl⟩
          by_cases g4 : k = 8
          · have b4 : (k == 8) = true := by simp [g4]
            clear g4
            go_wp2_with fail
            go_meet
            exact ⟨20013, rfl, ⟨⟨by decide, by decide⟩, by decide⟩, rfl⟩
          have b4 : (k == 8) = false := by simp [g4]
          by_cases g5 : k = 9
          · have b5 : (k == 9) = true := by simp [g5]
            clear g5
            go_wp2_with fail
            go_meet
            exact ⟨128512, rfl, ⟨⟨by decide, by decide⟩, by decide⟩, rfl⟩
          have b5 : (k == 9) = false := by simp [g5]
          by_cases g6 : k = 10
          · have b6 : (k == 10) = true := by simp [g6]
            clear g6
            go_wp2_with fail
            go_meet
            exact ⟨769, rfl, ⟨⟨by decide, by decide⟩, by decide⟩, rfl⟩
          have b6 : (k == 10) = false := by simp [g6]
          by_cases g7 : k = 11
          · have b7 : (k == 11) = true := by simp [g7]
            clear g7
            go_wp2_with fail
            go_meet
            exact ⟨233, rfl, ⟨⟨by decide, by decide⟩, by decide⟩, rfl⟩
          have b7 : (k == 11) = false := by simp [g7]
          have HS := Lib.hid (small_made k (by omega) HK.out.2)
          go_wp2_with fail
          go_meet
          exact ⟨97 + k, rfl, HS.out, rfl⟩
        case rest =>
          obtain ⟨r, rfl, hr, rfl⟩ := hcut
          have HR := Lib.hid hr
          clear hr
          go_wp2_with (at_builtin; refine wpList_append_lies _ rfl (.tmp 46) (.tmp 48) 22 rfl w.heap.size 21 i0 (.int .i32 0) 1 4 Tryd.underlying22 HI.out.1 HI.out.2.1 HI.out.2.2.1 HI.out.2.2.2 rfl (by decide) _ j (runeCells rs) rfl (own_below HO.out (below_alloc1 _ _)) _ 1 1 [.int .i32 r] rfl rfl (fun j u hj => news_alloc _ _ _ j u hj) (by intro u hu; simp at hu; subst hu; rfl) (by decide) (by have h1 := HLT.out; unfold maxLen; omega) (by have h1 := HLT.out; omega) (by have := HB.out.size; simp; omega) _ rfl ?_; intro g cap w9 hown hgrow hat hgl; have HO9 := Lib.hid hown; have HGR := Lib.hid hgrow; clear hown hgrow hat hgl)
          go_roundw
          case rel => exact ⟨j + 1, rs ++ [r], by go_num, HLT.out.1, HLT.out.2, by rw [List.length_append, HRL.out]; rfl, by have h := HO9.out; rwa [show runeCells (rs ++ [r]) = runeCells rs ++ [.int .i32 r] by simp [runeCells]], by
              intro q hq
              rcases List.mem_append.1 hq with h | h
              · exact HG.out q h
              · rw [List.mem_singleton.1 h]; exact HR.out, (HB.out.alloc HB.out.size _).grown HGR.out (by have := HB.out.size; simp; omega) (fun k hk => (HO.out.lt k hk).1)⟩
          case measure => have := HLT.out; simp [intOf]; omega
      · have i2 : ¬ (j : Int) < 200 := by omega
        go_wp2_with fail
        go_ret
        first
          | exact ⟨⟨_, rs, rfl, by rw [HRL.out]; exact HO.out, HG.out, by rw [HRL.out]; omega⟩, HB.out⟩
          | exact ⟨⟨_, rfl, rs, by rw [HRL.out]; exact HO.out, HG.out, by rw [HRL.out]; omega⟩, HB.out⟩
    · go_wp2_with fail
      go_ret
      exact ⟨⟨_, rs, rfl, by rw [HRL.out]; exact HO.out, HG.out, by rw [HRL.out]; omega⟩, HB.out⟩
end Go.Proofs.YtkidcleffllhbaaDoor.Pg
