/- OpOrder's orders, walked. -/
import Derived.Test.YtiagimmdohpddabDoorOpO
import Derived.Deep.RegionHeld3
import Derived.Deep.DeepCutAuto
import Derived.Deep.CutBlock
namespace Go.Proofs.YtiagimmdohpddabDoor.O
open Go.RowKit Go.Proofs Go.Joins Go.Proofs.YtiagimmdohpddabDoor.U Go.Proofs.YtiagimmdohpddabDoor.Txt
set_option linter.unusedVariables false
set_option linter.unusedSimpArgs false
attribute [local go_sem] frozen?_alloc_cells

set_option maxRecDepth 100000 in
set_option maxHeartbeats 8000000 in
theorem orders_any (kind t c n : Int) (hk : kind = 0 ∨ kind = 1 ∨ kind = 2 ∨ kind = 3) (ht : 1 ≤ t ∧ t ≤ 1000000) (w : World) (hg : Bars w) : Calls Tryd.prog 5 #[.int .i64 kind, .int .i64 t, .int .i64 c, .int .i64 n] w fun e w' => e = .returned (.bool true) ∧ Below w.heap.size w w' := by
  have HG := Lib.hid hg
  clear hg
  have e1 : IntKind.i64.wrap (t + 1) = t + 1 := IntWalk.i64_in _ (by omega)
  go_enter Tryd.func5, Tryd.ntmps5
  go_wp2_with fail
  refine (base_any kind t hk ht _).mono ?_
  rintro e w1 ⟨⟨a, tx, A, sn, sm, rs, t0, t1, rfl, hR, hf, hD⟩, hb⟩
  unfold opV
  have S1 := Lib.hid (St.new (vs := #[.int .i64 2, .int .i64 3, .int .i64 (kind + 1), .int .i64 a, .string tx, .slice A sn sm, .int .i64 t0, .int .i64 t1, .bool false]) hb hR hf)
  have HD := Lib.hid hD
  clear hR hf hb hD
  go_wp2_with fail
  obtain ⟨hkd, k, ps, er, hck, hsz, hn, hop⟩ := HD.out.ok ht
  refine (asked_any 2 3 (kind + 1) a tx A sn sm rs t0 t1 false t 0 k ps er hck _ hsz hn S1.out.rng (HG.out.below S1.out.below) hop).mono ?_
  rintro e w2 ⟨rfl, hb⟩
  have S2 := Lib.hid (S1.out.step hb)
  clear hb hck hop S1
  obtain ⟨B, hB⟩ : ∃ B, w1.heap.size = B := ⟨_, rfl⟩
  rw [hB] at S2 ⊢
  clear hB
  obtain ⟨c0, c1, c2, c3, c4, c5, c6, c7, c8⟩ := S2.out.nine
  obtain ⟨f0, f1, f2, f3, f4, f5, f6, f7, f8⟩ := S2.out.fz
  have HSZ := Lib.hid hsz
  have HN := Lib.hid hn
  clear hsz hn hkd
  go_upto_block 0 with fail
  go_cut [] (fun wx => ∃ kd a tx A sn sm rs t0 t1 on k ps er, St w wx B #[.int .i64 2, .int .i64 3, .int .i64 kd, .int .i64 a, .string tx, .slice A sn sm, .int .i64 t0, .int .i64 t1, .bool on] A sn rs ∧ sn ≤ 32768 ∧ tx.size ≤ maxLen ∧ chk tx.data.toList = (k, ps, er) ∧ (1 ≤ kd ∧ kd ≤ 4) ∧ extraB kd a tx rs.length t0 t1 on = true)
  case first =>
    rcases HD.out with ⟨rfl, rfl, rfl, rfl, rfl, rfl, rfl⟩ | ⟨rfl, rfl, rfl, rfl, rfl, rfl, rfl⟩ | ⟨rfl, rfl, rfl, rfl, rfl, rfl, rfl⟩ | ⟨rfl, rfl, rfl, rfl, rfl, rfl, rfl⟩
    · clear HD HSZ HN
      go_wp2_with fail
      refine (asked_any 2 3 1 (t + 1) ⟨#[97, 98]⟩ A 0 _ [] 0 0 false t 12 2 0 0 (chk_ab) _ (small_le (by decide)) (by decide) (S2.out.put 3 (.int .i64 (t + 1))).rng (HG.out.below (S2.out.put 3 (.int .i64 (t + 1))).below) (by rw [opE_past (by omega) (by decide) good23, if_neg (by simp [extraB, isE]), if_pos (by decide)]; unfold insE; rw [if_neg (by decide), if_neg (by decide), if_neg (by decide), if_neg (by omega), if_pos (by omega)])).mono ?_
      rintro e w3 ⟨rfl, hb⟩
      have hS3 : St w w3 B #[.int .i64 2, .int .i64 3, .int .i64 1, .int .i64 (t + 1), .string ⟨#[97, 98]⟩, (.slice A 0 sm), .int .i64 0, .int .i64 0, .bool false] A 0 [] := (S2.out.put 3 (.int .i64 (t + 1))).step hb
      have S3 := Lib.hid hS3
      clear hb hS3 c0 c1 c2 c3 c4 c5 c6 c7 c8 f0 f1 f2 f3 f4 f5 f6 f7 f8 S2
      obtain ⟨c0, c1, c2, c3, c4, c5, c6, c7, c8⟩ := S3.out.nine
      obtain ⟨f0, f1, f2, f3, f4, f5, f6, f7, f8⟩ := S3.out.fz
      go_wp2_with fail
      refine (asked_any 2 3 1 (t + 1) ⟨#[]⟩ A 0 _ [] 0 0 false t 15 0 0 0 (chk_e) _ (small_le (by decide)) (by decide) (S3.out.put 4 (.string ⟨#[]⟩)).rng (HG.out.below (S3.out.put 4 (.string ⟨#[]⟩)).below) (by rw [opE_past (by omega) (by decide) good23, if_neg (by simp [extraB, isE]), if_pos (by decide)]; rfl)).mono ?_
      rintro e w4 ⟨rfl, hb⟩
      have hS4 : St w w4 B #[.int .i64 2, .int .i64 3, .int .i64 1, .int .i64 (t + 1), .string ⟨#[]⟩, (.slice A 0 sm), .int .i64 0, .int .i64 0, .bool false] A 0 [] := (S3.out.put 4 (.string ⟨#[]⟩)).step hb
      have S4 := Lib.hid hS4
      clear hb hS4 c0 c1 c2 c3 c4 c5 c6 c7 c8 f0 f1 f2 f3 f4 f5 f6 f7 f8 S3
      obtain ⟨c0, c1, c2, c3, c4, c5, c6, c7, c8⟩ := S4.out.nine
      obtain ⟨f0, f1, f2, f3, f4, f5, f6, f7, f8⟩ := S4.out.fz
      go_wp2_with fail
      refine (asked_any 2 3 1 (t + 1) ⟨#[97, 255]⟩ A 0 _ [] 0 0 false t 10 0 1 10 (chk_aff) _ (small_le (by decide)) (by decide) (S4.out.put 4 (.string ⟨#[97, 255]⟩)).rng (HG.out.below (S4.out.put 4 (.string ⟨#[97, 255]⟩)).below) (by rw [opE_past (by omega) (by decide) good23, if_neg (by simp [extraB]), if_pos (by decide)]; rfl)).mono ?_
      rintro e w5 ⟨rfl, hb⟩
      have hS5 : St w w5 B #[.int .i64 2, .int .i64 3, .int .i64 1, .int .i64 (t + 1), .string ⟨#[97, 255]⟩, (.slice A 0 sm), .int .i64 0, .int .i64 0, .bool false] A 0 [] := (S4.out.put 4 (.string ⟨#[97, 255]⟩)).step hb
      have S5 := Lib.hid hS5
      clear hb hS5 c0 c1 c2 c3 c4 c5 c6 c7 c8 f0 f1 f2 f3 f4 f5 f6 f7 f8 S4
      obtain ⟨c0, c1, c2, c3, c4, c5, c6, c7, c8⟩ := S5.out.nine
      obtain ⟨f0, f1, f2, f3, f4, f5, f6, f7, f8⟩ := S5.out.fz
      go_wp2_with fail
      go_meet
      exact ⟨1, (t + 1), ⟨#[97, 255]⟩, A, 0, sm, [], 0, 0, true, 0, 1, 10, (S5.out.put 8 (.bool true)), by decide, small_le (by decide), chk_aff, by decide, by simp [extraB]⟩
    · clear HD HSZ HN
      go_wp2_with fail
      refine (asked_any 2 3 2 0 ⟨#[]⟩ A 1 _ [(t - 1, t)] 0 0 false 0 12 0 0 0 (chk_e) _ (small_le (by decide)) (by decide) S2.out.rng (HG.out.below S2.out.below) (by rw [opE_past (by omega) (by decide) good23, if_neg (by simp [extraB, isE]), if_neg (by decide), if_neg (by decide)]; unfold rngE; rw [if_neg (by simp), show spanE none [(t - 1, t)] = 0 from by simp only [spanE]; rw [if_neg (by omega)]; rfl, if_neg (by decide), if_pos (by simp; try omega)])).mono ?_
      rintro e w3 ⟨rfl, hb⟩
      have hS3 : St w w3 B #[.int .i64 2, .int .i64 3, .int .i64 2, .int .i64 0, .string ⟨#[]⟩, (.slice A 1 sm), .int .i64 0, .int .i64 0, .bool false] A 1 [(t - 1, t)] := S2.out.step hb
      have S3 := Lib.hid hS3
      clear hb hS3 c0 c1 c2 c3 c4 c5 c6 c7 c8 f0 f1 f2 f3 f4 f5 f6 f7 f8 S2
      obtain ⟨c0, c1, c2, c3, c4, c5, c6, c7, c8⟩ := S3.out.nine
      obtain ⟨f0, f1, f2, f3, f4, f5, f6, f7, f8⟩ := S3.out.fz
      have d0 := fun o => cell_below (below_alloc1 w3 o) c0
      have d1 := fun o => cell_below (below_alloc1 w3 o) c1
      have d2 := fun o => cell_below (below_alloc1 w3 o) c2
      have d3 := fun o => cell_below (below_alloc1 w3 o) c3
      have d4 := fun o => cell_below (below_alloc1 w3 o) c4
      have d5 := fun o => cell_below (below_alloc1 w3 o) c5
      have d6 := fun o => cell_below (below_alloc1 w3 o) c6
      have d7 := fun o => cell_below (below_alloc1 w3 o) c7
      have d8 := fun o => cell_below (below_alloc1 w3 o) c8
      go_wp2_with fail
      refine (asked_any 2 3 2 0 ⟨#[]⟩ (some ⟨w3.heap.size, 0, none⟩) 2 _ [(0, 1), (1, 9000)] 0 0 false t 22 0 0 0 (chk_e) _ (small_le (by decide)) (by decide) (((S3.out.step (below_alloc1 w3 _)).other (Ranges.two (heap_alloc_new w3 _)) (fun _ _ _ e => by cases e; exact Nat.ne_of_gt S3.out.lt)).put 5 ((.slice (some ⟨w3.heap.size, 0, none⟩) 2 2))).rng (HG.out.below (((S3.out.step (below_alloc1 w3 _)).other (Ranges.two (heap_alloc_new w3 _)) (fun _ _ _ e => by cases e; exact Nat.ne_of_gt S3.out.lt)).put 5 ((.slice (some ⟨w3.heap.size, 0, none⟩) 2 2))).below) (by rw [opE_past (by omega) (by decide) good23, if_neg (by simp [extraB, isE]), if_neg (by decide), if_neg (by decide)]; rfl)).mono ?_
      rintro e w4 ⟨rfl, hb⟩
      have hS4 : St w w4 B #[.int .i64 2, .int .i64 3, .int .i64 2, .int .i64 0, .string ⟨#[]⟩, (.slice (some ⟨w3.heap.size, 0, none⟩) 2 2), .int .i64 0, .int .i64 0, .bool false] (some ⟨w3.heap.size, 0, none⟩) 2 [(0, 1), (1, 9000)] := (((S3.out.step (below_alloc1 w3 _)).other (Ranges.two (heap_alloc_new w3 _)) (fun _ _ _ e => by cases e; exact Nat.ne_of_gt S3.out.lt)).put 5 ((.slice (some ⟨w3.heap.size, 0, none⟩) 2 2))).step hb
      have S4 := Lib.hid hS4
      clear hb hS4 c0 c1 c2 c3 c4 c5 c6 c7 c8 f0 f1 f2 f3 f4 f5 f6 f7 f8 S3
      obtain ⟨c0, c1, c2, c3, c4, c5, c6, c7, c8⟩ := S4.out.nine
      obtain ⟨f0, f1, f2, f3, f4, f5, f6, f7, f8⟩ := S4.out.fz
      clear d0 d1 d2 d3 d4 d5 d6 d7 d8
      have d0 := fun o => cell_below (below_alloc1 w4 o) c0
      have d1 := fun o => cell_below (below_alloc1 w4 o) c1
      have d2 := fun o => cell_below (below_alloc1 w4 o) c2
      have d3 := fun o => cell_below (below_alloc1 w4 o) c3
      have d4 := fun o => cell_below (below_alloc1 w4 o) c4
      have d5 := fun o => cell_below (below_alloc1 w4 o) c5
      have d6 := fun o => cell_below (below_alloc1 w4 o) c6
      have d7 := fun o => cell_below (below_alloc1 w4 o) c7
      have d8 := fun o => cell_below (below_alloc1 w4 o) c8
      go_wp2_with fail
      refine (asked_any 2 3 2 0 ⟨#[]⟩ (some ⟨w4.heap.size, 0, none⟩) 1 _ [(3, 3)] 0 0 false t 20 0 0 0 (chk_e) _ (small_le (by decide)) (by decide) (((S4.out.step (below_alloc1 w4 _)).other (Ranges.one (heap_alloc_new w4 _)) (fun _ _ _ e => by cases e; exact Nat.ne_of_gt S4.out.lt)).put 5 ((.slice (some ⟨w4.heap.size, 0, none⟩) 1 1))).rng (HG.out.below (((S4.out.step (below_alloc1 w4 _)).other (Ranges.one (heap_alloc_new w4 _)) (fun _ _ _ e => by cases e; exact Nat.ne_of_gt S4.out.lt)).put 5 ((.slice (some ⟨w4.heap.size, 0, none⟩) 1 1))).below) (by rw [opE_past (by omega) (by decide) good23, if_neg (by simp [extraB, isE]), if_neg (by decide), if_neg (by decide)]; rfl)).mono ?_
      rintro e w5 ⟨rfl, hb⟩
      have hS5 : St w w5 B #[.int .i64 2, .int .i64 3, .int .i64 2, .int .i64 0, .string ⟨#[]⟩, (.slice (some ⟨w4.heap.size, 0, none⟩) 1 1), .int .i64 0, .int .i64 0, .bool false] (some ⟨w4.heap.size, 0, none⟩) 1 [(3, 3)] := (((S4.out.step (below_alloc1 w4 _)).other (Ranges.one (heap_alloc_new w4 _)) (fun _ _ _ e => by cases e; exact Nat.ne_of_gt S4.out.lt)).put 5 ((.slice (some ⟨w4.heap.size, 0, none⟩) 1 1))).step hb
      have S5 := Lib.hid hS5
      clear hb hS5 c0 c1 c2 c3 c4 c5 c6 c7 c8 f0 f1 f2 f3 f4 f5 f6 f7 f8 S4
      obtain ⟨c0, c1, c2, c3, c4, c5, c6, c7, c8⟩ := S5.out.nine
      obtain ⟨f0, f1, f2, f3, f4, f5, f6, f7, f8⟩ := S5.out.fz
      clear d0 d1 d2 d3 d4 d5 d6 d7 d8
      go_wp2_with fail
      refine (asked_any 2 3 2 0 ⟨#[]⟩ none 0 _ [] 0 0 false t 43 0 0 0 (chk_e) _ (small_le (by decide)) (by decide) ((S5.out.other (Ranges.none w5 none) (fun h => absurd h (by decide))).put 5 ((.slice none 0 0))).rng (HG.out.below ((S5.out.other (Ranges.none w5 none) (fun h => absurd h (by decide))).put 5 ((.slice none 0 0))).below) (by rw [opE_past (by omega) (by decide) good23, if_neg (by simp [extraB, isE]), if_neg (by decide), if_neg (by decide)]; rfl)).mono ?_
      rintro e w6 ⟨rfl, hb⟩
      have hS6 : St w w6 B #[.int .i64 2, .int .i64 3, .int .i64 2, .int .i64 0, .string ⟨#[]⟩, (.slice none 0 0), .int .i64 0, .int .i64 0, .bool false] none 0 [] := ((S5.out.other (Ranges.none w5 none) (fun h => absurd h (by decide))).put 5 ((.slice none 0 0))).step hb
      have S6 := Lib.hid hS6
      clear hb hS6 c0 c1 c2 c3 c4 c5 c6 c7 c8 f0 f1 f2 f3 f4 f5 f6 f7 f8 S5
      obtain ⟨c0, c1, c2, c3, c4, c5, c6, c7, c8⟩ := S6.out.nine
      obtain ⟨f0, f1, f2, f3, f4, f5, f6, f7, f8⟩ := S6.out.fz
      go_wp2_with fail
      go_meet
      exact ⟨2, 0, ⟨#[97]⟩, none, 0, 0, [], 0, 0, false, 1, 0, 0, (S6.out.put 4 (.string ⟨#[97]⟩)), by decide, small_le (by decide), chk_a, by decide, by simp [extraB, isA]⟩
    · clear HD HSZ HN
      go_wp2_with fail
      refine (asked_any 2 3 3 0 ⟨#[]⟩ A 1 _ [(0, 1)] 0 0 false 0 12 0 0 0 (chk_e) _ (small_le (by decide)) (by decide) S2.out.rng (HG.out.below S2.out.below) (by rw [opE_past (by omega) (by decide) good23, if_neg (by simp [extraB, isE]), if_neg (by decide), if_neg (by decide)]; unfold rngE; rw [if_neg (by simp), show spanE none [(0, 1)] = 0 from by decide, if_neg (by decide), if_pos (by simp; try omega)])).mono ?_
      rintro e w3 ⟨rfl, hb⟩
      have hS3 : St w w3 B #[.int .i64 2, .int .i64 3, .int .i64 3, .int .i64 0, .string ⟨#[]⟩, (.slice A 1 sm), .int .i64 0, .int .i64 0, .bool false] A 1 [(0, 1)] := S2.out.step hb
      have S3 := Lib.hid hS3
      clear hb hS3 c0 c1 c2 c3 c4 c5 c6 c7 c8 f0 f1 f2 f3 f4 f5 f6 f7 f8 S2
      obtain ⟨c0, c1, c2, c3, c4, c5, c6, c7, c8⟩ := S3.out.nine
      obtain ⟨f0, f1, f2, f3, f4, f5, f6, f7, f8⟩ := S3.out.fz
      have d0 := fun o => cell_below (below_alloc1 w3 o) c0
      have d1 := fun o => cell_below (below_alloc1 w3 o) c1
      have d2 := fun o => cell_below (below_alloc1 w3 o) c2
      have d3 := fun o => cell_below (below_alloc1 w3 o) c3
      have d4 := fun o => cell_below (below_alloc1 w3 o) c4
      have d5 := fun o => cell_below (below_alloc1 w3 o) c5
      have d6 := fun o => cell_below (below_alloc1 w3 o) c6
      have d7 := fun o => cell_below (below_alloc1 w3 o) c7
      have d8 := fun o => cell_below (below_alloc1 w3 o) c8
      go_wp2_with fail
      refine (asked_any 2 3 3 0 ⟨#[]⟩ (some ⟨w3.heap.size, 0, none⟩) 2 _ [(0, 1), (1, 9000)] 0 0 false t 22 0 0 0 (chk_e) _ (small_le (by decide)) (by decide) (((S3.out.step (below_alloc1 w3 _)).other (Ranges.two (heap_alloc_new w3 _)) (fun _ _ _ e => by cases e; exact Nat.ne_of_gt S3.out.lt)).put 5 ((.slice (some ⟨w3.heap.size, 0, none⟩) 2 2))).rng (HG.out.below (((S3.out.step (below_alloc1 w3 _)).other (Ranges.two (heap_alloc_new w3 _)) (fun _ _ _ e => by cases e; exact Nat.ne_of_gt S3.out.lt)).put 5 ((.slice (some ⟨w3.heap.size, 0, none⟩) 2 2))).below) (by rw [opE_past (by omega) (by decide) good23, if_neg (by simp [extraB, isE]), if_neg (by decide), if_neg (by decide)]; rfl)).mono ?_
      rintro e w4 ⟨rfl, hb⟩
      have hS4 : St w w4 B #[.int .i64 2, .int .i64 3, .int .i64 3, .int .i64 0, .string ⟨#[]⟩, (.slice (some ⟨w3.heap.size, 0, none⟩) 2 2), .int .i64 0, .int .i64 0, .bool false] (some ⟨w3.heap.size, 0, none⟩) 2 [(0, 1), (1, 9000)] := (((S3.out.step (below_alloc1 w3 _)).other (Ranges.two (heap_alloc_new w3 _)) (fun _ _ _ e => by cases e; exact Nat.ne_of_gt S3.out.lt)).put 5 ((.slice (some ⟨w3.heap.size, 0, none⟩) 2 2))).step hb
      have S4 := Lib.hid hS4
      clear hb hS4 c0 c1 c2 c3 c4 c5 c6 c7 c8 f0 f1 f2 f3 f4 f5 f6 f7 f8 S3
      obtain ⟨c0, c1, c2, c3, c4, c5, c6, c7, c8⟩ := S4.out.nine
      obtain ⟨f0, f1, f2, f3, f4, f5, f6, f7, f8⟩ := S4.out.fz
      clear d0 d1 d2 d3 d4 d5 d6 d7 d8
      have d0 := fun o => cell_below (below_alloc1 w4 o) c0
      have d1 := fun o => cell_below (below_alloc1 w4 o) c1
      have d2 := fun o => cell_below (below_alloc1 w4 o) c2
      have d3 := fun o => cell_below (below_alloc1 w4 o) c3
      have d4 := fun o => cell_below (below_alloc1 w4 o) c4
      have d5 := fun o => cell_below (below_alloc1 w4 o) c5
      have d6 := fun o => cell_below (below_alloc1 w4 o) c6
      have d7 := fun o => cell_below (below_alloc1 w4 o) c7
      have d8 := fun o => cell_below (below_alloc1 w4 o) c8
      go_wp2_with fail
      refine (asked_any 2 3 3 0 ⟨#[]⟩ (some ⟨w4.heap.size, 0, none⟩) 1 _ [(3, 3)] 0 0 false t 20 0 0 0 (chk_e) _ (small_le (by decide)) (by decide) (((S4.out.step (below_alloc1 w4 _)).other (Ranges.one (heap_alloc_new w4 _)) (fun _ _ _ e => by cases e; exact Nat.ne_of_gt S4.out.lt)).put 5 ((.slice (some ⟨w4.heap.size, 0, none⟩) 1 1))).rng (HG.out.below (((S4.out.step (below_alloc1 w4 _)).other (Ranges.one (heap_alloc_new w4 _)) (fun _ _ _ e => by cases e; exact Nat.ne_of_gt S4.out.lt)).put 5 ((.slice (some ⟨w4.heap.size, 0, none⟩) 1 1))).below) (by rw [opE_past (by omega) (by decide) good23, if_neg (by simp [extraB, isE]), if_neg (by decide), if_neg (by decide)]; rfl)).mono ?_
      rintro e w5 ⟨rfl, hb⟩
      have hS5 : St w w5 B #[.int .i64 2, .int .i64 3, .int .i64 3, .int .i64 0, .string ⟨#[]⟩, (.slice (some ⟨w4.heap.size, 0, none⟩) 1 1), .int .i64 0, .int .i64 0, .bool false] (some ⟨w4.heap.size, 0, none⟩) 1 [(3, 3)] := (((S4.out.step (below_alloc1 w4 _)).other (Ranges.one (heap_alloc_new w4 _)) (fun _ _ _ e => by cases e; exact Nat.ne_of_gt S4.out.lt)).put 5 ((.slice (some ⟨w4.heap.size, 0, none⟩) 1 1))).step hb
      have S5 := Lib.hid hS5
      clear hb hS5 c0 c1 c2 c3 c4 c5 c6 c7 c8 f0 f1 f2 f3 f4 f5 f6 f7 f8 S4
      obtain ⟨c0, c1, c2, c3, c4, c5, c6, c7, c8⟩ := S5.out.nine
      obtain ⟨f0, f1, f2, f3, f4, f5, f6, f7, f8⟩ := S5.out.fz
      clear d0 d1 d2 d3 d4 d5 d6 d7 d8
      go_wp2_with fail
      refine (asked_any 2 3 3 0 ⟨#[]⟩ none 0 _ [] 0 0 false t 43 0 0 0 (chk_e) _ (small_le (by decide)) (by decide) ((S5.out.other (Ranges.none w5 none) (fun h => absurd h (by decide))).put 5 ((.slice none 0 0))).rng (HG.out.below ((S5.out.other (Ranges.none w5 none) (fun h => absurd h (by decide))).put 5 ((.slice none 0 0))).below) (by rw [opE_past (by omega) (by decide) good23, if_neg (by simp [extraB, isE]), if_neg (by decide), if_neg (by decide)]; rfl)).mono ?_
      rintro e w6 ⟨rfl, hb⟩
      have hS6 : St w w6 B #[.int .i64 2, .int .i64 3, .int .i64 3, .int .i64 0, .string ⟨#[]⟩, (.slice none 0 0), .int .i64 0, .int .i64 0, .bool false] none 0 [] := ((S5.out.other (Ranges.none w5 none) (fun h => absurd h (by decide))).put 5 ((.slice none 0 0))).step hb
      have S6 := Lib.hid hS6
      clear hb hS6 c0 c1 c2 c3 c4 c5 c6 c7 c8 f0 f1 f2 f3 f4 f5 f6 f7 f8 S5
      obtain ⟨c0, c1, c2, c3, c4, c5, c6, c7, c8⟩ := S6.out.nine
      obtain ⟨f0, f1, f2, f3, f4, f5, f6, f7, f8⟩ := S6.out.fz
      go_wp2_with fail
      go_meet
      exact ⟨3, 0, ⟨#[97]⟩, none, 0, 0, [], 0, 0, false, 1, 0, 0, (S6.out.put 4 (.string ⟨#[97]⟩)), by decide, small_le (by decide), chk_a, by decide, by simp [extraB, isA]⟩
    · clear HD HSZ HN
      go_wp2_with fail
      refine (asked_any 2 3 4 0 ⟨#[]⟩ A 0 _ [] 2 3 false t 63 0 0 0 (chk_e) _ (small_le (by decide)) (by decide) ((S2.out.put 6 (.int .i64 2)).put 7 (.int .i64 3)).rng (HG.out.below ((S2.out.put 6 (.int .i64 2)).put 7 (.int .i64 3)).below) (by rw [opE_past (by omega) (by decide) good23, if_neg (by simp [extraB, isE]), if_neg (by decide), if_pos (by decide)]; decide)).mono ?_
      rintro e w3 ⟨rfl, hb⟩
      have hS3 : St w w3 B #[.int .i64 2, .int .i64 3, .int .i64 4, .int .i64 0, .string ⟨#[]⟩, (.slice A 0 sm), .int .i64 2, .int .i64 3, .bool false] A 0 [] := ((S2.out.put 6 (.int .i64 2)).put 7 (.int .i64 3)).step hb
      have S3 := Lib.hid hS3
      clear hb hS3 c0 c1 c2 c3 c4 c5 c6 c7 c8 f0 f1 f2 f3 f4 f5 f6 f7 f8 S2
      obtain ⟨c0, c1, c2, c3, c4, c5, c6, c7, c8⟩ := S3.out.nine
      obtain ⟨f0, f1, f2, f3, f4, f5, f6, f7, f8⟩ := S3.out.fz
      go_wp2_with fail
      refine (asked_any 2 3 4 0 ⟨#[]⟩ A 0 _ [] 0 0 false t 63 0 0 0 (chk_e) _ (small_le (by decide)) (by decide) ((S3.out.put 6 (.int .i64 0)).put 7 (.int .i64 0)).rng (HG.out.below ((S3.out.put 6 (.int .i64 0)).put 7 (.int .i64 0)).below) (by rw [opE_past (by omega) (by decide) good23, if_neg (by simp [extraB, isE]), if_neg (by decide), if_pos (by decide)]; decide)).mono ?_
      rintro e w4 ⟨rfl, hb⟩
      have hS4 : St w w4 B #[.int .i64 2, .int .i64 3, .int .i64 4, .int .i64 0, .string ⟨#[]⟩, (.slice A 0 sm), .int .i64 0, .int .i64 0, .bool false] A 0 [] := ((S3.out.put 6 (.int .i64 0)).put 7 (.int .i64 0)).step hb
      have S4 := Lib.hid hS4
      clear hb hS4 c0 c1 c2 c3 c4 c5 c6 c7 c8 f0 f1 f2 f3 f4 f5 f6 f7 f8 S3
      obtain ⟨c0, c1, c2, c3, c4, c5, c6, c7, c8⟩ := S4.out.nine
      obtain ⟨f0, f1, f2, f3, f4, f5, f6, f7, f8⟩ := S4.out.fz
      go_wp2_with fail
      go_meet
      exact ⟨4, 1, ⟨#[]⟩, A, 0, sm, [], 0, 0, false, 0, 0, 0, (S4.out.put 3 (.int .i64 1)), by decide, small_le (by decide), chk_e, by decide, by simp [extraB]⟩
  case rest =>
    clear HD HSZ HN S2 c0 c1 c2 c3 c4 c5 c6 c7 c8 f0 f1 f2 f3 f4 f5 f6 f7 f8 hk
    obtain ⟨kd, a2, tx2, A2, sn2, sm2, rs2, t02, t12, on2, k2, ps2, er2, hS, hn, hsz, hck, hkd, hx⟩ := hcut
    have S3 := Lib.hid hS
    have HX := Lib.hid hx
    have HKD := Lib.hid hkd
    have HCK := Lib.hid hck
    have HSZ := Lib.hid hsz
    have HN := Lib.hid hn
    clear hS hn hsz hck hkd hx
    obtain ⟨c0, c1, c2, c3, c4, c5, c6, c7, c8⟩ := S3.out.nine
    obtain ⟨f0, f1, f2, f3, f4, f5, f6, f7, f8⟩ := S3.out.fz
    go_wp2_with fail
    refine (asked_any 2 3 kd a2 tx2 A2 sn2 _ rs2 t02 t12 on2 t 42 k2 ps2 er2 (HCK.out) _ (HSZ.out) (HN.out) S3.out.rng (HG.out.below S3.out.below) (opE_extra (by omega) HKD.out good23 HX.out)).mono ?_
    rintro e w4 ⟨rfl, hb⟩
    have hS4 : St w w4 B #[.int .i64 2, .int .i64 3, .int .i64 kd, .int .i64 a2, .string tx2, (.slice A2 sn2 sm2), .int .i64 t02, .int .i64 t12, .bool on2] A2 sn2 rs2 := S3.out.step hb
    have S4 := Lib.hid hS4
    clear hb hS4 c0 c1 c2 c3 c4 c5 c6 c7 c8 f0 f1 f2 f3 f4 f5 f6 f7 f8 S3
    obtain ⟨c0, c1, c2, c3, c4, c5, c6, c7, c8⟩ := S4.out.nine
    obtain ⟨f0, f1, f2, f3, f4, f5, f6, f7, f8⟩ := S4.out.fz
    go_upto_region 40 with fail
    go_cut [10] (fun g wx => g = .bool (goodB c n) ∧ St w wx B #[.int .i64 c, .int .i64 n, .int .i64 kd, .int .i64 a2, .string tx2, (.slice A2 sn2 sm2), .int .i64 t02, .int .i64 t12, .bool on2] A2 sn2 rs2)
    case first =>
      have HST := Lib.hid (show St w _ B #[.int .i64 c, .int .i64 n, .int .i64 kd, .int .i64 a2, .string tx2, (.slice A2 sn2 sm2), .int .i64 t02, .int .i64 t12, .bool on2] A2 sn2 rs2 from ((S4.out.put 0 (.int .i64 c)).put 1 (.int .i64 n)))
      clear c0 c1 c2 c3 c4 c5 c6 c7 c8 f0 f1 f2 f3 f4 f5 f6 f7 f8
      by_cases g1 : c = 0
      · have b1 : (c == 0) = true := by simp [g1]
        have G1 := Lib.hid g1
        clear g1
        by_cases g2 : n = 0
        · have b2 : (n == 0) = true := by simp [g2]
          have G2 := Lib.hid g2
          clear g2
          go_wp2_with fail
          go_meet
          exact ⟨by unfold goodB idB; simp [G1.out, G2.out], HST.out⟩
        · have b2 : (n == 0) = false := by simp [g2]
          have b3 : ¬ 1 ≤ c := by have := G1.out; omega
          have G2 := Lib.hid g2
          clear g2
          go_wp2_with fail
          go_meet
          exact ⟨by unfold goodB idB; simp [G1.out, G2.out], HST.out⟩
      have b1 : (c == 0) = false := by simp [g1]
      have G1 := Lib.hid g1
      clear g1
      by_cases g3 : 1 ≤ c
      · by_cases g4 : c ≤ 8
        · by_cases g5 : 1 ≤ n
          · by_cases g6 : n ≤ 1024
            · go_wp2_with fail
              go_meet
              exact ⟨by unfold goodB idB; simp [G1.out, g3, g4, g5, g6], HST.out⟩
            · go_wp2_with fail
              go_meet
              exact ⟨by unfold goodB idB; simp [G1.out, g3, g4, g5]; omega, HST.out⟩
          · go_wp2_with fail
            go_meet
            exact ⟨by unfold goodB idB; simp [G1.out, g3, g4]; omega, HST.out⟩
        · go_wp2_with fail
          go_meet
          exact ⟨by unfold goodB idB; simp [G1.out, g3]; omega, HST.out⟩
      · go_wp2_with fail
        go_meet
        exact ⟨by unfold goodB idB; simp [G1.out]; omega, HST.out⟩
    case rest =>
      obtain ⟨rfl, hS⟩ := hcut
      have S5 := Lib.hid hS
      clear hS S4 c0 c1 c2 c3 c4 c5 c6 c7 c8 f0 f1 f2 f3 f4 f5 f6 f7 f8
      rcases Bool.eq_false_or_eq_true (goodB c n) with hgd | hgd
      · have HGD := Lib.hid hgd
        obtain ⟨c0, c1, c2, c3, c4, c5, c6, c7, c8⟩ := S5.out.nine
        obtain ⟨f0, f1, f2, f3, f4, f5, f6, f7, f8⟩ := S5.out.fz
        go_wp2_with fail
        refine (asked_any c n kd a2 tx2 A2 sn2 _ rs2 t02 t12 on2 t 42 k2 ps2 er2 (HCK.out) _ (HSZ.out) (HN.out) S5.out.rng (HG.out.below S5.out.below) (opE_extra (by omega) HKD.out hgd HX.out)).mono ?_
        rintro e w6 ⟨rfl, hb⟩
        have hS6 : St w w6 B #[.int .i64 c, .int .i64 n, .int .i64 kd, .int .i64 a2, .string tx2, (.slice A2 sn2 sm2), .int .i64 t02, .int .i64 t12, .bool on2] A2 sn2 rs2 := S5.out.step hb
        have S6 := Lib.hid hS6
        clear hb hS6 c0 c1 c2 c3 c4 c5 c6 c7 c8 f0 f1 f2 f3 f4 f5 f6 f7 f8 S5
        obtain ⟨c0, c1, c2, c3, c4, c5, c6, c7, c8⟩ := S6.out.nine
        obtain ⟨f0, f1, f2, f3, f4, f5, f6, f7, f8⟩ := S6.out.fz
        go_wp2_with fail
        refine (asked_any c n 0 a2 tx2 A2 sn2 _ rs2 t02 t12 on2 t 40 k2 ps2 er2 (HCK.out) _ (HSZ.out) (HN.out) (S6.out.put 2 (.int .i64 0)).rng (HG.out.below (S6.out.put 2 (.int .i64 0)).below) (opE_kind (by omega) (.inl (by decide)))).mono ?_
        rintro e w7 ⟨rfl, hb⟩
        have hS7 : St w w7 B #[.int .i64 c, .int .i64 n, .int .i64 0, .int .i64 a2, .string tx2, (.slice A2 sn2 sm2), .int .i64 t02, .int .i64 t12, .bool on2] A2 sn2 rs2 := (S6.out.put 2 (.int .i64 0)).step hb
        have S7 := Lib.hid hS7
        clear hb hS7 c0 c1 c2 c3 c4 c5 c6 c7 c8 f0 f1 f2 f3 f4 f5 f6 f7 f8 S6
        obtain ⟨c0, c1, c2, c3, c4, c5, c6, c7, c8⟩ := S7.out.nine
        obtain ⟨f0, f1, f2, f3, f4, f5, f6, f7, f8⟩ := S7.out.fz
        go_wp2_with fail
        refine (asked_any c n 5 a2 tx2 A2 sn2 _ rs2 t02 t12 on2 t 40 k2 ps2 er2 (HCK.out) _ (HSZ.out) (HN.out) (S7.out.put 2 (.int .i64 5)).rng (HG.out.below (S7.out.put 2 (.int .i64 5)).below) (opE_kind (by omega) (.inr (by decide)))).mono ?_
        rintro e w8 ⟨rfl, hb⟩
        have hS8 : St w w8 B #[.int .i64 c, .int .i64 n, .int .i64 5, .int .i64 a2, .string tx2, (.slice A2 sn2 sm2), .int .i64 t02, .int .i64 t12, .bool on2] A2 sn2 rs2 := (S7.out.put 2 (.int .i64 5)).step hb
        have S8 := Lib.hid hS8
        clear hb hS8 c0 c1 c2 c3 c4 c5 c6 c7 c8 f0 f1 f2 f3 f4 f5 f6 f7 f8 S7
        obtain ⟨c0, c1, c2, c3, c4, c5, c6, c7, c8⟩ := S8.out.nine
        obtain ⟨f0, f1, f2, f3, f4, f5, f6, f7, f8⟩ := S8.out.fz
        go_wp2_with fail
        refine (asked_any c n 5 a2 tx2 A2 sn2 _ rs2 t02 t12 on2 (-1) 12 k2 ps2 er2 (HCK.out) _ (HSZ.out) (HN.out) S8.out.rng (HG.out.below S8.out.below) (opE_total (.inl (by decide)))).mono ?_
        rintro e w9 ⟨rfl, hb⟩
        have hS9 : St w w9 B #[.int .i64 c, .int .i64 n, .int .i64 5, .int .i64 a2, .string tx2, (.slice A2 sn2 sm2), .int .i64 t02, .int .i64 t12, .bool on2] A2 sn2 rs2 := S8.out.step hb
        have S9 := Lib.hid hS9
        clear hb hS9 c0 c1 c2 c3 c4 c5 c6 c7 c8 f0 f1 f2 f3 f4 f5 f6 f7 f8 S8
        obtain ⟨c0, c1, c2, c3, c4, c5, c6, c7, c8⟩ := S9.out.nine
        obtain ⟨f0, f1, f2, f3, f4, f5, f6, f7, f8⟩ := S9.out.fz
        go_wp2_with fail
        refine (asked_any c n 5 a2 tx2 A2 sn2 _ rs2 t02 t12 on2 1048577 12 k2 ps2 er2 (HCK.out) _ (HSZ.out) (HN.out) S9.out.rng (HG.out.below S9.out.below) (opE_total (.inr (by decide)))).mono ?_
        rintro e w10 ⟨rfl, hb⟩
        have hS10 : St w w10 B #[.int .i64 c, .int .i64 n, .int .i64 5, .int .i64 a2, .string tx2, (.slice A2 sn2 sm2), .int .i64 t02, .int .i64 t12, .bool on2] A2 sn2 rs2 := S9.out.step hb
        have S10 := Lib.hid hS10
        clear hb hS10 c0 c1 c2 c3 c4 c5 c6 c7 c8 f0 f1 f2 f3 f4 f5 f6 f7 f8 S9
        obtain ⟨c0, c1, c2, c3, c4, c5, c6, c7, c8⟩ := S10.out.nine
        obtain ⟨f0, f1, f2, f3, f4, f5, f6, f7, f8⟩ := S10.out.fz
        go_wp2_with fail
        go_ret
        exact ⟨rfl, S10.out.below⟩
      · have HGD := Lib.hid hgd
        obtain ⟨c0, c1, c2, c3, c4, c5, c6, c7, c8⟩ := S5.out.nine
        obtain ⟨f0, f1, f2, f3, f4, f5, f6, f7, f8⟩ := S5.out.fz
        go_wp2_with fail
        refine (asked_any c n kd a2 tx2 A2 sn2 _ rs2 t02 t12 on2 t 41 k2 ps2 er2 (HCK.out) _ (HSZ.out) (HN.out) S5.out.rng (HG.out.below S5.out.below) (opE_id (by omega) HKD.out hgd)).mono ?_
        rintro e w6 ⟨rfl, hb⟩
        have hS6 : St w w6 B #[.int .i64 c, .int .i64 n, .int .i64 kd, .int .i64 a2, .string tx2, (.slice A2 sn2 sm2), .int .i64 t02, .int .i64 t12, .bool on2] A2 sn2 rs2 := S5.out.step hb
        have S6 := Lib.hid hS6
        clear hb hS6 c0 c1 c2 c3 c4 c5 c6 c7 c8 f0 f1 f2 f3 f4 f5 f6 f7 f8 S5
        obtain ⟨c0, c1, c2, c3, c4, c5, c6, c7, c8⟩ := S6.out.nine
        obtain ⟨f0, f1, f2, f3, f4, f5, f6, f7, f8⟩ := S6.out.fz
        go_wp2_with fail
        refine (asked_any c n 0 a2 tx2 A2 sn2 _ rs2 t02 t12 on2 t 40 k2 ps2 er2 (HCK.out) _ (HSZ.out) (HN.out) (S6.out.put 2 (.int .i64 0)).rng (HG.out.below (S6.out.put 2 (.int .i64 0)).below) (opE_kind (by omega) (.inl (by decide)))).mono ?_
        rintro e w7 ⟨rfl, hb⟩
        have hS7 : St w w7 B #[.int .i64 c, .int .i64 n, .int .i64 0, .int .i64 a2, .string tx2, (.slice A2 sn2 sm2), .int .i64 t02, .int .i64 t12, .bool on2] A2 sn2 rs2 := (S6.out.put 2 (.int .i64 0)).step hb
        have S7 := Lib.hid hS7
        clear hb hS7 c0 c1 c2 c3 c4 c5 c6 c7 c8 f0 f1 f2 f3 f4 f5 f6 f7 f8 S6
        obtain ⟨c0, c1, c2, c3, c4, c5, c6, c7, c8⟩ := S7.out.nine
        obtain ⟨f0, f1, f2, f3, f4, f5, f6, f7, f8⟩ := S7.out.fz
        go_wp2_with fail
        refine (asked_any c n 5 a2 tx2 A2 sn2 _ rs2 t02 t12 on2 t 40 k2 ps2 er2 (HCK.out) _ (HSZ.out) (HN.out) (S7.out.put 2 (.int .i64 5)).rng (HG.out.below (S7.out.put 2 (.int .i64 5)).below) (opE_kind (by omega) (.inr (by decide)))).mono ?_
        rintro e w8 ⟨rfl, hb⟩
        have hS8 : St w w8 B #[.int .i64 c, .int .i64 n, .int .i64 5, .int .i64 a2, .string tx2, (.slice A2 sn2 sm2), .int .i64 t02, .int .i64 t12, .bool on2] A2 sn2 rs2 := (S7.out.put 2 (.int .i64 5)).step hb
        have S8 := Lib.hid hS8
        clear hb hS8 c0 c1 c2 c3 c4 c5 c6 c7 c8 f0 f1 f2 f3 f4 f5 f6 f7 f8 S7
        obtain ⟨c0, c1, c2, c3, c4, c5, c6, c7, c8⟩ := S8.out.nine
        obtain ⟨f0, f1, f2, f3, f4, f5, f6, f7, f8⟩ := S8.out.fz
        go_wp2_with fail
        refine (asked_any c n 5 a2 tx2 A2 sn2 _ rs2 t02 t12 on2 (-1) 12 k2 ps2 er2 (HCK.out) _ (HSZ.out) (HN.out) S8.out.rng (HG.out.below S8.out.below) (opE_total (.inl (by decide)))).mono ?_
        rintro e w9 ⟨rfl, hb⟩
        have hS9 : St w w9 B #[.int .i64 c, .int .i64 n, .int .i64 5, .int .i64 a2, .string tx2, (.slice A2 sn2 sm2), .int .i64 t02, .int .i64 t12, .bool on2] A2 sn2 rs2 := S8.out.step hb
        have S9 := Lib.hid hS9
        clear hb hS9 c0 c1 c2 c3 c4 c5 c6 c7 c8 f0 f1 f2 f3 f4 f5 f6 f7 f8 S8
        obtain ⟨c0, c1, c2, c3, c4, c5, c6, c7, c8⟩ := S9.out.nine
        obtain ⟨f0, f1, f2, f3, f4, f5, f6, f7, f8⟩ := S9.out.fz
        go_wp2_with fail
        refine (asked_any c n 5 a2 tx2 A2 sn2 _ rs2 t02 t12 on2 1048577 12 k2 ps2 er2 (HCK.out) _ (HSZ.out) (HN.out) S9.out.rng (HG.out.below S9.out.below) (opE_total (.inr (by decide)))).mono ?_
        rintro e w10 ⟨rfl, hb⟩
        have hS10 : St w w10 B #[.int .i64 c, .int .i64 n, .int .i64 5, .int .i64 a2, .string tx2, (.slice A2 sn2 sm2), .int .i64 t02, .int .i64 t12, .bool on2] A2 sn2 rs2 := S9.out.step hb
        have S10 := Lib.hid hS10
        clear hb hS10 c0 c1 c2 c3 c4 c5 c6 c7 c8 f0 f1 f2 f3 f4 f5 f6 f7 f8 S9
        obtain ⟨c0, c1, c2, c3, c4, c5, c6, c7, c8⟩ := S10.out.nine
        obtain ⟨f0, f1, f2, f3, f4, f5, f6, f7, f8⟩ := S10.out.fz
        go_wp2_with fail
        go_ret
        exact ⟨rfl, S10.out.below⟩
end Go.Proofs.YtiagimmdohpddabDoor.O
