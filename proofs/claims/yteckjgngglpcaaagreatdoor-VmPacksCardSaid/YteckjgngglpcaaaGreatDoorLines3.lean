/-
  Two lines in their order.
-/
import Derived.Test.YteckjgngglpcaaaGreatDoorLines2
import Derived.Test.YteckjgngglpcaaaGreatDoorVm
namespace Go.Proofs.YteckjgngglpcaaaGreatDoor
open Go.RowKit

set_option maxRecDepth 100000 in
set_option maxHeartbeats 4000000 in
theorem insertion_f {w : World} {b off k g : Nat} (h : In4 w b off) (hk : 1 ≤ k) (hkm : k ≤ maxLen) (hg : w.heap[g]? = some (.cells #[.slice (some ⟨b, off, none⟩) 1 1, .slice (some ⟨b, off + 2, none⟩) 1 k] 26 (0, 0))) :
    Calls Tryz.prog 87 #[.slice (some ⟨g, 0, none⟩) 2 2, .int .i64 0, .int .i64 2, .func (.func 59) #[] #[]] w fun e w' =>
      e = .returned (.tuple #[]) ∧ w'.heap[g]? = some (.cells #[.slice (some ⟨b, off + 2, none⟩) 1 k, .slice (some ⟨b, off, none⟩) 1 1] 26 (0, 0)) ∧ Vk g w w' := by
  have x0 : w.cell? ⟨g, 0, none⟩ = some (.slice (some ⟨b, off, none⟩) 1 1) := cell_of_row w g 0 _ _ _ hg
  have x1 : w.cell? ⟨g, 1, none⟩ = some (.slice (some ⟨b, off + 2, none⟩) 1 k) := cell_of_row w g 1 _ _ _ hg
  have z0 := frozen_of_row w g 0 _ _ hg
  have z1 := frozen_of_row w g 1 _ _ hg
  have r1 : RdB (fun _ => True) w (.slice (some ⟨b, off, none⟩) 1 1) [98] := In4.one h.c0 (Nat.le_refl _) (by simp only [maxLen]; decide)
  have r2 : RdB (fun _ => True) w (.slice (some ⟨b, off + 2, none⟩) 1 k) [97] := In4.one h.c2 hk hkm
  have Hg := Lib.hid hg
  have w0 : IntKind.i64.wrap 0 = 0 := rfl
  clear h hg hkm
  go_enter Tryz.func87, Tryz.ntmps87
  go_wp2
  refine wp_loop_rounds 2 ?_
  rw [rounds_succ]
  go_wp2
  refine wp_loop_rounds 2 ?_
  rw [rounds_succ]
  go_wp2
  refine wp_region_held_drew (S := fun W => W.cell? ⟨g, 0, none⟩ = some (.slice (some ⟨b, off, none⟩) 1 1) ∧ W.cell? ⟨g, 1, none⟩ = some (.slice (some ⟨b, off + 2, none⟩) 1 k) ∧ W.heap = w.heap) (by kernel_rfl) ⟨x0, x1, rfl⟩ (fun hHeld => ?_)
  change wpAnyH _ _ _ _ _ (16 + 1) _ _ _
  refine wpAnyH_take (i := 0) (oi := ⟨some 18, .move (.tmp 9), _, _, _, none⟩) (v := ?_) rfl (by kernel_rfl) (by kernel_rfl) (by kernel_rfl) (fun _ _ _ h => h) (Or.inl ⟨by rfl, ?_⟩) (by assumption) ?_
  rotate_left
  · intro w hSw; (try dsimp only at hSw); go_simp; try (with_reducible rfl)
  try simp only [Act.put, List.setIfInBounds_toArray, List.set_cons_zero, List.set_cons_succ]
  change wpAnyH _ _ _ _ _ (15 + 1) _ _ _
  refine wpAnyH_take (i := 1) (oi := ⟨some 19, .move (.tmp 1), _, _, _, none⟩) (v := ?_) rfl (by kernel_rfl) (by kernel_rfl) (by kernel_rfl) (fun _ _ _ h => h) (Or.inl ⟨by rfl, ?_⟩) (by assumption) ?_
  rotate_left
  · intro w hSw; (try dsimp only at hSw); go_simp; try (with_reducible rfl)
  try simp only [Act.put, List.setIfInBounds_toArray, List.set_cons_zero, List.set_cons_succ]
  change wpAnyH _ _ _ _ _ (14 + 1) _ _ _
  refine wpAnyH_take (i := 2) (oi := ⟨some 20, .binOp .gtr 3 (.tmp 18) (.tmp 19) 3, _, _, _, none⟩) (v := ?_) rfl (by kernel_rfl) (by kernel_rfl) (by kernel_rfl) (fun _ _ _ h => h) (Or.inl ⟨by rfl, ?_⟩) (by assumption) ?_
  rotate_left
  · intro w hSw; (try dsimp only at hSw); go_simp; try (with_reducible rfl)
  try simp only [Act.put, List.setIfInBounds_toArray, List.set_cons_zero, List.set_cons_succ]
  change wpAnyH _ _ _ _ _ (13 + 1) _ _ _
  refine wpAnyH_take (i := 3) (oi := ⟨some 21, .move (.tmp 20), _, _, _, none⟩) (v := ?_) rfl (by kernel_rfl) (by kernel_rfl) (by kernel_rfl) (fun _ _ _ h => h) (Or.inl ⟨by rfl, ?_⟩) (by assumption) ?_
  rotate_left
  · intro w hSw; (try dsimp only at hSw); go_simp; try (with_reducible rfl)
  try simp only [Act.put, List.setIfInBounds_toArray, List.set_cons_zero, List.set_cons_succ]
  change wpAnyH _ _ _ _ _ (12 + 1) _ _ _
  refine wpAnyH_take (i := 4) (oi := ⟨some 22, .move (.tmp 3), _, _, _, some (3, true)⟩) (v := ?_) rfl (by kernel_rfl) (by kernel_rfl) (by kernel_rfl) (fun _ _ _ h => h) (Or.inl ⟨by rfl, ?_⟩) (by assumption) ?_
  rotate_left
  · intro w hSw; (try dsimp only at hSw); go_simp; try (with_reducible rfl)
  try simp only [Act.put, List.setIfInBounds_toArray, List.set_cons_zero, List.set_cons_succ]
  change wpAnyH _ _ _ _ _ (11 + 1) _ _ _
  refine wpAnyH_take (i := 5) (oi := ⟨some 23, .move (.tmp 0), _, _, _, some (3, true)⟩) (v := ?_) rfl (by kernel_rfl) (by kernel_rfl) (by kernel_rfl) (fun _ _ _ h => h) (Or.inl ⟨by rfl, ?_⟩) (by assumption) ?_
  rotate_left
  · intro w hSw; (try dsimp only at hSw); go_simp; try (with_reducible rfl)
  try simp only [Act.put, List.setIfInBounds_toArray, List.set_cons_zero, List.set_cons_succ]
  change wpAnyH _ _ _ _ _ (10 + 1) _ _ _
  refine wpAnyH_take (i := 6) (oi := ⟨some 24, .move (.tmp 9), _, _, _, some (3, true)⟩) (v := ?_) rfl (by kernel_rfl) (by kernel_rfl) (by kernel_rfl) (fun _ _ _ h => h) (Or.inl ⟨by rfl, ?_⟩) (by assumption) ?_
  rotate_left
  · intro w hSw; (try dsimp only at hSw); go_simp; try (with_reducible rfl)
  try simp only [Act.put, List.setIfInBounds_toArray, List.set_cons_zero, List.set_cons_succ]
  change wpAnyH _ _ _ _ _ (9 + 1) _ _ _
  refine wpAnyH_take (i := 7) (oi := ⟨some 25, .indexAddr 88 (.tmp 23) (.tmp 24), _, _, _, some (3, true)⟩) (v := ?_) rfl (by kernel_rfl) (by kernel_rfl) (by kernel_rfl) (fun _ _ _ h => h) (Or.inl ⟨by rfl, ?_⟩) (by assumption) ?_
  rotate_left
  · intro w hSw; (try dsimp only at hSw); go_simp; try (with_reducible rfl)
  try simp only [Act.put, List.setIfInBounds_toArray, List.set_cons_zero, List.set_cons_succ]
  change wpAnyH _ _ _ _ _ (8 + 1) _ _ _
  refine wpAnyH_take (i := 8) (oi := ⟨some 26, .load 26 (.tmp 25), _, _, _, some (3, true)⟩) (v := ?_) rfl (by kernel_rfl) (by kernel_rfl) (by kernel_rfl) (fun _ _ _ h => h) (Or.inl ⟨by rfl, ?_⟩) (by assumption) ?_
  rotate_left
  · intro w hSw; (try dsimp only at hSw); go_simp; try (with_reducible rfl)
  try simp only [Act.put, List.setIfInBounds_toArray, List.set_cons_zero, List.set_cons_succ]
  change wpAnyH _ _ _ _ _ (7 + 1) _ _ _
  refine wpAnyH_take (i := 9) (oi := ⟨some 27, .move (.tmp 0), _, _, _, some (3, true)⟩) (v := ?_) rfl (by kernel_rfl) (by kernel_rfl) (by kernel_rfl) (fun _ _ _ h => h) (Or.inl ⟨by rfl, ?_⟩) (by assumption) ?_
  rotate_left
  · intro w hSw; (try dsimp only at hSw); go_simp; try (with_reducible rfl)
  try simp only [Act.put, List.setIfInBounds_toArray, List.set_cons_zero, List.set_cons_succ]
  change wpAnyH _ _ _ _ _ (6 + 1) _ _ _
  refine wpAnyH_take (i := 10) (oi := ⟨some 28, .move (.tmp 9), _, _, _, some (3, true)⟩) (v := ?_) rfl (by kernel_rfl) (by kernel_rfl) (by kernel_rfl) (fun _ _ _ h => h) (Or.inl ⟨by rfl, ?_⟩) (by assumption) ?_
  rotate_left
  · intro w hSw; (try dsimp only at hSw); go_simp; try (with_reducible rfl)
  try simp only [Act.put, List.setIfInBounds_toArray, List.set_cons_zero, List.set_cons_succ]
  change wpAnyH _ _ _ _ _ (5 + 1) _ _ _
  refine wpAnyH_take (i := 11) (oi := ⟨some 29, .binOp .sub 3 (.tmp 28) (.const (.int .i64 1)) 3, _, _, _, some (3, true)⟩) (v := ?_) rfl (by kernel_rfl) (by kernel_rfl) (by kernel_rfl) (fun _ _ _ h => h) (Or.inl ⟨by rfl, ?_⟩) (by assumption) ?_
  rotate_left
  · intro w hSw; (try dsimp only at hSw); go_simp; try (with_reducible rfl)
  try simp only [Act.put, List.setIfInBounds_toArray, List.set_cons_zero, List.set_cons_succ]
  change wpAnyH _ _ _ _ _ (4 + 1) _ _ _
  refine wpAnyH_take (i := 12) (oi := ⟨some 30, .indexAddr 88 (.tmp 27) (.tmp 29), _, _, _, some (3, true)⟩) (v := ?_) rfl (by kernel_rfl) (by kernel_rfl) (by kernel_rfl) (fun _ _ _ h => h) (Or.inl ⟨by rfl, ?_⟩) (by assumption) ?_
  rotate_left
  · intro w hSw; (try dsimp only at hSw); go_simp; try (with_reducible rfl)
  try simp only [Act.put, List.setIfInBounds_toArray, List.set_cons_zero, List.set_cons_succ]
  change wpAnyH _ _ _ _ _ (3 + 1) _ _ _
  refine wpAnyH_take (i := 13) (oi := ⟨some 31, .load 26 (.tmp 30), _, _, _, some (3, true)⟩) (v := ?_) rfl (by kernel_rfl) (by kernel_rfl) (by kernel_rfl) (fun _ _ _ h => h) (Or.inl ⟨by rfl, ?_⟩) (by assumption) ?_
  rotate_left
  · intro w hSw; (try dsimp only at hSw); go_simp; try (with_reducible rfl)
  try simp only [Act.put, List.setIfInBounds_toArray, List.set_cons_zero, List.set_cons_succ]
  change wpAnyH _ _ _ _ _ (2 + 1) _ _ _
  refine wpAnyH_ready (rs := [14]) (by kernel_rfl) (by simp) ?_
  refine AllReadyH.cons (o := ⟨some 32, .call { callee := .value (.tmp 22), args := #[.tmp 26, .tmp 31], argTypes := #[26, 26] }, _, _, _, some (3, true)⟩) rfl (fun K hK => ?_) AllReadyH.nil
  go_simp
  refine (compareB_f (w := w.drew) (r2.keeps Keeps.drew) (r1.keeps Keeps.drew)).mono ?_
  rintro e w5 ⟨rfl, rfl⟩
  refine hK.out _ _ hHeld (fun hH2 => ?_)
  clear hK K
  try simp only [Act.put, List.setIfInBounds_toArray, List.set_cons_zero, List.set_cons_succ]
  change wpAnyH _ _ _ _ _ (1 + 1) _ _ _
  refine wpAnyH_take (i := 15) (oi := ⟨some 33, .binOp .lss 3 (.tmp 32) (.const (.int .i64 0)) 3, _, _, _, some (3, true)⟩) (v := ?_) rfl (by kernel_rfl) (by kernel_rfl) (by kernel_rfl) (fun _ _ _ h => h) (Or.inl ⟨by rfl, ?_⟩) (by assumption) ?_
  rotate_left
  · intro w hSw; (try dsimp only at hSw); go_simp; try (with_reducible rfl)
  try simp only [Act.put, List.setIfInBounds_toArray, List.set_cons_zero, List.set_cons_succ]
  change wpAnyH _ _ _ _ _ (0 + 1) _ _ _
  refine wpAnyH_take (i := 16) (oi := ⟨some 34, .pick (.tmp 21) (.tmp 33) (.const (.bool false)), _, _, _, none⟩) (v := ?_) rfl (by kernel_rfl) (by kernel_rfl) (by kernel_rfl) (fun _ _ _ h => h) (Or.inl ⟨by rfl, ?_⟩) (by assumption) ?_
  rotate_left
  · intro w hSw; (try dsimp only at hSw); go_simp; try (with_reducible rfl)
  try simp only [Act.put, List.setIfInBounds_toArray, List.set_cons_zero, List.set_cons_succ]
  refine wpAnyH_done (by kernel_rfl) ?_ _
  clear hHeld hH2
  go_wp2_with fail
  go_region
  go_wp2
  rw [rounds_succ]
  go_wp2
  obtain ⟨W6, hW6⟩ : ∃ W6, W6 = ((w.setCell ⟨g, 1, none⟩ (.slice (some ⟨b, off, none⟩) 1 1)).setCell ⟨g, 0, none⟩ (.slice (some ⟨b, off + 2, none⟩) 1 k)) := ⟨_, rfl⟩
  have hh : W6.heap[g]? = some (.cells #[.slice (some ⟨b, off + 2, none⟩) 1 k, .slice (some ⟨b, off, none⟩) 1 1] 26 (0, 0)) := by
    rw [hW6]
    exact heap_setCell_same _ g 0 _ 26 _ (heap_setCell_same w g 1 _ 26 _ Hg.out)
  have hV : Vk g w W6 := by rw [hW6]; exact Vk.setCell.trans Vk.setCell
  rw [← hW6]
  clear hW6 x0 x1 z0 z1 r1 r2
  have Hh := Lib.hid hh
  clear hh
  go_quiet (fail)
  go_wp2
  rw [rounds_succ]
  go_wp2
  go_end0
  exact ⟨rfl, Hh.out, hV.trans ⟨fun _ _ _ => rfl, Nat.le_refl _, rfl, rfl, rfl⟩⟩

set_option maxRecDepth 100000 in
set_option maxHeartbeats 4000000 in
theorem pdq_f {w : World} {b off k g : Nat} {u : Int} (h : In4 w b off) (hk : 1 ≤ k) (hkm : k ≤ maxLen) (hg : w.heap[g]? = some (.cells #[.slice (some ⟨b, off, none⟩) 1 1, .slice (some ⟨b, off + 2, none⟩) 1 k] 26 (0, 0))) :
    Calls Tryz.prog 70 #[.slice (some ⟨g, 0, none⟩) 2 2, .int .i64 0, .int .i64 2, .int .i64 u, .func (.func 59) #[] #[]] w fun e w' =>
      e = .returned (.tuple #[]) ∧ w'.heap[g]? = some (.cells #[.slice (some ⟨b, off + 2, none⟩) 1 k, .slice (some ⟨b, off, none⟩) 1 1] 26 (0, 0)) ∧ Vk g w w' := by
  have hi := insertion_f h hk hkm hg
  clear h hg hkm
  go_enter Tryz.func70, Tryz.ntmps70
  go_wp2
  refine wp_loop_rounds 1 ?_
  rw [rounds_succ]
  go_wp2_with fail
  refine hi.mono ?_
  rintro e w1 ⟨rfl, hh, hV⟩
  have Hh := Lib.hid hh
  clear hh
  go_wp2
  first | go_end0 | refine bodyPost_ret (results_none rfl _ _ _) rfl ?_
  exact ⟨rfl, Hh.out, hV⟩

set_option maxRecDepth 100000 in
theorem len2_f (w : World) : Calls Tryz.prog 71 #[.int .u64 2] w fun e w' => (∃ n, e = .returned (.int .i64 n)) ∧ w = w' := by
  go_enter Tryz.func71, Tryz.ntmps71
  go_wp2
  go_ret
  exact ⟨⟨_, rfl⟩, rfl⟩

set_option maxRecDepth 100000 in
theorem sort_f {w : World} {b off k g : Nat} (h : In4 w b off) (hk : 1 ≤ k) (hkm : k ≤ maxLen) (hg : w.heap[g]? = some (.cells #[.slice (some ⟨b, off, none⟩) 1 1, .slice (some ⟨b, off + 2, none⟩) 1 k] 26 (0, 0))) :
    Calls Tryz.prog 58 #[.slice (some ⟨g, 0, none⟩) 2 2, .func (.func 59) #[] #[]] w fun e w' =>
      e = .returned (.tuple #[]) ∧ w'.heap[g]? = some (.cells #[.slice (some ⟨b, off + 2, none⟩) 1 k, .slice (some ⟨b, off, none⟩) 1 1] 26 (0, 0)) ∧ Vk g w w' := by
  have hp := fun u => pdq_f (u := u) h hk hkm hg
  clear h hg hkm
  go_enter Tryz.func58, Tryz.ntmps58
  go_wp2_with fail
  refine (len2_f _).mono ?_
  rintro e w1 ⟨⟨n, rfl⟩, rfl⟩
  go_wp2_with fail
  refine (hp n).mono ?_
  rintro e w1 ⟨rfl, hh, hV⟩
  have Hh := Lib.hid hh
  clear hh
  go_wp2
  first | go_end0 | refine bodyPost_ret (results_none rfl _ _ _) rfl ?_
  exact ⟨rfl, Hh.out, hV⟩
end Go.Proofs.YteckjgngglpcaaaGreatDoor
