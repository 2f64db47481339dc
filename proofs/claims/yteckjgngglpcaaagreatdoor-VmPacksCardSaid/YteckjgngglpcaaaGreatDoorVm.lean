/-
  The machine's state in memory; its errors; paying.
-/
import Derived.Test.YteckjgngglpcaaaGreatDoorRead
import Derived.Defers
import Derived.Recover
import Derived.StillTailTactics
namespace Go.Proofs.YteckjgngglpcaaaGreatDoor
open Go.RowKit

/-- A run under way. -/
structure VM where
  t : List Fi
  place : Nat
  used : Nat

/-- Block X holds a run. -/
def Run (X : Nat) (w : World) (fuel : Nat) (s : VM) : Prop :=
  ∃ v, w.heap[X]? = some (.cells #[v, .int .i64 s.place, .int .i64 fuel, .int .i64 s.used] 50 (0, 0)) ∧ RdT (· ≠ X) (· ≠ X) w v s.t

/-- All but block X is as it was. -/
def Vk (X : Nat) (w w' : World) : Prop := Keeps (· ≠ X) w w' ∧ w.heap.size ≤ w'.heap.size ∧ w'.os = w.os ∧ w'.tape = w.tape ∧ w'.output = w.output

theorem Vk.refl (X : Nat) (w : World) : Vk X w w := ⟨fun _ _ _ => rfl, Nat.le_refl _, rfl, rfl, rfl⟩
theorem Vk.trans {X : Nat} {w w1 w2 : World} (h : Vk X w w1) (h1 : Vk X w1 w2) : Vk X w w2 :=
  ⟨fun b hb hlt => (h1.1 b hb (Nat.lt_of_lt_of_le hlt h.2.1)).trans (h.1 b hb hlt), Nat.le_trans h.2.1 h1.2.1, h1.2.2.1.trans h.2.2.1, h1.2.2.2.1.trans h.2.2.2.1, h1.2.2.2.2.trans h.2.2.2.2⟩
theorem Vk.below {X : Nat} {w w' : World} (h : Below w.heap.size w w') : Vk X w w' := ⟨Keeps.below h, h.size, h.os, h.tape, h.output⟩
theorem Vk.setCell {X i : Nat} {w : World} {v : Value} : Vk X w (w.setCell ⟨X, i, none⟩ v) := ⟨Keeps.setCell _ (fun h => h rfl), by simp, rfl, rfl, rfl⟩
theorem Vk.drew {X : Nat} {w : World} : Vk X w w.drew := ⟨Keeps.drew, Nat.le_refl _, rfl, rfl, rfl⟩
/-- What is below the run's own block is as it was. -/
theorem Vk.lower {X N : Nat} {w w1 w2 : World} (h : Vk X w1 w2) (hB : Below N w w1) (hN : N ≤ X) (hs : N ≤ w1.heap.size) : Below N w w2 :=
  hB.trans ⟨h.2.2.1, h.2.2.2.1, h.2.2.2.2, h.2.1, fun k hk => h.1 k (by show k ≠ X; omega) (by omega)⟩

theorem Run.lt {X : Nat} {w : World} {fuel : Nat} {s : VM} (h : Run X w fuel s) : X < w.heap.size := by
  obtain ⟨v, hX, _⟩ := h
  exact (Array.getElem?_eq_some_iff.1 hX).1

theorem Run.below {X : Nat} {w w' : World} {fuel : Nat} {s : VM} (h : Run X w fuel s) (hB : Below w.heap.size w w') : Run X w' fuel s := by
  have hlt := h.lt
  obtain ⟨v, hX, ht⟩ := h
  exact ⟨v, (hB.block X hlt).trans hX, ht.keeps (Keeps.below hB) (Keeps.below hB)⟩

/-- The panic that a run ends with. -/
def stopC (e : Int) : List PanicEntry := [{ v := .iface 67 (.agg #[.int .i64 e]), recovered := false }]

theorem must_ok (e : Int) (w : World) : Calls Tryz.prog 50 #[.bool true, .int .i64 e] w fun x w' => x = .returned (.tuple #[]) ∧ w = w' := by
  go_enter Tryz.func50, Tryz.ntmps50
  go_wp2
  go_end0
  exact ⟨rfl, rfl⟩

theorem must_not (e : Int) (w : World) : Calls Tryz.prog 50 #[.bool false, .int .i64 e] w fun x w' => x = .panicked (stopC e) ∧ w = w' := by
  go_enter Tryz.func50, Tryz.ntmps50
  go_wp2
  exact ⟨rfl, rfl, rfl⟩

/-- What paying does. -/
def PaySo (X fuel : Nat) (s : VM) (n : Nat) (w : World) (x : Ending) (w' : World) : Prop := x = .returned (.tuple #[]) ∧ Run X w' fuel { s with used := s.used + n } ∧ Vk X w w'

set_option maxHeartbeats 1000000 in
theorem pay_ok {X fuel n : Nat} {s : VM} {w : World} (h : Run X w fuel s) (hf : fuel ≤ 20000) (hle : s.used + n ≤ fuel) : Calls Tryz.prog 41 #[.pointer (some ⟨X, 0, none⟩), .int .i64 n] w (PaySo X fuel s n w) := by
  obtain ⟨v, hX, ht⟩ := h
  have c2 : w.cell? ⟨X, 2, none⟩ = some (.int .i64 fuel) := cell_of_row w X 2 _ 50 (0, 0) hX
  have c3 : w.cell? ⟨X, 3, none⟩ = some (.int .i64 s.used) := cell_of_row w X 3 _ 50 (0, 0) hX
  have d1 : IntKind.i64.wrap ((s.used : Int) + n) = (s.used : Int) + n := IntWalk.i64_in _ (by omega)
  have d2 : decide ((s.used : Int) + n ≤ (fuel : Int)) = true := decide_eq_true (by omega)
  have HX := Lib.hid hX
  clear hX hle
  go_enter Tryz.func41, Tryz.ntmps41
  go_wp2_with fail
  refine wp_region_held_drew (S := fun W => W.cell? ⟨X, 2, none⟩ = some (.int .i64 fuel) ∧ W.cell? ⟨X, 3, none⟩ = some (.int .i64 s.used) ∧ W.heap = w.heap) (by kernel_rfl) ⟨c2, c3, rfl⟩ (fun hHeld => ?_)
  change wpAnyH _ _ _ _ _ (11 + 1) _ _ _
  refine wpAnyH_take (i := 0) (oi := ⟨some 4, .move (.tmp 0), _, _, _, none⟩) (v := ?_) rfl (by kernel_rfl) (by kernel_rfl) (by kernel_rfl) (fun _ _ _ h => h) (Or.inl ⟨by rfl, ?_⟩) (by assumption) ?_
  rotate_left
  · intro w hSw; (try dsimp only at hSw); go_simp; try (with_reducible rfl)
  try simp only [Act.put, List.setIfInBounds_toArray, List.set_cons_zero, List.set_cons_succ]
  change wpAnyH _ _ _ _ _ (10 + 1) _ _ _
  refine wpAnyH_take (i := 1) (oi := ⟨some 5, .nilCheck (.tmp 4), _, _, _, none⟩) (v := ?_) rfl (by kernel_rfl) (by kernel_rfl) (by kernel_rfl) (fun _ _ _ h => h) (Or.inl ⟨by rfl, ?_⟩) (by assumption) ?_
  rotate_left
  · intro w hSw; (try dsimp only at hSw); go_simp; try (with_reducible rfl)
  try simp only [Act.put, List.setIfInBounds_toArray, List.set_cons_zero, List.set_cons_succ]
  change wpAnyH _ _ _ _ _ (9 + 1) _ _ _
  refine wpAnyH_take (i := 2) (oi := ⟨some 6, .fieldAddr 50 (.tmp 5) 3, _, _, _, none⟩) (v := ?_) rfl (by kernel_rfl) (by kernel_rfl) (by kernel_rfl) (fun _ _ _ h => h) (Or.inl ⟨by rfl, ?_⟩) (by assumption) ?_
  rotate_left
  · intro w hSw; (try dsimp only at hSw); go_simp; try (with_reducible rfl)
  try simp only [Act.put, List.setIfInBounds_toArray, List.set_cons_zero, List.set_cons_succ]
  change wpAnyH _ _ _ _ _ (8 + 1) _ _ _
  refine wpAnyH_take (i := 3) (oi := ⟨some 7, .load 3 (.tmp 6), _, _, _, none⟩) (v := ?_) rfl (by kernel_rfl) (by kernel_rfl) (by kernel_rfl) (fun _ _ _ h => h) (Or.inl ⟨by rfl, ?_⟩) (by assumption) ?_
  rotate_left
  · intro w hSw; (try dsimp only at hSw); go_simp; try (with_reducible rfl)
  try simp only [Act.put, List.setIfInBounds_toArray, List.set_cons_zero, List.set_cons_succ]
  change wpAnyH _ _ _ _ _ (7 + 1) _ _ _
  refine wpAnyH_take (i := 4) (oi := ⟨some 8, .move (.tmp 1), _, _, _, none⟩) (v := ?_) rfl (by kernel_rfl) (by kernel_rfl) (by kernel_rfl) (fun _ _ _ h => h) (Or.inl ⟨by rfl, ?_⟩) (by assumption) ?_
  rotate_left
  · intro w hSw; (try dsimp only at hSw); go_simp; try (with_reducible rfl)
  try simp only [Act.put, List.setIfInBounds_toArray, List.set_cons_zero, List.set_cons_succ]
  change wpAnyH _ _ _ _ _ (6 + 1) _ _ _
  refine wpAnyH_take (i := 5) (oi := ⟨some 9, .binOp .add 3 (.tmp 7) (.tmp 8) 3, _, _, _, none⟩) (v := ?_) rfl (by kernel_rfl) (by kernel_rfl) (by kernel_rfl) (fun _ _ _ h => h) (Or.inl ⟨by rfl, ?_⟩) (by assumption) ?_
  rotate_left
  · intro w hSw; (try dsimp only at hSw); go_simp; try (with_reducible rfl)
  try simp only [Act.put, List.setIfInBounds_toArray, List.set_cons_zero, List.set_cons_succ]
  change wpAnyH _ _ _ _ _ (5 + 1) _ _ _
  refine wpAnyH_take (i := 6) (oi := ⟨some 10, .move (.tmp 0), _, _, _, none⟩) (v := ?_) rfl (by kernel_rfl) (by kernel_rfl) (by kernel_rfl) (fun _ _ _ h => h) (Or.inl ⟨by rfl, ?_⟩) (by assumption) ?_
  rotate_left
  · intro w hSw; (try dsimp only at hSw); go_simp; try (with_reducible rfl)
  try simp only [Act.put, List.setIfInBounds_toArray, List.set_cons_zero, List.set_cons_succ]
  change wpAnyH _ _ _ _ _ (4 + 1) _ _ _
  refine wpAnyH_take (i := 7) (oi := ⟨some 11, .nilCheck (.tmp 10), _, _, _, none⟩) (v := ?_) rfl (by kernel_rfl) (by kernel_rfl) (by kernel_rfl) (fun _ _ _ h => h) (Or.inl ⟨by rfl, ?_⟩) (by assumption) ?_
  rotate_left
  · intro w hSw; (try dsimp only at hSw); go_simp; try (with_reducible rfl)
  try simp only [Act.put, List.setIfInBounds_toArray, List.set_cons_zero, List.set_cons_succ]
  change wpAnyH _ _ _ _ _ (3 + 1) _ _ _
  refine wpAnyH_take (i := 8) (oi := ⟨some 12, .fieldAddr 50 (.tmp 11) 2, _, _, _, none⟩) (v := ?_) rfl (by kernel_rfl) (by kernel_rfl) (by kernel_rfl) (fun _ _ _ h => h) (Or.inl ⟨by rfl, ?_⟩) (by assumption) ?_
  rotate_left
  · intro w hSw; (try dsimp only at hSw); go_simp; try (with_reducible rfl)
  try simp only [Act.put, List.setIfInBounds_toArray, List.set_cons_zero, List.set_cons_succ]
  change wpAnyH _ _ _ _ _ (2 + 1) _ _ _
  refine wpAnyH_take (i := 9) (oi := ⟨some 13, .load 3 (.tmp 12), _, _, _, none⟩) (v := ?_) rfl (by kernel_rfl) (by kernel_rfl) (by kernel_rfl) (fun _ _ _ h => h) (Or.inl ⟨by rfl, ?_⟩) (by assumption) ?_
  rotate_left
  · intro w hSw; (try dsimp only at hSw); go_simp; try (with_reducible rfl)
  try simp only [Act.put, List.setIfInBounds_toArray, List.set_cons_zero, List.set_cons_succ]
  change wpAnyH _ _ _ _ _ (1 + 1) _ _ _
  refine wpAnyH_take (i := 10) (oi := ⟨some 14, .binOp .leq 3 (.tmp 9) (.tmp 13) 3, _, _, _, none⟩) (v := ?_) rfl (by kernel_rfl) (by kernel_rfl) (by kernel_rfl) (fun _ _ _ h => h) (Or.inl ⟨by rfl, ?_⟩) (by assumption) ?_
  rotate_left
  · intro w hSw; (try dsimp only at hSw); go_simp; try (with_reducible rfl)
  try simp only [Act.put, List.setIfInBounds_toArray, List.set_cons_zero, List.set_cons_succ]
  change wpAnyH _ _ _ _ _ (0 + 1) _ _ _
  refine wpAnyH_ready (rs := [11]) (by kernel_rfl) (by simp) ?_
  refine AllReadyH.cons (o := ⟨some 15, .call { callee := .value (.func 50), args := #[.tmp 14, .const (.int .i64 71)], argTypes := #[4, 29] }, _, _, _, none⟩) rfl (fun K hK => ?_) AllReadyH.nil
  go_simp
  refine (must_ok _ _).mono ?_
  rintro e w1 ⟨rfl, rfl⟩
  refine hK.out _ _ hHeld (fun hH2 => ?_)
  clear hK K
  try simp only [Act.put, List.setIfInBounds_toArray, List.set_cons_zero, List.set_cons_succ]
  refine wpAnyH_done (by kernel_rfl) ?_ _
  have hlt : X < w.heap.size := (Array.getElem?_eq_some_iff.1 HX.out).1
  have f3 := frozen_of_row w X 3 _ 50 HX.out
  clear hHeld hH2
  go_wp2
  go_end0
  refine ⟨rfl, ⟨v, ?_, ?_⟩, Vk.setCell.trans Vk.drew⟩
  · exact heap_setCell_same w X 3 _ 50 _ HX.out
  · exact (ht.keeps (Keeps.setCell _ (fun h => h rfl)) (Keeps.setCell _ (fun h => h rfl)))

set_option maxHeartbeats 1000000 in
theorem pay_not {X fuel n : Nat} {s : VM} {w : World} (h : Run X w fuel s) (hf : fuel ≤ 20000) (hn : n ≤ 20000) (hu : s.used ≤ 20000) (hle : ¬ s.used + n ≤ fuel) :
    Calls Tryz.prog 41 #[.pointer (some ⟨X, 0, none⟩), .int .i64 n] w fun x w' => x = .panicked (stopC 71) ∧ w' = w.drew := by
  obtain ⟨v, hX, ht⟩ := h
  have c2 : w.cell? ⟨X, 2, none⟩ = some (.int .i64 fuel) := cell_of_row w X 2 _ 50 (0, 0) hX
  have c3 : w.cell? ⟨X, 3, none⟩ = some (.int .i64 s.used) := cell_of_row w X 3 _ 50 (0, 0) hX
  have d1 : IntKind.i64.wrap ((s.used : Int) + n) = (s.used : Int) + n := IntWalk.i64_in _ (by omega)
  have d2 : decide ((s.used : Int) + n ≤ (fuel : Int)) = false := decide_eq_false (by omega)
  have HX := Lib.hid hX
  clear hX hle
  go_enter Tryz.func41, Tryz.ntmps41
  go_wp2_with fail
  refine wp_region_held_drew (S := fun W => W.cell? ⟨X, 2, none⟩ = some (.int .i64 fuel) ∧ W.cell? ⟨X, 3, none⟩ = some (.int .i64 s.used) ∧ W.heap = w.heap) (by kernel_rfl) ⟨c2, c3, rfl⟩ (fun hHeld => ?_)
  change wpAnyH _ _ _ _ _ (11 + 1) _ _ _
  refine wpAnyH_take (i := 0) (oi := ⟨some 4, .move (.tmp 0), _, _, _, none⟩) (v := ?_) rfl (by kernel_rfl) (by kernel_rfl) (by kernel_rfl) (fun _ _ _ h => h) (Or.inl ⟨by rfl, ?_⟩) (by assumption) ?_
  rotate_left
  · intro w hSw; (try dsimp only at hSw); go_simp; try (with_reducible rfl)
  try simp only [Act.put, List.setIfInBounds_toArray, List.set_cons_zero, List.set_cons_succ]
  change wpAnyH _ _ _ _ _ (10 + 1) _ _ _
  refine wpAnyH_take (i := 1) (oi := ⟨some 5, .nilCheck (.tmp 4), _, _, _, none⟩) (v := ?_) rfl (by kernel_rfl) (by kernel_rfl) (by kernel_rfl) (fun _ _ _ h => h) (Or.inl ⟨by rfl, ?_⟩) (by assumption) ?_
  rotate_left
  · intro w hSw; (try dsimp only at hSw); go_simp; try (with_reducible rfl)
  try simp only [Act.put, List.setIfInBounds_toArray, List.set_cons_zero, List.set_cons_succ]
  change wpAnyH _ _ _ _ _ (9 + 1) _ _ _
  refine wpAnyH_take (i := 2) (oi := ⟨some 6, .fieldAddr 50 (.tmp 5) 3, _, _, _, none⟩) (v := ?_) rfl (by kernel_rfl) (by kernel_rfl) (by kernel_rfl) (fun _ _ _ h => h) (Or.inl ⟨by rfl, ?_⟩) (by assumption) ?_
  rotate_left
  · intro w hSw; (try dsimp only at hSw); go_simp; try (with_reducible rfl)
  try simp only [Act.put, List.setIfInBounds_toArray, List.set_cons_zero, List.set_cons_succ]
  change wpAnyH _ _ _ _ _ (8 + 1) _ _ _
  refine wpAnyH_take (i := 3) (oi := ⟨some 7, .load 3 (.tmp 6), _, _, _, none⟩) (v := ?_) rfl (by kernel_rfl) (by kernel_rfl) (by kernel_rfl) (fun _ _ _ h => h) (Or.inl ⟨by rfl, ?_⟩) (by assumption) ?_
  rotate_left
  · intro w hSw; (try dsimp only at hSw); go_simp; try (with_reducible rfl)
  try simp only [Act.put, List.setIfInBounds_toArray, List.set_cons_zero, List.set_cons_succ]
  change wpAnyH _ _ _ _ _ (7 + 1) _ _ _
  refine wpAnyH_take (i := 4) (oi := ⟨some 8, .move (.tmp 1), _, _, _, none⟩) (v := ?_) rfl (by kernel_rfl) (by kernel_rfl) (by kernel_rfl) (fun _ _ _ h => h) (Or.inl ⟨by rfl, ?_⟩) (by assumption) ?_
  rotate_left
  · intro w hSw; (try dsimp only at hSw); go_simp; try (with_reducible rfl)
  try simp only [Act.put, List.setIfInBounds_toArray, List.set_cons_zero, List.set_cons_succ]
  change wpAnyH _ _ _ _ _ (6 + 1) _ _ _
  refine wpAnyH_take (i := 5) (oi := ⟨some 9, .binOp .add 3 (.tmp 7) (.tmp 8) 3, _, _, _, none⟩) (v := ?_) rfl (by kernel_rfl) (by kernel_rfl) (by kernel_rfl) (fun _ _ _ h => h) (Or.inl ⟨by rfl, ?_⟩) (by assumption) ?_
  rotate_left
  · intro w hSw; (try dsimp only at hSw); go_simp; try (with_reducible rfl)
  try simp only [Act.put, List.setIfInBounds_toArray, List.set_cons_zero, List.set_cons_succ]
  change wpAnyH _ _ _ _ _ (5 + 1) _ _ _
  refine wpAnyH_take (i := 6) (oi := ⟨some 10, .move (.tmp 0), _, _, _, none⟩) (v := ?_) rfl (by kernel_rfl) (by kernel_rfl) (by kernel_rfl) (fun _ _ _ h => h) (Or.inl ⟨by rfl, ?_⟩) (by assumption) ?_
  rotate_left
  · intro w hSw; (try dsimp only at hSw); go_simp; try (with_reducible rfl)
  try simp only [Act.put, List.setIfInBounds_toArray, List.set_cons_zero, List.set_cons_succ]
  change wpAnyH _ _ _ _ _ (4 + 1) _ _ _
  refine wpAnyH_take (i := 7) (oi := ⟨some 11, .nilCheck (.tmp 10), _, _, _, none⟩) (v := ?_) rfl (by kernel_rfl) (by kernel_rfl) (by kernel_rfl) (fun _ _ _ h => h) (Or.inl ⟨by rfl, ?_⟩) (by assumption) ?_
  rotate_left
  · intro w hSw; (try dsimp only at hSw); go_simp; try (with_reducible rfl)
  try simp only [Act.put, List.setIfInBounds_toArray, List.set_cons_zero, List.set_cons_succ]
  change wpAnyH _ _ _ _ _ (3 + 1) _ _ _
  refine wpAnyH_take (i := 8) (oi := ⟨some 12, .fieldAddr 50 (.tmp 11) 2, _, _, _, none⟩) (v := ?_) rfl (by kernel_rfl) (by kernel_rfl) (by kernel_rfl) (fun _ _ _ h => h) (Or.inl ⟨by rfl, ?_⟩) (by assumption) ?_
  rotate_left
  · intro w hSw; (try dsimp only at hSw); go_simp; try (with_reducible rfl)
  try simp only [Act.put, List.setIfInBounds_toArray, List.set_cons_zero, List.set_cons_succ]
  change wpAnyH _ _ _ _ _ (2 + 1) _ _ _
  refine wpAnyH_take (i := 9) (oi := ⟨some 13, .load 3 (.tmp 12), _, _, _, none⟩) (v := ?_) rfl (by kernel_rfl) (by kernel_rfl) (by kernel_rfl) (fun _ _ _ h => h) (Or.inl ⟨by rfl, ?_⟩) (by assumption) ?_
  rotate_left
  · intro w hSw; (try dsimp only at hSw); go_simp; try (with_reducible rfl)
  try simp only [Act.put, List.setIfInBounds_toArray, List.set_cons_zero, List.set_cons_succ]
  change wpAnyH _ _ _ _ _ (1 + 1) _ _ _
  refine wpAnyH_take (i := 10) (oi := ⟨some 14, .binOp .leq 3 (.tmp 9) (.tmp 13) 3, _, _, _, none⟩) (v := ?_) rfl (by kernel_rfl) (by kernel_rfl) (by kernel_rfl) (fun _ _ _ h => h) (Or.inl ⟨by rfl, ?_⟩) (by assumption) ?_
  rotate_left
  · intro w hSw; (try dsimp only at hSw); go_simp; try (with_reducible rfl)
  try simp only [Act.put, List.setIfInBounds_toArray, List.set_cons_zero, List.set_cons_succ]
  change wpAnyH _ _ _ _ _ (0 + 1) _ _ _
  refine wpAnyH_ready (rs := [11]) (by kernel_rfl) (by simp) ?_
  refine AllReadyH.cons (o := ⟨some 15, .call { callee := .value (.func 50), args := #[.tmp 14, .const (.int .i64 71)], argTypes := #[4, 29] }, _, _, _, none⟩) rfl (fun K hK => ?_) AllReadyH.nil
  go_simp
  refine (must_not _ _).mono ?_
  rintro e w1 ⟨rfl, rfl⟩
  exact ⟨rfl, rfl, rfl⟩
end Go.Proofs.YteckjgngglpcaaaGreatDoor
