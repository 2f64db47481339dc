/-
  The machine's steps: a contract for each instruction that is asked.
-/
import Derived.Test.YteckjgngglpcaaaGreatDoorUnpack
namespace Go.Proofs.YteckjgngglpcaaaGreatDoor
open Go.RowKit

/-- An instruction as a value. -/
def insV (op : Nat) (a b c : ByteArray) (n m : Int) : Value := .agg #[.int .u8 op, .string a, .string b, .string c, .int .i64 n, .int .i64 m]

/-- A step that goes through. -/
def StepRet (X fuel : Nat) (s' : VM) (w : World) (x : Ending) (w' : World) : Prop := x = .returned (.tuple #[]) ∧ Run X w' fuel s' ∧ Vk X w w'
/-- A step that ends the run. -/
def StepEnd (X fuel : Nat) (e : Int) (u : Nat) (w : World) (x : Ending) (w' : World) : Prop := x = .panicked (stopC e) ∧ (∃ s' : VM, s'.used = u ∧ Run X w' fuel s') ∧ Vk X w w'
/-- A step that ends the run; what it has used by then is not told. -/
def StepFull (X fuel : Nat) (w : World) (x : Ending) (w' : World) : Prop := x = .panicked (stopC 8) ∧ (∃ s' : VM, Run X w' fuel s') ∧ Vk X w w'

/-- Two cells that stand, and what was there but a run. -/
theorem keepV {X : Nat} {w1 W W' : World} {a b : Addr} {va vb : Value} (h : W.cell? a = some va ∧ W.cell? b = some vb ∧ Vk X w1 W) (ha : a.spot = none) (hb : b.spot = none) (hax : a.block ≠ X) (hbx : b.block ≠ X) (hB : Vk X W W') :
    W'.cell? a = some va ∧ W'.cell? b = some vb ∧ Vk X w1 W' := by
  obtain ⟨aa, ao, ap⟩ := a
  obtain ⟨ba, bo, bp⟩ := b
  subst ha hb
  exact ⟨hB.1.cell hax h.1, hB.1.cell hbx h.2.1, h.2.2.trans hB⟩

theorem Run.place {X : Nat} {w : World} {fuel : Nat} {s : VM} (h : Run X w fuel s) (n : Nat) : Run X (w.setCell ⟨X, 1, none⟩ (.int .i64 n)) fuel { s with place := n } := by
  obtain ⟨v, hX, ht⟩ := h
  exact ⟨v, heap_setCell_same w X 1 _ 50 _ hX, ht.keeps (Keeps.setCell _ (fun h => h rfl)) (Keeps.setCell _ (fun h => h rfl))⟩

set_option maxRecDepth 100000 in
set_option maxHeartbeats 1000000 in
theorem step_broke {X fuel : Nat} {s : VM} {w : World} (h : Run X w fuel s) (hf : fuel ≤ 20000) (hu : s.used ≤ 20000) (hle : ¬ s.used + 1 ≤ fuel) (op : Nat) (a b c : ByteArray) (n m : Int) :
    Calls Tryz.prog 33 #[.pointer (some ⟨X, 0, none⟩), insV op a b c n m] w (StepEnd X fuel 71 s.used w) := by
  have hpay := pay_not (n := 1) (h.below ((Below.refl _ _).alloc (Nat.le_refl _) (Obj.cells #[.int .u8 op, .string a, .string b, .string c, .int .i64 n, .int .i64 m] 35))) hf (by omega) hu hle
  unfold insV
  have hR := Lib.hid h
  clear h
  go_enter Tryz.func33, Tryz.ntmps33
  go_wp2_with fail
  refine hpay.mono ?_
  rintro e w1 ⟨rfl, rfl⟩
  go_wp2
  have hR1 := hR.out.below (((Below.refl _ _).alloc (Nat.le_refl _) (Obj.cells #[.int .u8 op, .string a, .string b, .string c, .int .i64 n, .int .i64 m] 35)).drew)
  exact ⟨rfl, rfl, ⟨s, rfl, hR1⟩, (Vk.below ((Below.refl _ _).alloc (Nat.le_refl _) _)).trans Vk.drew⟩

set_option maxRecDepth 100000 in
set_option maxHeartbeats 4000000 in
theorem step_copy {X fuel : Nat} {s : VM} {w : World} (h : Run X w fuel s) (hT : TOK s.t) (hz : szs s.t ≤ 4000) (hf : fuel ≤ 20000) (hpl : s.place ≤ 20000) {a b c : ByteArray} {n m : Int} {k : Nat} (hk : k < s.t.length) (he : s.t[k].p.toList = a.toList) (hp : POK b) (hlen : (putF b s.t[k].b s.t).length ≤ 16)
    (hfuel : s.used + 1 + (s.t[k].b.length + 15) / 16 ≤ fuel) (hfit : szs (putF b s.t[k].b s.t) ≤ 4000) :
    Calls Tryz.prog 33 #[.pointer (some ⟨X, 0, none⟩), insV 1 a b c n m] w (StepRet X fuel { t := putF b s.t[k].b s.t, place := s.place + 1, used := s.used + 1 + (s.t[k].b.length + 15) / 16 } w) := by
  have hlk := (hT.all _ (List.getElem_mem hk)).2
  have hpay := pay_ok (n := 1) (h.below ((Below.refl _ _).alloc (Nat.le_refl _) (Obj.cells #[.int .u8 1, .string a, .string b, .string c, .int .i64 n, .int .i64 m] 35))) hf (by omega)
  have hlt := h.lt
  have hV1 : Vk X w (w.alloc (Obj.cells #[.int .u8 1, .string a, .string b, .string c, .int .i64 n, .int .i64 m] 35)) := Vk.below ((Below.refl _ _).alloc (Nat.le_refl _) _)
  have b0 : (w.alloc (Obj.cells #[.int .u8 1, .string a, .string b, .string c, .int .i64 n, .int .i64 m] 35)).cell? ⟨w.heap.size, 0, none⟩ = some (.int .u8 1) := by simp
  have b1 : (w.alloc (Obj.cells #[.int .u8 1, .string a, .string b, .string c, .int .i64 n, .int .i64 m] 35)).cell? ⟨w.heap.size, 1, none⟩ = some (.string a) := by simp
  have b2 : (w.alloc (Obj.cells #[.int .u8 1, .string a, .string b, .string c, .int .i64 n, .int .i64 m] 35)).cell? ⟨w.heap.size, 2, none⟩ = some (.string b) := by simp
  have b4 : (w.alloc (Obj.cells #[.int .u8 1, .string a, .string b, .string c, .int .i64 n, .int .i64 m] 35)).cell? ⟨w.heap.size, 4, none⟩ = some (.int .i64 n) := by simp
  have hBX : w.heap.size ≠ X := by omega
  unfold insV
  clear h
  go_enter Tryz.func33, Tryz.ntmps33
  go_wp2_with fail
  refine hpay.mono ?_
  rintro e w2 ⟨rfl, hR2, hV2⟩
  have c1 : w2.cell? ⟨X, 1, none⟩ = some (.int .i64 s.place) := by
    obtain ⟨v, hX, _⟩ := hR2
    exact cell_of_row w2 X 1 _ 50 (0, 0) hX
  have f1 : w2.frozen? ⟨X, 1, none⟩ = false := by
    obtain ⟨v, hX, _⟩ := hR2
    exact frozen_of_row w2 X 1 _ 50 hX
  have dw : IntKind.i64.wrap ((s.place : Int) + 1) = (s.place : Int) + 1 := IntWalk.i64_in _ (by omega)
  have hR3 := hR2.place (s.place + 1)
  have hV3 : Vk X w (w2.setCell ⟨X, 1, none⟩ (.int .i64 ((s.place + 1 : Nat) : Int))) := (hV1.trans hV2).trans Vk.setCell
  have hV23 : Vk X (w.alloc (Obj.cells #[.int .u8 1, .string a, .string b, .string c, .int .i64 n, .int .i64 m] 35)) (w2.setCell ⟨X, 1, none⟩ (.int .i64 ((s.place + 1 : Nat) : Int))) := hV2.trans Vk.setCell
  have d0 := hV23.1.cell hBX b0
  have d1 := hV23.1.cell hBX b1
  have d2 := hV23.1.cell hBX b2
  have d4 := hV23.1.cell hBX b4
  have eP : ((s.place + 1 : Nat) : Int) = (s.place : Int) + 1 := by omega
  rw [eP] at hR3 hV3 d0 d1 d2 d4
  clear b0 b1 b2 b4 hV1 hV2 hV23 hR2 eP hpay
  go_wp2_with fail
  generalize w2.setCell ⟨X, 1, none⟩ (.int .i64 ((s.place : Int) + 1)) = W3 at *
  clear c1 f1 dw
  refine wp_region_held_drew (S := fun W => W.cell? ⟨w.heap.size, 1, none⟩ = some (.string a) ∧ W.cell? ⟨w.heap.size, 2, none⟩ = some (.string b) ∧ Vk X W3 W) (by kernel_rfl) ⟨d1, d2, Vk.drew⟩ (fun hHeld => ?_)
  change wpAnyH _ _ _ _ _ (7 + 1) _ _ _
  refine wpAnyH_take (i := 0) (oi := ⟨some 20, .move (.tmp 0), _, _, _, none⟩) (v := ?_) rfl (by kernel_rfl) (by kernel_rfl) (by kernel_rfl) (fun _ _ _ h => h) (Or.inl ⟨by rfl, ?_⟩) (by assumption) ?_
  rotate_left
  · intro w hSw; (try dsimp only at hSw); go_simp; try (with_reducible rfl)
  try simp only [Act.put, List.setIfInBounds_toArray, List.set_cons_zero, List.set_cons_succ]
  change wpAnyH _ _ _ _ _ (6 + 1) _ _ _
  refine wpAnyH_take (i := 1) (oi := ⟨some 21, .fieldAddr 35 (.tmp 3) 2, _, _, _, none⟩) (v := ?_) rfl (by kernel_rfl) (by kernel_rfl) (by kernel_rfl) (fun _ _ _ h => h) (Or.inl ⟨by rfl, ?_⟩) (by assumption) ?_
  rotate_left
  · intro w hSw; (try dsimp only at hSw); go_simp; try (with_reducible rfl)
  try simp only [Act.put, List.setIfInBounds_toArray, List.set_cons_zero, List.set_cons_succ]
  change wpAnyH _ _ _ _ _ (5 + 1) _ _ _
  refine wpAnyH_take (i := 2) (oi := ⟨some 22, .load 9 (.tmp 21), _, _, _, none⟩) (v := ?_) rfl (by kernel_rfl) (by kernel_rfl) (by kernel_rfl) (fun _ _ _ h => h) (Or.inl ⟨by rfl, ?_⟩) (by assumption) ?_
  rotate_left
  · intro w hSw; (try dsimp only at hSw); go_simp; try (with_reducible rfl)
  try simp only [Act.put, List.setIfInBounds_toArray, List.set_cons_zero, List.set_cons_succ]
  change wpAnyH _ _ _ _ _ (4 + 1) _ _ _
  refine wpAnyH_take (i := 3) (oi := ⟨some 23, .move (.tmp 0), _, _, _, none⟩) (v := ?_) rfl (by kernel_rfl) (by kernel_rfl) (by kernel_rfl) (fun _ _ _ h => h) (Or.inl ⟨by rfl, ?_⟩) (by assumption) ?_
  rotate_left
  · intro w hSw; (try dsimp only at hSw); go_simp; try (with_reducible rfl)
  try simp only [Act.put, List.setIfInBounds_toArray, List.set_cons_zero, List.set_cons_succ]
  change wpAnyH _ _ _ _ _ (3 + 1) _ _ _
  refine wpAnyH_take (i := 4) (oi := ⟨some 24, .fieldAddr 35 (.tmp 3) 1, _, _, _, none⟩) (v := ?_) rfl (by kernel_rfl) (by kernel_rfl) (by kernel_rfl) (fun _ _ _ h => h) (Or.inl ⟨by rfl, ?_⟩) (by assumption) ?_
  rotate_left
  · intro w hSw; (try dsimp only at hSw); go_simp; try (with_reducible rfl)
  try simp only [Act.put, List.setIfInBounds_toArray, List.set_cons_zero, List.set_cons_succ]
  change wpAnyH _ _ _ _ _ (2 + 1) _ _ _
  refine wpAnyH_take (i := 5) (oi := ⟨some 25, .load 9 (.tmp 24), _, _, _, none⟩) (v := ?_) rfl (by kernel_rfl) (by kernel_rfl) (by kernel_rfl) (fun _ _ _ h => h) (Or.inl ⟨by rfl, ?_⟩) (by assumption) ?_
  rotate_left
  · intro w hSw; (try dsimp only at hSw); go_simp; try (with_reducible rfl)
  try simp only [Act.put, List.setIfInBounds_toArray, List.set_cons_zero, List.set_cons_succ]
  change wpAnyH _ _ _ _ _ (1 + 1) _ _ _
  refine wpAnyH_ready (rs := [6]) (by kernel_rfl) (by simp) ?_
  refine AllReadyH.cons (o := ⟨some 26, .call { callee := .value (.func 43), args := #[.tmp 23, .tmp 25], argTypes := #[48, 9] }, _, _, _, none⟩) rfl (fun K hK => ?_) AllReadyH.nil
  go_simp
  have hRd := hR3.below ((Below.refl _ _).drew)
  have hltd := hRd.lt
  refine (vmGet_hit hRd hT hz a hk he).mono ?_
  rintro e w4 ⟨v4, rfl, hr4, hB4⟩
  refine hK.out _ _ (keepV hHeld rfl rfl hBX hBX (Vk.below hB4)) (fun hH2 => ?_)
  clear hK K
  try simp only [Act.put, List.setIfInBounds_toArray, List.set_cons_zero, List.set_cons_succ]
  change wpAnyH _ _ _ _ _ (0 + 1) _ _ _
  refine wpAnyH_ready (rs := [7]) (by kernel_rfl) (by simp) ?_
  refine AllReadyH.cons (o := ⟨some 27, .call { callee := .value (.func 42), args := #[.tmp 20, .tmp 22, .tmp 26], argTypes := #[48, 9, 26] }, _, _, _, none⟩) rfl (fun K hK => ?_) AllReadyH.nil
  go_simp
  refine (put_ok (hRd.below hB4) hT hz hf hp hr4 (fun q hq e => by have hq' : W3.drew.heap.size ≤ q := hq; omega) hlk hlen (by simp only; omega) hfit).mono ?_
  rintro e w5 ⟨rfl, hR5, hV5⟩
  refine hK.out _ _ (keepV hH2 rfl rfl hBX hBX hV5) (fun hH3 => ?_)
  clear hK K
  try simp only [Act.put, List.setIfInBounds_toArray, List.set_cons_zero, List.set_cons_succ]
  refine wpAnyH_done (by kernel_rfl) ?_ _
  have hVe := hV3.trans hH3.2.2
  clear hHeld hH2 hH3 d0 d1 d2 d4
  go_wp2
  go_end0
  exact ⟨rfl, hR5, hVe⟩

set_option maxRecDepth 100000 in
set_option maxHeartbeats 4000000 in
theorem step_copy_full {X fuel : Nat} {s : VM} {w : World} (h : Run X w fuel s) (hT : TOK s.t) (hz : szs s.t ≤ 4000) (hf : fuel ≤ 20000) (hpl : s.place ≤ 20000) {a b c : ByteArray} {n m : Int} {k : Nat} (hk : k < s.t.length) (he : s.t[k].p.toList = a.toList) (hp : POK b) (hlen : (putF b s.t[k].b s.t).length ≤ 16)
    (hfuel : s.used + 1 + (s.t[k].b.length + 15) / 16 ≤ fuel) (hfit : ¬ szs (putF b s.t[k].b s.t) ≤ 4000) :
    Calls Tryz.prog 33 #[.pointer (some ⟨X, 0, none⟩), insV 1 a b c n m] w (StepFull X fuel w) := by
  have hlk := (hT.all _ (List.getElem_mem hk)).2
  have hpay := pay_ok (n := 1) (h.below ((Below.refl _ _).alloc (Nat.le_refl _) (Obj.cells #[.int .u8 1, .string a, .string b, .string c, .int .i64 n, .int .i64 m] 35))) hf (by omega)
  have hlt := h.lt
  have hV1 : Vk X w (w.alloc (Obj.cells #[.int .u8 1, .string a, .string b, .string c, .int .i64 n, .int .i64 m] 35)) := Vk.below ((Below.refl _ _).alloc (Nat.le_refl _) _)
  have b0 : (w.alloc (Obj.cells #[.int .u8 1, .string a, .string b, .string c, .int .i64 n, .int .i64 m] 35)).cell? ⟨w.heap.size, 0, none⟩ = some (.int .u8 1) := by simp
  have b1 : (w.alloc (Obj.cells #[.int .u8 1, .string a, .string b, .string c, .int .i64 n, .int .i64 m] 35)).cell? ⟨w.heap.size, 1, none⟩ = some (.string a) := by simp
  have b2 : (w.alloc (Obj.cells #[.int .u8 1, .string a, .string b, .string c, .int .i64 n, .int .i64 m] 35)).cell? ⟨w.heap.size, 2, none⟩ = some (.string b) := by simp
  have b4 : (w.alloc (Obj.cells #[.int .u8 1, .string a, .string b, .string c, .int .i64 n, .int .i64 m] 35)).cell? ⟨w.heap.size, 4, none⟩ = some (.int .i64 n) := by simp
  have hBX : w.heap.size ≠ X := by omega
  unfold insV
  clear h
  go_enter Tryz.func33, Tryz.ntmps33
  go_wp2_with fail
  refine hpay.mono ?_
  rintro e w2 ⟨rfl, hR2, hV2⟩
  have c1 : w2.cell? ⟨X, 1, none⟩ = some (.int .i64 s.place) := by
    obtain ⟨v, hX, _⟩ := hR2
    exact cell_of_row w2 X 1 _ 50 (0, 0) hX
  have f1 : w2.frozen? ⟨X, 1, none⟩ = false := by
    obtain ⟨v, hX, _⟩ := hR2
    exact frozen_of_row w2 X 1 _ 50 hX
  have dw : IntKind.i64.wrap ((s.place : Int) + 1) = (s.place : Int) + 1 := IntWalk.i64_in _ (by omega)
  have hR3 := hR2.place (s.place + 1)
  have hV3 : Vk X w (w2.setCell ⟨X, 1, none⟩ (.int .i64 ((s.place + 1 : Nat) : Int))) := (hV1.trans hV2).trans Vk.setCell
  have hV23 : Vk X (w.alloc (Obj.cells #[.int .u8 1, .string a, .string b, .string c, .int .i64 n, .int .i64 m] 35)) (w2.setCell ⟨X, 1, none⟩ (.int .i64 ((s.place + 1 : Nat) : Int))) := hV2.trans Vk.setCell
  have d0 := hV23.1.cell hBX b0
  have d1 := hV23.1.cell hBX b1
  have d2 := hV23.1.cell hBX b2
  have d4 := hV23.1.cell hBX b4
  have eP : ((s.place + 1 : Nat) : Int) = (s.place : Int) + 1 := by omega
  rw [eP] at hR3 hV3 d0 d1 d2 d4
  clear b0 b1 b2 b4 hV1 hV2 hV23 hR2 eP hpay
  go_wp2_with fail
  generalize w2.setCell ⟨X, 1, none⟩ (.int .i64 ((s.place : Int) + 1)) = W3 at *
  clear c1 f1 dw
  refine wp_region_held_drew (S := fun W => W.cell? ⟨w.heap.size, 1, none⟩ = some (.string a) ∧ W.cell? ⟨w.heap.size, 2, none⟩ = some (.string b) ∧ Vk X W3 W) (by kernel_rfl) ⟨d1, d2, Vk.drew⟩ (fun hHeld => ?_)
  change wpAnyH _ _ _ _ _ (7 + 1) _ _ _
  refine wpAnyH_take (i := 0) (oi := ⟨some 20, .move (.tmp 0), _, _, _, none⟩) (v := ?_) rfl (by kernel_rfl) (by kernel_rfl) (by kernel_rfl) (fun _ _ _ h => h) (Or.inl ⟨by rfl, ?_⟩) (by assumption) ?_
  rotate_left
  · intro w hSw; (try dsimp only at hSw); go_simp; try (with_reducible rfl)
  try simp only [Act.put, List.setIfInBounds_toArray, List.set_cons_zero, List.set_cons_succ]
  change wpAnyH _ _ _ _ _ (6 + 1) _ _ _
  refine wpAnyH_take (i := 1) (oi := ⟨some 21, .fieldAddr 35 (.tmp 3) 2, _, _, _, none⟩) (v := ?_) rfl (by kernel_rfl) (by kernel_rfl) (by kernel_rfl) (fun _ _ _ h => h) (Or.inl ⟨by rfl, ?_⟩) (by assumption) ?_
  rotate_left
  · intro w hSw; (try dsimp only at hSw); go_simp; try (with_reducible rfl)
  try simp only [Act.put, List.setIfInBounds_toArray, List.set_cons_zero, List.set_cons_succ]
  change wpAnyH _ _ _ _ _ (5 + 1) _ _ _
  refine wpAnyH_take (i := 2) (oi := ⟨some 22, .load 9 (.tmp 21), _, _, _, none⟩) (v := ?_) rfl (by kernel_rfl) (by kernel_rfl) (by kernel_rfl) (fun _ _ _ h => h) (Or.inl ⟨by rfl, ?_⟩) (by assumption) ?_
  rotate_left
  · intro w hSw; (try dsimp only at hSw); go_simp; try (with_reducible rfl)
  try simp only [Act.put, List.setIfInBounds_toArray, List.set_cons_zero, List.set_cons_succ]
  change wpAnyH _ _ _ _ _ (4 + 1) _ _ _
  refine wpAnyH_take (i := 3) (oi := ⟨some 23, .move (.tmp 0), _, _, _, none⟩) (v := ?_) rfl (by kernel_rfl) (by kernel_rfl) (by kernel_rfl) (fun _ _ _ h => h) (Or.inl ⟨by rfl, ?_⟩) (by assumption) ?_
  rotate_left
  · intro w hSw; (try dsimp only at hSw); go_simp; try (with_reducible rfl)
  try simp only [Act.put, List.setIfInBounds_toArray, List.set_cons_zero, List.set_cons_succ]
  change wpAnyH _ _ _ _ _ (3 + 1) _ _ _
  refine wpAnyH_take (i := 4) (oi := ⟨some 24, .fieldAddr 35 (.tmp 3) 1, _, _, _, none⟩) (v := ?_) rfl (by kernel_rfl) (by kernel_rfl) (by kernel_rfl) (fun _ _ _ h => h) (Or.inl ⟨by rfl, ?_⟩) (by assumption) ?_
  rotate_left
  · intro w hSw; (try dsimp only at hSw); go_simp; try (with_reducible rfl)
  try simp only [Act.put, List.setIfInBounds_toArray, List.set_cons_zero, List.set_cons_succ]
  change wpAnyH _ _ _ _ _ (2 + 1) _ _ _
  refine wpAnyH_take (i := 5) (oi := ⟨some 25, .load 9 (.tmp 24), _, _, _, none⟩) (v := ?_) rfl (by kernel_rfl) (by kernel_rfl) (by kernel_rfl) (fun _ _ _ h => h) (Or.inl ⟨by rfl, ?_⟩) (by assumption) ?_
  rotate_left
  · intro w hSw; (try dsimp only at hSw); go_simp; try (with_reducible rfl)
  try simp only [Act.put, List.setIfInBounds_toArray, List.set_cons_zero, List.set_cons_succ]
  change wpAnyH _ _ _ _ _ (1 + 1) _ _ _
  refine wpAnyH_ready (rs := [6]) (by kernel_rfl) (by simp) ?_
  refine AllReadyH.cons (o := ⟨some 26, .call { callee := .value (.func 43), args := #[.tmp 23, .tmp 25], argTypes := #[48, 9] }, _, _, _, none⟩) rfl (fun K hK => ?_) AllReadyH.nil
  go_simp
  have hRd := hR3.below ((Below.refl _ _).drew)
  have hltd := hRd.lt
  refine (vmGet_hit hRd hT hz a hk he).mono ?_
  rintro e w4 ⟨v4, rfl, hr4, hB4⟩
  refine hK.out _ _ (keepV hHeld rfl rfl hBX hBX (Vk.below hB4)) (fun hH2 => ?_)
  clear hK K
  try simp only [Act.put, List.setIfInBounds_toArray, List.set_cons_zero, List.set_cons_succ]
  change wpAnyH _ _ _ _ _ (0 + 1) _ _ _
  refine wpAnyH_ready (rs := [7]) (by kernel_rfl) (by simp) ?_
  refine AllReadyH.cons (o := ⟨some 27, .call { callee := .value (.func 42), args := #[.tmp 20, .tmp 22, .tmp 26], argTypes := #[48, 9, 26] }, _, _, _, none⟩) rfl (fun K hK => ?_) AllReadyH.nil
  go_simp
  refine (put_full (hRd.below hB4) hT hz hf hp hr4 (fun q hq e => by have hq' : W3.drew.heap.size ≤ q := hq; omega) hlk hlen (by simp only; omega) hfit).mono ?_
  rintro e w5 ⟨rfl, hs5, hV5⟩
  exact ⟨rfl, rfl, hs5, (hV3.trans hH2.2.2).trans hV5⟩

set_option maxRecDepth 100000 in
set_option maxHeartbeats 4000000 in
theorem step_miss {X fuel : Nat} {s : VM} {w : World} (h : Run X w fuel s) (hT : TOK s.t) (hz : szs s.t ≤ 4000) (hf : fuel ≤ 20000) (hpl : s.place ≤ 20000) {a b c : ByteArray} {n m : Int} (he : ∀ k (h : k < s.t.length), s.t[k].p.toList ≠ a.toList) (hfuel : s.used + 1 ≤ fuel) :
    Calls Tryz.prog 33 #[.pointer (some ⟨X, 0, none⟩), insV 1 a b c n m] w (StepEnd X fuel 70 (s.used + 1) w) := by
  have hpay := pay_ok (n := 1) (h.below ((Below.refl _ _).alloc (Nat.le_refl _) (Obj.cells #[.int .u8 1, .string a, .string b, .string c, .int .i64 n, .int .i64 m] 35))) hf (by omega)
  have hlt := h.lt
  have hV1 : Vk X w (w.alloc (Obj.cells #[.int .u8 1, .string a, .string b, .string c, .int .i64 n, .int .i64 m] 35)) := Vk.below ((Below.refl _ _).alloc (Nat.le_refl _) _)
  have b0 : (w.alloc (Obj.cells #[.int .u8 1, .string a, .string b, .string c, .int .i64 n, .int .i64 m] 35)).cell? ⟨w.heap.size, 0, none⟩ = some (.int .u8 1) := by simp
  have b1 : (w.alloc (Obj.cells #[.int .u8 1, .string a, .string b, .string c, .int .i64 n, .int .i64 m] 35)).cell? ⟨w.heap.size, 1, none⟩ = some (.string a) := by simp
  have b2 : (w.alloc (Obj.cells #[.int .u8 1, .string a, .string b, .string c, .int .i64 n, .int .i64 m] 35)).cell? ⟨w.heap.size, 2, none⟩ = some (.string b) := by simp
  have b4 : (w.alloc (Obj.cells #[.int .u8 1, .string a, .string b, .string c, .int .i64 n, .int .i64 m] 35)).cell? ⟨w.heap.size, 4, none⟩ = some (.int .i64 n) := by simp
  have hBX : w.heap.size ≠ X := by omega
  unfold insV
  clear h
  go_enter Tryz.func33, Tryz.ntmps33
  go_wp2_with fail
  refine hpay.mono ?_
  rintro e w2 ⟨rfl, hR2, hV2⟩
  have c1 : w2.cell? ⟨X, 1, none⟩ = some (.int .i64 s.place) := by
    obtain ⟨v, hX, _⟩ := hR2
    exact cell_of_row w2 X 1 _ 50 (0, 0) hX
  have f1 : w2.frozen? ⟨X, 1, none⟩ = false := by
    obtain ⟨v, hX, _⟩ := hR2
    exact frozen_of_row w2 X 1 _ 50 hX
  have dw : IntKind.i64.wrap ((s.place : Int) + 1) = (s.place : Int) + 1 := IntWalk.i64_in _ (by omega)
  have hR3 := hR2.place (s.place + 1)
  have hV3 : Vk X w (w2.setCell ⟨X, 1, none⟩ (.int .i64 ((s.place + 1 : Nat) : Int))) := (hV1.trans hV2).trans Vk.setCell
  have hV23 : Vk X (w.alloc (Obj.cells #[.int .u8 1, .string a, .string b, .string c, .int .i64 n, .int .i64 m] 35)) (w2.setCell ⟨X, 1, none⟩ (.int .i64 ((s.place + 1 : Nat) : Int))) := hV2.trans Vk.setCell
  have d0 := hV23.1.cell hBX b0
  have d1 := hV23.1.cell hBX b1
  have d2 := hV23.1.cell hBX b2
  have d4 := hV23.1.cell hBX b4
  have eP : ((s.place + 1 : Nat) : Int) = (s.place : Int) + 1 := by omega
  rw [eP] at hR3 hV3 d0 d1 d2 d4
  clear b0 b1 b2 b4 hV1 hV2 hV23 hR2 eP hpay
  go_wp2_with fail
  generalize w2.setCell ⟨X, 1, none⟩ (.int .i64 ((s.place : Int) + 1)) = W3 at *
  clear c1 f1 dw
  refine wp_region_held_drew (S := fun W => W.cell? ⟨w.heap.size, 1, none⟩ = some (.string a) ∧ W.cell? ⟨w.heap.size, 2, none⟩ = some (.string b) ∧ Vk X W3 W) (by kernel_rfl) ⟨d1, d2, Vk.drew⟩ (fun hHeld => ?_)
  change wpAnyH _ _ _ _ _ (7 + 1) _ _ _
  refine wpAnyH_take (i := 0) (oi := ⟨some 20, .move (.tmp 0), _, _, _, none⟩) (v := ?_) rfl (by kernel_rfl) (by kernel_rfl) (by kernel_rfl) (fun _ _ _ h => h) (Or.inl ⟨by rfl, ?_⟩) (by assumption) ?_
  rotate_left
  · intro w hSw; (try dsimp only at hSw); go_simp; try (with_reducible rfl)
  try simp only [Act.put, List.setIfInBounds_toArray, List.set_cons_zero, List.set_cons_succ]
  change wpAnyH _ _ _ _ _ (6 + 1) _ _ _
  refine wpAnyH_take (i := 1) (oi := ⟨some 21, .fieldAddr 35 (.tmp 3) 2, _, _, _, none⟩) (v := ?_) rfl (by kernel_rfl) (by kernel_rfl) (by kernel_rfl) (fun _ _ _ h => h) (Or.inl ⟨by rfl, ?_⟩) (by assumption) ?_
  rotate_left
  · intro w hSw; (try dsimp only at hSw); go_simp; try (with_reducible rfl)
  try simp only [Act.put, List.setIfInBounds_toArray, List.set_cons_zero, List.set_cons_succ]
  change wpAnyH _ _ _ _ _ (5 + 1) _ _ _
  refine wpAnyH_take (i := 2) (oi := ⟨some 22, .load 9 (.tmp 21), _, _, _, none⟩) (v := ?_) rfl (by kernel_rfl) (by kernel_rfl) (by kernel_rfl) (fun _ _ _ h => h) (Or.inl ⟨by rfl, ?_⟩) (by assumption) ?_
  rotate_left
  · intro w hSw; (try dsimp only at hSw); go_simp; try (with_reducible rfl)
  try simp only [Act.put, List.setIfInBounds_toArray, List.set_cons_zero, List.set_cons_succ]
  change wpAnyH _ _ _ _ _ (4 + 1) _ _ _
  refine wpAnyH_take (i := 3) (oi := ⟨some 23, .move (.tmp 0), _, _, _, none⟩) (v := ?_) rfl (by kernel_rfl) (by kernel_rfl) (by kernel_rfl) (fun _ _ _ h => h) (Or.inl ⟨by rfl, ?_⟩) (by assumption) ?_
  rotate_left
  · intro w hSw; (try dsimp only at hSw); go_simp; try (with_reducible rfl)
  try simp only [Act.put, List.setIfInBounds_toArray, List.set_cons_zero, List.set_cons_succ]
  change wpAnyH _ _ _ _ _ (3 + 1) _ _ _
  refine wpAnyH_take (i := 4) (oi := ⟨some 24, .fieldAddr 35 (.tmp 3) 1, _, _, _, none⟩) (v := ?_) rfl (by kernel_rfl) (by kernel_rfl) (by kernel_rfl) (fun _ _ _ h => h) (Or.inl ⟨by rfl, ?_⟩) (by assumption) ?_
  rotate_left
  · intro w hSw; (try dsimp only at hSw); go_simp; try (with_reducible rfl)
  try simp only [Act.put, List.setIfInBounds_toArray, List.set_cons_zero, List.set_cons_succ]
  change wpAnyH _ _ _ _ _ (2 + 1) _ _ _
  refine wpAnyH_take (i := 5) (oi := ⟨some 25, .load 9 (.tmp 24), _, _, _, none⟩) (v := ?_) rfl (by kernel_rfl) (by kernel_rfl) (by kernel_rfl) (fun _ _ _ h => h) (Or.inl ⟨by rfl, ?_⟩) (by assumption) ?_
  rotate_left
  · intro w hSw; (try dsimp only at hSw); go_simp; try (with_reducible rfl)
  try simp only [Act.put, List.setIfInBounds_toArray, List.set_cons_zero, List.set_cons_succ]
  change wpAnyH _ _ _ _ _ (1 + 1) _ _ _
  refine wpAnyH_ready (rs := [6]) (by kernel_rfl) (by simp) ?_
  refine AllReadyH.cons (o := ⟨some 26, .call { callee := .value (.func 43), args := #[.tmp 23, .tmp 25], argTypes := #[48, 9] }, _, _, _, none⟩) rfl (fun K hK => ?_) AllReadyH.nil
  go_simp
  have hRd := hR3.below ((Below.refl _ _).drew)
  refine (vmGet_miss hRd hT hz a he).mono ?_
  rintro e w4 ⟨rfl, hB4⟩
  exact ⟨rfl, rfl, ⟨_, rfl, hRd.below hB4⟩, (hV3.trans Vk.drew).trans (Vk.below hB4)⟩

set_option maxRecDepth 100000 in
set_option maxHeartbeats 4000000 in
theorem step_pack {X fuel : Nat} {s : VM} {w : World} (h : Run X w fuel s) (hT : TOK s.t) (hz : szs s.t ≤ 4000) (hf : fuel ≤ 20000) (hpl : s.place ≤ 20000) {a b c : ByteArray} {n m : Int} (hd : POK a) (hp : POK b) (hTb : TOK (belowF a s.t)) (hzb : szs (belowF a s.t) ≤ 4000) (hne : ∀ f ∈ belowF a s.t, (a ++ slash ++ f.p).toList ≠ b.toList) (hraw : (rawL (belowF a s.t)).length ≤ 2000)
    (hlen : (putF b (rawL (belowF a s.t)) s.t).length ≤ 16) (hfuel : s.used + 1 + ((rawL (belowF a s.t)).length + 15) / 16 ≤ fuel) (hfit : szs (putF b (rawL (belowF a s.t)) s.t) ≤ 4000) :
    Calls Tryz.prog 33 #[.pointer (some ⟨X, 0, none⟩), insV 6 a b c n m] w (StepRet X fuel { t := putF b (rawL (belowF a s.t)) s.t, place := s.place + 1, used := s.used + 1 + ((rawL (belowF a s.t)).length + 15) / 16 } w) := by
  have hpay := pay_ok (n := 1) (h.below ((Below.refl _ _).alloc (Nat.le_refl _) (Obj.cells #[.int .u8 6, .string a, .string b, .string c, .int .i64 n, .int .i64 m] 35))) hf (by omega)
  have hlt := h.lt
  have hV1 : Vk X w (w.alloc (Obj.cells #[.int .u8 6, .string a, .string b, .string c, .int .i64 n, .int .i64 m] 35)) := Vk.below ((Below.refl _ _).alloc (Nat.le_refl _) _)
  have b0 : (w.alloc (Obj.cells #[.int .u8 6, .string a, .string b, .string c, .int .i64 n, .int .i64 m] 35)).cell? ⟨w.heap.size, 0, none⟩ = some (.int .u8 6) := by simp
  have b1 : (w.alloc (Obj.cells #[.int .u8 6, .string a, .string b, .string c, .int .i64 n, .int .i64 m] 35)).cell? ⟨w.heap.size, 1, none⟩ = some (.string a) := by simp
  have b2 : (w.alloc (Obj.cells #[.int .u8 6, .string a, .string b, .string c, .int .i64 n, .int .i64 m] 35)).cell? ⟨w.heap.size, 2, none⟩ = some (.string b) := by simp
  have b4 : (w.alloc (Obj.cells #[.int .u8 6, .string a, .string b, .string c, .int .i64 n, .int .i64 m] 35)).cell? ⟨w.heap.size, 4, none⟩ = some (.int .i64 n) := by simp
  have hBX : w.heap.size ≠ X := by omega
  unfold insV
  clear h
  go_enter Tryz.func33, Tryz.ntmps33
  go_wp2_with fail
  refine hpay.mono ?_
  rintro e w2 ⟨rfl, hR2, hV2⟩
  have c1 : w2.cell? ⟨X, 1, none⟩ = some (.int .i64 s.place) := by
    obtain ⟨v, hX, _⟩ := hR2
    exact cell_of_row w2 X 1 _ 50 (0, 0) hX
  have f1 : w2.frozen? ⟨X, 1, none⟩ = false := by
    obtain ⟨v, hX, _⟩ := hR2
    exact frozen_of_row w2 X 1 _ 50 hX
  have dw : IntKind.i64.wrap ((s.place : Int) + 1) = (s.place : Int) + 1 := IntWalk.i64_in _ (by omega)
  have hR3 := hR2.place (s.place + 1)
  have hV3 : Vk X w (w2.setCell ⟨X, 1, none⟩ (.int .i64 ((s.place + 1 : Nat) : Int))) := (hV1.trans hV2).trans Vk.setCell
  have hV23 : Vk X (w.alloc (Obj.cells #[.int .u8 6, .string a, .string b, .string c, .int .i64 n, .int .i64 m] 35)) (w2.setCell ⟨X, 1, none⟩ (.int .i64 ((s.place + 1 : Nat) : Int))) := hV2.trans Vk.setCell
  have d0 := hV23.1.cell hBX b0
  have d1 := hV23.1.cell hBX b1
  have d2 := hV23.1.cell hBX b2
  have d4 := hV23.1.cell hBX b4
  have eP : ((s.place + 1 : Nat) : Int) = (s.place : Int) + 1 := by omega
  rw [eP] at hR3 hV3 d0 d1 d2 d4
  clear b0 b1 b2 b4 hV1 hV2 hV23 hR2 eP hpay
  go_wp2_with fail
  generalize w2.setCell ⟨X, 1, none⟩ (.int .i64 ((s.place : Int) + 1)) = W3 at *
  clear c1 f1 dw
  refine wp_region_held_drew (S := fun W => W.cell? ⟨w.heap.size, 1, none⟩ = some (.string a) ∧ W.cell? ⟨w.heap.size, 2, none⟩ = some (.string b) ∧ Vk X W3 W) (by kernel_rfl) ⟨d1, d2, Vk.drew⟩ (fun hHeld => ?_)
  change wpAnyH _ _ _ _ _ (9 + 1) _ _ _
  refine wpAnyH_take (i := 0) (oi := ⟨some 89, .move (.tmp 0), _, _, _, none⟩) (v := ?_) rfl (by kernel_rfl) (by kernel_rfl) (by kernel_rfl) (fun _ _ _ h => h) (Or.inl ⟨by rfl, ?_⟩) (by assumption) ?_
  rotate_left
  · intro w hSw; (try dsimp only at hSw); go_simp; try (with_reducible rfl)
  try simp only [Act.put, List.setIfInBounds_toArray, List.set_cons_zero, List.set_cons_succ]
  change wpAnyH _ _ _ _ _ (8 + 1) _ _ _
  refine wpAnyH_take (i := 1) (oi := ⟨some 90, .fieldAddr 35 (.tmp 3) 2, _, _, _, none⟩) (v := ?_) rfl (by kernel_rfl) (by kernel_rfl) (by kernel_rfl) (fun _ _ _ h => h) (Or.inl ⟨by rfl, ?_⟩) (by assumption) ?_
  rotate_left
  · intro w hSw; (try dsimp only at hSw); go_simp; try (with_reducible rfl)
  try simp only [Act.put, List.setIfInBounds_toArray, List.set_cons_zero, List.set_cons_succ]
  change wpAnyH _ _ _ _ _ (7 + 1) _ _ _
  refine wpAnyH_take (i := 2) (oi := ⟨some 91, .load 9 (.tmp 90), _, _, _, none⟩) (v := ?_) rfl (by kernel_rfl) (by kernel_rfl) (by kernel_rfl) (fun _ _ _ h => h) (Or.inl ⟨by rfl, ?_⟩) (by assumption) ?_
  rotate_left
  · intro w hSw; (try dsimp only at hSw); go_simp; try (with_reducible rfl)
  try simp only [Act.put, List.setIfInBounds_toArray, List.set_cons_zero, List.set_cons_succ]
  change wpAnyH _ _ _ _ _ (6 + 1) _ _ _
  refine wpAnyH_take (i := 3) (oi := ⟨some 92, .move (.tmp 0), _, _, _, none⟩) (v := ?_) rfl (by kernel_rfl) (by kernel_rfl) (by kernel_rfl) (fun _ _ _ h => h) (Or.inl ⟨by rfl, ?_⟩) (by assumption) ?_
  rotate_left
  · intro w hSw; (try dsimp only at hSw); go_simp; try (with_reducible rfl)
  try simp only [Act.put, List.setIfInBounds_toArray, List.set_cons_zero, List.set_cons_succ]
  change wpAnyH _ _ _ _ _ (5 + 1) _ _ _
  refine wpAnyH_take (i := 4) (oi := ⟨some 93, .fieldAddr 35 (.tmp 3) 1, _, _, _, none⟩) (v := ?_) rfl (by kernel_rfl) (by kernel_rfl) (by kernel_rfl) (fun _ _ _ h => h) (Or.inl ⟨by rfl, ?_⟩) (by assumption) ?_
  rotate_left
  · intro w hSw; (try dsimp only at hSw); go_simp; try (with_reducible rfl)
  try simp only [Act.put, List.setIfInBounds_toArray, List.set_cons_zero, List.set_cons_succ]
  change wpAnyH _ _ _ _ _ (4 + 1) _ _ _
  refine wpAnyH_take (i := 5) (oi := ⟨some 94, .load 9 (.tmp 93), _, _, _, none⟩) (v := ?_) rfl (by kernel_rfl) (by kernel_rfl) (by kernel_rfl) (fun _ _ _ h => h) (Or.inl ⟨by rfl, ?_⟩) (by assumption) ?_
  rotate_left
  · intro w hSw; (try dsimp only at hSw); go_simp; try (with_reducible rfl)
  try simp only [Act.put, List.setIfInBounds_toArray, List.set_cons_zero, List.set_cons_succ]
  change wpAnyH _ _ _ _ _ (3 + 1) _ _ _
  refine wpAnyH_take (i := 6) (oi := ⟨some 95, .fieldAddr 35 (.tmp 3) 2, _, _, _, none⟩) (v := ?_) rfl (by kernel_rfl) (by kernel_rfl) (by kernel_rfl) (fun _ _ _ h => h) (Or.inl ⟨by rfl, ?_⟩) (by assumption) ?_
  rotate_left
  · intro w hSw; (try dsimp only at hSw); go_simp; try (with_reducible rfl)
  try simp only [Act.put, List.setIfInBounds_toArray, List.set_cons_zero, List.set_cons_succ]
  change wpAnyH _ _ _ _ _ (2 + 1) _ _ _
  refine wpAnyH_take (i := 7) (oi := ⟨some 96, .load 9 (.tmp 95), _, _, _, none⟩) (v := ?_) rfl (by kernel_rfl) (by kernel_rfl) (by kernel_rfl) (fun _ _ _ h => h) (Or.inl ⟨by rfl, ?_⟩) (by assumption) ?_
  rotate_left
  · intro w hSw; (try dsimp only at hSw); go_simp; try (with_reducible rfl)
  try simp only [Act.put, List.setIfInBounds_toArray, List.set_cons_zero, List.set_cons_succ]
  change wpAnyH _ _ _ _ _ (1 + 1) _ _ _
  refine wpAnyH_ready (rs := [8]) (by kernel_rfl) (by simp) ?_
  refine AllReadyH.cons (o := ⟨some 97, .call { callee := .value (.func 48), args := #[.tmp 92, .tmp 94, .tmp 96], argTypes := #[48, 9, 9] }, _, _, _, none⟩) rfl (fun K hK => ?_) AllReadyH.nil
  go_simp
  have hRd := hR3.below ((Below.refl _ _).drew)
  have hltd := hRd.lt
  refine (pack_f hRd hT hz hd hTb hzb hne).mono ?_
  rintro e w4 ⟨v4, rfl, hr4, hB4⟩
  refine hK.out _ _ (keepV hHeld rfl rfl hBX hBX (Vk.below hB4)) (fun hH2 => ?_)
  clear hK K
  try simp only [Act.put, List.setIfInBounds_toArray, List.set_cons_zero, List.set_cons_succ]
  change wpAnyH _ _ _ _ _ (0 + 1) _ _ _
  refine wpAnyH_ready (rs := [9]) (by kernel_rfl) (by simp) ?_
  refine AllReadyH.cons (o := ⟨some 98, .call { callee := .value (.func 42), args := #[.tmp 89, .tmp 91, .tmp 97], argTypes := #[48, 9, 26] }, _, _, _, none⟩) rfl (fun K hK => ?_) AllReadyH.nil
  go_simp
  refine (put_ok (hRd.below hB4) hT hz hf hp hr4 (fun q hq e => by have hq' : W3.drew.heap.size ≤ q := hq; omega) hraw hlen (by simp only; omega) hfit).mono ?_
  rintro e w5 ⟨rfl, hR5, hV5⟩
  refine hK.out _ _ (keepV hH2 rfl rfl hBX hBX hV5) (fun hH3 => ?_)
  clear hK K
  try simp only [Act.put, List.setIfInBounds_toArray, List.set_cons_zero, List.set_cons_succ]
  refine wpAnyH_done (by kernel_rfl) ?_ _
  have hVe := hV3.trans hH3.2.2
  clear hHeld hH2 hH3 d0 d1 d2 d4
  go_wp2
  go_end0
  exact ⟨rfl, hR5, hVe⟩

set_option maxRecDepth 100000 in
set_option maxHeartbeats 4000000 in
theorem step_pack_full {X fuel : Nat} {s : VM} {w : World} (h : Run X w fuel s) (hT : TOK s.t) (hz : szs s.t ≤ 4000) (hf : fuel ≤ 20000) (hpl : s.place ≤ 20000) {a b c : ByteArray} {n m : Int} (hd : POK a) (hp : POK b) (hTb : TOK (belowF a s.t)) (hzb : szs (belowF a s.t) ≤ 4000) (hne : ∀ f ∈ belowF a s.t, (a ++ slash ++ f.p).toList ≠ b.toList) (hraw : (rawL (belowF a s.t)).length ≤ 2000)
    (hlen : (putF b (rawL (belowF a s.t)) s.t).length ≤ 16) (hfuel : s.used + 1 + ((rawL (belowF a s.t)).length + 15) / 16 ≤ fuel) (hfit : ¬ szs (putF b (rawL (belowF a s.t)) s.t) ≤ 4000) :
    Calls Tryz.prog 33 #[.pointer (some ⟨X, 0, none⟩), insV 6 a b c n m] w (StepFull X fuel w) := by
  have hpay := pay_ok (n := 1) (h.below ((Below.refl _ _).alloc (Nat.le_refl _) (Obj.cells #[.int .u8 6, .string a, .string b, .string c, .int .i64 n, .int .i64 m] 35))) hf (by omega)
  have hlt := h.lt
  have hV1 : Vk X w (w.alloc (Obj.cells #[.int .u8 6, .string a, .string b, .string c, .int .i64 n, .int .i64 m] 35)) := Vk.below ((Below.refl _ _).alloc (Nat.le_refl _) _)
  have b0 : (w.alloc (Obj.cells #[.int .u8 6, .string a, .string b, .string c, .int .i64 n, .int .i64 m] 35)).cell? ⟨w.heap.size, 0, none⟩ = some (.int .u8 6) := by simp
  have b1 : (w.alloc (Obj.cells #[.int .u8 6, .string a, .string b, .string c, .int .i64 n, .int .i64 m] 35)).cell? ⟨w.heap.size, 1, none⟩ = some (.string a) := by simp
  have b2 : (w.alloc (Obj.cells #[.int .u8 6, .string a, .string b, .string c, .int .i64 n, .int .i64 m] 35)).cell? ⟨w.heap.size, 2, none⟩ = some (.string b) := by simp
  have b4 : (w.alloc (Obj.cells #[.int .u8 6, .string a, .string b, .string c, .int .i64 n, .int .i64 m] 35)).cell? ⟨w.heap.size, 4, none⟩ = some (.int .i64 n) := by simp
  have hBX : w.heap.size ≠ X := by omega
  unfold insV
  clear h
  go_enter Tryz.func33, Tryz.ntmps33
  go_wp2_with fail
  refine hpay.mono ?_
  rintro e w2 ⟨rfl, hR2, hV2⟩
  have c1 : w2.cell? ⟨X, 1, none⟩ = some (.int .i64 s.place) := by
    obtain ⟨v, hX, _⟩ := hR2
    exact cell_of_row w2 X 1 _ 50 (0, 0) hX
  have f1 : w2.frozen? ⟨X, 1, none⟩ = false := by
    obtain ⟨v, hX, _⟩ := hR2
    exact frozen_of_row w2 X 1 _ 50 hX
  have dw : IntKind.i64.wrap ((s.place : Int) + 1) = (s.place : Int) + 1 := IntWalk.i64_in _ (by omega)
  have hR3 := hR2.place (s.place + 1)
  have hV3 : Vk X w (w2.setCell ⟨X, 1, none⟩ (.int .i64 ((s.place + 1 : Nat) : Int))) := (hV1.trans hV2).trans Vk.setCell
  have hV23 : Vk X (w.alloc (Obj.cells #[.int .u8 6, .string a, .string b, .string c, .int .i64 n, .int .i64 m] 35)) (w2.setCell ⟨X, 1, none⟩ (.int .i64 ((s.place + 1 : Nat) : Int))) := hV2.trans Vk.setCell
  have d0 := hV23.1.cell hBX b0
  have d1 := hV23.1.cell hBX b1
  have d2 := hV23.1.cell hBX b2
  have d4 := hV23.1.cell hBX b4
  have eP : ((s.place + 1 : Nat) : Int) = (s.place : Int) + 1 := by omega
  rw [eP] at hR3 hV3 d0 d1 d2 d4
  clear b0 b1 b2 b4 hV1 hV2 hV23 hR2 eP hpay
  go_wp2_with fail
  generalize w2.setCell ⟨X, 1, none⟩ (.int .i64 ((s.place : Int) + 1)) = W3 at *
  clear c1 f1 dw
  refine wp_region_held_drew (S := fun W => W.cell? ⟨w.heap.size, 1, none⟩ = some (.string a) ∧ W.cell? ⟨w.heap.size, 2, none⟩ = some (.string b) ∧ Vk X W3 W) (by kernel_rfl) ⟨d1, d2, Vk.drew⟩ (fun hHeld => ?_)
  change wpAnyH _ _ _ _ _ (9 + 1) _ _ _
  refine wpAnyH_take (i := 0) (oi := ⟨some 89, .move (.tmp 0), _, _, _, none⟩) (v := ?_) rfl (by kernel_rfl) (by kernel_rfl) (by kernel_rfl) (fun _ _ _ h => h) (Or.inl ⟨by rfl, ?_⟩) (by assumption) ?_
  rotate_left
  · intro w hSw; (try dsimp only at hSw); go_simp; try (with_reducible rfl)
  try simp only [Act.put, List.setIfInBounds_toArray, List.set_cons_zero, List.set_cons_succ]
  change wpAnyH _ _ _ _ _ (8 + 1) _ _ _
  refine wpAnyH_take (i := 1) (oi := ⟨some 90, .fieldAddr 35 (.tmp 3) 2, _, _, _, none⟩) (v := ?_) rfl (by kernel_rfl) (by kernel_rfl) (by kernel_rfl) (fun _ _ _ h => h) (Or.inl ⟨by rfl, ?_⟩) (by assumption) ?_
  rotate_left
  · intro w hSw; (try dsimp only at hSw); go_simp; try (with_reducible rfl)
  try simp only [Act.put, List.setIfInBounds_toArray, List.set_cons_zero, List.set_cons_succ]
  change wpAnyH _ _ _ _ _ (7 + 1) _ _ _
  refine wpAnyH_take (i := 2) (oi := ⟨some 91, .load 9 (.tmp 90), _, _, _, none⟩) (v := ?_) rfl (by kernel_rfl) (by kernel_rfl) (by kernel_rfl) (fun _ _ _ h => h) (Or.inl ⟨by rfl, ?_⟩) (by assumption) ?_
  rotate_left
  · intro w hSw; (try dsimp only at hSw); go_simp; try (with_reducible rfl)
  try simp only [Act.put, List.setIfInBounds_toArray, List.set_cons_zero, List.set_cons_succ]
  change wpAnyH _ _ _ _ _ (6 + 1) _ _ _
  refine wpAnyH_take (i := 3) (oi := ⟨some 92, .move (.tmp 0), _, _, _, none⟩) (v := ?_) rfl (by kernel_rfl) (by kernel_rfl) (by kernel_rfl) (fun _ _ _ h => h) (Or.inl ⟨by rfl, ?_⟩) (by assumption) ?_
  rotate_left
  · intro w hSw; (try dsimp only at hSw); go_simp; try (with_reducible rfl)
  try simp only [Act.put, List.setIfInBounds_toArray, List.set_cons_zero, List.set_cons_succ]
  change wpAnyH _ _ _ _ _ (5 + 1) _ _ _
  refine wpAnyH_take (i := 4) (oi := ⟨some 93, .fieldAddr 35 (.tmp 3) 1, _, _, _, none⟩) (v := ?_) rfl (by kernel_rfl) (by kernel_rfl) (by kernel_rfl) (fun _ _ _ h => h) (Or.inl ⟨by rfl, ?_⟩) (by assumption) ?_
  rotate_left
  · intro w hSw; (try dsimp only at hSw); go_simp; try (with_reducible rfl)
  try simp only [Act.put, List.setIfInBounds_toArray, List.set_cons_zero, List.set_cons_succ]
  change wpAnyH _ _ _ _ _ (4 + 1) _ _ _
  refine wpAnyH_take (i := 5) (oi := ⟨some 94, .load 9 (.tmp 93), _, _, _, none⟩) (v := ?_) rfl (by kernel_rfl) (by kernel_rfl) (by kernel_rfl) (fun _ _ _ h => h) (Or.inl ⟨by rfl, ?_⟩) (by assumption) ?_
  rotate_left
  · intro w hSw; (try dsimp only at hSw); go_simp; try (with_reducible rfl)
  try simp only [Act.put, List.setIfInBounds_toArray, List.set_cons_zero, List.set_cons_succ]
  change wpAnyH _ _ _ _ _ (3 + 1) _ _ _
  refine wpAnyH_take (i := 6) (oi := ⟨some 95, .fieldAddr 35 (.tmp 3) 2, _, _, _, none⟩) (v := ?_) rfl (by kernel_rfl) (by kernel_rfl) (by kernel_rfl) (fun _ _ _ h => h) (Or.inl ⟨by rfl, ?_⟩) (by assumption) ?_
  rotate_left
  · intro w hSw; (try dsimp only at hSw); go_simp; try (with_reducible rfl)
  try simp only [Act.put, List.setIfInBounds_toArray, List.set_cons_zero, List.set_cons_succ]
  change wpAnyH _ _ _ _ _ (2 + 1) _ _ _
  refine wpAnyH_take (i := 7) (oi := ⟨some 96, .load 9 (.tmp 95), _, _, _, none⟩) (v := ?_) rfl (by kernel_rfl) (by kernel_rfl) (by kernel_rfl) (fun _ _ _ h => h) (Or.inl ⟨by rfl, ?_⟩) (by assumption) ?_
  rotate_left
  · intro w hSw; (try dsimp only at hSw); go_simp; try (with_reducible rfl)
  try simp only [Act.put, List.setIfInBounds_toArray, List.set_cons_zero, List.set_cons_succ]
  change wpAnyH _ _ _ _ _ (1 + 1) _ _ _
  refine wpAnyH_ready (rs := [8]) (by kernel_rfl) (by simp) ?_
  refine AllReadyH.cons (o := ⟨some 97, .call { callee := .value (.func 48), args := #[.tmp 92, .tmp 94, .tmp 96], argTypes := #[48, 9, 9] }, _, _, _, none⟩) rfl (fun K hK => ?_) AllReadyH.nil
  go_simp
  have hRd := hR3.below ((Below.refl _ _).drew)
  have hltd := hRd.lt
  refine (pack_f hRd hT hz hd hTb hzb hne).mono ?_
  rintro e w4 ⟨v4, rfl, hr4, hB4⟩
  refine hK.out _ _ (keepV hHeld rfl rfl hBX hBX (Vk.below hB4)) (fun hH2 => ?_)
  clear hK K
  try simp only [Act.put, List.setIfInBounds_toArray, List.set_cons_zero, List.set_cons_succ]
  change wpAnyH _ _ _ _ _ (0 + 1) _ _ _
  refine wpAnyH_ready (rs := [9]) (by kernel_rfl) (by simp) ?_
  refine AllReadyH.cons (o := ⟨some 98, .call { callee := .value (.func 42), args := #[.tmp 89, .tmp 91, .tmp 97], argTypes := #[48, 9, 26] }, _, _, _, none⟩) rfl (fun K hK => ?_) AllReadyH.nil
  go_simp
  refine (put_full (hRd.below hB4) hT hz hf hp hr4 (fun q hq e => by have hq' : W3.drew.heap.size ≤ q := hq; omega) hraw hlen (by simp only; omega) hfit).mono ?_
  rintro e w5 ⟨rfl, hs5, hV5⟩
  exact ⟨rfl, rfl, hs5, (hV3.trans hH2.2.2).trans hV5⟩

set_option maxRecDepth 100000 in
set_option maxHeartbeats 4000000 in
theorem step_jump {X fuel : Nat} {s : VM} {w : World} (h : Run X w fuel s) (hf : fuel ≤ 20000) (hpl : s.place ≤ 20000) {a b c : ByteArray} {n : Nat} {m : Int} (hfuel : s.used + 1 ≤ fuel) :
    Calls Tryz.prog 33 #[.pointer (some ⟨X, 0, none⟩), insV 8 a b c n m] w (StepRet X fuel { t := s.t, place := n, used := s.used + 1 } w) := by
  have hpay := pay_ok (n := 1) (h.below ((Below.refl _ _).alloc (Nat.le_refl _) (Obj.cells #[.int .u8 8, .string a, .string b, .string c, .int .i64 n, .int .i64 m] 35))) hf (by omega)
  have hlt := h.lt
  have hV1 : Vk X w (w.alloc (Obj.cells #[.int .u8 8, .string a, .string b, .string c, .int .i64 n, .int .i64 m] 35)) := Vk.below ((Below.refl _ _).alloc (Nat.le_refl _) _)
  have b0 : (w.alloc (Obj.cells #[.int .u8 8, .string a, .string b, .string c, .int .i64 n, .int .i64 m] 35)).cell? ⟨w.heap.size, 0, none⟩ = some (.int .u8 8) := by simp
  have b1 : (w.alloc (Obj.cells #[.int .u8 8, .string a, .string b, .string c, .int .i64 n, .int .i64 m] 35)).cell? ⟨w.heap.size, 1, none⟩ = some (.string a) := by simp
  have b2 : (w.alloc (Obj.cells #[.int .u8 8, .string a, .string b, .string c, .int .i64 n, .int .i64 m] 35)).cell? ⟨w.heap.size, 2, none⟩ = some (.string b) := by simp
  have b4 : (w.alloc (Obj.cells #[.int .u8 8, .string a, .string b, .string c, .int .i64 n, .int .i64 m] 35)).cell? ⟨w.heap.size, 4, none⟩ = some (.int .i64 n) := by simp
  have hBX : w.heap.size ≠ X := by omega
  unfold insV
  clear h
  go_enter Tryz.func33, Tryz.ntmps33
  go_wp2_with fail
  refine hpay.mono ?_
  rintro e w2 ⟨rfl, hR2, hV2⟩
  have c1 : w2.cell? ⟨X, 1, none⟩ = some (.int .i64 s.place) := by
    obtain ⟨v, hX, _⟩ := hR2
    exact cell_of_row w2 X 1 _ 50 (0, 0) hX
  have f1 : w2.frozen? ⟨X, 1, none⟩ = false := by
    obtain ⟨v, hX, _⟩ := hR2
    exact frozen_of_row w2 X 1 _ 50 hX
  have dw : IntKind.i64.wrap ((s.place : Int) + 1) = (s.place : Int) + 1 := IntWalk.i64_in _ (by omega)
  have hR3 := hR2.place (s.place + 1)
  have hV3 : Vk X w (w2.setCell ⟨X, 1, none⟩ (.int .i64 ((s.place + 1 : Nat) : Int))) := (hV1.trans hV2).trans Vk.setCell
  have hV23 : Vk X (w.alloc (Obj.cells #[.int .u8 8, .string a, .string b, .string c, .int .i64 n, .int .i64 m] 35)) (w2.setCell ⟨X, 1, none⟩ (.int .i64 ((s.place + 1 : Nat) : Int))) := hV2.trans Vk.setCell
  have d0 := hV23.1.cell hBX b0
  have d1 := hV23.1.cell hBX b1
  have d2 := hV23.1.cell hBX b2
  have d4 := hV23.1.cell hBX b4
  have eP : ((s.place + 1 : Nat) : Int) = (s.place : Int) + 1 := by omega
  rw [eP] at hR3 hV3 d0 d1 d2 d4
  clear b0 b1 b2 b4 hV1 hV2 hV23 hR2 eP hpay
  have f1' : (w2.setCell ⟨X, 1, none⟩ (.int .i64 ((s.place : Int) + 1))).frozen? ⟨X, 1, none⟩ = false := by
    obtain ⟨v, hX, _⟩ := hR3
    exact frozen_of_row _ X 1 _ 50 hX
  go_wp2
  go_end0
  exact ⟨rfl, hR3.place n, hV3.trans Vk.setCell⟩
end Go.Proofs.YteckjgngglpcaaaGreatDoor
