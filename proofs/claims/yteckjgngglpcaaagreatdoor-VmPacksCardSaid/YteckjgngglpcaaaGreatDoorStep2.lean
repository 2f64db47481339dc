/-
  The machine's steps: unpacking, sorting.
-/
import Derived.Test.YteckjgngglpcaaaGreatDoorStep
namespace Go.Proofs.YteckjgngglpcaaaGreatDoor
open Go.RowKit

/-- What a step that unpacks does. -/
def StepUn (X fuel : Nat) (s : VM) (u : List Fi) (w : World) (x : Ending) (w' : World) : Prop :=
  Vk X w w' ∧ ((x = .returned (.tuple #[]) ∧ Run X w' fuel { t := putAll u s.t, place := s.place + 1, used := s.used + 1 + costs u } ∧ TOK (putAll u s.t) ∧ szs (putAll u s.t) ≤ 4000) ∨
    (x = .panicked (stopC 8) ∧ (∃ s', Run X w' fuel s') ∧ ∃ k, k ≤ u.length ∧ ¬ szs (putAll (u.take k) s.t) ≤ 4000))

set_option maxRecDepth 100000 in
set_option maxHeartbeats 4000000 in
theorem step_unpack {X fuel : Nat} {s : VM} {w : World} (h : Run X w fuel s) (hT : TOK s.t) (hz : szs s.t ≤ 4000) (hf : fuel ≤ 20000) (hpl : s.place ≤ 20000) {a b c : ByteArray} {n m : Int} {k : Nat} (hk : k < s.t.length) (he : s.t[k].p.toList = a.toList) {tt : List Fi} (hb : s.t[k].b = rawL tt) (hTt : TOK tt) (hzt : szs tt ≤ 4000) (hd : POK b)
    (hfit : ∀ i (h : i < tt.length), b.size + 1 + tt[i].p.size ≤ 40) (h16 : ∀ k, k ≤ tt.length → (putAll ((tt.map (pre b)).take k) s.t).length ≤ 16) (hfuel : s.used + 1 + costs (tt.map (pre b)) ≤ fuel) :
    Calls Tryz.prog 33 #[.pointer (some ⟨X, 0, none⟩), insV 7 a b c n m] w (StepUn X fuel s (tt.map (pre b)) w) := by
  have hpay := pay_ok (n := 1) (h.below ((Below.refl _ _).alloc (Nat.le_refl _) (Obj.cells #[.int .u8 7, .string a, .string b, .string c, .int .i64 n, .int .i64 m] 35))) hf (by omega)
  have hlt := h.lt
  have hV1 : Vk X w (w.alloc (Obj.cells #[.int .u8 7, .string a, .string b, .string c, .int .i64 n, .int .i64 m] 35)) := Vk.below ((Below.refl _ _).alloc (Nat.le_refl _) _)
  have b0 : (w.alloc (Obj.cells #[.int .u8 7, .string a, .string b, .string c, .int .i64 n, .int .i64 m] 35)).cell? ⟨w.heap.size, 0, none⟩ = some (.int .u8 7) := by simp
  have b1 : (w.alloc (Obj.cells #[.int .u8 7, .string a, .string b, .string c, .int .i64 n, .int .i64 m] 35)).cell? ⟨w.heap.size, 1, none⟩ = some (.string a) := by simp
  have b2 : (w.alloc (Obj.cells #[.int .u8 7, .string a, .string b, .string c, .int .i64 n, .int .i64 m] 35)).cell? ⟨w.heap.size, 2, none⟩ = some (.string b) := by simp
  have b4 : (w.alloc (Obj.cells #[.int .u8 7, .string a, .string b, .string c, .int .i64 n, .int .i64 m] 35)).cell? ⟨w.heap.size, 4, none⟩ = some (.int .i64 n) := by simp
  have hBX : w.heap.size ≠ X := by omega
  unfold insV
  clear h
  go_enter Tryz.func33, Tryz.ntmps33
  go_wp2_with fail
  refine hpay.mono ?_
  rintro e w2 ⟨rfl, hR2, hV2⟩
  have c1 : w2.cell? ⟨X, 1, none⟩ = some (.int .i64 s.place) := by
    obtain ⟨v, hX, _⟩ := hR2
    exact cell_of_row w2 X 1 _ 50 (0, 0) hX
  have f1 : w2.frozen? ⟨X, 1, none⟩ = false := by
    obtain ⟨v, hX, _⟩ := hR2
    exact frozen_of_row w2 X 1 _ 50 hX
  have dw : IntKind.i64.wrap ((s.place : Int) + 1) = (s.place : Int) + 1 := IntWalk.i64_in _ (by omega)
  have hR3 := hR2.place (s.place + 1)
  have hV3 : Vk X w (w2.setCell ⟨X, 1, none⟩ (.int .i64 ((s.place + 1 : Nat) : Int))) := (hV1.trans hV2).trans Vk.setCell
  have hV23 : Vk X (w.alloc (Obj.cells #[.int .u8 7, .string a, .string b, .string c, .int .i64 n, .int .i64 m] 35)) (w2.setCell ⟨X, 1, none⟩ (.int .i64 ((s.place + 1 : Nat) : Int))) := hV2.trans Vk.setCell
  have d0 := hV23.1.cell hBX b0
  have d1 := hV23.1.cell hBX b1
  have d2 := hV23.1.cell hBX b2
  have d4 := hV23.1.cell hBX b4
  have eP : ((s.place + 1 : Nat) : Int) = (s.place : Int) + 1 := by omega
  rw [eP] at hR3 hV3 d0 d1 d2 d4
  clear b0 b1 b2 b4 hV1 hV2 hV23 hR2 eP hpay
  go_wp2_with fail
  generalize w2.setCell ⟨X, 1, none⟩ (.int .i64 ((s.place : Int) + 1)) = W3 at *
  clear c1 f1 dw
  refine wp_region_held_drew (S := fun W => W.cell? ⟨w.heap.size, 1, none⟩ = some (.string a) ∧ W.cell? ⟨w.heap.size, 2, none⟩ = some (.string b) ∧ Vk X W3 W) (by kernel_rfl) ⟨d1, d2, Vk.drew⟩ (fun hHeld => ?_)
  change wpAnyH _ _ _ _ _ (7 + 1) _ _ _
  refine wpAnyH_take (i := 0) (oi := ⟨some 101, .move (.tmp 0), _, _, _, none⟩) (v := ?_) rfl (by kernel_rfl) (by kernel_rfl) (by kernel_rfl) (fun _ _ _ h => h) (Or.inl ⟨by rfl, ?_⟩) (by assumption) ?_
  rotate_left
  · intro w hSw; (try dsimp only at hSw); go_simp; try (with_reducible rfl)
  try simp only [Act.put, List.setIfInBounds_toArray, List.set_cons_zero, List.set_cons_succ]
  change wpAnyH _ _ _ _ _ (6 + 1) _ _ _
  refine wpAnyH_take (i := 1) (oi := ⟨some 102, .move (.tmp 0), _, _, _, none⟩) (v := ?_) rfl (by kernel_rfl) (by kernel_rfl) (by kernel_rfl) (fun _ _ _ h => h) (Or.inl ⟨by rfl, ?_⟩) (by assumption) ?_
  rotate_left
  · intro w hSw; (try dsimp only at hSw); go_simp; try (with_reducible rfl)
  try simp only [Act.put, List.setIfInBounds_toArray, List.set_cons_zero, List.set_cons_succ]
  change wpAnyH _ _ _ _ _ (5 + 1) _ _ _
  refine wpAnyH_take (i := 2) (oi := ⟨some 103, .fieldAddr 35 (.tmp 3) 1, _, _, _, none⟩) (v := ?_) rfl (by kernel_rfl) (by kernel_rfl) (by kernel_rfl) (fun _ _ _ h => h) (Or.inl ⟨by rfl, ?_⟩) (by assumption) ?_
  rotate_left
  · intro w hSw; (try dsimp only at hSw); go_simp; try (with_reducible rfl)
  try simp only [Act.put, List.setIfInBounds_toArray, List.set_cons_zero, List.set_cons_succ]
  change wpAnyH _ _ _ _ _ (4 + 1) _ _ _
  refine wpAnyH_take (i := 3) (oi := ⟨some 104, .load 9 (.tmp 103), _, _, _, none⟩) (v := ?_) rfl (by kernel_rfl) (by kernel_rfl) (by kernel_rfl) (fun _ _ _ h => h) (Or.inl ⟨by rfl, ?_⟩) (by assumption) ?_
  rotate_left
  · intro w hSw; (try dsimp only at hSw); go_simp; try (with_reducible rfl)
  try simp only [Act.put, List.setIfInBounds_toArray, List.set_cons_zero, List.set_cons_succ]
  change wpAnyH _ _ _ _ _ (3 + 1) _ _ _
  refine wpAnyH_take (i := 5) (oi := ⟨some 106, .fieldAddr 35 (.tmp 3) 2, _, _, _, none⟩) (v := ?_) rfl (by kernel_rfl) (by kernel_rfl) (by kernel_rfl) (fun _ _ _ h => h) (Or.inl ⟨by rfl, ?_⟩) (by assumption) ?_
  rotate_left
  · intro w hSw; (try dsimp only at hSw); go_simp; try (with_reducible rfl)
  try simp only [Act.put, List.setIfInBounds_toArray, List.set_cons_zero, List.set_cons_succ]
  change wpAnyH _ _ _ _ _ (2 + 1) _ _ _
  refine wpAnyH_take (i := 6) (oi := ⟨some 107, .load 9 (.tmp 106), _, _, _, none⟩) (v := ?_) rfl (by kernel_rfl) (by kernel_rfl) (by kernel_rfl) (fun _ _ _ h => h) (Or.inl ⟨by rfl, ?_⟩) (by assumption) ?_
  rotate_left
  · intro w hSw; (try dsimp only at hSw); go_simp; try (with_reducible rfl)
  try simp only [Act.put, List.setIfInBounds_toArray, List.set_cons_zero, List.set_cons_succ]
  change wpAnyH _ _ _ _ _ (1 + 1) _ _ _
  refine wpAnyH_ready (rs := [4]) (by kernel_rfl) (by simp) ?_
  refine AllReadyH.cons (o := ⟨some 105, .call { callee := .value (.func 43), args := #[.tmp 102, .tmp 104], argTypes := #[48, 9] }, _, _, _, none⟩) rfl (fun K hK => ?_) AllReadyH.nil
  go_simp
  have hRd := hR3.below ((Below.refl _ _).drew)
  have hltd := hRd.lt
  refine (vmGet_hit hRd hT hz a hk he).mono ?_
  rintro e w4 ⟨v4, rfl, hr4, hB4⟩
  refine hK.out _ _ (keepV hHeld rfl rfl hBX hBX (Vk.below hB4)) (fun hH2 => ?_)
  clear hK K
  try simp only [Act.put, List.setIfInBounds_toArray, List.set_cons_zero, List.set_cons_succ]
  change wpAnyH _ _ _ _ _ (0 + 1) _ _ _
  refine wpAnyH_ready (rs := [7]) (by kernel_rfl) (by simp) ?_
  refine AllReadyH.cons (o := ⟨some 108, .call { callee := .value (.func 49), args := #[.tmp 101, .tmp 105, .tmp 107], argTypes := #[48, 26, 9] }, _, _, _, none⟩) rfl (fun K hK => ?_) AllReadyH.nil
  go_simp
  rw [hb] at hr4
  refine (unpack_f (hRd.below hB4) hT hz hf hr4 hTt hzt hd hfit h16 (by simp only; omega)).mono ?_
  rintro e w5 ⟨hV5, ⟨rfl, hR5, hTp, hzp⟩ | ⟨rfl, hs5, hk5⟩⟩
  rotate_left
  · exact ⟨rfl, (hV3.trans hH2.2.2).trans hV5, .inr ⟨rfl, hs5, hk5⟩⟩
  refine hK.out _ _ (keepV hH2 rfl rfl hBX hBX hV5) (fun hH3 => ?_)
  clear hK K
  try simp only [Act.put, List.setIfInBounds_toArray, List.set_cons_zero, List.set_cons_succ]
  refine wpAnyH_done (by kernel_rfl) ?_ _
  have hVe := hV3.trans hH3.2.2
  clear hHeld hH2 hH3 d0 d1 d2 d4
  go_wp2
  go_end0
  exact ⟨hVe, .inl ⟨rfl, hR5, hTp, hzp⟩⟩

set_option maxRecDepth 100000 in
set_option maxHeartbeats 4000000 in
theorem step_sort {X fuel : Nat} {s : VM} {w : World} (h : Run X w fuel s) (hT : TOK s.t) (hz : szs s.t ≤ 4000) (hf : fuel ≤ 20000) (hpl : s.place ≤ 20000) {a b c : ByteArray} {n m : Int} {k : Nat} (hk : k < s.t.length) (he : s.t[k].p.toList = a.toList) {l : List UInt8} (hsort : ∀ (P : Nat → Prop) (W : World) (v : Value), RdB P W v s.t[k].b → Calls Tryz.prog 47 #[v] W (RetB l W)) (hll : l.length ≤ 2000)
    (hp : POK a) (hlen : (putF a l s.t).length ≤ 16) (hfuel : s.used + 1 + (l.length + 15) / 16 ≤ fuel) (hfit : szs (putF a l s.t) ≤ 4000) :
    Calls Tryz.prog 33 #[.pointer (some ⟨X, 0, none⟩), insV 5 a b c n m] w (StepRet X fuel { t := putF a l s.t, place := s.place + 1, used := s.used + 1 + (l.length + 15) / 16 } w) := by
  have hpay := pay_ok (n := 1) (h.below ((Below.refl _ _).alloc (Nat.le_refl _) (Obj.cells #[.int .u8 5, .string a, .string b, .string c, .int .i64 n, .int .i64 m] 35))) hf (by omega)
  have hlt := h.lt
  have hV1 : Vk X w (w.alloc (Obj.cells #[.int .u8 5, .string a, .string b, .string c, .int .i64 n, .int .i64 m] 35)) := Vk.below ((Below.refl _ _).alloc (Nat.le_refl _) _)
  have b0 : (w.alloc (Obj.cells #[.int .u8 5, .string a, .string b, .string c, .int .i64 n, .int .i64 m] 35)).cell? ⟨w.heap.size, 0, none⟩ = some (.int .u8 5) := by simp
  have b1 : (w.alloc (Obj.cells #[.int .u8 5, .string a, .string b, .string c, .int .i64 n, .int .i64 m] 35)).cell? ⟨w.heap.size, 1, none⟩ = some (.string a) := by simp
  have b2 : (w.alloc (Obj.cells #[.int .u8 5, .string a, .string b, .string c, .int .i64 n, .int .i64 m] 35)).cell? ⟨w.heap.size, 2, none⟩ = some (.string b) := by simp
  have b4 : (w.alloc (Obj.cells #[.int .u8 5, .string a, .string b, .string c, .int .i64 n, .int .i64 m] 35)).cell? ⟨w.heap.size, 4, none⟩ = some (.int .i64 n) := by simp
  have hBX : w.heap.size ≠ X := by omega
  unfold insV
  clear h
  go_enter Tryz.func33, Tryz.ntmps33
  go_wp2_with fail
  refine hpay.mono ?_
  rintro e w2 ⟨rfl, hR2, hV2⟩
  have c1 : w2.cell? ⟨X, 1, none⟩ = some (.int .i64 s.place) := by
    obtain ⟨v, hX, _⟩ := hR2
    exact cell_of_row w2 X 1 _ 50 (0, 0) hX
  have f1 : w2.frozen? ⟨X, 1, none⟩ = false := by
    obtain ⟨v, hX, _⟩ := hR2
    exact frozen_of_row w2 X 1 _ 50 hX
  have dw : IntKind.i64.wrap ((s.place : Int) + 1) = (s.place : Int) + 1 := IntWalk.i64_in _ (by omega)
  have hR3 := hR2.place (s.place + 1)
  have hV3 : Vk X w (w2.setCell ⟨X, 1, none⟩ (.int .i64 ((s.place + 1 : Nat) : Int))) := (hV1.trans hV2).trans Vk.setCell
  have hV23 : Vk X (w.alloc (Obj.cells #[.int .u8 5, .string a, .string b, .string c, .int .i64 n, .int .i64 m] 35)) (w2.setCell ⟨X, 1, none⟩ (.int .i64 ((s.place + 1 : Nat) : Int))) := hV2.trans Vk.setCell
  have d0 := hV23.1.cell hBX b0
  have d1 := hV23.1.cell hBX b1
  have d2 := hV23.1.cell hBX b2
  have d4 := hV23.1.cell hBX b4
  have eP : ((s.place + 1 : Nat) : Int) = (s.place : Int) + 1 := by omega
  rw [eP] at hR3 hV3 d0 d1 d2 d4
  clear b0 b1 b2 b4 hV1 hV2 hV23 hR2 eP hpay
  go_wp2_with fail
  generalize w2.setCell ⟨X, 1, none⟩ (.int .i64 ((s.place : Int) + 1)) = W3 at *
  clear c1 f1 dw
  refine wp_region_held_drew (S := fun W => W.cell? ⟨w.heap.size, 1, none⟩ = some (.string a) ∧ W.cell? ⟨w.heap.size, 2, none⟩ = some (.string b) ∧ Vk X W3 W) (by kernel_rfl) ⟨d1, d2, Vk.drew⟩ (fun hHeld => ?_)
  change wpAnyH _ _ _ _ _ (8 + 1) _ _ _
  refine wpAnyH_take (i := 0) (oi := ⟨some 78, .move (.tmp 0), _, _, _, none⟩) (v := ?_) rfl (by kernel_rfl) (by kernel_rfl) (by kernel_rfl) (fun _ _ _ h => h) (Or.inl ⟨by rfl, ?_⟩) (by assumption) ?_
  rotate_left
  · intro w hSw; (try dsimp only at hSw); go_simp; try (with_reducible rfl)
  try simp only [Act.put, List.setIfInBounds_toArray, List.set_cons_zero, List.set_cons_succ]
  change wpAnyH _ _ _ _ _ (7 + 1) _ _ _
  refine wpAnyH_take (i := 1) (oi := ⟨some 79, .fieldAddr 35 (.tmp 3) 1, _, _, _, none⟩) (v := ?_) rfl (by kernel_rfl) (by kernel_rfl) (by kernel_rfl) (fun _ _ _ h => h) (Or.inl ⟨by rfl, ?_⟩) (by assumption) ?_
  rotate_left
  · intro w hSw; (try dsimp only at hSw); go_simp; try (with_reducible rfl)
  try simp only [Act.put, List.setIfInBounds_toArray, List.set_cons_zero, List.set_cons_succ]
  change wpAnyH _ _ _ _ _ (6 + 1) _ _ _
  refine wpAnyH_take (i := 2) (oi := ⟨some 80, .load 9 (.tmp 79), _, _, _, none⟩) (v := ?_) rfl (by kernel_rfl) (by kernel_rfl) (by kernel_rfl) (fun _ _ _ h => h) (Or.inl ⟨by rfl, ?_⟩) (by assumption) ?_
  rotate_left
  · intro w hSw; (try dsimp only at hSw); go_simp; try (with_reducible rfl)
  try simp only [Act.put, List.setIfInBounds_toArray, List.set_cons_zero, List.set_cons_succ]
  change wpAnyH _ _ _ _ _ (5 + 1) _ _ _
  refine wpAnyH_take (i := 3) (oi := ⟨some 81, .move (.tmp 0), _, _, _, none⟩) (v := ?_) rfl (by kernel_rfl) (by kernel_rfl) (by kernel_rfl) (fun _ _ _ h => h) (Or.inl ⟨by rfl, ?_⟩) (by assumption) ?_
  rotate_left
  · intro w hSw; (try dsimp only at hSw); go_simp; try (with_reducible rfl)
  try simp only [Act.put, List.setIfInBounds_toArray, List.set_cons_zero, List.set_cons_succ]
  change wpAnyH _ _ _ _ _ (4 + 1) _ _ _
  refine wpAnyH_take (i := 4) (oi := ⟨some 82, .fieldAddr 35 (.tmp 3) 1, _, _, _, none⟩) (v := ?_) rfl (by kernel_rfl) (by kernel_rfl) (by kernel_rfl) (fun _ _ _ h => h) (Or.inl ⟨by rfl, ?_⟩) (by assumption) ?_
  rotate_left
  · intro w hSw; (try dsimp only at hSw); go_simp; try (with_reducible rfl)
  try simp only [Act.put, List.setIfInBounds_toArray, List.set_cons_zero, List.set_cons_succ]
  change wpAnyH _ _ _ _ _ (3 + 1) _ _ _
  refine wpAnyH_take (i := 5) (oi := ⟨some 83, .load 9 (.tmp 82), _, _, _, none⟩) (v := ?_) rfl (by kernel_rfl) (by kernel_rfl) (by kernel_rfl) (fun _ _ _ h => h) (Or.inl ⟨by rfl, ?_⟩) (by assumption) ?_
  rotate_left
  · intro w hSw; (try dsimp only at hSw); go_simp; try (with_reducible rfl)
  try simp only [Act.put, List.setIfInBounds_toArray, List.set_cons_zero, List.set_cons_succ]
  change wpAnyH _ _ _ _ _ (2 + 1) _ _ _
  refine wpAnyH_ready (rs := [6]) (by kernel_rfl) (by simp) ?_
  refine AllReadyH.cons (o := ⟨some 84, .call { callee := .value (.func 43), args := #[.tmp 81, .tmp 83], argTypes := #[48, 9] }, _, _, _, none⟩) rfl (fun K hK => ?_) AllReadyH.nil
  go_simp
  have hRd := hR3.below ((Below.refl _ _).drew)
  have hltd := hRd.lt
  refine (vmGet_hit hRd hT hz a hk he).mono ?_
  rintro e w4 ⟨v4, rfl, hr4, hB4⟩
  refine hK.out _ _ (keepV hHeld rfl rfl hBX hBX (Vk.below hB4)) (fun hH2 => ?_)
  clear hK K
  try simp only [Act.put, List.setIfInBounds_toArray, List.set_cons_zero, List.set_cons_succ]
  change wpAnyH _ _ _ _ _ (1 + 1) _ _ _
  refine wpAnyH_ready (rs := [7]) (by kernel_rfl) (by simp) ?_
  refine AllReadyH.cons (o := ⟨some 85, .call { callee := .value (.func 47), args := #[.tmp 84], argTypes := #[26] }, _, _, _, none⟩) rfl (fun K hK => ?_) AllReadyH.nil
  go_simp
  refine (hsort _ _ _ hr4).mono ?_
  rintro e w6 ⟨v6, rfl, hr6, hB6⟩
  refine hK.out _ _ (keepV hH2 rfl rfl hBX hBX (Vk.below hB6)) (fun hH2b => ?_)
  clear hK K
  try simp only [Act.put, List.setIfInBounds_toArray, List.set_cons_zero, List.set_cons_succ]
  change wpAnyH _ _ _ _ _ (0 + 1) _ _ _
  refine wpAnyH_ready (rs := [8]) (by kernel_rfl) (by simp) ?_
  refine AllReadyH.cons (o := ⟨some 86, .call { callee := .value (.func 42), args := #[.tmp 78, .tmp 80, .tmp 85], argTypes := #[48, 9, 26] }, _, _, _, none⟩) rfl (fun K hK => ?_) AllReadyH.nil
  go_simp
  refine (put_ok ((hRd.below hB4).below hB6) hT hz hf hp hr6 (fun q hq e => by have hq' : w4.heap.size ≤ q := hq; have := hB4.size; omega) hll hlen (by simp only; omega) hfit).mono ?_
  rintro e w5 ⟨rfl, hR5, hV5⟩
  refine hK.out _ _ (keepV hH2b rfl rfl hBX hBX hV5) (fun hH3 => ?_)
  clear hK K
  try simp only [Act.put, List.setIfInBounds_toArray, List.set_cons_zero, List.set_cons_succ]
  refine wpAnyH_done (by kernel_rfl) ?_ _
  have hVe := hV3.trans hH3.2.2
  clear hHeld hH2 hH2b hH3 d0 d1 d2 d4
  go_wp2
  go_end0
  exact ⟨rfl, hR5, hVe⟩
end Go.Proofs.YteckjgngglpcaaaGreatDoor
