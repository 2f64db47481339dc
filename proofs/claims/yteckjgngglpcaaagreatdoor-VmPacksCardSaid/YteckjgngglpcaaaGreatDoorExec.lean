/-
  Running a program on a tree.
-/
import Derived.Test.YteckjgngglpcaaaGreatDoorAll
namespace Go.Proofs.YteckjgngglpcaaaGreatDoor
open Go.RowKit

/-- Where a run's answer lies. -/
def outP : ByteArray := ⟨#[111, 117, 116]⟩

/-- What running answers. -/
def ExecSo (I : VM → Prop) (B : Int → Nat → Prop) (len : Nat) (w : World) (e : Ending) (w' : World) : Prop :=
  Below w.heap.size w w' ∧ ((∃ (n : Int) (u : Nat), e = .returned (.tuple #[.slice none 0 0, .int .i64 u, .int .i64 n]) ∧ B n u) ∨
    (∃ v s', e = .returned (.tuple #[v, .int .i64 s'.used, .int .i64 0]) ∧ I s' ∧ len ≤ s'.place ∧ RdT (w.heap.size ≤ ·) (w.heap.size ≤ ·) w' v (belowF outP s'.t)))

set_option maxRecDepth 100000 in
set_option maxHeartbeats 4000000 in
theorem exec_f {P P' R : Nat → Prop} {w : World} (hF : Fields w) {pv tv : Value} {p : List In} {t : List Fi} {fuel : Nat} (hp : RdP P w pv p) (hm0 : 0 < p.length) (hm : p.length ≤ 30) (hok : ∀ x ∈ p, InOk p.length x) (ht : RdT P' R w tv t) (hT : TOK t) (hz : szs t ≤ 4000) (hf : fuel ≤ 20000)
    {I : VM → Prop} {B : Int → Nat → Prop} (hI0 : I ⟨t, 0, 0⟩) (hI : ∀ s, I s → TOK s.t ∧ szs s.t ≤ 4000) (hB : ∀ n u, B n u → n ≠ 0) (hstep : ∀ s, I s → s.used ≤ fuel → ∀ h : s.place < p.length, StepsTo fuel p[s.place] s I B) :
    Calls Tryz.prog 8 #[pv, tv, .int .i64 fuel] w (ExecSo I B p.length w) := by
  have hzd : decide (szs t ≤ 4000) = true := decide_eq_true hz
  have hfd : decide ((20000 : Int) < (fuel : Int)) = false := decide_eq_false (by omega)
  have hfz : decide ((fuel : Int) < 0) = false := decide_eq_false (by omega)
  have hpm := progMay_f hF hp hm hok
  obtain ⟨b, off, cap, e, _, hcm, hPb, _⟩ := id hp
  subst e
  obtain ⟨ta, tc, e, _, _⟩ := ht.shape
  subst e
  go_enter Tryz.func8, Tryz.ntmps8
  go_wp2_with fail
  refine hpm.mono ?_
  rintro e w1 ⟨rfl, hB1⟩
  have ht1 := ht.keeps (Keeps.below hB1) (Keeps.below hB1)
  go_wp2_with fail
  refine (may_f _ _ _ _ _ ht1 hT).mono ?_
  rintro e w2 ⟨rfl, hB2⟩
  rw [hzd]
  have hB12 := Below.then hB1 hB2
  have hbl : b < w.heap.size := World.block_lt_of_cell? w _ (by
    obtain ⟨b', off', cap', e', _, _, _, hcs⟩ := hp
    simp only [Value.slice.injEq, Option.some.injEq, Addr.mk.injEq, and_true] at e'
    obtain ⟨⟨rfl, rfl⟩, -, rfl⟩ := e'
    exact (hcs 0 hm0).1)
  obtain ⟨W3, hW3⟩ : ∃ W3, W3 = w2.alloc (Obj.cells #[Value.slice ta t.length tc, Value.int .i64 0, Value.int .i64 fuel, Value.int .i64 0] 50) := ⟨_, rfl⟩
  have hB23 : Below w2.heap.size w2 W3 := by rw [hW3]; exact (Below.refl _ _).alloc (Nat.le_refl _) _
  have hs3 : W3.heap.size = w2.heap.size + 1 := by rw [hW3]; simp
  have hsz := hB12.size
  have hR3 : Run w2.heap.size W3 fuel ⟨t, 0, 0⟩ := by
    refine ⟨.slice ta t.length tc, by rw [hW3]; exact heap_alloc_new w2 _, ?_⟩
    exact (((ht.keeps (Keeps.below hB12) (Keeps.below hB12)).lt).keeps (Keeps.below hB23) (Keeps.below hB23)).mono (fun q hq => by have := hq.2; omega) (fun q hq => by have := hq.2; omega)
  have hp3 : RdP (· ≠ w2.heap.size) W3 (.slice (some ⟨b, off, none⟩) p.length cap) p := by
    have h3 := (hp.keeps (Keeps.below hB12)).keeps (Keeps.below hB23)
    obtain ⟨b', off', cap', e', g1, g2, _, hcs⟩ := h3
    simp only [Value.slice.injEq, Option.some.injEq, Addr.mk.injEq, and_true] at e'
    obtain ⟨⟨rfl, rfl⟩, -, rfl⟩ := e'
    exact ⟨b, off, cap, rfl, g1, g2, by omega, hcs⟩
  have hall := all_f hR3 hp3 hI0 (by simp) hstep
  clear hp hpm hp3 hR3 ht ht1 hstep hF
  go_wp2_with fail
  rw [← hW3]
  clear hW3
  refine hall.mono ?_
  rintro e w4 ⟨n, s4, rfl, hR4, hV4, hend⟩
  have hB4 : Below w.heap.size w w4 := hV4.lower (hB12.trans (hB23.mono hsz)) (by omega) (by omega)
  have hX4 := hR4.lt
  obtain ⟨v4, hX, ht4⟩ := hR4
  have c0 : w4.cell? ⟨w2.heap.size, 0, none⟩ = some v4 := cell_of_row w4 _ 0 _ 50 (0, 0) hX
  have c3 : w4.cell? ⟨w2.heap.size, 3, none⟩ = some (.int .i64 s4.used) := cell_of_row w4 _ 3 _ 50 (0, 0) hX
  obtain ⟨a4, q4, e, _, _⟩ := ht4.shape
  subst e
  clear hX hall
  by_cases hn : n = 0
  · subst hn
    have hok4 : I s4 ∧ p.length ≤ s4.place := by
      rcases hend with ⟨_, h1, h2⟩ | h
      · exact ⟨h1, h2⟩
      · exact absurd rfl (hB _ _ h)
    have hI4 := hI s4 hok4.1
    have Hok := Lib.hid hok4
    clear hend hok4 hI hB hI0 hok
    go_wp2_with fail
    refine wp_region_held_drew (S := fun W => W.cell? ⟨w2.heap.size, 0, none⟩ = some (Value.slice a4 s4.t.length q4) ∧ W.cell? ⟨w2.heap.size, 3, none⟩ = some (.int .i64 s4.used) ∧ Below w4.heap.size w4 W) (by kernel_rfl) ⟨c0, c3, (Below.refl _ _).drew⟩ (fun hHeld => ?_)
    change wpAnyH _ _ _ _ _ (11 + 1) _ _ _
    refine wpAnyH_take (i := 0) (oi := ⟨some 41, .move (.tmp 9), _, _, _, none⟩) (v := ?_) rfl (by kernel_rfl) (by kernel_rfl) (by kernel_rfl) (fun _ _ _ h => h) (Or.inl ⟨by rfl, ?_⟩) (by assumption) ?_
    rotate_left
    · intro w hSw; (try dsimp only at hSw); go_simp; try (with_reducible rfl)
    try simp only [Act.put, List.setIfInBounds_toArray, List.set_cons_zero, List.set_cons_succ]
    change wpAnyH _ _ _ _ _ (10 + 1) _ _ _
    refine wpAnyH_take (i := 1) (oi := ⟨some 42, .nilCheck (.tmp 41), _, _, _, none⟩) (v := ?_) rfl (by kernel_rfl) (by kernel_rfl) (by kernel_rfl) (fun _ _ _ h => h) (Or.inl ⟨by rfl, ?_⟩) (by assumption) ?_
    rotate_left
    · intro w hSw; (try dsimp only at hSw); go_simp; try (with_reducible rfl)
    try simp only [Act.put, List.setIfInBounds_toArray, List.set_cons_zero, List.set_cons_succ]
    change wpAnyH _ _ _ _ _ (9 + 1) _ _ _
    refine wpAnyH_take (i := 2) (oi := ⟨some 43, .fieldAddr 50 (.tmp 42) 0, _, _, _, none⟩) (v := ?_) rfl (by kernel_rfl) (by kernel_rfl) (by kernel_rfl) (fun _ _ _ h => h) (Or.inl ⟨by rfl, ?_⟩) (by assumption) ?_
    rotate_left
    · intro w hSw; (try dsimp only at hSw); go_simp; try (with_reducible rfl)
    try simp only [Act.put, List.setIfInBounds_toArray, List.set_cons_zero, List.set_cons_succ]
    change wpAnyH _ _ _ _ _ (8 + 1) _ _ _
    refine wpAnyH_take (i := 3) (oi := ⟨some 44, .load 23 (.tmp 43), _, _, _, none⟩) (v := ?_) rfl (by kernel_rfl) (by kernel_rfl) (by kernel_rfl) (fun _ _ _ h => h) (Or.inl ⟨by rfl, ?_⟩) (by assumption) ?_
    rotate_left
    · intro w hSw; (try dsimp only at hSw); go_simp; try (with_reducible rfl)
    try simp only [Act.put, List.setIfInBounds_toArray, List.set_cons_zero, List.set_cons_succ]
    change wpAnyH _ _ _ _ _ (7 + 1) _ _ _
    refine wpAnyH_take (i := 5) (oi := ⟨some 46, .move (.tmp 9), _, _, _, none⟩) (v := ?_) rfl (by kernel_rfl) (by kernel_rfl) (by kernel_rfl) (fun _ _ _ h => h) (Or.inl ⟨by rfl, ?_⟩) (by assumption) ?_
    rotate_left
    · intro w hSw; (try dsimp only at hSw); go_simp; try (with_reducible rfl)
    try simp only [Act.put, List.setIfInBounds_toArray, List.set_cons_zero, List.set_cons_succ]
    change wpAnyH _ _ _ _ _ (6 + 1) _ _ _
    refine wpAnyH_take (i := 6) (oi := ⟨some 47, .nilCheck (.tmp 46), _, _, _, none⟩) (v := ?_) rfl (by kernel_rfl) (by kernel_rfl) (by kernel_rfl) (fun _ _ _ h => h) (Or.inl ⟨by rfl, ?_⟩) (by assumption) ?_
    rotate_left
    · intro w hSw; (try dsimp only at hSw); go_simp; try (with_reducible rfl)
    try simp only [Act.put, List.setIfInBounds_toArray, List.set_cons_zero, List.set_cons_succ]
    change wpAnyH _ _ _ _ _ (5 + 1) _ _ _
    refine wpAnyH_take (i := 7) (oi := ⟨some 48, .fieldAddr 50 (.tmp 47) 3, _, _, _, none⟩) (v := ?_) rfl (by kernel_rfl) (by kernel_rfl) (by kernel_rfl) (fun _ _ _ h => h) (Or.inl ⟨by rfl, ?_⟩) (by assumption) ?_
    rotate_left
    · intro w hSw; (try dsimp only at hSw); go_simp; try (with_reducible rfl)
    try simp only [Act.put, List.setIfInBounds_toArray, List.set_cons_zero, List.set_cons_succ]
    change wpAnyH _ _ _ _ _ (4 + 1) _ _ _
    refine wpAnyH_take (i := 8) (oi := ⟨some 49, .load 3 (.tmp 48), _, _, _, none⟩) (v := ?_) rfl (by kernel_rfl) (by kernel_rfl) (by kernel_rfl) (fun _ _ _ h => h) (Or.inl ⟨by rfl, ?_⟩) (by assumption) ?_
    rotate_left
    · intro w hSw; (try dsimp only at hSw); go_simp; try (with_reducible rfl)
    try simp only [Act.put, List.setIfInBounds_toArray, List.set_cons_zero, List.set_cons_succ]
    change wpAnyH _ _ _ _ _ (3 + 1) _ _ _
    refine wpAnyH_ready (rs := [4]) (by kernel_rfl) (by simp) ?_
    refine AllReadyH.cons (o := ⟨some 45, .call { callee := .value (.func 11), args := #[.tmp 44, .const (.string ⟨#[111, 117, 116]⟩)], argTypes := #[23, 9] }, _, _, _, none⟩) rfl (fun K hK => ?_) AllReadyH.nil
    go_simp
    refine (below_f (d := outP) ((ht4.keeps (Keeps.below hHeld.2.2) (Keeps.below hHeld.2.2))) hI4.1 hI4.2 ((pok_iff _).2 ⟨by decide, by decide⟩)).mono ?_
    rintro e w5 ⟨v5, rfl, ho5, hB5⟩
    refine hK.out _ _ (keepF hHeld rfl rfl hB5) (fun hH2 => ?_)
    clear hK K
    try simp only [Act.put, List.setIfInBounds_toArray, List.set_cons_zero, List.set_cons_succ]
    change wpAnyH _ _ _ _ _ (2 + 1) _ _ _
    refine wpAnyH_take (i := 9) (oi := ⟨some 6, .assign (.tmp 45), _, _, _, none⟩) (v := ?_) rfl (by kernel_rfl) (by kernel_rfl) (by kernel_rfl) (fun _ _ _ h => h) (Or.inl ⟨by rfl, ?_⟩) (by assumption) ?_
    rotate_left
    · intro w hSw; (try dsimp only at hSw); go_simp; try (with_reducible rfl)
    try simp only [Act.put, List.setIfInBounds_toArray, List.set_cons_zero, List.set_cons_succ]
    change wpAnyH _ _ _ _ _ (1 + 1) _ _ _
    refine wpAnyH_take (i := 10) (oi := ⟨some 7, .assign (.tmp 49), _, _, _, none⟩) (v := ?_) rfl (by kernel_rfl) (by kernel_rfl) (by kernel_rfl) (fun _ _ _ h => h) (Or.inl ⟨by rfl, ?_⟩) (by assumption) ?_
    rotate_left
    · intro w hSw; (try dsimp only at hSw); go_simp; try (with_reducible rfl)
    try simp only [Act.put, List.setIfInBounds_toArray, List.set_cons_zero, List.set_cons_succ]
    change wpAnyH _ _ _ _ _ (0 + 1) _ _ _
    refine wpAnyH_take (i := 11) (oi := ⟨some 8, .assign (.const (.int .i64 0)), _, _, _, none⟩) (v := ?_) rfl (by kernel_rfl) (by kernel_rfl) (by kernel_rfl) (fun _ _ _ h => h) (Or.inl ⟨by rfl, ?_⟩) (by assumption) ?_
    rotate_left
    · intro w hSw; (try dsimp only at hSw); go_simp; try (with_reducible rfl)
    try simp only [Act.put, List.setIfInBounds_toArray, List.set_cons_zero, List.set_cons_succ]
    refine wpAnyH_done (by kernel_rfl) ?_ _
    have hBe := Below.then hB4 hH2.2.2
    have hs4 := hB4.size
    have hrd := ho5.rd.mono (P' := (w.heap.size ≤ ·)) (R' := (w.heap.size ≤ ·)) (fun q (hq : w4.heap.size ≤ q) => by show w.heap.size ≤ q; omega) (fun q (hq : w4.heap.size ≤ q) => by show w.heap.size ≤ q; omega)
    clear hHeld hH2 c0 c3
    go_wp2
    go_ret3
    exact ⟨hBe, .inr ⟨v5, s4, rfl, Hok.out.1, Hok.out.2, hrd⟩⟩
  · have hb4 : B n s4.used := by
      rcases hend with ⟨h, _⟩ | h
      · exact absurd h hn
      · exact h
    have hne : (n == 0) = false := beq_eq_false_iff_ne.2 hn
    clear hend hI hB hI0 hok hn
    go_wp2_with fail
    go_region
    go_wp2
    go_ret3
    exact ⟨hB4.drew, .inl ⟨n, s4.used, rfl, hb4⟩⟩
end Go.Proofs.YteckjgngglpcaaaGreatDoor
