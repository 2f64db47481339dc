/-
  The program's own test of a tree, at trees whose paths and sizes are good.
-/
import Derived.Test.YteckjgngglpcaaaGreatDoorTrees
import Derived.Test.YteckjgngglpcaaaGreatDoorCls
namespace Go.Proofs.YteckjgngglpcaaaGreatDoor
open Go.RowKit

theorem Keeps.below_cell {w w' : World} (h : Below w.heap.size w w') {b off : Nat} {v : Value} (hc : w.cell? ⟨b, off, none⟩ = some v) : w'.cell? ⟨b, off, none⟩ = some v :=
  (Keeps.below (P := fun _ => True) h).cell trivial hc

theorem Below.then {w W w1 : World} (h : Below w.heap.size w W) (h1 : Below W.heap.size W w1) : Below w.heap.size w w1 := h.trans (h1.mono h.size)
theorem ret_bool {a b : Bool} (h : a = b) : Ending.returned (.bool a) = .returned (.bool b) := by rw [h]

set_option maxHeartbeats 1000000 in
theorem may_f (P R : Nat → Prop) (v : Value) (t : List Fi) (w : World) (ht : RdT P R w v t) (hT : TOK t) :
    Calls Tryz.prog 13 #[v] w fun e w' => e = .returned (.bool (decide (szs t ≤ 4000))) ∧ Below w.heap.size w w' := by
  have hl := hT.len
  obtain ⟨a, cap, rfl, hcap, hm⟩ := ht.shape
  unfold maxLen at hm
  go_enter Tryz.func13, Tryz.ntmps13
  go_wp2
  go_loopw [3, 11] (fun s i wr => ∃ k : Nat, k ≤ t.length ∧ i = .int .i64 k ∧ s = .int .i64 (szs (t.take k)) ∧ szs (t.take k) ≤ 2000 * k ∧ Below w.heap.size w wr) (fun _ i _ => t.length - (intOf i).toNat)
  case atStart => exact ⟨0, by omega, rfl, rfl, by simp [szs], Below.refl _ _⟩
  case round =>
    obtain ⟨k, hk, rfl, rfl, hz, hB⟩ := hrel
    have ht' := ht.keeps (Keeps.below hB) (Keeps.below hB)
    by_cases hlt : k < t.length
    · obtain ⟨b, off, cap', e, _, _, hb, hc⟩ := ht'.at (by omega)
      simp only [Value.slice.injEq] at e
      obtain ⟨rfl, -, rfl⟩ := e
      obtain ⟨c1, hpm, vb, c2, hvb⟩ := hc k hlt
      obtain ⟨ab, capb, rfl, hcb, hmb⟩ := hvb.shape
      have hp := (hT.each k hlt).1
      have h2 := (hT.each k hlt).2
      have d2 : decide ((2000 : Int) < t[k].b.length) = false := by simp; omega
      by_cases hk0 : k = 0
      · have d0 : decide (0 < k) = false := by simp; omega
        have H0 := Lib.hid hk0
        have Hz := Lib.hid (szs_take hlt)
        clear hk0
        go_wp2
        obtain ⟨S, hS⟩ : ∃ S : World → Prop, ∀ W, S W ↔ W.cell? ⟨wr.heap.size, 0, none⟩ = some (.string t[k].p) ∧ W.cell? ⟨wr.heap.size, 1, none⟩ = some (.slice ab t[k].b.length capb) ∧ Below w.heap.size w W := ⟨_, fun _ => Iff.rfl⟩
        have HS := Lib.hid hS
        have s1 : ∀ x : Cls S, x.w.cell? ⟨wr.heap.size, 0, none⟩ = some (.string t[k].p) := fun x => ((hS _).1 x.h).1
        have s2 : ∀ x : Cls S, x.w.cell? ⟨wr.heap.size, 1, none⟩ = some (.slice ab t[k].b.length capb) := fun x => ((hS _).1 x.h).2.1
        clear hS
        have S0 := (HS.out (wr.alloc (Obj.cells #[Value.string t[k].p, Value.slice ab t[k].b.length capb] 28)).drew).2 ⟨by simp, by simp, (hB.alloc hB.size _).drew⟩
        have hne : Nonempty (Cls S) := ⟨⟨_, S0⟩⟩
        refine wp_region_cls S (by kernel_rfl) (by kernel_rfl) S0 ?_
        repeat (go_big_quiet_step ((go_at_call 14; rename_i xx; refine cls_call (x := xx) (v := .bool true) ((isPath_f _ hp _).mono ?_); rintro e w1 ⟨rfl, hB1⟩; exact ⟨rfl, (HS.out _).2 ⟨Keeps.below_cell hB1 (s1 xx), Keeps.below_cell hB1 (s2 xx), Below.then ((HS.out _).1 xx.h).2.2 hB1⟩⟩)))
        refine wpQuiet_nil ?_
        intro x
        go_wp2
        go_roundw
        case rel => exact ⟨k + 1, by omega, by go_num, by rw [Hz.out]; go_num, by rw [Hz.out]; omega, ((HS.out _).1 x.h).2.2⟩
        case measure => simp [intOf]; omega
      · obtain ⟨j, rfl⟩ : ∃ j, k = j + 1 := ⟨k - 1, by omega⟩
        have d0 : decide ((0 : Int) < (j : Int) + 1) = true := decide_eq_true (by omega)
        have Hz := Lib.hid (szs_take hlt)
        have hr := hT.rise j hlt
        obtain ⟨e1, hpm', vb', e2, hvb'⟩ := hc j (by omega)
        clear hk0
        go_wp2
        obtain ⟨S, hS⟩ : ∃ S : World → Prop, ∀ W, S W ↔ W.cell? ⟨wr.heap.size, 0, none⟩ = some (.string t[j + 1].p) ∧ W.cell? ⟨wr.heap.size, 1, none⟩ = some (.slice ab t[j + 1].b.length capb) ∧ W.cell? ⟨b, off + j * 2, none⟩ = some (.string t[j].p) ∧ Below w.heap.size w W := ⟨_, fun _ => Iff.rfl⟩
        have HS := Lib.hid hS
        have s1 : ∀ x : Cls S, x.w.cell? ⟨wr.heap.size, 0, none⟩ = some (.string t[j + 1].p) := fun x => ((hS _).1 x.h).1
        have s2 : ∀ x : Cls S, x.w.cell? ⟨wr.heap.size, 1, none⟩ = some (.slice ab t[j + 1].b.length capb) := fun x => ((hS _).1 x.h).2.1
        have s3 : ∀ x : Cls S, x.w.cell? ⟨b, off + j * 2, none⟩ = some (.string t[j].p) := fun x => ((hS _).1 x.h).2.2.1
        clear hS
        have S0 := (HS.out (wr.alloc (Obj.cells #[Value.string t[j + 1].p, Value.slice ab t[j + 1].b.length capb] 28)).drew).2 ⟨by simp, by simp, (Keeps.alloc (P := fun _ => True) _).cell trivial e1, (hB.alloc hB.size _).drew⟩
        have hne : Nonempty (Cls S) := ⟨⟨_, S0⟩⟩
        refine wp_region_cls S (by kernel_rfl) (by kernel_rfl) S0 ?_
        repeat (go_big_quiet_step ((go_at_call 14; rename_i xx; refine cls_call (x := xx) (v := .bool true) ((isPath_f _ hp _).mono ?_); rintro e w1 ⟨rfl, hB1⟩; exact ⟨rfl, (HS.out _).2 ⟨Keeps.below_cell hB1 (s1 xx), Keeps.below_cell hB1 (s2 xx), Keeps.below_cell hB1 (s3 xx), Below.then ((HS.out _).1 xx.h).2.2.2 hB1⟩⟩)))
        refine wpQuiet_nil ?_
        intro x
        have hB' := ((HS.out _).1 x.h).2.2.2
        go_wp2
        go_roundw
        case rel => exact ⟨j + 1 + 1, by omega, by go_num, by rw [Hz.out]; go_num, by rw [Hz.out]; omega, by assumption⟩
        case measure => simp [intOf]; omega
    · go_wp2
      go_ret
      refine ⟨ret_bool ?_, hB⟩
      rw [List.take_of_length_le (by omega)]
      exact decide_eq_decide.2 (by omega)
end Go.Proofs.YteckjgngglpcaaaGreatDoor
