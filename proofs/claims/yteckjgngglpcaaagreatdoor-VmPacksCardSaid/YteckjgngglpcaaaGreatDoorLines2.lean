/-
  Two lines: cut off the end, split.
-/
import Derived.Test.YteckjgngglpcaaaGreatDoorLines1
namespace Go.Proofs.YteckjgngglpcaaaGreatDoor
open Go.RowKit

/-- The four bytes of the one input. -/
structure In4 (w : World) (b off : Nat) : Prop where
  c0 : w.cell? ⟨b, off, none⟩ = some (.int .u8 98)
  c1 : w.cell? ⟨b, off + 1, none⟩ = some (.int .u8 10)
  c2 : w.cell? ⟨b, off + 2, none⟩ = some (.int .u8 97)
  c3 : w.cell? ⟨b, off + 3, none⟩ = some (.int .u8 10)

theorem In4.below {w w' : World} {b off : Nat} (h : In4 w b off) (hB : Below w.heap.size w w') : In4 w' b off :=
  ⟨Keeps.below_cell hB h.c0, Keeps.below_cell hB h.c1, Keeps.below_cell hB h.c2, Keeps.below_cell hB h.c3⟩

theorem In4.one {w : World} {b off cap : Nat} {c : UInt8} (h : w.cell? ⟨b, off, none⟩ = some (.int .u8 c.toNat)) (h1 : 1 ≤ cap) (hm : cap ≤ maxLen) : RdB (fun _ => True) w (.slice (some ⟨b, off, none⟩) 1 cap) [c] :=
  ⟨_, cap, rfl, h1, hm, (fun h => by cases h), fun _ => ⟨b, off, rfl, trivial, fun i hi => by
    obtain rfl : i = 0 := by simpa using hi
    exact h⟩⟩

theorem In4.three {w : World} {b off cap : Nat} (h : In4 w b off) (h1 : 3 ≤ cap) (hm : cap ≤ maxLen) : RdB (fun _ => True) w (.slice (some ⟨b, off, none⟩) 3 cap) [98, 10, 97] :=
  ⟨_, cap, rfl, h1, hm, (fun h => by cases h), fun _ => ⟨b, off, rfl, trivial, fun i hi => by
    match i, hi with
    | 0, _ => exact h.c0
    | 1, _ => exact h.c1
    | 2, _ => exact h.c2⟩⟩

set_option maxRecDepth 100000 in
theorem hasSuffix_f {P : Nat → Prop} {w : World} {b off cap : Nat} {u : Value} (h : In4 w b off) (h4 : 4 ≤ cap) (hm : cap ≤ maxLen) (h' : RdB P w u [10]) : Calls Tryz.prog 68 #[.slice (some ⟨b, off, none⟩) 4 cap, u] w fun e w' => e = .returned (.bool true) ∧ w = w' := by
  have heq := equal_f (In4.one (c := 10) (cap := cap - 3) h.c3 (by omega) (by omega)) h'
  obtain ⟨a2, q2, e', _, _⟩ := h'.shape
  obtain rfl : u = .slice a2 1 q2 := e'
  have hne : cap ≠ 3 := by omega
  have hll : (([10] : List UInt8) == [10]) = true := by decide
  unfold maxLen at hm
  clear h'
  go_enter Tryz.func68, Tryz.ntmps68
  go_wp2_with fail
  refine heq.mono ?_
  rintro e w1 ⟨rfl, rfl⟩
  rw [hll]
  go_wp2
  go_ret
  exact ⟨rfl, rfl⟩

set_option maxRecDepth 100000 in
theorem cutSuffix_f {P : Nat → Prop} {w : World} {b off cap : Nat} {u : Value} (h : In4 w b off) (h4 : 4 ≤ cap) (hm : cap ≤ maxLen) (h' : RdB P w u [10]) :
    Calls Tryz.prog 56 #[.slice (some ⟨b, off, none⟩) 4 cap, u] w fun e w' => e = .returned (.tuple #[.slice (some ⟨b, off, none⟩) 3 cap, .bool true]) ∧ w = w' := by
  have hs := hasSuffix_f h h4 hm h'
  obtain ⟨a2, q2, e', _, _⟩ := h'.shape
  obtain rfl : u = .slice a2 1 q2 := e'
  unfold maxLen at hm
  clear h'
  go_enter Tryz.func56, Tryz.ntmps56
  go_wp2_with fail
  refine hs.mono ?_
  rintro e w1 ⟨rfl, rfl⟩
  go_wp2
  go_ret2
  exact ⟨rfl, rfl⟩

/-- Two rows of bytes in a block of the call's own. -/
def RetPair (b off cap : Nat) (w : World) (e : Ending) (w' : World) : Prop :=
  ∃ g, e = .returned (.slice (some ⟨g, 0, none⟩) 2 2) ∧ w.heap.size ≤ g ∧ w'.heap[g]? = some (.cells #[.slice (some ⟨b, off, none⟩) 1 1, .slice (some ⟨b, off + 2, none⟩) 1 (cap - 2)] 26 (0, 0)) ∧ Below w.heap.size w w'

set_option maxRecDepth 100000 in
set_option maxHeartbeats 1000000 in
theorem genSplit_f {P : Nat → Prop} {w : World} {b off cap : Nat} {u : Value} (h : In4 w b off) (h4 : 4 ≤ cap) (hm : cap ≤ maxLen) (h' : RdB P w u [10]) :
    Calls Tryz.prog 69 #[.slice (some ⟨b, off, none⟩) 3 cap, u, .int .i64 0, .int .i64 (-1)] w (RetPair b off cap w) := by
  have hmk : ∀ w, (Instr.makeSlice 88 (.int .i64 2) (.int .i64 2)).run Tryz.prog w = .ok (.slice (some ⟨w.heap.size, 0, none⟩) 2 2) (w.alloc (.cells #[.slice none 0 0, .slice none 0 0] 26)) := fun _ => by kernel_rfl
  have hc := count_f (h.three (by omega) hm) h'
  have hB := (Below.refl w.heap.size w).alloc (Nat.le_refl _) (.cells #[.slice none 0 0, .slice none 0 0] 26)
  have hi := index_f ((h.below hB).three (by omega) hm) (h'.keeps (Keeps.below hB))
  obtain ⟨a2, q2, e', _, _⟩ := h'.shape
  obtain rfl : u = .slice a2 1 q2 := e'
  have hne : cap ≠ 2 := by omega
  unfold maxLen at hm
  clear h'
  go_enter Tryz.func69, Tryz.ntmps69
  go_wp2_with fail
  refine hc.mono ?_
  rintro e w1 ⟨rfl, rfl⟩
  go_wp2_with fail
  refine wp_loop_rounds 2 ?_
  rw [rounds_succ]
  go_wp2_with fail
  refine hi.mono ?_
  rintro e w1 ⟨rfl, rfl⟩
  go_wp2
  rw [rounds_succ]
  go_wp2
  go_ret
  exact ⟨w.heap.size, rfl, Nat.le_refl _, heap_alloc_new w _, (Below.refl _ _).alloc (Nat.le_refl _) _⟩

set_option maxRecDepth 100000 in
theorem split_f {P : Nat → Prop} {w : World} {b off cap : Nat} {u : Value} (h : In4 w b off) (h4 : 4 ≤ cap) (hm : cap ≤ maxLen) (h' : RdB P w u [10]) :
    Calls Tryz.prog 57 #[.slice (some ⟨b, off, none⟩) 3 cap, u] w (RetPair b off cap w) := by
  have hg := genSplit_f h h4 hm h'
  obtain ⟨a2, q2, e', _, _⟩ := h'.shape
  obtain rfl : u = .slice a2 1 q2 := e'
  clear h'
  go_enter Tryz.func57, Tryz.ntmps57
  go_wp2_with fail
  refine hg.mono ?_
  rintro e w1 ⟨g, rfl, hgw, hh, hB⟩
  go_wp2
  go_ret
  exact ⟨g, rfl, hgw, hh, hB⟩
end Go.Proofs.YteckjgngglpcaaaGreatDoor
