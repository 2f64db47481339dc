/-
  What is known: the other two runs; the whole.
-/
import Derived.Test.YteckjgngglpcaaaGreatDoorKnown
namespace Go.Proofs.YteckjgngglpcaaaGreatDoor
open Go.RowKit

def fileA : ByteArray := ⟨#[97]⟩
def fileB : ByteArray := ⟨#[98]⟩
theorem pok_fa : POK fileA := (pok_iff _).2 ⟨by decide, by decide⟩
theorem pok_fb : POK fileB := (pok_iff _).2 ⟨by decide, by decide⟩
theorem tok_nil : TOK [] ∧ szs [] ≤ 4000 := ⟨TOK.of (by simp) (fun f hf => by cases hf) List.Pairwise.nil, by simp [szs]⟩

def progB : List In := [⟨8, .empty, .empty, 0⟩]
def progC : List In := [⟨1, fileA, fileB, 0⟩]

theorem ok_B : ∀ x ∈ progB, InOk progB.length x := by
  intro x hx
  obtain rfl := List.mem_singleton.1 hx
  exact .inr (.inr ⟨rfl, rfl, rfl, by decide⟩)

theorem ok_C : ∀ x ∈ progC, InOk progC.length x := by
  intro x hx
  obtain rfl := List.mem_singleton.1 hx
  exact .inl ⟨by simp, pok_fa, pok_fb, rfl⟩

theorem steps_B (s : VM) (hs : s.t = [] ∧ s.place = 0 ∧ s.used ≤ 5) (h : s.place < progB.length) : StepsTo 5 progB[s.place] s (fun s => s.t = [] ∧ s.place = 0 ∧ s.used ≤ 5) (fun n u => n = 71 ∧ u = 5) := by
  obtain ⟨t, pl, u⟩ := s
  obtain ⟨rfl, rfl, hu⟩ : t = [] ∧ pl = 0 ∧ u ≤ 5 := hs
  by_cases h5 : u < 5
  · exact StepRet.to (s' := ⟨[], 0, u + 1⟩) ⟨rfl, rfl, h5⟩ (Nat.lt_succ_self _) h5 fun X w hR => step_jump (a := .empty) (b := .empty) (c := .empty) (n := 0) (m := 0) hR (by omega) (by simp) h5
  · obtain rfl : u = 5 := by omega
    intro X w hR
    refine (step_broke hR (by omega) (by simp) (by simp) 8 .empty .empty .empty 0 0).mono ?_
    rintro e w' ⟨he, ⟨s', hu', hR'⟩, hV⟩
    exact ⟨hV, .inr ⟨71, s', he, ⟨rfl, hu'⟩, hR'⟩⟩

theorem steps_C (s : VM) (hs : s = ⟨[], 0, 0⟩) (h : s.place < progC.length) : StepsTo 5 progC[s.place] s (fun s => s = ⟨[], 0, 0⟩) (fun n u => n = 70 ∧ u = 1) := by
  subst hs
  intro X w hR
  refine (step_miss (a := fileA) (b := fileB) (c := .empty) (n := 0) (m := 0) hR tok_nil.1 tok_nil.2 (by omega) (by simp) (fun k h => absurd h (Nat.not_lt_zero _)) (by simp)).mono ?_
  rintro e w' ⟨he, ⟨s', hu', hR'⟩, hV⟩
  exact ⟨hV, .inr ⟨70, s', he, ⟨rfl, hu'⟩, hR'⟩⟩

/-- What the three runs answer. -/
theorem exec_A {P P' R : Nat → Prop} {w : World} (hF : Fields w) {pv tv : Value} (hp : RdP P w pv progA) (ht : RdT P' R w tv [⟨srcA, lnsU⟩]) :
    Calls Tryz.prog 8 #[pv, tv, .int .i64 100] w fun e w' => ∃ v, e = .returned (.tuple #[v, .int .i64 4, .int .i64 0]) ∧ RdT (w.heap.size ≤ ·) (w.heap.size ≤ ·) w' v [⟨⟨#[120]⟩, lnsS⟩] ∧ Below w.heap.size w w' := by
  refine (exec_f (fuel := 100) hF hp (by decide) (by decide) ok_A ht (tok_a lnsU rfl).1 (tok_a lnsU rfl).2 (by omega) (I := fun s => s = stA 0 ∨ s = stA 1 ∨ s = stA 2) (B := fun _ _ => False) (.inl rfl)
    (fun s hs => by
      rcases hs with rfl | rfl | rfl
      · exact tok_a lnsU rfl
      · exact tok_a lnsS rfl
      · exact tok_x lnsS lnsS rfl rfl) (fun _ _ h => h.elim) (fun s hs _ h => steps_A s hs h)).mono ?_
  rintro e w' ⟨hB, ⟨n, u, _, h⟩ | ⟨v, s', rfl, hI, hl, hrd⟩⟩
  · exact h.elim
  · rcases hI with rfl | rfl | rfl
    · exact absurd hl (by decide)
    · exact absurd hl (by decide)
    · have hrd' : RdT (w.heap.size ≤ ·) (w.heap.size ≤ ·) w' v (belowF outP [⟨outX, lnsS⟩, ⟨srcA, lnsS⟩]) := hrd
      rw [below_x] at hrd'
      exact ⟨v, rfl, hrd', hB⟩

theorem exec_B {P P' R : Nat → Prop} {w : World} (hF : Fields w) {pv : Value} (hp : RdP P w pv progB) :
    Calls Tryz.prog 8 #[pv, .slice none 0 0, .int .i64 5] w fun e w' => e = .returned (.tuple #[.slice none 0 0, .int .i64 5, .int .i64 71]) ∧ Below w.heap.size w w' := by
  refine (exec_f (fuel := 5) hF hp (by decide) (by decide) ok_B (RdT.nil P' R w) tok_nil.1 tok_nil.2 (by omega) (I := fun s => s.t = [] ∧ s.place = 0 ∧ s.used ≤ 5) (B := fun n u => n = 71 ∧ u = 5) ⟨rfl, rfl, by simp⟩
    (fun s hs => by rw [hs.1]; exact tok_nil) (fun n u h => by rw [h.1]; decide) (fun s hs _ h => steps_B s hs h)).mono ?_
  rintro e w' ⟨hB, ⟨n, u, rfl, rfl, rfl⟩ | ⟨v, s', _, hI, hl, _⟩⟩
  · exact ⟨rfl, hB⟩
  · rw [hI.2.1] at hl
    exact absurd hl (by decide)

theorem exec_C {P P' R : Nat → Prop} {w : World} (hF : Fields w) {pv : Value} (hp : RdP P w pv progC) :
    Calls Tryz.prog 8 #[pv, .slice none 0 0, .int .i64 5] w fun e w' => e = .returned (.tuple #[.slice none 0 0, .int .i64 1, .int .i64 70]) ∧ Below w.heap.size w w' := by
  refine (exec_f (fuel := 5) hF hp (by decide) (by decide) ok_C (RdT.nil P' R w) tok_nil.1 tok_nil.2 (by omega) (I := fun s => s = ⟨[], 0, 0⟩) (B := fun n u => n = 70 ∧ u = 1) rfl
    (fun s hs => by rw [hs]; exact tok_nil) (fun n u h => by rw [h.1]; decide) (fun s hs _ h => steps_C s hs h)).mono ?_
  rintro e w' ⟨hB, ⟨n, u, rfl, rfl, rfl⟩ | ⟨v, s', _, hI, hl, _⟩⟩
  · exact ⟨rfl, hB⟩
  · rw [hI] at hl
    exact absurd hl (by decide)

theorem rdP_two {w : World} {g : Nat} {x y : In} (h : w.heap[g]? = some (.cells #[.int .u8 x.op, .string x.a, .string x.b, .string .empty, .int .i64 x.n, .int .i64 0, .int .u8 y.op, .string y.a, .string y.b, .string .empty, .int .i64 y.n, .int .i64 0] 35 (0, 0))) :
    RdP (fun _ => True) w (.slice (some ⟨g, 0, none⟩) 2 2) [x, y] := by
  refine ⟨g, 0, 2, rfl, Nat.le_refl _, by simp only [maxLen]; decide, trivial, fun i hi => ?_⟩
  simp only [cell_of_row w g _ _ _ _ h]
  match i, hi with
  | 0, _ => exact ⟨rfl, rfl, rfl, rfl, rfl, rfl⟩
  | 1, _ => exact ⟨rfl, rfl, rfl, rfl, rfl, rfl⟩

theorem rdP_one {w : World} {g : Nat} {x : In} (h : w.heap[g]? = some (.cells #[.int .u8 x.op, .string x.a, .string x.b, .string .empty, .int .i64 x.n, .int .i64 0] 35 (0, 0))) :
    RdP (fun _ => True) w (.slice (some ⟨g, 0, none⟩) 1 1) [x] := by
  refine ⟨g, 0, 1, rfl, Nat.le_refl _, by simp only [maxLen]; decide, trivial, fun i hi => ?_⟩
  simp only [cell_of_row w g _ _ _ _ h]
  match i, hi with
  | 0, _ => exact ⟨rfl, rfl, rfl, rfl, rfl, rfl⟩

set_option maxRecDepth 100000 in
set_option maxHeartbeats 4000000 in
theorem known_f {w : World} (hF : Fields w) : Calls Tryz.prog 5 #[] w fun e w' => e = .returned (.bool true) ∧ Below w.heap.size w w' := by
  obtain ⟨WA, hWA⟩ : ∃ WA, WA = w.alloc (Obj.cells #[.int .u8 5, .string ⟨#[115, 114, 99, 47, 97]⟩, .string ⟨#[]⟩, .string ⟨#[]⟩, .int .i64 0, .int .i64 0, .int .u8 1, .string ⟨#[115, 114, 99, 47, 97]⟩, .string ⟨#[111, 117, 116, 47, 120]⟩, .string ⟨#[]⟩, .int .i64 0, .int .i64 0] 35) := ⟨_, rfl⟩
  have hBA : Below w.heap.size w WA := by rw [hWA]; exact (Below.refl _ _).alloc (Nat.le_refl _) _
  have hsA : WA.heap.size = w.heap.size + 1 := by rw [hWA]; simp
  have hpA : RdP (fun _ => True) WA (.slice (some ⟨w.heap.size, 0, none⟩) 2 2) progA := rdP_two (x := ⟨5, srcA, .empty, 0⟩) (y := ⟨1, srcA, outX, 0⟩) (by rw [hWA]; exact heap_alloc_new w _)
  have kc := Lib.run_convert_bytes_const (P := Tryz.prog) WA 26 5 #[.int .u8 98, .int .u8 10, .int .u8 97, .int .u8 10] 4 4 Tryz.underlying26 Tryz.underlying5
  have hBB : Below WA.heap.size WA (WA.alloc (.cells #[.int .u8 98, .int .u8 10, .int .u8 97, .int .u8 10] 5 (4, 5))) := (Below.refl _ _).alloc (Nat.le_refl _) _
  have hbB : RdB (fun _ => True) (WA.alloc (.cells #[.int .u8 98, .int .u8 10, .int .u8 97, .int .u8 10] 5 (4, 5))) (.slice (some ⟨w.heap.size + 1, 0, none⟩) 4 4) lnsU := by
    refine ⟨_, 4, rfl, Nat.le_refl _, by simp only [maxLen]; decide, (fun h => by cases h), fun _ => ⟨w.heap.size + 1, 0, rfl, trivial, fun i hi => ?_⟩⟩
    rw [← hsA, World.cell?_alloc_mark, Nat.zero_add]
    match i, hi with
    | 0, _ => rfl
    | 1, _ => rfl
    | 2, _ => rfl
    | 3, _ => rfl
  have hconv : (convert 26 26 (.slice (some ⟨w.heap.size + 1, 0, none⟩) 4 4)).run Tryz.prog ((w.alloc (Obj.cells #[.int .u8 5, .string ⟨#[115, 114, 99, 47, 97]⟩, .string ⟨#[]⟩, .string ⟨#[]⟩, .int .i64 0, .int .i64 0, .int .u8 1, .string ⟨#[115, 114, 99, 47, 97]⟩, .string ⟨#[111, 117, 116, 47, 120]⟩, .string ⟨#[]⟩, .int .i64 0, .int .i64 0] 35)).alloc (.cells #[.int .u8 98, .int .u8 10, .int .u8 97, .int .u8 10] 5)) = .ok (.slice (some ⟨w.heap.size + 1, 0, none⟩) 4 4) (WA.alloc (.cells #[.int .u8 98, .int .u8 10, .int .u8 97, .int .u8 10] 5 (4, 5))) := by
    rw [← hWA, ← hsA]; exact kc
  have hB2 := Below.then hBA hBB
  generalize WA.alloc (.cells #[.int .u8 98, .int .u8 10, .int .u8 97, .int .u8 10] 5 (4, 5)) = WB at *
  have hpB := hpA.keeps (Keeps.below hBB)
  clear hBB kc hpA
  clear hWA hsA
  go_enter Tryz.func5, Tryz.ntmps5
  go_wp2_with fail
  have hB3 := (Below.refl WB.heap.size WB).alloc (Nat.le_refl _) (Obj.cells #[Value.string ⟨#[115, 114, 99, 47, 97]⟩, Value.slice (some ⟨w.heap.size + 1, 0, none⟩) 4 4] 28)
  have hx := one_file (w := WB.alloc (Obj.cells #[Value.string srcA, Value.slice (some ⟨w.heap.size + 1, 0, none⟩) 4 4] 28)) (f := ⟨srcA, lnsU⟩) (heap_alloc_new WB _) (by simp only [maxLen]; decide) (hbB.keeps (Keeps.alloc _))
  have hF3 := hF.below (Below.then hB2 hB3)
  refine (exec_A hF3 (hpB.keeps (Keeps.below hB3)) hx).mono ?_
  rintro e w4 ⟨v4, rfl, ht4, hB4⟩
  have hB24 := Below.then (Below.then hB2 hB3) hB4
  clear hconv hx hpB hbB
  go_wp2_with fail
  have hB5 := (Below.refl w4.heap.size w4).alloc (Nat.le_refl _) (Obj.cells #[.int .u8 8, .string ⟨#[]⟩, .string ⟨#[]⟩, .string ⟨#[]⟩, .int .i64 0, .int .i64 0] 35)
  have hF5 := hF.below (Below.then hB24 hB5)
  refine (exec_B (P' := fun _ => True) (R := fun _ => True) hF5 (rdP_one (x := ⟨8, .empty, .empty, 0⟩) (heap_alloc_new w4 _))).mono ?_
  rintro e w6 ⟨rfl, hB6⟩
  have hB56 := Below.then hB5 hB6
  go_wp2_with fail
  have hB7 := (Below.refl w6.heap.size w6).alloc (Nat.le_refl _) (Obj.cells #[.int .u8 1, .string ⟨#[97]⟩, .string ⟨#[98]⟩, .string ⟨#[]⟩, .int .i64 0, .int .i64 0] 35)
  have hB47 := Below.then hB56 hB7
  have hF7 := hF.below (Below.then hB24 hB47)
  refine (exec_C (P' := fun _ => True) (R := fun _ => True) hF7 (rdP_one (x := ⟨1, fileA, fileB, 0⟩) (heap_alloc_new w6 _))).mono ?_
  rintro e w8 ⟨rfl, hB8⟩
  have hB48 := Below.then hB47 hB8
  have ht8 := ht4.keeps (Keeps.below hB48) (Keeps.below hB48)
  obtain ⟨tb, tof, tc, e, _, _, _, hc⟩ := ht8.at (by simp)
  obtain rfl : v4 = .slice (some ⟨tb, tof, none⟩) 1 tc := e
  obtain ⟨c1, _, u, c2, hu⟩ := hc 0 (by simp)
  have hs := run_string hu
  have hs' : (convert 26 9 u).run Tryz.prog w8 = .ok (.string ⟨#[97, 10, 98, 10]⟩) w8 := hs
  simp only [Nat.zero_mul, Nat.add_zero, List.getElem_cons_zero] at c1 c2
  obtain ⟨ua, uc, e, _, _⟩ := hu.shape
  obtain rfl : u = .slice ua 4 uc := e
  clear hs hc hu ht8 ht4
  go_wp2
  go_ret
  exact ⟨rfl, Below.then hB24 hB48⟩
end Go.Proofs.YteckjgngglpcaaaGreatDoor
