/-
  Numbers and bytes, appended.
-/
import Derived.Test.YteckjgngglpcaaaGreatDoorBehind
namespace Go.Proofs.YteckjgngglpcaaaGreatDoor
open Go.RowKit

theorem formL_len (n : Nat) : (formL n).length ≤ 3 := by
  unfold formL
  split
  · simp
  · split <;> simp

set_option maxHeartbeats 1000000 in
theorem appendUint_f {P : Nat → Prop} {v : Value} {l : List UInt8} {w : World} (hv : RdB P w v l) (hl : l.length ≤ 10000) {n : Nat} (hn : n < 65536) :
    Calls Tryz.prog 27 #[v, .int .u64 n] w (RetB (l ++ formL n) w) := by
  have hv0 := hv.lt
  obtain ⟨a, cap, rfl, h1, h2⟩ := hv.shape
  go_enter Tryz.func27, Tryz.ntmps27
  go_wp2_with fail
  refine (form_f n hn _).mono ?_
  rintro e w1 ⟨v1, rfl, hf, hB⟩
  obtain ⟨fa, fcap, rfl, f1, f2⟩ := hf.shape
  go_wp2_with fail
  refine (behind_f (ls := [l, formL n]) ⟨w1.heap.size, 0, 2, rfl, by simp, by simp only [maxLen]; decide, by simp, fun i hi => ?_⟩ (by simp) (by have := formL_len n; simp [lens]; omega)).mono ?_
  · have hB2 : Below w1.heap.size w1 (w1.alloc (.cells #[.slice a l.length cap, .slice fa (formL n).length fcap] 26)) := (Below.refl _ _).alloc (Nat.le_refl _) _
    match i, hi with
    | 0, _ => exact ⟨_, by simp, (((hv0.keeps (Keeps.below hB)).lt.keeps (Keeps.below hB2)).mono fun b hb => by have := hb.2; simp; omega)⟩
    | 1, _ => exact ⟨_, by simp, ((hf.lt.keeps (Keeps.below hB2)).mono fun b hb => by have := hb.2; simp; omega)⟩
  · rintro e w2 ⟨v2, rfl, hr, hB2⟩
    go_wp2
    go_ret
    have hBa : Below w.heap.size w w2 := Below.then (hB.alloc hB.size _) hB2
    exact ⟨v2, rfl, by simpa using hr.mono fun b hb => by have := hB.size; simp at hb; omega, hBa⟩

set_option maxHeartbeats 1000000 in
theorem appendBytes_f {P P' : Nat → Prop} {v x : Value} {l m : List UInt8} {w : World} (hv : RdB P w v l) (hx : RdB P' w x m) (hl : l.length + m.length ≤ 10000) :
    Calls Tryz.prog 28 #[v, x] w (RetB (l ++ (formL m.length ++ m)) w) := by
  have hv0 := hv.lt
  have hx0 := hx.lt
  obtain ⟨a, cap, rfl, h1, h2⟩ := hv.shape
  obtain ⟨xa, xcap, rfl, x1, x2⟩ := hx.shape
  have hw : IntKind.u64.wrap (m.length : Int) = (m.length : Int) := IntWalk.u64_in _ (by omega)
  go_enter Tryz.func28, Tryz.ntmps28
  go_wp2_with fail
  refine (form_f m.length (by omega) _).mono ?_
  rintro e w1 ⟨v1, rfl, hf, hB⟩
  obtain ⟨fa, fcap, rfl, f1, f2⟩ := hf.shape
  go_wp2_with fail
  refine (behind_f (ls := [l, formL m.length, m]) ⟨w1.heap.size, 0, 3, rfl, by simp, by simp only [maxLen]; decide, by simp, fun i hi => ?_⟩ (by simp) (by have := formL_len m.length; simp [lens]; omega)).mono ?_
  · have hB2 : Below w1.heap.size w1 (w1.alloc (.cells #[.slice a l.length cap, .slice fa (formL m.length).length fcap, .slice xa m.length xcap] 26)) := (Below.refl _ _).alloc (Nat.le_refl _) _
    match i, hi with
    | 0, _ => exact ⟨_, by simp, (((hv0.keeps (Keeps.below hB)).lt.keeps (Keeps.below hB2)).mono fun b hb => by have := hb.2; simp; omega)⟩
    | 1, _ => exact ⟨_, by simp, ((hf.lt.keeps (Keeps.below hB2)).mono fun b hb => by have := hb.2; simp; omega)⟩
    | 2, _ => exact ⟨_, by simp, (((hx0.keeps (Keeps.below hB)).lt.keeps (Keeps.below hB2)).mono fun b hb => by have := hb.2; simp; omega)⟩
  · rintro e w2 ⟨v2, rfl, hr, hB2⟩
    go_wp2
    go_ret
    have hBa : Below w.heap.size w w2 := Below.then (hB.alloc hB.size _) hB2
    exact ⟨v2, rfl, by simpa using hr.mono fun b hb => by have := hB.size; simp at hb; omega, hBa⟩
end Go.Proofs.YteckjgngglpcaaaGreatDoor
