/-
  A number's form.
-/
import Derived.Test.YteckjgngglpcaaaGreatDoorBelow
namespace Go.Proofs.YteckjgngglpcaaaGreatDoor
open Go.RowKit

/-- A number's form, of numbers below 65536. -/
def formL (n : Nat) : List UInt8 := if n = 0 then [0] else if n < 256 then [1, UInt8.ofNat n] else [2, UInt8.ofNat (n / 256), UInt8.ofNat (n % 256)]

theorem rdB_lit {P : Nat → Prop} {w : World} {b off cap : Nat} {l : List UInt8} (hb : P b) (hc : l.length ≤ cap) (hm : cap ≤ maxLen) (h : ∀ i (hi : i < l.length), w.cell? ⟨b, off + i, none⟩ = some (.int .u8 (l[i].toNat))) : RdB P w (.slice (some ⟨b, off, none⟩) l.length cap) l :=
  ⟨_, cap, rfl, hc, hm, (fun h => by cases h), fun _ => ⟨b, off, rfl, hb, h⟩⟩

set_option maxRecDepth 100000 in
set_option maxHeartbeats 1000000 in
theorem form_0 (w : World) : Calls Tryz.prog 39 #[.int .u64 0] w (RetB (formL 0) w) := by
  go_enter Tryz.func39, Tryz.ntmps39
  go_wp2
  go_step3
  go_wp2
  go_step3
  go_wp2
  refine wp_loop_rounds 1 ?_
  rw [rounds_succ]
  go_wp2
  rw [Exit.noGoto_ret]
  go_ret
  refine ⟨_, rfl, rdB_lit (l := formL 0) (cap := 1) (b := w.heap.size) (off := 8) (Nat.le_refl _) (by decide) (by simp only [maxLen]; decide) (fun i hi => ?_), ?_⟩
  · obtain rfl : i = 0 := by simpa [formL] using hi
    simp [formL]
  · exact (Below.refl _ _).alloc (Nat.le_refl _) _

set_option maxRecDepth 100000 in
set_option maxHeartbeats 1000000 in
theorem form_1 (n : Nat) (h0 : 0 < n) (h1 : n < 256) (w : World) : Calls Tryz.prog 39 #[.int .u64 n] w (RetB (formL n) w) := by
  have e0 : ((n : Int) == 0) = false := by rw [beq_eq_false_iff_ne]; omega
  have e1 : (n : Int) / 256 = 0 := by omega
  have e2 : IntKind.u8.wrap (n : Int) = (n : Int) := IntWalk.u8_in _ (by omega)
  go_enter Tryz.func39, Tryz.ntmps39
  go_wp2
  go_step3
  go_wp2
  go_step3
  go_wp2
  refine wp_loop_rounds 2 ?_
  rw [rounds_succ]
  go_wp2
  rw [rounds_succ]
  go_wp2
  rw [Exit.noGoto_ret]
  go_ret
  have e : formL n = [1, UInt8.ofNat n] := by simp [formL, h1]; omega
  rw [e]
  refine ⟨_, rfl, rdB_lit (l := [1, UInt8.ofNat n]) (cap := 2) (b := w.heap.size) (off := 7) (Nat.le_refl _) (by simp) (by simp only [maxLen]; decide) (fun i hi => ?_), ?_⟩
  · match i, hi with
    | 0, _ => simp
    | 1, _ => simp; omega
  · exact (Below.refl _ _).alloc (Nat.le_refl _) _

set_option maxRecDepth 100000 in
set_option maxHeartbeats 1000000 in
theorem form_2 (n : Nat) (h0 : 256 ≤ n) (h1 : n < 65536) (w : World) : Calls Tryz.prog 39 #[.int .u64 n] w (RetB (formL n) w) := by
  obtain ⟨a, b, hn, hb, ha0, ha⟩ : ∃ a b : Nat, n = a * 256 + b ∧ b < 256 ∧ 0 < a ∧ a < 256 := ⟨n / 256, n % 256, by omega, by omega, by omega, by omega⟩
  have e : formL n = [2, UInt8.ofNat a, UInt8.ofNat b] := by
    have q0 : ¬ n = 0 := by omega
    have q1 : ¬ n < 256 := by omega
    have q2 : n / 256 = a := by omega
    have q3 : n % 256 = b := by omega
    simp [formL, q0, q1, q2, q3]
  have e0 : ((n : Int) == 0) = false := by rw [beq_eq_false_iff_ne]; omega
  have e1 : (n : Int) / 256 = (a : Int) := by omega
  have e2 : IntKind.u8.wrap (n : Int) = (b : Int) := by unfold IntKind.wrap; simp [IntKind.bits, IntKind.signed]; omega
  have e3 : ((a : Int) == 0) = false := by rw [beq_eq_false_iff_ne]; omega
  have e4 : (a : Int) / 256 = 0 := by omega
  have e5 : IntKind.u8.wrap (a : Int) = (a : Int) := IntWalk.u8_in _ (by omega)
  have Hn := Lib.hid hn
  have He := Lib.hid e
  clear hn e
  go_enter Tryz.func39, Tryz.ntmps39
  go_wp2
  go_step3
  go_wp2
  go_step3
  go_wp2
  refine wp_loop_rounds 3 ?_
  rw [rounds_succ]
  go_wp2
  rw [rounds_succ]
  go_wp2
  rw [rounds_succ]
  go_wp2
  rw [Exit.noGoto_ret]
  go_ret
  rw [He.out]
  refine ⟨_, rfl, rdB_lit (l := [2, UInt8.ofNat a, UInt8.ofNat b]) (cap := 3) (b := w.heap.size) (off := 6) (Nat.le_refl _) (by simp) (by simp only [maxLen]; decide) (fun i hi => ?_), ?_⟩
  · match i, hi with
    | 0, _ => simp
    | 1, _ => simp; omega
    | 2, _ => simp; omega
  · exact (Below.refl _ _).alloc (Nat.le_refl _) _

theorem form_f (n : Nat) (h : n < 65536) (w : World) : Calls Tryz.prog 39 #[.int .u64 n] w (RetB (formL n) w) := by
  by_cases h0 : n = 0
  · subst h0; exact form_0 w
  · by_cases h1 : n < 256
    · exact form_1 n (by omega) h1 w
    · exact form_2 n (by omega) h w

end Go.Proofs.YteckjgngglpcaaaGreatDoor
