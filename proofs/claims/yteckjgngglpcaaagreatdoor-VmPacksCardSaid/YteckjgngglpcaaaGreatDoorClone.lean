/-
  Clones of byte slices and of slices of files.
-/
import Derived.Test.YteckjgngglpcaaaGreatDoorOps
import Derived.Lib.LazyBuf
namespace Go.Proofs.YteckjgngglpcaaaGreatDoor
open Go.RowKit

/-- Bytes come back, in memory of the call's own; what was there stays. -/
def RetB (l : List UInt8) (w : World) (e : Ending) (w' : World) : Prop := ∃ v, e = .returned v ∧ RdB (w.heap.size ≤ ·) w' v l ∧ Below w.heap.size w w'

theorem ownB_empty {base : Nat} {w : World} (hb : base ≤ w.heap.size) : OwnB base (w.alloc (.cells #[] 5)) (.slice (some ⟨w.heap.size, 0, none⟩) 0 0) [] :=
  World.ownsRow_made w #[] 0 hb (by decide) rfl

set_option maxHeartbeats 400000 in
theorem cloneB_f {P : Nat → Prop} {v : Value} {l : List UInt8} {w : World} (hv : RdB P w v l) (hl : l.length ≤ 60000) : Calls Tryz.prog 21 #[v] w (RetB l w) := by
  have hv0 := hv
  obtain ⟨a, cap, rfl, h1, h2, h3, _⟩ := hv
  cases a with
  | none =>
    obtain rfl : cap = 0 := h3 rfl
    obtain rfl : l = [] := List.eq_nil_of_length_eq_zero (by omega)
    clear h1 h2 h3 hv0 hl
    have he := fun wx => Lib.run_eql_slice_nil (P := Tryz.prog) wx 26 5 none 0 0 0 0 Tryz.underlying26
    go_enter Tryz.func21, Tryz.ntmps21
    go_wp2
    go_ret
    exact ⟨_, rfl, RdB.nil _ _, Below.refl _ _⟩
  | some ad =>
    have he := fun wx => Lib.run_eql_slice_nil (P := Tryz.prog) wx 26 5 (some ad) l.length cap 0 0 Tryz.underlying26
    go_enter Tryz.func21, Tryz.ntmps21
    go_wp2_with (first | (at_builtin; with_reducible refine at_op ?_))
    refine append_bytes rfl (.tmp 5) (.tmp 6) rfl rfl (ownB_empty (Nat.le_refl _)) rfl (hv0.keeps (Keeps.alloc _)) (by simpa using hl) (by simp) ?_
    intro v' w' ho hg hb
    have hB : Below w.heap.size w w' := ((Below.refl _ _).alloc (Nat.le_refl _) _).trans (below_own hg (by simp) (fun k hk => by obtain rfl : w.heap.size = k := Option.some.inj hk; exact Nat.le_refl _))
    go_wp2
    go_ret
    exact ⟨_, rfl, ho.rd, hB⟩
end Go.Proofs.YteckjgngglpcaaaGreatDoor
