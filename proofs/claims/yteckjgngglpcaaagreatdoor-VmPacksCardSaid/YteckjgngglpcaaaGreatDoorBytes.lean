/-
  Bytes read back; the bytes of a tree that may be.
-/
import Derived.Test.YteckjgngglpcaaaGreatDoorUint
namespace Go.Proofs.YteckjgngglpcaaaGreatDoor
open Go.RowKit

/-- What reading bytes answers. -/
def BytesSo (x : List UInt8) (k : Nat) (w : World) (e : Ending) (w' : World) : Prop := ∃ v, e = .returned (.tuple #[v, .int .i64 k, .int .i64 0]) ∧ RdB (w.heap.size ≤ ·) w' v x ∧ Below w.heap.size w w'

set_option maxRecDepth 100000 in
set_option maxHeartbeats 1000000 in
theorem bytes_f {P : Nat → Prop} {v : Value} {l x post : List UInt8} {w : World} (hv : RdB P w v l) {a most : Nat} (hx : x.length ≤ most) (hmost : most < 65536) (hd : l.drop a = formL x.length ++ (x ++ post)) (hl : l.length ≤ 20000) :
    Calls Tryz.prog 76 #[v, .int .i64 a, .int .i64 most] w (BytesSo x (a + (formL x.length).length + x.length) w) := by
  have hlen := congrArg List.length hd
  simp only [List.length_drop, List.length_append] at hlen
  have hfl : 1 ≤ (formL x.length).length := by unfold formL; split; simp; split <;> simp
  have huint := uint_f hv (by omega) hd
  have hv0 := hv.lt
  have hd2 : l.drop (a + (formL x.length).length) = x ++ post := by
    rw [← List.drop_drop, hd]; simp
  obtain ⟨ad, cap, rfl, h1, h2, h3, h4⟩ := hv0
  obtain ⟨b, off, rfl, hb, hc⟩ := h4 (by omega)
  unfold maxLen at h2
  clear h3 h4
  obtain ⟨c, hcc⟩ : ∃ c, c = a + (formL x.length).length := ⟨_, rfl⟩
  rw [← hcc] at huint hd2 ⊢
  have Hd := Lib.hid hd
  have d1 : ((most : Int) < 0) = False := by simp
  have d2 : IntKind.u64.wrap (most : Int) = (most : Int) := IntWalk.u64_in _ (by omega)
  have d3 : decide ((most : Int) < (x.length : Int)) = false := decide_eq_false (by omega)
  have d4 : IntKind.u64.wrap ((l.length : Int) - (c : Int)) = (l.length : Int) - (c : Int) := IntWalk.u64_in _ (by omega)
  have d5 : decide ((l.length : Int) - (c : Int) < (x.length : Int)) = false := decide_eq_false (by omega)
  have hcl : c + x.length ≤ l.length := by omega
  have Hcc := Lib.hid hcc
  clear hd hcc hlen
  go_enter Tryz.func76, Tryz.ntmps76
  go_wp2_with fail
  refine huint.mono ?_
  rintro e w1 ⟨rfl, rfl⟩
  by_cases hcap : cap = c
  · obtain rfl : x = [] := List.eq_nil_of_length_eq_zero (by omega)
    go_wp2_with fail
    refine (behind_f (ls := [[]]) ⟨w.heap.size, 0, 1, rfl, by simp, by simp only [maxLen]; decide, by simp, fun i hi => ?_⟩ (by simp) (by simp [lens])).mono ?_
    · obtain rfl : i = 0 := by simpa using hi
      refine ⟨Value.slice (some ⟨b, off, none⟩) 0 0, by simp, ?_⟩
      exact ⟨_, 0, rfl, by simp, by simp, (fun h => by cases h), fun h => absurd h (by simp)⟩
    · rintro e w2 ⟨v2, rfl, hr, hB2⟩
      go_wp2
      go_ret3
      have hBa : Below w.heap.size w w2 := Below.then ((Below.refl _ _).alloc (Nat.le_refl _) _) hB2
      exact ⟨v2, by simp, by simpa using hr.mono fun q hq => by simp at hq; omega, hBa⟩
  · have hcc2 : c ≤ cap := by omega
    go_wp2_with fail
    refine (behind_f (ls := [x]) ⟨w.heap.size, 0, 1, rfl, by simp, by simp only [maxLen]; decide, by simp, fun i hi => ?_⟩ (by simp) (by simp [lens]; omega)).mono ?_
    · obtain rfl : i = 0 := by simpa using hi
      refine ⟨Value.slice (some ⟨b, off + c, none⟩) x.length (cap - c), by simp, ?_⟩
      refine ⟨_, cap - c, rfl, by simp; omega, by simp only [maxLen]; omega, (fun h => by cases h), fun _ => ⟨b, off + c, rfl, by simp; omega, fun j hj => ?_⟩⟩
      have hj' : j < x.length := hj
      obtain ⟨q1, q2⟩ := drop_at hd2 j hj'
      have hk : Keeps (fun _ => True) w (w.alloc (Obj.cells #[Value.slice (some { block := b, off := off + c }) x.length (cap - c)] 26)) := Keeps.alloc _
      rw [Nat.add_assoc]
      refine hk.cell trivial ?_
      rw [hc _ q1, q2]
      rfl
    · rintro e w2 ⟨v2, rfl, hr, hB2⟩
      go_wp2
      go_ret3
      have hBa : Below w.heap.size w w2 := Below.then ((Below.refl _ _).alloc (Nat.le_refl _) _) hB2
      exact ⟨v2, by simp, by simpa using hr.mono fun q hq => by simp at hq; omega, hBa⟩

theorem treeBytes_f {P R : Nat → Prop} {v : Value} {t : List Fi} {w : World} (hv : RdT P R w v t) (hT : TOK t) (hz : szs t ≤ 4000) :
    Calls Tryz.prog 7 #[v] w fun e w' => ∃ v', e = .returned (.tuple #[v', .int .i64 0]) ∧ RdB (w.heap.size ≤ ·) w' v' (rawL t) ∧ Below w.heap.size w w' := by
  have hd : decide (szs t ≤ 4000) = true := decide_eq_true hz
  obtain ⟨a, cap, e, _, _⟩ := hv.shape
  subst e
  go_enter Tryz.func7, Tryz.ntmps7
  go_wp2_with fail
  refine (may_f _ _ _ _ _ hv hT).mono ?_
  rintro e w1 ⟨rfl, hB1⟩
  rw [hd]
  go_wp2_with fail
  refine (raw_f (hv.keeps (Keeps.below hB1) (Keeps.below hB1)) hT hz).mono ?_
  rintro e w2 ⟨v2, rfl, hr, hB2⟩
  go_wp2
  go_ret2
  exact ⟨v2, rfl, hr.mono fun q hq => Nat.le_trans hB1.size hq, Below.then hB1 hB2⟩
end Go.Proofs.YteckjgngglpcaaaGreatDoor
