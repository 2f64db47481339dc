/-
  Getting and putting a run's files.
-/
import Derived.Test.YteckjgngglpcaaaGreatDoorVm
namespace Go.Proofs.YteckjgngglpcaaaGreatDoor
open Go.RowKit

theorem vmGet_hit {X fuel : Nat} {s : VM} {w : World} (h : Run X w fuel s) (hT : TOK s.t) (hz : szs s.t ≤ 4000) (p : ByteArray) {k : Nat} (hk : k < s.t.length) (he : s.t[k].p.toList = p.toList) :
    Calls Tryz.prog 43 #[.pointer (some ⟨X, 0, none⟩), .string p] w (RetB s.t[k].b w) := by
  obtain ⟨v, hX, ht⟩ := h
  have c0 : w.cell? ⟨X, 0, none⟩ = some v := cell_of_row w X 0 _ 50 (0, 0) hX
  obtain ⟨a, cap, e, _, _⟩ := ht.shape
  subst e
  clear hX
  go_enter Tryz.func43, Tryz.ntmps43
  go_wp2_with fail
  refine (get_hit ht hT hz p hk he).mono ?_
  rintro e w1 ⟨v1, rfl, hr, hB⟩
  go_wp2_with fail
  refine (must_ok _ _).mono ?_
  rintro e w2 ⟨rfl, rfl⟩
  go_wp2
  go_ret
  exact ⟨_, rfl, hr, hB⟩

theorem vmGet_miss {X fuel : Nat} {s : VM} {w : World} (h : Run X w fuel s) (hT : TOK s.t) (hz : szs s.t ≤ 4000) (p : ByteArray) (he : ∀ k (h : k < s.t.length), s.t[k].p.toList ≠ p.toList) :
    Calls Tryz.prog 43 #[.pointer (some ⟨X, 0, none⟩), .string p] w fun x w' => x = .panicked (stopC 70) ∧ Below w.heap.size w w' := by
  obtain ⟨v, hX, ht⟩ := h
  have c0 : w.cell? ⟨X, 0, none⟩ = some v := cell_of_row w X 0 _ 50 (0, 0) hX
  obtain ⟨a, cap, e, _, _⟩ := ht.shape
  subst e
  clear hX
  go_enter Tryz.func43, Tryz.ntmps43
  go_wp2_with fail
  refine (get_miss ht hT hz p he).mono ?_
  rintro e w1 ⟨rfl, hB⟩
  go_wp2_with fail
  refine (must_not _ _).mono ?_
  rintro e w2 ⟨rfl, rfl⟩
  go_wp2
  exact ⟨rfl, rfl, hB⟩

/-- What putting does. -/
def PutSo (X fuel : Nat) (s : VM) (p : ByteArray) (l : List UInt8) (w : World) (x : Ending) (w' : World) : Prop :=
  x = .returned (.tuple #[]) ∧ Run X w' fuel { t := putF p l s.t, place := s.place, used := s.used + (l.length + 15) / 16 } ∧ Vk X w w'

set_option maxHeartbeats 1000000 in
theorem put_ok {X fuel : Nat} {s : VM} {w : World} {P : Nat → Prop} (h : Run X w fuel s) (hT : TOK s.t) (hz : szs s.t ≤ 4000) (hf : fuel ≤ 20000) {p : ByteArray} (hp : POK p) {l : List UInt8} {bv : Value} (hb : RdB P w bv l) (hne : ∀ b, P b → b ≠ X) (hl : l.length ≤ 2000)
    (hlen : (putF p l s.t).length ≤ 16) (hfuel : s.used + (l.length + 15) / 16 ≤ fuel) (hfit : szs (putF p l s.t) ≤ 4000) :
    Calls Tryz.prog 42 #[.pointer (some ⟨X, 0, none⟩), .string p, bv] w (PutSo X fuel s p l w) := by
  have hpay := pay_ok h hf hfuel
  obtain ⟨ba, bc, e, _, _⟩ := hb.shape
  subst e
  clear h
  go_enter Tryz.func42, Tryz.ntmps42
  go_wp2_with fail
  refine hpay.mono ?_
  rintro e w1 ⟨rfl, hR1, hV1⟩
  have hlt1 := hR1.lt
  obtain ⟨v, hX, ht⟩ := hR1
  have c0 : w1.cell? ⟨X, 0, none⟩ = some v := cell_of_row w1 X 0 _ 50 (0, 0) hX
  obtain ⟨a, cap, e, _, _⟩ := ht.shape
  subst e
  have HX := Lib.hid hX
  clear hX
  go_wp2_with fail
  refine (with_f ht hT hz hp (hb.keeps (fun b hb' hlt => hV1.1 b (hne b hb') hlt)) hl hlen).mono ?_
  rintro e w2 hW
  unfold RetW at hW
  rw [if_pos hfit] at hW
  obtain ⟨v2, rfl, ho, hB2⟩ := hW
  go_wp2_with fail
  refine (must_ok _ _).mono ?_
  rintro e w3 ⟨rfl, rfl⟩
  have hX2 := (hB2.block X hlt1).trans HX.out
  have f0 := frozen_of_row w2 X 0 _ 50 hX2
  have c02 := cell_of_row w2 X 0 _ 50 (0, 0) hX2
  simp only [List.getElem?_toArray, List.getElem?_cons_zero] at c02
  obtain ⟨oa, oc, e, _, _⟩ := ho.rd.shape
  subst e
  have HX2 := Lib.hid hX2
  clear hX2
  go_wp2
  go_end0
  have hb1 := hB2.size
  refine ⟨rfl, ⟨_, heap_setCell_same w2 X 0 _ 50 _ HX2.out, ?_⟩, (hV1.trans (Vk.below hB2)).trans Vk.setCell⟩
  have hrd := ho.rd.mono (P' := (· ≠ X)) (R' := (· ≠ X)) (fun b (hb : w1.heap.size ≤ b) => by omega) (fun b (hb : w1.heap.size ≤ b) => by omega)
  exact hrd.keeps (Keeps.setCell _ (fun h => h rfl)) (Keeps.setCell _ (fun h => h rfl))

/-- What putting more than fits does. -/
def PutFull (X fuel : Nat) (w : World) (x : Ending) (w' : World) : Prop := x = .panicked (stopC 8) ∧ (∃ s' : VM, Run X w' fuel s') ∧ Vk X w w'

set_option maxHeartbeats 1000000 in
theorem put_full {X fuel : Nat} {s : VM} {w : World} {P : Nat → Prop} (h : Run X w fuel s) (hT : TOK s.t) (hz : szs s.t ≤ 4000) (hf : fuel ≤ 20000) {p : ByteArray} (hp : POK p) {l : List UInt8} {bv : Value} (hb : RdB P w bv l) (hne : ∀ b, P b → b ≠ X) (hl : l.length ≤ 2000)
    (hlen : (putF p l s.t).length ≤ 16) (hfuel : s.used + (l.length + 15) / 16 ≤ fuel) (hfit : ¬ szs (putF p l s.t) ≤ 4000) :
    Calls Tryz.prog 42 #[.pointer (some ⟨X, 0, none⟩), .string p, bv] w (PutFull X fuel w) := by
  have hpay := pay_ok h hf hfuel
  obtain ⟨ba, bc, e, _, _⟩ := hb.shape
  subst e
  clear h
  go_enter Tryz.func42, Tryz.ntmps42
  go_wp2_with fail
  refine hpay.mono ?_
  rintro e w1 ⟨rfl, hR1, hV1⟩
  have hR1' := Lib.hid hR1
  obtain ⟨v, hX, ht⟩ := hR1
  have c0 : w1.cell? ⟨X, 0, none⟩ = some v := cell_of_row w1 X 0 _ 50 (0, 0) hX
  obtain ⟨a, cap, e, _, _⟩ := ht.shape
  subst e
  clear hX
  go_wp2_with fail
  refine (with_f ht hT hz hp (hb.keeps (fun b hb' hlt => hV1.1 b (hne b hb') hlt)) hl hlen).mono ?_
  rintro e w2 hW
  unfold RetW at hW
  rw [if_neg hfit] at hW
  obtain ⟨rfl, hB2⟩ := hW
  go_wp2_with fail
  refine (must_not _ _).mono ?_
  rintro e w3 ⟨rfl, rfl⟩
  go_wp2
  exact ⟨rfl, rfl, ⟨_, hR1'.out.below hB2⟩, hV1.trans (Vk.below hB2)⟩
end Go.Proofs.YteckjgngglpcaaaGreatDoor
