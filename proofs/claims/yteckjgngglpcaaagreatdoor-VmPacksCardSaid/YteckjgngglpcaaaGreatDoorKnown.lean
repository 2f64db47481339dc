/-
  What is known: three runs.
-/
import Derived.Test.YteckjgngglpcaaaGreatDoorExec
import Derived.Test.YteckjgngglpcaaaGreatDoorLines4
namespace Go.Proofs.YteckjgngglpcaaaGreatDoor
open Go.RowKit

def srcA : ByteArray := ⟨#[115, 114, 99, 47, 97]⟩
def outX : ByteArray := ⟨#[111, 117, 116, 47, 120]⟩
def lnsU : List UInt8 := [98, 10, 97, 10]
def lnsS : List UInt8 := [97, 10, 98, 10]

theorem put_a (l m : List UInt8) : putF srcA m [⟨srcA, l⟩] = [⟨srcA, m⟩] := by
  simp [putF, srcA]
  decide
theorem put_x (l m : List UInt8) : putF outX m [⟨srcA, l⟩] = [⟨outX, m⟩, ⟨srcA, l⟩] := by
  simp [putF, srcA, outX]
  decide
theorem has_x : hasP outX (outP ++ slash) = true := by
  simp only [hasP, ByteArray.toList_eq]
  decide
theorem has_a : hasP srcA (outP ++ slash) = false := by
  simp only [hasP, ByteArray.toList_eq]
  decide
theorem cut_x : outX.extract (outP.size + slash.size) outX.size = ⟨#[120]⟩ := by decide
theorem below_x (l m : List UInt8) : belowF outP [⟨outX, m⟩, ⟨srcA, l⟩] = [⟨⟨#[120]⟩, m⟩] := by
  simp [belowF, belowOne, has_x, has_a, cut_x]

theorem pok_a : POK srcA := (pok_iff _).2 ⟨by decide, by decide⟩
theorem pok_x : POK outX := (pok_iff _).2 ⟨by decide, by decide⟩
theorem tok_a (l : List UInt8) (h : l.length = 4) : TOK [⟨srcA, l⟩] ∧ szs [⟨srcA, l⟩] ≤ 4000 := by
  have h0 : TOK [] := TOK.of (by simp) (fun f hf => by cases hf) List.Pairwise.nil
  have := h0.put pok_a (l := l) (by omega) (by simp [putF])
  exact ⟨this, by simp [szs]; omega⟩
theorem tok_x (l m : List UInt8) (h : l.length = 4) (h' : m.length = 4) : TOK [⟨outX, m⟩, ⟨srcA, l⟩] ∧ szs [⟨outX, m⟩, ⟨srcA, l⟩] ≤ 4000 := by
  have h0 := (tok_a l h).1.put pok_x (l := m) (by omega) (by rw [put_x]; simp)
  rw [put_x] at h0
  exact ⟨h0, by simp [szs]; omega⟩

/-- The first run's states. -/
def stA (n : Nat) : VM := match n with
  | 0 => ⟨[⟨srcA, lnsU⟩], 0, 0⟩
  | 1 => ⟨[⟨srcA, lnsS⟩], 1, 2⟩
  | _ => ⟨[⟨outX, lnsS⟩, ⟨srcA, lnsS⟩], 2, 4⟩

def progA : List In := [⟨5, srcA, .empty, 0⟩, ⟨1, srcA, outX, 0⟩]

theorem ok_A : ∀ x ∈ progA, InOk progA.length x := by
  intro x hx
  simp only [progA, List.mem_cons, List.not_mem_nil, or_false] at hx
  rcases hx with rfl | rfl
  · exact .inr (.inl ⟨rfl, pok_a, rfl, rfl⟩)
  · exact .inl ⟨by simp, pok_a, pok_x, rfl⟩

theorem StepRet.to {fuel : Nat} {x : In} {s s' : VM} {I : VM → Prop} {B : Int → Nat → Prop} (hI : I s') (hu : s.used < s'.used) (hf : s'.used ≤ fuel)
    (h : ∀ X w, Run X w fuel s → Calls Tryz.prog 33 #[.pointer (some ⟨X, 0, none⟩), x.val] w (StepRet X fuel s' w)) : StepsTo fuel x s I B := fun X w hR =>
  (h X w hR).mono fun _ _ ⟨he, hR', hV⟩ => ⟨hV, .inl ⟨he, s', hI, hu, hf, hR'⟩⟩

theorem steps_A (s : VM) (hs : s = stA 0 ∨ s = stA 1 ∨ s = stA 2) (h : s.place < progA.length) : StepsTo 100 progA[s.place] s (fun s => s = stA 0 ∨ s = stA 1 ∨ s = stA 2) (fun _ _ => False) := by
  rcases hs with rfl | rfl | rfl
  · refine StepRet.to (s' := stA 1) (.inr (.inl rfl)) (by decide) (by decide) fun X w hR => ?_
    have := step_sort (b := .empty) (c := .empty) (n := 0) (m := 0) (a := srcA) (k := 0) hR (tok_a lnsU rfl).1 (tok_a lnsU rfl).2 (by omega) (by decide) (by simp [stA]) rfl (l := lnsS) (fun P W v hb => sorted_f hb) (by decide) pok_a (by rw [show (stA 0).t = [⟨srcA, lnsU⟩] from rfl, put_a]; simp) (by decide) (by rw [show (stA 0).t = [⟨srcA, lnsU⟩] from rfl, put_a]; decide)
    rw [show (stA 0).t = [⟨srcA, lnsU⟩] from rfl, put_a] at this
    exact this
  · refine StepRet.to (s' := stA 2) (.inr (.inr rfl)) (by decide) (by decide) fun X w hR => ?_
    have := step_copy (b := outX) (c := .empty) (n := 0) (m := 0) (a := srcA) (k := 0) hR (tok_a lnsS rfl).1 (tok_a lnsS rfl).2 (by omega) (by decide) (by simp [stA]) rfl pok_x (by show (putF outX lnsS [⟨srcA, lnsS⟩]).length ≤ 16; rw [put_x]; simp) (by decide) (by show szs (putF outX lnsS [⟨srcA, lnsS⟩]) ≤ 4000; rw [put_x]; decide)
    have this' : Calls Tryz.prog 33 #[.pointer (some ⟨X, 0, none⟩), insV 1 srcA outX .empty 0 0] w (StepRet X 100 { t := putF outX lnsS [⟨srcA, lnsS⟩], place := 2, used := 4 } w) := this
    rw [put_x] at this'
    exact this'
  · exact absurd h (by decide)
end Go.Proofs.YteckjgngglpcaaaGreatDoor
