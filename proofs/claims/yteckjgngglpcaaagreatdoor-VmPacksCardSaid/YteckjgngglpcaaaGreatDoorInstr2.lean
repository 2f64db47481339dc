/-
  Which programs may be.
-/
import Derived.Test.YteckjgngglpcaaaGreatDoorInstr1
namespace Go.Proofs.YteckjgngglpcaaaGreatDoor
open Go.RowKit

/-- An instruction. -/
structure In where
  op : Nat
  a : ByteArray
  b : ByteArray
  n : Nat

def In.val (x : In) : Value := insV x.op x.a x.b .empty x.n 0

/-- What an instruction must be, as far as it is asked. -/
def InOk (many : Nat) (x : In) : Prop :=
  (x.op ∈ [1, 6, 7] ∧ POK x.a ∧ POK x.b ∧ x.n = 0) ∨ (x.op = 5 ∧ POK x.a ∧ x.b = .empty ∧ x.n = 0) ∨ (x.op = 8 ∧ x.a = .empty ∧ x.b = .empty ∧ x.n ≤ many)

theorem one_f {w : World} (hF : Fields w) {many : Nat} {x : In} (hx : InOk many x) : Calls Tryz.prog 31 #[x.val, .int .i64 many] w fun e w' => e = .returned (.bool true) ∧ Below w.heap.size w w' := by
  obtain ⟨op, a, b, n⟩ := x
  rcases hx with ⟨ho, ha, hb, hn⟩ | ⟨ho, ha, hb, hn⟩ | ⟨ho, ha, hb, hn⟩
  · simp only at ho ha hb hn
    subst hn
    have hf := hF op (by simp at ho ⊢; omega)
    have e : fieldsOf op = ⟨#[112, 112, 46, 46, 46]⟩ := by simp at ho; rcases ho with rfl | rfl | rfl <;> rfl
    rw [e] at hf
    exact one_any (by simp at ho; omega) (by simp at ho; omega) hf (.inl ⟨rfl, ha⟩) (.inl ⟨rfl, hb⟩) (.inl ⟨rfl, rfl⟩)
  · simp only at ho ha hb hn
    subst hn ho hb
    exact one_any (by omega) (by omega) (hF 5 (by simp)) (.inl ⟨rfl, ha⟩) (.inr ⟨rfl, rfl⟩) (.inl ⟨rfl, rfl⟩)
  · simp only at ho ha hb hn
    subst ho ha hb
    exact one_any (by omega) (by omega) (hF 8 (by simp)) (.inr ⟨rfl, rfl⟩) (.inr ⟨rfl, rfl⟩) (.inr ⟨rfl, hn⟩)

/-- 'v' is a program that reads as p, in a block of which P speaks. -/
def RdP (P : Nat → Prop) (w : World) (v : Value) (p : List In) : Prop :=
  ∃ b off cap, v = .slice (some ⟨b, off, none⟩) p.length cap ∧ p.length ≤ cap ∧ cap ≤ maxLen ∧ P b ∧
    ∀ i (h : i < p.length), w.cell? ⟨b, off + i * 6, none⟩ = some (.int .u8 p[i].op) ∧ w.cell? ⟨b, off + i * 6 + 1, none⟩ = some (.string p[i].a) ∧ w.cell? ⟨b, off + i * 6 + 2, none⟩ = some (.string p[i].b) ∧
      w.cell? ⟨b, off + i * 6 + 3, none⟩ = some (.string .empty) ∧ w.cell? ⟨b, off + i * 6 + 4, none⟩ = some (.int .i64 p[i].n) ∧ w.cell? ⟨b, off + i * 6 + 5, none⟩ = some (.int .i64 0)

theorem RdP.keeps {P : Nat → Prop} {w w' : World} {v : Value} {p : List In} (h : RdP P w v p) (k : Keeps P w w') : RdP P w' v p := by
  obtain ⟨b, off, cap, hv, h1, h2, hb, hc⟩ := h
  refine ⟨b, off, cap, hv, h1, h2, hb, fun i hi => ?_⟩
  obtain ⟨c0, c1, c2, c3, c4, c5⟩ := hc i hi
  exact ⟨k.cell hb c0, k.cell hb c1, k.cell hb c2, k.cell hb c3, k.cell hb c4, k.cell hb c5⟩

set_option maxRecDepth 100000 in
set_option maxHeartbeats 1000000 in
theorem mayOne_f {w : World} (hF : Fields w) {A : Addr} (hA : A.spot = none) {p : List In} {pa : Option Addr} {pc : Nat} (hc : w.cell? A = some (.slice pa p.length pc)) {x : In} (hx : InOk p.length x) :
    Calls Tryz.prog 30 #[x.val, .pointer (some A)] w fun e w' => e = .returned (.bool false) ∧ Below w.heap.size w w' := by
  have hB := (Below.refl w.heap.size w).alloc (Nat.le_refl _) (Obj.cells #[.int .u8 x.op, .string x.a, .string x.b, .string .empty, .int .i64 x.n, .int .i64 0] 35)
  have hF1 := hF.below hB
  obtain ⟨Ab, Ao, As⟩ := A
  subst hA
  have hc1 := Keeps.below_cell hB hc
  have hone := one_f hF1 hx
  unfold In.val insV at *
  clear hF hF1
  go_enter Tryz.func30, Tryz.ntmps30
  go_wp2_with fail
  refine hone.mono ?_
  rintro e w1 ⟨rfl, hB1⟩
  go_wp2
  go_ret
  exact ⟨rfl, Below.then hB hB1⟩

set_option maxRecDepth 100000 in
set_option maxHeartbeats 1000000 in
theorem progIndex_f {P : Nat → Prop} {w : World} (hF : Fields w) {v : Value} {p : List In} (hp : RdP P w v p) (hm : p.length ≤ 30) (hok : ∀ x ∈ p, InOk p.length x) {A : Addr} (hA : A.spot = none) (hc : w.cell? A = some v) :
    Calls Tryz.prog 40 #[v, .func (.func 30) #[] #[.pointer (some A)]] w fun e w' => e = .returned (.int .i64 (-1)) ∧ Below w.heap.size w w' := by
  obtain ⟨Ab, Ao, As⟩ := A
  subst hA
  obtain ⟨b, off, cap, rfl, h1, h2, hb, hcs⟩ := hp
  unfold maxLen at h2
  have HF := Lib.hid hF
  have HC := Lib.hid hc
  have HCS := Lib.hid hcs
  clear hF hc hcs
  go_enter Tryz.func40, Tryz.ntmps40
  go_wp2
  go_loopw [8] (fun i wr => ∃ k : Nat, k ≤ p.length ∧ i = .int .i64 k ∧ Below w.heap.size w wr) (fun i _ => p.length - (intOf i).toNat)
  case atStart => exact ⟨0, by omega, rfl, Below.refl _ _⟩
  case round =>
    obtain ⟨k, hk, rfl, hBl⟩ := hrel
    by_cases hlt : k < p.length
    · obtain ⟨c0, c1, c2, c3, c4, c5⟩ := HCS.out k hlt
      have d0 := Keeps.below_cell hBl c0
      have d1 := Keeps.below_cell hBl c1
      have d2 := Keeps.below_cell hBl c2
      have d3 := Keeps.below_cell hBl c3
      have d4 := Keeps.below_cell hBl c4
      have d5 := Keeps.below_cell hBl c5
      have hone := mayOne_f (HF.out.below hBl) rfl (Keeps.below_cell hBl HC.out) (hok _ (List.getElem_mem hlt))
      unfold In.val insV at hone
      clear c0 c1 c2 c3 c4 c5
      go_wp2_with fail
      refine hone.mono ?_
      rintro e w1 ⟨rfl, hB1⟩
      go_wp2
      go_roundw
      case rel => exact ⟨k + 1, by omega, by go_num, Below.then hBl hB1⟩
      case measure => simp [intOf]; omega
    · go_wp2
      go_ret
      exact ⟨rfl, hBl⟩

set_option maxHeartbeats 1000000 in
theorem contains_f {P : Nat → Prop} {w : World} (hF : Fields w) {v : Value} {p : List In} (hp : RdP P w v p) (hm : p.length ≤ 30) (hok : ∀ x ∈ p, InOk p.length x) {A : Addr} (hA : A.spot = none) (hc : w.cell? A = some v) :
    Calls Tryz.prog 29 #[v, .func (.func 30) #[] #[.pointer (some A)]] w fun e w' => e = .returned (.bool false) ∧ Below w.heap.size w w' := by
  have hix := progIndex_f hF hp hm hok hA hc
  obtain ⟨b, off, cap, rfl, _⟩ := hp
  go_enter Tryz.func29, Tryz.ntmps29
  go_wp2_with fail
  refine hix.mono ?_
  rintro e w1 ⟨rfl, hB1⟩
  go_wp2
  go_ret
  exact ⟨rfl, hB1⟩

set_option maxHeartbeats 1000000 in
theorem progMay_f {P : Nat → Prop} {w : World} (hF : Fields w) {v : Value} {p : List In} (hp : RdP P w v p) (hm : p.length ≤ 30) (hok : ∀ x ∈ p, InOk p.length x) :
    Calls Tryz.prog 18 #[v] w fun e w' => e = .returned (.bool true) ∧ Below w.heap.size w w' := by
  have hmf : ∀ (fn : Fn) (first cap : Array Value) (w : World), (Instr.makeFunc fn first cap).run Tryz.prog w = .ok (.func fn first cap) w := fun _ _ _ _ => rfl
  have hB := (Below.refl w.heap.size w).alloc (Nat.le_refl _) (Obj.cells #[v] 36)
  have hcon := contains_f (A := ⟨w.heap.size, 0, none⟩) (hF.below hB) (hp.keeps (Keeps.alloc (Obj.cells #[v] 36))) hm hok rfl (by simp)
  obtain ⟨b, off, cap, rfl, _⟩ := hp
  have hd : decide ((p.length : Int) ≤ 30) = true := decide_eq_true (by omega)
  go_enter Tryz.func18, Tryz.ntmps18
  go_wp2_with fail
  refine hcon.mono ?_
  rintro e w1 ⟨rfl, hB1⟩
  go_wp2
  go_ret
  exact ⟨rfl, Below.then hB hB1⟩
end Go.Proofs.YteckjgngglpcaaaGreatDoor
