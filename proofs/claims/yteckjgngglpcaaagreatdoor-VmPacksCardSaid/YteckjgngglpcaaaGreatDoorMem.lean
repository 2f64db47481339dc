/-
  How byte slices, files and trees read in memory, and what keeps them so. Plain lemmas over the model's worlds.
-/
import Derived.Test.YteckjgngglpcaaaGreatDoorChecked
import Derived.WalkKit
import Derived.WalkSpells
import Derived.WalkLawsBesides
import Derived.Lib.Hide
import Derived.Deep.LoopGhost
import Derived.Deep.QuietTactic
import Derived.BigQuiet
import Derived.Deep.DeepCutAuto
import Derived.Deep.RegionWith
import Derived.Deep.DeepFit
import Derived.Deep.RegionHeld3
namespace Go.Proofs.YteckjgngglpcaaaGreatDoor
open Go.RowKit

/-- The blocks of which P speaks are as they were. -/
def Keeps (P : Nat → Prop) (w w' : World) : Prop := ∀ b, P b → b < w.heap.size → w'.heap[b]? = w.heap[b]?

theorem Keeps.cell {P : Nat → Prop} {w w' : World} (h : Keeps P w w') {b off : Nat} {v : Value} (hb : P b) (hc : w.cell? ⟨b, off, none⟩ = some v) : w'.cell? ⟨b, off, none⟩ = some v := by
  have hlt := World.block_lt_of_cell? w _ hc
  rw [← hc]
  exact World.cell?_of_block (h b hb hlt)

theorem Keeps.below {P : Nat → Prop} {w w' : World} (h : Below w.heap.size w w') : Keeps P w w' := fun b _ hlt => h.block b hlt
theorem Keeps.below' {P : Nat → Prop} {w w' : World} {N : Nat} (h : Below N w w') (hP : ∀ b, P b → b < N) : Keeps P w w' := fun b hb _ => h.block b (hP b hb)
theorem Keeps.setCell {P : Nat → Prop} {w : World} {a : Addr} (v : Value) (h : ¬ P a.block) : Keeps P w (w.setCell a v) :=
  fun b hb _ => Below.heap_setCell w a v b (fun e => h (e ▸ hb))
theorem Keeps.alloc {P : Nat → Prop} {w : World} (o : Obj) : Keeps P w (w.alloc o) := fun b _ hlt => Below.heap_alloc w o b hlt
theorem Keeps.drew {P : Nat → Prop} {w : World} : Keeps P w w.drew := fun _ _ _ => rfl

/-- 'v' is a slice of bytes that reads as l, in blocks of which P speaks. -/
def RdB (P : Nat → Prop) (w : World) (v : Value) (l : List UInt8) : Prop :=
  ∃ a cap, v = .slice a l.length cap ∧ l.length ≤ cap ∧ cap ≤ maxLen ∧ (a = none → cap = 0) ∧
    (0 < l.length → ∃ b off, a = some ⟨b, off, none⟩ ∧ P b ∧ ∀ i (h : i < l.length), w.cell? ⟨b, off + i, none⟩ = some (.int .u8 (l[i].toNat)))

theorem RdB.keeps {P : Nat → Prop} {w w' : World} {v : Value} {l : List UInt8} (h : RdB P w v l) (k : Keeps P w w') : RdB P w' v l := by
  obtain ⟨a, cap, hv, h1, h2, h3, h4⟩ := h
  refine ⟨a, cap, hv, h1, h2, h3, fun hp => ?_⟩
  obtain ⟨b, off, ha, hb, hc⟩ := h4 hp
  exact ⟨b, off, ha, hb, fun i hi => k.cell hb (hc i hi)⟩

theorem RdB.mono {P P' : Nat → Prop} {w : World} {v : Value} {l : List UInt8} (h : RdB P w v l) (hp : ∀ b, P b → P' b) : RdB P' w v l := by
  obtain ⟨a, cap, hv, h1, h2, h3, h4⟩ := h
  refine ⟨a, cap, hv, h1, h2, h3, fun hp' => ?_⟩
  obtain ⟨b, off, ha, hb, hc⟩ := h4 hp'
  exact ⟨b, off, ha, hp b hb, hc⟩

theorem RdB.nil (P : Nat → Prop) (w : World) : RdB P w (.slice none 0 0) [] := ⟨none, 0, rfl, Nat.le_refl _, Nat.zero_le _, fun _ => rfl, fun h => absurd h (Nat.lt_irrefl _)⟩

/-- A file of a tree: its path, its bytes. -/
structure Fi where
  p : ByteArray
  b : List UInt8

/-- The two cells from off on of block b hold a file. -/
def RdF (P : Nat → Prop) (w : World) (b off : Nat) (f : Fi) : Prop :=
  w.cell? ⟨b, off, none⟩ = some (.string f.p) ∧ f.p.size ≤ maxLen ∧ ∃ v, w.cell? ⟨b, off + 1, none⟩ = some v ∧ RdB P w v f.b

/-- 'v' is a slice of files that reads as t; its row lies in a block of which P speaks, the files' bytes in blocks of which R speaks. -/
def RdT (P R : Nat → Prop) (w : World) (v : Value) (t : List Fi) : Prop :=
  ∃ a cap, v = .slice a t.length cap ∧ t.length ≤ cap ∧ cap ≤ maxLen ∧ (a = none → cap = 0) ∧
    (0 < t.length → ∃ b off, a = some ⟨b, off, none⟩ ∧ P b ∧ ∀ i (h : i < t.length), RdF R w b (off + i * 2) t[i])

theorem RdF.keeps {P R : Nat → Prop} {w w' : World} {b off : Nat} {f : Fi} (h : RdF R w b off f) (hb : P b) (k : Keeps P w w') (k' : Keeps R w w') : RdF R w' b off f := by
  obtain ⟨h1, hm, v, h2, h3⟩ := h
  exact ⟨k.cell hb h1, hm, v, k.cell hb h2, h3.keeps k'⟩

theorem RdT.keeps {P R : Nat → Prop} {w w' : World} {v : Value} {t : List Fi} (h : RdT P R w v t) (k : Keeps P w w') (k' : Keeps R w w') : RdT P R w' v t := by
  obtain ⟨a, cap, hv, h1, h2, h3, h4⟩ := h
  refine ⟨a, cap, hv, h1, h2, h3, fun hp => ?_⟩
  obtain ⟨b, off, ha, hb, hc⟩ := h4 hp
  exact ⟨b, off, ha, hb, fun i hi => (hc i hi).keeps hb k k'⟩

theorem RdT.mono {P P' R R' : Nat → Prop} {w : World} {v : Value} {t : List Fi} (h : RdT P R w v t) (hp : ∀ b, P b → P' b) (hr : ∀ b, R b → R' b) : RdT P' R' w v t := by
  obtain ⟨a, cap, hv, h1, h2, h3, h4⟩ := h
  refine ⟨a, cap, hv, h1, h2, h3, fun hp' => ?_⟩
  obtain ⟨b, off, ha, hb, hc⟩ := h4 hp'
  refine ⟨b, off, ha, hp b hb, fun i hi => ?_⟩
  obtain ⟨h1, hm, v, h2, h3⟩ := hc i hi
  exact ⟨h1, hm, v, h2, h3.mono hr⟩

theorem RdT.nil (P R : Nat → Prop) (w : World) : RdT P R w (.slice none 0 0) [] := ⟨none, 0, rfl, Nat.le_refl _, Nat.zero_le _, fun _ => rfl, fun h => absurd h (Nat.lt_irrefl _)⟩

/-- The value of a byte slice that is read, as cells. -/
theorem RdB.ownsRow {w : World} {base : Nat} {e : TypeId} {v : Value} {l : List UInt8} (h : w.ownsRow base e 1 v l.length (l.map fun c => .int .u8 c.toNat)) : RdB (base ≤ ·) w v l := by
  obtain ⟨_, ⟨rfl, hn⟩ | ⟨g, cap, cur, rfl, hb, hg, hc, hm, hs, ht⟩⟩ := h
  · obtain rfl : l = [] := List.eq_nil_of_length_eq_zero hn
    exact RdB.nil _ _
  · refine ⟨_, cap, rfl, hc, hm, (fun h => by cases h), fun _ => ⟨g, 0, rfl, hb, fun i hi => ?_⟩⟩
    simp only [World.cell?, hg, Nat.zero_add]
    have e1 : (cur.toList.take (l.length * 1))[i]? = some (.int .u8 (l[i].toNat)) := by rw [ht]; simp [hi]
    rw [List.getElem?_take, if_pos (by omega)] at e1
    simpa using e1

theorem RdT.at {P R : Nat → Prop} {w : World} {v : Value} {t : List Fi} (h : RdT P R w v t) (hp : 0 < t.length) : ∃ b off cap, v = .slice (some ⟨b, off, none⟩) t.length cap ∧ t.length ≤ cap ∧ cap ≤ maxLen ∧ P b ∧ ∀ i (h : i < t.length), RdF R w b (off + i * 2) t[i] := by
  obtain ⟨a, cap, hv, h1, h2, _, h4⟩ := h
  obtain ⟨b, off, rfl, hb, hc⟩ := h4 hp
  exact ⟨b, off, cap, hv, h1, h2, hb, hc⟩

theorem RdB.shape {P : Nat → Prop} {w : World} {v : Value} {l : List UInt8} (h : RdB P w v l) : ∃ a cap, v = .slice a l.length cap ∧ l.length ≤ cap ∧ cap ≤ maxLen := by
  obtain ⟨a, cap, hv, h1, h2, _⟩ := h
  exact ⟨a, cap, hv, h1, h2⟩

theorem RdT.shape {P R : Nat → Prop} {w : World} {v : Value} {t : List Fi} (h : RdT P R w v t) : ∃ a cap, v = .slice a t.length cap ∧ t.length ≤ cap ∧ cap ≤ maxLen := by
  obtain ⟨a, cap, hv, h1, h2, _⟩ := h
  exact ⟨a, cap, hv, h1, h2⟩

/-- The next operation, to be met by hand: the walk stops at this name. -/
def At (p : Prop) : Prop := p
theorem At.of {p : Prop} (h : p) : At p := h
theorem at_op {P : Program} {w : World} {ops : Array Oper} {rest : List Oper} {o : Oper} {a : Act} {Q : Exit → Act → World → Prop} (h : At (wpList P ops Q (o :: rest) a w)) : wpList P ops Q (o :: rest) a w := h

end Go.Proofs.YteckjgngglpcaaaGreatDoor
