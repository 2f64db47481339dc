/-
  A region that draws its order, whose operations read, or call what hands back one value and keeps what the region reads: one walk in the order of the text, over all worlds of which a fact S holds.
-/
import Derived.Test.YteckjgngglpcaaaGreatDoorMem
namespace Go.Proofs.YteckjgngglpcaaaGreatDoor
open Go.RowKit

/-- A world of which S holds. -/
structure Cls (S : World → Prop) where
  w : World
  h : S w

theorem wp_region_cls {P : Program} (S : World → Prop) {id : Nat} {Q : Exit → Act → World → Prop} {a : Act} {w : World} {l : List Oper} (hm : P.follows .mixedOrders = true) (hB : Region.lexB .any l.toArray = true)
    (hS : S w.drew) (h : wpQuiet P l.toArray (fun w' => ∃ x : Cls S, w' = x.w) (fun a' => ∀ x : Cls S, Q .normal a' x.w) l a) : (Code.region id l.toArray true).wp P Q a w := by
  refine wp_region_quiet (C := fun w' => ∃ x : Cls S, w' = x.w) hm hB ⟨⟨w.drew, hS⟩, rfl⟩ ?_
  have e : (fun a' => ∀ w', (∃ x : Cls S, w' = x.w) → Q .normal a' w') = fun a' => ∀ x : Cls S, Q .normal a' x.w := by
    funext a'
    exact propext ⟨fun h x => h _ ⟨x, rfl⟩, fun h w' ⟨x, hx⟩ => hx ▸ h x⟩
  rw [e]
  simpa using h

theorem cls_call {P : Program} {S : World → Prop} {f : FuncId} {args : Array Value} {x : Cls S} {v : Value} (h : Calls P f args x.w fun e w' => e = .returned v ∧ S w') :
    Calls P f args x.w fun e w'' => e = .returned v ∧ ∃ y : Cls S, w'' = y.w :=
  h.mono fun _ _ ⟨he, hw⟩ => ⟨he, ⟨_, hw⟩, rfl⟩

end Go.Proofs.YteckjgngglpcaaaGreatDoor
