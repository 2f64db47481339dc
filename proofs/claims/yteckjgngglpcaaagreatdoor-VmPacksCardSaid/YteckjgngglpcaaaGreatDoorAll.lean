/-
  A whole run.
-/
import Derived.Test.YteckjgngglpcaaaGreatDoorInstr2
namespace Go.Proofs.YteckjgngglpcaaaGreatDoor
open Go.RowKit

set_option maxRecDepth 100000 in
theorem catch_stop (p : Addr) (x e : Int) (w : World) (hc : w.cell? p = some (.int .i64 x)) (hz : w.frozen? p = false) (hps : p.spot = none) :
    CallsD Tryz.prog 32 #[.pointer (some p)] (.panicking (stopC e)) w fun r u' w' =>
      r = .returned (.tuple #[]) ∧ u' = .panicking [{ v := .iface 67 (.agg #[.int .i64 e]), recovered := true }] ∧ w' = (w.setCell p (.int .i64 e)).alloc (.cells #[.int .i64 e] 67) := by
  unfold stopC
  refine callsD_of_wpS Tryz.func32 rfl fun c₀ cs hu => ?_
  apply wpS_seq
  apply wpS_region
  simp [wpOpsS, go_sem, recoverD, hu, Tryz.ntmps32, Exit.thenS]
  refine wpS_of_wp ?_
  have hta : ∀ w, (Instr.typeAssert (.iface 67 (.agg #[.int .i64 e])) 20 67 true).run Tryz.prog w = .ok (.tuple #[.agg #[.int .i64 e], .bool true]) w := fun _ => by kernel_rfl
  change Code.wp _ _ _ { tmps := #[Value.pointer (some p), undef, undef, undef, .iface 67 (.agg #[.int .i64 e]), undef, undef, undef, undef, undef, undef, undef], defers := [] } _
  obtain ⟨pb, po, ps⟩ := p
  subst hps
  have hc' := Keeps.below_cell ((Below.refl _ _).alloc (Nat.le_refl _) (.cells #[.int .i64 e] 67)) hc
  have hlt := World.block_lt_of_cell? w _ hc
  have hz' : (w.alloc (.cells #[.int .i64 e] 67)).frozen? ⟨pb, po, none⟩ = false := by rw [Below.frozen ((Below.refl w.heap.size w).alloc (Nat.le_refl _) _) hlt]; exact hz
  clear hu
  go_wp2
  cases c₀
  exact ⟨rfl, _, rfl, _, by simp [results, Tryz.results32], rfl, rfl, rfl⟩

theorem catch_idle (p : Addr) (w : World) :
    CallsD Tryz.prog 32 #[.pointer (some p)] .returning w fun r u' w' => r = .returned (.tuple #[]) ∧ u' = .returning ∧ w' = w := by
  refine callsD_of_wpS Tryz.func32 rfl fun c₀ cs hu => ?_
  apply wpS_seq
  apply wpS_region
  simp [wpOpsS, go_sem, recoverD, hu, Tryz.ntmps32, Exit.thenS]
  refine wpS_of_wp ?_
  change Code.wp _ _ _ { tmps := #[Value.pointer (some p), undef, undef, undef, .nilIface, undef, undef, undef, undef, undef, undef, undef], defers := [] } _
  go_wp2
  cases c₀
  simp only at hu
  subst hu
  exact ⟨rfl, _, rfl, _, by simp [results, Tryz.results32], rfl, rfl, rfl⟩

/-- What a step may do: go on to a state that is liked, or end the run in a way that is told. -/
def StepsTo (fuel : Nat) (x : In) (s : VM) (I : VM → Prop) (B : Int → Nat → Prop) : Prop :=
  ∀ X w, Run X w fuel s → Calls Tryz.prog 33 #[.pointer (some ⟨X, 0, none⟩), x.val] w fun e w' =>
    Vk X w w' ∧ ((e = .returned (.tuple #[]) ∧ ∃ s', I s' ∧ s.used < s'.used ∧ s'.used ≤ fuel ∧ Run X w' fuel s') ∨ (∃ n s', e = .panicked (stopC n) ∧ B n s'.used ∧ Run X w' fuel s'))

/-- What a run answers. -/
def AllSo (X fuel : Nat) (I : VM → Prop) (B : Int → Nat → Prop) (len : Nat) (w : World) (e : Ending) (w' : World) : Prop :=
  ∃ n s', e = .returned (.int .i64 n) ∧ Run X w' fuel s' ∧ Vk X w w' ∧ ((n = 0 ∧ I s' ∧ len ≤ s'.place) ∨ B n s'.used)

theorem Run.fuel {X : Nat} {w : World} {fuel : Nat} {s : VM} (h : Run X w fuel s) : w.cell? ⟨X, 1, none⟩ = some (.int .i64 s.place) ∧ w.cell? ⟨X, 3, none⟩ = some (.int .i64 s.used) := by
  obtain ⟨v, hX, ht⟩ := h
  exact ⟨cell_of_row w X 1 _ 50 (0, 0) hX, cell_of_row w X 3 _ 50 (0, 0) hX⟩

theorem cell_lone {w : World} {E off : Nat} {z : Int} {u : Value} (hE : w.heap[E]? = some (.cells #[.int .i64 z] 29 (0, 0))) (h : w.cell? ⟨E, off, none⟩ = some u) : u = .int .i64 z := by
  rw [cell_of_row w E off _ _ _ hE] at h
  match off, h with
  | 0, h => exact (Option.some.inj h).symm
  | n + 1, h => simp at h

theorem RdB.not_in {P : Nat → Prop} {w : World} {v : Value} {l : List UInt8} (h : RdB P w v l) {E : Nat} {z : Int} (hE : w.heap[E]? = some (.cells #[.int .i64 z] 29 (0, 0))) : RdB (fun b => P b ∧ b ≠ E) w v l := by
  obtain ⟨a, cap, hv, h1, h2, h3, h4⟩ := h
  refine ⟨a, cap, hv, h1, h2, h3, fun hp => ?_⟩
  obtain ⟨b, off, ha, hb, hc⟩ := h4 hp
  refine ⟨b, off, ha, ⟨hb, fun e => ?_⟩, hc⟩
  subst e
  have := cell_lone hE (hc 0 hp)
  cases this

theorem RdT.not_in {P R : Nat → Prop} {w : World} {v : Value} {t : List Fi} (h : RdT P R w v t) {E : Nat} {z : Int} (hE : w.heap[E]? = some (.cells #[.int .i64 z] 29 (0, 0))) : RdT (fun b => P b ∧ b ≠ E) (fun b => R b ∧ b ≠ E) w v t := by
  obtain ⟨a, cap, hv, h1, h2, h3, h4⟩ := h
  refine ⟨a, cap, hv, h1, h2, h3, fun hp => ?_⟩
  obtain ⟨b, off, ha, hb, hc⟩ := h4 hp
  refine ⟨b, off, ha, ⟨hb, fun e => ?_⟩, fun i hi => ?_⟩
  · subst e
    have := cell_lone hE (hc 0 hp).1
    cases this
  · obtain ⟨c1, hm, x, c2, hx⟩ := hc i hi
    exact ⟨c1, hm, x, c2, hx.not_in hE⟩

/-- A store into a lone cell of another kind turns no run. -/
theorem Run.beside {X : Nat} {w : World} {fuel : Nat} {s : VM} (h : Run X w fuel s) {E : Nat} {z : Int} (hE : w.heap[E]? = some (.cells #[.int .i64 z] 29 (0, 0))) (hEX : E ≠ X) (u : Value) : Run X (w.setCell ⟨E, 0, none⟩ u) fuel s := by
  obtain ⟨v, hX, ht⟩ := h
  have ht' := ht.not_in hE
  have k : Keeps (fun b => b ≠ X ∧ b ≠ E) w (w.setCell ⟨E, 0, none⟩ u) := Keeps.setCell _ (fun h => h.2 rfl)
  exact ⟨v, (Below.heap_setCell w _ _ X (fun e => hEX e.symm)).trans hX, (ht'.keeps k k).mono (fun b hb => hb.1) (fun b hb => hb.1)⟩

theorem Vk.beside {X : Nat} {w w' : World} (h : Vk X w w') {E : Nat} (hE : w.heap.size ≤ E) (u : Value) : Vk X w (w'.setCell ⟨E, 0, none⟩ u) :=
  ⟨fun b hb hlt => (Below.heap_setCell w' _ _ b (by simp; omega)).trans (h.1 b hb hlt), by simp; exact h.2.1, h.2.2⟩

set_option maxRecDepth 100000 in
set_option maxHeartbeats 2000000 in
theorem all_f {X fuel : Nat} {s : VM} {w : World} {pv : Value} {p : List In} {I : VM → Prop} {B : Int → Nat → Prop} (hR : Run X w fuel s) (hp : RdP (· ≠ X) w pv p) (hI : I s) (hu : s.used ≤ fuel)
    (hstep : ∀ s, I s → s.used ≤ fuel → ∀ h : s.place < p.length, StepsTo fuel p[s.place] s I B) :
    Calls Tryz.prog 19 #[.pointer (some ⟨X, 0, none⟩), pv] w (AllSo X fuel I B p.length w) := by
  have hmf : ∀ (fn : Fn) (first cap : Array Value) (w : World), (Instr.makeFunc fn first cap).run Tryz.prog w = .ok (.func fn first cap) w := fun _ _ _ _ => rfl
  obtain ⟨b, off, cap, e, h1, h2, hb, hc⟩ := hp
  subst e
  unfold maxLen at h2
  have HC := Lib.hid hc
  have hR1 := hR.below ((Below.refl _ _).alloc (Nat.le_refl _) (Obj.cells #[.int .i64 0] 29))
  have hlt := hR.lt
  clear hc
  go_enter_defers Tryz.func19, Tryz.ntmps19
  go_wp2
  go_loopw [12] (fun _ wr => ∃ s', I s' ∧ s'.used ≤ fuel ∧ Run X wr fuel s' ∧ Vk X (w.alloc (Obj.cells #[.int .i64 0] 29)) wr)
    (fun _ wr => fuel - (intOf ((wr.cell? ⟨X, 3, none⟩).getD .nilIface)).toNat)
  case atStart => exact ⟨s, hI, hu, hR1, Vk.refl _ _⟩
  case round =>
    obtain ⟨s', hI', hu', hR', hV'⟩ := hrel
    obtain ⟨q1, q3⟩ := hR'.fuel
    have hVw : Vk X w wr := (Vk.below ((Below.refl _ _).alloc (Nat.le_refl _) _)).trans hV'
    have hX29 : w.heap.size ≠ X := by omega
    have hE : wr.heap[w.heap.size]? = some (.cells #[.int .i64 0] 29 (0, 0)) := (hV'.1 _ hX29 (by simp)).trans (heap_alloc_new w _)
    by_cases hpl' : s'.place < p.length
    · obtain ⟨c0, c1, c2, c3, c4, c5⟩ := HC.out s'.place hpl'
      have d0 := hVw.1.cell hb c0
      have d1 := hVw.1.cell hb c1
      have d2 := hVw.1.cell hb c2
      have d3 := hVw.1.cell hb c3
      have d4 := hVw.1.cell hb c4
      have d5 := hVw.1.cell hb c5
      have hst := hstep s' hI' hu' hpl' X wr hR'
      unfold In.val insV at hst
      have Hq3 := Lib.hid q3
      have HE := Lib.hid hE
      clear c0 c1 c2 c3 c4 c5 q3 hE hR hR1 hR'
      go_wp2_with fail
      refine hst.mono ?_
      rintro e w2 ⟨hV2, ⟨rfl, s2, hI2, hlt2, hle2, hR2⟩ | ⟨n, s2, rfl, hB2, hR2⟩⟩
      · have q3' := hR2.fuel.2
        go_wp2
        go_roundw
        case rel => exact ⟨s2, hI2, hle2, hR2, hV'.trans hV2⟩
        case measure => rw [q3', Hq3.out]; simp [intOf]; omega
      · have hE2 : w2.heap[w.heap.size]? = some (.cells #[.int .i64 0] 29 (0, 0)) := (hV2.1 _ hX29 (Array.getElem?_eq_some_iff.1 HE.out).1).trans HE.out
        have HE2 := Lib.hid hE2
        clear hE2
        go_wp2
        refine leaves_cons (f := 32) (args := #[.pointer (some ⟨w.heap.size, 0, none⟩)]) (by simp) (by simp [go_sem]) ?_
        refine (catch_stop ⟨w.heap.size, 0, none⟩ 0 n w2 (cell_of_row w2 _ 0 _ _ _ HE2.out) (frozen_of_row w2 _ 0 _ _ HE2.out) rfl).mono ?_
        rintro e u' w'' ⟨rfl, rfl, rfl⟩
        have hR5 := (hR2.beside HE2.out hX29 (.int .i64 n)).below ((Below.refl _ _).alloc (Nat.le_refl _) (.cells #[.int .i64 n] 67))
        have hV5 : Vk X w ((w2.setCell ⟨w.heap.size, 0, none⟩ (.int .i64 n)).alloc (.cells #[.int .i64 n] 67)) := ((hVw.trans hV2).beside (Nat.le_refl _) _).trans (Vk.below ((Below.refl _ _).alloc (Nat.le_refl _) _))
        have cE : ((w2.setCell ⟨w.heap.size, 0, none⟩ (.int .i64 n)).alloc (.cells #[.int .i64 n] 67)).cell? ⟨w.heap.size, 0, none⟩ = some (.int .i64 n) :=
          Keeps.below_cell ((Below.refl _ _).alloc (Nat.le_refl _) _) (cell_of_row _ _ 0 _ _ _ (heap_setCell_same w2 w.heap.size 0 _ 29 (.int .i64 n) HE2.out))
        refine ⟨.int .i64 n, ?_, n, s2, rfl, hR5, hV5, .inr hB2⟩
        generalize (w2.setCell ⟨w.heap.size, 0, none⟩ (.int .i64 n)).alloc (.cells #[.int .i64 n] 67) = W9 at *
        simp [results, Tryz.results19, go_sem, cE]
    · have hz := frozen_of_row wr _ 0 _ _ hE
      have hz0 := cell_of_row wr _ 0 _ _ _ hE
      simp only [List.getElem?_toArray, List.getElem?_cons_zero] at hz0
      have hR3 := hR'.beside hE hX29 (.int .i64 0)
      have hV3 := hVw.beside (Nat.le_refl _) (.int .i64 0)
      have cE := cell_of_row _ _ 0 _ _ _ (heap_setCell_same wr w.heap.size 0 _ 29 (.int .i64 0) hE)
      have HcE := Lib.hid cE
      clear hE cE
      go_wp2
      refine leaves_cons (f := 32) (args := #[.pointer (some ⟨w.heap.size, 0, none⟩)]) (by simp) (by simp [go_sem]) ?_
      refine (catch_idle ⟨w.heap.size, 0, none⟩ _).mono ?_
      rintro e u' w'' ⟨rfl, rfl, rfl⟩
      refine ⟨.int .i64 0, ?_, 0, s', rfl, hR3, hV3, .inl ⟨rfl, hI', by omega⟩⟩
      have cE := HcE.out
      simp only [List.setIfInBounds_toArray, List.set_cons_zero, List.getElem?_toArray, List.getElem?_cons_zero] at cE
      generalize wr.setCell ⟨w.heap.size, 0, none⟩ (.int .i64 0) = W9 at *
      simp [results, Tryz.results19, go_sem, cE]
end Go.Proofs.YteckjgngglpcaaaGreatDoor
