/-
  Trees that may be, and that both tests say so.
-/
import Derived.Test.YteckjgngglpcaaaGreatDoorPath
namespace Go.Proofs.YteckjgngglpcaaaGreatDoor
open Go.RowKit

/-- How many bytes the files of a tree have together. -/
def szs (t : List Fi) : Nat := (t.map fun f => f.b.length).sum

/-- A tree that may be, but for the sum of its files' bytes. -/
structure TOK (t : List Fi) : Prop where
  len : t.length ≤ 16
  each : ∀ i (h : i < t.length), POK t[i].p ∧ t[i].b.length ≤ 2000
  rise : ∀ i (h : i + 1 < t.length), Op.bytesLess t[i].p.toList t[i + 1].p.toList = true

/-- The first k files of a tree are as they should. -/
structure TokTo (t : List Fi) (k : Nat) : Prop where
  each : ∀ i (h : i < t.length), i < k → POK t[i].p ∧ t[i].b.length ≤ 2000
  rise : ∀ i (h : i + 1 < t.length), i + 1 < k → Op.bytesLess t[i].p.toList t[i + 1].p.toList = true

theorem TokTo.zero (t : List Fi) : TokTo t 0 := ⟨fun _ _ h => absurd h (Nat.not_lt_zero _), fun _ _ h => absurd h (Nat.not_lt_zero _)⟩
theorem TokTo.tok {t : List Fi} {k : Nat} (h : TokTo t k) (hk : t.length ≤ k) (hl : t.length ≤ 16) : TOK t :=
  ⟨hl, fun i hi => h.each i hi (by omega), fun i hi => h.rise i hi (by omega)⟩
theorem TokTo.succ {t : List Fi} {k : Nat} (h : TokTo t k) (hk : k < t.length) (hp : POK t[k].p) (hb : t[k].b.length ≤ 2000) (hr : ∀ j (e : k = j + 1), Op.bytesLess (t[j]'(by omega)).p.toList t[k].p.toList = true) : TokTo t (k + 1) := by
  refine ⟨fun i hi hik => ?_, fun i hi hik => ?_⟩
  · by_cases e : i = k
    · subst e; exact ⟨hp, hb⟩
    · exact h.each i hi (by omega)
  · by_cases e : i + 1 = k
    · subst e; exact hr i rfl
    · exact h.rise i hi (by omega)

theorem szs_take {t : List Fi} {k : Nat} (hk : k < t.length) : szs (t.take (k + 1)) = szs (t.take k) + t[k].b.length := by
  unfold szs
  rw [List.take_succ_eq_append_getElem hk, List.map_append, List.sum_append]
  simp

theorem szs_le {t : List Fi} (h : ∀ i (h : i < t.length), t[i].b.length ≤ 2000) : ∀ k, szs (t.take k) ≤ 2000 * k := by
  intro k
  induction k with
  | zero => simp [szs]
  | succ k ih =>
    by_cases hk : k < t.length
    · rw [szs_take hk]; have := h k hk; omega
    · rw [List.take_of_length_le (by omega)]
      rw [List.take_of_length_le (by omega)] at ih
      omega

set_option maxHeartbeats 1000000 in
theorem refMay_f (P R : Nat → Prop) (v : Value) (t : List Fi) (w : World) (ht : RdT P R w v t) : Calls Tryz.prog 4 #[v] w (BoolSo (TOK t ∧ szs t ≤ 4000) w) := by
  by_cases hl : t.length ≤ 16
  · obtain ⟨a, cap, rfl, hcap, hm⟩ := ht.shape
    unfold maxLen at hm
    go_enter Tryz.func4, Tryz.ntmps4
    go_wp2
    go_loopw [3, 4] (fun s i wr => ∃ k : Nat, k ≤ t.length ∧ i = .int .i64 k ∧ s = .int .i64 (szs (t.take k)) ∧ szs (t.take k) ≤ 2000 * k ∧ TokTo t k ∧ Below w.heap.size w wr) (fun _ i _ => t.length - (intOf i).toNat)
    case atStart => exact ⟨0, by omega, rfl, rfl, by simp [szs], TokTo.zero t, Below.refl _ _⟩
    case round =>
      obtain ⟨k, hk, rfl, rfl, hz, hT, hB⟩ := hrel
      have ht' := ht.keeps (Keeps.below hB) (Keeps.below hB)
      by_cases hlt : k < t.length
      · obtain ⟨b, off, cap', e, _, _, hb, hc⟩ := ht'.at (by omega)
        simp only [Value.slice.injEq] at e
        obtain ⟨rfl, -, rfl⟩ := e
        obtain ⟨c1, hpm, vb, c2, hvb⟩ := hc k hlt
        obtain ⟨ab, capb, rfl, hcb, hmb⟩ := hvb.shape
        go_wp2_with fail
        refine (refIsPath_f _ hpm _).mono ?_
        rintro e w1 ⟨bb, rfl, hbb, hB1⟩
        have d1 := (Keeps.below (P := fun _ => True) hB1).cell trivial c1
        have d2 := (Keeps.below (P := fun _ => True) hB1).cell trivial c2
        have hB2 := hB.trans (hB1.mono hB.size)
        cases bb with
        | false =>
          go_wp2
          go_ret
          exact BoolSo.no hB2
        | true =>
          have hp := hbb rfl
          by_cases h2 : t[k].b.length ≤ 2000
          · by_cases hk0 : k = 0
            · subst hk0
              have hT' := hT.succ hlt hp h2 (fun j e => by cases e)
              have hz0 : szs (t.take 1) = t[0].b.length := by rw [szs_take hlt]; simp [szs]
              have Hz := Lib.hid hz0
              clear hz0 hz
              go_wp2
              go_quiet (fail)
              go_wp2
              go_roundw
              case rel => exact ⟨1, by omega, rfl, by rw [Hz.out]; simp [szs, wrap64]; omega, by rw [Hz.out]; omega, hT', below_drewN hB2 _⟩
              case measure => simp [intOf]; omega
            · obtain ⟨j, rfl⟩ : ∃ j, k = j + 1 := ⟨k - 1, by omega⟩
              obtain ⟨e1, hpm', vb', e2, hvb'⟩ := hc j (by omega)
              have e1 := (Keeps.below (P := fun _ => True) hB1).cell trivial e1
              have hz' := Lib.hid (szs_take hlt)
              go_wp2
              go_quiet (fail)
              cases hr : Op.bytesLess t[j].p.toList t[j + 1].p.toList with
              | false =>
                go_wp2
                go_ret
                exact BoolSo.no (below_drewN hB2 _)
              | true =>
                have hT' := hT.succ hlt hp h2 (fun j' e => by obtain rfl : j = j' := by omega
                                                              exact hr)
                go_wp2
                go_roundw
                case rel => exact ⟨j + 1 + 1, by omega, by go_num, by rw [hz'.out]; go_num, by rw [hz'.out]; omega, hT', below_drewN hB2 _⟩
                case measure => simp [intOf]; omega
          · go_wp2
            go_ret
            exact BoolSo.no hB2
      · go_wp2
        go_ret
        refine ⟨_, rfl, fun h => ⟨hT.tok (by omega) hl, ?_⟩, hB⟩
        rw [List.take_of_length_le (by omega)] at h
        have := of_decide_eq_true h
        omega
  · obtain ⟨a, cap, rfl, hcap, hm⟩ := ht.shape
    unfold maxLen at hm
    go_enter Tryz.func4, Tryz.ntmps4
    go_wp2
    go_ret
    exact BoolSo.no (Below.refl _ _)
end Go.Proofs.YteckjgngglpcaaaGreatDoor
