/-
  The five instructions, run: the last two steps; the run.
-/
import Derived.Test.YteckjgngglpcaaaGreatDoorPacks
namespace Go.Proofs.YteckjgngglpcaaaGreatDoor
open Go.RowKit

theorem packs_3 {t : List Fi} (h : Small t) {u : Nat} (hu : u ≤ 600) (hT : TOK (T3 t (rawL t))) (hz : szs (T3 t (rawL t)) ≤ 4000) : StepsTo 20000 ⟨7, zP, dP, 0⟩ ⟨T3 t (rawL t), 3, u⟩ (InvP t) (BadP t) := by
  have hs := h.szs
  have h6 := h.h6
  obtain ⟨hk, hat⟩ := hit_T3 t (rawL t)
  have hmem : ∀ f ∈ preD t, f ∈ T3 t (rawL t) := fun f hf => by unfold T3; exact List.mem_append_left _ (List.mem_append_left _ hf)
  have hput := fun k => putAll_self (u := (preD t).take k) hT.up (fun f hf => hmem f (List.mem_of_mem_take hf))
  have hall : putAll (preD t) (T3 t (rawL t)) = T3 t (rawL t) := putAll_self hT.up hmem
  have hcost : costs (preD t) ≤ 14 * (preD t).length := costs_small (pre_small h.h200)
  rw [len_D] at hcost
  intro X w hR
  have hst := step_unpack (a := zP) (b := dP) (c := .empty) (n := 0) (m := 0) hR hT hz (by omega) (by simp) hk (by rw [hat]) (tt := t) (by rw [hat]) h.tok (by omega) pok_d h.fitD
    (fun k hk' => by
      show (putAll ((preD t).take k) (T3 t (rawL t))).length ≤ 16
      rw [hput k, len_T3]
      omega)
    (by show u + 1 + costs (preD t) ≤ 20000; omega)
  refine Calls.mono hst ?_
  rintro e w' ⟨hV, ⟨he, hR', hT', hz'⟩ | ⟨he, ⟨s', hs'⟩, k, hk', hfull⟩⟩
  · have hR2 : Run X w' 20000 { t := putAll (preD t) (T3 t (rawL t)), place := 3 + 1, used := u + 1 + costs (preD t) } := hR'
    rw [hall] at hR2
    exact ⟨hV, .inl ⟨he, _, ⟨hT, hz, by simp only; omega, .inr (.inr (.inr (.inr (.inl ⟨rfl, rfl⟩))))⟩, by simp only; omega, by simp only; omega, hR2⟩⟩
  · have hf : ¬ szs (putAll ((preD t).take k) (T3 t (rawL t))) ≤ 4000 := hfull
    rw [hput k] at hf
    exact absurd hz hf

theorem packs_4 {t : List Fi} (h : Small t) {u : Nat} (hu : u ≤ 800) (hT : TOK (T3 t (rawL t))) (hz : szs (T3 t (rawL t)) ≤ 4000) : StepsTo 20000 ⟨6, dP, oyP, 0⟩ ⟨T3 t (rawL t), 4, u⟩ (InvP t) (BadP t) := by
  have hr := h.raw
  have hs := h.szs
  have h6 := h.h6
  have hlen : (T4 t (rawL t)).length ≤ 16 := by unfold T4; simp only [List.length_append, len_D, len_U, List.length_cons, List.length_nil]; omega
  have hT4 : TOK (T4 t (rawL t)) := by
    have := hT.put pok_oy (l := rawL t) (by omega) (by rw [put_4]; exact hlen)
    rwa [put_4] at this
  by_cases hfit : szs (T4 t (rawL t)) ≤ 4000
  · refine StepRet.to (s' := ⟨T4 t (rawL t), 5, u + 1 + ((rawL t).length + 15) / 16⟩) ⟨hT4, hfit, by simp only; omega, .inr (.inr (.inr (.inr (.inr ⟨rfl, rfl⟩))))⟩ (by simp only; omega) (by simp only; omega) fun X w hR => ?_
    have := step_pack (a := dP) (b := oyP) (c := .empty) (n := 0) (m := 0) hR hT hz (by omega) (by simp) pok_d pok_oy (by show TOK (belowF dP (T3 t (rawL t))); rw [below_T3]; exact h.tok) (by show szs (belowF dP (T3 t (rawL t))) ≤ 4000; rw [below_T3]; omega)
      (fun f hf => by rw [toList_pre, tl_d, tl_oy]; simp) (by show (rawL (belowF dP (T3 t (rawL t)))).length ≤ 2000; rw [below_T3]; omega) (by show (putF oyP (rawL (belowF dP (T3 t (rawL t)))) (T3 t (rawL t))).length ≤ 16; rw [below_T3, put_4]; exact hlen)
      (by show u + 1 + ((rawL (belowF dP (T3 t (rawL t)))).length + 15) / 16 ≤ 20000; rw [below_T3]; omega) (by show szs (putF oyP (rawL (belowF dP (T3 t (rawL t)))) (T3 t (rawL t))) ≤ 4000; rw [below_T3, put_4]; exact hfit)
    have this' : Calls Tryz.prog 33 #[.pointer (some ⟨X, 0, none⟩), insV 6 dP oyP .empty 0 0] w (StepRet X 20000 { t := putF oyP (rawL (belowF dP (T3 t (rawL t)))) (T3 t (rawL t)), place := 4 + 1, used := u + 1 + ((rawL (belowF dP (T3 t (rawL t)))).length + 15) / 16 } w) := this
    rw [below_T3, put_4] at this'
    exact this'
  · intro X w hR
    refine (step_pack_full (a := dP) (b := oyP) (c := .empty) (n := 0) (m := 0) hR hT hz (by omega) (by simp) pok_d pok_oy (by show TOK (belowF dP (T3 t (rawL t))); rw [below_T3]; exact h.tok) (by show szs (belowF dP (T3 t (rawL t))) ≤ 4000; rw [below_T3]; omega)
      (fun f hf => by rw [toList_pre, tl_d, tl_oy]; simp) (by show (rawL (belowF dP (T3 t (rawL t)))).length ≤ 2000; rw [below_T3]; omega) (by show (putF oyP (rawL (belowF dP (T3 t (rawL t)))) (T3 t (rawL t))).length ≤ 16; rw [below_T3, put_4]; exact hlen)
      (by show u + 1 + ((rawL (belowF dP (T3 t (rawL t)))).length + 15) / 16 ≤ 20000; rw [below_T3]; omega) (by show ¬ szs (putF oyP (rawL (belowF dP (T3 t (rawL t)))) (T3 t (rawL t))) ≤ 4000; rw [below_T3, put_4]; exact hfit)).mono ?_
    rintro e w' ⟨he, ⟨s', hs'⟩, hV⟩
    rw [szs_T4] at hfit
    exact ⟨hV, .inr ⟨8, s', he, ⟨rfl, by omega⟩, hs'⟩⟩

theorem steps_P {t : List Fi} (h : Small t) (s : VM) (hI : InvP t s) (hp : s.place < progP.length) : StepsTo 20000 progP[s.place] s (InvP t) (BadP t) := by
  obtain ⟨ts, pl, u⟩ := s
  obtain ⟨hT, hz, hu, hc⟩ := hI
  simp only at hT hz hu hc
  rcases hc with ⟨rfl, rfl⟩ | ⟨rfl, rfl⟩ | ⟨rfl, rfl⟩ | ⟨rfl, rfl⟩ | ⟨rfl, rfl⟩ | ⟨rfl, rfl⟩
  · exact packs_0 h (by omega) hT hz
  · exact packs_1 h (by omega) hT hz
  · exact packs_2 h (by omega) hT hz
  · exact packs_3 h (by omega) hT hz
  · exact packs_4 h (by omega) hT hz
  · exact absurd hp (by simp [progP])

/-- What the run of the five answers. -/
def PacksSo (t : List Fi) (w : World) (e : Ending) (w' : World) : Prop :=
  Below w.heap.size w w' ∧ ((∃ u : Nat, e = .returned (.tuple #[.slice none 0 0, .int .i64 u, .int .i64 8]) ∧ 600 < szs t) ∨
    (∃ (v : Value) (u : Nat), e = .returned (.tuple #[v, .int .i64 u, .int .i64 0]) ∧ RdT (w.heap.size ≤ ·) (w.heap.size ≤ ·) w' v (TO t (rawL t))))

theorem packs_f {P P' R : Nat → Prop} {w : World} (hF : Fields w) {pv tv : Value} {t : List Fi} (h : Small t) (hp : RdP P w pv progP) (ht : RdT P' R w tv (preD t)) : Calls Tryz.prog 8 #[pv, tv, .int .i64 20000] w (PacksSo t w) := by
  have hs := h.szs
  have hzD : szs (preD t) ≤ 4000 := by rw [szs_D]; omega
  refine (exec_f (fuel := 20000) hF hp (by decide) (by decide) ok_P ht h.D hzD (by omega) (I := InvP t) (B := BadP t) ⟨h.D, hzD, by simp, .inl ⟨rfl, rfl⟩⟩
    (fun s hI => ⟨hI.1, hI.2.1⟩) (fun n u hB => by rw [hB.1]; decide) (fun s hI _ hp => steps_P h s hI hp)).mono ?_
  rintro e w' ⟨hB, ⟨n, u, rfl, rfl, h600⟩ | ⟨v, s', rfl, hI, hl, hrd⟩⟩
  · exact ⟨hB, .inl ⟨u, rfl, h600⟩⟩
  · refine ⟨hB, .inr ⟨v, s'.used, rfl, ?_⟩⟩
    have hl5 : 5 ≤ s'.place := hl
    obtain ⟨_, _, _, hc⟩ := hI
    rcases hc with ⟨e, _⟩ | ⟨e, _⟩ | ⟨e, _⟩ | ⟨e, _⟩ | ⟨e, _⟩ | ⟨e, e'⟩ <;> try omega
    rw [e', below_T4] at hrd
    exact hrd
end Go.Proofs.YteckjgngglpcaaaGreatDoor
