/-
  The five instructions, run.
-/
import Derived.Test.YteckjgngglpcaaaGreatDoorPlain3
import Derived.Test.YteckjgngglpcaaaGreatDoorKnown
namespace Go.Proofs.YteckjgngglpcaaaGreatDoor
open Go.RowKit

theorem at_mid (A B : List Fi) (f : Fi) (h : A.length < (A ++ f :: B).length) : (A ++ f :: B)[A.length] = f := by simp

theorem packs_0 {t : List Fi} (h : Small t) {u : Nat} (hu : u = 0) (hT : TOK (preD t)) (hz : szs (preD t) ≤ 4000) : StepsTo 20000 ⟨6, dP, zP, 0⟩ ⟨preD t, 0, u⟩ (InvP t) (BadP t) := by
  have hr := h.raw
  have hs := h.szs
  have h6 := h.h6
  have hfit : szs (T1 t (rawL t)) ≤ 4000 := by rw [szs_T1]; omega
  have hlen : (T1 t (rawL t)).length ≤ 16 := by unfold T1; rw [List.length_append, len_D]; simp; omega
  have hT1 : TOK (T1 t (rawL t)) := by
    have := hT.put pok_z (l := rawL t) (by omega) (by rw [put_1]; exact hlen)
    rwa [put_1] at this
  refine StepRet.to (s' := ⟨T1 t (rawL t), 1, u + 1 + ((rawL t).length + 15) / 16⟩) ⟨hT1, hfit, by simp only; omega, .inr (.inl ⟨rfl, rfl⟩)⟩ (by simp only; omega) (by simp only; omega) fun X w hR => ?_
  have := step_pack (a := dP) (b := zP) (c := .empty) (n := 0) (m := 0) hR hT hz (by omega) (by simp) pok_d pok_z (by show TOK (belowF dP (preD t)); rw [below_T0]; exact h.tok) (by show szs (belowF dP (preD t)) ≤ 4000; rw [below_T0]; omega)
    (fun f hf => by rw [toList_pre, tl_d, tl_z]; simp) (by show (rawL (belowF dP (preD t))).length ≤ 2000; rw [below_T0]; omega) (by show (putF zP (rawL (belowF dP (preD t))) (preD t)).length ≤ 16; rw [below_T0, put_1]; exact hlen)
    (by show u + 1 + ((rawL (belowF dP (preD t))).length + 15) / 16 ≤ 20000; rw [below_T0]; omega) (by show szs (putF zP (rawL (belowF dP (preD t))) (preD t)) ≤ 4000; rw [below_T0, put_1]; exact hfit)
  have this' : Calls Tryz.prog 33 #[.pointer (some ⟨X, 0, none⟩), insV 6 dP zP .empty 0 0] w (StepRet X 20000 { t := putF zP (rawL (belowF dP (preD t))) (preD t), place := 0 + 1, used := u + 1 + ((rawL (belowF dP (preD t))).length + 15) / 16 } w) := this
  rw [below_T0, put_1] at this'
  exact this'

theorem packs_1 {t : List Fi} (h : Small t) {u : Nat} (hu : u ≤ 200) (hT : TOK (T1 t (rawL t))) (hz : szs (T1 t (rawL t)) ≤ 4000) : StepsTo 20000 ⟨1, zP, ozP, 0⟩ ⟨T1 t (rawL t), 1, u⟩ (InvP t) (BadP t) := by
  have hr := h.raw
  have hs := h.szs
  have h6 := h.h6
  have hfit : szs (T2 t (rawL t)) ≤ 4000 := by rw [szs_T2]; omega
  have hlen : (T2 t (rawL t)).length ≤ 16 := by unfold T2; rw [List.length_append, len_D]; simp; omega
  have hT2 : TOK (T2 t (rawL t)) := by
    have := hT.put pok_oz (l := rawL t) (by omega) (by rw [put_2]; exact hlen)
    rwa [put_2] at this
  have hk : (preD t).length < (T1 t (rawL t)).length := by unfold T1; simp
  have hat : (T1 t (rawL t))[(preD t).length] = ⟨zP, rawL t⟩ := at_mid (preD t) [] ⟨zP, rawL t⟩ hk
  refine StepRet.to (s' := ⟨T2 t (rawL t), 2, u + 1 + ((rawL t).length + 15) / 16⟩) ⟨hT2, hfit, by simp only; omega, .inr (.inr (.inl ⟨rfl, rfl⟩))⟩ (by simp only; omega) (by simp only; omega) fun X w hR => ?_
  have hb : (T1 t (rawL t))[(preD t).length].b = rawL t := by rw [hat]
  have := step_copy (a := zP) (b := ozP) (c := .empty) (n := 0) (m := 0) (k := (preD t).length) hR hT hz (by omega) (by simp) hk (by rw [hat]) pok_oz (by show (putF ozP (T1 t (rawL t))[(preD t).length].b (T1 t (rawL t))).length ≤ 16; rw [hb, put_2]; exact hlen)
    (by show u + 1 + ((T1 t (rawL t))[(preD t).length].b.length + 15) / 16 ≤ 20000; rw [hb]; omega) (by show szs (putF ozP (T1 t (rawL t))[(preD t).length].b (T1 t (rawL t))) ≤ 4000; rw [hb, put_2]; exact hfit)
  have this' : Calls Tryz.prog 33 #[.pointer (some ⟨X, 0, none⟩), insV 1 zP ozP .empty 0 0] w (StepRet X 20000 { t := putF ozP (T1 t (rawL t))[(preD t).length].b (T1 t (rawL t)), place := 1 + 1, used := u + 1 + ((T1 t (rawL t))[(preD t).length].b.length + 15) / 16 } w) := this
  rw [hb, put_2] at this'
  exact this'

theorem hit_T2 (t : List Fi) (r : List UInt8) : ∃ hk : (preD t ++ [Fi.mk ozP r]).length < (T2 t r).length, (T2 t r)[(preD t ++ [Fi.mk ozP r]).length] = Fi.mk zP r := by
  have e : T2 t r = (preD t ++ [Fi.mk ozP r]) ++ Fi.mk zP r :: [] := by unfold T2; simp
  have hk : (preD t ++ [Fi.mk ozP r]).length < ((preD t ++ [Fi.mk ozP r]) ++ Fi.mk zP r :: []).length := by simp
  have h := at_mid (preD t ++ [Fi.mk ozP r]) [] (Fi.mk zP r) hk
  revert hk h
  rw [← e]
  exact fun hk h => ⟨hk, h⟩

theorem hit_T3 (t : List Fi) (r : List UInt8) : ∃ hk : (preD t ++ preU t ++ [Fi.mk ozP r]).length < (T3 t r).length, (T3 t r)[(preD t ++ preU t ++ [Fi.mk ozP r]).length] = Fi.mk zP r := by
  have e : T3 t r = (preD t ++ preU t ++ [Fi.mk ozP r]) ++ Fi.mk zP r :: [] := by unfold T3; simp
  have hk : (preD t ++ preU t ++ [Fi.mk ozP r]).length < ((preD t ++ preU t ++ [Fi.mk ozP r]) ++ Fi.mk zP r :: []).length := by simp
  have h := at_mid (preD t ++ preU t ++ [Fi.mk ozP r]) [] (Fi.mk zP r) hk
  revert hk h
  rw [← e]
  exact fun hk h => ⟨hk, h⟩

theorem len_T3 (t : List Fi) (r : List UInt8) : (T3 t r).length = t.length + t.length + 2 := by
  unfold T3; rw [List.length_append, List.length_append, len_D, len_U]; rfl

theorem packs_2 {t : List Fi} (h : Small t) {u : Nat} (hu : u ≤ 400) (hT : TOK (T2 t (rawL t))) (hz : szs (T2 t (rawL t)) ≤ 4000) : StepsTo 20000 ⟨7, zP, ouP, 0⟩ ⟨T2 t (rawL t), 2, u⟩ (InvP t) (BadP t) := by
  have hr := h.raw
  have hs := h.szs
  have h6 := h.h6
  obtain ⟨hk, hat⟩ := hit_T2 t (rawL t)
  have hput := fun k hk => put_3 (t := t) (rawL t) h.U.up k hk
  have hall : putAll (preU t) (T2 t (rawL t)) = T3 t (rawL t) := by
    have := hput (preU t).length (Nat.le_refl _)
    rwa [List.take_length] at this
  have hcost : costs (preU t) ≤ 14 * (preU t).length := costs_small (pre_small h.h200)
  rw [len_U] at hcost
  intro X w hR
  have hst := step_unpack (a := zP) (b := ouP) (c := .empty) (n := 0) (m := 0) hR hT hz (by omega) (by simp) hk (by rw [hat]) (tt := t) (by rw [hat]) h.tok (by omega) pok_ou h.fitU
    (fun k hk' => by
      show (putAll ((preU t).take k) (T2 t (rawL t))).length ≤ 16
      rw [hput k (by rw [len_U]; exact hk')]
      simp only [List.length_append, List.length_take, len_D, len_U, List.length_cons, List.length_nil]
      omega)
    (by show u + 1 + costs (preU t) ≤ 20000; omega)
  refine Calls.mono hst ?_
  rintro e w' ⟨hV, ⟨he, hR', hT', hz'⟩ | ⟨he, ⟨s', hs'⟩, k, hk', hfull⟩⟩
  · have hR2 : Run X w' 20000 { t := putAll (preU t) (T2 t (rawL t)), place := 2 + 1, used := u + 1 + costs (preU t) } := hR'
    have hT2 : TOK (putAll (preU t) (T2 t (rawL t))) := hT'
    have hz2 : szs (putAll (preU t) (T2 t (rawL t))) ≤ 4000 := hz'
    rw [hall] at hR2 hT2 hz2
    exact ⟨hV, .inl ⟨he, _, ⟨hT2, hz2, by simp only; omega, .inr (.inr (.inr (.inl ⟨rfl, rfl⟩)))⟩, by simp only; omega, by simp only; omega, hR2⟩⟩
  · refine ⟨hV, .inr ⟨8, s', he, ⟨rfl, ?_⟩, hs'⟩⟩
    have hf : ¬ szs (putAll ((preU t).take k) (T2 t (rawL t))) ≤ 4000 := hfull
    rw [hput k (by rw [len_U]; simpa using hk')] at hf
    rw [szs_append, szs_append, szs_D] at hf
    have h1 := szs_le_all (t := preU t) k
    rw [szs_U] at h1
    have e2 : szs [⟨ozP, rawL t⟩, ⟨zP, rawL t⟩] = (rawL t).length + (rawL t).length := by simp [Go.Proofs.YteckjgngglpcaaaGreatDoor.szs]
    rw [e2] at hf
    omega
end Go.Proofs.YteckjgngglpcaaaGreatDoor
