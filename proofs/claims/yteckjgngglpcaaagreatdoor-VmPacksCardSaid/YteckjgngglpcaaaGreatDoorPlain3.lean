/-
  The five instructions: sizes, and each step.
-/
import Derived.Test.YteckjgngglpcaaaGreatDoorPlain2
namespace Go.Proofs.YteckjgngglpcaaaGreatDoor
open Go.RowKit

/-- A tree that is small enough. -/
structure Small (t : List Fi) : Prop where
  tok : TOK t
  h6 : t.length ≤ 6
  h8 : ∀ f ∈ t, f.p.size ≤ 8
  h200 : ∀ f ∈ t, f.b.length ≤ 200

theorem szs_append (a b : List Fi) : szs (a ++ b) = szs a + szs b := by simp [szs]

theorem szs_small : ∀ {t : List Fi}, (∀ f ∈ t, f.b.length ≤ 200) → szs t ≤ 200 * t.length
  | [], _ => by simp [szs]
  | f :: t, h => by
    have h1 := szs_small (t := t) (fun g hg => h g (List.mem_cons_of_mem _ hg))
    have h2 := h f List.mem_cons_self
    have e : szs (f :: t) = f.b.length + szs t := by simp [szs]
    rw [e, List.length_cons]
    omega

theorem formL_small {n : Nat} (h : n < 256) : (formL n).length ≤ 2 := by
  unfold formL
  split
  · simp
  · simp

theorem raws_small : ∀ {t : List Fi}, (∀ f ∈ t, f.p.size ≤ 8) → (∀ f ∈ t, f.b.length ≤ 200) → (rawsL t).length ≤ 12 * t.length + szs t
  | [], _, _ => by simp [rawsL, szs]
  | f :: t, h, k => by
    have h1 := raws_small (t := t) (fun g hg => h g (List.mem_cons_of_mem _ hg)) (fun g hg => k g (List.mem_cons_of_mem _ hg))
    have h2 := h f List.mem_cons_self
    have h3 := k f List.mem_cons_self
    have e1 : rawsL (f :: t) = rawF f ++ rawsL t := by simp [rawsL]
    have e2 : szs (f :: t) = f.b.length + szs t := by simp [szs]
    have h4 := size_list f.p
    have h5 := formL_small (n := f.p.data.toList.length) (by omega)
    have h6 := formL_small (n := f.b.length) (by omega)
    rw [e1, e2, List.length_append, List.length_cons]
    simp only [rawF, List.length_append]
    omega

theorem Small.raw {t : List Fi} (h : Small t) : (rawL t).length ≤ 74 + szs t := by
  have h1 := raws_small h.h8 h.h200
  have h2 := formL_small (n := t.length) (by have := h.h6; omega)
  have h3 := h.h6
  unfold rawL
  rw [List.length_append]
  omega

theorem Small.szs {t : List Fi} (h : Small t) : szs t ≤ 1200 := by
  have h1 := szs_small h.h200
  have h3 := h.h6
  omega

theorem Small.fitD {t : List Fi} (h : Small t) : ∀ i (hi : i < t.length), dP.size + 1 + t[i].p.size ≤ 40 := fun i hi => by
  have := h.h8 _ (List.getElem_mem hi)
  show 1 + 1 + _ ≤ 40
  omega
theorem Small.fitU {t : List Fi} (h : Small t) : ∀ i (hi : i < t.length), ouP.size + 1 + t[i].p.size ≤ 40 := fun i hi => by
  have := h.h8 _ (List.getElem_mem hi)
  show 5 + 1 + _ ≤ 40
  omega
theorem Small.fitV {t : List Fi} (h : Small t) : ∀ i (hi : i < t.length), uP.size + 1 + t[i].p.size ≤ 40 := fun i hi => by
  have := h.h8 _ (List.getElem_mem hi)
  show 1 + 1 + _ ≤ 40
  omega
theorem Small.D {t : List Fi} (h : Small t) : TOK (preD t) := h.tok.pre pok_d h.fitD
theorem Small.U {t : List Fi} (h : Small t) : TOK (preU t) := h.tok.pre pok_ou h.fitU
theorem Small.V {t : List Fi} (h : Small t) : TOK (t.map (pre uP)) := h.tok.pre pok_u h.fitV
theorem len_D (t : List Fi) : (preD t).length = t.length := List.length_map _
theorem len_U (t : List Fi) : (preU t).length = t.length := List.length_map _
theorem szs_D (t : List Fi) : szs (preD t) = szs t := szs_pre dP t
theorem szs_U (t : List Fi) : szs (preU t) = szs t := szs_pre ouP t

theorem szs_T1 (t : List Fi) (r : List UInt8) : szs (T1 t r) = szs t + r.length := by
  unfold T1
  rw [szs_append, szs_D]
  simp [Go.Proofs.YteckjgngglpcaaaGreatDoor.szs]
theorem szs_T2 (t : List Fi) (r : List UInt8) : szs (T2 t r) = szs t + (r.length + r.length) := by
  unfold T2
  rw [szs_append, szs_D]
  simp [Go.Proofs.YteckjgngglpcaaaGreatDoor.szs]
theorem szs_T3 (t : List Fi) (r : List UInt8) : szs (T3 t r) = szs t + szs t + (r.length + r.length) := by
  unfold T3
  rw [szs_append, szs_append, szs_D, szs_U]
  simp [Go.Proofs.YteckjgngglpcaaaGreatDoor.szs]
theorem szs_T4 (t : List Fi) (r : List UInt8) : szs (T4 t r) = szs t + szs t + (r.length + (r.length + r.length)) := by
  unfold T4
  rw [szs_append, szs_append, szs_D, szs_U]
  simp [Go.Proofs.YteckjgngglpcaaaGreatDoor.szs]

theorem costs_small : ∀ {u : List Fi}, (∀ f ∈ u, f.b.length ≤ 200) → costs u ≤ 14 * u.length
  | [], _ => by simp [costs]
  | f :: u, h => by
    have h1 := costs_small (u := u) (fun g hg => h g (List.mem_cons_of_mem _ hg))
    have h2 := h f List.mem_cons_self
    simp only [costs, List.length_cons]
    omega

theorem pre_small {d : ByteArray} {t : List Fi} (h : ∀ f ∈ t, f.b.length ≤ 200) : ∀ f ∈ t.map (pre d), f.b.length ≤ 200 := fun f hf => by
  obtain ⟨g, hg, rfl⟩ := List.mem_map.1 hf
  exact h g hg

/-- The states of the five instructions' run. -/
def InvP (t : List Fi) (s : VM) : Prop :=
  TOK s.t ∧ szs s.t ≤ 4000 ∧ s.used ≤ 200 * s.place ∧
    ((s.place = 0 ∧ s.t = preD t) ∨ (s.place = 1 ∧ s.t = T1 t (rawL t)) ∨ (s.place = 2 ∧ s.t = T2 t (rawL t)) ∨ (s.place = 3 ∧ s.t = T3 t (rawL t)) ∨ (s.place = 4 ∧ s.t = T3 t (rawL t)) ∨ (s.place = 5 ∧ s.t = T4 t (rawL t)))

/-- How it may end early. -/
def BadP (t : List Fi) (n : Int) (_ : Nat) : Prop := n = 8 ∧ 600 < szs t

def progP : List In := [⟨6, dP, zP, 0⟩, ⟨1, zP, ozP, 0⟩, ⟨7, zP, ouP, 0⟩, ⟨7, zP, dP, 0⟩, ⟨6, dP, oyP, 0⟩]

theorem ok_P : ∀ x ∈ progP, InOk progP.length x := by
  intro x hx
  simp only [progP, List.mem_cons, List.not_mem_nil, or_false] at hx
  rcases hx with rfl | rfl | rfl | rfl | rfl
  · exact .inl ⟨by simp, pok_d, pok_z, rfl⟩
  · exact .inl ⟨by simp, pok_z, pok_oz, rfl⟩
  · exact .inl ⟨by simp, pok_z, pok_ou, rfl⟩
  · exact .inl ⟨by simp, pok_z, pok_d, rfl⟩
  · exact .inl ⟨by simp, pok_d, pok_oy, rfl⟩
end Go.Proofs.YteckjgngglpcaaaGreatDoor
