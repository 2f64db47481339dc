/-
  slices.Insert of one file: what moves up by one place.
-/
import Derived.Test.YteckjgngglpcaaaGreatDoorIns
namespace Go.Proofs.YteckjgngglpcaaaGreatDoor
open Go.RowKit

/-- 'copy(s[i+1:], s[i:])' within a row that has room for one more. -/
theorem run_shift {w : World} {base : Nat} {R : Nat → Prop} {g cap : Nat} {t : List Fi} (h : OwnT base R w (.slice (some ⟨g, 0, none⟩) t.length cap) t) {i : Nat} (hi : i < t.length) (hroom : t.length + 1 ≤ cap) {d s dc sc : Nat}
    (hd : d = t.length - i) (hs : s = t.length + 1 - i) (ty : TypeId) :
    ∃ w', (Builtin.copy_ #[23, 23] ty #[.slice (some ⟨g, (i + 1) * 2, none⟩) d dc, .slice (some ⟨g, i * 2, none⟩) s sc]).run Tryz.prog w = .ok (goInt (d : Nat)) w' ∧
      OwnT base R w' (.slice (some ⟨g, 0, none⟩) (t.length + 1) cap) (t.take (i + 1) ++ t.drop i) ∧ w.grownBy w' (some g) := by
  subst hd hs
  obtain ⟨i0, hi0, hz0, hz1, hz2⟩ := info_parts info28
  obtain ⟨es, hel, ho, hc⟩ := h
  have ho0 := ho
  rcases ho.2 with ⟨hv, _⟩ | ⟨g', cap', cur, hv, hb, hg, hnc, hcm, hcs, htake⟩
  · cases hv
  · simp only [Value.slice.injEq, Option.some.injEq, Addr.mk.injEq, and_true, true_and] at hv
    obtain ⟨rfl, rfl⟩ := hv
    obtain ⟨cs, hcsd⟩ : ∃ cs, cs = (fcells t es).drop (i * 2) := ⟨_, rfl⟩
    have hcl : cs.length = (t.length - i) * 2 := by rw [hcsd, List.length_drop, fcells_length t es hel]; omega
    have hone : ∀ y ∈ cs, y.oneCell' = true := by
      intro y hy
      rw [hcsd] at hy
      refine fcells_one t es (fun y hy => ?_) y (List.mem_of_mem_drop hy)
      obtain ⟨j, hj, hjy⟩ := List.mem_iff_getElem.1 hy
      obtain ⟨_, z, hz, hzd⟩ := hc j (by omega)
      have e : es[j]? = some y := by rw [List.getElem?_eq_getElem hj, hjy]
      rw [hz] at e
      obtain rfl := Option.some.inj e
      exact hzd.one
    have hload := run_loadCells_list (P := Tryz.prog) w ⟨g, i * 2, none⟩ cs (fun j y hj => by
      rw [hcsd, List.getElem?_drop] at hj
      rw [addr_add]
      have hlt : i * 2 + j < t.length * 2 := by
        have := (List.getElem?_eq_some_iff.1 hj).1
        rw [fcells_length t es hel] at this
        exact this
      rw [ho0.cellAt _ hlt, hj])
    have hst := run_storeCells_at Tryz.prog g ((i + 1) * 2) 28 cs 0 cur w hg (by rw [hcl, hcs]; omega) hone
    rw [hcl] at hload
    simp only [Nat.add_zero, hcl] at hst
    have hmin : Nat.min (t.length + 1 - i) (t.length - i) = t.length - i := by have : Nat.min (t.length + 1 - i) (t.length - i) = min (t.length + 1 - i) (t.length - i) := rfl; omega
    obtain ⟨W, hW⟩ : ∃ W, W = w.setRow g (cur.toList.take ((i + 1) * 2) ++ cs ++ cur.toList.drop ((i + 1) * 2 + (t.length - i) * 2)).toArray := ⟨_, rfl⟩
    rw [← hW] at hst
    have hfc : (Builtin.firstCells 2 (t.length - i) (.slice (some ⟨g, i * 2, none⟩) (t.length + 1 - i) sc)).run Tryz.prog w = .ok cs.toArray w := hload
    have hrun : (Builtin.copy_ #[23, 23] ty #[.slice (some ⟨g, (i + 1) * 2, none⟩) (t.length - i) dc, .slice (some ⟨g, i * 2, none⟩) (t.length + 1 - i) sc]).run Tryz.prog w = .ok (goInt ((t.length - i : Nat) : Int)) W := by
      simp [Builtin.copy_, run_underlying Tryz.underlying23, Builtin.lenOf, sizeOf, typeInfo, hi0, hz1, hmin, hfc, hst]
    refine ⟨W, hrun, ?_, ⟨by rw [hW]; rfl, by rw [hW]; rfl, by rw [hW]; rfl, by rw [hW]; simp, fun b _ hb => by rw [hW]; exact setRow_other w g b _ (fun e => hb (by rw [e]))⟩⟩
    have hL : (t.take (i + 1) ++ t.drop i).length = t.length + 1 := by simp; omega
    have hlt : (es.take (i + 1)).length = (t.take (i + 1)).length := by simp; omega
    refine OwnT.of (es.take (i + 1) ++ es.drop i) (by simp; omega) ⟨?_, .inr ⟨g, cap, _, by rw [hL], hb, by rw [hW]; exact setRow_heap w g cur _ 28 _ hg, by rw [hL]; exact hroom, hcm, ?_, ?_⟩⟩ ?_
    · rw [fcells_length _ _ (by simp; omega)]
    · simp only [List.size_toArray, List.length_append, List.length_take, List.length_drop, Array.length_toList, hcl, hcs]
      omega
    · rw [hL]
      simp only
      have hq : cur.toList.length = cap * 2 := by rw [Array.length_toList, hcs]
      have htk : cur.toList.take ((i + 1) * 2) = (fcells t es).take ((i + 1) * 2) := by
        rw [← htake, List.take_take, show min ((i + 1) * 2) (t.length * 2) = (i + 1) * 2 by omega]
      rw [htk, List.take_append_of_le_length (by simp [fcells_length t es hel, hcl]; omega), List.take_of_length_le (by simp [fcells_length t es hel, hcl]; omega), hcsd, fcells_append _ _ _ _ hlt, fcells_take t es (i + 1) hel, fcells_drop t es i hel]
    · intro j hj
      rw [hL] at hj
      have hkeep : ∀ {Q : Nat → Prop} {y : Value} {l : List UInt8}, RdB Q w y l → (∀ b, Q b → b ≠ g) → RdB Q W y l :=
        fun hy hq => hy.keeps fun b hb _ => by rw [hW]; exact setRow_other w g b _ (hq b hb)
      by_cases h1 : j < i + 1
      · obtain ⟨hm, y, hy, hyd⟩ := hc j (by omega)
        have e1 : (t.take (i + 1) ++ t.drop i)[j]'(by rw [hL]; exact hj) = t[j] := by
          rw [List.getElem_append_left (by simp; omega), List.getElem_take]
        rw [e1]
        refine ⟨hm, y, ?_, hkeep hyd (fun b hb e => hb.2 (by rw [e]; rfl))⟩
        rw [List.getElem?_append_left (by simp; omega), List.getElem?_take, if_pos h1, hy]
      · obtain ⟨hm, y, hy, hyd⟩ := hc (j - 1) (by omega)
        have e1 : (t.take (i + 1) ++ t.drop i)[j]'(by rw [hL]; exact hj) = t[j - 1]'(by omega) := by
          rw [List.getElem_append_right (by simp; omega), List.getElem_drop]
          exact getElem_idx (by rw [List.length_take]; omega) _
        rw [e1]
        refine ⟨hm, y, ?_, hkeep hyd (fun b hb e => hb.2 (by rw [e]; rfl))⟩
        rw [List.getElem?_append_right (by simp; omega), List.getElem?_drop, ← hy]
        exact getElem?_idx (by rw [List.length_take]; omega)

/-- A row of files of the call's own, from a place on. -/
theorem OwnT.drop {base : Nat} {R : Nat → Prop} {w : World} {g n cap : Nat} {t : List Fi} (h : OwnT base R w (.slice (some ⟨g, 0, none⟩) n cap) t) (hn : n = t.length) (i : Nat) (hi : i < n) {m : Nat} (hm : m = n - i) :
    RdT (· = g) (fun b => R b ∧ b ≠ g) w (.slice (some ⟨g, i * 2, none⟩) m (cap - i)) (t.drop i) := by
  subst hn hm
  rcases h.shape with ⟨hv, _⟩ | ⟨g', cap', hv, _, _, hc, hm, hx⟩
  · cases hv
  · simp only [Value.slice.injEq, Option.some.injEq, Addr.mk.injEq, and_true, true_and] at hv
    obtain ⟨rfl, rfl⟩ := hv
    refine ⟨_, cap - i, by rw [List.length_drop], by rw [List.length_drop]; omega, by omega, (fun h => by cases h), fun _ => ⟨g, i * 2, rfl, rfl, fun j hj => ?_⟩⟩
    have hj' : i + j < t.length := by rw [List.length_drop] at hj; omega
    obtain ⟨c1, hm', _, _, u, c2, hu⟩ := hx (i + j) hj'
    rw [List.getElem_drop]
    rw [show (i + j) * 2 = i * 2 + j * 2 by omega] at c1 c2
    exact ⟨c1, hm', u, c2, hu⟩

end Go.Proofs.YteckjgngglpcaaaGreatDoor
