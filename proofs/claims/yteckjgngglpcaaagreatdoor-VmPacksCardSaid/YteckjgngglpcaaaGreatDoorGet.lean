/-
  tree.Get.
-/
import Derived.Test.YteckjgngglpcaaaGreatDoorFind
namespace Go.Proofs.YteckjgngglpcaaaGreatDoor
open Go.RowKit

theorem Place.hit {t : List Fi} {s : ByteArray} {i k : Nat} (h : Place t s i) (hT : TOK t) (hk : k < t.length) (he : t[k].p.toList = s.toList) : i = k := by
  have h1 : i ≤ k := by
    rcases Nat.lt_or_ge k i with hlt | hge
    · have := h.below k hk hlt
      rw [he, bytesLess_irrefl] at this
      cases this
    · exact hge
  rcases Nat.lt_or_ge i k with hlt | hge
  · have h2 := h.from_ i (by omega) (Nat.le_refl _)
    have h3 := hT.rises k i hk hlt
    rw [he, h2] at h3
    cases h3
  · omega

theorem isAt_hit {t : List Fi} {s : ByteArray} {k : Nat} (hk : k < t.length) (he : t[k].p.toList = s.toList) : isAt t s k = true := by
  unfold isAt
  rw [List.getElem?_eq_getElem hk]
  simpa using he

theorem isAt_miss {t : List Fi} {s : ByteArray} {i : Nat} (h : ∀ k (h : k < t.length), t[k].p.toList ≠ s.toList) : isAt t s i = false := by
  unfold isAt
  by_cases hi : i < t.length
  · rw [List.getElem?_eq_getElem hi]
    simpa using h i hi
  · rw [List.getElem?_eq_none (by omega)]

set_option maxHeartbeats 400000 in
theorem get_hit {P R : Nat → Prop} {v : Value} {t : List Fi} {w : World} (hv : RdT P R w v t) (hT : TOK t) (hz : szs t ≤ 4000) (s : ByteArray) {k : Nat} (hk : k < t.length) (he : t[k].p.toList = s.toList) :
    Calls Tryz.prog 9 #[v, .string s] w fun e w' => ∃ x, e = .returned (.tuple #[x, .bool true]) ∧ RdB (w.heap.size ≤ ·) w' x t[k].b ∧ Below w.heap.size w w' := by
  have hd : decide (szs t ≤ 4000) = true := decide_eq_true hz
  have hl := hT.len
  have hv0 := hv
  obtain ⟨b, off, cap, rfl, hc1, hc2, hb, hc⟩ := hv.at (by omega)
  unfold maxLen at hc2
  go_enter Tryz.func9, Tryz.ntmps9
  go_wp2_with fail
  refine (may_f P R _ t w hv0 hT).mono ?_
  rintro e w1 ⟨rfl, hB⟩
  rw [hd]
  have hv1 := hv0.keeps (Keeps.below hB) (Keeps.below hB)
  go_wp2_with fail
  refine (find_f hv1 hT s).mono ?_
  rintro e w2 ⟨i, rfl, hp, hB2⟩
  obtain rfl := hp.hit hT hk he
  rw [isAt_hit hk he]
  obtain ⟨c1, hpm, vb, c2, hvb⟩ := hc i hk
  have d2 := Keeps.below_cell hB2 (Keeps.below_cell hB c2)
  have hvb2 := (hvb.keeps (Keeps.below hB)).keeps (Keeps.below hB2)
  obtain ⟨ab, capb, rfl, hcb, hmb⟩ := hvb.shape
  clear hc
  go_wp2_with fail
  refine (cloneB_f hvb2 (hT.small i hk)).mono ?_
  rintro e w3 ⟨x, rfl, hx, hB3⟩
  go_wp2
  go_ret2
  have h12 := Below.then hB hB2
  exact ⟨x, rfl, hx.mono fun b hb => Nat.le_trans h12.size hb, Below.then h12 hB3⟩

set_option maxHeartbeats 400000 in
theorem get_miss {P R : Nat → Prop} {v : Value} {t : List Fi} {w : World} (hv : RdT P R w v t) (hT : TOK t) (hz : szs t ≤ 4000) (s : ByteArray) (he : ∀ k (h : k < t.length), t[k].p.toList ≠ s.toList) :
    Calls Tryz.prog 9 #[v, .string s] w fun e w' => e = .returned (.tuple #[.slice none 0 0, .bool false]) ∧ Below w.heap.size w w' := by
  have hd : decide (szs t ≤ 4000) = true := decide_eq_true hz
  have hv0 := hv
  obtain ⟨a, cap, rfl, _, _⟩ := hv.shape
  go_enter Tryz.func9, Tryz.ntmps9
  go_wp2_with fail
  refine (may_f P R _ t w hv0 hT).mono ?_
  rintro e w1 ⟨rfl, hB⟩
  rw [hd]
  have hv1 := hv0.keeps (Keeps.below hB) (Keeps.below hB)
  go_wp2_with fail
  refine (find_f hv1 hT s).mono ?_
  rintro e w2 ⟨i, rfl, hp, hB2⟩
  rw [isAt_miss he]
  go_wp2
  go_ret2
  exact ⟨rfl, Below.then hB hB2⟩

end Go.Proofs.YteckjgngglpcaaaGreatDoor
