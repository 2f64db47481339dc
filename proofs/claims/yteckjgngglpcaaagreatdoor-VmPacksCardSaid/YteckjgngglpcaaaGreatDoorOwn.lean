/-
  A tree in memory of its own: own, made.
-/
import Derived.Test.YteckjgngglpcaaaGreatDoorFiles
import Derived.Test.YteckjgngglpcaaaGreatDoorMay
namespace Go.Proofs.YteckjgngglpcaaaGreatDoor
open Go.RowKit

theorem OwnT.refine {base : Nat} {R R' : Nat → Prop} {w : World} {g n cap : Nat} {t : List Fi} (h : OwnT base R w (.slice (some ⟨g, 0, none⟩) n cap) t)
    (hx : ∀ i (_ : i < t.length), ∃ u, w.cell? ⟨g, i * 2 + 1, none⟩ = some u ∧ RdB (fun b => R' b ∧ b ≠ g) w u t[i].b) : OwnT base R' w (.slice (some ⟨g, 0, none⟩) n cap) t := by
  have hs := h.shape
  obtain ⟨es, hl, ho, hc⟩ := h
  refine ⟨es, hl, ho, fun i hi => ?_⟩
  obtain ⟨hm, u, hu, _⟩ := hc i hi
  obtain ⟨u', hu', hd⟩ := hx i hi
  rcases hs with ⟨hv, _⟩ | ⟨g', cap', hv, _, _, _, _, hx'⟩
  · cases hv
  · simp only [Value.slice.injEq, Option.some.injEq, Addr.mk.injEq, and_true] at hv
    obtain ⟨rfl, rfl, rfl⟩ := hv
    have e : (fcells t es)[i * 2 + 1]? = some u := by rw [fcells_bytes t es i hi hl, hu]
    rw [← ho.cellAt (i * 2 + 1) (by omega), hu'] at e
    obtain rfl := Option.some.inj e
    exact ⟨hm, u', hu, hd.mono fun b hb => ⟨hb.1, fun e => hb.2 (Option.some.inj e)⟩⟩

theorem set_file {t : List Fi} {i : Nat} (h : i < t.length) : t.set i ⟨t[i].p, t[i].b⟩ = t := set_same (by rw [List.getElem?_eq_getElem h])

theorem Keeps.grown {P : Nat → Prop} {w w' : World} {row : Option Nat} (h : w.grownBy w' row) (hr : ∀ b, P b → some b ≠ row) : Keeps P w w' := fun b hb hlt => h.block b hlt (hr b hb)

set_option maxHeartbeats 1000000 in
theorem own_f {P R : Nat → Prop} {v : Value} {t : List Fi} {w : World} (hv : RdT P R w v t) (hl : t.length ≤ 1000) (hs : ∀ i (h : i < t.length), t[i].b.length ≤ 60000) :
    Calls Tryz.prog 26 #[v] w (RetT (w.heap.size ≤ ·) t w) := by
  obtain ⟨a, cap, rfl, _, hm⟩ := hv.shape
  go_enter Tryz.func26, Tryz.ntmps26
  go_wp2_with fail
  refine (cloneT_f hv hl).mono ?_
  rintro e w1 ⟨v1, rfl, ho, hB⟩
  rcases ho.shape with ⟨rfl, rfl⟩ | ⟨g, cap1, rfl, hg, hglt, hcap, hcm, _⟩
  · go_wp2
    go_loopw [9] (fun i wr => i = .int .i64 0 ∧ wr = w1) (fun _ _ => 0)
    case atStart => exact ⟨rfl, rfl⟩
    case round =>
      obtain ⟨rfl, rfl⟩ := hrel
      go_wp2
      go_ret
      exact ⟨_, rfl, ownT_nil, hB⟩
  · unfold maxLen at hcm
    go_wp2
    go_loopw [9] (fun i wr => ∃ k : Nat, k ≤ t.length ∧ i = .int .i64 k ∧ OwnT w.heap.size (fun _ => True) wr (.slice (some ⟨g, 0, none⟩) t.length cap1) t ∧ Below w.heap.size w wr ∧
        ∀ i (_ : i < t.length), i < k → ∃ u, wr.cell? ⟨g, i * 2 + 1, none⟩ = some u ∧ RdB (fun b => w.heap.size ≤ b ∧ b ≠ g) wr u t[i].b) (fun i _ => t.length - (intOf i).toNat)
    case atStart => exact ⟨0, by omega, rfl, ho.mono fun _ _ => trivial, hB, fun i _ h => absurd h (Nat.not_lt_zero _)⟩
    case round =>
      obtain ⟨k, hk, rfl, hO, hBr, hF⟩ := hrel
      by_cases hlt : k < t.length
      · rcases hO.shape with ⟨h, _⟩ | ⟨g', cap', h, _, hglt', _, _, hx⟩
        · cases h
        · simp only [Value.slice.injEq, Option.some.injEq, Addr.mk.injEq, and_true, true_and] at h
          obtain ⟨rfl, rfl⟩ := h
          obtain ⟨c1, hpm, f1, f2, u, c2, hu⟩ := hx k hlt
          have HF := Lib.hid hF
          have Hx := Lib.hid hx
          clear hF hx
          go_wp2_with fail
          refine (cloneB_f hu (hs k hlt)).mono ?_
          rintro e w2 ⟨nb, rfl, hnb, hB2⟩
          have hO2 : OwnT w.heap.size (fun _ => True) w2 (.slice (some ⟨g, 0, none⟩) t.length cap1) t := hO.keeps (Keeps.below hB2)
          have d2 := Keeps.below_cell hB2 c2
          have df : w2.frozen? ⟨g, k * 2 + 1, none⟩ = false := by rw [hB2.frozen (p := ⟨g, k * 2 + 1, none⟩) hglt']; exact f2
          have hnb' : RdB (fun b => w.heap.size ≤ b ∧ b ≠ g) w2 nb t[k].b := hnb.mono fun b hb => ⟨Nat.le_trans hBr.size hb, by omega⟩
          have hset := hO2.setBytes rfl hlt (hnb'.mono fun b hb => ⟨trivial, hb.2⟩)
          rw [set_file hlt] at hset
          have hBw : Below w.heap.size w (w2.setCell ⟨g, k * 2 + 1, none⟩ nb) := (Below.then hBr hB2).setCell hg _
          have hF' : ∀ i (_ : i < t.length), i < k + 1 → ∃ u, (w2.setCell ⟨g, k * 2 + 1, none⟩ nb).cell? ⟨g, i * 2 + 1, none⟩ = some u ∧ RdB (fun b => w.heap.size ≤ b ∧ b ≠ g) (w2.setCell ⟨g, k * 2 + 1, none⟩ nb) u t[i].b := by
            intro i hi hik
            by_cases e : i = k
            · subst e
              exact ⟨nb, World.cell?_setCell_same _ _ _ d2, hnb'.keeps (Keeps.setCell _ (fun h => h.2 rfl))⟩
            · obtain ⟨u', hu', hd'⟩ := HF.out i hi (by omega)
              refine ⟨u', ?_, (hd'.keeps (Keeps.below hB2)).keeps (Keeps.setCell _ (fun h => h.2 rfl))⟩
              rw [World.cell?_setCell_other _ _ _ _ (fun h => e (by simp only [Addr.mk.injEq] at h; omega))]
              exact Keeps.below_cell hB2 hu'
          obtain ⟨na, nc, rfl, _, _⟩ := hnb.shape
          have HF' := Lib.hid hF'
          have Hset := Lib.hid hset
          have HBw := Lib.hid hBw
          clear hF' hset hBw
          go_wp2
          go_roundw
          case rel => exact ⟨k + 1, by omega, by go_num, Hset.out, HBw.out, HF'.out⟩
          case measure => simp [intOf]; omega
      · go_wp2
        go_ret
        exact ⟨_, rfl, hO.refine fun i hi => hF i hi (by omega), hBr⟩

/-- A tree in memory of its own comes back, and no error. -/
def RetTE (t : List Fi) (w : World) (e : Ending) (w' : World) : Prop := ∃ v, e = .returned (.tuple #[v, .int .i64 0]) ∧ OwnT w.heap.size (w.heap.size ≤ ·) w' v t ∧ Below w.heap.size w w'

theorem TOK.small {t : List Fi} (h : TOK t) : ∀ i (h : i < t.length), t[i].b.length ≤ 60000 := fun i hi => by have := (h.each i hi).2; omega

theorem OwnT.base {base base' : Nat} {R R' : Nat → Prop} {w : World} {v : Value} {t : List Fi} (h : OwnT base R w v t) (hb : base' ≤ base) (hr : ∀ b, R b → R' b) : OwnT base' R' w v t := by
  obtain ⟨es, hl, ho, hc⟩ := h
  refine ⟨es, hl, ⟨ho.1, ?_⟩, fun i hi => ?_⟩
  · rcases ho.2 with hn | ⟨g, cap, cur, hv, hg, rest⟩
    · exact .inl hn
    · exact .inr ⟨g, cap, cur, hv, Nat.le_trans hb hg, rest⟩
  · obtain ⟨hm, u, hu, hd⟩ := hc i hi
    exact ⟨hm, u, hu, hd.mono fun b hb => ⟨hr b hb.1, hb.2⟩⟩

set_option maxHeartbeats 400000 in
theorem made_ok {P R : Nat → Prop} {v : Value} {t : List Fi} {w : World} (hv : RdT P R w v t) (hT : TOK t) (hz : szs t ≤ 4000) : Calls Tryz.prog 16 #[v] w (RetTE t w) := by
  have hd : decide (szs t ≤ 4000) = true := decide_eq_true hz
  obtain ⟨a, cap, rfl, _, _⟩ := hv.shape
  go_enter Tryz.func16, Tryz.ntmps16
  go_wp2_with fail
  refine (may_f P R _ t w hv hT).mono ?_
  rintro e w1 ⟨rfl, hB⟩
  rw [hd]
  go_wp2_with fail
  refine (own_f (hv.keeps (Keeps.below hB) (Keeps.below hB)) (by have := hT.len; omega) hT.small).mono ?_
  rintro e w2 ⟨v2, rfl, ho, hB2⟩
  go_wp2
  go_ret2
  exact ⟨v2, rfl, ho.base hB.size (fun b hb => Nat.le_trans hB.size hb), Below.then hB hB2⟩

set_option maxHeartbeats 400000 in
theorem made_full {P R : Nat → Prop} {v : Value} {t : List Fi} {w : World} (hv : RdT P R w v t) (hT : TOK t) (hz : ¬ szs t ≤ 4000) :
    Calls Tryz.prog 16 #[v] w fun e w' => e = .returned (.tuple #[.slice none 0 0, .int .i64 8]) ∧ Below w.heap.size w w' := by
  have hd : decide (szs t ≤ 4000) = false := decide_eq_false hz
  obtain ⟨a, cap, rfl, _, _⟩ := hv.shape
  go_enter Tryz.func16, Tryz.ntmps16
  go_wp2_with fail
  refine (may_f P R _ t w hv hT).mono ?_
  rintro e w1 ⟨rfl, hB⟩
  rw [hd]
  go_wp2
  go_ret2
  exact ⟨rfl, hB⟩

end Go.Proofs.YteckjgngglpcaaaGreatDoor
