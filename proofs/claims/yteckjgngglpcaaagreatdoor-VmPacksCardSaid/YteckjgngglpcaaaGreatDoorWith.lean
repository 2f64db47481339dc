/-
  tree.With.
-/
import Derived.Test.YteckjgngglpcaaaGreatDoorPut
namespace Go.Proofs.YteckjgngglpcaaaGreatDoor
open Go.RowKit

/-- What comes back where what was made may be, and where it may not. -/
def RetW (t : List Fi) (w : World) (e : Ending) (w' : World) : Prop :=
  if szs t ≤ 4000 then RetTE t w e w' else e = .returned (.tuple #[.slice none 0 0, .int .i64 8]) ∧ Below w.heap.size w w'

theorem made_f {P R : Nat → Prop} {v : Value} {t : List Fi} {w : World} (hv : RdT P R w v t) (hT : TOK t) : Calls Tryz.prog 16 #[v] w (RetW t w) := by
  by_cases hz : szs t ≤ 4000
  · exact (made_ok hv hT hz).mono fun e w' h => by unfold RetW; rw [if_pos hz]; exact h
  · exact (made_full hv hT hz).mono fun e w' h => by unfold RetW; rw [if_neg hz]; exact h

theorem RetW.back {t : List Fi} {w w1 : World} {e : Ending} {w' : World} (hB : Below w.heap.size w w1) (h : RetW t w1 e w') :
    (∃ v, e = .returned (.tuple #[v, .int .i64 0]) ∧ RetW t w e w') ∨ (e = .returned (.tuple #[.slice none 0 0, .int .i64 8]) ∧ RetW t w e w') := by
  unfold RetW at h ⊢
  by_cases hz : szs t ≤ 4000
  · rw [if_pos hz] at h ⊢
    obtain ⟨v, rfl, ho, hB'⟩ := h
    exact .inl ⟨v, rfl, v, rfl, ho.base hB.size (fun b hb => Nat.le_trans hB.size hb), Below.then hB hB'⟩
  · rw [if_neg hz] at h ⊢
    exact .inr ⟨h.1, h.1, Below.then hB h.2⟩

set_option maxRecDepth 100000 in
set_option maxHeartbeats 2000000 in
theorem with_f {P R P' : Nat → Prop} {v bv : Value} {t : List Fi} {l : List UInt8} {w : World} (hv : RdT P R w v t) (hT : TOK t) (hz : szs t ≤ 4000) {s : ByteArray} (hs : POK s) (hb : RdB P' w bv l) (hl : l.length ≤ 2000) (hlen : (putF s l t).length ≤ 16) :
    Calls Tryz.prog 53 #[v, .string s, bv] w (RetW (putF s l t) w) := by
  have hdec : decide (szs t ≤ 4000) = true := decide_eq_true hz
  have hTp := hT.put hs hl hlen
  have hl16 := hT.len
  have hshi := hs.hi
  obtain ⟨a, cap, rfl, _, hm⟩ := hv.shape
  obtain ⟨ab, capb, rfl, _, hmb⟩ := hb.shape
  go_enter Tryz.func53, Tryz.ntmps53
  go_wp2_with fail
  refine (may_f P R _ t w hv hT).mono ?_
  rintro e w1 ⟨rfl, hB⟩
  rw [hdec]
  go_wp2_with fail
  refine (isPath_f s hs _).mono ?_
  rintro e w2 ⟨rfl, hB2⟩
  have h12 := Below.then hB hB2
  have hv2 := hv.keeps (Keeps.below h12) (Keeps.below h12)
  go_wp2_with fail
  refine (find_f hv2 hT s).mono ?_
  rintro e w3 ⟨i, rfl, hp, hB3⟩
  have h13 := Below.then h12 hB3
  have hv3 := (hv2.keeps (Keeps.below hB3) (Keeps.below hB3)).keeps (Keeps.alloc (Obj.cells #[.string s, .slice ab l.length capb] 28)) (Keeps.alloc (Obj.cells #[.string s, .slice ab l.length capb] 28))
  go_wp2_with fail
  refine (cloneT_f hv3 (by omega)).mono ?_
  rintro e w4 ⟨v1, rfl, ho, hB4⟩
  obtain ⟨W3, hW3⟩ : ∃ W3, W3 = w3.alloc (Obj.cells #[.string s, .slice ab l.length capb] 28) := ⟨_, rfl⟩
  rw [← hW3] at ho hB4
  have hsz3 : W3.heap.size = w3.heap.size + 1 := by rw [hW3]; simp
  have hbW : Below w.heap.size w W3 := by rw [hW3]; exact h13.alloc h13.size _
  have b0 : W3.cell? ⟨w3.heap.size, 0, none⟩ = some (.string s) := by rw [hW3]; simp
  have b1 : W3.cell? ⟨w3.heap.size, 1, none⟩ = some (.slice ab l.length capb) := by rw [hW3]; simp
  have c0 := Keeps.below_cell hB4 b0
  have c1 := Keeps.below_cell hB4 b1
  have h14 := Below.then hbW hB4
  have hb4 : RdB (fun b => P' b ∧ b < w.heap.size) w4 (.slice ab l.length capb) l := hb.lt.keeps (Keeps.below h14)
  have hws : w.heap.size ≤ w3.heap.size := h13.size
  have Hs3 := Lib.hid hsz3
  clear hW3 b0 b1 hsz3 hv hv2 hv3 hb
  cases hat : isAt t s i with
  | true =>
    have hi : i < t.length := by
      unfold isAt at hat
      rcases Nat.lt_or_ge i t.length with h | h
      · exact h
      · rw [List.getElem?_eq_none h] at hat
        cases hat
    have hput : t.set i ⟨s, l⟩ = putF s l t := putF_at hp hat
    rcases ho.shape with ⟨_, rfl⟩ | ⟨g, cap1, rfl, hg, hglt, hcap, hcm, hx⟩
    · simp at hi
    · obtain ⟨e0, _, f0, f1, u, e1, _⟩ := hx i hi
      have o1 := ho.setPath rfl hi (s := s) (by simp only [maxLen]; omega)
      have o2 := (o1.mono (R' := fun _ => True) fun _ _ => trivial).setBytes (by simp) (i := i) (by simpa using hi) (x := .slice ab l.length capb) (l := l)
        ((hb4.keeps (Keeps.setCell (a := ⟨g, i * 2, none⟩) _ (fun h => by have h2 : g < w.heap.size := h.2; have := Hs3.out; omega))).mono fun b hb => ⟨trivial, by have := hb.2; have := Hs3.out; omega⟩)
      simp only [List.getElem_set_self, List.set_set] at o2
      rw [hput] at o2
      have hBf : Below w.heap.size w ((w4.setCell ⟨g, i * 2, none⟩ (.string s)).setCell ⟨g, i * 2 + 1, none⟩ (.slice ab l.length capb)) :=
        (h14.setCell (p := ⟨g, i * 2, none⟩) (show w.heap.size ≤ g from by have := Hs3.out; omega) _).setCell (p := ⟨g, i * 2 + 1, none⟩) (show w.heap.size ≤ g from by have := Hs3.out; omega) _
      have e1' : (w4.setCell ⟨g, i * 2, none⟩ (.string s)).cell? ⟨g, i * 2 + 1, none⟩ = some u := by rw [World.cell?_setCell_other _ _ _ _ (by simp)]; exact e1
      have O2 := Lib.hid o2
      have HBf := Lib.hid hBf
      unfold maxLen at hcm
      clear o1 o2 hBf hx hput ho hB4 h14 hbW
      go_wp2_with fail
      refine (made_f O2.out.rd hTp).mono ?_
      intro e w5 hr
      rcases hr.back HBf.out with ⟨v5, rfl, hr5⟩ | ⟨rfl, hr5⟩
      · go_wp2
        go_ret2
        exact hr5
      · go_wp2
        go_ret2
        exact hr5
  | false =>
    have hput := putF_ins (l := l) hp hat
    have hne : some w4.heap.size ≠ v1.ownBlock := fun e => by
      have := (ho.block _ e.symm).2
      omega
    go_wp2_with fail
    refine (insert_f (f := ⟨s, l⟩) (bvv := .slice ab l.length capb) (R' := fun b => P' b ∧ b < w.heap.size) ((ho.mono (R' := fun _ => True) fun _ _ => trivial).keeps (Keeps.alloc _)) (by simp; exact Nat.le_succ_of_le hB4.size) (heap_alloc_new w4 _) (by simp only [maxLen]; omega) (hb4.keeps (Keeps.alloc _)) hne (fun b hb e => by
      have h1 := (ho.block _ e.symm).1
      have := hb.2
      have := Hs3.out
      omega) (by omega) hp.le).mono ?_
    rintro e w5 ⟨v5, rfl, ho5, hB5⟩
    rw [hput] at ho5
    have hB5w : Below w.heap.size w w5 := (h14.alloc h14.size _).trans (hB5.mono (by have := Hs3.out; omega))
    rcases ho5.shape with ⟨rfl, h0⟩ | ⟨g, cap1, rfl, _⟩
    · go_wp2_with fail
      refine (made_f ho5.rd hTp).mono ?_
      intro e w6 hr
      rcases hr.back hB5w with ⟨v6, rfl, hr6⟩ | ⟨rfl, hr6⟩
      · go_wp2
        go_ret2
        exact hr6
      · go_wp2
        go_ret2
        exact hr6
    · go_wp2_with fail
      refine (made_f ho5.rd hTp).mono ?_
      intro e w6 hr
      rcases hr.back hB5w with ⟨v6, rfl, hr6⟩ | ⟨rfl, hr6⟩
      · go_wp2
        go_ret2
        exact hr6
      · go_wp2
        go_ret2
        exact hr6
end Go.Proofs.YteckjgngglpcaaaGreatDoor
