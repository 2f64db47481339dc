/-
  tree.Same, at two trees that are alike.
-/
import Derived.Test.YteckjgngglpcaaaGreatDoorWith
namespace Go.Proofs.YteckjgngglpcaaaGreatDoor
open Go.RowKit

/-- A text of bytes. -/
def txt (l : List UInt8) : ByteArray := ⟨l.toArray⟩

theorem txt_toList (l : List UInt8) : (txt l).toList = l := by rw [ByteArray.toList_eq]; rfl

/-- 'string(b)'. -/
theorem run_string {P : Nat → Prop} {w : World} {v : Value} {l : List UInt8} (h : RdB P w v l) : (convert 26 9 v).run Tryz.prog w = .ok (.string (txt l)) w := by
  obtain ⟨a, cap, rfl, h1, h2, h3, h4⟩ := h
  cases a with
  | none =>
    have hl : l = [] := List.eq_nil_of_length_eq_zero (by have := h3 rfl; omega)
    subst hl
    exact run_convert_bytes_nil w 26 5 Tryz.underlying26 Tryz.underlying5 _ _ 9 Tryz.underlying9
  | some ad =>
    rcases Nat.eq_zero_or_pos l.length with h0 | h0
    · have hl : l = [] := List.eq_nil_of_length_eq_zero h0
      subst hl
      simp [convert, run_underlying Tryz.underlying26, run_underlying Tryz.underlying9, run_underlying Tryz.underlying5, Conv.bytesToString, loadCells, loadCellsFrom]
      rfl
    · obtain ⟨b, off, he, _, hc⟩ := h4 h0
      obtain rfl := Option.some.inj he
      have h := run_convert_bytes_arg (P := Tryz.prog) w 26 5 Tryz.underlying26 Tryz.underlying5 b off l.length cap (l.map fun c => (c.toNat : Int)) (by simp) (fun i hi => by rw [hc i hi]; simp [List.getD, hi]) 9 Tryz.underlying9
      refine h.trans ?_
      have e : strOfNums (l.map fun c => (c.toNat : Int)) = txt l := by
        have e0 : (l.map fun c => (c.toNat : Int)).map (fun n => UInt8.ofNat n.toNat) = l := by
          rw [List.map_map]
          exact (List.map_congr_left (g := id) (fun c _ => by simp)).trans (List.map_id l)
        exact congrArg (fun x : List UInt8 => (⟨x.toArray⟩ : ByteArray)) e0
      rw [e]

set_option maxHeartbeats 400000 in
theorem equal_f {P P' : Nat → Prop} {w : World} {a b : Value} {l m : List UInt8} (ha : RdB P w a l) (hb : RdB P' w b m) : Calls Tryz.prog 24 #[a, b] w fun e w' => e = .returned (.bool (l == m)) ∧ w = w' := by
  have h1 := run_string ha
  have h2 := run_string hb
  obtain ⟨aa, ca, rfl, _, _⟩ := ha.shape
  obtain ⟨ab, cb, rfl, _, _⟩ := hb.shape
  have e : ((txt l).toList == (txt m).toList) = (l == m) := by rw [txt_toList, txt_toList]
  have E := Lib.hid e
  clear e
  go_enter Tryz.func24, Tryz.ntmps24
  go_wp2
  go_ret
  exact ⟨by rw [← E.out]; rfl, rfl⟩

set_option maxHeartbeats 400000 in
theorem sameOne_f {P P' : Nat → Prop} {w : World} {a b : Value} {p : ByteArray} {l : List UInt8} (ha : RdB P w a l) (hb : RdB P' w b l) :
    Calls Tryz.prog 23 #[.agg #[.string p, a], .agg #[.string p, b]] w fun e w' => e = .returned (.bool true) ∧ Below w.heap.size w w' := by
  have hab := (ha.keeps (Keeps.alloc (Obj.cells #[.string p, a] 28))).keeps (Keeps.alloc (Obj.cells #[.string p, b] 28))
  have hbb := (hb.keeps (Keeps.alloc (Obj.cells #[.string p, a] 28))).keeps (Keeps.alloc (Obj.cells #[.string p, b] 28))
  obtain ⟨aa, ca, rfl, _, _⟩ := ha.shape
  obtain ⟨ab, cb, rfl, _, _⟩ := hb.shape
  have hl : (l == l) = true := by simp
  go_enter Tryz.func23, Tryz.ntmps23
  go_wp2_with fail
  refine (equal_f hab hbb).mono ?_
  rintro e w1 ⟨rfl, rfl⟩
  rw [hl]
  go_wp2
  go_ret
  exact ⟨rfl, ((Below.refl _ _).alloc (Nat.le_refl _) _).alloc (by simp) _⟩

set_option maxHeartbeats 1000000 in
theorem equalFunc_f {P R P' R' : Nat → Prop} {w : World} {a b : Value} {t : List Fi} (ha : RdT P R w a t) (hb : RdT P' R' w b t) (hl : t.length ≤ 100) :
    Calls Tryz.prog 22 #[a, b, .func (.func 23) #[] #[]] w fun e w' => e = .returned (.bool true) ∧ Below w.heap.size w w' := by
  obtain ⟨aa, ca, rfl, _, hma⟩ := ha.shape
  obtain ⟨ab, cb, rfl, _, hmb⟩ := hb.shape
  unfold maxLen at hma hmb
  go_enter Tryz.func22, Tryz.ntmps22
  go_wp2
  go_loopw [17] (fun i wr => ∃ k : Nat, k ≤ t.length ∧ i = .int .i64 k ∧ Below w.heap.size w wr) (fun i _ => t.length - (intOf i).toNat)
  case atStart => exact ⟨0, by omega, rfl, Below.refl _ _⟩
  case round =>
    obtain ⟨k, hk, rfl, hB⟩ := hrel
    have ha' := ha.keeps (Keeps.below hB) (Keeps.below hB)
    have hb' := hb.keeps (Keeps.below hB) (Keeps.below hB)
    by_cases hlt : k < t.length
    · obtain ⟨b1, off1, cap1, e1, _, _, hb1, hc1⟩ := ha'.at (by omega)
      obtain ⟨b2, off2, cap2, e2, _, _, hb2, hc2⟩ := hb'.at (by omega)
      simp only [Value.slice.injEq] at e1 e2
      obtain ⟨rfl, -, rfl⟩ := e1
      obtain ⟨rfl, -, rfl⟩ := e2
      obtain ⟨c1, _, u1, d1, hu1⟩ := hc1 k hlt
      obtain ⟨c2, _, u2, d2, hu2⟩ := hc2 k hlt
      have hu1' := hu1.keeps (Keeps.alloc (Obj.cells #[.string t[k].p, u1] 28))
      have hu2' := hu2.keeps (Keeps.alloc (Obj.cells #[.string t[k].p, u1] 28))
      have hu1'' := hu1'.keeps (Keeps.alloc (Obj.cells #[.string t[k].p, u2] 28))
      have hu2'' := hu2'.keeps (Keeps.alloc (Obj.cells #[.string t[k].p, u2] 28))
      have c2' := (Keeps.alloc (P := fun _ => True) (w := wr) (Obj.cells #[.string t[k].p, u1] 28)).cell trivial c2
      have d2' := (Keeps.alloc (P := fun _ => True) (w := wr) (Obj.cells #[.string t[k].p, u1] 28)).cell trivial d2
      obtain ⟨x1, y1, rfl, _, _⟩ := hu1.shape
      obtain ⟨x2, y2, rfl, _, _⟩ := hu2.shape
      clear hc1 hc2
      go_wp2_with fail
      refine (sameOne_f hu1'' hu2'').mono ?_
      rintro e w1 ⟨rfl, hB1⟩
      go_wp2
      go_roundw
      case rel => exact ⟨k + 1, by omega, by go_num, ((hB.alloc hB.size _).alloc (by simp; exact Nat.le_succ_of_le hB.size) _).trans (hB1.mono (by simp; have := hB.size; omega))⟩
      case measure => simp [intOf]; omega
    · go_wp2
      go_ret
      exact ⟨rfl, hB⟩

set_option maxHeartbeats 400000 in
theorem same_f {P R P' R' : Nat → Prop} {w : World} {a b : Value} {t : List Fi} (ha : RdT P R w a t) (hb : RdT P' R' w b t) (hl : t.length ≤ 100) :
    Calls Tryz.prog 10 #[a, b] w fun e w' => e = .returned (.bool true) ∧ Below w.heap.size w w' := by
  obtain ⟨aa, ca, rfl, _, _⟩ := ha.shape
  obtain ⟨ab, cb, rfl, _, _⟩ := hb.shape
  go_enter Tryz.func10, Tryz.ntmps10
  go_wp2_with fail
  refine (equalFunc_f ha hb hl).mono ?_
  rintro e w1 ⟨rfl, hB⟩
  go_wp2
  go_ret
  exact ⟨rfl, hB⟩

end Go.Proofs.YteckjgngglpcaaaGreatDoor
