/-
  Two lines, joined; sorted at the one input.
-/
import Derived.Test.YteckjgngglpcaaaGreatDoorLines3
import Derived.Test.YteckjgngglpcaaaGreatDoorInsert
import Derived.Lib.MakeNoZero
import Derived.Laws.IdiomCopy
import Derived.Lib.SlBytesConst
namespace Go.Proofs.YteckjgngglpcaaaGreatDoor
open Go.RowKit

theorem size5 : (Tryz.prog.info? 5).map (·.size) = some 1 := by kernel_rfl

theorem copy_one {W : World} {Q i n c b off k : Nat} {arr : Array Value} {x : Int} (hQ : W.heap[Q]? = some (.cells arr 5 (0, 0))) (hi : i < arr.size) (hn : 1 ≤ n) (hx : W.cell? ⟨b, off, none⟩ = some (.int .u8 x)) :
    (Builtin.copy_ #[26, 26] 3 #[.slice (some ⟨Q, i, none⟩) n c, .slice (some ⟨b, off, none⟩) 1 k]).run Tryz.prog W = .ok (.int .i64 1) (W.setCell ⟨Q, i, none⟩ (.int .u8 x)) := by
  have h := run_copy_cells (P := Tryz.prog) W 26 26 3 5 Q i n c ⟨b, off, none⟩ 1 k [.int .u8 x] Tryz.underlying26 size5 (by show 1 = min 1 n; omega)
    (fun j v hj => by
      match j, hj with
      | 0, hj => obtain rfl := Option.some.inj hj; rw [addr_add]; exact hx)
    (fun j hj => by
      obtain rfl : j = 0 := by simpa using hj
      rw [Nat.add_zero, cell_of_row W Q i _ _ _ hQ]; simp [hi])
    (fun j hj => by
      obtain rfl : j = 0 := by simpa using hj
      exact frozen_of_row W Q _ _ _ hQ)
    (fun v hv => by obtain rfl := List.mem_singleton.1 hv; rfl)
  exact h

theorem make_x (w : World) : ∃ (cs : Array Value) (q : Nat) (W1 : World), (callFunc 73 #[.int .i64 3]).run Tryz.prog w = .ok (.value (.slice (some ⟨q, 0, none⟩) 3 cs.size)) W1 ∧ 3 ≤ cs.size ∧ cs.size ≤ maxLen ∧
    W1.heap[q]? = some (.cells cs 5 (0, 0)) ∧ w.heap.size ≤ q ∧ Below w.heap.size w W1 := by
  obtain ⟨cs, hr, h1, h2⟩ := Lib.run_makeNoZero (P := Tryz.prog) w #[3] 26 5 Tryz.underlying26 3 (by omega)
  refine ⟨cs, w.heap.size, w.drew.drew.alloc (.cells cs 5), ?_, h1, h2 (by simp only [maxLen]; decide), heap_alloc_new w.drew.drew _, Nat.le_refl _, (Below.refl _ _).drew.drew.alloc (Nat.le_refl _) _⟩
  rw [run_callFunc_extern (e := Extern.BytealgMakeNoZero.makeNoZero #[3] #[26]) Tryz.func73 (by kernel_rfl) (by kernel_rfl) (by kernel_rfl) (by kernel_rfl)]
  have hr' : (Extern.BytealgMakeNoZero.makeNoZero #[3] #[26] #[.int .i64 3]).run Tryz.prog w = _ := hr
  rw [hr']
  rfl

theorem In4.beside {w w' : World} {b off q : Nat} (h : In4 w b off) (hk : Keeps (· ≠ q) w w') (hb : b ≠ q) : In4 w' b off :=
  ⟨hk.cell hb h.c0, hk.cell hb h.c1, hk.cell hb h.c2, hk.cell hb h.c3⟩

/-- One byte laid into a block of the call's own. -/
theorem laid_one {w W : World} {q i : Nat} {arr : Array Value} (hq : W.heap[q]? = some (.cells arr 5 (0, 0))) (hwq : w.heap.size ≤ q) (hB : Below w.heap.size w W) (v : Value) :
    (W.setCell ⟨q, i, none⟩ v).heap[q]? = some (.cells (arr.setIfInBounds i v) 5 (0, 0)) ∧ Below w.heap.size w (W.setCell ⟨q, i, none⟩ v) ∧ Keeps (· ≠ q) W (W.setCell ⟨q, i, none⟩ v) :=
  ⟨heap_setCell_same W q i arr 5 v hq, hB.setCell hwq v, Keeps.setCell _ (fun h => h rfl)⟩

/-- Three bytes come back in a slice without room. -/
def RetJ (w : World) (e : Ending) (w' : World) : Prop := ∃ q, e = .returned (.slice (some ⟨q, 0, none⟩) 3 3) ∧ RdB (w.heap.size ≤ ·) w' (.slice (some ⟨q, 0, none⟩) 3 3) [97, 10, 98] ∧ Below w.heap.size w w'

set_option maxRecDepth 100000 in
set_option maxHeartbeats 4000000 in
theorem join_f {w : World} {b off k g sb so sc : Nat} (h : In4 w b off) (hg : w.heap[g]? = some (.cells #[.slice (some ⟨b, off + 2, none⟩) 1 k, .slice (some ⟨b, off, none⟩) 1 1] 26 (0, 0))) (hs : w.cell? ⟨sb, so, none⟩ = some (.int .u8 10)) :
    Calls Tryz.prog 60 #[.slice (some ⟨g, 0, none⟩) 2 2, .slice (some ⟨sb, so, none⟩) 1 sc] w (RetJ w) := by
  obtain ⟨cs, q, W1, hmk, hc3, hcm, hq1, hwq, hB1⟩ := make_x w
  have x0 : w.cell? ⟨g, 0, none⟩ = some (.slice (some ⟨b, off + 2, none⟩) 1 k) := cell_of_row w g 0 _ _ _ hg
  have x1 : w.cell? ⟨g, 1, none⟩ = some (.slice (some ⟨b, off, none⟩) 1 1) := cell_of_row w g 1 _ _ _ hg
  have y0 := Keeps.below_cell hB1 x0
  have y1 := Keeps.below_cell hB1 x1
  have hs1 := Keeps.below_cell hB1 hs
  have h1 := h.below hB1
  have hgq : g ≠ q := by have := World.block_lt_of_cell? w _ x0; simp at this; omega
  have hbq : b ≠ q := by have := World.block_lt_of_cell? w _ h.c0; simp at this; omega
  have hsq : sb ≠ q := by have := World.block_lt_of_cell? w _ hs; simp at this; omega
  have hcp1 := copy_one (n := 3) (c := 3) (k := k) hq1 (show 0 < cs.size by omega) (by omega) h1.c2
  obtain ⟨hq2, hB2, hK2⟩ := laid_one (i := 0) hq1 hwq hB1 (.int .u8 97)
  obtain ⟨W2, hW2⟩ : ∃ W2, W2 = W1.setCell ⟨q, 0, none⟩ (.int .u8 97) := ⟨_, rfl⟩
  rw [← hW2] at hcp1 hq2 hB2 hK2
  have z1 := hK2.cell hgq y1
  have hcp2 := copy_one (i := 1) (n := 2) (c := 2) (k := sc) hq2 (by simp; omega) (by omega) (hK2.cell hsq hs1)
  obtain ⟨hq3, hB3, hK3⟩ := laid_one (i := 1) hq2 hwq hB2 (.int .u8 10)
  obtain ⟨W3, hW3⟩ : ∃ W3, W3 = W2.setCell ⟨q, 1, none⟩ (.int .u8 10) := ⟨_, rfl⟩
  rw [← hW3] at hcp2 hq3 hB3 hK3
  have hcp3 := copy_one (i := 2) (n := 1) (c := 1) (k := 1) hq3 (by simp; omega) (by omega) ((h1.beside hK2 hbq).beside hK3 hbq).c0
  obtain ⟨hq4, hB4, _⟩ := laid_one (i := 2) hq3 hwq hB3 (.int .u8 98)
  obtain ⟨W4, hW4⟩ : ∃ W4, W4 = W3.setCell ⟨q, 2, none⟩ (.int .u8 98) := ⟨_, rfl⟩
  rw [← hW4] at hcp3 hq4 hB4
  have hfin : RdB (w.heap.size ≤ ·) W4 (.slice (some ⟨q, 0, none⟩) 3 3) [97, 10, 98] := by
    refine ⟨_, 3, rfl, Nat.le_refl _, by simp only [maxLen]; decide, (fun h => by cases h), fun _ => ⟨q, 0, rfl, hwq, fun i hi => ?_⟩⟩
    rw [cell_of_row W4 q _ _ _ _ hq4]
    have k0 : 0 < cs.size := by omega
    have k1 : 1 < cs.size := by omega
    have k2 : 2 < cs.size := by omega
    match i, hi with
    | 0, _ => simp [k0]
    | 1, _ => simp [k1]
    | 2, _ => simp [k2]
  have C1 := Lib.hid hcp1
  have C2 := Lib.hid hcp2
  have C3 := Lib.hid hcp3
  unfold maxLen at hcm
  clear hg h hcp1 hcp2 hcp3 hq1 hq2 hq3 hq4 hW2 hW3 hW4 hB2 hB3 h1 hK2 hK3 hB1
  go_enter Tryz.func60, Tryz.ntmps60
  go_wp2
  refine wp_loop_rounds 3 ?_
  rw [rounds_succ]
  go_wp2
  rw [rounds_succ]
  go_wp2
  rw [rounds_succ]
  go_wp2_with (with_reducible refine at_op (o := ⟨some 68, _, _, _, _, _⟩) ?_)
  refine wpList_copy_run _ rfl (.tmp 64) (.tmp 67) 26 26 rfl _ _ rfl rfl _ _ C1.out ?_
  go_wp2
  refine wp_loop_rounds 2 ?_
  rw [rounds_succ]
  go_wp2_with (with_reducible refine at_op (o := ⟨some 81, _, _, _, _, _⟩) ?_)
  refine wpList_copy_run _ rfl (.tmp 79) (.tmp 80) 26 26 rfl _ _ rfl rfl _ _ C2.out ?_
  go_wp2_with (with_reducible refine at_op (o := ⟨some 88, _, _, _, _, _⟩) ?_)
  refine wpList_copy_run _ rfl (.tmp 86) (.tmp 87) 26 26 rfl _ _ rfl rfl _ _ C3.out ?_
  go_wp2
  rw [rounds_succ]
  go_wp2
  go_ret
  exact ⟨_, rfl, hfin, hB4⟩

/-- A byte behind three, in a row without room. -/
theorem run_append_full {w : World} {q g : Nat} {B : Nat} (h : RdB (B ≤ ·) w (.slice (some ⟨q, 0, none⟩) 3 3) [97, 10, 98]) (hs : w.cell? ⟨g, 0, none⟩ = some (.int .u8 10)) (hB : B ≤ w.heap.size) :
    ∃ v' w', (Builtin.append_ #[26, 26] 26 #[.slice (some ⟨q, 0, none⟩) 3 3, .slice (some ⟨g, 0, none⟩) 1 1]).run Tryz.prog w = .ok v' w' ∧ RdB (B ≤ ·) w' v' [97, 10, 98, 10] ∧ Below w.heap.size w w' := by
  obtain ⟨i0, hi, hz0, hz1, hz2⟩ := info_parts info5
  obtain ⟨a, cap, e, _, _, _, h4⟩ := h
  obtain ⟨q', o', e1, _, hc⟩ := h4 (by simp)
  subst e1
  simp only [Value.slice.injEq, Option.some.injEq, Addr.mk.injEq, and_true] at e
  obtain ⟨⟨rfl, rfl⟩, _, _⟩ := e
  have hr := run_append_grow (P := Tryz.prog) w 26 26 5 i0 _ Tryz.underlying26 hi hz0 ⟨q, 0, none⟩ 3 3 [.int .u8 97, .int .u8 10, .int .u8 98] (by rw [hz1]; rfl)
    (fun j v hj => by
      rw [addr_add]
      match j, hj with
      | 0, hj => obtain rfl := Option.some.inj hj; exact hc 0 (by simp)
      | 1, hj => obtain rfl := Option.some.inj hj; exact hc 1 (by simp)
      | 2, hj => obtain rfl := Option.some.inj hj; exact hc 2 (by simp))
    ⟨g, 0, none⟩ 1 1 [.int .u8 10] (by rw [hz1]; rfl)
    (fun j v hj => by
      rw [addr_add]
      match j, hj with
      | 0, hj => obtain rfl := Option.some.inj hj; exact hs)
    (by omega) (by decide) (by rw [hz2]; decide)
  refine ⟨_, _, hr, ?_, (Below.refl _ _).drew.alloc (Nat.le_refl _) _⟩
  refine ⟨_, _, rfl, grownCap_ge _ _ _ _, grownCap_le_maxLen _ _ _ _ (by simp only [maxLen]; decide), (fun h => by cases h), fun _ => ⟨w.heap.size, 0, rfl, hB, fun i hi => ?_⟩⟩
  rw [cell_of_row _ w.heap.size _ _ _ _ (heap_alloc_new w.drew _)]
  match i, hi with
  | 0, _ => simp [Array.getElem?_append]
  | 1, _ => simp [Array.getElem?_append]
  | 2, _ => simp [Array.getElem?_append]
  | 3, _ => simp [Array.getElem?_append]

theorem marked_cell (w : World) : (w.alloc (.cells #[.int .u8 10] 5 (1, 2))).cell? ⟨w.heap.size, 0, none⟩ = some (.int .u8 10) := World.cell?_alloc_mark w _ 5 _ 0

theorem marked_rd (w : World) : RdB (fun _ => True) (w.alloc (.cells #[.int .u8 10] 5 (1, 2))) (.slice (some ⟨w.heap.size, 0, none⟩) 1 1) [10] :=
  In4.one (c := 10) (marked_cell w) (Nat.le_refl _) (by simp only [maxLen]; decide)

set_option maxRecDepth 100000 in
set_option maxHeartbeats 4000000 in
theorem sorted_f {P : Nat → Prop} {w : World} {v : Value} (h : RdB P w v [98, 10, 97, 10]) : Calls Tryz.prog 47 #[v] w (RetB [97, 10, 98, 10] w) := by
  obtain ⟨a, cap, e, hc, hm, _, h4⟩ := h
  obtain ⟨b, off, e1, _, hcs⟩ := h4 (by simp)
  subst e1
  obtain rfl : v = .slice (some ⟨b, off, none⟩) 4 cap := e
  have h4 : In4 w b off := ⟨hcs 0 (by simp), hcs 1 (by simp), hcs 2 (by simp), hcs 3 (by simp)⟩
  have hc4 : 4 ≤ cap := hc
  clear hcs hc
  have kc := fun (w : World) (C : Array Value) (n c : Nat) => Lib.run_convert_bytes_const (P := Tryz.prog) w 26 5 C n c Tryz.underlying26 Tryz.underlying5
  have hm0 := hm
  unfold maxLen at hm0
  have hBm : ∀ W : World, Below W.heap.size W (W.alloc (.cells #[.int .u8 10] 5 (1, 2))) := fun W => (Below.refl _ _).alloc (Nat.le_refl _) _
  have HBm := Lib.hid hBm
  have H4 := Lib.hid h4
  clear h4 hBm
  go_enter Tryz.func47, Tryz.ntmps47
  go_wp2_with fail
  refine (cutSuffix_f (H4.out.below (HBm.out w)) hc4 hm (marked_rd w)).mono ?_
  rintro e w1 ⟨rfl, rfl⟩
  have hB1 := HBm.out w
  generalize w.alloc (.cells #[.int .u8 10] 5 (1, 2)) = W1 at *
  go_wp2_with fail
  have hBa := Below.then hB1 (HBm.out W1)
  refine (split_f (H4.out.below hBa) hc4 hm (marked_rd _)).mono ?_
  rintro e w2 ⟨g, rfl, hgw, hg, hB2⟩
  have hB2' := Below.then hBa hB2
  go_wp2_with fail
  refine (sort_f (H4.out.below hB2') (show 1 ≤ cap - 2 by omega) (by omega) hg).mono ?_
  rintro e w3 ⟨rfl, hg3, hV3⟩
  have hB3' : Below w.heap.size w w3 := hV3.lower hB2' (by have := hBa.size; omega) hB2'.size
  have Hg3 := Lib.hid hg3
  clear hg hg3
  go_wp2_with fail
  have hB4 := Below.then hB3' (HBm.out w3)
  have hglt : g < w3.heap.size := (Array.getElem?_eq_some_iff.1 Hg3.out).1
  refine (join_f (H4.out.below hB4) (((HBm.out w3).block g hglt).trans Hg3.out) (marked_cell w3)).mono ?_
  rintro e w5 ⟨q, rfl, hr5, hB5⟩
  have hB5' := Below.then hB4 hB5
  have hBn := (Below.refl w5.heap.size w5).alloc (Nat.le_refl _) (Obj.cells #[.int .u8 10] 5)
  obtain ⟨v', w', hr, hr6, hB6⟩ := run_append_full (g := w5.heap.size) (hr5.keeps (Keeps.below hBn)) (by simp) (by simp; have := hB5.size; simp at this; omega)
  have Hr := Lib.hid hr
  have Hr6 := Lib.hid hr6
  have HB6 := Lib.hid (Below.then (Below.then hB5' hBn) hB6)
  clear hr hr6 hr5
  go_wp2_with (with_reducible refine at_op (o := ⟨some 30, _, _, _, _, _⟩) ?_)
  refine Lib.wpList_append_run _ rfl (.tmp 28) (.tmp 29) 26 26 rfl _ _ rfl rfl _ _ Hr.out ?_
  go_wp2
  go_ret
  exact ⟨v', rfl, Hr6.out.mono fun b hb => Nat.le_trans hB4.size hb, HB6.out⟩
end Go.Proofs.YteckjgngglpcaaaGreatDoor
