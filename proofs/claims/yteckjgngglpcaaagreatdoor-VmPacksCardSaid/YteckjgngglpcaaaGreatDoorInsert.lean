/-
  slices.Insert of one file.
-/
import Derived.Test.YteckjgngglpcaaaGreatDoorIns2
import Derived.StillTailTactics
namespace Go.Proofs.YteckjgngglpcaaaGreatDoor
open Go.RowKit

theorem wpList_copy_run {P : Program} (w : World) {ops : Array Oper} {rest : List Oper} {o : Oper} {a : Act} {Q : Exit → Act → World → Prop} (hgd : o.guard = none) (s x : Operand) (t tn : TypeId)
    (ho : o.op = .call { callee := .builtin .copy, args := #[s, x], argTypes := #[t, tn] }) (vs vx : Value) (hs : a.eval s = vs) (hx : a.eval x = vx)
    (v' : Value) (w' : World) (hr : (Builtin.copy_ #[t, tn] o.type #[vs, vx]).run P w = .ok v' w') (h : wpList P ops Q rest (a.put o.dst v') w') : wpList P ops Q (o :: rest) a w := by
  refine wpList_plain hgd fun K hK => ?_
  unfold Oper.wp execOp
  simp only [ho, resolve, invoke, builtin, Sem.run_bind, Sem.run_pure, Result.andThen_ok, List.map_toArray, List.map_cons, List.map_nil, hs, hx, hr]
  exact hK _ _ h

/-- One file in a slice of its own. -/
theorem one_file {w : World} {vb : Nat} {f : Fi} {bvv : Value} {R' : Nat → Prop} (hx : w.heap[vb]? = some (.cells #[.string f.p, bvv] 28 (0, 0))) (hpm : f.p.size ≤ maxLen) (hbv : RdB R' w bvv f.b) :
    RdT (· = vb) R' w (.slice (some ⟨vb, 0, none⟩) 1 1) [f] := by
  refine ⟨_, 1, rfl, Nat.le_refl _, by simp only [maxLen]; decide, (fun h => by cases h), fun _ => ⟨vb, 0, rfl, rfl, fun i hi => ?_⟩⟩
  obtain rfl : i = 0 := by simpa using hi
  refine ⟨?_, hpm, bvv, ?_, hbv⟩
  · rw [cell_of_row w vb _ _ 28 (0, 0) hx]; rfl
  · rw [cell_of_row w vb _ _ 28 (0, 0) hx]; rfl

/-- A row comes back in memory that is the call's own from a base on. -/
def RetI (base : Nat) (R : Nat → Prop) (t : List Fi) (w : World) (e : Ending) (w' : World) : Prop := ∃ v, e = .returned v ∧ OwnT base R w' v t ∧ Below base w w'

set_option maxRecDepth 100000 in
set_option maxHeartbeats 1000000 in
theorem insert_end {w : World} {base : Nat} {R R' : Nat → Prop} {v : Value} {t : List Fi} (h : OwnT base R w v t) (hbase : base ≤ w.heap.size) {f : Fi} {vb : Nat} (hx : RdT (· = vb) R' w (.slice (some ⟨vb, 0, none⟩) 1 1) [f])
    (hR' : ∀ b, R' b → some b ≠ v.ownBlock) (hl : t.length ≤ 100) :
    Calls Tryz.prog 64 #[v, .int .i64 t.length, .slice (some ⟨vb, 0, none⟩) 1 1] w (RetI base (fun b => R b ∨ R' b) (t ++ [f]) w) := by
  obtain ⟨v', w', hr, ho, hg, hb⟩ := run_append_files h hx hR' (by simp; omega) hbase 23
  rw [← append_types] at hr
  have hB : Below base w w' := below_own hg hbase (fun k hk => (h.block k hk).1)
  rcases h.shape with ⟨rfl, rfl⟩ | ⟨g, cap, rfl, hbg, hglt, hc, hm, _⟩
  · have Ho := Lib.hid ho
    have Hr := Lib.hid hr
    clear ho hb hR' hg hr hl hx
    show Calls Tryz.prog 64 #[.slice none 0 0, .int .i64 0, .slice (some ⟨vb, 0, none⟩) 1 1] w _
    go_enter Tryz.func64, Tryz.ntmps64
    go_wp2_with (with_reducible refine at_op (o := ⟨some 25, _, _, _, _, _⟩) ?_)
    refine Lib.wpList_append_run _ rfl (.tmp 23) (.tmp 24) 23 22 rfl _ _ rfl rfl _ _ Hr.out ?_
    go_wp2
    go_ret
    exact ⟨_, rfl, Ho.out, hB⟩
  · have Ho := Lib.hid ho
    have Hr := Lib.hid hr
    unfold maxLen at hm
    clear ho hb hR' hr
    by_cases hcl : cap = t.length
    · subst hcl
      go_enter Tryz.func64, Tryz.ntmps64
      go_wp2_with (with_reducible refine at_op (o := ⟨some 25, _, _, _, _, _⟩) ?_)
      refine Lib.wpList_append_run _ rfl (.tmp 23) (.tmp 24) 23 22 rfl _ _ rfl rfl _ _ Hr.out ?_
      go_wp2
      go_ret
      exact ⟨_, rfl, Ho.out, hB⟩
    · go_enter Tryz.func64, Tryz.ntmps64
      go_wp2_with (with_reducible refine at_op (o := ⟨some 25, _, _, _, _, _⟩) ?_)
      refine Lib.wpList_append_run _ rfl (.tmp 23) (.tmp 24) 23 22 rfl _ _ rfl rfl _ _ Hr.out ?_
      go_wp2
      go_ret
      exact ⟨_, rfl, Ho.out, hB⟩

theorem OwnT.drew {base : Nat} {R : Nat → Prop} {w : World} {v : Value} {t : List Fi} (h : OwnT base R w v t) : OwnT base R w.drew v t := h.keeps Keeps.drew

theorem RdT.drew {P R : Nat → Prop} {w : World} {v : Value} {t : List Fi} (h : RdT P R w v t) : RdT P R w.drew v t := h.keeps Keeps.drew Keeps.drew

set_option maxRecDepth 100000 in
set_option maxHeartbeats 2000000 in
theorem insert_grow {w : World} {base : Nat} {R R' : Nat → Prop} {g cap : Nat} {t : List Fi} (h : OwnT base R w (.slice (some ⟨g, 0, none⟩) t.length cap) t) (hbase : base ≤ w.heap.size) {f : Fi} {vb : Nat} (hx : RdT (· = vb) R' w (.slice (some ⟨vb, 0, none⟩) 1 1) [f])
    (hl : t.length ≤ 100) {i : Nat} (hi : i < t.length) (hcap : cap < t.length + 1) :
    Calls Tryz.prog 64 #[.slice (some ⟨g, 0, none⟩) t.length cap, .int .i64 i, .slice (some ⟨vb, 0, none⟩) 1 1] w (RetI base (fun b => R b ∨ R' b) (t.take i ++ f :: t.drop i) w) := by
  obtain ⟨w2, cap2, hr2, ho2, hg2⟩ := run_zeros h hbase (i := i) (k := t.length + 1 - i) (by omega) (by omega) (by omega) (by omega) 23
  rw [show i + (t.length + 1 - i) = t.length + 1 by omega] at hr2 ho2
  have hbg := (h.block g rfl).1
  rcases h.shape with ⟨hv, _⟩ | ⟨g', cap', hv, _, hglt, hle, hm, _⟩
  · cases hv
  simp only [Value.slice.injEq, Option.some.injEq, Addr.mk.injEq, and_true, true_and] at hv
  obtain ⟨rfl, rfl⟩ := hv
  have hsz : w.heap.size ≤ w2.heap.size := hg2.size
  have hlen2 : (t.take i ++ List.replicate (t.length + 1 - i) noFi).length = t.length + 1 := by simp; omega
  rcases ho2.shape with ⟨hv, _⟩ | ⟨g'', cap'', hv, _, hglt2, hle2, hm2, _⟩
  · cases hv
  simp only [Value.slice.injEq, Option.some.injEq, Addr.mk.injEq, and_true] at hv
  obtain ⟨rfl, -, rfl⟩ := hv
  rw [hlen2] at hle2
  have hx2 : RdT (fun b => b = vb ∧ b < w.heap.size) (fun b => R' b ∧ b < w.heap.size) w2 (.slice (some ⟨vb, 0, none⟩) 1 1) [f] :=
    hx.lt.keeps (fun b _ hlt => hg2.block b hlt (by simp)) (fun b _ hlt => hg2.block b hlt (by simp))
  obtain ⟨w3, hr3, ho3, hg3⟩ := run_copy_files ho2 hlen2.symm hx2 (fun b hb e => by have := hb.2; omega) (i := i) (k := 1) (dLen := t.length + 1 - i) (dCap := cap2 - i) (da := some ⟨w.heap.size, i * 2, none⟩) (dT := 23) (sT := 22)
    (by simp; omega) (by omega) (fun _ => rfl) Tryz.underlying23 3
  have e3 : (t.take i ++ List.replicate (t.length + 1 - i) noFi).take i ++ [f].take 1 ++ (t.take i ++ List.replicate (t.length + 1 - i) noFi).drop (i + 1) = t.take i ++ f :: List.replicate (t.length - i) noFi := by
    rw [List.take_append_of_le_length (by simp; omega), List.take_take, show min i i = i by omega, List.drop_append, List.drop_eq_nil_of_le (by simp; omega), List.drop_replicate]
    simp
    omega
  rw [e3] at ho3
  have hd2 : RdT (· = g) (fun b => R b ∧ b ≠ g) w (.slice (some ⟨g, i * 2, none⟩) (t.length - i) (cap - i)) (t.drop i) := h.drop rfl i hi rfl
  have hd3 := (hd2.lt.keeps (w' := w2) (fun b _ hlt => hg2.block b hlt (by simp)) (fun b _ hlt => hg2.block b hlt (by simp))).keeps (w' := w3) (fun b hb hlt => hg3.block b hlt (fun e => by have := hb.2; have := Option.some.inj e; omega)) (fun b hb hlt => hg3.block b hlt (fun e => by have := hb.2; have := Option.some.inj e; omega))
  obtain ⟨w4, hr4, ho4, hg4⟩ := run_copy_files ho3.drew (by simp; omega) hd3.drew (fun b hb e => by have := hb.2; omega) (i := i + 1) (k := t.length - i) (dLen := t.length - i) (dCap := cap2 - (i + 1)) (da := some ⟨w.heap.size, (i + 1) * 2, none⟩) (dT := 23) (sT := 23)
    (by simp) (by simp; omega) (fun _ => rfl) Tryz.underlying23 3
  have e4 : (t.take i ++ f :: List.replicate (t.length - i) noFi).take (i + 1) ++ (t.drop i).take (t.length - i) ++ (t.take i ++ f :: List.replicate (t.length - i) noFi).drop (i + 1 + (t.length - i)) = t.take i ++ f :: t.drop i := by
    have h1 : (t.take i ++ f :: List.replicate (t.length - i) noFi).length = t.length + 1 := by simp; omega
    have h2 : (t.take i).length = i := by simp; omega
    have q1 : (t.take i ++ f :: List.replicate (t.length - i) noFi).drop (i + 1 + (t.length - i)) = [] := List.drop_of_length_le (by rw [h1]; omega)
    have q2 : (t.take i ++ f :: List.replicate (t.length - i) noFi).take (i + 1) = t.take i ++ [f] := by
      rw [List.take_append, h2, List.take_of_length_le (show (t.take i).length ≤ i + 1 by rw [h2]; omega), show i + 1 - i = 1 by omega]
      rfl
    have q3 : (t.drop i).take (t.length - i) = t.drop i := List.take_of_length_le (by rw [List.length_drop]; exact Nat.le_refl _)
    rw [q1, q2, q3]
    simp
  rw [e4] at ho4
  have Hr2 := Lib.hid hr2
  have Hr3 := Lib.hid hr3
  have Hr4 := Lib.hid hr4
  have HB : Hid (Below base w w4) := ((below_own hg2 hbase (fun _ h => by cases h)).trans (below_own hg3 (by omega) (fun k hk => by have := Option.some.inj hk; omega))).drew.trans (below_own hg4 (by have := hg3.size; simp; omega) (fun k hk => by have := Option.some.inj hk; omega))
  have Ho4 := Lib.hid (ho4.mono (R' := fun b => R b ∨ R' b) fun b hb => by rcases hb with (hb | hb) | hb; exact Or.inl hb; exact Or.inr hb.1; exact Or.inl hb.1.1)
  unfold maxLen at hm hm2
  clear hr2 hr3 hr4 e3 e4 ho2 ho3 ho4 hg2 hg3 hg4 hd2 hd3 hx2 hx h hlen2
  go_enter Tryz.func64, Tryz.ntmps64
  go_wp2_with (with_reducible refine at_op (o := ⟨some 40, _, _, _, _, _⟩) ?_)
  refine Lib.wpList_append_run _ rfl (.tmp 34) (.tmp 39) 23 3 rfl _ _ (hx := (show _ = Value.int .i64 ((t.length + 1 - i : Nat) : Int) from by simp [Act.eval]; omega)) rfl _ _ Hr2.out ?_
  go_wp2_with (with_reducible refine at_op (o := ⟨some 45, _, _, _, _, _⟩) ?_)
  refine wpList_copy_run _ rfl (.tmp 43) (.tmp 44) 23 22 rfl _ _ rfl rfl _ _ Hr3.out ?_
  go_wp2_with fail
  have hw1 : IntKind.i64.wrap ((i : Int) + 1) = (i : Int) + 1 := by rw [IntKind.wrap_i64]; omega
  have hb1 : (0 : Int) ≤ (i : Int) + 1 := by omega
  have htn : ((i : Int) + 1).toNat = i + 1 := by omega
  have hb2 : ¬ (cap2 = i + 1) := by omega
  have hb3 : (i : Int) + 1 ≤ (t.length : Int) + 1 := by omega
  have hb4 : ¬ (cap = i) := by omega
  have hb5 : (i : Int) ≤ (t.length : Int) := by omega
  go_still_tail 8, (by kernel_rfl)
  change wpList _ _ _ _ _ w3.drew
  refine wpList_copy_run _ rfl (.tmp 50) (.tmp 53) 23 23 rfl _ _ rfl rfl _ _ Hr4.out ?_
  go_wp2
  go_ret
  exact ⟨_, rfl, Ho4.out, HB.out⟩

theorem size28 : ∀ w : World, (Go.sizeOf 28).run Tryz.prog w = .ok 2 w := by
  intro w
  obtain ⟨i0, hi0, _, hz1, _⟩ := info_parts info28
  simp [sizeOf, typeInfo, hi0, hz1]

theorem overlaps_no {w : World} {vb : Nat} {x y : Value} (hx : w.heap[vb]? = some (.cells #[x, y] 28 (0, 0))) {g : Nat} {cur : Array Value} (hg : w.heap[g]? = some (.cells cur 28 (0, 0))) (hne : vb ≠ g) (hc : cur.size ≠ 0) (o lb cb : Nat) :
    (callFunc 77 #[.slice (some ⟨vb, 0, none⟩) 1 1, .slice (some ⟨g, o, none⟩) lb cb]).run Tryz.prog w = .ok (.value (.bool false)) w := by
  rw [run_callFunc_extern Tryz.func77 (by kernel_rfl) (by kernel_rfl) (by kernel_rfl) (e := Extern.SlicesOverlaps.overlaps #[22, 22] #[4]) (by kernel_rfl),
    Lib.run_overlaps_apart w 22 4 28 Tryz.underlying22 2 size28 ⟨vb, 0, none⟩ ⟨g, o, none⟩ 1 1 lb cb hne 28 28 2 cur.size (by simp [World.shape?, hx]) (by simp [World.shape?, hg]) hc (by simp [World.frozen?, hx]) (by simp [World.frozen?, hx])]
  rfl

set_option maxRecDepth 100000 in
set_option maxHeartbeats 2000000 in
theorem insert_room {w : World} {base : Nat} {R R' : Nat → Prop} {g cap : Nat} {t : List Fi} (h : OwnT base R w (.slice (some ⟨g, 0, none⟩) t.length cap) t) {f : Fi} {vb : Nat} {bvv : Value} (hx0 : w.heap[vb]? = some (.cells #[.string f.p, bvv] 28 (0, 0)))
    (hx : RdT (· = vb) R' w (.slice (some ⟨vb, 0, none⟩) 1 1) [f]) (hne : vb ≠ g) (hR' : ∀ b, R' b → b ≠ g) (hl : t.length ≤ 100) {i : Nat} (hi : i < t.length) (hcap : t.length + 1 ≤ cap) :
    Calls Tryz.prog 64 #[.slice (some ⟨g, 0, none⟩) t.length cap, .int .i64 i, .slice (some ⟨vb, 0, none⟩) 1 1] w (RetI base (fun b => R b ∨ R' b) (t.take i ++ f :: t.drop i) w) := by
  have hbg := h.block g rfl
  have hm : cap ≤ maxLen := by
    rcases h.shape with ⟨hv, _⟩ | ⟨g', cap', hv, _, _, _, hm, _⟩
    · cases hv
    · simp only [Value.slice.injEq, Option.some.injEq, Addr.mk.injEq, and_true, true_and] at hv
      obtain ⟨rfl, rfl⟩ := hv
      exact hm
  obtain ⟨cur, hg, hcs⟩ : ∃ cur, w.heap[g]? = some (.cells cur 28 (0, 0)) ∧ cur.size ≠ 0 := by
    obtain ⟨es, _, ho, _⟩ := h
    rcases ho.2 with ⟨hv, _⟩ | ⟨g', cap', cur, hv, _, hg, _, _, hcs, _⟩
    · cases hv
    · simp only [Value.slice.injEq, Option.some.injEq, Addr.mk.injEq, and_true, true_and] at hv
      obtain ⟨rfl, rfl⟩ := hv
      exact ⟨cur, hg, by omega⟩
  have hov := fun o lb cb => overlaps_no hx0 hg hne hcs o lb cb
  obtain ⟨w1, hr1, ho1, hg1⟩ := run_shift h.drew hi hcap (d := t.length - i) (s := t.length + 1 - i) (dc := cap - (i + 1)) (sc := cap - i) rfl rfl 3
  have hlen1 : (t.take (i + 1) ++ t.drop i).length = t.length + 1 := by simp; omega
  have hx1 : RdT (· = vb) R' w1 (.slice (some ⟨vb, 0, none⟩) 1 1) [f] := (hx.drew).keeps (fun b hb hlt => hg1.block b hlt (fun e => hne (by have := Option.some.inj e; omega))) (fun b hb hlt => hg1.block b hlt (fun e => hR' b hb (Option.some.inj e)))
  obtain ⟨w2, hr2, ho2, hg2⟩ := run_copy_files ho1 hlen1.symm hx1 hR' (i := i) (k := 1) (dLen := t.length + 1 - i) (dCap := cap - i) (da := some ⟨g, i * 2, none⟩) (dT := 23) (sT := 22) (by simp; omega) (by omega) (fun _ => rfl) Tryz.underlying23 3
  have e2 : (t.take (i + 1) ++ t.drop i).take i ++ [f].take 1 ++ (t.take (i + 1) ++ t.drop i).drop (i + 1) = t.take i ++ f :: t.drop i := by
    have h2 : (t.take (i + 1)).length = i + 1 := by simp; omega
    have q1 : (t.take (i + 1) ++ t.drop i).take i = t.take i := by rw [List.take_append_of_le_length (by rw [h2]; omega), List.take_take, show min i (i + 1) = i by omega]
    have q2 : (t.take (i + 1) ++ t.drop i).drop (i + 1) = t.drop i := List.drop_left' h2
    rw [q1, q2]
    simp
  rw [e2] at ho2
  have Hr1 := Lib.hid hr1
  have Hr2 := Lib.hid hr2
  have HB : Hid (Below base w w2) := ((Below.refl base w).drew.trans (below_own hg1 (by simp; omega) (fun k hk => by have := Option.some.inj hk; omega))).trans (below_own hg2 (by have := hg1.size; simp at this; omega) (fun k hk => by have := Option.some.inj hk; omega))
  have Ho2 := Lib.hid ho2
  unfold maxLen at hm
  obtain ⟨hbg1, hbg2⟩ := hbg
  clear hr1 hr2 ho1 ho2 hg1 hg2 hx1 hx h hR' hlen1 e2 hx0 hg
  go_enter Tryz.func64, Tryz.ntmps64
  go_wp2_with (simp only [hov])
  have hw1 : IntKind.i64.wrap ((i : Int) + 1) = (i : Int) + 1 := by rw [IntKind.wrap_i64]; omega
  have hb1 : (0 : Int) ≤ (i : Int) + 1 := by omega
  have htn : ((i : Int) + 1).toNat = i + 1 := by omega
  have hb2 : ¬ (cap = i + 1) := by omega
  have hb3 : (i : Int) + 1 ≤ (t.length : Int) + 1 := by omega
  have hb4 : ¬ (cap = i) := by omega
  have hb5 : (i : Int) ≤ (t.length : Int) + 1 := by omega
  go_still_tail 8, (by kernel_rfl)
  change wpList _ _ _ _ _ w.drew
  refine wpList_copy_run _ rfl (.tmp 73) (.tmp 76) 23 23 rfl _ _ rfl rfl _ _ Hr1.out ?_
  go_wp2_with (with_reducible refine at_op (o := ⟨some 82, _, _, _, _, _⟩) ?_)
  refine wpList_copy_run _ rfl (.tmp 80) (.tmp 81) 23 22 rfl _ _ rfl rfl _ _ Hr2.out ?_
  go_wp2
  go_ret
  exact ⟨_, rfl, Ho2.out, HB.out⟩

end Go.Proofs.YteckjgngglpcaaaGreatDoor
