/-
  Packing: the files below a directory, none left out, as bytes.
-/
import Derived.Test.YteckjgngglpcaaaGreatDoorVmPut
namespace Go.Proofs.YteckjgngglpcaaaGreatDoor
open Go.RowKit

set_option maxHeartbeats 1000000 in
theorem leave_f {w : World} {d p but : ByteArray} {A B : Addr} {ba : Option Addr} {bl bc : Nat} (hA : w.cell? A = some (.string d)) (hB : w.cell? B = some (.string but)) (hAs : A.spot = none) (hBs : B.spot = none)
    (hd : d.size ≤ 60) (hp : p.size ≤ 60) (hne : (d ++ slash ++ p).toList ≠ but.toList) :
    Calls Tryz.prog 62 #[.agg #[.string p, .slice ba bl bc], .pointer (some A), .pointer (some B)] w fun e w' => e = .returned (.bool false) ∧ Below w.heap.size w w' := by
  obtain ⟨Ab, Ao, As⟩ := A
  obtain ⟨Bb, Bo, Bs⟩ := B
  subst hAs hBs
  have hA1 := Keeps.below_cell ((Below.refl _ _).alloc (Nat.le_refl _) (Obj.cells #[.string p, .slice ba bl bc] 28)) hA
  have hB1 := Keeps.below_cell ((Below.refl _ _).alloc (Nat.le_refl _) (Obj.cells #[.string p, .slice ba bl bc] 28)) hB
  go_enter Tryz.func62, Tryz.ntmps62
  go_wp2
  go_ret
  exact ⟨congrArg (fun b => Ending.returned (.bool b)) (beq_eq_false_iff_ne.2 hne), (Below.refl _ _).alloc (Nat.le_refl _) _⟩

set_option maxHeartbeats 1000000 in
theorem indexFunc_f {P R : Nat → Prop} {w : World} {v : Value} {t : List Fi} (hv : RdT P R w v t) (hl : t.length ≤ 100) (hps : ∀ f ∈ t, f.p.size ≤ 60) {d but : ByteArray} {A B : Addr} (hA : w.cell? A = some (.string d)) (hB : w.cell? B = some (.string but)) (hAs : A.spot = none) (hBs : B.spot = none)
    (hd : d.size ≤ 60) (hne : ∀ f ∈ t, (d ++ slash ++ f.p).toList ≠ but.toList) :
    Calls Tryz.prog 74 #[v, .func (.func 62) #[] #[.pointer (some A), .pointer (some B)]] w fun e w' => e = .returned (.int .i64 (-1)) ∧ Below w.heap.size w w' := by
  obtain ⟨aa, ca, rfl, _, hma⟩ := hv.shape
  unfold maxLen at hma
  have HA := Lib.hid hA
  have HB := Lib.hid hB
  clear hA hB
  go_enter Tryz.func74, Tryz.ntmps74
  go_wp2
  go_loopw [8] (fun i wr => ∃ k : Nat, k ≤ t.length ∧ i = .int .i64 k ∧ Below w.heap.size w wr) (fun i _ => t.length - (intOf i).toNat)
  case atStart => exact ⟨0, by omega, rfl, Below.refl _ _⟩
  case round =>
    obtain ⟨k, hk, rfl, hBl⟩ := hrel
    have hv' := hv.keeps (Keeps.below hBl) (Keeps.below hBl)
    by_cases hlt : k < t.length
    · obtain ⟨b1, off1, cap1, e1, _, _, hb1, hc1⟩ := hv'.at (by omega)
      simp only [Value.slice.injEq] at e1
      obtain ⟨rfl, -, rfl⟩ := e1
      obtain ⟨c1, _, u1, d1, hu1⟩ := hc1 k hlt
      obtain ⟨x1, y1, rfl, _, _⟩ := hu1.shape
      have hmem := List.getElem_mem hlt
      clear hc1
      obtain ⟨Ab, Ao, As⟩ := A
      obtain ⟨Bb, Bo, Bs⟩ := B
      subst hAs hBs
      go_wp2_with fail
      refine (leave_f (Keeps.below_cell hBl HA.out) (Keeps.below_cell hBl HB.out) rfl rfl hd (hps _ hmem) (hne _ hmem)).mono ?_
      rintro e w1 ⟨rfl, hB1⟩
      go_wp2
      go_roundw
      case rel => exact ⟨k + 1, by omega, by go_num, Below.then hBl hB1⟩
      case measure => simp [intOf]; omega
    · go_wp2
      go_ret
      exact ⟨rfl, hBl⟩

set_option maxHeartbeats 1000000 in
theorem deleteFunc_f {P R : Nat → Prop} {w : World} {v : Value} {t : List Fi} (hv : RdT P R w v t) (hl : t.length ≤ 100) (hps : ∀ f ∈ t, f.p.size ≤ 60) {d but : ByteArray} {A B : Addr} (hA : w.cell? A = some (.string d)) (hB : w.cell? B = some (.string but)) (hAs : A.spot = none) (hBs : B.spot = none)
    (hd : d.size ≤ 60) (hne : ∀ f ∈ t, (d ++ slash ++ f.p).toList ≠ but.toList) :
    Calls Tryz.prog 61 #[v, .func (.func 62) #[] #[.pointer (some A), .pointer (some B)]] w fun e w' => e = .returned v ∧ Below w.heap.size w w' := by
  have hix := indexFunc_f hv hl hps hA hB hAs hBs hd hne
  obtain ⟨aa, ca, rfl, _, hma⟩ := hv.shape
  go_enter Tryz.func61, Tryz.ntmps61
  go_wp2_with fail
  refine hix.mono ?_
  rintro e w1 ⟨rfl, hB1⟩
  go_wp2
  go_ret
  exact ⟨rfl, hB1⟩

/-- Three cells that stand, and what was there. -/
theorem keep3 {w1 W W' : World} {a b c : Addr} {va vb vc : Value} (h : W.cell? a = some va ∧ W.cell? b = some vb ∧ W.cell? c = some vc ∧ Below w1.heap.size w1 W) (ha : a.spot = none) (hb : b.spot = none) (hc : c.spot = none) (hB : Below W.heap.size W W') :
    W'.cell? a = some va ∧ W'.cell? b = some vb ∧ W'.cell? c = some vc ∧ Below w1.heap.size w1 W' := by
  obtain ⟨aa, ao, ap⟩ := a
  obtain ⟨ba, bo, bp⟩ := b
  obtain ⟨ca, co, cp⟩ := c
  subst ha hb hc
  exact ⟨Keeps.below_cell hB h.1, Keeps.below_cell hB h.2.1, Keeps.below_cell hB h.2.2.1, Below.then h.2.2.2 hB⟩

set_option maxHeartbeats 2000000 in
theorem pack_f {X fuel : Nat} {s : VM} {w : World} (h : Run X w fuel s) (hT : TOK s.t) (hz : szs s.t ≤ 4000) {d but : ByteArray} (hd : POK d) (hTb : TOK (belowF d s.t)) (hzb : szs (belowF d s.t) ≤ 4000)
    (hne : ∀ f ∈ belowF d s.t, (d ++ slash ++ f.p).toList ≠ but.toList) :
    Calls Tryz.prog 48 #[.pointer (some ⟨X, 0, none⟩), .string d, .string but] w (RetB (rawL (belowF d s.t)) w) := by
  have hmf : ∀ (fn : Fn) (first cap : Array Value) (w : World), (Instr.makeFunc fn first cap).run Tryz.prog w = .ok (.func fn first cap) w := fun _ _ _ _ => rfl
  have hlt := h.lt
  obtain ⟨v, hX, ht⟩ := h
  have c0 : w.cell? ⟨X, 0, none⟩ = some v := cell_of_row w X 0 _ 50 (0, 0) hX
  obtain ⟨a, cap, e, _, _⟩ := ht.shape
  subst e
  have hdhi := hd.hi
  have hb60 : ∀ f ∈ belowF d s.t, f.p.size ≤ 60 := fun f hf => by have := (hTb.all f hf).1.hi; omega
  have hb16 := hTb.len
  clear hX
  go_enter Tryz.func48, Tryz.ntmps48
  go_wp2_with fail
  obtain ⟨W1, hW1⟩ : ∃ W1, W1 = (w.alloc (Obj.cells #[.string d] 9)).alloc (Obj.cells #[.string but] 9) := ⟨_, rfl⟩
  have hB1 : Below w.heap.size w W1 := by rw [hW1]; exact ((Below.refl _ _).alloc (Nat.le_refl _) _).alloc (by simp) _
  have cA : W1.cell? ⟨w.heap.size, 0, none⟩ = some (.string d) := by rw [hW1]; simp
  have cB : W1.cell? ⟨w.heap.size + 1, 0, none⟩ = some (.string but) := by rw [hW1]; simp
  rw [← hW1]
  clear hW1
  have cX := Keeps.below_cell hB1 c0
  have ht1 := ht.keeps (Keeps.below hB1) (Keeps.below hB1)
  refine wp_region_held_drew (S := fun W => W.cell? ⟨X, 0, none⟩ = some (Value.slice a s.t.length cap) ∧ W.cell? ⟨w.heap.size, 0, none⟩ = some (.string d) ∧ W.cell? ⟨w.heap.size + 1, 0, none⟩ = some (.string but) ∧ Below W1.heap.size W1 W) (by kernel_rfl) ⟨cX, cA, cB, (Below.refl _ _).drew⟩ (fun hHeld => ?_)
  change wpAnyH _ _ _ _ _ (8 + 1) _ _ _
  refine wpAnyH_take (i := 0) (oi := ⟨some 10, .move (.tmp 0), _, _, _, none⟩) (v := ?_) rfl (by kernel_rfl) (by kernel_rfl) (by kernel_rfl) (fun _ _ _ h => h) (Or.inl ⟨by rfl, ?_⟩) (by assumption) ?_
  rotate_left
  · intro w hSw; (try dsimp only at hSw); go_simp; try (with_reducible rfl)
  try simp only [Act.put, List.setIfInBounds_toArray, List.set_cons_zero, List.set_cons_succ]
  change wpAnyH _ _ _ _ _ (7 + 1) _ _ _
  refine wpAnyH_take (i := 1) (oi := ⟨some 11, .nilCheck (.tmp 10), _, _, _, none⟩) (v := ?_) rfl (by kernel_rfl) (by kernel_rfl) (by kernel_rfl) (fun _ _ _ h => h) (Or.inl ⟨by rfl, ?_⟩) (by assumption) ?_
  rotate_left
  · intro w hSw; (try dsimp only at hSw); go_simp; try (with_reducible rfl)
  try simp only [Act.put, List.setIfInBounds_toArray, List.set_cons_zero, List.set_cons_succ]
  change wpAnyH _ _ _ _ _ (6 + 1) _ _ _
  refine wpAnyH_take (i := 2) (oi := ⟨some 12, .fieldAddr 50 (.tmp 11) 0, _, _, _, none⟩) (v := ?_) rfl (by kernel_rfl) (by kernel_rfl) (by kernel_rfl) (fun _ _ _ h => h) (Or.inl ⟨by rfl, ?_⟩) (by assumption) ?_
  rotate_left
  · intro w hSw; (try dsimp only at hSw); go_simp; try (with_reducible rfl)
  try simp only [Act.put, List.setIfInBounds_toArray, List.set_cons_zero, List.set_cons_succ]
  change wpAnyH _ _ _ _ _ (5 + 1) _ _ _
  refine wpAnyH_take (i := 3) (oi := ⟨some 13, .load 23 (.tmp 12), _, _, _, none⟩) (v := ?_) rfl (by kernel_rfl) (by kernel_rfl) (by kernel_rfl) (fun _ _ _ h => h) (Or.inl ⟨by rfl, ?_⟩) (by assumption) ?_
  rotate_left
  · intro w hSw; (try dsimp only at hSw); go_simp; try (with_reducible rfl)
  try simp only [Act.put, List.setIfInBounds_toArray, List.set_cons_zero, List.set_cons_succ]
  change wpAnyH _ _ _ _ _ (4 + 1) _ _ _
  refine wpAnyH_take (i := 4) (oi := ⟨some 14, .load 9 (.tmp 4), _, _, _, none⟩) (v := ?_) rfl (by kernel_rfl) (by kernel_rfl) (by kernel_rfl) (fun _ _ _ h => h) (Or.inl ⟨by rfl, ?_⟩) (by assumption) ?_
  rotate_left
  · intro w hSw; (try dsimp only at hSw); go_simp; try (with_reducible rfl)
  try simp only [Act.put, List.setIfInBounds_toArray, List.set_cons_zero, List.set_cons_succ]
  change wpAnyH _ _ _ _ _ (3 + 1) _ _ _
  refine wpAnyH_take (i := 6) (oi := ⟨some 16, .makeFunc (.func 62) #[] #[.tmp 4, .tmp 5], _, _, _, none⟩) (v := ?_) rfl (by kernel_rfl) (by kernel_rfl) (by kernel_rfl) (fun _ _ _ h => h) (Or.inl ⟨by rfl, ?_⟩) (by assumption) ?_
  rotate_left
  · intro w hSw; (try dsimp only at hSw); go_simp; try (with_reducible rfl)
  try simp only [Act.put, List.setIfInBounds_toArray, List.set_cons_zero, List.set_cons_succ]
  change wpAnyH _ _ _ _ _ (2 + 1) _ _ _
  refine wpAnyH_ready (rs := [5]) (by kernel_rfl) (by simp) ?_
  refine AllReadyH.cons (o := ⟨some 15, .call { callee := .value (.func 11), args := #[.tmp 13, .tmp 14], argTypes := #[23, 9] }, _, _, _, none⟩) rfl (fun K hK => ?_) AllReadyH.nil
  go_simp
  refine (below_f (ht1.keeps (Keeps.below hHeld.2.2.2) (Keeps.below hHeld.2.2.2)) hT hz hd).mono ?_
  rintro e w3 ⟨v3, rfl, ho3, hB3⟩
  refine hK.out _ _ (keep3 hHeld rfl rfl rfl hB3) (fun hH2 => ?_)
  clear hK K
  try simp only [Act.put, List.setIfInBounds_toArray, List.set_cons_zero, List.set_cons_succ]
  change wpAnyH _ _ _ _ _ (1 + 1) _ _ _
  refine wpAnyH_ready (rs := [7]) (by kernel_rfl) (by simp) ?_
  refine AllReadyH.cons (o := ⟨some 17, .call { callee := .value (.func 61), args := #[.tmp 15, .tmp 16], argTypes := #[23, 99] }, _, _, _, none⟩) rfl (fun K hK => ?_) AllReadyH.nil
  go_simp
  refine (deleteFunc_f ho3.rd (by omega) hb60 hH2.2.1 hH2.2.2.1 rfl rfl (by omega) hne).mono ?_
  rintro e w4 ⟨rfl, hB4⟩
  refine hK.out _ _ (keep3 hH2 rfl rfl rfl hB4) (fun hH3 => ?_)
  clear hK K
  try simp only [Act.put, List.setIfInBounds_toArray, List.set_cons_zero, List.set_cons_succ]
  change wpAnyH _ _ _ _ _ (0 + 1) _ _ _
  refine wpAnyH_take (i := 8) (oi := ⟨some 7, .assign (.tmp 17), _, _, _, none⟩) (v := ?_) rfl (by kernel_rfl) (by kernel_rfl) (by kernel_rfl) (fun _ _ _ h => h) (Or.inl ⟨by rfl, ?_⟩) (by assumption) ?_
  rotate_left
  · intro w hSw; (try dsimp only at hSw); go_simp; try (with_reducible rfl)
  try simp only [Act.put, List.setIfInBounds_toArray, List.set_cons_zero, List.set_cons_succ]
  refine wpAnyH_done (by kernel_rfl) ?_ _
  have ht4 := ho3.rd.keeps (Keeps.below hB4) (Keeps.below hB4)
  have hB14 := hH3.2.2.2
  obtain ⟨oa, oc, e, _, _⟩ := ht4.shape
  subst e
  go_wp2_with fail
  refine (treeBytes_f ht4 hTb hzb).mono ?_
  rintro e w5 ⟨v5, rfl, hr5, hB5⟩
  obtain ⟨xa, xc, e, _, _⟩ := hr5.shape
  subst e
  go_wp2_with fail
  refine (must_ok _ _).mono ?_
  rintro e w6 ⟨rfl, rfl⟩
  go_wp2
  go_ret
  have hBt := Below.then hB1 (Below.then hB14 hB5)
  exact ⟨_, rfl, hr5.mono fun q (hq : w4.heap.size ≤ q) => Nat.le_trans (Nat.le_trans hB1.size hB14.size) hq, hBt⟩
end Go.Proofs.YteckjgngglpcaaaGreatDoor
