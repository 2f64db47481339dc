/-
  The bytes of a tree.
-/
import Derived.Test.YteckjgngglpcaaaGreatDoorWire
namespace Go.Proofs.YteckjgngglpcaaaGreatDoor
open Go.RowKit

/-- The bytes of a file in a tree's. -/
def rawF (f : Fi) : List UInt8 := formL f.p.data.toList.length ++ f.p.data.toList ++ (formL f.b.length ++ f.b)
def rawsL (t : List Fi) : List UInt8 := (t.map rawF).flatten
/-- The bytes of a tree. -/
def rawL (t : List Fi) : List UInt8 := formL t.length ++ rawsL t

theorem rawF_len {f : Fi} (h : POK f.p) : (rawF f).length ≤ 46 + f.b.length := by
  have h1 := formL_len f.p.data.toList.length
  have h2 := formL_len f.b.length
  have h3 := size_list f.p
  have h4 := h.hi
  simp only [rawF, List.length_append]
  omega

theorem raws_len : ∀ {t : List Fi}, (∀ f ∈ t, POK f.p) → (rawsL t).length ≤ 46 * t.length + szs t
  | [], _ => by simp [rawsL, szs]
  | f :: t, h => by
    have h1 := raws_len (t := t) (fun g hg => h g (List.mem_cons_of_mem _ hg))
    have h2 := rawF_len (h f List.mem_cons_self)
    have e1 : rawsL (f :: t) = rawF f ++ rawsL t := by simp [rawsL]
    have e2 : szs (f :: t) = f.b.length + szs t := by simp [szs]
    rw [e1, e2, List.length_append, List.length_cons]
    omega

theorem raws_take {t : List Fi} {k : Nat} (hk : k < t.length) : rawsL (t.take (k + 1)) = rawsL (t.take k) ++ rawF t[k] := by
  unfold rawsL
  rw [← List.take_append_getElem hk, List.map_append, List.flatten_append]
  simp

theorem szs_le_all {t : List Fi} (k : Nat) : szs (t.take k) ≤ szs t := by
  have h : szs (t.take k) + szs (t.drop k) = szs t := by
    unfold szs
    rw [← List.sum_append, ← List.map_append, List.take_append_drop]
  omega

/-- A path as bytes of its own. -/
theorem conv_row (s : ByteArray) (hs : s.size ≤ 60000) : ∃ (V : World → Value) (U : World → World), (∀ W, (convert 9 26 (.string s)).run Tryz.prog W = .ok (V W) (U W)) ∧ ∀ W, RdB (W.heap.size ≤ ·) (U W) (V W) s.data.toList ∧ Below W.heap.size W (U W) := by
  refine ⟨fun W => _, fun W => _, fun W => run_bytes_of_string W 9 26 5 s Tryz.underlying9 Tryz.underlying26 Tryz.underlying5, fun W => ⟨?_, ?_⟩⟩
  · have hge := grownCap_ge W s.size 0 5
    have hle := grownCap_le_maxLen W s.size 0 5 (by unfold maxLen; omega)
    have hsz := size_list s
    refine ⟨_, _, by rw [hsz], by rw [hsz]; exact hge, hle, (fun h => by cases h), fun _ => ⟨W.heap.size, 0, rfl, Nat.le_refl _, fun i hi => ?_⟩⟩
    have h2 := World.cell?_alloc_mark W.drew (bytesRow s (grownCap W s.size 0 5)) 5 ((bytesRow s (grownCap W s.size 0 5)).size, (bytesRow s (grownCap W s.size 0 5)).size + 1) i
    have h3 := bytesRow_at s (grownCap W s.size 0 5) i (by simpa using hi)
    rw [Nat.zero_add]
    exact h2.trans (h3.trans (by simp))
  · exact (Below.refl _ _).drew.alloc (Nat.le_refl _) _

/-- Two cells of a file that stands, and what was there. -/
theorem keepF {w1 W W' : World} {a b : Addr} {va vb : Value} (h : W.cell? a = some va ∧ W.cell? b = some vb ∧ Below w1.heap.size w1 W) (ha : a.spot = none) (hb : b.spot = none) (hB : Below W.heap.size W W') :
    W'.cell? a = some va ∧ W'.cell? b = some vb ∧ Below w1.heap.size w1 W' := by
  obtain ⟨aa, ao, ap⟩ := a
  obtain ⟨ba, bo, bp⟩ := b
  subst ha hb
  exact ⟨Keeps.below_cell hB h.1, Keeps.below_cell hB h.2.1, Below.then h.2.2 hB⟩

set_option maxHeartbeats 2000000 in
theorem raw_f {P R : Nat → Prop} {v : Value} {t : List Fi} {w : World} (hv : RdT P R w v t) (hT : TOK t) (hz : szs t ≤ 4000) : Calls Tryz.prog 17 #[v] w (RetB (rawL t) w) := by
  have hv0 := hv
  have hl := hT.len
  have hall := hT.all
  obtain ⟨a, cap, rfl, hcap, hcm⟩ := hv.shape
  unfold maxLen at hcm
  have hw : IntKind.u64.wrap (t.length : Int) = (t.length : Int) := IntWalk.u64_in _ (by omega)
  go_enter Tryz.func17, Tryz.ntmps17
  go_wp2_with fail
  refine (appendUint_f (RdB.nil (fun _ => True) _) (by simp) (by omega)).mono ?_
  rintro e w1 ⟨v1, rfl, hr1, hB1⟩
  clear hw
  go_wp2
  go_loopw [3, 12] (fun s i wx => ∃ k : Nat, k ≤ t.length ∧ i = .int .i64 k ∧ RdB (w.heap.size ≤ ·) wx s (formL t.length ++ rawsL (t.take k)) ∧ Below w.heap.size w wx)
    (fun _ i _ => t.length - (intOf i).toNat)
  case atStart => exact ⟨0, by omega, rfl, by simpa [rawsL] using hr1, hB1⟩
  case round =>
    obtain ⟨k, hk, rfl, hr, hB⟩ := hrel
    have hv' := hv0.keeps (Keeps.below hB) (Keeps.below hB)
    by_cases hlt : k < t.length
    · obtain ⟨b, off, cap', e, _, _, hb, hc⟩ := hv'.at (by omega)
      simp only [Value.slice.injEq] at e
      obtain ⟨rfl, -, rfl⟩ := e
      obtain ⟨c1, hpm, u, c2, hu⟩ := hc k hlt
      have hpk := hall _ (List.getElem_mem hlt)
      have hrl := raws_len (t := t.take (k + 1)) (fun f hf => (hall f (List.mem_of_mem_take hf)).1)
      have hst := Lib.hid (raws_take hlt)
      have hzt := szs_le_all (t := t) (k + 1)
      have hzt0 := szs_le_all (t := t) k
      have hrl0 := raws_len (t := t.take k) (fun f hf => (hall f (List.mem_of_mem_take hf)).1)
      have hfl := formL_len t.length
      have hps := size_list t[k].p
      have hp40 := hpk.1.hi
      rw [List.length_take] at hrl hrl0
      obtain ⟨CV, CU, hconv, hcv⟩ := conv_row t[k].p (by omega)
      have hb1 : (formL t.length ++ rawsL (t.take k)).length + t[k].p.data.toList.length ≤ 10000 := by simp only [List.length_append]; omega
      have hb2 : (formL t.length ++ rawsL (t.take k) ++ (formL t[k].p.data.toList.length ++ t[k].p.data.toList)).length + t[k].b.length ≤ 10000 := by
        have := raws_take hlt
        rw [this] at hrl
        simp only [rawF, List.length_append] at hrl ⊢
        omega
      have Hcv := Lib.hid hcv
      clear hcv hrl hrl0 hzt hzt0 hps hp40 hfl
      obtain ⟨ua, uc, rfl, _, _⟩ := hu.shape
      clear hc
      go_wp2
      have hu1 : RdB R (wr.alloc (Obj.cells #[Value.string t[k].p, Value.slice ua t[k].b.length uc] 28)) (Value.slice ua t[k].b.length uc) t[k].b := hu.keeps (Keeps.alloc _)
      have hr1' : RdB (w.heap.size ≤ ·) (wr.alloc (Obj.cells #[Value.string t[k].p, Value.slice ua t[k].b.length uc] 28)) u3 (formL t.length ++ rawsL (t.take k)) := hr.keeps (Keeps.alloc _)
      have hBa := hB.alloc hB.size (Obj.cells #[Value.string t[k].p, Value.slice ua t[k].b.length uc] 28)
      have hs1 : (wr.alloc (Obj.cells #[Value.string t[k].p, Value.slice ua t[k].b.length uc] 28)).cell? ⟨wr.heap.size, 0, none⟩ = some (Value.string t[k].p) := by simp
      have hs2 : (wr.alloc (Obj.cells #[Value.string t[k].p, Value.slice ua t[k].b.length uc] 28)).cell? ⟨wr.heap.size, 1, none⟩ = some (Value.slice ua t[k].b.length uc) := by simp
      generalize wr.alloc (Obj.cells #[Value.string t[k].p, Value.slice ua t[k].b.length uc] 28) = W1 at *
      clear hr hu
      refine wp_region_held_drew (S := fun W => W.cell? ⟨wr.heap.size, 0, none⟩ = some (Value.string t[k].p) ∧ W.cell? ⟨wr.heap.size, 1, none⟩ = some (Value.slice ua t[k].b.length uc) ∧ Below W1.heap.size W1 W) (by kernel_rfl) ⟨hs1, hs2, (Below.refl _ _).drew⟩ (fun hHeld => ?_)
      change wpAnyH _ _ _ _ _ (8 + 1) _ _ _
      refine wpAnyH_take (i := 0) (oi := ⟨some 16, .move (.tmp 3), _, _, _, none⟩) (v := ?_) rfl (by kernel_rfl) (by kernel_rfl) (by kernel_rfl) (fun _ _ _ h => h) (Or.inl ⟨by rfl, ?_⟩) (by assumption) ?_
      rotate_left
      · intro w hSw; (try dsimp only at hSw); go_simp; try (with_reducible rfl)
      try simp only [Act.put, List.setIfInBounds_toArray, List.set_cons_zero, List.set_cons_succ]
      change wpAnyH _ _ _ _ _ (7 + 1) _ _ _
      refine wpAnyH_take (i := 1) (oi := ⟨some 17, .fieldAddr 28 (.tmp 5) 0, _, _, _, none⟩) (v := ?_) rfl (by kernel_rfl) (by kernel_rfl) (by kernel_rfl) (fun _ _ _ h => h) (Or.inl ⟨by rfl, ?_⟩) (by assumption) ?_
      rotate_left
      · intro w hSw; (try dsimp only at hSw); go_simp; try (with_reducible rfl)
      try simp only [Act.put, List.setIfInBounds_toArray, List.set_cons_zero, List.set_cons_succ]
      change wpAnyH _ _ _ _ _ (6 + 1) _ _ _
      refine wpAnyH_take (i := 2) (oi := ⟨some 18, .load 9 (.tmp 17), _, _, _, none⟩) (v := ?_) rfl (by kernel_rfl) (by kernel_rfl) (by kernel_rfl) (fun _ _ _ h => h) (Or.inl ⟨by rfl, ?_⟩) (by assumption) ?_
      rotate_left
      · intro w hSw; (try dsimp only at hSw); go_simp; try (with_reducible rfl)
      try simp only [Act.put, List.setIfInBounds_toArray, List.set_cons_zero, List.set_cons_succ]
      change wpAnyH _ _ _ _ _ (5 + 1) _ _ _
      refine wpAnyH_take (i := 5) (oi := ⟨some 21, .fieldAddr 28 (.tmp 5) 1, _, _, _, none⟩) (v := ?_) rfl (by kernel_rfl) (by kernel_rfl) (by kernel_rfl) (fun _ _ _ h => h) (Or.inl ⟨by rfl, ?_⟩) (by assumption) ?_
      rotate_left
      · intro w hSw; (try dsimp only at hSw); go_simp; try (with_reducible rfl)
      try simp only [Act.put, List.setIfInBounds_toArray, List.set_cons_zero, List.set_cons_succ]
      change wpAnyH _ _ _ _ _ (4 + 1) _ _ _
      refine wpAnyH_take (i := 6) (oi := ⟨some 22, .load 26 (.tmp 21), _, _, _, none⟩) (v := ?_) rfl (by kernel_rfl) (by kernel_rfl) (by kernel_rfl) (fun _ _ _ h => h) (Or.inl ⟨by rfl, ?_⟩) (by assumption) ?_
      rotate_left
      · intro w hSw; (try dsimp only at hSw); go_simp; try (with_reducible rfl)
      try simp only [Act.put, List.setIfInBounds_toArray, List.set_cons_zero, List.set_cons_succ]
      change wpAnyH _ _ _ _ _ (3 + 1) _ _ _
      refine wpAnyH_ready (rs := [3]) (by kernel_rfl) (by simp) ?_
      refine AllReadyH.cons (o := ⟨some 19, .convert 9 26 (.tmp 18), _, _, _, none⟩) rfl (fun K hK => ?_) AllReadyH.nil
      go_simp
      refine hK.out _ _ (keepF hHeld rfl rfl (Hcv.out _).2) (fun hH2 => ?_)
      clear hK K
      try simp only [Act.put, List.setIfInBounds_toArray, List.set_cons_zero, List.set_cons_succ]
      change wpAnyH _ _ _ _ _ (2 + 1) _ _ _
      refine wpAnyH_ready (rs := [4]) (by kernel_rfl) (by simp) ?_
      refine AllReadyH.cons (o := ⟨some 20, .call { callee := .value (.func 28), args := #[.tmp 16, .tmp 19], argTypes := #[26, 26] }, _, _, _, none⟩) rfl (fun K hK => ?_) AllReadyH.nil
      go_simp
      refine (appendBytes_f (hr1'.keeps (Keeps.below hH2.2.2)) (Hcv.out _).1 hb1).mono ?_
      rintro e w3 ⟨v3, rfl, hr3, hB3⟩
      refine hK.out _ _ (keepF hH2 rfl rfl hB3) (fun hH3 => ?_)
      clear hK K
      try simp only [Act.put, List.setIfInBounds_toArray, List.set_cons_zero, List.set_cons_succ]
      change wpAnyH _ _ _ _ _ (1 + 1) _ _ _
      refine wpAnyH_ready (rs := [7]) (by kernel_rfl) (by simp) ?_
      refine AllReadyH.cons (o := ⟨some 23, .call { callee := .value (.func 28), args := #[.tmp 20, .tmp 22], argTypes := #[26, 26] }, _, _, _, none⟩) rfl (fun K hK => ?_) AllReadyH.nil
      go_simp
      refine (appendBytes_f hr3 (hu1.keeps (Keeps.below hH3.2.2)) hb2).mono ?_
      rintro e w4 ⟨v4, rfl, hr4, hB4⟩
      refine hK.out _ _ (keepF hH3 rfl rfl hB4) (fun hH4 => ?_)
      clear hK K
      try simp only [Act.put, List.setIfInBounds_toArray, List.set_cons_zero, List.set_cons_succ]
      change wpAnyH _ _ _ _ _ (0 + 1) _ _ _
      refine wpAnyH_take (i := 8) (oi := ⟨some 3, .assign (.tmp 23), _, _, _, none⟩) (v := ?_) rfl (by kernel_rfl) (by kernel_rfl) (by kernel_rfl) (fun _ _ _ h => h) (Or.inl ⟨by rfl, ?_⟩) (by assumption) ?_
      rotate_left
      · intro w hSw; (try dsimp only at hSw); go_simp; try (with_reducible rfl)
      try simp only [Act.put, List.setIfInBounds_toArray, List.set_cons_zero, List.set_cons_succ]
      refine wpAnyH_done (by kernel_rfl) ?_ _
      have hBw := Below.then hBa hH4.2.2
      have hrn : RdB (w.heap.size ≤ ·) w4 v4 (formL t.length ++ rawsL (t.take (k + 1))) := by
        rw [hst.out]
        have e : formL t.length ++ (rawsL (t.take k) ++ rawF t[k]) = formL t.length ++ rawsL (t.take k) ++ (formL t[k].p.data.toList.length ++ t[k].p.data.toList) ++ (formL t[k].b.length ++ t[k].b) := by
          simp [rawF, List.append_assoc]
        rw [e]
        exact hr4.mono fun q hq => by have h1 := hBa.size; have h2 := hH3.2.2.size; have hq' : w3.heap.size ≤ q := hq; omega
      clear hconv
      go_wp2
      go_roundw
      case rel => exact ⟨k + 1, by omega, by go_num, hrn, hBw⟩
      case measure => simp [intOf]; omega
    · obtain rfl : k = t.length := by omega
      rw [List.take_length] at hr
      go_wp2
      go_ret
      exact ⟨_, rfl, hr, hB⟩
end Go.Proofs.YteckjgngglpcaaaGreatDoor
