/-
  slices.Insert of one file: the laws of its appends and copies.
-/
import Derived.Test.YteckjgngglpcaaaGreatDoorUnder
import Derived.Lib.AppendZerosOnto
import Derived.Lib.Overlaps
import Derived.Deep.RegionLaw
namespace Go.Proofs.YteckjgngglpcaaaGreatDoor
open Go.RowKit

theorem append_types (v : Value) (ty : TypeId) (a : Option Addr) (m c : Nat) (w : World) :
    (Builtin.append_ #[23, 22] ty #[v, .slice a m c]).run Tryz.prog w = (Builtin.append_ #[23, 23] ty #[v, .slice a m c]).run Tryz.prog w := by
  have h22 := run_underlying (P := Tryz.prog) (w := w) Tryz.underlying22
  have h23 := run_underlying (P := Tryz.prog) (w := w) Tryz.underlying23
  unfold Builtin.append_
  simp only [List.getElem?_toArray, List.getElem?_cons_zero, List.getElem?_cons_succ, Sem.run_bind, h23, Result.andThen_ok, pure_bind, bind_pure_comp]
  cases v <;> simp [h22, h23, Result.andThen]

/-- A file that is nothing. -/
abbrev noFi : Fi := ⟨ByteArray.empty, []⟩

theorem fcells_zero : ∀ k : Nat, fcells (List.replicate k noFi) (List.replicate k (.slice none 0 0)) = (List.replicate k [Value.string ByteArray.empty, .slice none 0 0]).flatten
  | 0 => rfl
  | k + 1 => by simp [List.replicate_succ, fcells, fcells_zero k]

theorem zeroCells_two (a b : Value) : ∀ n : Nat, (Builtin.zeroCells #[a, b] n).toList = (List.replicate n [a, b]).flatten := by
  intro n
  have h : ∀ n : Nat, (List.range (n * 2)).map (fun i => (#[a, b] : Array Value)[i % 2]!) = (List.replicate n [a, b]).flatten := by
    intro n
    induction n with
    | zero => rfl
    | succ n ih =>
      rw [show (n + 1) * 2 = n * 2 + 1 + 1 by omega, List.range_succ, List.range_succ, List.map_append, List.map_append, ih, List.replicate_succ', List.flatten_append]
      simp [show (n * 2 + 1) % 2 = 1 by omega]
  simpa [Builtin.zeroCells] using h n

theorem fcells_take : ∀ (t : List Fi) (es : List Value) (i : Nat), es.length = t.length → (fcells t es).take (i * 2) = fcells (t.take i) (es.take i)
  | [], _, i, _ => by simp [fcells]
  | _ :: _, [], _, h => by simp at h
  | f :: t, v :: es, 0, _ => by simp [fcells]
  | f :: t, v :: es, i + 1, h => by
    have ih := fcells_take t es i (by simpa using h)
    rw [show (i + 1) * 2 = i * 2 + 1 + 1 by omega]
    simp [fcells, ih]

theorem fcells_drop : ∀ (t : List Fi) (es : List Value) (i : Nat), es.length = t.length → (fcells t es).drop (i * 2) = fcells (t.drop i) (es.drop i)
  | [], _, i, _ => by simp [fcells]
  | _ :: _, [], _, h => by simp at h
  | f :: t, v :: es, 0, _ => by simp
  | f :: t, v :: es, i + 1, h => by
    have ih := fcells_drop t es i (by simpa using h)
    rw [show (i + 1) * 2 = i * 2 + 1 + 1 by omega]
    simp [fcells, ih]

/-- What an own row's slots hold: the same row, said of its cells. -/
theorem OwnT.of {base : Nat} {R : Nat → Prop} {w : World} {v : Value} {t : List Fi} (es : List Value) (hl : es.length = t.length) (ho : w.ownsRow base 28 2 v t.length (fcells t es))
    (hc : ∀ i (h : i < t.length), t[i].p.size ≤ maxLen ∧ ∃ u, es[i]? = some u ∧ RdB (fun b => R b ∧ some b ≠ v.ownBlock) w u t[i].b) : OwnT base R w v t := ⟨es, hl, ho, hc⟩

/-- 'append(s[:i], make([]File, k)...)' where there is no room: a new row. -/
theorem run_zeros {w : World} {base : Nat} {R : Nat → Prop} {g cap : Nat} {t : List Fi} (h : OwnT base R w (.slice (some ⟨g, 0, none⟩) t.length cap) t) (hbase : base ≤ w.heap.size) {i k : Nat} (hi : i ≤ t.length) (hk : 0 < k) (hg : cap < i + k) (hsm : i + k ≤ 1000) (ty : TypeId) :
    ∃ w' cap', (Builtin.append_ #[23, 3] ty #[.slice (some ⟨g, 0, none⟩) i cap, .int .i64 k]).run Tryz.prog w = .ok (.slice (some ⟨w.heap.size, 0, none⟩) (i + k) cap') w' ∧
      OwnT base R w' (.slice (some ⟨w.heap.size, 0, none⟩) (i + k) cap') (t.take i ++ List.replicate k noFi) ∧ w.grownBy w' none := by
  obtain ⟨i0, hi0, hz0, hz1, hz2⟩ := info_parts info28
  obtain ⟨es, hel, ho, hc⟩ := h
  have hlt : (t.take i).length = i := by simp; omega
  have hle : (es.take i).length = (t.take i).length := by simp; omega
  have hold : (Builtin.firstCells i0.size i (.slice (some ⟨g, 0, none⟩) i cap)).run Tryz.prog w.drew = .ok (fcells (t.take i) (es.take i)).toArray w.drew := by
    rw [hz1]
    refine run_firstCells_some w.drew 2 i ⟨g, 0, none⟩ i cap _ (by rw [fcells_length _ _ hle, hlt]) (fun j u hj => ?_)
    rw [addr_add, Nat.zero_add]
    show w.cell? _ = _
    have hj' : j < i * 2 := by
      have := (List.getElem?_eq_some_iff.1 hj).1
      rw [fcells_length _ _ hle, hlt] at this
      exact this
    rw [ho.cellAt j (by omega), ← hj, ← fcells_take t es i hel, List.getElem?_take, if_pos hj']
  have hrun := Lib.run_append_grow_zeros (P := Tryz.prog) w 23 3 ty 28 i0 _ .i64 .i64 Tryz.underlying23 Tryz.underlying3 hi0 hz0 (some ⟨g, 0, none⟩) i cap _ hold k hk (by rw [hz1]; decide) hg (by omega) (by rw [hz2]; omega) (by rw [hz2]; exact growslice_fits hg (by omega))
  refine ⟨_, _, hrun, ?_, ⟨rfl, rfl, rfl, by simp, fun b hb _ => heap_alloc_old w.drew _ hb⟩⟩
  have hge := grownCap_ge w (i + k) cap 28
  have hcm : grownCap w (i + k) cap 28 ≤ maxLen := grownCap_le_maxLen w (i + k) cap 28 (by simp only [maxLen]; omega)
  have hL : (t.take i ++ List.replicate k noFi).length = i + k := by simp; omega
  refine OwnT.of (es.take i ++ List.replicate k (.slice none 0 0)) (by simp; omega) ⟨?_, .inr ⟨w.heap.size, grownCap w (i + k) cap 28, _, by rw [hL], hbase, heap_alloc_new w.drew _, by rw [hL]; exact hge, hcm, ?_, ?_⟩⟩ ?_
  · rw [fcells_length _ _ (by simp; omega)]
  · simp only [Array.size_append, List.size_toArray, size_zeroCells, fcells_length _ _ hle, hlt, Value.cells]
    simp only [List.length_cons, List.length_nil]
    omega
  · rw [hL, fcells_append _ _ _ _ hle, fcells_zero]
    simp only [Array.toList_append, Value.cells, zeroCells_two]
    rw [List.take_append_of_le_length (by simp [fcells_length _ _ hle]; omega), List.take_of_length_le (by simp [fcells_length _ _ hle]; omega)]
  · intro j hj
    rw [hL] at hj
    have hnb : ∀ b, b < w.heap.size → some b ≠ (Value.slice (some ⟨w.heap.size, 0, none⟩) (i + k) (grownCap w (i + k) cap 28)).ownBlock := fun b hlt e => by
      have : b = w.heap.size := Option.some.inj e
      omega
    by_cases hji : j < i
    · obtain ⟨hm, u, hu, hd⟩ := hc j (by omega)
      have e1 : (t.take i ++ List.replicate k noFi)[j]'(by rw [hL]; exact hj) = t[j] := by
        rw [List.getElem_append_left (by omega), List.getElem_take]
      rw [e1]
      refine ⟨hm, u, ?_, (hd.lt.keeps (Keeps.alloc _)).mono fun b hb => ⟨hb.1.1, hnb b hb.2⟩⟩
      rw [List.getElem?_append_left (by omega), List.getElem?_take, if_pos hji, hu]
    · have e1 : (t.take i ++ List.replicate k noFi)[j]'(by rw [hL]; exact hj) = noFi := by
        rw [List.getElem_append_right (by omega)]
        simp
      rw [e1]
      refine ⟨by simp only [maxLen]; decide, .slice none 0 0, ?_, RdB.nil _ _⟩
      rw [List.getElem?_append_right (by omega)]
      rw [List.getElem?_replicate, if_pos (by rw [hle, hlt]; omega)]

theorem splice_take {α : Type} (L cs : List α) (o m : Nat) (h1 : o + cs.length ≤ m) (h2 : m ≤ L.length) :
    (L.take o ++ cs ++ L.drop (o + cs.length)).take m = (L.take m).take o ++ cs ++ (L.take m).drop (o + cs.length) := by
  rw [List.append_assoc, List.take_append, List.take_append, List.take_take, List.length_take, List.append_assoc, List.take_take, List.drop_take]
  rw [show min m o = o by omega, show min o m = o by omega, show min o L.length = o by omega, List.take_of_length_le (show cs.length ≤ m - o by omega), show m - o - cs.length = m - (o + cs.length) by omega]

theorem getElem_idx {α : Type} {l : List α} {i j : Nat} (h : i = j) (hi : i < l.length) : l[i] = l[j]'(h ▸ hi) := by subst h; rfl
theorem getElem?_idx {α : Type} {l : List α} {i j : Nat} (h : i = j) : l[i]? = l[j]? := by rw [h]

/-- 'copy' of files into a row of the call's own. -/
theorem run_copy_files {w : World} {base : Nat} {R : Nat → Prop} {g cap n : Nat} {t : List Fi} (h : OwnT base R w (.slice (some ⟨g, 0, none⟩) n cap) t) (hn : n = t.length) {P' R' : Nat → Prop} {x : Value} {u : List Fi} (hx : RdT P' R' w x u) (hR : ∀ b, R' b → b ≠ g)
    {i k dLen dCap : Nat} {da : Option Addr} (hk : k = min u.length dLen) (hik : i + k ≤ t.length) (hda : 0 < k → da = some ⟨g, i * 2, none⟩) {dT sT : TypeId} (hu : Tryz.prog.underlying dT = some (.slice 28)) (ty : TypeId) :
    ∃ w', (Builtin.copy_ #[dT, sT] ty #[.slice da dLen dCap, x]).run Tryz.prog w = .ok (goInt k) w' ∧
      OwnT base (fun b => R b ∨ R' b) w' (.slice (some ⟨g, 0, none⟩) n cap) (t.take i ++ u.take k ++ t.drop (i + k)) ∧ w.grownBy w' (some g) := by
  subst hn
  obtain ⟨i0, hi0, hz0, hz1, hz2⟩ := info_parts info28
  have h0 := h
  obtain ⟨es, hel, ho, hc⟩ := h
  obtain ⟨fs, hfl, hd, a, c, rfl, hc1, hc2, hc3, hc4⟩ := hx.values
  rcases Nat.eq_zero_or_pos k with hk0 | hk0
  · refine ⟨w, ?_, ?_, World.grownBy.refl _ _⟩
    · have hmin : Nat.min u.length dLen = 0 := by have : Nat.min u.length dLen = min u.length dLen := rfl; omega
      cases a <;> cases da <;> simp [Builtin.copy_, run_underlying hu, Builtin.lenOf, Builtin.firstCells, sizeOf, typeInfo, hi0, hmin, hk0, storeCells, loadCells, loadCellsFrom, goInt]
    · rw [hk0]
      simpa using h0.mono fun b hb => Or.inl hb
  · have hda' := hda hk0
    subst hda'
    cases a with
    | none =>
      obtain ⟨rfl, _⟩ := hc3 rfl
      simp at hk
      omega
    | some ad =>
      have hcl : ((fcells u fs).take (k * 2)).length = k * 2 := by rw [List.length_take, fcells_length u fs hfl]; omega
      have hone : ∀ y ∈ (fcells u fs).take (k * 2), y.oneCell' = true := by
        intro y hy
        refine fcells_one u fs (fun y hy => ?_) y (List.mem_of_mem_take hy)
        obtain ⟨j, hj, hjy⟩ := List.mem_iff_getElem.1 hy
        obtain ⟨_, z, hz, hzd⟩ := hd j (by omega)
        have e : fs[j]? = some y := by rw [List.getElem?_eq_getElem hj, hjy]
        rw [hz] at e
        obtain rfl := Option.some.inj e
        exact hzd.one
      rcases ho.2 with ⟨hv, _⟩ | ⟨g', cap', cur, hv, hb, hg, hnc, hcm, hcs, htake⟩
      · cases hv
      · simp only [Value.slice.injEq, Option.some.injEq, Addr.mk.injEq, and_true, true_and] at hv
        obtain ⟨rfl, rfl⟩ := hv
        have hload := run_loadCells_list (P := Tryz.prog) w ad ((fcells u fs).take (k * 2)) (fun j y hj => by
          rw [List.getElem?_take] at hj
          split at hj
          · exact hc4 ad rfl j y hj
          · cases hj)
        obtain ⟨cs, hcsd⟩ : ∃ cs, cs = (fcells u fs).take (k * 2) := ⟨_, rfl⟩
        rw [← hcsd] at hcl hone hload
        have hst := run_storeCells_at Tryz.prog g (i * 2) 28 cs 0 cur w hg (by rw [hcl, hcs]; omega) hone
        rw [hcl] at hload
        simp only [Nat.add_zero, hcl] at hst
        have hmin : Nat.min u.length dLen = k := hk.symm
        obtain ⟨W, hW⟩ : ∃ W, W = w.setRow g (cur.toList.take (i * 2) ++ cs ++ cur.toList.drop (i * 2 + k * 2)).toArray := ⟨_, rfl⟩
        rw [← hW] at hst
        have hfc : (Builtin.firstCells 2 k (.slice (some ad) u.length c)).run Tryz.prog w = .ok cs.toArray w := hload
        have hrun : (Builtin.copy_ #[dT, sT] ty #[.slice (some ⟨g, i * 2, none⟩) dLen dCap, .slice (some ad) u.length c]).run Tryz.prog w = .ok (goInt k) W := by
          simp [Builtin.copy_, run_underlying hu, Builtin.lenOf, sizeOf, typeInfo, hi0, hz1, hmin, hfc, hst]
        refine ⟨W, hrun, ?_, ⟨by rw [hW]; rfl, by rw [hW]; rfl, by rw [hW]; rfl, by rw [hW]; simp, fun b _ hb => by rw [hW]; exact setRow_other w g b _ (fun e => hb (by rw [e]))⟩⟩
        have hL : (t.take i ++ u.take k ++ t.drop (i + k)).length = t.length := by simp; omega
        have hlu : (fs.take k).length = (u.take k).length := by simp; omega
        have hlt : (es.take i).length = (t.take i).length := by simp; omega
        refine OwnT.of (es.take i ++ fs.take k ++ es.drop (i + k)) (by simp; omega) ⟨?_, .inr ⟨g, cap, _, by rw [hL], hb, by rw [hW]; exact setRow_heap w g cur _ 28 _ hg, by rw [hL]; exact hnc, hcm, ?_, ?_⟩⟩ ?_
        · rw [fcells_length _ _ (by simp; omega)]
        · simp only [List.size_toArray, List.length_append, List.length_take, List.length_drop, Array.length_toList, hcl, hcs]
          omega
        · rw [hL]
          simp only
          have hq : cur.toList.length = cap * 2 := by rw [Array.length_toList, hcs]
          have hq2 : t.length * 2 ≤ cur.toList.length := by rw [hq]; exact Nat.mul_le_mul_right _ hnc
          have hsp := splice_take cur.toList cs (i * 2) (t.length * 2) (by rw [hcl]; omega) hq2
          rw [hcl] at hsp
          rw [hsp, htake, hcsd, List.append_assoc, List.append_assoc, List.append_assoc, fcells_append _ _ _ _ hlt, fcells_append _ _ _ _ hlu, fcells_take t es i hel, fcells_take u fs k hfl, show i * 2 + k * 2 = (i + k) * 2 by omega, fcells_drop t es (i + k) hel]
        · intro j hj
          rw [hL] at hj
          have hkeep : ∀ {Q : Nat → Prop} {y : Value} {l : List UInt8}, RdB Q w y l → (∀ b, Q b → b ≠ g) → RdB Q W y l :=
            fun hy hq => hy.keeps fun b hb _ => by rw [hW]; exact setRow_other w g b _ (hq b hb)
          by_cases h1 : j < i
          · obtain ⟨hm, y, hy, hyd⟩ := hc j hj
            have e1 : (t.take i ++ u.take k ++ t.drop (i + k))[j]'(by rw [hL]; exact hj) = t[j] := by
              rw [List.getElem_append_left (by simp; omega), List.getElem_append_left (by simp; omega), List.getElem_take]
            rw [e1]
            refine ⟨hm, y, ?_, (hkeep hyd (fun b hb e => hb.2 (by rw [e]; rfl))).mono fun b hb => ⟨Or.inl hb.1, hb.2⟩⟩
            rw [List.getElem?_append_left (by simp; omega), List.getElem?_append_left (by simp; omega), List.getElem?_take, if_pos h1, hy]
          · by_cases h2 : j < i + k
            · obtain ⟨hm, y, hy, hyd⟩ := hd (j - i) (by omega)
              have e1 : (t.take i ++ u.take k ++ t.drop (i + k))[j]'(by rw [hL]; exact hj) = u[j - i]'(by omega) := by
                rw [List.getElem_append_left (by simp; omega), List.getElem_append_right (by simp; omega), List.getElem_take]
                exact getElem_idx (by rw [List.length_take]; omega) _
              rw [e1]
              refine ⟨hm, y, ?_, (hkeep hyd hR).mono fun b hb => ⟨Or.inr hb, fun e => hR b hb (Option.some.inj e)⟩⟩
              rw [List.getElem?_append_left (by simp; omega), List.getElem?_append_right (by simp; omega), List.getElem?_take, if_pos (by simp; omega), ← hy]
              exact getElem?_idx (by rw [List.length_take]; omega)
            · obtain ⟨hm, y, hy, hyd⟩ := hc j hj
              have e1 : (t.take i ++ u.take k ++ t.drop (i + k))[j]'(by rw [hL]; exact hj) = t[j] := by
                rw [List.getElem_append_right (by simp; omega), List.getElem_drop]
                exact getElem_idx (by rw [List.length_append, List.length_take, List.length_take]; omega) _
              rw [e1]
              refine ⟨hm, y, ?_, (hkeep hyd (fun b hb e => hb.2 (by rw [e]; rfl))).mono fun b hb => ⟨Or.inl hb.1, hb.2⟩⟩
              rw [List.getElem?_append_right (by simp; omega), List.getElem?_drop, ← hy]
              exact getElem?_idx (by rw [List.length_append, List.length_take, List.length_take]; omega)

end Go.Proofs.YteckjgngglpcaaaGreatDoor
