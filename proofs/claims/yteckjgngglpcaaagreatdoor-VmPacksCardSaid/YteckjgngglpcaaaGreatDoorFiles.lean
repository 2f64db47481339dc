/-
  Slices of files that the call itself makes: a row of its own, the files' bytes elsewhere.
-/
import Derived.Test.YteckjgngglpcaaaGreatDoorClone
namespace Go.Proofs.YteckjgngglpcaaaGreatDoor
open Go.RowKit

/-- The cells of a row of files: paths, and the values of the byte slices. -/
def fcells : List Fi → List Value → List Value
  | f :: t, v :: es => .string f.p :: v :: fcells t es
  | _, _ => []

theorem fcells_length : ∀ (t : List Fi) (es : List Value), es.length = t.length → (fcells t es).length = t.length * 2
  | [], [], _ => rfl
  | [], _ :: _, h => by simp at h
  | _ :: _, [], h => by simp at h
  | f :: t, v :: es, h => by
    have ih := fcells_length t es (by simpa using h)
    simp only [fcells, List.length_cons, ih]
    omega

theorem fcells_append : ∀ (t : List Fi) (es : List Value) (u : List Fi) (fs : List Value), es.length = t.length → fcells (t ++ u) (es ++ fs) = fcells t es ++ fcells u fs
  | [], [], _, _, _ => rfl
  | [], _ :: _, _, _, h => by simp at h
  | _ :: _, [], _, _, h => by simp at h
  | f :: t, v :: es, u, fs, h => by
    have ih := fcells_append t es u fs (by simpa using h)
    simp [fcells, ih]

theorem fcells_path : ∀ (t : List Fi) (es : List Value) (i : Nat) (hi : i < t.length), es.length = t.length → (fcells t es)[i * 2]? = some (.string t[i].p)
  | [], _, _, hi, _ => by simp at hi
  | _ :: _, [], _, _, h => by simp at h
  | f :: t, v :: es, 0, _, _ => rfl
  | f :: t, v :: es, i + 1, hi, h => by
    have ih := fcells_path t es i (by simpa using hi) (by simpa using h)
    rw [show (i + 1) * 2 = i * 2 + 1 + 1 by omega]
    simpa [fcells] using ih

theorem fcells_bytes : ∀ (t : List Fi) (es : List Value) (i : Nat) (_ : i < t.length) (_ : es.length = t.length), (fcells t es)[i * 2 + 1]? = es[i]?
  | [], _, _, hi, _ => by simp at hi
  | _ :: _, [], _, _, h => by simp at h
  | f :: t, v :: es, 0, _, _ => rfl
  | f :: t, v :: es, i + 1, hi, h => by
    have ih := fcells_bytes t es i (by simpa using hi) (by simpa using h)
    rw [show (i + 1) * 2 + 1 = i * 2 + 1 + 1 + 1 by omega]
    simpa [fcells] using ih

theorem fcells_setPath : ∀ (t : List Fi) (es : List Value) (i : Nat) (f' : Fi), es.length = t.length → fcells (t.set i f') es = (fcells t es).set (i * 2) (.string f'.p)
  | [], [], _, _, _ => rfl
  | [], _ :: _, _, _, h => by simp at h
  | _ :: _, [], _, _, h => by simp at h
  | f :: t, v :: es, 0, f', h => by simp [fcells]
  | f :: t, v :: es, i + 1, f', h => by
    have ih := fcells_setPath t es i f' (by simpa using h)
    rw [show (i + 1) * 2 = i * 2 + 1 + 1 by omega]
    simp [fcells, ih]

theorem fcells_setBytes : ∀ (t : List Fi) (es : List Value) (i : Nat) (v' : Value), es.length = t.length → fcells t (es.set i v') = (fcells t es).set (i * 2 + 1) v'
  | [], [], _, _, _ => rfl
  | [], _ :: _, _, _, h => by simp at h
  | _ :: _, [], _, _, h => by simp at h
  | f :: t, v :: es, 0, v', h => by simp [fcells]
  | f :: t, v :: es, i + 1, v', h => by
    have ih := fcells_setBytes t es i v' (by simpa using h)
    rw [show (i + 1) * 2 + 1 = i * 2 + 1 + 1 + 1 by omega]
    simp [fcells, ih]

theorem fcells_one : ∀ (t : List Fi) (es : List Value), (∀ v ∈ es, v.oneCell' = true) → ∀ u ∈ fcells t es, u.oneCell' = true
  | [], _, _, u, hu => by simp [fcells] at hu
  | _ :: _, [], _, u, hu => by simp [fcells] at hu
  | f :: t, v :: es, h, u, hu => by
    simp only [fcells, List.mem_cons] at hu
    rcases hu with rfl | rfl | hu
    · rfl
    · exact h _ (by simp)
    · exact fcells_one t es (fun v hv => h v (by simp [hv])) u hu

/-- A row of files of the call's own: its bytes lie in blocks of which R speaks, none of them the row's. -/
def OwnT (base : Nat) (R : Nat → Prop) (w : World) (v : Value) (t : List Fi) : Prop :=
  ∃ es : List Value, es.length = t.length ∧ w.ownsRow base 28 2 v t.length (fcells t es) ∧ ∀ i (h : i < t.length), t[i].p.size ≤ maxLen ∧ ∃ u, es[i]? = some u ∧ RdB (fun b => R b ∧ some b ≠ v.ownBlock) w u t[i].b

theorem RdB.one {P : Nat → Prop} {w : World} {v : Value} {l : List UInt8} (h : RdB P w v l) : v.oneCell' = true := by
  obtain ⟨a, cap, rfl, _⟩ := h
  rfl

/-- What is read lies in blocks that are there. -/
theorem RdB.lt {P : Nat → Prop} {w : World} {v : Value} {l : List UInt8} (h : RdB P w v l) : RdB (fun b => P b ∧ b < w.heap.size) w v l := by
  obtain ⟨a, cap, hv, h1, h2, h3, h4⟩ := h
  refine ⟨a, cap, hv, h1, h2, h3, fun hp => ?_⟩
  obtain ⟨b, off, ha, hb, hc⟩ := h4 hp
  exact ⟨b, off, ha, ⟨hb, World.block_lt_of_cell? w _ (hc 0 hp)⟩, hc⟩

theorem RdT.lt {P R : Nat → Prop} {w : World} {v : Value} {t : List Fi} (h : RdT P R w v t) : RdT (fun b => P b ∧ b < w.heap.size) (fun b => R b ∧ b < w.heap.size) w v t := by
  obtain ⟨a, cap, hv, h1, h2, h3, h4⟩ := h
  refine ⟨a, cap, hv, h1, h2, h3, fun hp => ?_⟩
  obtain ⟨b, off, ha, hb, hc⟩ := h4 hp
  refine ⟨b, off, ha, ⟨hb, World.block_lt_of_cell? w _ (hc 0 hp).1⟩, fun i hi => ?_⟩
  obtain ⟨c1, hm, u, c2, hu⟩ := hc i hi
  exact ⟨c1, hm, u, c2, hu.lt⟩

/-- The values of a tree's byte slices. -/
theorem RdT.values {P R : Nat → Prop} {w : World} {v : Value} {t : List Fi} (h : RdT P R w v t) :
    ∃ es : List Value, es.length = t.length ∧ (∀ i (h : i < t.length), t[i].p.size ≤ maxLen ∧ ∃ u, es[i]? = some u ∧ RdB R w u t[i].b) ∧
      ∃ a cap, v = .slice a t.length cap ∧ t.length ≤ cap ∧ cap ≤ maxLen ∧ (a = none → t = [] ∧ cap = 0) ∧ ∀ ad, a = some ad → ∀ j u, (fcells t es)[j]? = some u → w.cell? (ad.add j) = some u := by
  obtain ⟨a, cap, hv, h1, h2, h3, h4⟩ := h
  by_cases hp : 0 < t.length
  · obtain ⟨b, off, ha, hb, hc⟩ := h4 hp
    have hx : ∀ i, ∃ u, ∀ (h : i < t.length), w.cell? ⟨b, off + i * 2 + 1, none⟩ = some u ∧ RdB R w u t[i].b := by
      intro i
      by_cases hi : i < t.length
      · obtain ⟨_, _, u, c2, hu⟩ := hc i hi
        exact ⟨u, fun _ => ⟨c2, hu⟩⟩
      · exact ⟨.bool false, fun h => absurd h hi⟩
    obtain ⟨g, hg⟩ := Classical.axiomOfChoice hx
    have hes : ((List.range t.length).map g).length = t.length := by simp
    refine ⟨(List.range t.length).map g, hes, fun i hi => ⟨(hc i hi).2.1, g i, by simp [hi], (hg i hi).2⟩, a, cap, hv, h1, h2, (fun h => by rw [h] at ha; cases ha), ?_⟩
    intro ad had j u hu
    rw [ha] at had
    obtain rfl := Option.some.inj had
    rw [addr_add]
    have hj : j < t.length * 2 := by rw [← fcells_length t _ hes]; exact (List.getElem?_eq_some_iff.1 hu).1
    obtain ⟨i, hi | hi⟩ : ∃ i, j = i * 2 ∨ j = i * 2 + 1 := ⟨j / 2, by omega⟩
    · subst hi
      rw [fcells_path t _ i (by omega) hes] at hu
      rw [(hc i (by omega)).1, ← hu]
    · subst hi
      rw [fcells_bytes t _ i (by omega) hes] at hu
      have hi : i < t.length := by omega
      simp [hi] at hu
      rw [← Nat.add_assoc, (hg i hi).1, hu]
  · obtain rfl : t = [] := List.eq_nil_of_length_eq_zero (by omega)
    refine ⟨[], rfl, fun i hi => absurd hi (Nat.not_lt_zero _), a, cap, hv, h1, h2, fun h => ⟨rfl, h3 h⟩, fun ad _ j u hu => ?_⟩
    simp [fcells] at hu

theorem OwnT.keeps {base : Nat} {R : Nat → Prop} {w w' : World} {v : Value} {t : List Fi} (h : OwnT base R w v t) (k : Keeps (fun b => R b ∨ some b = v.ownBlock) w w') : OwnT base R w' v t := by
  obtain ⟨es, hl, ho, hc⟩ := h
  refine ⟨es, hl, ⟨ho.1, ?_⟩, fun i hi => ?_⟩
  · rcases ho.2 with hn | ⟨g, cap, cur, rfl, hb, hg, rest⟩
    · exact .inl hn
    · exact .inr ⟨g, cap, cur, rfl, hb, (k g (Or.inr rfl) (Array.getElem?_eq_some_iff.1 hg).1).trans hg, rest⟩
  · obtain ⟨hm, u, hu, hr⟩ := hc i hi
    exact ⟨hm, u, hu, hr.keeps fun b hb hlt => k b (Or.inl hb.1) hlt⟩

theorem OwnT.block {base : Nat} {R : Nat → Prop} {w : World} {v : Value} {t : List Fi} (h : OwnT base R w v t) : ∀ k, v.ownBlock = some k → base ≤ k ∧ k < w.heap.size := by
  obtain ⟨es, _, ho, _⟩ := h
  exact World.ownsRow.lt ho

theorem OwnT.mono {base : Nat} {R R' : Nat → Prop} {w : World} {v : Value} {t : List Fi} (h : OwnT base R w v t) (hr : ∀ b, R b → R' b) : OwnT base R' w v t := by
  obtain ⟨es, hl, ho, hc⟩ := h
  refine ⟨es, hl, ho, fun i hi => ?_⟩
  obtain ⟨hm, u, hu, hd⟩ := hc i hi
  exact ⟨hm, u, hu, hd.mono fun b hb => ⟨hr b hb.1, hb.2⟩⟩

/-- The shape of a row of files of the call's own. -/
theorem OwnT.shape {base : Nat} {R : Nat → Prop} {w : World} {v : Value} {t : List Fi} (h : OwnT base R w v t) :
    (v = .slice none 0 0 ∧ t = []) ∨ ∃ g cap, v = .slice (some ⟨g, 0, none⟩) t.length cap ∧ base ≤ g ∧ g < w.heap.size ∧ t.length ≤ cap ∧ cap ≤ maxLen ∧
      ∀ i (h : i < t.length), w.cell? ⟨g, i * 2, none⟩ = some (.string t[i].p) ∧ t[i].p.size ≤ maxLen ∧ w.frozen? ⟨g, i * 2, none⟩ = false ∧ w.frozen? ⟨g, i * 2 + 1, none⟩ = false ∧
        ∃ u, w.cell? ⟨g, i * 2 + 1, none⟩ = some u ∧ RdB (fun b => R b ∧ b ≠ g) w u t[i].b := by
  obtain ⟨es, hl, ho, hc⟩ := h
  have ho' := ho
  rcases ho.2 with ⟨rfl, hn⟩ | ⟨g, cap, cur, rfl, hb, hg, hnc, hcm, _⟩
  · exact .inl ⟨rfl, List.eq_nil_of_length_eq_zero hn⟩
  · refine .inr ⟨g, cap, rfl, hb, (Array.getElem?_eq_some_iff.1 hg).1, hnc, hcm, fun i hi => ?_⟩
    obtain ⟨hm, u, hu, hd⟩ := hc i hi
    refine ⟨?_, hm, ho'.frozenAt _, ho'.frozenAt _, u, ?_, hd.mono fun b hb => ⟨hb.1, fun e => hb.2 (by rw [e]; rfl)⟩⟩
    · rw [ho'.cellAt (i * 2) (by omega), fcells_path t es i hi hl]
    · rw [ho'.cellAt (i * 2 + 1) (by omega), fcells_bytes t es i hi hl, hu]

theorem OwnT.rd {base : Nat} {R : Nat → Prop} {w : World} {v : Value} {t : List Fi} (h : OwnT base R w v t) : RdT (base ≤ ·) R w v t := by
  rcases h.shape with ⟨rfl, rfl⟩ | ⟨g, cap, rfl, hb, _, hc, hm, hx⟩
  · exact RdT.nil _ _ _
  · refine ⟨_, cap, rfl, hc, hm, (fun h => by cases h), fun _ => ⟨g, 0, rfl, hb, fun i hi => ?_⟩⟩
    obtain ⟨c1, hm', _, _, u, c2, hu⟩ := hx i hi
    exact ⟨by rw [Nat.zero_add]; exact c1, hm', u, by rw [Nat.zero_add]; exact c2, hu.mono fun b hb => hb.1⟩

theorem getElem_set_ne' {α : Type} {l : List α} {i j : Nat} {a : α} (h : i ≠ j) (hj : j < l.length) : (l.set i a)[j]'(by simpa using hj) = l[j] := by
  simp [h]

theorem set_same {α : Type} {l : List α} {i : Nat} {a : α} (h : l[i]? = some a) : l.set i a = l := by
  apply List.ext_getElem?
  intro j
  by_cases e : i = j
  · subst e
    have hi : i < l.length := (List.getElem?_eq_some_iff.1 h).1
    rw [List.getElem?_set_self hi, h]
  · rw [List.getElem?_set_ne e]

/-- A path is stored. -/
theorem OwnT.setPath {base : Nat} {R : Nat → Prop} {w : World} {g n cap : Nat} {t : List Fi} (h : OwnT base R w (.slice (some ⟨g, 0, none⟩) n cap) t) (hn : n = t.length) {i : Nat} (hi : i < t.length) {s : ByteArray} (hs : s.size ≤ maxLen) :
    OwnT base R (w.setCell ⟨g, i * 2, none⟩ (.string s)) (.slice (some ⟨g, 0, none⟩) n cap) (t.set i ⟨s, t[i].b⟩) := by
  subst hn
  obtain ⟨es, hl, ho, hc⟩ := h
  refine ⟨es, by simpa using hl, ?_, fun j hj => ?_⟩
  · rw [fcells_setPath t es i _ hl, List.length_set]
    exact (ho.stored (i * 2) (.string s)).1
  · have hj' : j < t.length := by simpa using hj
    obtain ⟨hm, u, hu, hd⟩ := hc j hj'
    have hd' : RdB (fun b => R b ∧ some b ≠ (Value.slice (some ⟨g, 0, none⟩) t.length cap).ownBlock) (w.setCell ⟨g, i * 2, none⟩ (.string s)) u t[j].b :=
      hd.keeps (Keeps.setCell _ (fun h => h.2 rfl))
    by_cases e : i = j
    · subst e
      simp only [List.getElem_set_self]
      exact ⟨hs, u, hu, hd'⟩
    · rw [getElem_set_ne' e hj']
      exact ⟨hm, u, hu, hd'⟩

/-- A byte slice is stored. -/
theorem OwnT.setBytes {base : Nat} {R : Nat → Prop} {w : World} {g n cap : Nat} {t : List Fi} (h : OwnT base R w (.slice (some ⟨g, 0, none⟩) n cap) t) (hn : n = t.length) {i : Nat} (hi : i < t.length) {x : Value} {l : List UInt8}
    (hx : RdB (fun b => R b ∧ b ≠ g) w x l) :
    OwnT base R (w.setCell ⟨g, i * 2 + 1, none⟩ x) (.slice (some ⟨g, 0, none⟩) n cap) (t.set i ⟨t[i].p, l⟩) := by
  subst hn
  obtain ⟨es, hl, ho, hc⟩ := h
  refine ⟨es.set i x, by simpa using hl, ?_, fun j hj => ?_⟩
  · rw [List.length_set]
    have e1 : fcells (t.set i ⟨t[i].p, l⟩) (es.set i x) = (fcells t es).set (i * 2 + 1) x := by
      rw [fcells_setPath t _ i _ (by simpa using hl), fcells_setBytes t es i x hl, List.set_comm _ _ (by omega)]
      rw [set_same (fcells_path t es i hi hl)]
    rw [e1]
    exact (ho.stored (i * 2 + 1) x).1
  · have hj' : j < t.length := by simpa using hj
    obtain ⟨hm, u, hu, hd⟩ := hc j hj'
    by_cases e : i = j
    · subst e
      simp only [List.getElem_set_self]
      refine ⟨hm, x, by rw [List.getElem?_set_self (by omega)], ?_⟩
      exact (hx.keeps (Keeps.setCell _ (fun h => h.2 rfl))).mono fun b hb => ⟨hb.1, fun e => hb.2 (Option.some.inj e)⟩
    · rw [getElem_set_ne' e hj']
      exact ⟨hm, u, by rw [List.getElem?_set_ne e]; exact hu, hd.keeps (Keeps.setCell _ (fun h => h.2 rfl))⟩

/-- Append files that are read onto files of the call's own. -/
theorem run_append_files {w : World} {base : Nat} {R : Nat → Prop} {v : Value} {t : List Fi} (hown : OwnT base R w v t) {P R' : Nat → Prop} {x : Value} {u : List Fi} (hx : RdT P R' w x u)
    (hR : ∀ b, R' b → some b ≠ v.ownBlock) (hlen : t.length + u.length ≤ 1000) (hbase : base ≤ w.heap.size) (ty : TypeId) :
    ∃ v' w', (Builtin.append_ #[23, 23] ty #[v, x]).run Tryz.prog w = .ok v' w' ∧ OwnT base (fun b => R b ∨ R' b) w' v' (t ++ u) ∧ w.grownBy w' v.ownBlock ∧ (v'.ownBlock = v.ownBlock ∨ v'.ownBlock = some w.heap.size) := by
  obtain ⟨i0, hi, hz0, hz1, hz2⟩ := info_parts info28
  have hown0 := hown
  obtain ⟨es, hel, ho, hc⟩ := hown
  obtain ⟨fs, hfl, hd, a, cap, rfl, h1, h2, h3, h4⟩ := hx.values
  cases a with
  | none =>
    obtain ⟨rfl, rfl⟩ := h3 rfl
    refine ⟨v, w, ?_, by simpa using hown0.mono fun b hb => Or.inl hb, World.grownBy.refl _ _, .inl rfl⟩
    rcases ho.2 with ⟨rfl, hn⟩ | ⟨g, cap', cur, rfl, _, _, hnc, _⟩
    · simp [Builtin.append_, run_underlying Tryz.underlying23, sizeOf, typeInfo, hi, Builtin.lenOf, Builtin.firstCells]
    · simp [Builtin.append_, run_underlying Tryz.underlying23, sizeOf, typeInfo, hi, Builtin.lenOf, Builtin.firstCells, hnc, storeCells]
  | some ad =>
    have hone : ∀ y ∈ fcells u fs, y.oneCell' = true := by
      refine fcells_one u fs fun y hy => ?_
      obtain ⟨i, hi, hiy⟩ := List.mem_iff_getElem.1 hy
      obtain ⟨_, z, hz, hzd⟩ := hd i (by omega)
      have e : fs[i]? = some y := by rw [List.getElem?_eq_getElem hi, hiy]
      rw [hz] at e
      obtain rfl := Option.some.inj e
      exact hzd.one
    obtain ⟨v', w', hr, ho', hg, _, hb⟩ := run_append_own_at (P := Tryz.prog) w base 23 ty 28 i0 _ 2 40 Tryz.underlying23 hi hz0 hz1 hz2 rfl (by decide) v t.length (fcells t es) ho ad u.length cap (fcells u fs)
      (fcells_length u fs hfl) (h4 ad rfl) hone (by simp only [maxLen]; omega) (by omega) hbase
    refine ⟨v', w', hr, ⟨es ++ fs, by simp [hel, hfl], ?_, fun i hi => ?_⟩, hg, hb⟩
    · rw [fcells_append t es u fs hel, List.length_append]
      exact ho'
    · have hne : ∀ b, b < w.heap.size → some b ≠ v.ownBlock → some b ≠ v'.ownBlock := fun b hlt hne e => by
        rcases hb with hb | hb
        · exact hne (e.trans hb)
        · rw [hb] at e
          have := Option.some.inj e
          omega
      by_cases hit : i < t.length
      · obtain ⟨hm, y, hy, hyd⟩ := hc i hit
        have e1 : (t ++ u)[i] = t[i] := List.getElem_append_left hit
        rw [e1]
        refine ⟨hm, y, by rw [List.getElem?_append_left (by omega)]; exact hy, ?_⟩
        exact (hyd.lt.keeps fun b hb hlt => hg.block b hlt hb.1.2).mono fun b hb => ⟨Or.inl hb.1.1, hne b hb.2 hb.1.2⟩
      · have hiu : i - t.length < u.length := by simp at hi; omega
        obtain ⟨hm, y, hy, hyd⟩ := hd (i - t.length) hiu
        have e1 : (t ++ u)[i] = u[i - t.length] := List.getElem_append_right (by omega)
        rw [e1]
        refine ⟨hm, y, by rw [List.getElem?_append_right (by omega), hel]; exact hy, ?_⟩
        exact (hyd.lt.keeps fun b hb hlt => hg.block b hlt (hR b hb.1)).mono fun b hb => ⟨Or.inr hb.1, hne b hb.2 (hR b hb.1)⟩

theorem append_files {w : World} {ops : Array Oper} {rest : List Oper} {o : Oper} {a : Act} {Q : Exit → Act → World → Prop} (hgd : o.guard = none) (s x : Operand)
    (ho : o.op = .call { callee := .builtin .append, args := #[s, x], argTypes := #[23, 23] }) {base : Nat} {R : Nat → Prop} {v : Value} {t : List Fi} (hs : a.eval s = v) (hown : OwnT base R w v t) {P R' : Nat → Prop} {xv : Value} {u : List Fi}
    (hxv : a.eval x = xv) (hx : RdT P R' w xv u) (hR : ∀ b, R' b → some b ≠ v.ownBlock) (hlen : t.length + u.length ≤ 1000) (hbase : base ≤ w.heap.size)
    (h : ∀ v' w', OwnT base (fun b => R b ∨ R' b) w' v' (t ++ u) → w.grownBy w' v.ownBlock → (v'.ownBlock = v.ownBlock ∨ v'.ownBlock = some w.heap.size) → wpList Tryz.prog ops Q rest (a.put o.dst v') w') : wpList Tryz.prog ops Q (o :: rest) a w := by
  refine wpList_plain hgd fun K hK => ?_
  obtain ⟨v', w', hr, h2, h3, h4⟩ := run_append_files hown hx hR hlen hbase o.type
  unfold Oper.wp execOp
  simp only [ho, resolve, invoke, builtin, Sem.run_bind, Sem.run_pure, Result.andThen_ok, List.map_toArray, List.map_cons, List.map_nil, hs, hxv, hr]
  exact hK _ _ (h v' w' h2 h3 h4)

theorem ownT_empty {base : Nat} {R : Nat → Prop} {w : World} (hb : base ≤ w.heap.size) : OwnT base R (w.alloc (.cells #[] 28)) (.slice (some ⟨w.heap.size, 0, none⟩) 0 0) [] :=
  ⟨[], rfl, World.ownsRow_made w #[] 0 hb (by decide) rfl, fun _ h => absurd h (Nat.not_lt_zero _)⟩

theorem ownT_nil {base : Nat} {R : Nat → Prop} {w : World} : OwnT base R w (.slice none 0 0) [] :=
  ⟨[], rfl, World.ownsRow_nil _ _ _ _, fun _ h => absurd h (Nat.not_lt_zero _)⟩

/-- Files come back in a row of the call's own, their bytes where they were. -/
def RetT (R : Nat → Prop) (t : List Fi) (w : World) (e : Ending) (w' : World) : Prop := ∃ v, e = .returned v ∧ OwnT w.heap.size R w' v t ∧ Below w.heap.size w w'

set_option maxHeartbeats 400000 in
theorem cloneT_f {P R : Nat → Prop} {v : Value} {t : List Fi} {w : World} (hv : RdT P R w v t) (hl : t.length ≤ 1000) : Calls Tryz.prog 15 #[v] w (RetT (fun b => R b ∧ b < w.heap.size) t w) := by
  have hv0 := hv.lt
  obtain ⟨a, cap, rfl, h1, h2, h3, _⟩ := hv
  cases a with
  | none =>
    obtain rfl : cap = 0 := h3 rfl
    obtain rfl : t = [] := List.eq_nil_of_length_eq_zero (by omega)
    clear h1 h2 h3 hv0 hl
    have he := fun wx => Lib.run_eql_slice_nil (P := Tryz.prog) wx 23 28 none 0 0 0 0 Tryz.underlying23
    go_enter Tryz.func15, Tryz.ntmps15
    go_wp2
    go_ret
    exact ⟨_, rfl, ownT_nil, Below.refl _ _⟩
  | some ad =>
    have he := fun wx => Lib.run_eql_slice_nil (P := Tryz.prog) wx 23 28 (some ad) t.length cap 0 0 Tryz.underlying23
    go_enter Tryz.func15, Tryz.ntmps15
    go_wp2_with (first | (at_builtin; with_reducible refine at_op ?_))
    refine append_files (R := fun _ => False) rfl (.tmp 5) (.tmp 6) rfl rfl (ownT_empty (Nat.le_refl _)) rfl (hv0.keeps (Keeps.alloc _) (Keeps.alloc _)) (fun b hb e => ?_) (by simpa using hl) (by simp) ?_
    · obtain rfl : b = w.heap.size := Option.some.inj e
      exact Nat.lt_irrefl _ hb.2
    · intro v' w' ho hg hb
      have hB : Below w.heap.size w w' := ((Below.refl _ _).alloc (Nat.le_refl _) _).trans (below_own hg (by simp) (fun k hk => by obtain rfl : w.heap.size = k := Option.some.inj hk; exact Nat.le_refl _))
      go_wp2
      go_ret
      exact ⟨_, rfl, ho.mono fun b hb => hb.resolve_left id, hB⟩

end Go.Proofs.YteckjgngglpcaaaGreatDoor
