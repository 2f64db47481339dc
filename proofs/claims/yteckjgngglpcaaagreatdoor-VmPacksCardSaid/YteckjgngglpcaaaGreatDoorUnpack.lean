/-
  Unpacking: a tree's files, put below a directory.
-/
import Derived.Test.YteckjgngglpcaaaGreatDoorPack
namespace Go.Proofs.YteckjgngglpcaaaGreatDoor
open Go.RowKit

/-- Files put, one after the other. -/
def putAll : List Fi → List Fi → List Fi
  | [], t => t
  | f :: fs, t => putAll fs (putF f.p f.b t)

/-- What putting them costs. -/
def costs : List Fi → Nat
  | [] => 0
  | f :: fs => (f.b.length + 15) / 16 + costs fs

theorem putAll_snoc : ∀ (fs : List Fi) (f : Fi) (t : List Fi), putAll (fs ++ [f]) t = putF f.p f.b (putAll fs t)
  | [], _, _ => rfl
  | g :: fs, f, t => by simp [putAll, putAll_snoc fs f]

theorem costs_snoc : ∀ (fs : List Fi) (f : Fi), costs (fs ++ [f]) = costs fs + (f.b.length + 15) / 16
  | [], _ => by simp [costs]
  | g :: fs, f => by simp [costs, costs_snoc fs f]; omega

theorem putAll_take {u : List Fi} {k : Nat} (hk : k < u.length) (t : List Fi) : putAll (u.take (k + 1)) t = putF u[k].p u[k].b (putAll (u.take k) t) := by
  rw [← List.take_append_getElem hk, putAll_snoc]

theorem costs_take {u : List Fi} {k : Nat} (hk : k < u.length) : costs (u.take (k + 1)) = costs (u.take k) + (u[k].b.length + 15) / 16 := by
  rw [← List.take_append_getElem hk, costs_snoc]

theorem costs_le : ∀ (u : List Fi) (k : Nat), costs (u.take k) ≤ costs u
  | [], k => by simp [costs]
  | f :: u, 0 => by simp [costs]
  | f :: u, k + 1 => by have := costs_le u k; simp [costs]; omega

/-- What unpacking does. -/
def UnpackSo (X fuel : Nat) (s : VM) (u : List Fi) (w : World) (x : Ending) (w' : World) : Prop :=
  Vk X w w' ∧ ((x = .returned (.tuple #[]) ∧ Run X w' fuel { t := putAll u s.t, place := s.place, used := s.used + costs u } ∧ TOK (putAll u s.t) ∧ szs (putAll u s.t) ≤ 4000) ∨
    (x = .panicked (stopC 8) ∧ (∃ s', Run X w' fuel s') ∧ ∃ k, k ≤ u.length ∧ ¬ szs (putAll (u.take k) s.t) ≤ 4000))

set_option maxRecDepth 100000 in
set_option maxHeartbeats 2000000 in
theorem unpack_f {X fuel : Nat} {s : VM} {w : World} {P : Nat → Prop} (h : Run X w fuel s) (hT : TOK s.t) (hz : szs s.t ≤ 4000) (hf : fuel ≤ 20000) {tt : List Fi} {bv : Value} (hb : RdB P w bv (rawL tt)) (hTt : TOK tt) (hzt : szs tt ≤ 4000) {d : ByteArray} (hd : POK d)
    (hfit : ∀ i (h : i < tt.length), d.size + 1 + tt[i].p.size ≤ 40) (h16 : ∀ k, k ≤ tt.length → (putAll ((tt.map (pre d)).take k) s.t).length ≤ 16) (hfuel : s.used + costs (tt.map (pre d)) ≤ fuel) :
    Calls Tryz.prog 49 #[.pointer (some ⟨X, 0, none⟩), bv, .string d] w (UnpackSo X fuel s (tt.map (pre d)) w) := by
  have hlt := h.lt
  obtain ⟨ba, bc, e, _, _⟩ := hb.shape
  subst e
  have hTp := hTt.pre hd hfit
  have hlp : (tt.map (pre d)).length = tt.length := List.length_map _
  obtain ⟨u, hu⟩ : ∃ u, tt.map (pre d) = u := ⟨_, rfl⟩
  rw [hu] at h16 hfuel hTp hlp ⊢
  rw [← hlp] at h16
  go_enter Tryz.func49, Tryz.ntmps49
  go_wp2_with fail
  refine (read_f hTt hzt hb).mono ?_
  rintro e w1 ⟨v1, rfl, ho1, hB1⟩
  obtain ⟨a1, q1, e, _, _⟩ := ho1.rd.shape
  subst e
  go_wp2_with fail
  refine (must_ok _ _).mono ?_
  rintro e w2 ⟨rfl, rfl⟩
  go_wp2_with fail
  refine (under_f ho1.rd hTt hzt d hd hfit).mono ?_
  rintro e w2 ⟨v2, rfl, ho2, hB2⟩
  rw [hu] at ho2
  clear hfit hu
  obtain ⟨a2, q2, e, _, hm2⟩ := ho2.rd.shape
  subst e
  unfold maxLen at hm2
  go_wp2_with fail
  refine (must_ok _ _).mono ?_
  rintro e w3 ⟨rfl, rfl⟩
  have hB12 := Below.then hB1 hB2
  have hR2 := h.below hB12
  have hV2 : Vk X w w2 := Vk.below hB12
  have hu2 := ho2.rd.mono (P' := (· ≠ X)) (R' := (· ≠ X)) (fun b (hb : w1.heap.size ≤ b) => by have := hB1.size; omega) (fun b (hb : w1.heap.size ≤ b) => by have := hB1.size; omega)
  go_wp2
  go_loopw [30] (fun i wr => ∃ k : Nat, k ≤ u.length ∧ i = .int .i64 k ∧ Run X wr fuel { t := putAll (u.take k) s.t, place := s.place, used := s.used + costs (u.take k) } ∧ TOK (putAll (u.take k) s.t) ∧ szs (putAll (u.take k) s.t) ≤ 4000 ∧ Vk X w2 wr)
    (fun i _ => u.length - (intOf i).toNat)
  case atStart => exact ⟨0, by omega, rfl, by simpa [putAll, costs] using hR2, by simpa [putAll] using hT, by simpa [putAll] using hz, Vk.refl _ _⟩
  case round =>
    obtain ⟨k, hk, rfl, hRr, hTr, hzr, hVr⟩ := hrel
    have hur := hu2.keeps hVr.1 hVr.1
    by_cases hlt : k < u.length
    · obtain ⟨b, off, cap', e, _, _, hb, hc⟩ := hur.at (by omega)
      simp only [Value.slice.injEq] at e
      obtain ⟨rfl, -, rfl⟩ := e
      obtain ⟨c1, hpm, x, c2, hx⟩ := hc k hlt
      obtain ⟨xa, xc, rfl, _, _⟩ := hx.shape
      have hpk := hTp.all _ (List.getElem_mem hlt)
      have hcs := costs_take hlt
      have hcl := costs_le u (k + 1)
      have h16k := h16 (k + 1) (by omega)
      have hpa := putAll_take hlt s.t
      rw [hpa] at h16k
      clear hc
      have hRa := hRr.below ((Below.refl _ _).alloc (Nat.le_refl _) (Obj.cells #[Value.string u[k].p, Value.slice xa u[k].b.length xc] 28))
      have hxa := hx.keeps (Keeps.alloc (Obj.cells #[Value.string u[k].p, Value.slice xa u[k].b.length xc] 28))
      have hVa : Vk X wr (wr.alloc (Obj.cells #[Value.string u[k].p, Value.slice xa u[k].b.length xc] 28)) := Vk.below ((Below.refl _ _).alloc (Nat.le_refl _) _)
      by_cases hfz : szs (putF u[k].p u[k].b (putAll (u.take k) s.t)) ≤ 4000
      · have hput := put_ok hRa hTr hzr hf hpk.1 hxa (fun b hb => hb) hpk.2 h16k (by simp only; omega) hfz
        clear hRa
        go_wp2_with fail
        refine hput.mono ?_
        rintro e w4 ⟨rfl, hR4, hV4⟩
        go_wp2
        go_roundw
        case rel => exact ⟨k + 1, by omega, by go_num, by rw [hpa, hcs]; simpa [Nat.add_assoc] using hR4, by rw [hpa]; exact hTr.put hpk.1 hpk.2 h16k, by rw [hpa]; exact hfz, hVr.trans (hVa.trans hV4)⟩
        case measure => simp [intOf]; omega
      · have hput := put_full hRa hTr hzr hf hpk.1 hxa (fun b hb => hb) hpk.2 h16k (by simp only; omega) hfz
        clear hRa
        go_wp2_with fail
        refine hput.mono ?_
        rintro e w4 ⟨rfl, hs4, hV4⟩
        go_wp2
        exact ⟨rfl, hV2.trans (hVr.trans (hVa.trans hV4)), .inr ⟨rfl, hs4, k + 1, by omega, by rw [hpa]; exact hfz⟩⟩
    · obtain rfl : k = u.length := by omega
      rw [List.take_length] at hRr hTr hzr
      go_wp2
      go_end0
      exact ⟨hV2.trans hVr, .inl ⟨rfl, hRr, hTr, hzr⟩⟩
end Go.Proofs.YteckjgngglpcaaaGreatDoor
