/-
  VmPacks: what the law answers, by contracts.
-/
import Derived.Test.YteckjgngglpcaaaGreatDoorPacks2
import Derived.Test.YteckjgngglpcaaaGreatDoorKnown2
namespace Go.Proofs.YteckjgngglpcaaaGreatDoor
open Go.RowKit

theorem tok_TO {t : List Fi} (h : Small t) : TOK (TO t (rawL t)) ∧ szs (TO t (rawL t)) ≤ 4000 := by
  have hr := h.raw
  have hs := h.szs
  have h6 := h.h6
  have hV : ∀ f ∈ t.map (pre uP), ∃ l, f.p.toList = 117 :: 47 :: l := fun f hf => by
    obtain ⟨g, _, rfl⟩ := List.mem_map.1 hf
    exact ⟨g.p.toList, by show (uP ++ slash ++ g.p).toList = _; rw [toList_pre, tl_u]; rfl⟩
  have e1 : putF yP (rawL t) (t.map (pre uP)) = t.map (pre uP) ++ [⟨yP, rawL t⟩] := by
    have := putF_app (s := yP) (l := rawL t) (A := t.map (pre uP)) [] (fun f hf => by obtain ⟨l, e⟩ := hV f hf; rw [e, tl_y]; rfl)
    rwa [List.append_nil] at this
  have e2 : putF zP (rawL t) (t.map (pre uP) ++ [⟨yP, rawL t⟩]) = TO t (rawL t) := by
    have := putF_app (s := zP) (l := rawL t) (A := t.map (pre uP) ++ [⟨yP, rawL t⟩]) [] (fun f hf => by
      rcases List.mem_append.1 hf with hf | hf
      · obtain ⟨l, e⟩ := hV f hf; rw [e, tl_z]; rfl
      · obtain rfl := List.mem_singleton.1 hf
        show Op.bytesLess yP.toList _ = true
        rw [tl_y, tl_z]; rfl)
    rw [List.append_nil] at this
    rw [this]
    unfold TO
    simp [putF]
  have h1 := h.V.put pok_y (l := rawL t) (by omega) (by rw [e1]; simp; omega)
  rw [e1] at h1
  have h2 := h1.put pok_z (l := rawL t) (by omega) (by rw [e2]; unfold TO; simp; omega)
  rw [e2] at h2
  refine ⟨h2, ?_⟩
  unfold TO
  rw [szs_append, szs_pre]
  have : szs [⟨yP, rawL t⟩, ⟨zP, rawL t⟩] = (rawL t).length + (rawL t).length := by simp [Go.Proofs.YteckjgngglpcaaaGreatDoor.szs]
  rw [this]
  omega

theorem below_TO (t : List Fi) (r : List UInt8) : belowF uP (TO t r) = t := by
  unfold TO
  rw [belowF_append, belowF_pre, belowF_none, List.append_nil]
  intro f hf
  simp only [List.mem_cons, List.not_mem_nil, or_false] at hf
  rcases hf with rfl | rfl
  · show (yP.toList.take _ == _) = false; rw [tl_y, tl_u]; rfl
  · show (zP.toList.take _ == _) = false; rw [tl_z, tl_u]; rfl

theorem hit_z (t : List Fi) (r : List UInt8) : ∃ (k : Nat) (hk : k < (TO t r).length), (TO t r)[k] = ⟨zP, r⟩ := by
  have h : (⟨zP, r⟩ : Fi) ∈ TO t r := by unfold TO; simp
  obtain ⟨k, hk, e⟩ := List.mem_iff_getElem.1 h
  exact ⟨k, hk, e⟩

theorem hit_y (t : List Fi) (r : List UInt8) : ∃ (k : Nat) (hk : k < (TO t r).length), (TO t r)[k] = ⟨yP, r⟩ := by
  have h : (⟨yP, r⟩ : Fi) ∈ TO t r := by unfold TO; simp
  obtain ⟨k, hk, e⟩ := List.mem_iff_getElem.1 h
  exact ⟨k, hk, e⟩

theorem rdP_five {w : World} {g : Nat} {x y z p q : In} (h : w.heap[g]? = some (.cells #[.int .u8 x.op, .string x.a, .string x.b, .string .empty, .int .i64 x.n, .int .i64 0, .int .u8 y.op, .string y.a, .string y.b, .string .empty, .int .i64 y.n, .int .i64 0,
    .int .u8 z.op, .string z.a, .string z.b, .string .empty, .int .i64 z.n, .int .i64 0, .int .u8 p.op, .string p.a, .string p.b, .string .empty, .int .i64 p.n, .int .i64 0, .int .u8 q.op, .string q.a, .string q.b, .string .empty, .int .i64 q.n, .int .i64 0] 35 (0, 0))) :
    RdP (fun _ => True) w (.slice (some ⟨g, 0, none⟩) 5 5) [x, y, z, p, q] := by
  refine ⟨g, 0, 5, rfl, Nat.le_refl _, by simp only [maxLen]; decide, trivial, fun i hi => ?_⟩
  simp only [cell_of_row w g _ _ _ _ h]
  match i, hi with
  | 0, _ => exact ⟨rfl, rfl, rfl, rfl, rfl, rfl⟩
  | 1, _ => exact ⟨rfl, rfl, rfl, rfl, rfl, rfl⟩
  | 2, _ => exact ⟨rfl, rfl, rfl, rfl, rfl, rfl⟩
  | 3, _ => exact ⟨rfl, rfl, rfl, rfl, rfl, rfl⟩
  | 4, _ => exact ⟨rfl, rfl, rfl, rfl, rfl, rfl⟩

/-- What the law answers. -/
def TrueSo (w : World) (e : Ending) (w' : World) : Prop := e = .returned (.bool true) ∧ Below w.heap.size w w'

set_option maxRecDepth 100000 in
set_option maxHeartbeats 4000000 in
theorem law_f {P R : Nat → Prop} {w : World} (hF : Fields w) {v : Value} {t : List Fi} (ht : RdT P R w v t) : Calls Tryz.prog 3 #[v] w (TrueSo w) := by
  have hkn : ∀ W : World, Below w.heap.size w W → Calls Tryz.prog 5 #[] W fun e w' => e = .returned (.bool true) ∧ Below W.heap.size W w' := fun W hW => known_f (hF.below hW)
  have HK := Lib.hid hkn
  obtain ⟨a, cap, e, _, hcm⟩ := ht.shape
  subst e
  unfold maxLen at hcm
  clear hkn
  by_cases h6 : t.length ≤ 6
  · go_enter Tryz.func3, Tryz.ntmps3
    go_wp2_with fail
    refine (refMay_f _ _ _ _ _ ht).mono ?_
    rintro e w1 ⟨ok, rfl, hok, hB1⟩
    cases ok with
    | false =>
      go_wp2_with fail
      refine (HK.out _ hB1).mono ?_
      rintro e w2 ⟨rfl, hB2⟩
      go_wp2
      go_ret
      exact ⟨rfl, Below.then hB1 hB2⟩
    | true =>
      obtain ⟨hT, hz⟩ := hok rfl
      go_wp2
      go_loopw [3, 28] (fun s i wx => ∃ k : Nat, k ≤ t.length ∧ s = .int .i64 (szs (t.take k)) ∧ i = .int .i64 k ∧ w1 = wx ∧ ∀ f ∈ t.take k, f.p.size ≤ 8 ∧ f.b.length ≤ 200)
        (fun _ i _ => t.length - (intOf i).toNat)
      case atStart => exact ⟨0, by omega, by simp [szs], rfl, rfl, fun f hf => by simp at hf⟩
      case round =>
        obtain ⟨k, hk, rfl, rfl, rfl, hsm⟩ := hrel
        have ht1 := ht.keeps (Keeps.below hB1) (Keeps.below hB1)
        by_cases hlt : k < t.length
        · obtain ⟨b, off, cap', e, _, _, hb, hc⟩ := ht1.at (by omega)
          simp only [Value.slice.injEq] at e
          obtain ⟨rfl, -, rfl⟩ := e
          obtain ⟨c1, hpm, u, c2, hu⟩ := hc k hlt
          obtain ⟨ua, uc, rfl, _, _⟩ := hu.shape
          have hall := hT.all _ (List.getElem_mem hlt)
          have hp40 := hall.1.hi
          have hb2 := hall.2
          have hnx := szs_take hlt
          have hle := szs_le_all (t := t) k
          clear hc
          by_cases h8 : t[k].p.size ≤ 8
          · by_cases h200 : t[k].b.length ≤ 200
            · have d8 : decide ((8 : Int) < (t[k].p.size : Int)) = false := decide_eq_false (by omega)
              have d200 : decide ((200 : Int) < (t[k].b.length : Int)) = false := decide_eq_false (by omega)
              have Hnx := Lib.hid hnx
              have Hsm := Lib.hid hsm
              clear hnx hsm
              go_wp2
              go_roundw
              case rel => exact ⟨k + 1, by omega, by rw [Hnx.out]; go_num, by go_num, trivial, fun f hf => by
                rw [← List.take_append_getElem hlt] at hf
                rcases List.mem_append.1 hf with hf | hf
                · exact Hsm.out f hf
                · obtain rfl := List.mem_singleton.1 hf
                  exact ⟨h8, h200⟩⟩
              case measure => simp [intOf]; omega
            · have d8 : decide ((8 : Int) < (t[k].p.size : Int)) = false := decide_eq_false (by omega)
              have d200 : decide ((200 : Int) < (t[k].b.length : Int)) = true := decide_eq_true (by omega)
              clear hnx hsm
              go_wp2_with fail
              refine (HK.out _ hB1).mono ?_
              rintro e w2 ⟨rfl, hB2⟩
              go_wp2
              go_ret
              exact ⟨rfl, Below.then hB1 hB2⟩
          · have d8 : decide ((8 : Int) < (t[k].p.size : Int)) = true := decide_eq_true (by omega)
            clear hnx hsm
            go_wp2_with fail
            refine (HK.out _ hB1).mono ?_
            rintro e w2 ⟨rfl, hB2⟩
            go_wp2
            go_ret
            exact ⟨rfl, Below.then hB1 hB2⟩
        · obtain rfl : k = t.length := by omega
          rw [List.take_length] at hsm ⊢
          have hS : Small t := ⟨hT, h6, fun f hf => (hsm f hf).1, fun f hf => (hsm f hf).2⟩
          clear hsm
          go_wp2_with fail
          refine (under_f ht1 hT hz dP pok_d hS.fitD).mono ?_
          rintro e w2 ⟨v2, rfl, ho2, hB2⟩
          have hB12 := Below.then hB1 hB2
          have ht2 := ht.keeps (Keeps.below hB12) (Keeps.below hB12)
          obtain ⟨oa, oc, e, _, _⟩ := ho2.rd.shape
          subst e
          go_wp2_with fail
          refine (treeBytes_f ht2 hT hz).mono ?_
          rintro e w3 ⟨v3, rfl, hr3, hB3⟩
          have hB13 := Below.then hB12 hB3
          obtain ⟨ra, rc, e, _, _⟩ := hr3.shape
          subst e
          have hD3 := ho2.rd.keeps (Keeps.below hB3) (Keeps.below hB3)
          have eL : (t.map (pre dP)).length = t.length := List.length_map _
          have hD4 := fun O : Obj => hD3.keeps (Keeps.alloc O) (Keeps.alloc O)
          rw [eL] at hD4
          go_wp2_with fail
          refine (packs_f (hF.below (Below.then hB13 ((Below.refl _ _).alloc (Nat.le_refl _) _))) hS (rdP_five (x := ⟨6, dP, zP, 0⟩) (y := ⟨1, zP, ozP, 0⟩) (z := ⟨7, zP, ouP, 0⟩) (p := ⟨7, zP, dP, 0⟩) (q := ⟨6, dP, oyP, 0⟩) (heap_alloc_new w3 _)) (hD4 _)).mono ?_
          rintro e w4 ⟨hB4, ⟨u, rfl, h600⟩ | ⟨v4, u, rfl, hTO⟩⟩
          · have hBa := Below.then (Below.then hB13 ((Below.refl _ _).alloc (Nat.le_refl _) _)) hB4
            have d600 : decide ((600 : Int) < (szs t : Int)) = true := decide_eq_true (by omega)
            go_wp2_with fail
            refine (HK.out _ hBa).mono ?_
            rintro e w5 ⟨rfl, hB5⟩
            go_wp2
            go_ret
            exact ⟨rfl, Below.then hBa hB5⟩
          · have hBa := Below.then (Below.then hB13 ((Below.refl _ _).alloc (Nat.le_refl _) _)) hB4
            obtain ⟨hTT, hzT⟩ := tok_TO hS
            obtain ⟨kz, hkz, ez⟩ := hit_z t (rawL t)
            obtain ⟨ky, hky, ey⟩ := hit_y t (rawL t)
            obtain ⟨va, vc, e, _, _⟩ := hTO.shape
            subst e
            have hr4 := hr3.keeps (Keeps.below (Below.then ((Below.refl _ _).alloc (Nat.le_refl _) _) hB4))
            go_wp2_with fail
            refine (get_hit hTO hTT hzT zP hkz (by rw [ez])).mono ?_
            rintro e w5 ⟨x5, rfl, hx5, hB5⟩
            rw [ez] at hx5
            obtain ⟨xa, xc, e, _, _⟩ := hx5.shape
            subst e
            have hTO5 := hTO.keeps (Keeps.below hB5) (Keeps.below hB5)
            go_wp2_with fail
            refine (get_hit hTO5 hTT hzT yP hky (by rw [ey])).mono ?_
            rintro e w6 ⟨x6, rfl, hx6, hB6⟩
            rw [ey] at hx6
            obtain ⟨ya, yc, e, _, _⟩ := hx6.shape
            subst e
            have k1 := run_string (hx5.keeps (Keeps.below hB6))
            have k2 := run_string hx6
            have k3 := run_string (hr4.keeps (Keeps.below (Below.then hB5 hB6)))
            have hTO6 := hTO5.keeps (Keeps.below hB6) (Keeps.below hB6)
            have hB16 := Below.then hBa (Below.then hB5 hB6)
            go_wp2_with fail
            refine (below_f (d := uP) hTO6 hTT hzT pok_u).mono ?_
            rintro e w7 ⟨v7, rfl, ho7, hB7⟩
            rw [below_TO] at ho7
            have hB17 := Below.then hB16 hB7
            have ht7 := ht.keeps (Keeps.below hB17) (Keeps.below hB17)
            obtain ⟨za, zc, e, _, _⟩ := ho7.rd.shape
            subst e
            go_wp2_with fail
            refine (same_f ho7.rd ht7 (by omega)).mono ?_
            rintro e w8 ⟨rfl, hB8⟩
            have hB18 := Below.then hB17 hB8
            go_wp2_with fail
            refine (HK.out _ hB18).mono ?_
            rintro e w9 ⟨rfl, hB9⟩
            go_wp2
            go_ret
            exact ⟨rfl, Below.then hB18 hB9⟩
  · have hd : decide ((6 : Int) < (t.length : Int)) = true := decide_eq_true (by omega)
    go_enter Tryz.func3, Tryz.ntmps3
    go_wp2_with fail
    refine (HK.out _ (Below.refl _ _)).mono ?_
    rintro e w1 ⟨rfl, hB1⟩
    go_wp2
    go_ret
    exact ⟨rfl, hB1⟩
end Go.Proofs.YteckjgngglpcaaaGreatDoor
