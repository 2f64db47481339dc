/-
  A tree read back from its bytes.
-/
import Derived.Test.YteckjgngglpcaaaGreatDoorBytes
namespace Go.Proofs.YteckjgngglpcaaaGreatDoor
open Go.RowKit

theorem raws_split {t : List Fi} {k : Nat} (hk : k < t.length) : rawsL t = rawsL (t.take k) ++ (rawF t[k] ++ rawsL (t.drop (k + 1))) := by
  have e : t = t.take k ++ t[k] :: t.drop (k + 1) := by
    rw [← List.drop_eq_getElem_cons hk, List.take_append_drop]
  have h : rawsL (t.take k ++ t[k] :: t.drop (k + 1)) = rawsL (t.take k) ++ (rawF t[k] ++ rawsL (t.drop (k + 1))) := by
    unfold rawsL
    rw [List.map_append, List.flatten_append, List.map_cons, List.flatten_cons]
  rw [← e] at h
  exact h

/-- Where the file number k begins in a tree's bytes. -/
def posL (t : List Fi) (k : Nat) : Nat := (formL t.length).length + (rawsL (t.take k)).length

theorem raw_drop {t : List Fi} {k : Nat} (hk : k < t.length) : (rawL t).drop (posL t k) = formL t[k].p.data.toList.length ++ (t[k].p.data.toList ++ (formL t[k].b.length ++ (t[k].b ++ rawsL (t.drop (k + 1))))) := by
  have h := raws_split hk
  unfold rawL posL
  rw [h, ← List.append_assoc, ← List.length_append, List.drop_left]
  simp [rawF]

theorem raw_drop2 {t : List Fi} {k : Nat} (hk : k < t.length) : (rawL t).drop (posL t k + (formL t[k].p.data.toList.length).length + t[k].p.data.toList.length) = formL t[k].b.length ++ (t[k].b ++ rawsL (t.drop (k + 1))) := by
  rw [Nat.add_assoc, ← List.drop_drop, raw_drop hk, ← List.append_assoc, ← List.length_append, List.drop_left]

theorem pos_succ {t : List Fi} {k : Nat} (hk : k < t.length) : posL t (k + 1) = posL t k + (formL t[k].p.data.toList.length).length + t[k].p.data.toList.length + (formL t[k].b.length).length + t[k].b.length := by
  unfold posL
  rw [raws_take hk]
  simp only [rawF, List.length_append]
  omega

theorem pos_all (t : List Fi) : posL t t.length = (rawL t).length := by
  unfold posL rawL
  rw [List.take_length, List.length_append]

theorem raw_len {t : List Fi} (hT : TOK t) : (rawL t).length ≤ 3 + 46 * t.length + szs t := by
  have h1 := formL_len t.length
  have h2 := raws_len (t := t) (fun f hf => (hT.all f hf).1)
  unfold rawL
  rw [List.length_append]
  omega

theorem txt_self (s : ByteArray) : txt s.data.toList = s := by
  unfold txt
  simp

/-- What reading a tree answers. -/
def ReadSo (t : List Fi) (w : World) (e : Ending) (w' : World) : Prop := ∃ v, e = .returned (.tuple #[v, .int .i64 0]) ∧ OwnT w.heap.size (w.heap.size ≤ ·) w' v t ∧ Below w.heap.size w w'

set_option maxRecDepth 100000 in
set_option maxHeartbeats 1000000 in
theorem read_f {P : Nat → Prop} {v : Value} {t : List Fi} {w : World} (hT : TOK t) (hz : szs t ≤ 4000) (hv : RdB P w v (rawL t)) : Calls Tryz.prog 63 #[v] w (ReadSo t w) := by
  have hl := hT.len
  have hrl := raw_len hT
  have hall := Lib.hid hT.all
  have hmay := fun (W : World) (x : Value) h => may_f (w.heap.size ≤ ·) (w.heap.size ≤ ·) x t W h hT
  have hzd : decide (szs t ≤ 4000) = true := decide_eq_true hz
  rw [hzd] at hmay
  have huint := uint_f (a := 0) (n := t.length) hv (by omega) (post := rawsL t) (by simp [rawL])
  have hv0 := hv
  obtain ⟨a, cap, rfl, h1, h2⟩ := hv.shape
  unfold maxLen at h2
  have hd0 : decide ((16 : Int) < (t.length : Int)) = false := decide_eq_false (by omega)
  have hpa := Lib.hid (pos_all t)
  go_enter Tryz.func63, Tryz.ntmps63
  go_wp2_with fail
  refine huint.mono ?_
  rintro e w1 ⟨rfl, rfl⟩
  go_wp2
  go_loopw [5, 7, 25] (fun p s i wx => ∃ k : Nat, k ≤ t.length ∧ p = .int .i64 (posL t k) ∧ i = .int .u64 k ∧ OwnT w.heap.size (w.heap.size ≤ ·) wx s (t.take k) ∧ Below w.heap.size w wx)
    (fun _ _ i _ => t.length - (intOf i).toNat)
  case atStart => exact ⟨0, by omega, by simp [posL, rawsL], rfl, ownT_nil, Below.refl _ _⟩
  case round =>
    obtain ⟨k, hk, rfl, rfl, hO, hB⟩ := hrel
    by_cases hlt : k < t.length
    · have hf := hall.out _ (List.getElem_mem hlt)
      have hp40 := hf.1.hi
      have hb2k := hf.2
      have hps := size_list t[k].p
      have hv1 := hv0.keeps (Keeps.below hB)
      have hD1 := raw_drop hlt
      have hD2 := raw_drop2 hlt
      have hS := pos_succ hlt
      have htx := txt_self t[k].p
      obtain ⟨pl, hpl⟩ : ∃ pl, pl = t[k].p.data.toList := ⟨_, rfl⟩
      rw [← hpl] at hD1 hD2 hS htx hps
      obtain ⟨p2, hp2⟩ : ∃ p2, p2 = posL t k + (formL pl.length).length + pl.length := ⟨_, rfl⟩
      rw [← hp2] at hD2 hS
      have HS := Lib.hid hS
      have HD2 := Lib.hid hD2
      have HP2 := Lib.hid hp2.symm
      have hpl40 : pl.length ≤ 40 := by omega
      clear hpl hS hD2 hps hp2
      go_wp2_with fail
      refine (bytes_f (most := 40) hv1 (by omega) (by omega) hD1 (by omega)).mono ?_
      rintro e w2 ⟨v2, rfl, hr2, hB2⟩
      rw [HP2.out]
      have hv2 := hv1.keeps (Keeps.below hB2)
      clear hD1
      go_wp2_with fail
      refine (bytes_f (most := 2000) hv2 (by omega) (by omega) HD2.out (by omega)).mono ?_
      rintro e w3 ⟨v3, rfl, hr3, hB3⟩
      rw [← HS.out]
      have hcs := run_string (hr2.keeps (Keeps.below hB3))
      rw [htx] at hcs
      clear htx
      have hO3 := hO.keeps (Keeps.below (Below.then hB2 hB3))
      have hB3' := Below.then hB (Below.then hB2 hB3)
      obtain ⟨ba, bc, rfl, _, _⟩ := hr3.shape
      have hx := one_file (w := w3.alloc (.cells #[.string t[k].p, .slice ba t[k].b.length bc] 28)) (f := t[k]) (bvv := .slice ba t[k].b.length bc) (heap_alloc_new w3 _) (by simp only [maxLen]; omega) (hr3.keeps (Keeps.alloc _))
      obtain ⟨v', w', hr, ho', hg, _⟩ := run_append_files (hO3.keeps (Keeps.alloc _)) hx (fun b hb e => by have h1 := (hO.block _ e.symm).2; have h2 := hB2.size; have h3 : w2.heap.size ≤ b := hb; omega) (by simp; omega) (by simp; have := hB3'.size; omega) 23
      have hBn : Below w.heap.size w w' := (hB3'.alloc hB3'.size _).trans (below_own hg (by simp; have := hB3'.size; omega) (fun q hq => (hO3.block q hq).1))
      have ho2 := ho'.mono (R' := (w.heap.size ≤ ·)) fun b hb => by
        rcases hb with hb | hb
        · exact hb
        · have h2 := hB2.size; have h3 : w2.heap.size ≤ b := hb; have h4 := hB.size; show w.heap.size ≤ b; omega
      have Hr := Lib.hid hr
      have HO := Lib.hid ho2
      clear hr ho' ho2 hx hg
      go_wp2_with (with_reducible refine at_op (o := ⟨some 51, _, _, _, _, _⟩) ?_)
      refine Lib.wpList_append_run _ rfl (.tmp 45) (.tmp 50) 23 23 rfl _ _ rfl rfl _ _ Hr.out ?_
      have hwk : IntKind.u64.wrap ((k : Int) + 1) = (k : Int) + 1 := IntWalk.u64_in _ (by omega)
      go_wp2
      go_roundw
      case rel => exact ⟨k + 1, by omega, by go_num, by go_num, by rw [← List.take_append_getElem hlt]; exact HO.out, hBn⟩
      case measure => simp [intOf]; omega
    · obtain rfl : k = t.length := by omega
      rw [List.take_length] at hO
      rw [hpa.out]
      obtain ⟨oa, oc, rfl, _, _⟩ := hO.rd.shape
      go_wp2_with fail
      refine (hmay _ _ hO.rd).mono ?_
      rintro e w2 ⟨rfl, hB2⟩
      go_wp2
      go_ret2
      exact ⟨_, rfl, hO.keeps (Keeps.below hB2), Below.then hB hB2⟩
end Go.Proofs.YteckjgngglpcaaaGreatDoor
