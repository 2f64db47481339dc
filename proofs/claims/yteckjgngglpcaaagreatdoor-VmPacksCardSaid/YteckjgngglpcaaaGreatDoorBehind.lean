/-
  Rows of bytes, one behind the other.
-/
import Derived.Test.YteckjgngglpcaaaGreatDoorForm
import Derived.Lib.LazyBuf
import Derived.OwnWalk
namespace Go.Proofs.YteckjgngglpcaaaGreatDoor
open Go.RowKit

/-- 'v' is a slice of rows of bytes that read as ls; all of it was there in w0. -/
def RdR (N : Nat) (w : World) (v : Value) (ls : List (List UInt8)) : Prop :=
  ∃ b off cap, v = .slice (some ⟨b, off, none⟩) ls.length cap ∧ ls.length ≤ cap ∧ cap ≤ maxLen ∧ b < N ∧
    ∀ i (h : i < ls.length), ∃ x, w.cell? ⟨b, off + i, none⟩ = some x ∧ RdB (· < N) w x ls[i]

theorem RdR.below {N : Nat} {w w' : World} {v : Value} {ls : List (List UInt8)} (h : RdR N w v ls) (k : Below N w w') : RdR N w' v ls := by
  obtain ⟨b, off, cap, hv, h1, h2, h3, h4⟩ := h
  have hk : Keeps (· < N) w w' := Keeps.below' k (fun _ h => h)
  refine ⟨b, off, cap, hv, h1, h2, h3, fun i hi => ?_⟩
  obtain ⟨x, hc, hx⟩ := h4 i hi
  exact ⟨x, hk.cell h3 hc, hx.keeps hk⟩

/-- The sum of the rows' lengths. -/
def lens : List (List UInt8) → Nat
  | [] => 0
  | l :: ls => l.length + lens ls

theorem lens_take : ∀ {ls : List (List UInt8)} {k : Nat} (hk : k < ls.length), lens (ls.take (k + 1)) = lens (ls.take k) + ls[k].length
  | [], _, h => absurd h (Nat.not_lt_zero _)
  | l :: ls, 0, _ => by simp [lens]
  | l :: ls, k + 1, h => by
    have := lens_take (ls := ls) (k := k) (by simpa using h)
    simp [lens, this]
    omega

theorem lens_flatten : ∀ ls : List (List UInt8), ls.flatten.length = lens ls
  | [] => rfl
  | l :: ls => by simp [lens, lens_flatten ls]

theorem lens_le : ∀ (ls : List (List UInt8)) (k : Nat), lens (ls.take k) ≤ lens ls
  | [], k => by simp [lens]
  | l :: ls, 0 => by simp [lens]
  | l :: ls, k + 1 => by have := lens_le ls k; simp [lens]; omega

theorem flat_take {ls : List (List UInt8)} {k : Nat} (hk : k < ls.length) : (ls.take (k + 1)).flatten = (ls.take k).flatten ++ ls[k] := by
  rw [← List.take_append_getElem hk, List.flatten_append, List.flatten_singleton]

set_option maxRecDepth 100000 in
set_option maxHeartbeats 1000000 in
theorem behind_f {v : Value} {ls : List (List UInt8)} {w : World} (hv : RdR w.heap.size w v ls) (hl : ls.length ≤ 10) (hs : lens ls ≤ 20000) : Calls Tryz.prog 38 #[v] w (RetB ls.flatten w) := by
  obtain ⟨b, off, cap, rfl, h1, h2, hb, hc⟩ := hv
  have hc0 := Lib.hid hc
  have hls := Lib.hid hl
  have hss := Lib.hid hs
  have hcap := Lib.hid (And.intro h1 h2)
  clear hc hl hs h1 h2
  go_enter Tryz.func38, Tryz.ntmps38
  go_wp2
  go_loopw [3, 11] (fun s i wx => ∃ k, k ≤ ls.length ∧ s = .int .i64 (lens (ls.take k)) ∧ i = .int .i64 k ∧ w = wx)
    (fun _ i _ => ls.length - (intOf i).toNat)
  case atStart => exact ⟨0, by omega, by simp [lens], rfl, rfl⟩
  case round =>
    obtain ⟨k, hk, rfl, rfl, rfl⟩ := hrel
    have hll := lens_le ls k
    by_cases hlt : k < ls.length
    · obtain ⟨x, hx1, hx2⟩ := hc0.out k hlt
      obtain ⟨xa, xc, rfl, hxc, hxm⟩ := hx2.shape
      have hnx := lens_take hlt
      have hll1 := lens_le ls (k + 1)
      have := hls.out
      have := hss.out
      have := hcap.out
      go_wp2
      go_roundw
      case rel => exact ⟨k + 1, by omega, by rw [hnx]; go_num, by go_num, trivial⟩
      case measure => simp [intOf]; omega
    · obtain rfl : k = ls.length := by omega
      rw [List.take_length]
      have hs2 := hss.out
      have hl2 := hls.out
      have hc2 := hcap.out
      obtain ⟨i0, hi, hz0, hz1, hz2⟩ := info_parts info5
      go_wp2_with (with_reducible refine at_op (o := ⟨some 21, _, _, _, _, _⟩) ?_)
      refine wpList_make_own w rfl (.const (.int .i64 0)) (.tmp 20) 26 rfl w.heap.size 5 i0 _ 1 Tryz.underlying26 hi hz0 hz1 .i64 .i64 _ (lens ls) rfl rfl rfl (by rw [hz2]; omega) (by unfold maxLen; omega) (Nat.le_refl _) ?_
      intro w1 ho1 hg1
      have hB1 : Below w.heap.size w w1 := below_own hg1 (Nat.le_refl _) (fun k h => by cases h)
      have ho1' : OwnB w.heap.size w1 (.slice (some ⟨w.heap.size, 0, none⟩) 0 (lens ls)) [] := ho1
      clear hi hz0 hz1 hz2 ho1 hg1
      go_wp2
      go_loopw [6, 24] (fun s i wx => ∃ k : Nat, k ≤ ls.length ∧ i = .int .i64 k ∧ OwnB w.heap.size wx s (ls.take k).flatten ∧ Below w.heap.size w wx)
        (fun _ i _ => ls.length - (intOf i).toNat)
      case atStart => exact ⟨0, by omega, rfl, by simpa using ho1', hB1⟩
      case round =>
        obtain ⟨k, hk, rfl, ho, hB⟩ := hrel
        by_cases hlt : k < ls.length
        · have hK : Keeps (· < w.heap.size) w wr := Keeps.below' hB (fun _ h => h)
          obtain ⟨x, hx1, hx2⟩ := hc0.out k hlt
          have hx1' := hK.cell hb hx1
          have hx2' := hx2.keeps hK
          obtain ⟨xa, xc, rfl, hxc, hxm⟩ := hx2.shape
          clear hx1 hx2
          have hfl := Lib.hid (flat_take hlt)
          have hll1 := lens_take hlt
          have hll2 := lens_le ls (k + 1)
          have hlf := lens_flatten (ls.take k)
          have hle : (ls.take k).flatten.length + ls[k].length ≤ 60000 := by omega
          go_wp2_with (first | (at_builtin; with_reducible refine at_op ?_))
          refine append_bytes rfl (.tmp 28) (.tmp 29) rfl rfl ho rfl hx2' hle hB.size ?_
          intro v' w' ho' hg' hb'
          have hBn : Below w.heap.size w w' := hB.trans (below_own hg' hB.size ho.block)
          go_wp2
          go_roundw
          case rel => exact ⟨k + 1, by omega, by go_num, by rw [hfl.out]; exact ho', hBn⟩
          case measure => simp [intOf]; omega
        · obtain rfl : k = ls.length := by omega
          rw [List.take_length] at ho
          go_wp2
          go_ret
          exact ⟨_, rfl, ho.rd, hB⟩
end Go.Proofs.YteckjgngglpcaaaGreatDoor
