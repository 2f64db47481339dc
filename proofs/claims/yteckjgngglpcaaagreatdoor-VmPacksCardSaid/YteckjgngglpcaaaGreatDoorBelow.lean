/-
  tree.Below, and what it leans on.
-/
import Derived.Test.YteckjgngglpcaaaGreatDoorSame
namespace Go.Proofs.YteckjgngglpcaaaGreatDoor
open Go.RowKit

/-- Does a text begin with another one? -/
def hasP (s p : ByteArray) : Bool := decide (p.size ≤ s.size) && ((s.extract 0 p.size).toList == p.toList)

/-- What of a file is below a directory. -/
def belowOne (d : ByteArray) (f : Fi) : Option Fi := if hasP f.p (d ++ slash) then some ⟨f.p.extract (d ++ slash).size f.p.size, f.b⟩ else none

def belowF (d : ByteArray) (t : List Fi) : List Fi := t.filterMap (belowOne d)

set_option maxHeartbeats 400000 in
theorem hasPrefix_f (s p : ByteArray) (w : World) : Calls Tryz.prog 52 #[.string s, .string p] w fun e w' => e = .returned (.bool (hasP s p)) ∧ w = w' := by
  by_cases hle : p.size ≤ s.size
  · have e : hasP s p = ((s.extract 0 p.size).toList == p.toList) := by simp [hasP, hle]
    have E := Lib.hid e
    clear e
    go_enter Tryz.func52, Tryz.ntmps52
    go_wp2
    go_ret
    exact ⟨by rw [E.out]; rfl, rfl⟩
  · have e : hasP s p = false := by simp [hasP, hle]
    have E := Lib.hid e
    clear e
    go_enter Tryz.func52, Tryz.ntmps52
    go_wp2
    go_ret
    exact ⟨by rw [E.out]; rfl, rfl⟩

theorem hasP_le {s p : ByteArray} (h : hasP s p = true) : p.size ≤ s.size := by
  simp only [hasP, Bool.and_eq_true, decide_eq_true_eq] at h
  exact h.1

set_option maxHeartbeats 400000 in
theorem cut_hit (s p : ByteArray) (w : World) (h : hasP s p = true) : Calls Tryz.prog 37 #[.string s, .string p] w fun e w' => e = .returned (.tuple #[.string (s.extract p.size s.size), .bool true]) ∧ w = w' := by
  have hle := hasP_le h
  go_enter Tryz.func37, Tryz.ntmps37
  go_wp2_with fail
  refine (hasPrefix_f s p _).mono ?_
  rintro e w1 ⟨rfl, rfl⟩
  rw [h]
  go_wp2
  go_ret2
  exact ⟨rfl, rfl⟩

set_option maxHeartbeats 400000 in
theorem cut_miss (s p : ByteArray) (w : World) (h : hasP s p = false) : Calls Tryz.prog 37 #[.string s, .string p] w fun e w' => e = .returned (.tuple #[.string s, .bool false]) ∧ w = w' := by
  go_enter Tryz.func37, Tryz.ntmps37
  go_wp2_with fail
  refine (hasPrefix_f s p _).mono ?_
  rintro e w1 ⟨rfl, rfl⟩
  rw [h]
  go_wp2
  go_ret2
  exact ⟨rfl, rfl⟩

set_option maxHeartbeats 400000 in
theorem cutPrefix_f (s p : ByteArray) (w : World) :
    Calls Tryz.prog 25 #[.string s, .string p] w fun e w' => e = .returned (.tuple #[.string (if hasP s p then s.extract p.size s.size else s), .bool (hasP s p)]) ∧ w = w' := by
  cases h : hasP s p with
  | true =>
    go_enter Tryz.func25, Tryz.ntmps25
    go_wp2_with fail
    refine (cut_hit s p _ h).mono ?_
    rintro e w1 ⟨rfl, rfl⟩
    go_wp2
    go_ret2
    exact ⟨rfl, rfl⟩
  | false =>
    go_enter Tryz.func25, Tryz.ntmps25
    go_wp2_with fail
    refine (cut_miss s p _ h).mono ?_
    rintro e w1 ⟨rfl, rfl⟩
    go_wp2
    go_ret2
    exact ⟨rfl, rfl⟩

theorem belowF_take_hit {d : ByteArray} {t : List Fi} {k : Nat} (hk : k < t.length) (h : hasP t[k].p (d ++ slash) = true) :
    belowF d (t.take (k + 1)) = belowF d (t.take k) ++ [⟨t[k].p.extract (d ++ slash).size t[k].p.size, t[k].b⟩] := by
  unfold belowF
  rw [List.take_succ_eq_append_getElem hk, List.filterMap_append]
  simp [belowOne, h]

theorem belowF_take_miss {d : ByteArray} {t : List Fi} {k : Nat} (hk : k < t.length) (h : hasP t[k].p (d ++ slash) = false) : belowF d (t.take (k + 1)) = belowF d (t.take k) := by
  unfold belowF
  rw [List.take_succ_eq_append_getElem hk, List.filterMap_append]
  simp [belowOne, h]

theorem belowF_length (d : ByteArray) (t : List Fi) : (belowF d t).length ≤ t.length := List.length_filterMap_le _ _

theorem belowF_small {d : ByteArray} {t : List Fi} (h : TOK t) : ∀ i (hi : i < (belowF d t).length), (belowF d t)[i].b.length ≤ 60000 := by
  intro i hi
  have hm : (belowF d t)[i] ∈ belowF d t := List.getElem_mem hi
  obtain ⟨f, hf, he⟩ := List.mem_filterMap.1 hm
  unfold belowOne at he
  split at he
  · have := (h.all f hf).2
    have e := Option.some.inj he
    rw [← e]
    show f.b.length ≤ 60000
    omega
  · cases he

set_option maxHeartbeats 2000000 in
theorem below_f {P R : Nat → Prop} {v : Value} {t : List Fi} {w : World} (hv : RdT P R w v t) (hT : TOK t) (hz : szs t ≤ 4000) {d : ByteArray} (hd : POK d) :
    Calls Tryz.prog 11 #[v, .string d] w (RetT (w.heap.size ≤ ·) (belowF d t) w) := by
  have hdec : decide (szs t ≤ 4000) = true := decide_eq_true hz
  have hl16 := hT.len
  have hdhi := hd.hi
  have hall := Lib.hid hT.all
  have hlen := Lib.hid (belowF_length d t)
  have hsm := Lib.hid (belowF_small (d := d) hT)
  have hv0 := hv.lt
  obtain ⟨a, cap, rfl, _, hm⟩ := hv.shape
  unfold maxLen at hm
  go_enter Tryz.func11, Tryz.ntmps11
  go_wp2_with fail
  refine (may_f P R _ t w hv hT).mono ?_
  rintro e w1 ⟨rfl, hB⟩
  rw [hdec]
  go_wp2_with fail
  refine (isPath_f d hd _).mono ?_
  rintro e w2 ⟨rfl, hB2⟩
  have h12 := Below.then hB hB2
  go_wp2_with fail
  go_loopw [4, 19] (fun o i wr => ∃ k : Nat, k ≤ t.length ∧ i = .int .i64 k ∧ OwnT w.heap.size (fun b => b < w.heap.size) wr o (belowF d (t.take k)) ∧ Below w.heap.size w wr) (fun _ i _ => t.length - (intOf i).toNat)
  case atStart => exact ⟨0, by omega, rfl, ownT_nil, h12⟩
  case round =>
    obtain ⟨k, hk, rfl, hO, hBr⟩ := hrel
    have hv' := hv0.keeps (Keeps.below hBr) (Keeps.below hBr)
    by_cases hlt : k < t.length
    · obtain ⟨b, off, cap', e, _, _, hb, hc⟩ := hv'.at (by omega)
      simp only [Value.slice.injEq] at e
      obtain ⟨rfl, -, rfl⟩ := e
      obtain ⟨c1, hpm, u, c2, hu⟩ := hc k hlt
      have hp40 := ((hall.out _ (List.getElem_mem hlt)).1).hi
      have hlk := belowF_length d (t.take k)
      rw [List.length_take] at hlk
      obtain ⟨ua, uc, rfl, _, _⟩ := hu.shape
      clear hc
      cases hpf : hasP t[k].p (d ++ slash) with
      | true =>
        have hnx := Lib.hid (belowF_take_hit hlt hpf)
        have hpf' := Lib.hid hpf
        clear hpf
        go_wp2_with fail
        refine (cutPrefix_f _ _ _).mono ?_
        rintro e w3 ⟨rfl, rfl⟩
        rw [hpf'.out]
        obtain ⟨rest, hrest⟩ : ∃ rest, rest = t[k].p.extract (d ++ slash).size t[k].p.size := ⟨_, rfl⟩
        have hrs : rest.size ≤ 40 := by rw [hrest, ByteArray.size_extract]; omega
        simp only [↓reduceIte]
        rw [← hrest]
        have Hrest := Lib.hid hrest
        clear hrest
        obtain ⟨W1, hW1⟩ : ∃ W1, W1 = wr.alloc (Obj.cells #[.string t[k].p, .slice ua t[k].b.length uc] 28) := ⟨_, rfl⟩
        have hO1 : OwnT w.heap.size (fun b => b < w.heap.size) W1 u4 (belowF d (t.take k)) := by rw [hW1]; exact hO.keeps (Keeps.alloc _)
        have hu1 : RdB (fun b => R b ∧ b < w.heap.size) W1 (.slice ua t[k].b.length uc) t[k].b := by rw [hW1]; exact hu.keeps (Keeps.alloc _)
        have hB1 : Below w.heap.size w W1 := by rw [hW1]; exact hBr.alloc hBr.size _
        have hb1 : W1.cell? ⟨wr.heap.size, 1, none⟩ = some (.slice ua t[k].b.length uc) := by rw [hW1]; simp
        rw [← hW1]
        clear hW1
        have hx := one_file (w := W1.alloc (.cells #[.string rest, .slice ua t[k].b.length uc] 28)) (f := ⟨rest, t[k].b⟩) (heap_alloc_new W1 _) (by simp only [maxLen]; omega) (hu1.keeps (Keeps.alloc _))
        obtain ⟨v', w', hr, ho', hg, _⟩ := run_append_files (hO1.keeps (Keeps.alloc _)) hx (fun b hb e => by have := (hO1.block _ e.symm).1; have := hb.2; omega) (by simp; omega) (by simp; have := hB1.size; omega) 23
        have hBn : Below w.heap.size w w' := (hB1.alloc hB1.size _).trans (below_own hg (by simp; have := hB1.size; omega) (fun q hq => (hO1.block q hq).1))
        have ho2 := ho'.mono (R' := fun b => b < w.heap.size) fun b hb => by rcases hb with hb | hb; exact hb; exact hb.2
        have Hr := Lib.hid hr
        have HO := Lib.hid ho2
        clear hr ho' ho2 hx hg
        go_wp2_with (with_reducible refine at_op (o := ⟨some 38, _, _, _, _, _⟩) ?_)
        refine Lib.wpList_append_run _ rfl (.tmp 32) (.tmp 37) 23 23 rfl _ _ rfl rfl _ _ Hr.out ?_
        go_wp2
        go_roundw
        case rel => exact ⟨k + 1, by omega, by go_num, by rw [hnx.out, ← Hrest.out]; exact HO.out, hBn⟩
        case measure => simp [intOf]; omega
      | false =>
        have hnx := Lib.hid (belowF_take_miss hlt hpf)
        have hpf' := Lib.hid hpf
        clear hpf
        go_wp2_with fail
        refine (cutPrefix_f _ _ _).mono ?_
        rintro e w3 ⟨rfl, rfl⟩
        rw [hpf'.out]
        go_wp2
        go_roundw
        case rel => exact ⟨k + 1, by omega, by go_num, by rw [hnx.out]; exact hO.keeps (Keeps.alloc _), hBr.alloc hBr.size _⟩
        case measure => simp [intOf]; omega
    · have hrd := hO.rd
      rw [List.take_of_length_le (by omega)] at hrd
      obtain ⟨oa, oc, rfl, _, _⟩ := hrd.shape
      go_wp2_with fail
      refine (own_f hrd (by have := hlen.out; omega) hsm.out).mono ?_
      rintro e w3 ⟨v3, rfl, ho3, hB3⟩
      go_wp2
      go_ret
      exact ⟨v3, rfl, ho3.base hBr.size (fun b hb => Nat.le_trans hBr.size hb), Below.then hBr hB3⟩

end Go.Proofs.YteckjgngglpcaaaGreatDoor
