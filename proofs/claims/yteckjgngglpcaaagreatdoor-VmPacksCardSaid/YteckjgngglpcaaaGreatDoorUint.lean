/-
  A number read back.
-/
import Derived.Test.YteckjgngglpcaaaGreatDoorRaw
namespace Go.Proofs.YteckjgngglpcaaaGreatDoor
open Go.RowKit

theorem drop_at {l m p : List UInt8} {a : Nat} (h : l.drop a = m ++ p) (i : Nat) (hi : i < m.length) : ∃ hl : a + i < l.length, l[a + i] = m[i] := by
  have hlen := congrArg List.length h
  simp only [List.length_drop, List.length_append] at hlen
  have hl : a + i < l.length := by omega
  refine ⟨hl, ?_⟩
  have e1 : (l.drop a)[i]? = some l[a + i] := by rw [List.getElem?_drop, List.getElem?_eq_getElem hl]
  rw [h, List.getElem?_append_left hi, List.getElem?_eq_getElem hi] at e1
  exact (Option.some.inj e1).symm

theorem u8n {n : Nat} (h : n < 256) : (UInt8.ofNat n).toNat = n := by simp; omega

/-- What reading a number answers. -/
def UintSo (n k : Nat) (w : World) (e : Ending) (w' : World) : Prop := e = .returned (.tuple #[.int .u64 n, .int .i64 k, .int .i64 0]) ∧ w = w'

set_option maxRecDepth 100000 in
set_option maxHeartbeats 1000000 in
theorem uint_0 {w : World} {b off cap len a : Nat} (hlen : a + 1 ≤ len) (hcap : len ≤ cap) (hm : cap ≤ maxLen) (c0 : w.cell? ⟨b, off + a, none⟩ = some (.int .u8 0)) :
    Calls Tryz.prog 75 #[.slice (some ⟨b, off, none⟩) len cap, .int .i64 a] w (UintSo 0 (a + 1) w) := by
  unfold maxLen at hm
  have d1 : decide ((a : Int) < 0) = false := decide_eq_false (by omega)
  have d2 : decide ((len : Int) < (a : Int)) = false := decide_eq_false (by omega)
  have d3 : ((len - a : Nat) : Int) = len - a := by omega
  have d4 : ((len - a : Nat) == 0) = false := by rw [beq_eq_false_iff_ne]; omega
  go_enter Tryz.func75, Tryz.ntmps75
  go_wp2
  all_goals
    refine wp_loop_rounds 1 ?_
    rw [rounds_succ]
    go_wp2
    go_ret3
    exact ⟨rfl, rfl⟩

set_option maxRecDepth 100000 in
set_option maxHeartbeats 1000000 in
theorem uint_1 {w : World} {b off cap len a n : Nat} (hlen : a + 2 ≤ len) (hcap : len ≤ cap) (hm : cap ≤ maxLen) (hn0 : 0 < n) (hn : n < 256) (c0 : w.cell? ⟨b, off + a, none⟩ = some (.int .u8 1)) (c1 : w.cell? ⟨b, off + a + 1, none⟩ = some (.int .u8 n)) :
    Calls Tryz.prog 75 #[.slice (some ⟨b, off, none⟩) len cap, .int .i64 a] w (UintSo n (a + 2) w) := by
  unfold maxLen at hm
  have d1 : decide ((a : Int) < 0) = false := decide_eq_false (by omega)
  have d2 : decide ((len : Int) < (a : Int)) = false := decide_eq_false (by omega)
  have d3 : ((len - a : Nat) : Int) = len - a := by omega
  have d4 : ((len - a : Nat) == 0) = false := by rw [beq_eq_false_iff_ne]; omega
  have d5 : ((n : Int) == 0) = false := by rw [beq_eq_false_iff_ne]; omega
  have d6 : cap - a ≠ 1 := by omega
  have d7 : IntKind.u64.wrap (n : Int) = (n : Int) := IntWalk.u64_in _ (by omega)
  go_enter Tryz.func75, Tryz.ntmps75
  go_wp2
  refine wp_loop_rounds 2 ?_
  rw [rounds_succ]
  go_wp2
  rw [rounds_succ]
  go_wp2
  go_ret3
  exact ⟨rfl, rfl⟩

set_option maxRecDepth 100000 in
set_option maxHeartbeats 1000000 in
theorem uint_2 {w : World} {b off cap len a m n : Nat} (hlen : a + 3 ≤ len) (hcap : len ≤ cap) (hm : cap ≤ maxLen) (hm0 : 0 < m) (hm1 : m < 256) (hn : n < 256) (c0 : w.cell? ⟨b, off + a, none⟩ = some (.int .u8 2)) (c1 : w.cell? ⟨b, off + a + 1, none⟩ = some (.int .u8 m))
    (c2 : w.cell? ⟨b, off + a + 1 + 1, none⟩ = some (.int .u8 n)) :
    Calls Tryz.prog 75 #[.slice (some ⟨b, off, none⟩) len cap, .int .i64 a] w (UintSo (m * 256 + n) (a + 3) w) := by
  unfold maxLen at hm
  have d1 : decide ((a : Int) < 0) = false := decide_eq_false (by omega)
  have d2 : decide ((len : Int) < (a : Int)) = false := decide_eq_false (by omega)
  have d3 : ((len - a : Nat) : Int) = len - a := by omega
  have d4 : ((len - a : Nat) == 0) = false := by rw [beq_eq_false_iff_ne]; omega
  have d5 : ((m : Int) == 0) = false := by rw [beq_eq_false_iff_ne]; omega
  have d6 : cap - a ≠ 1 := by omega
  have d7 : IntKind.u64.wrap (m : Int) = (m : Int) := IntWalk.u64_in _ (by omega)
  have d8 : IntKind.u64.wrap (n : Int) = (n : Int) := IntWalk.u64_in _ (by omega)
  go_enter Tryz.func75, Tryz.ntmps75
  go_wp2
  refine wp_loop_rounds 3 ?_
  rw [rounds_succ]
  go_wp2
  rw [rounds_succ]
  go_wp2
  rw [rounds_succ]
  go_wp2
  go_ret3
  exact ⟨rfl, rfl⟩

theorem uint_f {P : Nat → Prop} {v : Value} {l post : List UInt8} {w : World} (hv : RdB P w v l) {a n : Nat} (hn : n < 65536) (hd : l.drop a = formL n ++ post) :
    Calls Tryz.prog 75 #[v, .int .i64 a] w (UintSo n (a + (formL n).length) w) := by
  have hlen := congrArg List.length hd
  simp only [List.length_drop, List.length_append] at hlen
  have hfl : 1 ≤ (formL n).length := by unfold formL; split; simp; split <;> simp
  obtain ⟨ad, cap, rfl, h1, h2, h3, h4⟩ := hv
  obtain ⟨b, off, rfl, hb, hc⟩ := h4 (by omega)
  clear h3 h4
  have hcell : ∀ i (hi : i < (formL n).length), w.cell? ⟨b, off + (a + i), none⟩ = some (.int .u8 ((formL n)[i].toNat)) := fun i hi => by
    obtain ⟨hl, e⟩ := drop_at hd i hi
    rw [hc _ hl, e]
  by_cases h0 : n = 0
  · subst h0
    have e : formL 0 = [0] := by simp [formL]
    have c0 := hcell 0 (by omega)
    simp only [e] at c0 hlen ⊢
    exact uint_0 (by simp at hlen; omega) h1 h2 (by simpa using c0)
  · by_cases h256 : n < 256
    · have e : formL n = [1, UInt8.ofNat n] := by simp [formL, h0, h256]
      have c0 := hcell 0 (by omega)
      have c1 := hcell 1 (by rw [e]; simp)
      simp only [e] at c0 c1 hlen ⊢
      refine uint_1 (by simp at hlen; omega) h1 h2 (by omega) h256 (by simpa using c0) ?_
      have c1' : w.cell? ⟨b, off + (a + 1), none⟩ = some (.int .u8 ((UInt8.ofNat n).toNat)) := c1
      rw [u8n h256] at c1'
      exact c1'
    · have e : formL n = [2, UInt8.ofNat (n / 256), UInt8.ofNat (n % 256)] := by simp [formL, h0, h256]
      have c0 := hcell 0 (by omega)
      have c1 := hcell 1 (by rw [e]; simp)
      have c2 := hcell 2 (by rw [e]; simp)
      simp only [e] at c0 c1 c2 hlen ⊢
      have c1' : w.cell? ⟨b, off + (a + 1), none⟩ = some (.int .u8 ((UInt8.ofNat (n / 256)).toNat)) := c1
      have c2' : w.cell? ⟨b, off + (a + 2), none⟩ = some (.int .u8 ((UInt8.ofNat (n % 256)).toNat)) := c2
      rw [u8n (by omega)] at c1' c2'
      have := uint_2 (m := n / 256) (n := n % 256) (a := a) (off := off) (len := l.length) (by simp at hlen; omega) h1 h2 (by omega) (by omega) (by omega) (by simpa using c0) c1' c2'
      rw [show n / 256 * 256 + n % 256 = n by omega] at this
      exact this
end Go.Proofs.YteckjgngglpcaaaGreatDoor
