/-
  Paths: what a path is, and that both tests say so.
-/
import Derived.Test.YteckjgngglpcaaaGreatDoorMem
namespace Go.Proofs.YteckjgngglpcaaaGreatDoor
open Go.RowKit

/-- A byte of a name. -/
def plainB (c : Nat) : Prop := (97 ≤ c ∧ c ≤ 122) ∨ (48 ≤ c ∧ c ≤ 57) ∨ c = 46 ∨ c = 95 ∨ c = 45

/-- The bytes of a text by place; 47 ahead of the first. -/
def prevB (s : ByteArray) (i : Nat) : Nat := if i = 0 then 47 else (s.data.toList.getD (i - 1) 0).toNat

/-- A path. -/
structure POK (s : ByteArray) : Prop where
  lo : 1 ≤ s.size
  hi : s.size ≤ 40
  last : (s[s.size - 1]?.getD 0).toNat ≠ 47
  each : ∀ i (h : i < s.size), plainB (s[i]).toNat ∨ ((s[i]).toNat = 47 ∧ prevB s i ≠ 47)

theorem plainB_lt {c : Nat} (h : plainB c) : c < 128 := by unfold plainB at h; omega


theorem prevB_succ (s : ByteArray) (k : Nat) (h : k < s.size) : prevB s (k + 1) = s[k].toNat := by
  simp [prevB, List.getD, ByteArray.getElem_eq_getElem_data, h]

theorem getD_lt (s : ByteArray) (i : Nat) (h : i < s.size) : s.data.toList.getD i 0 = s[i] := by
  simp [List.getD, ByteArray.getElem_eq_getElem_data, h]

set_option maxHeartbeats 1000000 in
theorem isPath_f (s : ByteArray) (hs : POK s) (w : World) :
    Calls Tryz.prog 14 #[.string s] w fun e w' => e = .returned (.bool true) ∧ Below w.heap.size w w' := by
  have hlo := hs.lo
  have hhi := hs.hi
  have hl : (s[s.size - 1]'(by omega)).toNat ≠ 47 := by
    have := hs.last
    rwa [getElem?_pos s (s.size - 1) (by omega)] at this
  have hb : ((s[s.size - 1]'(by omega)).toNat : Int) ≠ 47 := by omega
  have h1 : (((s[s.size - 1]'(by omega)).toNat : Int) == 47) = false := by simp; omega
  go_enter Tryz.func14, Tryz.ntmps14
  go_wp2
  go_loopg [3] s.size (fun n last wr => ∃ k : Nat, k + n = s.size ∧ last = .int .i32 (prevB s k) ∧ wr = w.iter s k)
  case atStart => exact ⟨0, by omega, rfl, rfl⟩
  case round =>
    obtain ⟨k, hk, rfl, rfl⟩ := hrel
    by_cases hlt : k < s.size
    · have hc := hs.each k hlt
      have hca : (s[k]'hlt).toNat < 128 := by rcases hc with h | h; exact plainB_lt h; omega
      have hnx := fun ty => run_next_ascii (P := Tryz.prog) w s k ty hlt hca
      have hpv := prevB_succ s k hlt
      have Hpv := Lib.hid hpv
      clear hpv
      rcases hc with h | ⟨h, hp⟩
      · have h47 : ((s[k].toNat : Int) == 47) = false := by unfold plainB at h; rw [beq_eq_false_iff_ne]; omega
        rcases h with ⟨ha, hb⟩ | ⟨ha, hb⟩ | h | h | h
        all_goals
          go_wp2
          go_roundg (gk - 1)
          case measure => omega
          case rel => exact ⟨k + 1, by omega, by rw [Hpv.out] <;> first | rfl | simp [h], rfl⟩
      · have hp' : ((prevB s k : Int) == 47) = false := by rw [beq_eq_false_iff_ne]; omega
        go_wp2
        go_roundg (gk - 1)
        case measure => omega
        case rel => exact ⟨k + 1, by omega, by rw [Hpv.out] <;> first | rfl | simp [h], rfl⟩
    · have hnx := fun ty => run_next_end (P := Tryz.prog) w s k ty hlt
      go_wp2
      go_ret
      exact ⟨rfl, (Below.refl _ _).alloc (Nat.le_refl _) _⟩

/-- A bool that, if true, says p; what was there stays. -/
def BoolSo (p : Prop) (w : World) (e : Ending) (w' : World) : Prop := ∃ b, e = .returned (.bool b) ∧ (b = true → p) ∧ Below w.heap.size w w'

theorem BoolSo.no {p : Prop} {w w' : World} (hb : Below w.heap.size w w') : BoolSo p w (.returned (.bool false)) w' := ⟨false, rfl, (fun h => by cases h), hb⟩
theorem BoolSo.yes {p : Prop} {w w' : World} (h : p) (hb : Below w.heap.size w w') : BoolSo p w (.returned (.bool true)) w' := ⟨true, rfl, fun _ => h, hb⟩

def EachTo (s : ByteArray) (k : Nat) : Prop := ∀ i (h : i < s.size), i < k → plainB (s[i]).toNat ∨ ((s[i]).toNat = 47 ∧ prevB s i ≠ 47 ∧ i + 1 ≠ s.size)

theorem EachTo.succ {s : ByteArray} {k : Nat} (h : EachTo s k) (hk : k < s.size) (hc : plainB (s[k]).toNat ∨ ((s[k]).toNat = 47 ∧ prevB s k ≠ 47 ∧ k + 1 ≠ s.size)) : EachTo s (k + 1) := by
  intro i hi hik
  by_cases e : i = k
  · subst e; exact hc
  · exact h i hi (by omega)

theorem EachTo.pok {s : ByteArray} (h : EachTo s s.size) (h1 : 1 ≤ s.size) (h2 : s.size ≤ 40) : POK s := by
  refine ⟨h1, h2, ?_, fun i hi => ?_⟩
  · rw [getElem?_pos s (s.size - 1) (by omega)]
    rcases h (s.size - 1) (by omega) (by omega) with h | h
    · unfold plainB at h
      simp only [Option.getD_some]
      omega
    · omega
  · rcases h i hi hi with h | ⟨h, h', _⟩
    · exact Or.inl h
    · exact Or.inr ⟨h, h'⟩

set_option maxHeartbeats 1000000 in
theorem refIsPath_f (s : ByteArray) (hm : s.size ≤ maxLen) (w : World) : Calls Tryz.prog 12 #[.string s] w (BoolSo (POK s) w) := by
  unfold maxLen at hm
  by_cases hlo : 1 ≤ s.size
  · by_cases hhi : s.size ≤ 40
    · go_enter Tryz.func12, Tryz.ntmps12
      go_wp2
      go_loop [3] (fun i => ∃ k : Nat, k ≤ s.size ∧ i = .int .i64 k ∧ EachTo s k) (fun i => s.size - (intOf i).toNat)
      case atStart => exact ⟨0, by omega, rfl, fun i _ h => absurd h (Nat.not_lt_zero _)⟩
      case round =>
        obtain ⟨k, hk, rfl, hE⟩ := hrel
        by_cases hlt : k < s.size
        · have hpv : k ≠ 0 → prevB s k = (s[k - 1]'(by omega)).toNat := fun h => by
            obtain ⟨j, rfl⟩ : ∃ j, k = j + 1 := ⟨k - 1, by omega⟩
            exact prevB_succ s j (by omega)
          by_cases h47 : (s[k].toNat) = 47
          · have e47 : ((s[k].toNat : Int) == 47) = true := by simp [h47]
            by_cases hgood : prevB s k ≠ 47 ∧ k + 1 ≠ s.size
            · have hk0 : k ≠ 0 := fun h => hgood.1 (by simp [prevB, h])
              have hp := hpv hk0
              have hE' := hE.succ hlt (Or.inr ⟨h47, hgood⟩)
              have e1 : ((s[k - 1].toNat : Int) == 47) = false := by rw [beq_eq_false_iff_ne]; omega
              have e2 : ((k : Int) == s.size - 1) = false := by rw [beq_eq_false_iff_ne]; omega
              have e0 : ((k : Int) == 0) = false := by rw [beq_eq_false_iff_ne]; omega
              have H := Lib.hid hp
              have H47 := Lib.hid h47
              clear hp h47 hpv hgood
              go_wp2
              go_round
              case rel => exact ⟨k + 1, by omega, by go_num, hE'⟩
              case measure => simp [intOf]; omega
            · by_cases hk0 : k = 0
              · subst hk0
                clear hpv hgood h47
                go_wp2
                go_ret
                exact BoolSo.no (Below.refl _ _)
              · have e0 : ((k : Int) == 0) = false := by rw [beq_eq_false_iff_ne]; omega
                by_cases hke : k + 1 = s.size
                · have e2 : ((k : Int) == s.size - 1) = true := by rw [beq_iff_eq]; omega
                  clear hpv hgood h47 hke
                  go_wp2
                  go_ret
                  exact BoolSo.no (Below.refl _ _)
                · have e2 : ((k : Int) == s.size - 1) = false := by rw [beq_eq_false_iff_ne]; omega
                  have hp := hpv hk0
                  have e1 : ((s[k - 1].toNat : Int) == 47) = true := by rw [beq_iff_eq]; omega
                  clear hpv hgood h47 hp
                  go_wp2
                  go_ret
                  exact BoolSo.no (Below.refl _ _)
          · have e47 : ((s[k].toNat : Int) == 47) = false := by rw [beq_eq_false_iff_ne]; omega
            clear hpv
            by_cases hpl : plainB s[k].toNat
            · have hE' := hE.succ hlt (Or.inl hpl)
              clear h47
              rcases hpl with ⟨ha, hb⟩ | ⟨ha, hb⟩ | h | h | h
              all_goals
                go_wp2
                go_round
                case rel => exact ⟨k + 1, by omega, by go_num, hE'⟩
                case measure => simp [intOf]; omega
            · have n1 : (s[k].toNat : Int) < 97 ∨ 122 < (s[k].toNat : Int) := by unfold plainB at hpl; omega
              have n2 : (s[k].toNat : Int) < 48 ∨ 57 < (s[k].toNat : Int) := by unfold plainB at hpl; omega
              have n3 : ((s[k].toNat : Int) != 46) = true := by unfold plainB at hpl; rw [bne_iff_ne]; omega
              have n4 : ((s[k].toNat : Int) != 95) = true := by unfold plainB at hpl; rw [bne_iff_ne]; omega
              have n5 : ((s[k].toNat : Int) != 45) = true := by unfold plainB at hpl; rw [bne_iff_ne]; omega
              clear h47 hpl
              rcases n1 with n1 | n1 <;> rcases n2 with n2 | n2
              all_goals
                go_wp2
                all_goals
                  go_ret
                  exact BoolSo.no (Below.refl _ _)
        · go_wp2
          go_ret
          exact BoolSo.yes (EachTo.pok (by rwa [show k = s.size by omega] at hE) hlo hhi) (Below.refl _ _)
    · go_enter Tryz.func12, Tryz.ntmps12
      go_wp2
      go_ret
      exact BoolSo.no (Below.refl _ _)
  · go_enter Tryz.func12, Tryz.ntmps12
    go_wp2
    go_ret
    exact BoolSo.no (Below.refl _ _)
end Go.Proofs.YteckjgngglpcaaaGreatDoor
