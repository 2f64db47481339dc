/-
  Two lines, told apart: the library's functions at the one input at which they are asked.
-/
import Derived.Test.YteckjgngglpcaaaGreatDoorBelow
import Derived.Laws.Externs
namespace Go.Proofs.YteckjgngglpcaaaGreatDoor
open Go.RowKit

theorem run_loadBytes {w : World} : ∀ (l : List UInt8) (b off : Nat) (acc : ByteArray), (∀ i (h : i < l.length), w.cell? ⟨b, off + i, none⟩ = some (.int .u8 (l[i].toNat))) →
    (Extern.Bytes.loadBytes ⟨b, off, none⟩ l.length acc).run Tryz.prog w = .ok ⟨acc.data ++ l.toArray⟩ w
  | [], b, off, acc, _ => by simp [Extern.Bytes.loadBytes]
  | c :: l, b, off, acc, h => by
    have h0 := h 0 (by simp)
    have hr := run_loadBytes l b (off + 1) (acc.push c) (fun i hi => by
      have := h (i + 1) (by simpa using hi)
      rw [show off + 1 + i = off + (i + 1) by omega]
      simpa using this)
    simp only [Nat.add_zero, List.getElem_cons_zero] at h0
    have e1 : (⟨b, off, none⟩ : Addr).add 1 = ⟨b, off + 1, none⟩ := addr_add _ _ _
    simp only [List.length_cons, Extern.Bytes.loadBytes]
    have hl : (load ⟨b, off, none⟩).run Tryz.prog w = .ok (.int .u8 c.toNat) w := by simp [load, Sem.run, h0]
    simp only [Sem.run_bind, hl, Result.andThen, e1]
    have e2 : (c.toNat : Int).toNat.toUInt8 = c := by simp
    rw [e2, hr]
    simp

theorem run_bytesOf {P : Nat → Prop} {w : World} {v : Value} {l : List UInt8} (h : RdB P w v l) : (Extern.Bytes.bytesOf v).run Tryz.prog w = .ok (txt l) w := by
  obtain ⟨a, cap, rfl, h1, h2, h3, h4⟩ := h
  cases a with
  | none =>
    have hl : l = [] := List.eq_nil_of_length_eq_zero (by have := h3 rfl; omega)
    subst hl
    rfl
  | some ad =>
    rcases Nat.eq_zero_or_pos l.length with h0 | h0
    · have hl : l = [] := List.eq_nil_of_length_eq_zero h0
      subst hl
      rfl
    · obtain ⟨b, off, he, _, hc⟩ := h4 h0
      obtain rfl := Option.some.inj he
      have := run_loadBytes l b off .empty hc
      simp only [Extern.Bytes.bytesOf]
      rw [this]
      simp [txt]

theorem count_x {P : Nat → Prop} {w : World} {v : Value} (h : RdB P w v [98, 10, 97]) : (callFunc 80 #[v, .int .u8 10]).run Tryz.prog w = .ok (.value (.int .i64 1)) w := by
  rw [run_callFunc_extern (e := Extern.BytealgCount.count) Tryz.func80 (by kernel_rfl) (by kernel_rfl) (by kernel_rfl) (by kernel_rfl)]
  change (Sem.run Tryz.prog (do
    let b ← Extern.Bytes.bytesOf v
    let c ← Extern.Bytes.asByte (.int .u8 10)
    pure (goInt (b.foldl (fun n x => if x == c then n + 1 else n) (0 : Nat)))) w).andThen _ = _
  simp only [Sem.run_bind, run_bytesOf h, Result.andThen, Extern.Bytes.asByte, Sem.run_pure]
  rfl

theorem at_x {P : Nat → Prop} {w : World} {v : Value} (h : RdB P w v [98, 10, 97]) : (callFunc 99 #[v, .int .u8 10]).run Tryz.prog w = .ok (.value (.int .i64 1)) w := by
  rw [run_callFunc_extern (e := Extern.BytealgIndexByte.indexByte) Tryz.func99 (by kernel_rfl) (by kernel_rfl) (by kernel_rfl) (by kernel_rfl)]
  change (Sem.run Tryz.prog (do
    let b ← Extern.Bytes.bytesOf v
    let c ← Extern.Bytes.asByte (.int .u8 10)
    match (List.range b.size).find? fun i => b[i]! == c with
    | some i => pure (goInt i)
    | none => pure (goInt (-1))) w).andThen _ = _
  simp only [Sem.run_bind, run_bytesOf h, Result.andThen, Extern.Bytes.asByte, Sem.run_pure]
  rfl

theorem comp_x {P : Nat → Prop} {w : World} {v u : Value} (h : RdB P w v [97]) (h' : RdB P w u [98]) : (callFunc 72 #[v, u]).run Tryz.prog w = .ok (.value (.int .i64 (-1))) w := by
  rw [run_callFunc_extern (e := Extern.BytealgCompare.compare) Tryz.func72 (by kernel_rfl) (by kernel_rfl) (by kernel_rfl) (by kernel_rfl)]
  change (Sem.run Tryz.prog (do pure (goInt (Extern.BytealgCompare.cmp (← Extern.Bytes.bytesOf v) (← Extern.Bytes.bytesOf u)))) w).andThen _ = _
  simp only [Sem.run_bind, run_bytesOf h, run_bytesOf h', Result.andThen, Sem.run_pure]
  rfl

theorem compareB_f {P : Nat → Prop} {w : World} {v u : Value} (h : RdB P w v [97]) (h' : RdB P w u [98]) : Calls Tryz.prog 59 #[v, u] w fun e w' => e = .returned (.int .i64 (-1)) ∧ w = w' := by
  have hx := comp_x h h'
  obtain ⟨a1, q1, e, _, _⟩ := h.shape
  obtain rfl : v = .slice a1 1 q1 := e
  obtain ⟨a2, q2, e', _, _⟩ := h'.shape
  obtain rfl : u = .slice a2 1 q2 := e'
  clear h h'
  go_enter Tryz.func59, Tryz.ntmps59
  go_wp2
  go_ret
  exact ⟨rfl, rfl⟩

theorem count_f {P P' : Nat → Prop} {w : World} {v u : Value} (h : RdB P w v [98, 10, 97]) (h' : RdB P' w u [10]) : Calls Tryz.prog 65 #[v, u] w fun e w' => e = .returned (.int .i64 1) ∧ w = w' := by
  have hx := count_x h
  obtain ⟨a1, q1, e, _, _⟩ := h.shape
  obtain rfl : v = .slice a1 3 q1 := e
  obtain ⟨a2, q2, e', _, _, h3, h4⟩ := h'
  obtain ⟨b, off, e1, _, hc⟩ := h4 (by simp)
  subst e1
  obtain rfl : u = .slice (some ⟨b, off, none⟩) 1 q2 := e'
  clear h
  have c0 := hc 0 (by simp)
  simp only [Nat.add_zero, List.getElem_cons_zero] at c0
  clear hc h3 h4
  go_enter Tryz.func65, Tryz.ntmps65
  go_wp2
  go_ret
  exact ⟨rfl, rfl⟩

set_option maxRecDepth 100000 in
theorem index_f {P P' : Nat → Prop} {w : World} {v u : Value} (h : RdB P w v [98, 10, 97]) (h' : RdB P' w u [10]) : Calls Tryz.prog 66 #[v, u] w fun e w' => e = .returned (.int .i64 1) ∧ w = w' := by
  have hx := at_x h
  obtain ⟨a1, q1, e, _, _⟩ := h.shape
  obtain rfl : v = .slice a1 3 q1 := e
  obtain ⟨a2, q2, e', _, _, h3, h4⟩ := h'
  obtain ⟨b, off, e1, _, hc⟩ := h4 (by simp)
  subst e1
  obtain rfl : u = .slice (some ⟨b, off, none⟩) 1 q2 := e'
  clear h
  have c0 := hc 0 (by simp)
  simp only [Nat.add_zero, List.getElem_cons_zero] at c0
  clear hc h3 h4
  go_enter Tryz.func66, Tryz.ntmps66
  go_wp2
  go_ret
  exact ⟨rfl, rfl⟩
end Go.Proofs.YteckjgngglpcaaaGreatDoor
