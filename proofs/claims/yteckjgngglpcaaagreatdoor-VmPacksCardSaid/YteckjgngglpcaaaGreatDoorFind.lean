/-
  Where a path stands: comparison of texts, the binary search, find.
-/
import Derived.Test.YteckjgngglpcaaaGreatDoorOwn
namespace Go.Proofs.YteckjgngglpcaaaGreatDoor
open Go.RowKit

/-- How two texts stand to each other. -/
def cmpS (a b : ByteArray) : Int := if Op.bytesLess a.toList b.toList then -1 else if a.toList == b.toList then 0 else 1

set_option maxHeartbeats 400000 in
theorem isNaN_f (s : ByteArray) (w : World) : Calls Tryz.prog 51 #[.string s] w fun e w' => e = .returned (.bool false) ∧ w = w' := by
  go_enter Tryz.func51, Tryz.ntmps51
  go_wp2
  go_ret
  exact ⟨rfl, rfl⟩

set_option maxHeartbeats 400000 in
theorem compare_f (a b : ByteArray) (w : World) : Calls Tryz.prog 36 #[.string a, .string b] w fun e w' => e = .returned (.int .i64 (cmpS a b)) ∧ w = w' := by
  go_enter Tryz.func36, Tryz.ntmps36
  go_wp2_with (first | (go_at_call 51; refine (isNaN_f _ _).mono ?_; rintro e w' ⟨rfl, rfl⟩))
  · have h1 : Op.bytesLess a.toList b.toList = true := by assumption
    go_ret
    exact ⟨by simp [cmpS, h1], rfl⟩
  · have h1 : Op.bytesLess a.toList b.toList = false := by assumption
    have h2 : (!a.toList == b.toList) = true := by assumption
    go_ret
    refine ⟨?_, rfl⟩
    have h3 : (a.toList == b.toList) = false := by simpa using h2
    simp [cmpS, h1, h3]
  · have h1 : Op.bytesLess a.toList b.toList = false := by assumption
    have h2 : (!a.toList == b.toList) = false := by assumption
    go_ret
    refine ⟨?_, rfl⟩
    have h3 : (a.toList == b.toList) = true := by simpa using h2
    simp [cmpS, h1, h3]

set_option maxHeartbeats 400000 in
theorem findCmp_f (p s : ByteArray) (bv : Value) (w : World) (a : Option Addr) (n c : Nat) (hb : bv = .slice a n c) : Calls Tryz.prog 35 #[.agg #[.string p, bv], .string s] w fun e w' => e = .returned (.int .i64 (cmpS p s)) ∧ Below w.heap.size w w' := by
  subst hb
  go_enter Tryz.func35, Tryz.ntmps35
  go_wp2_with (first | (go_at_call 36; refine (compare_f _ _ _).mono ?_; rintro e w' ⟨rfl, rfl⟩))
  go_ret
  exact ⟨rfl, (Below.refl _ _).alloc (Nat.le_refl _) _⟩

theorem bytesLess_irrefl : ∀ l : List UInt8, Op.bytesLess l l = false
  | [] => rfl
  | a :: l => by simp [Op.bytesLess, bytesLess_irrefl l]

theorem bytesLess_trans : ∀ {x y z : List UInt8}, Op.bytesLess x y = true → Op.bytesLess y z = true → Op.bytesLess x z = true
  | _, [], _, h, _ => by simp [Op.bytesLess] at h
  | _, _ :: _, [], _, h => by simp [Op.bytesLess] at h
  | [], _ :: _, _ :: _, _, _ => rfl
  | a :: x, b :: y, c :: z, h, k => by
    simp only [Op.bytesLess, Bool.or_eq_true, decide_eq_true_eq, Bool.and_eq_true, beq_iff_eq] at h k ⊢
    rcases h with h | ⟨rfl, h⟩ <;> rcases k with k | ⟨rfl, k⟩
    · exact Or.inl (UInt8.lt_trans h k)
    · exact Or.inl h
    · exact Or.inl k
    · exact Or.inr ⟨rfl, bytesLess_trans h k⟩

theorem bytesLess_total : ∀ {x y : List UInt8}, Op.bytesLess x y = false → x ≠ y → Op.bytesLess y x = true
  | [], [], _, h => absurd rfl h
  | [], _ :: _, h, _ => by simp [Op.bytesLess] at h
  | _ :: _, [], _, _ => rfl
  | a :: x, b :: y, h, hn => by
    simp only [Op.bytesLess, Bool.or_eq_false_iff, decide_eq_false_iff_not, Bool.and_eq_false_iff, beq_eq_false_iff_ne] at h
    simp only [Op.bytesLess, Bool.or_eq_true, decide_eq_true_eq, Bool.and_eq_true, beq_iff_eq]
    obtain ⟨h1, h2⟩ := h
    by_cases e : a = b
    · subst e
      exact Or.inr ⟨rfl, bytesLess_total (h2.resolve_left (fun h => h rfl)) (fun e => hn (by rw [e]))⟩
    · exact Or.inl (by rcases UInt8.lt_or_lt_of_ne e with h | h; exact absurd h h1; exact h)

/-- The paths of a tree rise, from any to any later one. -/
theorem TOK.rises {t : List Fi} (h : TOK t) : ∀ (j i : Nat) (hj : j < t.length) (hij : i < j), Op.bytesLess (t[i]'(by omega)).p.toList t[j].p.toList = true
  | 0, _, _, h => absurd h (Nat.not_lt_zero _)
  | j + 1, i, hj, hij => by
    have hr := h.rise j hj
    by_cases e : i = j
    · subst e; exact hr
    · exact bytesLess_trans (TOK.rises h j i (by omega) (by omega)) hr

/-- Where a path stands among rising ones, or would. -/
structure Place (t : List Fi) (s : ByteArray) (i : Nat) : Prop where
  le : i ≤ t.length
  below : ∀ m (h : m < t.length), m < i → Op.bytesLess t[m].p.toList s.toList = true
  from_ : ∀ m (h : m < t.length), i ≤ m → Op.bytesLess t[m].p.toList s.toList = false

/-- Is the path there? -/
def isAt (t : List Fi) (s : ByteArray) (i : Nat) : Bool := match t[i]? with | some f => f.p.toList == s.toList | none => false

theorem cmpS_lt {a b : ByteArray} : decide (cmpS a b < 0) = Op.bytesLess a.toList b.toList := by
  unfold cmpS
  cases Op.bytesLess a.toList b.toList
  · cases a.toList == b.toList <;> rfl
  · rfl

theorem shr1 (i j : Nat) (h : i + j ≤ 1000) : (i + j) / 2 ≤ 1000 := by omega

theorem conv_int {w : World} {ops : Array Oper} {rest : List Oper} {o : Oper} {a : Act} {Q : Exit → Act → World → Prop} (hgd : o.guard = none) (src dst : TypeId) (x : Operand)
    (ho : o.op = .convert src dst x) {k k' : IntKind} {n m : Int} {u : TypeDesc} (hs : Tryz.prog.underlying src = some u) (hd : Tryz.prog.underlying dst = some (.int k')) (hx : a.eval x = .int k n) (hm : k'.wrap n = m)
    (h : wpList Tryz.prog ops Q rest (a.put o.dst (.int k' m)) w) : wpList Tryz.prog ops Q (o :: rest) a w := by
  refine wpList_plain hgd fun K hK => ?_
  have hr : (convert src dst (.int k n)).run Tryz.prog w = .ok (.int k' m) w := by
    simp [convert, run_underlying hs, run_underlying hd, Conv.intToInt, hm]
  unfold Oper.wp execOp
  simp only [ho, Sem.run_bind, Sem.run_pure, Result.andThen_ok, hx, hr]
  exact hK _ _ h

set_option maxHeartbeats 1000000 in
theorem search_f {P R : Nat → Prop} {v : Value} {t : List Fi} {w : World} (hv : RdT P R w v t) (hT : TOK t) (s : ByteArray) :
    Calls Tryz.prog 34 #[v, .string s, .func (.func 35) #[] #[]] w fun e w' => ∃ i, e = .returned (.tuple #[.int .i64 (i : Nat), .bool (isAt t s i)]) ∧ Place t s i ∧ Below w.heap.size w w' := by
  have hlen := hT.len
  obtain ⟨a, cap, rfl, hcap, hm⟩ := hv.shape
  unfold maxLen at hm
  go_enter Tryz.func34, Tryz.ntmps34
  go_wp2
  go_loopw [9, 10] (fun i j wr => ∃ lo hi : Nat, i = .int .i64 lo ∧ j = .int .i64 hi ∧ lo ≤ hi ∧ hi ≤ t.length ∧ (∀ m (h : m < t.length), m < lo → Op.bytesLess t[m].p.toList s.toList = true) ∧ (∀ m (h : m < t.length), hi ≤ m → Op.bytesLess t[m].p.toList s.toList = false) ∧ Below w.heap.size w wr) (fun i j _ => (intOf j).toNat - (intOf i).toNat)
  case atStart => exact ⟨0, t.length, rfl, rfl, by omega, by omega, fun _ _ h => absurd h (Nat.not_lt_zero _), fun _ h h' => by omega, Below.refl _ _⟩
  case round =>
    obtain ⟨lo, hi, rfl, rfl, h1, h2, hlo, hhi, hB⟩ := hrel
    have hv' := hv.keeps (Keeps.below hB) (Keeps.below hB)
    have HLO := Lib.hid hlo
    have HHI := Lib.hid hhi
    clear hlo hhi
    by_cases hlt : lo < hi
    · obtain ⟨b, off, cap', e, _, _, hb, hc⟩ := hv'.at (by omega)
      simp only [Value.slice.injEq] at e
      obtain ⟨rfl, -, rfl⟩ := e
      obtain ⟨md, hmd⟩ : ∃ md : Nat, md = (lo + hi) / 2 := ⟨_, rfl⟩
      have m1 : lo ≤ md := by omega
      have m2 : md < hi := by omega
      have m3 : md < t.length := by omega
      obtain ⟨c1, hpm, vb, c2, hvb⟩ := hc md m3
      obtain ⟨ab, capb, rfl, hcb, hmb⟩ := hvb.shape
      have e2 : ((lo : Int) + hi) / 2 = (md : Int) := by omega
      have e3 : IntKind.i64.wrap (((lo : Int) + hi) / 2) = (md : Int) := by rw [e2]; exact IntWalk.i64_in _ (by omega)
      have E2 := Lib.hid e2
      have E3 := Lib.hid e3
      clear e2 e3 hmd
      go_wp2_with (with_reducible refine at_op (o := ⟨some 23, _, _, _, _, _⟩) ?_)
      refine conv_int rfl 86 3 (.tmp 22) rfl Tryz.underlying86 Tryz.underlying3 rfl E3.out ?_
      have HT := Lib.hid hT
      clear hc
      cases hr : Op.bytesLess t[md].p.toList s.toList with
      | true =>
        have hd : decide (cmpS t[md].p s < 0) = true := by rw [cmpS_lt]; exact hr
        have HR := Lib.hid hr
        clear hr
        go_wp2_with (go_at_call 35; refine (findCmp_f _ _ _ _ _ _ _ rfl).mono ?_; rintro e w1 ⟨rfl, hB1⟩)
        go_roundw
        case rel =>
          refine ⟨md + 1, hi, by go_num, rfl, by omega, by omega, fun m hm hm' => ?_, HHI.out, Below.then hB hB1⟩
          by_cases e : m = md
          · subst e; exact HR.out
          · exact bytesLess_trans (TOK.rises hT md m m3 (by omega)) HR.out
        case measure => simp [intOf]; omega
      | false =>
        have hd : decide (cmpS t[md].p s < 0) = false := by rw [cmpS_lt]; exact hr
        have HR := Lib.hid hr
        clear hr
        go_wp2_with (go_at_call 35; refine (findCmp_f _ _ _ _ _ _ _ rfl).mono ?_; rintro e w1 ⟨rfl, hB1⟩)
        go_roundw
        case rel =>
          refine ⟨lo, md, rfl, rfl, by omega, by omega, HLO.out, fun m hm hm' => ?_, Below.then hB hB1⟩
          by_cases e : m = md
          · subst e; exact HR.out
          · cases h : Op.bytesLess t[m].p.toList s.toList with
            | false => rfl
            | true =>
              have := bytesLess_trans (TOK.rises hT m md hm (by omega)) h
              rw [HR.out] at this
              exact this.symm
        case measure => simp [intOf]; omega
    · obtain rfl : lo = hi := by omega
      have hpl : Place t s lo := ⟨h2, HLO.out, HHI.out⟩
      by_cases hlt' : lo < t.length
      · obtain ⟨b, off, cap', e, _, _, hb, hc⟩ := hv'.at (by omega)
        simp only [Value.slice.injEq] at e
        obtain ⟨rfl, -, rfl⟩ := e
        obtain ⟨c1, hpm, vb, c2, hvb⟩ := hc lo hlt'
        obtain ⟨ab, capb, rfl, hcb, hmb⟩ := hvb.shape
        have hat : isAt t s lo = (t[lo].p.toList == s.toList) := by unfold isAt; rw [List.getElem?_eq_getElem hlt']
        have hz : (cmpS t[lo].p s == 0) = (t[lo].p.toList == s.toList) := by
          have := HHI.out lo hlt' (Nat.le_refl _)
          unfold cmpS
          rw [this]
          cases t[lo].p.toList == s.toList <;> rfl
        have HA := Lib.hid hat
        have HZ := Lib.hid hz
        clear hat hz hc
        go_wp2_with (go_at_call 35; refine (findCmp_f _ _ _ _ _ _ _ rfl).mono ?_; rintro e w1 ⟨rfl, hB1⟩)
        go_ret2
        exact ⟨lo, by rw [HA.out, ← HZ.out]; rfl, hpl, Below.then hB hB1⟩
      · have hat : isAt t s lo = false := by unfold isAt; rw [List.getElem?_eq_none (by omega)]
        have HA := Lib.hid hat
        clear hat
        go_wp2
        go_ret2
        exact ⟨lo, by rw [HA.out]; rfl, hpl, hB⟩

set_option maxHeartbeats 400000 in
theorem find_f {P R : Nat → Prop} {v : Value} {t : List Fi} {w : World} (hv : RdT P R w v t) (hT : TOK t) (s : ByteArray) :
    Calls Tryz.prog 20 #[v, .string s] w fun e w' => ∃ i, e = .returned (.tuple #[.int .i64 (i : Nat), .bool (isAt t s i)]) ∧ Place t s i ∧ Below w.heap.size w w' := by
  obtain ⟨a, cap, rfl, _, _⟩ := hv.shape
  go_enter Tryz.func20, Tryz.ntmps20
  go_wp2_with fail
  refine (search_f hv hT s).mono ?_
  rintro e w1 ⟨i, rfl, hp, hB⟩
  go_wp2
  go_ret2
  exact ⟨i, rfl, hp, hB⟩

end Go.Proofs.YteckjgngglpcaaaGreatDoor
