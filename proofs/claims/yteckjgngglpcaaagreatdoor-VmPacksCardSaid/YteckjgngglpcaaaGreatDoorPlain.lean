/-
  What the five instructions make of a tree: plain.
-/
import Derived.Test.YteckjgngglpcaaaGreatDoorExec
namespace Go.Proofs.YteckjgngglpcaaaGreatDoor
open Go.RowKit

theorem txt_of {s : ByteArray} {l : List UInt8} (h : s.toList = l) : txt l = s := by
  rw [ByteArray.toList_eq] at h
  rw [← h]
  exact txt_self s

theorem hasP_list (s p : ByteArray) : hasP s p = (s.toList.take p.toList.length == p.toList) := by
  have e1 : (s.extract 0 p.size).toList = s.toList.take p.toList.length := by
    rw [ByteArray.toList_eq, ByteArray.toList_eq, ByteArray.toList_eq, ByteArray.data_extract, Array.toList_extract, List.extract_eq_take_drop]
    simp
  have e2 : p.toList.length = p.size := by rw [ByteArray.toList_eq]; simp
  have e3 : s.toList.length = s.size := by rw [ByteArray.toList_eq]; simp
  unfold hasP
  rw [e1]
  by_cases h : p.size ≤ s.size
  · simp [h]
  · have : (s.toList.take p.toList.length == p.toList) = false := by
      rw [beq_eq_false_iff_ne]
      intro h'
      have := congrArg List.length h'
      rw [List.length_take] at this
      omega
    rw [this]
    simp

theorem extract_list (s : ByteArray) (n : Nat) : s.extract n s.size = txt (s.toList.drop n) := by
  symm
  apply txt_of
  rw [ByteArray.toList_eq, ByteArray.toList_eq, ByteArray.data_extract, Array.toList_extract, List.extract_eq_take_drop]
  rw [List.take_of_length_le (by simp)]

theorem dirL (d : ByteArray) : (d ++ slash).toList = d.toList ++ [47] := by simp [ByteArray.toList_eq, slash]

/-- A file below a directory, by its path's bytes. -/
theorem belowOne_hit {d : ByteArray} {f : Fi} {r : ByteArray} (h : f.p.toList = d.toList ++ 47 :: r.toList) : belowOne d f = some ⟨r, f.b⟩ := by
  have e1 : hasP f.p (d ++ slash) = true := by
    rw [hasP_list, h, dirL, List.length_append, List.length_singleton]
    have e : d.toList ++ 47 :: r.toList = (d.toList ++ [47]) ++ r.toList := by simp
    rw [e, List.take_left' (by simp)]
    simp
  have e2 : (d ++ slash).size = d.toList.length + 1 := by
    rw [ByteArray.size_append, ByteArray.toList_eq]
    show d.data.size + 1 = d.data.toList.length + 1
    simp
  unfold belowOne
  rw [if_pos e1, extract_list, e2, h]
  have e3 : (d.toList ++ 47 :: r.toList).drop (d.toList.length + 1) = r.toList := by
    rw [← List.drop_drop]; simp
  rw [e3, txt_of rfl]

theorem belowOne_miss {d : ByteArray} {f : Fi} (h : (f.p.toList.take (d.toList.length + 1) == d.toList ++ [47]) = false) : belowOne d f = none := by
  have e1 : hasP f.p (d ++ slash) = false := by
    rw [hasP_list, dirL]
    simpa using h
  unfold belowOne
  rw [if_neg (by rw [e1]; decide)]

theorem belowF_pre (d : ByteArray) : ∀ t : List Fi, belowF d (t.map (pre d)) = t
  | [] => rfl
  | f :: t => by
    have ih := belowF_pre d t
    have h := belowOne_hit (d := d) (f := pre d f) (r := f.p) (toList_pre d f.p)
    unfold belowF at ih ⊢
    rw [List.map_cons, List.filterMap_cons, h]
    show (⟨f.p, (pre d f).b⟩ : Fi) :: _ = _
    rw [ih]
    rfl

theorem belowF_none {d : ByteArray} : ∀ {t : List Fi}, (∀ f ∈ t, (f.p.toList.take (d.toList.length + 1) == d.toList ++ [47]) = false) → belowF d t = []
  | [], _ => rfl
  | f :: t, h => by
    have ih := belowF_none (d := d) (t := t) (fun g hg => h g (List.mem_cons_of_mem _ hg))
    unfold belowF at ih ⊢
    rw [List.filterMap_cons, belowOne_miss (h f List.mem_cons_self), ih]

theorem belowF_append (d : ByteArray) (a b : List Fi) : belowF d (a ++ b) = belowF d a ++ belowF d b := by
  unfold belowF
  exact List.filterMap_append

theorem putF_app {s : ByteArray} {l : List UInt8} : ∀ {A : List Fi} (B : List Fi), (∀ f ∈ A, Op.bytesLess f.p.toList s.toList = true) → putF s l (A ++ B) = A ++ putF s l B
  | [], _, _ => rfl
  | f :: A, B, h => by
    have ih := putF_app (s := s) (l := l) (A := A) B (fun g hg => h g (List.mem_cons_of_mem _ hg))
    rw [List.cons_append]
    show (if Op.bytesLess f.p.toList s.toList then f :: putF s l (A ++ B) else _) = _
    rw [if_pos (h f List.mem_cons_self), ih]
    rfl

theorem putF_head {s : ByteArray} {l : List UInt8} : ∀ {B : List Fi}, (∀ f ∈ B, Op.bytesLess s.toList f.p.toList = true) → putF s l B = ⟨s, l⟩ :: B
  | [], _ => rfl
  | f :: B, h => by
    have h1 := h f List.mem_cons_self
    have h2 : Op.bytesLess f.p.toList s.toList = false := by
      cases hx : Op.bytesLess f.p.toList s.toList with
      | false => rfl
      | true =>
        have := bytesLess_trans h1 hx
        rw [bytesLess_irrefl] at this
        cases this
    have h3 : (f.p.toList == s.toList) = false := by
      rw [beq_eq_false_iff_ne]
      intro e
      rw [e, bytesLess_irrefl] at h1
      cases h1
    show (if Op.bytesLess f.p.toList s.toList then f :: putF s l B else if f.p.toList == s.toList then ⟨s, l⟩ :: B else ⟨s, l⟩ :: f :: B) = _
    rw [h2, h3]
    rfl

theorem putF_self : ∀ {t : List Fi} {f : Fi}, Up t → f ∈ t → putF f.p f.b t = t
  | g :: t, f, hu, hf => by
    obtain ⟨h1, h2⟩ := List.pairwise_cons.1 hu
    show (if Op.bytesLess g.p.toList f.p.toList then g :: putF f.p f.b t else if g.p.toList == f.p.toList then ⟨f.p, f.b⟩ :: t else ⟨f.p, f.b⟩ :: g :: t) = _
    rcases List.mem_cons.1 hf with rfl | hf
    · rw [bytesLess_irrefl]
      simp
    · rw [if_pos (h1 f hf), putF_self h2 hf]

theorem putAll_self : ∀ {u t : List Fi}, Up t → (∀ f ∈ u, f ∈ t) → putAll u t = t
  | [], _, _, _ => rfl
  | f :: u, t, hu, h => by
    show putAll u (putF f.p f.b t) = t
    rw [putF_self hu (h f List.mem_cons_self)]
    exact putAll_self hu (fun g hg => h g (List.mem_cons_of_mem _ hg))

theorem putAll_mid {A B : List Fi} : ∀ {U : List Fi}, Up U → (∀ f ∈ A, ∀ g ∈ U, Op.bytesLess f.p.toList g.p.toList = true) → (∀ g ∈ U, ∀ f ∈ B, Op.bytesLess g.p.toList f.p.toList = true) →
    ∀ k, k ≤ U.length → putAll (U.take k) (A ++ B) = A ++ U.take k ++ B := by
  intro U hU hA hB k
  induction k with
  | zero => intro _; simp [putAll]
  | succ k ih =>
    intro hk
    have hk' : k < U.length := hk
    rw [putAll_take hk', ih (by omega)]
    have hlt : ∀ f ∈ A ++ U.take k, Op.bytesLess f.p.toList U[k].p.toList = true := by
      intro f hf
      rcases List.mem_append.1 hf with hf | hf
      · exact hA f hf _ (List.getElem_mem hk')
      · obtain ⟨i, hi, rfl⟩ := List.mem_iff_getElem.1 hf
        rw [List.length_take] at hi
        rw [List.getElem_take]
        exact List.pairwise_iff_getElem.1 hU i k (by omega) hk' (by omega)
    rw [putF_app B hlt, putF_head (fun f hf => hB _ (List.getElem_mem hk') f hf), ← List.take_append_getElem hk']
    simp only [List.append_assoc, List.cons_append, List.nil_append]
end Go.Proofs.YteckjgngglpcaaaGreatDoor
