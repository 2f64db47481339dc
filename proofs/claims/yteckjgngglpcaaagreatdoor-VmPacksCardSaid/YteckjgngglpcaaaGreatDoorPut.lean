/-
  A file put into a tree: plain.
-/
import Derived.Test.YteckjgngglpcaaaGreatDoorInsert
namespace Go.Proofs.YteckjgngglpcaaaGreatDoor
open Go.RowKit

/-- A file put into its place; one with its path goes. -/
def putF (s : ByteArray) (l : List UInt8) : List Fi → List Fi
  | [] => [⟨s, l⟩]
  | f :: t => if Op.bytesLess f.p.toList s.toList then f :: putF s l t else if f.p.toList == s.toList then ⟨s, l⟩ :: t else ⟨s, l⟩ :: f :: t

theorem mem_putF {s : ByteArray} {l : List UInt8} : ∀ {t : List Fi} {x : Fi}, x ∈ putF s l t → x = ⟨s, l⟩ ∨ x ∈ t
  | [], x, h => by simp [putF] at h; exact Or.inl h
  | f :: t, x, h => by
    unfold putF at h
    split at h
    · rcases List.mem_cons.1 h with h | h
      · exact Or.inr (by simp [h])
      · rcases mem_putF h with h | h
        · exact Or.inl h
        · exact Or.inr (by simp [h])
    · split at h
      · rcases List.mem_cons.1 h with h | h
        · exact Or.inl h
        · exact Or.inr (by simp [h])
      · rcases List.mem_cons.1 h with h | h
        · exact Or.inl h
        · exact Or.inr h

/-- The paths of a list of files rise. -/
def Up (t : List Fi) : Prop := t.Pairwise fun a b => Op.bytesLess a.p.toList b.p.toList = true

theorem TOK.up {t : List Fi} (h : TOK t) : Up t := List.pairwise_iff_getElem.2 fun i j _ hj hij => h.rises j i hj hij

theorem TOK.all {t : List Fi} (h : TOK t) : ∀ f ∈ t, POK f.p ∧ f.b.length ≤ 2000 := fun f hf => by
  obtain ⟨i, hi, rfl⟩ := List.mem_iff_getElem.1 hf
  exact h.each i hi

theorem TOK.of {t : List Fi} (h1 : t.length ≤ 16) (h2 : ∀ f ∈ t, POK f.p ∧ f.b.length ≤ 2000) (h3 : Up t) : TOK t :=
  ⟨h1, fun i hi => h2 _ (List.getElem_mem hi), fun i hi => List.pairwise_iff_getElem.1 h3 i (i + 1) (by omega) hi (by omega)⟩

theorem up_putF {s : ByteArray} {l : List UInt8} : ∀ {t : List Fi}, Up t → Up (putF s l t)
  | [], _ => by simp [putF, Up]
  | f :: t, h => by
    have h' := h
    unfold Up at h
    obtain ⟨h1, h2⟩ := List.pairwise_cons.1 h
    unfold putF
    split
    · rename_i hlt
      refine List.pairwise_cons.2 ⟨fun x hx => ?_, up_putF h2⟩
      rcases mem_putF hx with rfl | hx
      · exact hlt
      · exact h1 x hx
    · rename_i hlt
      split
      · rename_i he
        have he : f.p.toList = s.toList := by simpa using he
        refine List.pairwise_cons.2 ⟨fun x hx => ?_, h2⟩
        have := h1 x hx
        rwa [he] at this
      · rename_i he
        have he : f.p.toList ≠ s.toList := by simpa using he
        have hs : Op.bytesLess s.toList f.p.toList = true := bytesLess_total (by simpa using hlt) he
        refine List.pairwise_cons.2 ⟨fun x hx => ?_, h'⟩
        rcases List.mem_cons.1 hx with rfl | hx
        · exact hs
        · exact bytesLess_trans hs (h1 x hx)

theorem TOK.put {s : ByteArray} {l : List UInt8} {t : List Fi} (h : TOK t) (hs : POK s) (hl : l.length ≤ 2000) (hlen : (putF s l t).length ≤ 16) : TOK (putF s l t) := by
  refine TOK.of hlen (fun f hf => ?_) (up_putF h.up)
  rcases mem_putF hf with rfl | hf
  · exact ⟨hs, hl⟩
  · exact h.all f hf

theorem Place.cons {f : Fi} {t : List Fi} {s : ByteArray} {i : Nat} (h : Place (f :: t) s (i + 1)) : Place t s i :=
  ⟨by have := h.le; simpa using this, fun m hm hi => h.below (m + 1) (by simpa using hm) (by omega), fun m hm hi => h.from_ (m + 1) (by simpa using hm) (by omega)⟩

/-- Where a path stands, the file with it gets other bytes. -/
theorem putF_at {s : ByteArray} {l : List UInt8} : ∀ {t : List Fi} {i : Nat}, Place t s i → isAt t s i = true → t.set i ⟨s, l⟩ = putF s l t
  | [], i, _, ha => by simp [isAt] at ha
  | f :: t, 0, h, ha => by
    have h0 := h.from_ 0 (by simp) (Nat.le_refl _)
    simp only [List.getElem_cons_zero] at h0
    simp only [isAt, List.getElem?_cons_zero] at ha
    simp [putF, h0, ha]
  | f :: t, i + 1, h, ha => by
    have h0 := h.below 0 (by simp) (by omega)
    simp only [List.getElem_cons_zero] at h0
    have ha' : isAt t s i = true := by simpa [isAt] using ha
    have ih := putF_at (l := l) h.cons ha'
    simp [putF, h0, ih]

/-- Where it doesn't, it gets a place. -/
theorem putF_ins {s : ByteArray} {l : List UInt8} : ∀ {t : List Fi} {i : Nat}, Place t s i → isAt t s i = false → t.take i ++ ⟨s, l⟩ :: t.drop i = putF s l t
  | [], i, h, _ => by
    have := h.le
    obtain rfl : i = 0 := by simpa using this
    rfl
  | f :: t, 0, h, ha => by
    have h0 := h.from_ 0 (by simp) (Nat.le_refl _)
    simp only [List.getElem_cons_zero] at h0
    simp only [isAt, List.getElem?_cons_zero] at ha
    simp [putF, h0, ha]
  | f :: t, i + 1, h, ha => by
    have h0 := h.below 0 (by simp) (by omega)
    simp only [List.getElem_cons_zero] at h0
    have ha' : isAt t s i = false := by simpa [isAt] using ha
    have ih := putF_ins (l := l) h.cons ha'
    simp [putF, h0, ih]

/-- One file into a row of the call's own, wherever. -/
theorem insert_f {w : World} {base : Nat} {R R' : Nat → Prop} {v : Value} {t : List Fi} (h : OwnT base R w v t) (hbase : base ≤ w.heap.size) {f : Fi} {vb : Nat} {bvv : Value} (hx0 : w.heap[vb]? = some (.cells #[.string f.p, bvv] 28 (0, 0)))
    (hpm : f.p.size ≤ maxLen) (hbv : RdB R' w bvv f.b) (hne : some vb ≠ v.ownBlock) (hR' : ∀ b, R' b → some b ≠ v.ownBlock) (hl : t.length ≤ 100) {i : Nat} (hi : i ≤ t.length) :
    Calls Tryz.prog 64 #[v, .int .i64 i, .slice (some ⟨vb, 0, none⟩) 1 1] w (RetI base (fun b => R b ∨ R' b) (t.take i ++ f :: t.drop i) w) := by
  have hx := one_file hx0 hpm hbv
  by_cases hit : i = t.length
  · subst hit
    rw [List.take_of_length_le (Nat.le_refl _), List.drop_of_length_le (Nat.le_refl _)]
    exact insert_end h hbase hx hR' hl
  · rcases h.shape with ⟨_, rfl⟩ | ⟨g, cap, rfl, _⟩
    · simp at hi hit
      omega
    · by_cases hc : cap < t.length + 1
      · exact insert_grow h hbase hx hl (by omega) hc
      · exact insert_room h hx0 hx (fun e => hne (by rw [e]; rfl)) (fun b hb e => hR' b hb (by rw [e]; rfl)) hl (by omega) (by omega)

end Go.Proofs.YteckjgngglpcaaaGreatDoor
