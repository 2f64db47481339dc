/-
  tree.Under, at trees that fit below the directory; paths that are put together.
-/
import Derived.Test.YteckjgngglpcaaaGreatDoorGet
namespace Go.Proofs.YteckjgngglpcaaaGreatDoor
open Go.RowKit

/-- '/' as a text. -/
abbrev slash : ByteArray := { data := #[47] }

/-- A file below a directory. -/
def pre (d : ByteArray) (f : Fi) : Fi := ⟨d ++ slash ++ f.p, f.b⟩

theorem size_pre (d p : ByteArray) : (d ++ slash ++ p).size = d.size + 1 + p.size := by
  rw [ByteArray.size_append, ByteArray.size_append]
  rfl

theorem toList_pre (d p : ByteArray) : (d ++ slash ++ p).toList = d.toList ++ 47 :: p.toList := by
  simp [ByteArray.toList_eq, slash]

/-- Is it a byte of a name? -/
def plainT (c : Nat) : Bool := (decide (97 ≤ c) && decide (c ≤ 122)) || (decide (48 ≤ c) && decide (c ≤ 57)) || c == 46 || c == 95 || c == 45

theorem plainT_iff {c : Nat} : plainT c = true ↔ plainB c := by
  unfold plainT plainB
  simp [or_assoc]

/-- A path by its bytes, 'prev' ahead of them. -/
def okFrom : Nat → List UInt8 → Bool
  | prev, [] => prev != 47
  | prev, c :: l => (plainT c.toNat || (c == 47 && prev != 47)) && okFrom c.toNat l

theorem okFrom_append : ∀ (a b : List UInt8) (prev : Nat), okFrom prev a = true → okFrom 47 b = true → okFrom prev (a ++ 47 :: b) = true
  | [], b, prev, h, k => by
    simp only [okFrom, bne_iff_ne, ne_eq] at h
    simp only [List.nil_append, okFrom, Bool.and_eq_true, Bool.or_eq_true]
    exact ⟨Or.inr (by simp [h]), k⟩
  | c :: a, b, prev, h, k => by
    simp only [okFrom, Bool.and_eq_true] at h
    simp only [List.cons_append, okFrom, Bool.and_eq_true]
    exact ⟨h.1, okFrom_append a b c.toNat h.2 k⟩

theorem u8_47 {c : UInt8} : c.toNat = 47 ↔ c = 47 := by
  rw [← UInt8.toNat_inj]
  rfl

theorem okFrom_of : ∀ (l : List UInt8) (prev : Nat), (l = [] → prev ≠ 47) → (∀ i (h : i < l.length), plainB l[i].toNat ∨ (l[i].toNat = 47 ∧ (if i = 0 then prev else (l.getD (i - 1) 0).toNat) ≠ 47)) →
    (∀ h : 0 < l.length, (l[l.length - 1]'(by omega)).toNat ≠ 47) → okFrom prev l = true
  | [], prev, h, _, _ => by simp [okFrom, h rfl]
  | c :: l, prev, _, h, hl => by
    have h0 := h 0 (by simp)
    simp only [List.getElem_cons_zero, ↓reduceIte] at h0
    simp only [okFrom, Bool.and_eq_true, Bool.or_eq_true, plainT_iff]
    refine ⟨h0.imp id (fun ⟨h1, h2⟩ => by simp [u8_47.1 h1, h2]), okFrom_of l c.toNat (fun e => ?_) (fun i hi => ?_) (fun hp => ?_)⟩
    · subst e
      exact hl (by simp)
    · have h1 := h (i + 1) (by simpa using hi)
      simp only [List.getElem_cons_succ, Nat.add_one_ne_zero, ↓reduceIte, Nat.add_sub_cancel] at h1
      refine h1.imp id (fun ⟨h1, h2⟩ => ⟨h1, ?_⟩)
      by_cases e : i = 0
      · subst e
        simpa using h2
      · rw [if_neg e]
        obtain ⟨j, rfl⟩ : ∃ j, i = j + 1 := ⟨i - 1, by omega⟩
        simpa [List.getD] using h2
    · have h1 := hl (by simp)
      obtain ⟨n, hn⟩ : ∃ n, l.length = n + 1 := ⟨l.length - 1, by omega⟩
      simpa [hn] using h1

theorem okFrom_to : ∀ (l : List UInt8) (prev : Nat), okFrom prev l = true → (∀ i (h : i < l.length), plainB l[i].toNat ∨ (l[i].toNat = 47 ∧ (if i = 0 then prev else (l.getD (i - 1) 0).toNat) ≠ 47)) ∧
    (∀ h : 0 < l.length, (l[l.length - 1]'(by omega)).toNat ≠ 47) ∧ (l = [] → prev ≠ 47)
  | [], prev, h => ⟨fun _ h => absurd h (Nat.not_lt_zero _), fun h => absurd h (Nat.not_lt_zero _), fun _ => by simpa [okFrom] using h⟩
  | c :: l, prev, h => by
    simp only [okFrom, Bool.and_eq_true, Bool.or_eq_true, plainT_iff] at h
    obtain ⟨h0, h1⟩ := h
    obtain ⟨h2, h3, h4⟩ := okFrom_to l c.toNat h1
    refine ⟨fun i hi => ?_, fun _ => ?_, fun e => by cases e⟩
    · cases i with
      | zero =>
        simp only [List.getElem_cons_zero, ↓reduceIte]
        refine h0.imp id (fun h => ?_)
        simp only [beq_iff_eq, bne_iff_ne, ne_eq] at h
        exact ⟨u8_47.2 h.1, h.2⟩
      | succ i =>
        simp only [List.getElem_cons_succ, Nat.add_one_ne_zero, ↓reduceIte, Nat.add_sub_cancel]
        refine (h2 i (by simpa using hi)).imp id (fun ⟨h1, h2⟩ => ⟨h1, ?_⟩)
        by_cases e : i = 0
        · subst e
          simpa using h2
        · rw [if_neg e] at h2
          obtain ⟨j, rfl⟩ : ∃ j, i = j + 1 := ⟨i - 1, by omega⟩
          simpa [List.getD] using h2
    · by_cases e : l = []
      · subst e
        simpa using h4 rfl
      · have hp : 0 < l.length := List.length_pos_iff.2 e
        have := h3 hp
        obtain ⟨n, hn⟩ : ∃ n, l.length = n + 1 := ⟨l.length - 1, by omega⟩
        simpa [hn] using this

theorem getB (s : ByteArray) (i : Nat) (h : i < s.size) : s[i] = s.data.toList[i]'(by simpa using h) := by
  simp [ByteArray.getElem_eq_getElem_data]

theorem size_list (s : ByteArray) : s.data.toList.length = s.size := by simp

/-- A path is what its bytes say. -/
theorem pok_iff (s : ByteArray) : POK s ↔ okFrom 47 s.data.toList = true ∧ s.size ≤ 40 := by
  constructor
  · intro h
    refine ⟨okFrom_of _ _ (fun e => ?_) (fun i hi => ?_) (fun hp => ?_), h.hi⟩
    · have := h.lo
      rw [← size_list, e] at this
      simp at this
    · have hi' : i < s.size := by simpa using hi
      have := h.each i hi'
      rw [getB] at this
      exact this
    · have := h.last
      have hi' : s.size - 1 < s.size := by have := h.lo; omega
      rw [getElem?_pos s (s.size - 1) hi', getB] at this
      simpa using this
  · rintro ⟨h, h40⟩
    obtain ⟨h1, h2, h3⟩ := okFrom_to _ _ h
    have hp : 0 < s.size := by
      rcases Nat.eq_zero_or_pos s.size with e | e
      · rw [← size_list] at e
        exact absurd rfl (h3 (List.eq_nil_of_length_eq_zero e))
      · exact e
    refine ⟨hp, h40, ?_, fun i hi => ?_⟩
    · rw [getElem?_pos s (s.size - 1) (by omega), getB]
      have := h2 (by rw [size_list]; exact hp)
      simpa using this
    · rw [getB]
      exact h1 i (by simpa using hi)

theorem POK.pre {d p : ByteArray} (hd : POK d) (hp : POK p) (h : d.size + 1 + p.size ≤ 40) : POK (d ++ slash ++ p) := by
  rw [pok_iff] at hd hp ⊢
  refine ⟨?_, by rw [size_pre]; exact h⟩
  rw [← ByteArray.toList_eq, toList_pre, ByteArray.toList_eq, ByteArray.toList_eq]
  exact okFrom_append _ _ _ hd.1 hp.1

theorem bytesLess_append : ∀ (x a b : List UInt8), Op.bytesLess (x ++ a) (x ++ b) = Op.bytesLess a b
  | [], _, _ => rfl
  | c :: x, a, b => by simp [Op.bytesLess, bytesLess_append x a b]

theorem TOK.pre {d : ByteArray} {t : List Fi} (hd : POK d) (ht : TOK t) (h : ∀ i (h : i < t.length), d.size + 1 + t[i].p.size ≤ 40) : TOK (t.map (pre d)) := by
  refine ⟨by simpa using ht.len, fun i hi => ?_, fun i hi => ?_⟩
  · have hi' : i < t.length := by simpa using hi
    simp only [List.getElem_map, Go.Proofs.YteckjgngglpcaaaGreatDoor.pre]
    exact ⟨POK.pre hd (ht.each i hi').1 (h i hi'), (ht.each i hi').2⟩
  · have hi' : i + 1 < t.length := by simpa using hi
    simp only [List.getElem_map, Go.Proofs.YteckjgngglpcaaaGreatDoor.pre]
    rw [toList_pre, toList_pre, bytesLess_append]
    simpa [Op.bytesLess] using ht.rise i hi'

theorem szs_pre (d : ByteArray) (t : List Fi) : szs (t.map (pre d)) = szs t := by
  unfold szs
  rw [List.map_map]
  rfl

/-- The first k files are below the directory, the others where they were. -/
def half (d : ByteArray) (t : List Fi) (k : Nat) : List Fi := (t.take k).map (pre d) ++ t.drop k

theorem half_length (d : ByteArray) (t : List Fi) (k : Nat) (h : k ≤ t.length) : (half d t k).length = t.length := by
  unfold half
  simp
  omega

theorem half_zero (d : ByteArray) (t : List Fi) : half d t 0 = t := by simp [half]
theorem half_all (d : ByteArray) (t : List Fi) (k : Nat) (h : t.length ≤ k) : half d t k = t.map (pre d) := by
  unfold half
  rw [List.take_of_length_le h, List.drop_eq_nil_of_le h, List.append_nil]

theorem half_at (d : ByteArray) (t : List Fi) (k : Nat) (h : k < t.length) : (half d t k)[k]? = some t[k] := by
  unfold half
  rw [List.getElem?_append_right (by simp; omega)]
  simp [h, show min k t.length = k by omega]

theorem half_succ (d : ByteArray) (t : List Fi) (k : Nat) (h : k < t.length) : (half d t k).set k (pre d t[k]) = half d t (k + 1) := by
  unfold half
  rw [List.set_append_right _ _ (by simp; omega), List.take_succ_eq_append_getElem h, List.map_append, List.append_assoc]
  congr 1
  rw [List.length_map, List.length_take, show min k t.length = k by omega, Nat.sub_self, List.drop_eq_getElem_cons h]
  rfl

set_option maxHeartbeats 1000000 in
theorem under_f {P R : Nat → Prop} {v : Value} {t : List Fi} {w : World} (hv : RdT P R w v t) (hT : TOK t) (hz : szs t ≤ 4000) (d : ByteArray) (hd : POK d) (hfit : ∀ i (h : i < t.length), d.size + 1 + t[i].p.size ≤ 40) :
    Calls Tryz.prog 6 #[v, .string d] w (RetTE (t.map (pre d)) w) := by
  have hdec : decide (szs t ≤ 4000) = true := decide_eq_true hz
  have hl := hT.len
  have hdlo := hd.lo
  have hdhi := hd.hi
  have hT' := Lib.hid (TOK.pre hd hT hfit)
  have hz' : Hid (szs (t.map (pre d)) ≤ 4000) := by rw [szs_pre]; exact Lib.hid hz
  have Hfit := Lib.hid hfit
  obtain ⟨a, cap, rfl, _, hm⟩ := hv.shape
  clear hfit
  go_enter Tryz.func6, Tryz.ntmps6
  go_wp2_with fail
  refine (may_f P R _ t w hv hT).mono ?_
  rintro e w1 ⟨rfl, hB⟩
  rw [hdec]
  go_wp2_with fail
  refine (isPath_f d hd _).mono ?_
  rintro e w2 ⟨rfl, hB2⟩
  have h12 := Below.then hB hB2
  have hv2 := hv.keeps (Keeps.below h12) (Keeps.below h12)
  go_wp2_with fail
  refine (cloneT_f hv2 (by omega)).mono ?_
  rintro e w3 ⟨v1, rfl, ho, hB3⟩
  have h13 := Below.then h12 hB3
  have ho1 : OwnT w.heap.size (fun _ => True) w3 v1 t := ho.base h12.size (fun _ _ => trivial)
  rcases ho1.shape with ⟨rfl, rfl⟩ | ⟨g, cap1, rfl, hg, hglt, hcap, hcm, _⟩
  · go_wp2
    go_loopw [20] (fun i wr => i = .int .i64 0 ∧ wr = w3) (fun _ _ => 0)
    case atStart => exact ⟨rfl, rfl⟩
    case round =>
      obtain ⟨rfl, rfl⟩ := hrel
      go_wp2_with fail
      refine (made_ok (P := fun _ => True) (R := fun _ => True) (RdT.nil _ _ _) hT hz).mono ?_
      rintro e w4 ⟨v4, rfl, ho4, hB4⟩
      go_wp2
      go_ret2
      exact ⟨v4, rfl, ho4.base h13.size (fun b hb => Nat.le_trans h13.size hb), Below.then h13 hB4⟩
  · unfold maxLen at hcm
    have hst : OwnT w.heap.size (fun _ => True) w3 (.slice (some ⟨g, 0, none⟩) t.length cap1) (half d t 0) := by rw [half_zero]; exact ho1
    go_wp2
    go_loopw [20] (fun i wr => ∃ k : Nat, k ≤ t.length ∧ i = .int .i64 k ∧ OwnT w.heap.size (fun _ => True) wr (.slice (some ⟨g, 0, none⟩) t.length cap1) (half d t k) ∧ Below w.heap.size w wr) (fun i _ => t.length - (intOf i).toNat)
    case atStart => exact ⟨0, by omega, rfl, hst, h13⟩
    case round =>
      obtain ⟨k, hk, rfl, hO, hBr⟩ := hrel
      by_cases hlt : k < t.length
      · rcases hO.shape with ⟨h, _⟩ | ⟨g', cap', h, _, hglt', _, _, hx⟩
        · cases h
        · simp only [Value.slice.injEq, Option.some.injEq, Addr.mk.injEq, and_true] at h
          obtain ⟨rfl, -, rfl⟩ := h
          have hlk := half_length d t k hk
          have hat : (half d t k)[k]'(by omega) = t[k] := by
            have := half_at d t k hlt
            rw [List.getElem?_eq_getElem (by omega)] at this
            exact Option.some.inj this
          have hx' := hx k (by omega)
          rw [hat] at hx'
          obtain ⟨c1, hpm, f1, f2, u, c2, hu⟩ := hx'
          have hfk := Hfit.out k hlt
          have hset := hO.setPath hlk.symm (i := k) (by omega) (s := d ++ slash ++ t[k].p) (by rw [size_pre]; simp only [maxLen]; omega)
          rw [hat] at hset
          have e1 : (half d t k).set k ⟨d ++ slash ++ t[k].p, t[k].b⟩ = half d t (k + 1) := half_succ d t k hlt
          rw [e1] at hset
          have Hset := Lib.hid hset
          clear hx hat hlk hset e1
          go_wp2
          go_roundw
          case rel => exact ⟨k + 1, by omega, by go_num, Hset.out, hBr.setCell hg _⟩
          case measure => simp [intOf]; omega
      · go_wp2_with fail
        have hrd := hO.rd
        rw [half_all d t k (by omega)] at hrd
        refine (made_ok hrd hT'.out hz'.out).mono ?_
        rintro e w4 ⟨v4, rfl, ho4, hB4⟩
        go_wp2
        go_ret2
        exact ⟨v4, rfl, ho4.base hBr.size (fun b hb => Nat.le_trans hBr.size hb), Below.then hBr hB4⟩

end Go.Proofs.YteckjgngglpcaaaGreatDoor
