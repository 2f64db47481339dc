/-
  The five instructions' states.
-/
import Derived.Test.YteckjgngglpcaaaGreatDoorPlain
namespace Go.Proofs.YteckjgngglpcaaaGreatDoor
open Go.RowKit

def dP : ByteArray := ⟨#[100]⟩
def zP : ByteArray := ⟨#[122]⟩
def yP : ByteArray := ⟨#[121]⟩
def uP : ByteArray := ⟨#[117]⟩
def ozP : ByteArray := ⟨#[111, 117, 116, 47, 122]⟩
def oyP : ByteArray := ⟨#[111, 117, 116, 47, 121]⟩
def ouP : ByteArray := ⟨#[111, 117, 116, 47, 117]⟩
theorem tl_d : dP.toList = [100] := by rw [ByteArray.toList_eq]; rfl
theorem tl_z : zP.toList = [122] := by rw [ByteArray.toList_eq]; rfl
theorem tl_y : yP.toList = [121] := by rw [ByteArray.toList_eq]; rfl
theorem tl_u : uP.toList = [117] := by rw [ByteArray.toList_eq]; rfl
theorem tl_o : outP.toList = [111, 117, 116] := by rw [ByteArray.toList_eq]; rfl
theorem tl_oz : ozP.toList = [111, 117, 116, 47, 122] := by rw [ByteArray.toList_eq]; rfl
theorem tl_oy : oyP.toList = [111, 117, 116, 47, 121] := by rw [ByteArray.toList_eq]; rfl
theorem tl_ou : ouP.toList = [111, 117, 116, 47, 117] := by rw [ByteArray.toList_eq]; rfl
theorem pok_d : POK dP := (pok_iff _).2 ⟨by decide, by decide⟩
theorem pok_z : POK zP := (pok_iff _).2 ⟨by decide, by decide⟩
theorem pok_y : POK yP := (pok_iff _).2 ⟨by decide, by decide⟩
theorem pok_u : POK uP := (pok_iff _).2 ⟨by decide, by decide⟩
theorem pok_o : POK outP := (pok_iff _).2 ⟨by decide, by decide⟩
theorem pok_oz : POK ozP := (pok_iff _).2 ⟨by decide, by decide⟩
theorem pok_oy : POK oyP := (pok_iff _).2 ⟨by decide, by decide⟩
theorem pok_ou : POK ouP := (pok_iff _).2 ⟨by decide, by decide⟩

def preD (t : List Fi) : List Fi := t.map (pre dP)
def preU (t : List Fi) : List Fi := t.map (pre ouP)

theorem in_D {t : List Fi} {f : Fi} (h : f ∈ preD t) : ∃ l, f.p.toList = 100 :: 47 :: l := by
  obtain ⟨g, _, rfl⟩ := List.mem_map.1 h
  exact ⟨g.p.toList, by show (dP ++ slash ++ g.p).toList = _; rw [toList_pre, tl_d]; rfl⟩
theorem in_U {t : List Fi} {f : Fi} (h : f ∈ preU t) : ∃ l, f.p.toList = 111 :: 117 :: 116 :: 47 :: 117 :: 47 :: l := by
  obtain ⟨g, _, rfl⟩ := List.mem_map.1 h
  exact ⟨g.p.toList, by show (ouP ++ slash ++ g.p).toList = _; rw [toList_pre, tl_ou]; rfl⟩

theorem D_z {t : List Fi} : ∀ f ∈ preD t, Op.bytesLess f.p.toList zP.toList = true := fun f hf => by
  obtain ⟨l, e⟩ := in_D hf
  rw [e, tl_z]; rfl
theorem D_oz {t : List Fi} : ∀ f ∈ preD t, Op.bytesLess f.p.toList ozP.toList = true := fun f hf => by
  obtain ⟨l, e⟩ := in_D hf
  rw [e, tl_oz]; rfl
theorem D_oy {t : List Fi} : ∀ f ∈ preD t, Op.bytesLess f.p.toList oyP.toList = true := fun f hf => by
  obtain ⟨l, e⟩ := in_D hf
  rw [e, tl_oy]; rfl
theorem D_U {t : List Fi} : ∀ f ∈ preD t, ∀ g ∈ preU t, Op.bytesLess f.p.toList g.p.toList = true := fun f hf g hg => by
  obtain ⟨l, e⟩ := in_D hf
  obtain ⟨m, e'⟩ := in_U hg
  rw [e, e']; rfl
theorem U_oy {t : List Fi} : ∀ f ∈ preU t, Op.bytesLess f.p.toList oyP.toList = true := fun f hf => by
  obtain ⟨l, e⟩ := in_U hf
  rw [e, tl_oy]; rfl
theorem U_oz {t : List Fi} : ∀ f ∈ preU t, Op.bytesLess f.p.toList ozP.toList = true := fun f hf => by
  obtain ⟨l, e⟩ := in_U hf
  rw [e, tl_oz]; rfl
theorem U_z {t : List Fi} : ∀ f ∈ preU t, Op.bytesLess f.p.toList zP.toList = true := fun f hf => by
  obtain ⟨l, e⟩ := in_U hf
  rw [e, tl_z]; rfl

def T1 (t : List Fi) (r : List UInt8) : List Fi := preD t ++ [⟨zP, r⟩]
def T2 (t : List Fi) (r : List UInt8) : List Fi := preD t ++ [⟨ozP, r⟩, ⟨zP, r⟩]
def T3 (t : List Fi) (r : List UInt8) : List Fi := preD t ++ preU t ++ [⟨ozP, r⟩, ⟨zP, r⟩]
def T4 (t : List Fi) (r : List UInt8) : List Fi := preD t ++ preU t ++ [⟨oyP, r⟩, ⟨ozP, r⟩, ⟨zP, r⟩]
def TO (t : List Fi) (r : List UInt8) : List Fi := t.map (pre uP) ++ [⟨yP, r⟩, ⟨zP, r⟩]

theorem put_1 (t : List Fi) (r : List UInt8) : putF zP r (preD t) = T1 t r := by
  have := putF_app (s := zP) (l := r) (A := preD t) [] D_z
  rwa [List.append_nil] at this

theorem put_2 (t : List Fi) (r : List UInt8) : putF ozP r (T1 t r) = T2 t r := by
  unfold T1 T2
  rw [putF_app _ D_oz, putF_head (fun f hf => by obtain rfl := List.mem_singleton.1 hf; rw [tl_oz]; show Op.bytesLess _ zP.toList = true; rw [tl_z]; rfl)]

theorem put_4 (t : List Fi) (r : List UInt8) : putF oyP r (T3 t r) = T4 t r := by
  unfold T3 T4
  rw [putF_app _ (fun f hf => by
    rcases List.mem_append.1 hf with hf | hf
    · exact D_oy f hf
    · exact U_oy f hf), putF_head (fun f hf => by
    simp only [List.mem_cons, List.not_mem_nil, or_false] at hf
    rcases hf with rfl | rfl
    · show Op.bytesLess _ ozP.toList = true; rw [tl_oy, tl_oz]; rfl
    · show Op.bytesLess _ zP.toList = true; rw [tl_oy, tl_z]; rfl)]

theorem put_3 {t : List Fi} (r : List UInt8) (hU : Up (preU t)) (k : Nat) (hk : k ≤ (preU t).length) : putAll ((preU t).take k) (T2 t r) = preD t ++ (preU t).take k ++ [⟨ozP, r⟩, ⟨zP, r⟩] := by
  unfold T2
  exact putAll_mid hU D_U (fun g hg f hf => by
    simp only [List.mem_cons, List.not_mem_nil, or_false] at hf
    rcases hf with rfl | rfl
    · exact U_oz g hg
    · exact U_z g hg) k hk

theorem below_D (t : List Fi) (B : List Fi) (hB : ∀ f ∈ B, (f.p.toList.take 2 == [100, 47]) = false) : belowF dP (preD t ++ B) = t := by
  rw [belowF_append]
  show belowF dP (t.map (pre dP)) ++ _ = t
  rw [belowF_pre, belowF_none (fun f hf => by rw [tl_d]; exact hB f hf), List.append_nil]

theorem below_T0 (t : List Fi) : belowF dP (preD t) = t := by
  have := below_D t [] (fun f hf => by cases hf)
  rwa [List.append_nil] at this

theorem below_T3 (t : List Fi) (r : List UInt8) : belowF dP (T3 t r) = t := by
  unfold T3
  rw [List.append_assoc]
  refine below_D t _ fun f hf => ?_
  rcases List.mem_append.1 hf with hf | hf
  · obtain ⟨l, e⟩ := in_U hf
    rw [e]; rfl
  · simp only [List.mem_cons, List.not_mem_nil, or_false] at hf
    rcases hf with rfl | rfl
    · show ((ozP.toList).take 2 == _) = false; rw [tl_oz]; rfl
    · show ((zP.toList).take 2 == _) = false; rw [tl_z]; rfl

theorem below_U : ∀ t : List Fi, belowF outP (preU t) = t.map (pre uP)
  | [] => rfl
  | f :: t => by
    have ih := below_U t
    have h := belowOne_hit (d := outP) (f := pre ouP f) (r := uP ++ slash ++ f.p) (by
      show (ouP ++ slash ++ f.p).toList = _
      rw [toList_pre, toList_pre, tl_ou, tl_o, tl_u]; rfl)
    unfold preU belowF at ih ⊢
    rw [List.map_cons, List.filterMap_cons, h]
    show (⟨uP ++ slash ++ f.p, (pre ouP f).b⟩ : Fi) :: _ = _
    rw [ih]
    rfl

theorem below_T4 (t : List Fi) (r : List UInt8) : belowF outP (T4 t r) = TO t r := by
  unfold T4 TO
  rw [List.append_assoc, belowF_append, belowF_append, below_U, belowF_none (fun f hf => by
    obtain ⟨l, e⟩ := in_D hf
    rw [e, tl_o]; rfl)]
  have h1 : belowOne outP ⟨oyP, r⟩ = some ⟨yP, r⟩ := belowOne_hit (r := yP) (by rw [tl_o, tl_y]; exact tl_oy)
  have h2 : belowOne outP ⟨ozP, r⟩ = some ⟨zP, r⟩ := belowOne_hit (r := zP) (by rw [tl_o, tl_z]; exact tl_oz)
  have h3 : belowOne outP ⟨zP, r⟩ = none := belowOne_miss (by show (zP.toList.take _ == _) = false; rw [tl_z, tl_o]; rfl)
  unfold belowF
  rw [List.filterMap_cons, h1, List.filterMap_cons, h2, List.filterMap_cons, h3]
  simp
end Go.Proofs.YteckjgngglpcaaaGreatDoor
