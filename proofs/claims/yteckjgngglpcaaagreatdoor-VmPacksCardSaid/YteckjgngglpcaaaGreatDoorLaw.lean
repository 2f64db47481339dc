/-
  For every tree that it is called with, murmurationlaw07.VmPacks returns true, and the tree reads afterwards as it read before.
  Conditions: the listed package-level variables (murmuration/program.fields, unicode/utf8.acceptRanges, unicode/utf8.first) hold at the call what the program's text lays in them (the card ties them); of internal/bytealg.MaxLen nothing is asked; the memory, the schedule and the rest are the model's.
  This text: the argument opened, the row, its witness, the card. The walks and the plain laws lie in the other texts of this claim.
-/
import Derived.Test.YteckjgngglpcaaaGreatDoorVmPacks
import Derived.Test.YteckjgngglpcaaaGreatDoorCards
import Derived.Test.YteckjgngglpcaaaGreatDoorTie
import Derived.ProofKit
import Derived.OpenShut
import Derived.ChangeSame
import Derived.Deep.Slices
import Derived.Deep.Fields
import Derived.Deep.SlicePairs
import Derived.Carry
import Derived.Deep.DeepHandedRow
import Derived.Lib.LaidTab
namespace Go.Proofs.YteckjgngglpcaaaGreatDoor.vmPacks
open Go.ChangeShapes Go.WideShapes Go.ChangeAt Go.RowKit Go.Deep

theorem own : ownKnob Tryz.prog.godebug = none := by kernel_rfl
theorem laidOut : laidOutB Tryz.prog = true := by kernel_rfl
theorem cells5 : Tryz.prog.cellsOf 5 = 1 := by kernel_rfl
theorem cells28 : Tryz.prog.cellsOf 28 = 2 := by kernel_rfl

theorem cells26 : Tryz.prog.cellsOf 26 = 1 := by kernel_rfl
theorem cells9 : Tryz.prog.cellsOf 9 = 1 := by kernel_rfl
theorem gFields : Tryz.prog.globalNamed "murmuration/program.fields" = some 0 := by kernel_rfl
theorem gFieldsType : (Tryz.prog.globals[0]?).map (·.type) = some 77 := by kernel_rfl

instance : Inhabited Fi := ⟨⟨.empty, []⟩⟩

section
variable {H : Type} {enc : TypeId × Value → H}

/-- Bytes, opened. -/
theorem opened_bytes {W : World} {base n : Nat} {held : Bool} {v : Value} {y : DataW H × List MemPlace} (h : DataW.trod enc Tryz.prog W base (fun _ => true) held n 26 [v] = some y) : ∃ l : List UInt8, RdB (fun _ => True) W v l := by
  rcases open_ints Tryz.underlying26 Tryz.underlying5 cells5 h with ⟨hcs, _⟩ | ⟨a, len, cap, zs, hcs, _, hl, hm, hz, _, hcell, hwz⟩
  · obtain rfl : v = .slice none 0 0 := by simpa using hcs
    exact ⟨[], RdB.nil _ _⟩
  · obtain rfl : v = .slice (some a) len cap := by simpa using hcs
    simp only [if_true] at hz
    obtain ⟨l, hl0⟩ : ∃ l : List UInt8, l = (zs.take len).map fun z => UInt8.ofNat z.toNat := ⟨_, rfl⟩
    have hll : l.length = len := by rw [hl0, List.length_map, List.length_take]; omega
    refine ⟨l, ⟨some a, cap, by rw [hll], by omega, hm, (fun h => by cases h), fun hp => ?_⟩⟩
    obtain ⟨b, off, rfl, hc⟩ := ints_at hcell (by omega)
    refine ⟨b, off, rfl, trivial, fun i hi => ?_⟩
    rw [hc i (by omega)]
    have hi' : i < zs.length := by omega
    have hw := bounds_u8 (hwz _ (List.getElem_mem hi'))
    subst hl0
    have e : zs.getD i 0 = zs[i] := by simp [List.getD, hi']
    rw [e]
    simp only [List.getElem_map, List.getElem_take]
    congr 2
    have : (UInt8.ofNat zs[i].toNat).toNat = zs[i].toNat := by simp; omega
    rw [this]
    omega

/-- A tree, opened. -/
theorem opened_tree {W : World} {base n : Nat} {held : Bool} {v : Value} {y : DataW H × List MemPlace} (h : DataW.trod enc Tryz.prog W base (fun _ => true) held n 23 [v] = some y) : ∃ t : List Fi, RdT (fun _ => True) (fun _ => True) W v t := by
  rcases open_slice_pairs Tryz.underlying23 Tryz.underlying28 cells28 rfl rfl cells9 cells26 h with ⟨hcs, _⟩ | ⟨a, len, cap, m, k, V0, V1, D0, D1, P0, P1, hcs, _, hl, hm, hmm, _, hx⟩
  · obtain rfl : v = .slice none 0 0 := by simpa using hcs
    exact ⟨[], RdT.nil _ _ _⟩
  · obtain rfl : v = .slice (some a) len cap := by simpa using hcs
    simp only [if_true] at hmm
    subst hmm
    have each : ∀ i, i < m → ∃ f : Fi, W.cell? (a.add (i * 2)) = some (.string f.p) ∧ f.p.size ≤ maxLen ∧ W.cell? (a.add (i * 2 + 1)) = some (V1 i) ∧ RdB (fun _ => True) W (V1 i) f.b := by
      intro i hi
      obtain ⟨h0, h1, t0, t1⟩ := hx i hi
      obtain ⟨s, hs, _, hsz⟩ := DataW.trod_string Tryz.underlying9 t0
      obtain ⟨l, hlb⟩ := opened_bytes t1
      simp only [List.cons.injEq, and_true] at hs
      exact ⟨⟨s, l⟩, by rw [h0, hs], hsz, h1, hlb⟩
    obtain ⟨F, hF⟩ := choose_lt each
    refine ⟨(List.range len).map F, some a, m, by simp, by simpa using hl, hm, (fun h => by cases h), fun hp => ?_⟩
    have hp' : 0 < len := by simpa using hp
    have hspot := World.cell?_spot (hF 0 (by omega)).1
    obtain ⟨b, off, spot⟩ := a
    obtain rfl : spot = none := by simpa [Addr.add] using hspot
    refine ⟨b, off, rfl, trivial, fun i hi => ?_⟩
    have hi' : i < len := by simpa using hi
    obtain ⟨c0, hz, c1, hb⟩ := hF i (by omega)
    rw [add_plain] at c0 c1
    simp only [List.getElem_map, List.getElem_range]
    exact ⟨c0, hz, V1 i, by rw [Nat.add_assoc]; exact c1, hb⟩
end

/-- What the row's list gives. -/
theorem fields_of {W : World} (h : laidMetH Tryz.prog Rows.vmPacksRow.laid W) : Fields W := by
  have h' : laidMet Tryz.prog [("unicode/utf8.acceptRanges", Rows.laid_unicode_utf8_acceptRanges), ("murmuration/program.fields", Rows.laid_murmuration_program_fields), ("unicode/utf8.first", Rows.laid_unicode_utf8_first)] W := h
  obtain ⟨ps, ⟨_, _, _, _, _, _, _, _, _, _, ⟨g, t, cs, fuel, p, q, hg, ht, hvar, hd, _, _⟩, _⟩, _⟩ := h'
  obtain rfl := Option.some.inj (gFields.symm.trans hg)
  obtain rfl := Option.some.inj (gFieldsType.symm.trans ht)
  obtain ⟨xs, m, _, hx, hl, hxl, hi⟩ := DataW.trod_array Tryz.underlying77 hd
  have hx1 := congrArg Prod.fst hx
  simp only [Rows.laid_murmuration_program_fields, DataW.agg.injEq] at hx1
  rw [cells9] at hi
  have key : ∀ (op : Nat) (s : ByteArray), op < 12 → (xs.map (·.1))[op]? = some (.lit (.string s.data.toList)) → W.cell? ⟨0, op, none⟩ = some (.string s) := by
    intro op s hop hs
    have h1 := hi op hop
    rw [List.getElem?_map] at hs
    obtain ⟨y, hy, hys⟩ := Option.map_eq_some_iff.1 hs
    rw [hy] at h1
    obtain ⟨s', hc, hy', _⟩ := DataW.trod_string Tryz.underlying9 h1
    subst hy'
    simp only [DataW.lit.injEq, Lit.string.injEq] at hys
    obtain rfl : s' = s := by
      cases s; cases s'
      congr 1
      exact Array.toList_inj.1 hys
    rw [World.var?_cell hg hvar op]
    have := congrArg (·[0]?) hc
    simpa [List.getElem?_take, List.getElem?_drop] using this
  intro op ho
  rw [← hx1] at key
  simp only [List.mem_cons, List.not_mem_nil, or_false] at ho
  rcases ho with rfl | rfl | rfl | rfl | rfl
  · exact key 1 (fieldsOf 1) (by decide) rfl
  · exact key 5 (fieldsOf 5) (by decide) rfl
  · exact key 6 (fieldsOf 6) (by decide) rfl
  · exact key 7 (fieldsOf 7) (by decide) rfl
  · exact key 8 (fieldsOf 8) (by decide) rfl

set_option maxRecDepth 100000 in
/-- What the walk gives, for every argument and every world that holds the tables. -/
theorem contract (H : Type) (enc : TypeId × Value → H) (W : World) (base : Nat) (args : Array Value) (ds gs : List (DataW H)) (before : List MemPlace)
    (hval : ∀ (j : Nat) t v, Tryz.f3.params[j]? = some t → args[j]? = some v → Value.okWide Tryz.prog W .any base t v)
    (hW : DataW.Whole enc Tryz.prog Tryz.f3.params.toList Rows.vmPacksSpec.vars false W args.toList ds gs before) (hL : laidMetH Tryz.prog Rows.vmPacksRow.laid W) :
    Calls Tryz.prog 3 args W fun e W' => ∃ v, e = .returned v ∧ Rows.vmPacksSpec.post enc Tryz.prog Tryz.f3 false true false false W args v W' := by
  have hW' := hW
  obtain ⟨p, q, hA0, hV, rfl, hfz, hnd⟩ := hW
  have hA : DataW.TrodAll enc Tryz.prog W 0 (fun _ => true) true Tryz.f3.params.toList args.toList ds p := hA0
  rw [Tryz.params3] at hA hval
  obtain ⟨v0, vs0, d0, ds0, p0, q0, hargs, rfl, rfl, h0, r0⟩ := trodAll_cons hA
  obtain ⟨rfl, rfl, rfl⟩ := trodAll_nil r0
  obtain rfl : args = #[v0] := by cases args; simp_all
  obtain ⟨rfl, rfl⟩ := trodVars_none hV
  have hval0 := hval 0 23 v0 rfl rfl
  have h0k := h0
  obtain ⟨fuel, hf⟩ := h0
  obtain ⟨a, len, cap, rfl⟩ := okWide_slice Tryz.underlying23 hval0
  obtain ⟨t, ht⟩ := opened_tree (v := .slice a len cap) hf
  have hlt : ∀ x ∈ p0, x.block < W.heap.size := fun x hx => hW'.lt x (by simpa using hx)
  refine (law_f (fields_of hL) ht).mono fun e W' ⟨he, hg⟩ => ?_
  subst he
  exact ⟨_, rfl, _, _, _, [], p0, [], hW', trodAll_mk1 (shut_bool Tryz.underlying4 _),
    trodAll_mk1 (Below.trod laidOut (by kernel_rfl) (of_decide_eq_true (by kernel_rfl)) h0k hg hlt), rfl, hg.frame _, fun h => by cases h⟩

/-- A world for the witness: the settled one, the tables laid. -/
noncomputable def laidWorld (os : Os) : World :=
  { World.holding Tryz.prog os ⟨#[], #[], []⟩ with heap := ((((World.holding Tryz.prog os ⟨#[], #[], []⟩).heap.modify 3 fun
      | .cells _ t frozen => .cells #[.int .u8 128, .int .u8 191, .int .u8 160, .int .u8 191, .int .u8 128, .int .u8 159, .int .u8 144, .int .u8 191, .int .u8 128, .int .u8 143, .int .u8 0, .int .u8 0, .int .u8 0, .int .u8 0, .int .u8 0, .int .u8 0, .int .u8 0, .int .u8 0, .int .u8 0, .int .u8 0, .int .u8 0, .int .u8 0, .int .u8 0, .int .u8 0, .int .u8 0, .int .u8 0, .int .u8 0, .int .u8 0, .int .u8 0, .int .u8 0, .int .u8 0, .int .u8 0] t frozen
      | o => o).modify 0 fun
      | .cells _ t frozen => .cells #[.string ⟨#[]⟩, .string ⟨#[112, 112, 46, 46, 46]⟩, .string ⟨#[112, 112, 112, 46, 46]⟩, .string ⟨#[112, 112, 46, 110, 110]⟩, .string ⟨#[112, 87, 119, 46, 46]⟩, .string ⟨#[112, 46, 46, 46, 46]⟩, .string ⟨#[112, 112, 46, 46, 46]⟩, .string ⟨#[112, 112, 46, 46, 46]⟩, .string ⟨#[46, 46, 46, 106, 46]⟩, .string ⟨#[112, 46, 46, 106, 46]⟩, .string ⟨#[112, 112, 46, 106, 46]⟩, .string ⟨#[46, 46, 46, 46, 46]⟩] t frozen
      | o => o).modify 2 fun
      | .cells _ t frozen => .cells (Go.Pinned.utf8FirstZ.map fun (n : Nat) => Value.int .u8 (n : Int)).toArray t frozen
      | o => o) }
theorem laid_met (os : Os) : laidMet Tryz.prog Rows.vmPacksRow.laid ((laidWorld os).forCall (fun _ _ => 0) ⟨#[], #[.slice none 0 0], []⟩).memory :=
  laidMet_of_run' 8 (by kernel_rfl) (by kernel_rfl)
theorem reads (os : Os) {H : Type} (enc : TypeId × Value → H) : ∃ places, DataW.whole enc Tryz.prog ((laidWorld os).forCall (fun _ _ => 0) ⟨#[], #[.slice none 0 0], []⟩).memory Tryz.f3.params.toList Rows.vmPacksSpec.vars false #[Value.slice none 0 0].toList 8 = some ([.nil], [], places) :=
  ⟨[], by kernel_rfl⟩

set_option maxRecDepth 100000 in
/-- The row's step. -/
theorem lifted (os : Os) (started : os.Started) (H : Type) (enc : TypeId × Value → H) (F : Stop.Interp) :
    ReturnsInHanded {} Tryz.checked os 3 .any ((OpenSpec.ofChange Rows.vmPacksSpec).preRow enc Tryz.prog Tryz.f3 Rows.vmPacksRow.domain false Rows.vmPacksRow.laid) (((OpenSpec.ofChange Rows.vmPacksSpec).at F).post enc Tryz.prog Tryz.f3 false true false false) := by
  obtain ⟨places, hx⟩ := reads os enc
  refine returnsInHanded_of_row (C := Tryz.checked) (s := OpenSpec.ofChange Rows.vmPacksSpec) own started (by kernel_rfl) Tryz.func3
    (witness_row_at (enc := enc) (C := Tryz.checked) false (laidWorld os) #[.slice none 0 0] rfl (by kernel_rfl) (by kernel_rfl) (by kernel_rfl)
      (OpenSpec.preRow_of_cond 8 hx (by kernel_rfl) (fun k hk => by cases hk) (by kernel_rfl) (laid_met os))) ?_
  intro W base args ds gs before hval hW _ _ _ hL _ _
  exact contract H enc W base args ds gs before hval hW hL

theorem said : Rows.VmPacksSaid :=
  OpenClaim.holds_of_cond 3 Tryz.f3 rfl rfl rfl rfl rfl rfl rfl ⟨rfl, rfl, rfl, rfl, rfl⟩ rfl rfl rfl rfl rfl (by kernel_rfl) Tryz.func3 (by kernel_rfl)
    (of_decide_eq_true (by kernel_rfl)) (by unfold Func.isWrapper; first | (rw [if_pos (by decide +kernel)]; kernel_rfl) | (rw [if_neg (by decide +kernel)]; exact ⟨rfl, rfl⟩))
    (fun os started H enc _ F => by rw [OpenClaim.pre_eq_preRow]; exact lifted os started H enc F)

/-- No parameter wants a stand-in; the program's own looks are on: what the card asks. -/
theorem plain (f : FuncId) (fn : Func) (hf : Tryz.pinned.checked.prog.funcNamed "murmuration/murmurationlaw07.VmPacks" = some f) (hfn : Tryz.pinned.checked.prog.funcs[f]? = some fn) :
    true = Tryz.pinned.checked.prog.looks [] ∧ ∀ (j : Nat) t, fn.params[j]? = some t → Tryz.pinned.checked.prog.wantsStandIn t = false := by
  obtain rfl : f = 3 := Option.some.inj ((show Tryz.prog.funcNamed "murmuration/murmurationlaw07.VmPacks" = some 3 by kernel_rfl).symm.trans hf) |>.symm
  obtain rfl : fn = Tryz.f3 := (Option.some.inj (Tryz.func3.symm.trans hfn)).symm
  refine ⟨by kernel_rfl, fun j t ht => ?_⟩
  rw [Tryz.params3] at ht
  obtain rfl : t = 23 := by simpa using Array.mem_of_getElem? ht
  exact (show Tryz.prog.wantsStandIn 23 = false by kernel_rfl)

/-- The card. -/
theorem card : Rows.VmPacksCardSaid :=
  Claim7.holds_tied_plain_at .later [] _ _ _ _ said (fun _ h => by cases h) (by kernel_rfl) (fun _ h => by cases h) vmPacks_row_tie rfl ⟨rfl, rfl⟩ (by kernel_rfl) rfl plain (by kernel_rfl)
end Go.Proofs.YteckjgngglpcaaaGreatDoor.vmPacks
