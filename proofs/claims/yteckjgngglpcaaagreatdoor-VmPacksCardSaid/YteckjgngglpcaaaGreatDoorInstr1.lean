/-
  Which instructions may be.
-/
import Derived.Test.YteckjgngglpcaaaGreatDoorStep2
import Derived.Lib.OthersKept
namespace Go.Proofs.YteckjgngglpcaaaGreatDoor
open Go.RowKit

/-- What a kind of instruction has. -/
def fieldsOf : Nat → ByteArray
  | 1 => ⟨#[112, 112, 46, 46, 46]⟩
  | 5 => ⟨#[112, 46, 46, 46, 46]⟩
  | 6 => ⟨#[112, 112, 46, 46, 46]⟩
  | 7 => ⟨#[112, 112, 46, 46, 46]⟩
  | 8 => ⟨#[46, 46, 46, 106, 46]⟩
  | _ => ⟨#[]⟩

/-- The table of what kinds have, as far as it is asked. -/
def Fields (w : World) : Prop := ∀ op, op ∈ [1, 5, 6, 7, 8] → w.cell? ⟨0, op, none⟩ = some (.string (fieldsOf op))

theorem Fields.below {w w' : World} (h : Fields w) (hB : Below w.heap.size w w') : Fields w' := fun op ho => Keeps.below_cell hB (h op ho)

theorem three_cells (w : World) (c0 c1 c2 : Array Value) (t0 t1 t2 : TypeId) (i : Nat) :
    ((((w.alloc (.cells c0 t0)).alloc (.cells c1 t1)).alloc (.cells c2 t2)).drew.cell? ⟨w.heap.size, i, none⟩ = c0[i]?) ∧
    ((((w.alloc (.cells c0 t0)).alloc (.cells c1 t1)).alloc (.cells c2 t2)).drew.cell? ⟨w.heap.size + 1, i, none⟩ = c1[i]?) ∧
    ((((w.alloc (.cells c0 t0)).alloc (.cells c1 t1)).alloc (.cells c2 t2)).drew.cell? ⟨w.heap.size + 1 + 1, i, none⟩ = c2[i]?) := by
  have h0 : (((w.alloc (.cells c0 t0)).alloc (.cells c1 t1)).alloc (.cells c2 t2)).heap[w.heap.size]? = some (.cells c0 t0) := by
    rw [Below.heap_alloc _ _ _ (by simp; omega), Below.heap_alloc _ _ _ (by simp), heap_alloc_new]
  have h1 : (((w.alloc (.cells c0 t0)).alloc (.cells c1 t1)).alloc (.cells c2 t2)).heap[w.heap.size + 1]? = some (.cells c1 t1) := by
    have e : (w.alloc (.cells c0 t0)).heap.size = w.heap.size + 1 := by simp
    rw [Below.heap_alloc _ _ _ (by simp), ← e, heap_alloc_new]
  have h2 : (((w.alloc (.cells c0 t0)).alloc (.cells c1 t1)).alloc (.cells c2 t2)).heap[w.heap.size + 1 + 1]? = some (.cells c2 t2) := by
    have e : ((w.alloc (.cells c0 t0)).alloc (.cells c1 t1)).heap.size = w.heap.size + 1 + 1 := by simp
    rw [← e, heap_alloc_new]
  exact ⟨cell_of_row _ _ i _ _ _ h0, cell_of_row _ _ i _ _ _ h1, cell_of_row _ _ i _ _ _ h2⟩

set_option maxRecDepth 100000 in
set_option maxHeartbeats 8000000 in
theorem one_any {w : World} {op : Nat} (ho1 : 1 ≤ op) (ho2 : op ≤ 11) {c0 c1 c3 : UInt8} (hF : w.cell? ⟨0, op, none⟩ = some (.string ⟨#[c0, c1, 46, c3, 46]⟩)) {a b : ByteArray} {n many : Nat}
    (h0 : (c0 = 112 ∧ POK a) ∨ (c0 = 46 ∧ a = .empty)) (h1 : (c1 = 112 ∧ POK b) ∨ (c1 = 46 ∧ b = .empty)) (h3 : (c3 = 46 ∧ n = 0) ∨ (c3 = 106 ∧ n ≤ many)) :
    Calls Tryz.prog 31 #[insV op a b .empty n 0, .int .i64 many] w fun e w' => e = .returned (.bool true) ∧ Below w.heap.size w w' := by
  have dl1 : decide ((op : Int) < 1) = false := decide_eq_false (by omega)
  have dl2 : decide ((11 : Int) < (op : Int)) = false := decide_eq_false (by omega)
  have H0 := Lib.hid h0
  have H1 := Lib.hid h1
  have H3 := Lib.hid h3
  unfold insV
  clear h0 h1 h3
  go_enter Tryz.func31, Tryz.ntmps31
  go_upto_region 3 with fail
  go_cut [5, 6] from 18 to 29 (fun s5 s6 wx => ∃ g h : Nat, s5 = .pointer (some ⟨g, 0, none⟩) ∧ s6 = .pointer (some ⟨h, 0, none⟩) ∧ Below w.heap.size w wx ∧ wx.cell? ⟨w.heap.size, 0, none⟩ = some (Value.int .u8 op) ∧
    wx.cell? ⟨g, 0, none⟩ = some (Value.string a) ∧ wx.cell? ⟨g, 1, none⟩ = some (Value.string b) ∧ wx.cell? ⟨g, 2, none⟩ = some (Value.string ByteArray.empty) ∧ wx.cell? ⟨h, 0, none⟩ = some (Value.int .i64 n) ∧ wx.cell? ⟨h, 1, none⟩ = some (Value.int .i64 0))
  case first =>
    go_region
    · go_wp2_with fail
      go_meet
      exact ⟨w.heap.size + 1, w.heap.size + 1 + 1, rfl, rfl, ((((Below.refl _ _).alloc (Nat.le_refl _) _).alloc (by simp) _).alloc (by simp; omega) _).drew, (three_cells w _ _ _ _ _ _ 0).1, (three_cells w _ _ _ _ _ _ 0).2.1, (three_cells w _ _ _ _ _ _ 1).2.1, (three_cells w _ _ _ _ _ _ 2).2.1, (three_cells w _ _ _ _ _ _ 0).2.2, (three_cells w _ _ _ _ _ _ 1).2.2⟩
    · go_wp2_with fail
      go_meet
      exact ⟨w.heap.size + 1 + 1, w.heap.size + 1, rfl, rfl, ((((Below.refl _ _).alloc (Nat.le_refl _) _).alloc (by simp) _).alloc (by simp; omega) _).drew, (three_cells w _ _ _ _ _ _ 0).1, (three_cells w _ _ _ _ _ _ 0).2.2, (three_cells w _ _ _ _ _ _ 1).2.2, (three_cells w _ _ _ _ _ _ 2).2.2, (three_cells w _ _ _ _ _ _ 0).2.1, (three_cells w _ _ _ _ _ _ 1).2.1⟩
  case rest =>
    obtain ⟨g, h, rfl, rfl, hB4, z0, x0, x1, x2, y0, y1⟩ := hcut
    have g0 := Keeps.below_cell hB4 hF
    go_wp2
    go_loopg [9] 5 (fun q _ wr => ∃ k : Nat, k + q = 5 ∧ wr.heap[wc.heap.size]? = some (.stringIter ⟨#[c0, c1, 46, c3, 46]⟩ k) ∧ Below wc.heap.size wc wr)
    case atStart => exact ⟨0, rfl, World.iter_heap _ _ _, (Below.refl _ _).alloc (Nat.le_refl _) _⟩
    case round =>
      obtain ⟨k, hk, hI, hB⟩ := hrel
      have hK : Keeps (· < wc.heap.size) wc wr := Keeps.below' hB (fun _ h => h)
      have lx := World.block_lt_of_cell? wc _ x0
      have ly := World.block_lt_of_cell? wc _ y0
      have HB := Lib.hid hB
      clear g0 hB dl1 dl2 z0 hF
      rcases (by omega : k = 0 ∨ k = 1 ∨ k = 2 ∨ k = 3 ∨ k = 4 ∨ k = 5) with rfl | rfl | rfl | rfl | rfl | rfl
      · rcases H0.out with ⟨rfl, hpok⟩ | ⟨rfl, rfl⟩
        · obtain rfl : gk = 5 := by omega
          clear H0
          have hnx : ∀ ty, (Instr.next (.pointer (some ⟨wc.heap.size, 0, none⟩)) true ty).run Tryz.prog wr = .ok (.tuple #[.bool true, .int .i64 0, .int .i32 112]) (wr.iterAt wc.heap.size ⟨#[112, c1, 46, c3, 46]⟩ 1) := fun ty => Lib.run_next_ascii_at wr _ ⟨#[112, c1, 46, c3, 46]⟩ 0 ty hI (show (0 : Nat) < 5 by decide) (show (112 : UInt8).toNat < 128 by decide)
          have hI1 := Lib.iterAt_heap wr wc.heap.size ⟨#[112, c1, 46, c3, 46]⟩ 0 1 hI
          have hB1 := Lib.below_iterAt HB.out (Nat.le_refl _) ⟨#[112, c1, 46, c3, 46]⟩ 1
          have hK1 : Keeps (· < wc.heap.size) wr (wr.iterAt wc.heap.size ⟨#[112, c1, 46, c3, 46]⟩ 1) := Keeps.below' (Lib.below_iterAt (Below.refl wc.heap.size wr) (Nat.le_refl _) ⟨#[112, c1, 46, c3, 46]⟩ 1) (fun _ h => h)
          have s0 := hK1.cell lx (hK.cell lx x0)
          have HI1 := Lib.hid hI1
          have HB1 := Lib.hid hB1
          clear x0 x1 x2 y0 y1 hI hI1 hB1 hK1 hK lx ly
          generalize wr.iterAt wc.heap.size ⟨#[112, c1, 46, c3, 46]⟩ 1 = W5 at *
          go_wp2_with fail
          refine (isPath_f _ hpok _).mono ?_
          rintro e w6 ⟨rfl, hB6⟩
          go_wp2
          go_roundg 4
          case measure => omega
          case rel => exact ⟨1, rfl, (hB6.block _ (Array.getElem?_eq_some_iff.1 HI1.out).1).trans HI1.out, HB1.out.trans (hB6.mono HB1.out.size)⟩
        · obtain rfl : gk = 5 := by omega
          clear H0
          have hnx : ∀ ty, (Instr.next (.pointer (some ⟨wc.heap.size, 0, none⟩)) true ty).run Tryz.prog wr = .ok (.tuple #[.bool true, .int .i64 0, .int .i32 46]) (wr.iterAt wc.heap.size ⟨#[46, c1, 46, c3, 46]⟩ 1) := fun ty => Lib.run_next_ascii_at wr _ ⟨#[46, c1, 46, c3, 46]⟩ 0 ty hI (show (0 : Nat) < 5 by decide) (show (46 : UInt8).toNat < 128 by decide)
          have hI1 := Lib.iterAt_heap wr wc.heap.size ⟨#[46, c1, 46, c3, 46]⟩ 0 1 hI
          have hB1 := Lib.below_iterAt HB.out (Nat.le_refl _) ⟨#[46, c1, 46, c3, 46]⟩ 1
          have hK1 : Keeps (· < wc.heap.size) wr (wr.iterAt wc.heap.size ⟨#[46, c1, 46, c3, 46]⟩ 1) := Keeps.below' (Lib.below_iterAt (Below.refl wc.heap.size wr) (Nat.le_refl _) ⟨#[46, c1, 46, c3, 46]⟩ 1) (fun _ h => h)
          have s0 := hK1.cell lx (hK.cell lx x0)
          have HI1 := Lib.hid hI1
          have HB1 := Lib.hid hB1
          clear x0 x1 x2 y0 y1 hI hI1 hB1 hK1 hK lx ly
          generalize wr.iterAt wc.heap.size ⟨#[46, c1, 46, c3, 46]⟩ 1 = W5 at *
          go_wp2
          go_roundg 4
          case measure => omega
          case rel => exact ⟨1, rfl, HI1.out, HB1.out⟩
      · rcases H1.out with ⟨rfl, hpok⟩ | ⟨rfl, rfl⟩
        · obtain rfl : gk = 4 := by omega
          clear H1
          have hnx : ∀ ty, (Instr.next (.pointer (some ⟨wc.heap.size, 0, none⟩)) true ty).run Tryz.prog wr = .ok (.tuple #[.bool true, .int .i64 1, .int .i32 112]) (wr.iterAt wc.heap.size ⟨#[c0, 112, 46, c3, 46]⟩ 2) := fun ty => Lib.run_next_ascii_at wr _ ⟨#[c0, 112, 46, c3, 46]⟩ 1 ty hI (show (1 : Nat) < 5 by decide) (show (112 : UInt8).toNat < 128 by decide)
          have hI1 := Lib.iterAt_heap wr wc.heap.size ⟨#[c0, 112, 46, c3, 46]⟩ 1 2 hI
          have hB1 := Lib.below_iterAt HB.out (Nat.le_refl _) ⟨#[c0, 112, 46, c3, 46]⟩ 2
          have hK1 : Keeps (· < wc.heap.size) wr (wr.iterAt wc.heap.size ⟨#[c0, 112, 46, c3, 46]⟩ 2) := Keeps.below' (Lib.below_iterAt (Below.refl wc.heap.size wr) (Nat.le_refl _) ⟨#[c0, 112, 46, c3, 46]⟩ 2) (fun _ h => h)
          have s0 := hK1.cell lx (hK.cell lx x1)
          have HI1 := Lib.hid hI1
          have HB1 := Lib.hid hB1
          clear x0 x1 x2 y0 y1 hI hI1 hB1 hK1 hK lx ly
          generalize wr.iterAt wc.heap.size ⟨#[c0, 112, 46, c3, 46]⟩ 2 = W5 at *
          go_wp2_with fail
          refine (isPath_f _ hpok _).mono ?_
          rintro e w6 ⟨rfl, hB6⟩
          go_wp2
          go_roundg 3
          case measure => omega
          case rel => exact ⟨2, rfl, (hB6.block _ (Array.getElem?_eq_some_iff.1 HI1.out).1).trans HI1.out, HB1.out.trans (hB6.mono HB1.out.size)⟩
        · obtain rfl : gk = 4 := by omega
          clear H1
          have hnx : ∀ ty, (Instr.next (.pointer (some ⟨wc.heap.size, 0, none⟩)) true ty).run Tryz.prog wr = .ok (.tuple #[.bool true, .int .i64 1, .int .i32 46]) (wr.iterAt wc.heap.size ⟨#[c0, 46, 46, c3, 46]⟩ 2) := fun ty => Lib.run_next_ascii_at wr _ ⟨#[c0, 46, 46, c3, 46]⟩ 1 ty hI (show (1 : Nat) < 5 by decide) (show (46 : UInt8).toNat < 128 by decide)
          have hI1 := Lib.iterAt_heap wr wc.heap.size ⟨#[c0, 46, 46, c3, 46]⟩ 1 2 hI
          have hB1 := Lib.below_iterAt HB.out (Nat.le_refl _) ⟨#[c0, 46, 46, c3, 46]⟩ 2
          have hK1 : Keeps (· < wc.heap.size) wr (wr.iterAt wc.heap.size ⟨#[c0, 46, 46, c3, 46]⟩ 2) := Keeps.below' (Lib.below_iterAt (Below.refl wc.heap.size wr) (Nat.le_refl _) ⟨#[c0, 46, 46, c3, 46]⟩ 2) (fun _ h => h)
          have s0 := hK1.cell lx (hK.cell lx x1)
          have HI1 := Lib.hid hI1
          have HB1 := Lib.hid hB1
          clear x0 x1 x2 y0 y1 hI hI1 hB1 hK1 hK lx ly
          generalize wr.iterAt wc.heap.size ⟨#[c0, 46, 46, c3, 46]⟩ 2 = W5 at *
          go_wp2
          go_roundg 3
          case measure => omega
          case rel => exact ⟨2, rfl, HI1.out, HB1.out⟩
      · obtain rfl : gk = 3 := by omega
        have hnx : ∀ ty, (Instr.next (.pointer (some ⟨wc.heap.size, 0, none⟩)) true ty).run Tryz.prog wr = .ok (.tuple #[.bool true, .int .i64 2, .int .i32 46]) (wr.iterAt wc.heap.size ⟨#[c0, c1, 46, c3, 46]⟩ 3) := fun ty => Lib.run_next_ascii_at wr _ ⟨#[c0, c1, 46, c3, 46]⟩ 2 ty hI (show (2 : Nat) < 5 by decide) (show (46 : UInt8).toNat < 128 by decide)
        have hI1 := Lib.iterAt_heap wr wc.heap.size ⟨#[c0, c1, 46, c3, 46]⟩ 2 3 hI
        have hB1 := Lib.below_iterAt HB.out (Nat.le_refl _) ⟨#[c0, c1, 46, c3, 46]⟩ 3
        have hK1 : Keeps (· < wc.heap.size) wr (wr.iterAt wc.heap.size ⟨#[c0, c1, 46, c3, 46]⟩ 3) := Keeps.below' (Lib.below_iterAt (Below.refl wc.heap.size wr) (Nat.le_refl _) ⟨#[c0, c1, 46, c3, 46]⟩ 3) (fun _ h => h)
        have s0 := hK1.cell lx (hK.cell lx x2)
        have HI1 := Lib.hid hI1
        have HB1 := Lib.hid hB1
        clear x0 x1 x2 y0 y1 hI hI1 hB1 hK1 hK lx ly
        generalize wr.iterAt wc.heap.size ⟨#[c0, c1, 46, c3, 46]⟩ 3 = W5 at *
        go_wp2
        go_roundg 2
        case measure => omega
        case rel => exact ⟨3, rfl, HI1.out, HB1.out⟩
      · rcases H3.out with ⟨rfl, rfl⟩ | ⟨rfl, hnm⟩
        · obtain rfl : gk = 2 := by omega
          clear H3
          have hnx : ∀ ty, (Instr.next (.pointer (some ⟨wc.heap.size, 0, none⟩)) true ty).run Tryz.prog wr = .ok (.tuple #[.bool true, .int .i64 3, .int .i32 46]) (wr.iterAt wc.heap.size ⟨#[c0, c1, 46, 46, 46]⟩ 4) := fun ty => Lib.run_next_ascii_at wr _ ⟨#[c0, c1, 46, 46, 46]⟩ 3 ty hI (show (3 : Nat) < 5 by decide) (show (46 : UInt8).toNat < 128 by decide)
          have hI1 := Lib.iterAt_heap wr wc.heap.size ⟨#[c0, c1, 46, 46, 46]⟩ 3 4 hI
          have hB1 := Lib.below_iterAt HB.out (Nat.le_refl _) ⟨#[c0, c1, 46, 46, 46]⟩ 4
          have hK1 : Keeps (· < wc.heap.size) wr (wr.iterAt wc.heap.size ⟨#[c0, c1, 46, 46, 46]⟩ 4) := Keeps.below' (Lib.below_iterAt (Below.refl wc.heap.size wr) (Nat.le_refl _) ⟨#[c0, c1, 46, 46, 46]⟩ 4) (fun _ h => h)
          have s0 := hK1.cell ly (hK.cell ly y0)
          have HI1 := Lib.hid hI1
          have HB1 := Lib.hid hB1
          clear x0 x1 x2 y0 y1 hI hI1 hB1 hK1 hK lx ly
          generalize wr.iterAt wc.heap.size ⟨#[c0, c1, 46, 46, 46]⟩ 4 = W5 at *
          go_wp2
          go_roundg 1
          case measure => omega
          case rel => exact ⟨4, rfl, HI1.out, HB1.out⟩
        · obtain rfl : gk = 2 := by omega
          clear H3
          have dn : decide ((n : Int) ≤ (many : Int)) = true := decide_eq_true (by omega)
          have hnx : ∀ ty, (Instr.next (.pointer (some ⟨wc.heap.size, 0, none⟩)) true ty).run Tryz.prog wr = .ok (.tuple #[.bool true, .int .i64 3, .int .i32 106]) (wr.iterAt wc.heap.size ⟨#[c0, c1, 46, 106, 46]⟩ 4) := fun ty => Lib.run_next_ascii_at wr _ ⟨#[c0, c1, 46, 106, 46]⟩ 3 ty hI (show (3 : Nat) < 5 by decide) (show (106 : UInt8).toNat < 128 by decide)
          have hI1 := Lib.iterAt_heap wr wc.heap.size ⟨#[c0, c1, 46, 106, 46]⟩ 3 4 hI
          have hB1 := Lib.below_iterAt HB.out (Nat.le_refl _) ⟨#[c0, c1, 46, 106, 46]⟩ 4
          have hK1 : Keeps (· < wc.heap.size) wr (wr.iterAt wc.heap.size ⟨#[c0, c1, 46, 106, 46]⟩ 4) := Keeps.below' (Lib.below_iterAt (Below.refl wc.heap.size wr) (Nat.le_refl _) ⟨#[c0, c1, 46, 106, 46]⟩ 4) (fun _ h => h)
          have s0 := hK1.cell ly (hK.cell ly y0)
          have HI1 := Lib.hid hI1
          have HB1 := Lib.hid hB1
          clear x0 x1 x2 y0 y1 hI hI1 hB1 hK1 hK lx ly
          generalize wr.iterAt wc.heap.size ⟨#[c0, c1, 46, 106, 46]⟩ 4 = W5 at *
          go_wp2
          go_roundg 1
          case measure => omega
          case rel => exact ⟨4, rfl, HI1.out, HB1.out⟩
      · obtain rfl : gk = 1 := by omega
        have hnx : ∀ ty, (Instr.next (.pointer (some ⟨wc.heap.size, 0, none⟩)) true ty).run Tryz.prog wr = .ok (.tuple #[.bool true, .int .i64 4, .int .i32 46]) (wr.iterAt wc.heap.size ⟨#[c0, c1, 46, c3, 46]⟩ 5) := fun ty => Lib.run_next_ascii_at wr _ ⟨#[c0, c1, 46, c3, 46]⟩ 4 ty hI (show (4 : Nat) < 5 by decide) (show (46 : UInt8).toNat < 128 by decide)
        have hI1 := Lib.iterAt_heap wr wc.heap.size ⟨#[c0, c1, 46, c3, 46]⟩ 4 5 hI
        have hB1 := Lib.below_iterAt HB.out (Nat.le_refl _) ⟨#[c0, c1, 46, c3, 46]⟩ 5
        have hK1 : Keeps (· < wc.heap.size) wr (wr.iterAt wc.heap.size ⟨#[c0, c1, 46, c3, 46]⟩ 5) := Keeps.below' (Lib.below_iterAt (Below.refl wc.heap.size wr) (Nat.le_refl _) ⟨#[c0, c1, 46, c3, 46]⟩ 5) (fun _ h => h)
        have s0 := hK1.cell ly (hK.cell ly y1)
        have HI1 := Lib.hid hI1
        have HB1 := Lib.hid hB1
        clear x0 x1 x2 y0 y1 hI hI1 hB1 hK1 hK lx ly
        generalize wr.iterAt wc.heap.size ⟨#[c0, c1, 46, c3, 46]⟩ 5 = W5 at *
        go_wp2
        go_roundg 0
        case measure => omega
        case rel => exact ⟨5, rfl, HI1.out, HB1.out⟩
      · have hnx : ∀ ty, (Instr.next (.pointer (some ⟨wc.heap.size, 0, none⟩)) true ty).run Tryz.prog wr = .ok (.tuple #[.bool false]) wr := fun ty => Lib.run_next_end_at wr _ ⟨#[c0, c1, 46, c3, 46]⟩ 5 ty hI (show ¬ (5 : Nat) < 5 by decide)
        clear x0 x1 x2 y0 y1 hK lx ly hI
        go_wp2
        go_ret
        exact ⟨rfl, hB4.trans (HB.out.mono hB4.size)⟩
end Go.Proofs.YteckjgngglpcaaaGreatDoor
