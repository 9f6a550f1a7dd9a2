/-
  What the wrappers about a part can.
  Conditions: as each theorem says.
-/
import Derived.Test.YthjofgmiabcifabGreatDoorPSf
set_option linter.unusedVariables false
set_option linter.unusedSimpArgs false
namespace Go.Proofs.YthjofgmiabcifabGreatDoor.Sq
open Go Go.RowKit
/-- A wrapper about a core: its type tells what it can; it leads to the core. -/
def AboutPost (a : Addr) (c : Nat) (w : World) (e : Ending) (w' : World) : Prop := ∃ M, e = .returned (.iface (tyW c) (.pointer (some ⟨M, 0, none⟩))) ∧ w'.cell? ⟨M, 0, none⟩ = some (.pointer (some a)) ∧ Below w.heap.size w w'
abbrev AboutIn (f : FuncId) (a : Addr) (c : Nat) (w : World) : Prop := CallsIn FF 0 Tryz.prog f #[.pointer (some a), .int .u16 (c : Nat)] w (AboutPost a c w)
set_option maxRecDepth 100000 in
theorem about_0 (a : Addr) (w : World) : AboutIn 122 a 0 w := by
  gi_enter Tryz.func122, Tryz.ntmps122
  gi_wp2
  go_ret
  exact ⟨_, rfl, cell_new _ _ _ _, (Below.refl _ _).alloc (Nat.le_refl _) _⟩
set_option maxRecDepth 100000 in
theorem about_1 (a : Addr) (w : World) : AboutIn 122 a 1 w := by
  gi_enter Tryz.func122, Tryz.ntmps122
  gi_wp2
  go_ret
  exact ⟨_, rfl, cell_new _ _ _ _, (Below.refl _ _).alloc (Nat.le_refl _) _⟩
set_option maxRecDepth 100000 in
theorem about_2 (a : Addr) (w : World) : AboutIn 122 a 2 w := by
  gi_enter Tryz.func122, Tryz.ntmps122
  gi_wp2
  go_ret
  exact ⟨_, rfl, cell_new _ _ _ _, (Below.refl _ _).alloc (Nat.le_refl _) _⟩
set_option maxRecDepth 100000 in
theorem about_3 (a : Addr) (w : World) : AboutIn 122 a 3 w := by
  gi_enter Tryz.func122, Tryz.ntmps122
  gi_wp2
  go_ret
  exact ⟨_, rfl, cell_new _ _ _ _, (Below.refl _ _).alloc (Nat.le_refl _) _⟩
set_option maxRecDepth 100000 in
theorem about_4 (a : Addr) (w : World) : AboutIn 122 a 4 w := by
  gi_enter Tryz.func122, Tryz.ntmps122
  gi_wp2
  go_ret
  exact ⟨_, rfl, cell_new _ _ _ _, (Below.refl _ _).alloc (Nat.le_refl _) _⟩
set_option maxRecDepth 100000 in
theorem about_5 (a : Addr) (w : World) : AboutIn 122 a 5 w := by
  gi_enter Tryz.func122, Tryz.ntmps122
  gi_wp2
  go_ret
  exact ⟨_, rfl, cell_new _ _ _ _, (Below.refl _ _).alloc (Nat.le_refl _) _⟩
set_option maxRecDepth 100000 in
theorem about_6 (a : Addr) (w : World) : AboutIn 122 a 6 w := by
  gi_enter Tryz.func122, Tryz.ntmps122
  gi_wp2
  go_ret
  exact ⟨_, rfl, cell_new _ _ _ _, (Below.refl _ _).alloc (Nat.le_refl _) _⟩
set_option maxRecDepth 100000 in
theorem about_7 (a : Addr) (w : World) : AboutIn 122 a 7 w := by
  gi_enter Tryz.func122, Tryz.ntmps122
  gi_wp2
  go_ret
  exact ⟨_, rfl, cell_new _ _ _ _, (Below.refl _ _).alloc (Nat.le_refl _) _⟩
set_option maxRecDepth 100000 in
theorem about_8 (a : Addr) (w : World) : AboutIn 122 a 8 w := by
  gi_enter Tryz.func122, Tryz.ntmps122
  gi_wp2
  go_ret
  exact ⟨_, rfl, cell_new _ _ _ _, (Below.refl _ _).alloc (Nat.le_refl _) _⟩
set_option maxRecDepth 100000 in
theorem about_9 (a : Addr) (w : World) : AboutIn 122 a 9 w := by
  gi_enter Tryz.func122, Tryz.ntmps122
  gi_wp2
  go_ret
  exact ⟨_, rfl, cell_new _ _ _ _, (Below.refl _ _).alloc (Nat.le_refl _) _⟩
set_option maxRecDepth 100000 in
theorem about_10 (a : Addr) (w : World) : AboutIn 122 a 10 w := by
  gi_enter Tryz.func122, Tryz.ntmps122
  gi_wp2
  go_ret
  exact ⟨_, rfl, cell_new _ _ _ _, (Below.refl _ _).alloc (Nat.le_refl _) _⟩
set_option maxRecDepth 100000 in
theorem about_11 (a : Addr) (w : World) : AboutIn 122 a 11 w := by
  gi_enter Tryz.func122, Tryz.ntmps122
  gi_wp2
  go_ret
  exact ⟨_, rfl, cell_new _ _ _ _, (Below.refl _ _).alloc (Nat.le_refl _) _⟩
set_option maxRecDepth 100000 in
theorem about_12 (a : Addr) (w : World) : AboutIn 122 a 12 w := by
  gi_enter Tryz.func122, Tryz.ntmps122
  gi_wp2
  go_ret
  exact ⟨_, rfl, cell_new _ _ _ _, (Below.refl _ _).alloc (Nat.le_refl _) _⟩
set_option maxRecDepth 100000 in
theorem about_13 (a : Addr) (w : World) : AboutIn 122 a 13 w := by
  gi_enter Tryz.func122, Tryz.ntmps122
  gi_wp2
  go_ret
  exact ⟨_, rfl, cell_new _ _ _ _, (Below.refl _ _).alloc (Nat.le_refl _) _⟩
set_option maxRecDepth 100000 in
theorem about_14 (a : Addr) (w : World) : AboutIn 122 a 14 w := by
  gi_enter Tryz.func122, Tryz.ntmps122
  gi_wp2
  go_ret
  exact ⟨_, rfl, cell_new _ _ _ _, (Below.refl _ _).alloc (Nat.le_refl _) _⟩
set_option maxRecDepth 100000 in
theorem about_15 (a : Addr) (w : World) : AboutIn 122 a 15 w := by
  gi_enter Tryz.func122, Tryz.ntmps122
  gi_wp2
  go_ret
  exact ⟨_, rfl, cell_new _ _ _ _, (Below.refl _ _).alloc (Nat.le_refl _) _⟩
set_option maxRecDepth 100000 in
theorem about_16 (a : Addr) (w : World) : AboutIn 122 a 16 w := by
  gi_enter Tryz.func122, Tryz.ntmps122
  gi_wp2
  go_ret
  exact ⟨_, rfl, cell_new _ _ _ _, (Below.refl _ _).alloc (Nat.le_refl _) _⟩
set_option maxRecDepth 100000 in
theorem about_17 (a : Addr) (w : World) : AboutIn 122 a 17 w := by
  gi_enter Tryz.func122, Tryz.ntmps122
  gi_wp2
  go_ret
  exact ⟨_, rfl, cell_new _ _ _ _, (Below.refl _ _).alloc (Nat.le_refl _) _⟩
set_option maxRecDepth 100000 in
theorem about_18 (a : Addr) (w : World) : AboutIn 122 a 18 w := by
  gi_enter Tryz.func122, Tryz.ntmps122
  gi_wp2
  go_ret
  exact ⟨_, rfl, cell_new _ _ _ _, (Below.refl _ _).alloc (Nat.le_refl _) _⟩
set_option maxRecDepth 100000 in
theorem about_19 (a : Addr) (w : World) : AboutIn 122 a 19 w := by
  gi_enter Tryz.func122, Tryz.ntmps122
  gi_wp2
  go_ret
  exact ⟨_, rfl, cell_new _ _ _ _, (Below.refl _ _).alloc (Nat.le_refl _) _⟩
set_option maxRecDepth 100000 in
theorem about_20 (a : Addr) (w : World) : AboutIn 122 a 20 w := by
  gi_enter Tryz.func122, Tryz.ntmps122
  gi_wp2
  go_ret
  exact ⟨_, rfl, cell_new _ _ _ _, (Below.refl _ _).alloc (Nat.le_refl _) _⟩
set_option maxRecDepth 100000 in
theorem about_21 (a : Addr) (w : World) : AboutIn 122 a 21 w := by
  gi_enter Tryz.func122, Tryz.ntmps122
  gi_wp2
  go_ret
  exact ⟨_, rfl, cell_new _ _ _ _, (Below.refl _ _).alloc (Nat.le_refl _) _⟩
set_option maxRecDepth 100000 in
theorem about_22 (a : Addr) (w : World) : AboutIn 122 a 22 w := by
  gi_enter Tryz.func122, Tryz.ntmps122
  gi_wp2
  go_ret
  exact ⟨_, rfl, cell_new _ _ _ _, (Below.refl _ _).alloc (Nat.le_refl _) _⟩
set_option maxRecDepth 100000 in
theorem about_23 (a : Addr) (w : World) : AboutIn 122 a 23 w := by
  gi_enter Tryz.func122, Tryz.ntmps122
  gi_wp2
  go_ret
  exact ⟨_, rfl, cell_new _ _ _ _, (Below.refl _ _).alloc (Nat.le_refl _) _⟩
set_option maxRecDepth 100000 in
theorem about_24 (a : Addr) (w : World) : AboutIn 122 a 24 w := by
  gi_enter Tryz.func122, Tryz.ntmps122
  gi_wp2
  go_ret
  exact ⟨_, rfl, cell_new _ _ _ _, (Below.refl _ _).alloc (Nat.le_refl _) _⟩
set_option maxRecDepth 100000 in
theorem about_25 (a : Addr) (w : World) : AboutIn 122 a 25 w := by
  gi_enter Tryz.func122, Tryz.ntmps122
  gi_wp2
  go_ret
  exact ⟨_, rfl, cell_new _ _ _ _, (Below.refl _ _).alloc (Nat.le_refl _) _⟩
set_option maxRecDepth 100000 in
theorem about_26 (a : Addr) (w : World) : AboutIn 122 a 26 w := by
  gi_enter Tryz.func122, Tryz.ntmps122
  gi_wp2
  go_ret
  exact ⟨_, rfl, cell_new _ _ _ _, (Below.refl _ _).alloc (Nat.le_refl _) _⟩
set_option maxRecDepth 100000 in
theorem about_27 (a : Addr) (w : World) : AboutIn 122 a 27 w := by
  gi_enter Tryz.func122, Tryz.ntmps122
  gi_wp2
  go_ret
  exact ⟨_, rfl, cell_new _ _ _ _, (Below.refl _ _).alloc (Nat.le_refl _) _⟩
set_option maxRecDepth 100000 in
theorem about_28 (a : Addr) (w : World) : AboutIn 122 a 28 w := by
  gi_enter Tryz.func122, Tryz.ntmps122
  gi_wp2
  go_ret
  exact ⟨_, rfl, cell_new _ _ _ _, (Below.refl _ _).alloc (Nat.le_refl _) _⟩
set_option maxRecDepth 100000 in
theorem about_29 (a : Addr) (w : World) : AboutIn 122 a 29 w := by
  gi_enter Tryz.func122, Tryz.ntmps122
  gi_wp2
  go_ret
  exact ⟨_, rfl, cell_new _ _ _ _, (Below.refl _ _).alloc (Nat.le_refl _) _⟩
set_option maxRecDepth 100000 in
theorem about_30 (a : Addr) (w : World) : AboutIn 122 a 30 w := by
  gi_enter Tryz.func122, Tryz.ntmps122
  gi_wp2
  go_ret
  exact ⟨_, rfl, cell_new _ _ _ _, (Below.refl _ _).alloc (Nat.le_refl _) _⟩
set_option maxRecDepth 100000 in
theorem about_31 (a : Addr) (w : World) : AboutIn 122 a 31 w := by
  gi_enter Tryz.func122, Tryz.ntmps122
  gi_wp2
  go_ret
  exact ⟨_, rfl, cell_new _ _ _ _, (Below.refl _ _).alloc (Nat.le_refl _) _⟩
set_option maxRecDepth 100000 in
theorem about_32 (a : Addr) (w : World) : AboutIn 123 a 32 w := by
  gi_enter Tryz.func123, Tryz.ntmps123
  gi_wp2
  go_ret
  exact ⟨_, rfl, cell_new _ _ _ _, (Below.refl _ _).alloc (Nat.le_refl _) _⟩
set_option maxRecDepth 100000 in
theorem about_33 (a : Addr) (w : World) : AboutIn 123 a 33 w := by
  gi_enter Tryz.func123, Tryz.ntmps123
  gi_wp2
  go_ret
  exact ⟨_, rfl, cell_new _ _ _ _, (Below.refl _ _).alloc (Nat.le_refl _) _⟩
set_option maxRecDepth 100000 in
theorem about_34 (a : Addr) (w : World) : AboutIn 123 a 34 w := by
  gi_enter Tryz.func123, Tryz.ntmps123
  gi_wp2
  go_ret
  exact ⟨_, rfl, cell_new _ _ _ _, (Below.refl _ _).alloc (Nat.le_refl _) _⟩
set_option maxRecDepth 100000 in
theorem about_35 (a : Addr) (w : World) : AboutIn 123 a 35 w := by
  gi_enter Tryz.func123, Tryz.ntmps123
  gi_wp2
  go_ret
  exact ⟨_, rfl, cell_new _ _ _ _, (Below.refl _ _).alloc (Nat.le_refl _) _⟩
set_option maxRecDepth 100000 in
theorem about_36 (a : Addr) (w : World) : AboutIn 123 a 36 w := by
  gi_enter Tryz.func123, Tryz.ntmps123
  gi_wp2
  go_ret
  exact ⟨_, rfl, cell_new _ _ _ _, (Below.refl _ _).alloc (Nat.le_refl _) _⟩
set_option maxRecDepth 100000 in
theorem about_37 (a : Addr) (w : World) : AboutIn 123 a 37 w := by
  gi_enter Tryz.func123, Tryz.ntmps123
  gi_wp2
  go_ret
  exact ⟨_, rfl, cell_new _ _ _ _, (Below.refl _ _).alloc (Nat.le_refl _) _⟩
set_option maxRecDepth 100000 in
theorem about_38 (a : Addr) (w : World) : AboutIn 123 a 38 w := by
  gi_enter Tryz.func123, Tryz.ntmps123
  gi_wp2
  go_ret
  exact ⟨_, rfl, cell_new _ _ _ _, (Below.refl _ _).alloc (Nat.le_refl _) _⟩
set_option maxRecDepth 100000 in
theorem about_39 (a : Addr) (w : World) : AboutIn 123 a 39 w := by
  gi_enter Tryz.func123, Tryz.ntmps123
  gi_wp2
  go_ret
  exact ⟨_, rfl, cell_new _ _ _ _, (Below.refl _ _).alloc (Nat.le_refl _) _⟩
set_option maxRecDepth 100000 in
theorem about_40 (a : Addr) (w : World) : AboutIn 123 a 40 w := by
  gi_enter Tryz.func123, Tryz.ntmps123
  gi_wp2
  go_ret
  exact ⟨_, rfl, cell_new _ _ _ _, (Below.refl _ _).alloc (Nat.le_refl _) _⟩
set_option maxRecDepth 100000 in
theorem about_41 (a : Addr) (w : World) : AboutIn 123 a 41 w := by
  gi_enter Tryz.func123, Tryz.ntmps123
  gi_wp2
  go_ret
  exact ⟨_, rfl, cell_new _ _ _ _, (Below.refl _ _).alloc (Nat.le_refl _) _⟩
set_option maxRecDepth 100000 in
theorem about_42 (a : Addr) (w : World) : AboutIn 123 a 42 w := by
  gi_enter Tryz.func123, Tryz.ntmps123
  gi_wp2
  go_ret
  exact ⟨_, rfl, cell_new _ _ _ _, (Below.refl _ _).alloc (Nat.le_refl _) _⟩
set_option maxRecDepth 100000 in
theorem about_43 (a : Addr) (w : World) : AboutIn 123 a 43 w := by
  gi_enter Tryz.func123, Tryz.ntmps123
  gi_wp2
  go_ret
  exact ⟨_, rfl, cell_new _ _ _ _, (Below.refl _ _).alloc (Nat.le_refl _) _⟩
set_option maxRecDepth 100000 in
theorem about_44 (a : Addr) (w : World) : AboutIn 123 a 44 w := by
  gi_enter Tryz.func123, Tryz.ntmps123
  gi_wp2
  go_ret
  exact ⟨_, rfl, cell_new _ _ _ _, (Below.refl _ _).alloc (Nat.le_refl _) _⟩
set_option maxRecDepth 100000 in
theorem about_45 (a : Addr) (w : World) : AboutIn 123 a 45 w := by
  gi_enter Tryz.func123, Tryz.ntmps123
  gi_wp2
  go_ret
  exact ⟨_, rfl, cell_new _ _ _ _, (Below.refl _ _).alloc (Nat.le_refl _) _⟩
set_option maxRecDepth 100000 in
theorem about_46 (a : Addr) (w : World) : AboutIn 123 a 46 w := by
  gi_enter Tryz.func123, Tryz.ntmps123
  gi_wp2
  go_ret
  exact ⟨_, rfl, cell_new _ _ _ _, (Below.refl _ _).alloc (Nat.le_refl _) _⟩
set_option maxRecDepth 100000 in
theorem about_47 (a : Addr) (w : World) : AboutIn 123 a 47 w := by
  gi_enter Tryz.func123, Tryz.ntmps123
  gi_wp2
  go_ret
  exact ⟨_, rfl, cell_new _ _ _ _, (Below.refl _ _).alloc (Nat.le_refl _) _⟩
set_option maxRecDepth 100000 in
theorem about_48 (a : Addr) (w : World) : AboutIn 123 a 48 w := by
  gi_enter Tryz.func123, Tryz.ntmps123
  gi_wp2
  go_ret
  exact ⟨_, rfl, cell_new _ _ _ _, (Below.refl _ _).alloc (Nat.le_refl _) _⟩
set_option maxRecDepth 100000 in
theorem about_49 (a : Addr) (w : World) : AboutIn 123 a 49 w := by
  gi_enter Tryz.func123, Tryz.ntmps123
  gi_wp2
  go_ret
  exact ⟨_, rfl, cell_new _ _ _ _, (Below.refl _ _).alloc (Nat.le_refl _) _⟩
set_option maxRecDepth 100000 in
theorem about_50 (a : Addr) (w : World) : AboutIn 123 a 50 w := by
  gi_enter Tryz.func123, Tryz.ntmps123
  gi_wp2
  go_ret
  exact ⟨_, rfl, cell_new _ _ _ _, (Below.refl _ _).alloc (Nat.le_refl _) _⟩
set_option maxRecDepth 100000 in
theorem about_51 (a : Addr) (w : World) : AboutIn 123 a 51 w := by
  gi_enter Tryz.func123, Tryz.ntmps123
  gi_wp2
  go_ret
  exact ⟨_, rfl, cell_new _ _ _ _, (Below.refl _ _).alloc (Nat.le_refl _) _⟩
set_option maxRecDepth 100000 in
theorem about_52 (a : Addr) (w : World) : AboutIn 123 a 52 w := by
  gi_enter Tryz.func123, Tryz.ntmps123
  gi_wp2
  go_ret
  exact ⟨_, rfl, cell_new _ _ _ _, (Below.refl _ _).alloc (Nat.le_refl _) _⟩
set_option maxRecDepth 100000 in
theorem about_53 (a : Addr) (w : World) : AboutIn 123 a 53 w := by
  gi_enter Tryz.func123, Tryz.ntmps123
  gi_wp2
  go_ret
  exact ⟨_, rfl, cell_new _ _ _ _, (Below.refl _ _).alloc (Nat.le_refl _) _⟩
set_option maxRecDepth 100000 in
theorem about_54 (a : Addr) (w : World) : AboutIn 123 a 54 w := by
  gi_enter Tryz.func123, Tryz.ntmps123
  gi_wp2
  go_ret
  exact ⟨_, rfl, cell_new _ _ _ _, (Below.refl _ _).alloc (Nat.le_refl _) _⟩
set_option maxRecDepth 100000 in
theorem about_55 (a : Addr) (w : World) : AboutIn 123 a 55 w := by
  gi_enter Tryz.func123, Tryz.ntmps123
  gi_wp2
  go_ret
  exact ⟨_, rfl, cell_new _ _ _ _, (Below.refl _ _).alloc (Nat.le_refl _) _⟩
set_option maxRecDepth 100000 in
theorem about_56 (a : Addr) (w : World) : AboutIn 123 a 56 w := by
  gi_enter Tryz.func123, Tryz.ntmps123
  gi_wp2
  go_ret
  exact ⟨_, rfl, cell_new _ _ _ _, (Below.refl _ _).alloc (Nat.le_refl _) _⟩
set_option maxRecDepth 100000 in
theorem about_57 (a : Addr) (w : World) : AboutIn 123 a 57 w := by
  gi_enter Tryz.func123, Tryz.ntmps123
  gi_wp2
  go_ret
  exact ⟨_, rfl, cell_new _ _ _ _, (Below.refl _ _).alloc (Nat.le_refl _) _⟩
set_option maxRecDepth 100000 in
theorem about_58 (a : Addr) (w : World) : AboutIn 123 a 58 w := by
  gi_enter Tryz.func123, Tryz.ntmps123
  gi_wp2
  go_ret
  exact ⟨_, rfl, cell_new _ _ _ _, (Below.refl _ _).alloc (Nat.le_refl _) _⟩
set_option maxRecDepth 100000 in
theorem about_59 (a : Addr) (w : World) : AboutIn 123 a 59 w := by
  gi_enter Tryz.func123, Tryz.ntmps123
  gi_wp2
  go_ret
  exact ⟨_, rfl, cell_new _ _ _ _, (Below.refl _ _).alloc (Nat.le_refl _) _⟩
set_option maxRecDepth 100000 in
theorem about_60 (a : Addr) (w : World) : AboutIn 123 a 60 w := by
  gi_enter Tryz.func123, Tryz.ntmps123
  gi_wp2
  go_ret
  exact ⟨_, rfl, cell_new _ _ _ _, (Below.refl _ _).alloc (Nat.le_refl _) _⟩
set_option maxRecDepth 100000 in
theorem about_61 (a : Addr) (w : World) : AboutIn 123 a 61 w := by
  gi_enter Tryz.func123, Tryz.ntmps123
  gi_wp2
  go_ret
  exact ⟨_, rfl, cell_new _ _ _ _, (Below.refl _ _).alloc (Nat.le_refl _) _⟩
set_option maxRecDepth 100000 in
theorem about_62 (a : Addr) (w : World) : AboutIn 123 a 62 w := by
  gi_enter Tryz.func123, Tryz.ntmps123
  gi_wp2
  go_ret
  exact ⟨_, rfl, cell_new _ _ _ _, (Below.refl _ _).alloc (Nat.le_refl _) _⟩
set_option maxRecDepth 100000 in
theorem about_63 (a : Addr) (w : World) : AboutIn 123 a 63 w := by
  gi_enter Tryz.func123, Tryz.ntmps123
  gi_wp2
  go_ret
  exact ⟨_, rfl, cell_new _ _ _ _, (Below.refl _ _).alloc (Nat.le_refl _) _⟩
theorem apart_in (a : Addr) (w : World) : ∀ c, c < 32 → AboutIn 122 a c w
  | 0, _ => about_0 a w
  | 1, _ => about_1 a w
  | 2, _ => about_2 a w
  | 3, _ => about_3 a w
  | 4, _ => about_4 a w
  | 5, _ => about_5 a w
  | 6, _ => about_6 a w
  | 7, _ => about_7 a w
  | 8, _ => about_8 a w
  | 9, _ => about_9 a w
  | 10, _ => about_10 a w
  | 11, _ => about_11 a w
  | 12, _ => about_12 a w
  | 13, _ => about_13 a w
  | 14, _ => about_14 a w
  | 15, _ => about_15 a w
  | 16, _ => about_16 a w
  | 17, _ => about_17 a w
  | 18, _ => about_18 a w
  | 19, _ => about_19 a w
  | 20, _ => about_20 a w
  | 21, _ => about_21 a w
  | 22, _ => about_22 a w
  | 23, _ => about_23 a w
  | 24, _ => about_24 a w
  | 25, _ => about_25 a w
  | 26, _ => about_26 a w
  | 27, _ => about_27 a w
  | 28, _ => about_28 a w
  | 29, _ => about_29 a w
  | 30, _ => about_30 a w
  | 31, _ => about_31 a w
  | c + 32, h => absurd h (by omega)
theorem holding_in (a : Addr) (w : World) : ∀ c, 32 ≤ c → c < 64 → AboutIn 123 a c w
  | 0, h, _ => absurd h (by omega)
  | 1, h, _ => absurd h (by omega)
  | 2, h, _ => absurd h (by omega)
  | 3, h, _ => absurd h (by omega)
  | 4, h, _ => absurd h (by omega)
  | 5, h, _ => absurd h (by omega)
  | 6, h, _ => absurd h (by omega)
  | 7, h, _ => absurd h (by omega)
  | 8, h, _ => absurd h (by omega)
  | 9, h, _ => absurd h (by omega)
  | 10, h, _ => absurd h (by omega)
  | 11, h, _ => absurd h (by omega)
  | 12, h, _ => absurd h (by omega)
  | 13, h, _ => absurd h (by omega)
  | 14, h, _ => absurd h (by omega)
  | 15, h, _ => absurd h (by omega)
  | 16, h, _ => absurd h (by omega)
  | 17, h, _ => absurd h (by omega)
  | 18, h, _ => absurd h (by omega)
  | 19, h, _ => absurd h (by omega)
  | 20, h, _ => absurd h (by omega)
  | 21, h, _ => absurd h (by omega)
  | 22, h, _ => absurd h (by omega)
  | 23, h, _ => absurd h (by omega)
  | 24, h, _ => absurd h (by omega)
  | 25, h, _ => absurd h (by omega)
  | 26, h, _ => absurd h (by omega)
  | 27, h, _ => absurd h (by omega)
  | 28, h, _ => absurd h (by omega)
  | 29, h, _ => absurd h (by omega)
  | 30, h, _ => absurd h (by omega)
  | 31, h, _ => absurd h (by omega)
  | 32, _, _ => about_32 a w
  | 33, _, _ => about_33 a w
  | 34, _, _ => about_34 a w
  | 35, _, _ => about_35 a w
  | 36, _, _ => about_36 a w
  | 37, _, _ => about_37 a w
  | 38, _, _ => about_38 a w
  | 39, _, _ => about_39 a w
  | 40, _, _ => about_40 a w
  | 41, _, _ => about_41 a w
  | 42, _, _ => about_42 a w
  | 43, _, _ => about_43 a w
  | 44, _, _ => about_44 a w
  | 45, _, _ => about_45 a w
  | 46, _, _ => about_46 a w
  | 47, _, _ => about_47 a w
  | 48, _, _ => about_48 a w
  | 49, _, _ => about_49 a w
  | 50, _, _ => about_50 a w
  | 51, _, _ => about_51 a w
  | 52, _, _ => about_52 a w
  | 53, _, _ => about_53 a w
  | 54, _, _ => about_54 a w
  | 55, _, _ => about_55 a w
  | 56, _, _ => about_56 a w
  | 57, _, _ => about_57 a w
  | 58, _, _ => about_58 a w
  | 59, _, _ => about_59 a w
  | 60, _, _ => about_60 a w
  | 61, _, _ => about_61 a w
  | 62, _, _ => about_62 a w
  | 63, _, _ => about_63 a w
  | c + 64, _, h => absurd h (by omega)
end Go.Proofs.YthjofgmiabcifabGreatDoor.Sq
