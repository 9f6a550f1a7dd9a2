/-
  A node is looked at (41).
  Conditions: as each theorem says.
-/
import Derived.Test.YthjofgmiabcifabGreatDoorPSa
set_option linter.unusedVariables false
set_option linter.unusedSimpArgs false
namespace Go.Proofs.YthjofgmiabcifabGreatDoor.Sq
open Go Go.RowKit
theorem and_high {n : Nat} (h : n < 65536) : n &&& 65472 = 0 ↔ n ≤ 63 := by
  constructor
  · intro h0
    have h1 : (n &&& 65472) >>> 6 = n >>> 6 := by
      rw [Nat.shiftRight_and_distrib]
      show n >>> 6 &&& 2 ^ 10 - 1 = n >>> 6
      rw [Nat.and_two_pow_sub_one_eq_mod, Nat.shiftRight_eq_div_pow]
      exact Nat.mod_eq_of_lt (by omega)
    rw [h0, Nat.shiftRight_eq_div_pow, Nat.shiftRight_eq_div_pow] at h1
    omega
  · intro h0
    have : ∀ x : Fin 64, x.val &&& 65472 = 0 := by decide
    exact this ⟨n, by omega⟩
theorem mask63 {m : Int} (h0 : 0 ≤ m) (h1 : m < 65536) : bits BinOp.andNot IntKind.u16 m 63 = 0 ↔ m ≤ 63 := by
  obtain ⟨n, rfl⟩ := Int.eq_ofNat_of_zero_le h0
  have hn : n < 65536 := by omega
  have e : bits BinOp.andNot IntKind.u16 (n : Int) 63 = ((n &&& 65472 : Nat) : Int) := by
    unfold bits
    show IntKind.u16.wrap ((BitVec.ofInt 16 (n : Int) &&& ~~~ (BitVec.ofInt 16 63)).toNat : Int) = _
    rw [BitVec.toNat_and, BitVec.toNat_ofInt]
    have e1 : (~~~ (BitVec.ofInt 16 63)).toNat = 65472 := by decide
    have e2 : ((n : Int) % ((2 ^ 16 : Nat) : Int)).toNat = n := by omega
    rw [e1, e2]
    have : n &&& 65472 ≤ n := Nat.and_le_left
    have w0 : (0 : Int) ≤ ((n &&& 65472 : Nat) : Int) := Int.natCast_nonneg _
    have w1 : ((n &&& 65472 : Nat) : Int) < 65536 := by omega
    generalize ((n &&& 65472 : Nat) : Int) = z at w0 w1 ⊢
    simp [IntKind.wrap, IntKind.signed, IntKind.bits]
    omega
  rw [e]
  have := and_high hn
  omega
/-- A wrapper may be, the mask by a bound. -/
def wrapQ (x : WrapS) : Prop :=
  ((x.kind = 1 ∨ x.kind = 2) ∧ x.mask ≤ 63 ∧ x.number = 0 ∧ x.text.toList = []) ∨
  (x.kind = 3 ∧ x.mask = 0 ∧ 0 ≤ x.number ∧ x.number ≤ 16384 ∧ x.text.toList = []) ∨
  (x.kind = 5 ∧ x.mask = 0 ∧ -1 ≤ x.number ∧ x.number ≤ 1048576 ∧ x.text.toList = []) ∨
  (x.kind = 4 ∧ x.mask = 0 ∧ x.number = 0 ∧ (x.text.size : Int) ≤ 64 ∧ vs x.text = true) ∨
  (x.kind = 6 ∧ x.mask = 0 ∧ x.number = 0 ∧ ¬ x.text.toList = [] ∧ (x.text.size : Int) ≤ 64 ∧ vs x.text = true) ∨
  (x.kind = 7 ∧ x.mask = 0 ∧ x.number = 0 ∧ x.text.toList = [])
theorem wrapP_iff {x : WrapS} (h0 : 0 ≤ x.mask) (h1 : x.mask < 65536) : wrapP x ↔ wrapQ x := by
  unfold wrapP wrapQ
  rw [mask63 h0 h1]
theorem rWq_of {x : WrapS} (h0 : 0 ≤ x.mask) (h1 : x.mask < 65536) (h : wrapQ x) : rW x = 0 := rW_of ((wrapP_iff h0 h1).2 h)
theorem rWq_not {x : WrapS} (h0 : 0 ≤ x.mask) (h1 : x.mask < 65536) (h : ¬ wrapQ x) : rW x = 70 := rW_not fun h' => h ((wrapP_iff h0 h1).1 h')
theorem rtext_in {T : World → Prop} (V : ValidIn T) (s : ByteArray) (m : Int) (w : World) (hs : s.size ≤ maxLen) (hT : T w) : Gives 67 #[.string s, .int .i64 m] w (.bool (decide ((s.size : Int) ≤ m) && vs s)) := by
  have c := V.valid s w hs hT
  generalize vs s = b at c ⊢
  by_cases h : (s.size : Int) ≤ m
  · rw [decide_eq_true h, Bool.true_and]
    gi_enter Tryz.func67, Tryz.ntmps67
    gi_wp2_with (gi_at_call 93; refine c.mono ?_; rintro e w' ⟨rfl, hb⟩)
    all_goals (go_ret; exact ⟨rfl, hb⟩)
  · rw [decide_eq_false h, Bool.false_and]
    gi_enter Tryz.func67, Tryz.ntmps67
    gi_wp2
    all_goals (go_ret; exact ⟨rfl, Below.refl _ _⟩)
theorem r7text_in {T : World → Prop} (V : ValidIn T) (s : ByteArray) (w : World) (hs : s.size ≤ maxLen) (hT : T w) : Gives 94 #[.string s] w (.bool (decide ((s.size : Int) ≤ 64) && vs s)) := by
  have c := V.valid s w hs hT
  generalize vs s = b at c ⊢
  by_cases h : (s.size : Int) ≤ 64
  · rw [decide_eq_true h, Bool.true_and]
    gi_enter Tryz.func94, Tryz.ntmps94
    gi_wp2_with (gi_at_call 93; refine c.mono ?_; rintro e w' ⟨rfl, hb⟩)
    all_goals (go_ret; exact ⟨rfl, hb⟩)
  · rw [decide_eq_false h, Bool.false_and]
    gi_enter Tryz.func94, Tryz.ntmps94
    gi_wp2
    all_goals (go_ret; exact ⟨rfl, Below.refl _ _⟩)
theorem holds_in (k : Int) (w : World) : Gives 35 #[.int .u8 k] w (.int .i64 (if k = 4 ∨ k = 5 ∨ k = 10 then 1024 else if k = 6 then 1 else 0)) := by
  gi_enter Tryz.func35, Tryz.ntmps35
  gi_wp2
  all_goals (go_ret; simp_all [Below.refl])
end Go.Proofs.YthjofgmiabcifabGreatDoor.Sq
namespace Go.Proofs.YthjofgmiabcifabGreatDoor.Sq
open Go Go.RowKit
/-- A node's own fields. -/
structure NodeS where
  kind : Int
  name : ByteArray
  cls : ByteArray
  text : ByteArray
  minW : Int
  minH : Int
  maxW : Int
  maxH : Int
  grow : Int
  order : Int
  column : Bool
  columns : Int
  span : Int
  gap : Int
  offX : Int
  offY : Int
  hidden : Bool
  wrapsP : Option Addr
  wrapsN : Nat
  wrapsC : Nat
  kidsP : Option Addr
  kidsN : Nat
  kidsC : Nat
def NodeS.cells (n : NodeS) : List Value := [.int .u8 n.kind, .string n.name, .string n.cls, .string n.text, .int .i64 n.minW, .int .i64 n.minH, .int .i64 n.maxW, .int .i64 n.maxH, .int .i64 n.grow, .int .i64 n.order, .bool n.column,
  .int .i64 n.columns, .int .i64 n.span, .int .i64 n.gap, .int .i64 n.offX, .int .i64 n.offY, .bool n.hidden, .slice n.wrapsP n.wrapsN n.wrapsC, .slice n.kidsP n.kidsN n.kidsC]
def NodeS.val (n : NodeS) : Value := .agg n.cells.toArray
structure NodeS.fits (n : NodeS) : Prop where
  name : n.name.size ≤ maxLen
  cls : n.cls.size ≤ maxLen
  text : n.text.size ≤ maxLen
  kids : n.kidsN ≤ maxLen
  wraps : n.wrapsN ≤ maxLen
abbrev GivesT (T : World → Prop) (f : FuncId) (args : Array Value) (w : World) (v : Value) : Prop := CallsIn FF 0 Tryz.prog f args w fun e w' => e = .returned v ∧ Below w.heap.size w w' ∧ T w'
theorem Gives.more {T : World → Prop} (V : ValidIn T) {f : FuncId} {args : Array Value} {w : World} {v : Value} (h : Gives f args w v) (hT : T w) : GivesT T f args w v :=
  CallsIn.mono h fun e w' ⟨he, hb⟩ => ⟨he, hb, V.below _ _ hT hb⟩
def tB (s : ByteArray) (m : Int) : Bool := decide ((s.size : Int) ≤ m) && vs s
def mB (a b : Int) : Bool := decide (b = 0) || decide (a ≤ b)
def roomI (k : Int) : Int := if k = 4 ∨ k = 5 ∨ k = 10 then 1024 else if k = 6 then 1 else 0
/-- 'within' on two numbers and on six that lie in a new row. -/
theorem within2 (m x0 x1 : Int) (b : Nat) (w : World) (h0 : w.cell? ⟨b, 0, none⟩ = some (.int .i64 x0)) (h1 : w.cell? ⟨b, 1, none⟩ = some (.int .i64 x1)) :
    Gives 73 #[.int .i64 m, .slice (some ⟨b, 0, none⟩) 2 2] w (.bool (inB m [x0, x1])) :=
  within_in m ⟨b, 0, none⟩ [x0, x1] 2 w (by simp) (by
    intro i hi
    have : i = 0 ∨ i = 1 := by simp at hi; omega
    rcases this with rfl | rfl
    · exact h0
    · exact h1)
theorem within6 (m x0 x1 x2 x3 x4 x5 : Int) (b : Nat) (w : World) (h0 : w.cell? ⟨b, 0, none⟩ = some (.int .i64 x0)) (h1 : w.cell? ⟨b, 1, none⟩ = some (.int .i64 x1)) (h2 : w.cell? ⟨b, 2, none⟩ = some (.int .i64 x2))
    (h3 : w.cell? ⟨b, 3, none⟩ = some (.int .i64 x3)) (h4 : w.cell? ⟨b, 4, none⟩ = some (.int .i64 x4)) (h5 : w.cell? ⟨b, 5, none⟩ = some (.int .i64 x5)) :
    Gives 73 #[.int .i64 m, .slice (some ⟨b, 0, none⟩) 6 6] w (.bool (inB m [x0, x1, x2, x3, x4, x5])) :=
  within_in m ⟨b, 0, none⟩ [x0, x1, x2, x3, x4, x5] 6 w (by simp) (by
    intro i hi
    have : i = 0 ∨ i = 1 ∨ i = 2 ∨ i = 3 ∨ i = 4 ∨ i = 5 := by simp at hi; omega
    rcases this with rfl | rfl | rfl | rfl | rfl | rfl
    · exact h0
    · exact h1
    · exact h2
    · exact h3
    · exact h4
    · exact h5)
theorem cell_new (w : World) (c : Array Value) (t : TypeId) (i : Nat) : (w.alloc (.cells c t)).cell? ⟨w.heap.size, i, none⟩ = c[i]? := by
  unfold World.cell?
  have : (w.alloc (.cells c t)).heap[w.heap.size]? = some (.cells c t) := by show (w.heap.push _)[w.heap.size]? = _; simp
  rw [this]
  simp
theorem within2a (m x0 x1 : Int) (t : TypeId) (w : World) : Gives 73 #[.int .i64 m, .slice (some ⟨w.heap.size, 0, none⟩) 2 2] (w.alloc (.cells #[.int .i64 x0, .int .i64 x1] t)) (.bool (inB m [x0, x1])) :=
  within2 m x0 x1 _ _ (cell_new _ _ _ _) (cell_new _ _ _ _)
theorem within6a (m x0 x1 x2 x3 x4 x5 : Int) (t : TypeId) (w : World) :
    Gives 73 #[.int .i64 m, .slice (some ⟨w.heap.size, 0, none⟩) 6 6] (w.alloc (.cells #[.int .i64 x0, .int .i64 x1, .int .i64 x2, .int .i64 x3, .int .i64 x4, .int .i64 x5] t)) (.bool (inB m [x0, x1, x2, x3, x4, x5])) :=
  within6 m x0 x1 x2 x3 x4 x5 _ _ (cell_new _ _ _ _) (cell_new _ _ _ _) (cell_new _ _ _ _) (cell_new _ _ _ _) (cell_new _ _ _ _) (cell_new _ _ _ _)
/-- A node's cells lie there. -/
def NodeAt (w : World) (b o : Nat) (n : NodeS) : Prop := ∀ i v, n.cells[i]? = some v → w.cell? ⟨b, o + i, none⟩ = some v
theorem NodeAt.below {w w' : World} {b o : Nat} {n : NodeS} (h : NodeAt w b o n) (hb : Below w.heap.size w w') : NodeAt w' b o n := fun i v hi => (hb.cell (cell_lt (h i v hi))).trans (h i v hi)
/-- The world of a function that has boxed a node: nothing old has turned. -/
structure BoxW (T : World → Prop) (w0 : World) (n : NodeS) (w : World) : Prop where
  below : Below w0.heap.size w0 w
  tabs : T w
  size : w0.heap.size < w.heap.size
  node : NodeAt w w0.heap.size 0 n
theorem BoxW.box {T : World → Prop} (V : ValidIn T) {w0 : World} (n : NodeS) (t : TypeId) (hT : T w0) : BoxW T w0 n (w0.alloc (.cells n.cells.toArray t)) :=
  ⟨(Below.refl _ _).alloc (Nat.le_refl _) _, V.below _ _ hT ((Below.refl _ _).alloc (Nat.le_refl _) _), by simp, fun i v hi => by rw [Nat.zero_add, cell_new]; simpa using hi⟩
theorem BoxW.next {T : World → Prop} (V : ValidIn T) {w0 w w' : World} {n : NodeS} (h : BoxW T w0 n w) (hb : Below w.heap.size w w') : BoxW T w0 n w' :=
  ⟨h.below.trans (hb.mono (Nat.le_of_lt h.size)), V.below _ _ h.tabs hb, Nat.lt_of_lt_of_le h.size hb.size, h.node.below hb⟩
def may1B (n : NodeS) : Bool := decide (1 ≤ n.kind) && (decide (n.kind ≤ 10) && (tB n.name 64 && (tB n.cls 64 && tB n.text 65536)))
def may3B (n : NodeS) : Bool := inB 16384 [n.minW, n.minH, n.maxW, n.maxH, n.grow, n.gap] && (mB n.minW n.maxW && mB n.minH n.maxH)
def may5B (n : NodeS) : Bool := decide (-1 ≤ n.order) && (decide (n.order ≤ 1048576) && (inB 1048576 [n.offX, n.offY] && (inB 64 [n.columns, n.span] && decide ((n.wrapsN : Int) ≤ 16))))
/-- A node may be. -/
def mayB (n : NodeS) (ws : List WrapS) : Bool := may1B n && (may3B n && (may5B n && (wrapsB ws && decide ((n.kidsN : Int) ≤ roomI n.kind))))
theorem may_n1 {n : NodeS} {ws : List WrapS} (h : may1B n = false) : mayB n ws = false := by simp [mayB, h]
theorem may_n3 {n : NodeS} {ws : List WrapS} (h : may3B n = false) : mayB n ws = false := by simp [mayB, h]
theorem may_n5 {n : NodeS} {ws : List WrapS} (h : may5B n = false) : mayB n ws = false := by simp [mayB, h]
set_option maxHeartbeats 4000000 in
set_option maxRecDepth 100000 in
theorem may_in {T : World → Prop} (V : ValidIn T) (n : NodeS) (ws : List WrapS) (w : World) (hf : n.fits) (hw : WrapsAt w (.slice n.wrapsP n.wrapsN n.wrapsC) ws) (hT : T w) : Gives 41 #[n.val] w (.bool (mayB n ws)) := by
  have HB := Lib.hid (BoxW.box V n 68 hT)
  obtain ⟨f1, f2, f3, f4, f5⟩ := hf
  unfold maxLen at f4 f5
  have HW := Lib.hid hw
  clear hw
  have c1 : ∀ w', BoxW T w n w' → Gives 72 #[.string n.name, .int .i64 64] w' (.bool (tB n.name 64)) := fun w' h => text_in V n.name 64 w' f1 h.tabs
  have c2 : ∀ w', BoxW T w n w' → Gives 72 #[.string n.cls, .int .i64 64] w' (.bool (tB n.cls 64)) := fun w' h => text_in V n.cls 64 w' f2 h.tabs
  have c3 : ∀ w', BoxW T w n w' → Gives 72 #[.string n.text, .int .i64 65536] w' (.bool (tB n.text 65536)) := fun w' h => text_in V n.text 65536 w' f3 h.tabs
  clear f1 f2 f3
  unfold NodeS.val NodeS.cells
  gi_enter Tryz.func41, Tryz.ntmps41
  gi_upto_region 1 with fail
  gi_cut [28] from 3 (fun s28 wc => s28 = .bool (!may1B n) ∧ BoxW T w n wc)
  case first =>
    have hB0 := HB.out
    unfold NodeS.cells at hB0
    generalize hb1 : tB n.name 64 = b1 at c1
    generalize hb2 : tB n.cls 64 = b2 at c2
    generalize hb3 : tB n.text 65536 = b3 at c3
    have HX := Lib.hid (show may1B n = (decide (1 ≤ n.kind) && (decide (n.kind ≤ 10) && (b1 && (b2 && b3)))) by unfold may1B; rw [hb1, hb2, hb3])
    clear hb1 hb2 hb3
    gi_wp2_with (gi_at_call 72; (first
      | (with_reducible refine CallsIn.mono (c1 _ (by assumption)) ?_)
      | (with_reducible refine CallsIn.mono (c2 _ (by assumption)) ?_)
      | (with_reducible refine CallsIn.mono (c3 _ (by assumption)) ?_)); rintro e w' ⟨rfl, hb⟩; have hB' := BoxW.next V (by assumption) hb; have k2 : w'.cell? ⟨w.heap.size, 2, none⟩ = some (.string n.cls) := hB'.node 2 _ rfl; have k3 : w'.cell? ⟨w.heap.size, 3, none⟩ = some (.string n.text) := hB'.node 3 _ rfl)
    all_goals
      gi_meet
      case rel =>
        refine ⟨?_, by assumption⟩
        rw [HX.out]
        first | (simp [*]; done) | (simp [*]; intro h; omega)
  case rest =>
    obtain ⟨rfl, hB⟩ := hcut
    clear c1 c2 c3
    by_cases hm : may1B n = true
    · rw [hm]
      have HM1 := Lib.hid hm
      clear hm
      have k4 : wc.cell? ⟨w.heap.size, 4, none⟩ = some (.int .i64 n.minW) := hB.node 4 _ rfl
      have k5 : wc.cell? ⟨w.heap.size, 5, none⟩ = some (.int .i64 n.minH) := hB.node 5 _ rfl
      have k6 : wc.cell? ⟨w.heap.size, 6, none⟩ = some (.int .i64 n.maxW) := hB.node 6 _ rfl
      have k7 : wc.cell? ⟨w.heap.size, 7, none⟩ = some (.int .i64 n.maxH) := hB.node 7 _ rfl
      have k8 : wc.cell? ⟨w.heap.size, 8, none⟩ = some (.int .i64 n.grow) := hB.node 8 _ rfl
      have k13 : wc.cell? ⟨w.heap.size, 13, none⟩ = some (.int .i64 n.gap) := hB.node 13 _ rfl
      gi_upto_region 3 with fail
      gi_cut [67] from 29 (fun s67 wd => s67 = .bool (!may3B n) ∧ BoxW T w n wd)
      case first =>
        have c1 : ∀ w', BoxW T w n w' → CallsIn FF 0 Tryz.prog 73 #[.int .i64 16384, .slice (some ⟨w'.heap.size, 0, none⟩) 6 6] (w'.alloc (.cells #[.int .i64 n.minW, .int .i64 n.minH, .int .i64 n.maxW, .int .i64 n.maxH, .int .i64 n.grow, .int .i64 n.gap] 3)) fun e w'' =>
            e = .returned (.bool (inB 16384 [n.minW, n.minH, n.maxW, n.maxH, n.grow, n.gap])) ∧ Below w'.heap.size w' w'' :=
          fun w' _ => CallsIn.mono (within6a _ _ _ _ _ _ _ _ _) fun e w'' ⟨h1, h2⟩ => ⟨h1, ((Below.refl _ _).alloc (Nat.le_refl _) _).trans (h2.mono (by simp))⟩
        have c2 : ∀ w', BoxW T w n w' → Gives 74 #[.int .i64 n.minW, .int .i64 n.maxW] w' (.bool (mB n.minW n.maxW)) := fun w' h => most_in _ _ w'
        have c3 : ∀ w', BoxW T w n w' → Gives 74 #[.int .i64 n.minH, .int .i64 n.maxH] w' (.bool (mB n.minH n.maxH)) := fun w' h => most_in _ _ w'
        generalize hb1 : inB 16384 [n.minW, n.minH, n.maxW, n.maxH, n.grow, n.gap] = b1 at c1
        generalize hb2 : mB n.minW n.maxW = b2 at c2
        generalize hb3 : mB n.minH n.maxH = b3 at c3
        have HX := Lib.hid (show may3B n = (b1 && (b2 && b3)) by unfold may3B; rw [hb1, hb2, hb3])
        clear hb1 hb2 hb3
        gi_wp2_with (first
          | (gi_at_call 73; (with_reducible refine CallsIn.mono (c1 _ (by assumption)) ?_); rintro e w' ⟨rfl, hb⟩; have hB' := BoxW.next V (by assumption) hb; have k4' : w'.cell? ⟨w.heap.size, 4, none⟩ = some (.int .i64 n.minW) := hB'.node 4 _ rfl; have k6' : w'.cell? ⟨w.heap.size, 6, none⟩ = some (.int .i64 n.maxW) := hB'.node 6 _ rfl)
          | (gi_at_call 74; (first | (with_reducible refine CallsIn.mono (c2 _ (by assumption)) ?_) | (with_reducible refine CallsIn.mono (c3 _ (by assumption)) ?_)); rintro e w' ⟨rfl, hb⟩; have hB' := BoxW.next V (by assumption) hb; have k5' : w'.cell? ⟨w.heap.size, 5, none⟩ = some (.int .i64 n.minH) := hB'.node 5 _ rfl; have k7' : w'.cell? ⟨w.heap.size, 7, none⟩ = some (.int .i64 n.maxH) := hB'.node 7 _ rfl))
        all_goals
          gi_meet
          case rel =>
            refine ⟨?_, by assumption⟩
            rw [HX.out]
            first | (simp [*]; done) | (simp [*]; intro h; omega)
      case rest =>
        obtain ⟨rfl, hB⟩ := hcut
        clear k4 k5 k6 k7 k8 k13
        by_cases hm : may3B n = true
        · rw [hm]
          have HM3 := Lib.hid hm
          clear hm
          have k9 : wc.cell? ⟨w.heap.size, 9, none⟩ = some (.int .i64 n.order) := hB.node 9 _ rfl
          have k14 : wc.cell? ⟨w.heap.size, 14, none⟩ = some (.int .i64 n.offX) := hB.node 14 _ rfl
          have k15 : wc.cell? ⟨w.heap.size, 15, none⟩ = some (.int .i64 n.offY) := hB.node 15 _ rfl
          gi_upto_region 5 with fail
          gi_cut [101] from 68 (fun s101 wd => s101 = .bool (!may5B n) ∧ BoxW T w n wd)
          case first =>
            have c1 : ∀ w', BoxW T w n w' → CallsIn FF 0 Tryz.prog 73 #[.int .i64 1048576, .slice (some ⟨w'.heap.size, 0, none⟩) 2 2] (w'.alloc (.cells #[.int .i64 n.offX, .int .i64 n.offY] 3)) fun e w'' =>
                e = .returned (.bool (inB 1048576 [n.offX, n.offY])) ∧ Below w'.heap.size w' w'' :=
              fun w' _ => CallsIn.mono (within2a _ _ _ _ _) fun e w'' ⟨h1, h2⟩ => ⟨h1, ((Below.refl _ _).alloc (Nat.le_refl _) _).trans (h2.mono (by simp))⟩
            have c2 : ∀ w', BoxW T w n w' → CallsIn FF 0 Tryz.prog 73 #[.int .i64 64, .slice (some ⟨w'.heap.size, 0, none⟩) 2 2] (w'.alloc (.cells #[.int .i64 n.columns, .int .i64 n.span] 3)) fun e w'' =>
                e = .returned (.bool (inB 64 [n.columns, n.span])) ∧ Below w'.heap.size w' w'' :=
              fun w' _ => CallsIn.mono (within2a _ _ _ _ _) fun e w'' ⟨h1, h2⟩ => ⟨h1, ((Below.refl _ _).alloc (Nat.le_refl _) _).trans (h2.mono (by simp))⟩
            generalize hb1 : inB 1048576 [n.offX, n.offY] = b1 at c1
            generalize hb2 : inB 64 [n.columns, n.span] = b2 at c2
            have HX := Lib.hid (show may5B n = (decide (-1 ≤ n.order) && (decide (n.order ≤ 1048576) && (b1 && (b2 && decide ((n.wrapsN : Int) ≤ 16))))) by unfold may5B; rw [hb1, hb2])
            clear hb1 hb2
            gi_wp2_with (gi_at_call 73; (first | (with_reducible refine CallsIn.mono (c1 _ (by assumption)) ?_) | (with_reducible refine CallsIn.mono (c2 _ (by assumption)) ?_)); rintro e w' ⟨rfl, hb⟩; have hB' := BoxW.next V (by assumption) hb
                         have k11' : w'.cell? ⟨w.heap.size, 11, none⟩ = some (.int .i64 n.columns) := hB'.node 11 _ rfl
                         have k12' : w'.cell? ⟨w.heap.size, 12, none⟩ = some (.int .i64 n.span) := hB'.node 12 _ rfl
                         have k17' : w'.cell? ⟨w.heap.size, 17, none⟩ = some (.slice n.wrapsP n.wrapsN n.wrapsC) := hB'.node 17 _ rfl)
            all_goals
              gi_meet
              case rel =>
                refine ⟨?_, by assumption⟩
                rw [HX.out]
                first | (simp [*]; done) | (simp [*]; intro h; omega) | (simp [*]; rw [Bool.eq_iff_iff]; simp; omega)
          case rest =>
            obtain ⟨rfl, hB⟩ := hcut
            clear k9 k14 k15
            by_cases hm : may5B n = true
            · rw [hm]
              have HM5 := Lib.hid hm
              clear hm
              have k0 : wc.cell? ⟨w.heap.size, 0, none⟩ = some (.int .u8 n.kind) := hB.node 0 _ rfl
              have k17 : wc.cell? ⟨w.heap.size, 17, none⟩ = some (.slice n.wrapsP n.wrapsN n.wrapsC) := hB.node 17 _ rfl
              gi_upto_region 7 with fail
              have c1 : ∀ w', BoxW T w n w' → Gives 75 #[.slice n.wrapsP n.wrapsN n.wrapsC, .func (.func 76) #[] #[]] w' (.bool (!wrapsB ws)) := fun w' h => contains_in V (HW.out.below h.below) h.tabs
              have c2 : ∀ w', Gives 78 #[.int .u8 n.kind] w' (.int .i64 (roomI n.kind)) := fun w' => room_in _ w'
              generalize hb1 : wrapsB ws = b1 at c1
              generalize hb2 : roomI n.kind = r at c2
              have HX := Lib.hid (show mayB n ws = (b1 && decide ((n.kidsN : Int) ≤ r)) by unfold mayB; rw [HM1.out, HM3.out, HM5.out, hb1, hb2]; rfl)
              clear hb1 hb2
              have hBd : BoxW T w n wc.drew := BoxW.next V hB ((Below.refl _ _).drew)
              cases b1
              all_goals
                simp only [Bool.not_true, Bool.not_false] at c1
                first | gi_region_with ((first
                  | (gi_at_call 75; (with_reducible refine CallsIn.mono (c1 _ (by assumption)) ?_); rintro e w' ⟨rfl, hb⟩; have hB' := BoxW.next V (by assumption) hb
                     have k0' : w'.cell? ⟨w.heap.size, 0, none⟩ = some (.int .u8 n.kind) := hB'.node 0 _ rfl
                     have k18' : w'.cell? ⟨w.heap.size, 18, none⟩ = some (.slice n.kidsP n.kidsN n.kidsC) := hB'.node 18 _ rfl)
                  | (gi_at_call 78; (with_reducible refine CallsIn.mono (c2 _) ?_); rintro e w' ⟨rfl, hb⟩; have hB' := BoxW.next V (by assumption) hb
                     have k0' : w'.cell? ⟨w.heap.size, 0, none⟩ = some (.int .u8 n.kind) := hB'.node 0 _ rfl
                     have k18' : w'.cell? ⟨w.heap.size, 18, none⟩ = some (.slice n.kidsP n.kidsN n.kidsC) := hB'.node 18 _ rfl))) | fail
                all_goals
                  gi_wp2
                  go_ret
                  refine ⟨?_, by first | exact BoxW.below (by assumption)⟩
                  rw [HX.out]
                  exact ret_bool (by simp [*])
            · have hm : may5B n = false := by simpa using hm
              rw [hm]
              gi_wp2
              go_ret
              exact ⟨ret_bool (may_n5 hm).symm, hB.below⟩
        · have hm : may3B n = false := by simpa using hm
          rw [hm]
          gi_wp2
          go_ret
          exact ⟨ret_bool (may_n3 hm).symm, hB.below⟩
    · have hm : may1B n = false := by simpa using hm
      rw [hm]
      gi_wp2
      go_ret
      exact ⟨ret_bool (may_n1 hm).symm, hB.below⟩
end Go.Proofs.YthjofgmiabcifabGreatDoor.Sq
