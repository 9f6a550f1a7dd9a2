/-
  The checks of texts and wrappers, each by its plain law.
  Conditions: as each theorem says.
-/
import Derived.Test.YthjofgmiabcifabGreatDoorProg
import Derived.WalkKit
import Derived.TacticsIn
import Derived.BigFrameIn
import Derived.BigCall
import Derived.LoopIn
import Derived.BigRegionIn
import Derived.OwnWalkIn
import Derived.Lib.Hide
import Derived.Stop.RegionWithIn
import Derived.Sort.CutIn
import Derived.Sort.QuietIn
import Derived.Below
import Derived.Lib.ValidLaws
set_option linter.unusedVariables false
set_option linter.unusedSimpArgs false
namespace Go.Proofs.YthjofgmiabcifabGreatDoor.Sq
open Go Go.RowKit
abbrev LS : List FuncId := [5, 6, 12, 14, 16, 17, 18, 19, 20, 29, 30, 32, 34, 35, 36, 37, 38, 39, 40, 41, 64, 65, 66, 67, 68, 69, 70, 71, 72, 73, 74, 75, 76, 77, 78, 88, 89, 90, 91, 92, 93, 94, 95, 96, 97, 98, 99, 104, 105, 106, 107, 108, 109, 110, 111, 112, 113, 114, 122, 123, 188, 191]
abbrev FF : Fence := Fence.list LS none
/-- Entered with these arguments it returns v; old memory stands. -/
abbrev Gives (f : FuncId) (args : Array Value) (w : World) (v : Value) : Prop := CallsIn FF 0 Tryz.prog f args w fun e w' => e = .returned v ∧ Below w.heap.size w w'
/-- Old memory reads as it read, and is marked as it was. -/
theorem stands {w w' : World} (h : Below w.heap.size w w') : (∀ b o, b < w.heap.size → w'.cell? ⟨b, o, none⟩ = w.cell? ⟨b, o, none⟩) ∧ ∀ b o, b < w.heap.size → w'.frozen? ⟨b, o, none⟩ = w.frozen? ⟨b, o, none⟩ :=
  ⟨fun b o hb => h.cell (p := ⟨b, o, none⟩) hb, fun b o hb => h.frozen (p := ⟨b, o, none⟩) hb⟩
def vs (s : ByteArray) : Bool := Lib.validD s.data.toList
structure ValidIn (T : World → Prop) : Prop where
  below : ∀ w w', T w → Below w.heap.size w w' → T w'
  valid : ∀ s w, s.size ≤ maxLen → T w → Gives 93 #[.string s] w (.bool (vs s))
theorem most_in (a b : Int) (w : World) : Gives 74 #[.int .i64 a, .int .i64 b] w (.bool (decide (b = 0) || decide (a ≤ b))) := by
  gi_enter Tryz.func74, Tryz.ntmps74
  gi_wp2
  all_goals (go_ret; simp_all [Below.refl])
theorem room_in (k : Int) (w : World) : Gives 78 #[.int .u8 k] w (.int .i64 (if k = 4 ∨ k = 5 ∨ k = 10 then 1024 else if k = 6 then 1 else 0)) := by
  gi_enter Tryz.func78, Tryz.ntmps78
  gi_wp2
  all_goals (go_ret; simp_all [Below.refl])
theorem text_in {T : World → Prop} (V : ValidIn T) (s : ByteArray) (m : Int) (w : World) (hs : s.size ≤ maxLen) (hT : T w) : Gives 72 #[.string s, .int .i64 m] w (.bool (decide ((s.size : Int) ≤ m) && vs s)) := by
  have c := V.valid s w hs hT
  generalize vs s = b at c ⊢
  by_cases h : (s.size : Int) ≤ m
  · rw [decide_eq_true h, Bool.true_and]
    gi_enter Tryz.func72, Tryz.ntmps72
    gi_wp2_with (gi_at_call 93; refine c.mono ?_; rintro e w' ⟨rfl, hb⟩)
    all_goals (go_ret; exact ⟨rfl, hb⟩)
  · rw [decide_eq_false h, Bool.false_and]
    gi_enter Tryz.func72, Tryz.ntmps72
    gi_wp2
    all_goals (go_ret; exact ⟨rfl, Below.refl _ _⟩)
end Go.Proofs.YthjofgmiabcifabGreatDoor.Sq
namespace Go.Proofs.YthjofgmiabcifabGreatDoor.Sq
open Go Go.RowKit
structure WrapS where
  kind : Int
  mask : Int
  number : Int
  text : ByteArray
def WrapS.val (x : WrapS) : Value := .agg #[.int .u8 x.kind, .int .u16 x.mask, .int .i64 x.number, .string x.text]
theorem wtext_in {T : World → Prop} (V : ValidIn T) (s : ByteArray) (w : World) (hs : s.size ≤ maxLen) (hT : T w) : Gives 99 #[.string s] w (.bool (decide ((s.size : Int) ≤ 64) && vs s)) := by
  have c := V.valid s w hs hT
  generalize vs s = b at c ⊢
  by_cases h : (s.size : Int) ≤ 64
  · rw [decide_eq_true h, Bool.true_and]
    gi_enter Tryz.func99, Tryz.ntmps99
    gi_wp2_with (gi_at_call 93; refine c.mono ?_; rintro e w' ⟨rfl, hb⟩)
    all_goals (go_ret; exact ⟨rfl, hb⟩)
  · rw [decide_eq_false h, Bool.false_and]
    gi_enter Tryz.func99, Tryz.ntmps99
    gi_wp2
    all_goals (go_ret; exact ⟨rfl, Below.refl _ _⟩)
/-- Numbers are from 0 to m. -/
def inB (m : Int) (xs : List Int) : Bool := xs.all fun n => decide (0 ≤ n) && decide (n ≤ m)
theorem inB_of {m : Int} {xs : List Int} (h : ∀ j (h : j < xs.length), 0 ≤ xs[j] ∧ xs[j] ≤ m) : inB m xs = true := by
  unfold inB
  rw [List.all_eq_true]
  intro x hx
  obtain ⟨j, hj, rfl⟩ := List.getElem_of_mem hx
  simpa using h j hj
theorem inB_not {m : Int} {xs : List Int} {j : Nat} (hj : j < xs.length) (h : xs[j] < 0 ∨ m < xs[j]) : inB m xs = false := by
  unfold inB
  rw [List.all_eq_false]
  exact ⟨xs[j], List.getElem_mem hj, by simp; omega⟩
theorem ret_bool {a b : Bool} (h : a = b) : Ending.returned (.bool a) = .returned (.bool b) := by rw [h]
theorem ret_int' {k : IntKind} {a b : Int} (h : a = b) : Ending.returned (.int k a) = .returned (.int k b) := by rw [h]
theorem within_in (m : Int) (a : Addr) (xs : List Int) (cap : Nat) (w : World) (hl : xs.length ≤ 1000) (hx : ∀ i (h : i < xs.length), w.cell? (a.add i) = some (.int .i64 xs[i])) :
    Gives 73 #[.int .i64 m, .slice (some a) xs.length cap] w (.bool (inB m xs)) := by
  gi_enter Tryz.func73, Tryz.ntmps73
  gi_wp2
  gi_loop [9] (fun i => ∃ k : Nat, k ≤ xs.length ∧ i = .int .i64 k ∧ ∀ j (h : j < xs.length), j < k → 0 ≤ xs[j] ∧ xs[j] ≤ m) (fun i => xs.length - (intOf i).toNat)
  case atStart => exact ⟨0, Nat.zero_le _, rfl, fun j h h' => absurd h' (by omega)⟩
  case round =>
    obtain ⟨k, hk, rfl, hall⟩ := hrel
    have HA : Hid (∀ j (h : j < xs.length), j < k → 0 ≤ xs[j] ∧ xs[j] ≤ m) := hall
    clear hall
    have HX : Hid (∀ i (h : i < xs.length), w.cell? (a.add i) = some (.int .i64 xs[i])) := hx
    clear hx
    by_cases hlt : k < xs.length
    · have hc : w.cell? (a.add k) = some (.int .i64 xs[k]) := HX.out k hlt
      generalize hv : xs[k] = v at hc
      have HV : Hid (xs[k] = v) := hv
      clear hv
      gi_wp2
      all_goals first
        | (go_ret; exact ⟨ret_bool (inB_not hlt (by have := HV.out; omega)).symm, Below.refl _ _⟩)
        | (go_round
           case rel =>
             refine ⟨k + 1, by omega, by go_num, fun j h h' => ?_⟩
             by_cases e : j = k
             · subst e; rw [HV.out]; exact ⟨by omega, by omega⟩
             · exact HA.out j h (by omega)
           case measure => simp [intOf]; omega)
    · gi_wp2
      go_ret
      exact ⟨ret_bool (inB_of fun j h => HA.out j h (by omega)).symm, Below.refl _ _⟩
end Go.Proofs.YthjofgmiabcifabGreatDoor.Sq
namespace Go.Proofs.YthjofgmiabcifabGreatDoor.Sq
open Go Go.RowKit
/-- A wrapper may be. -/
def wrapP (x : WrapS) : Prop :=
  ((x.kind = 1 ∨ x.kind = 2) ∧ bits BinOp.andNot IntKind.u16 x.mask 63 = 0 ∧ x.number = 0 ∧ x.text.toList = []) ∨
  (x.kind = 3 ∧ x.mask = 0 ∧ 0 ≤ x.number ∧ x.number ≤ 16384 ∧ x.text.toList = []) ∨
  (x.kind = 5 ∧ x.mask = 0 ∧ -1 ≤ x.number ∧ x.number ≤ 1048576 ∧ x.text.toList = []) ∨
  (x.kind = 4 ∧ x.mask = 0 ∧ x.number = 0 ∧ (x.text.size : Int) ≤ 64 ∧ vs x.text = true) ∨
  (x.kind = 6 ∧ x.mask = 0 ∧ x.number = 0 ∧ ¬ x.text.toList = [] ∧ (x.text.size : Int) ≤ 64 ∧ vs x.text = true) ∨
  (x.kind = 7 ∧ x.mask = 0 ∧ x.number = 0 ∧ x.text.toList = [])
instance (x : WrapS) : Decidable (wrapP x) := by unfold wrapP; infer_instance
def rW (x : WrapS) : Int := if wrapP x then 0 else 70
theorem rW_of {x : WrapS} (h : wrapP x) : rW x = 0 := if_pos h
theorem rW_not {x : WrapS} (h : ¬ wrapP x) : rW x = 70 := if_neg h
theorem txt_true {s : ByteArray} (h : (s.size : Int) ≤ 64 ∧ vs s = true) : (decide ((s.size : Int) ≤ 64) && vs s) = true := by simp [h.1, h.2]
theorem txt_false {s : ByteArray} (h : ¬ ((s.size : Int) ≤ 64 ∧ vs s = true)) : (decide ((s.size : Int) ≤ 64) && vs s) = false := by
  cases hv : vs s <;> simp [hv] at h ⊢
  exact h
set_option maxHeartbeats 4000000 in
theorem wcheck_in {T : World → Prop} (V : ValidIn T) (x : WrapS) (w : World) (hs : x.text.size ≤ maxLen) (hT : T w) : Gives 77 #[x.val] w (.int .i64 (rW x)) := by
  obtain ⟨k, m, n, t⟩ := x
  unfold WrapS.val
  dsimp only at hs ⊢
  obtain ⟨R, hR⟩ : ∃ R, rW ⟨k, m, n, t⟩ = R := ⟨_, rfl⟩
  rw [hR]
  have HR : Hid (rW ⟨k, m, n, t⟩ = R) := hR
  clear hR
  have c : ∀ w', T w' → Gives 99 #[.string t] w' _ := fun w' hT => wtext_in V t w' hs hT
  by_cases k4 : k = 4 ∨ k = 6
  · by_cases hb : (t.size : Int) ≤ 64 ∧ vs t = true
    all_goals
      first | rw [txt_true hb] at c | rw [txt_false hb] at c
      have HB := Lib.hid hb
      clear hb
      rcases k4 with k4 | k4
      all_goals
        subst k4
        gi_enter Tryz.func77, Tryz.ntmps77
        gi_wp2_with (gi_at_call 99; refine (c _ ?_).mono ?_; (exact V.below _ _ hT (((Below.refl _ _).alloc (Nat.le_refl _) _).alloc (by simp) _)); rintro e w' ⟨rfl, hb⟩; obtain ⟨hcell, hfroz⟩ := stands hb)
        all_goals
          go_ret
          have HBo := HB.out
          refine ⟨?_, ?_⟩
          · rw [← HR.out]
            first
              | (refine ret_int' (rW_of ?_).symm; simp [wrapP, *]; done)
              | (refine ret_int' (rW_not ?_).symm; simp [wrapP, *]; done)
              | (refine ret_int' (rW_not ?_).symm; simp only [wrapP]; omega; done)
              | (refine ret_int' (rW_not ?_).symm; simp [wrapP, *]; intros; omega; done)
              | (exfalso; simp only [List.isEmpty_iff] at *; contradiction)
              | (refine ret_int' (rW_not ?_).symm; simp_all [wrapP]; done)
          · first
              | exact ((((Below.refl _ _).alloc (Nat.le_refl _) _).alloc (by simp) _).trans (hb.mono (by simp; omega))).setCell (by simp) _
              | exact ((Below.refl _ _).alloc (Nat.le_refl _) _).alloc (by simp) _
  · clear c
    have n4 : ¬ k = 4 := fun h => k4 (.inl h)
    have n6 : ¬ k = 6 := fun h => k4 (.inr h)
    clear k4
    by_cases k1 : k = 1 ∨ k = 2 ∨ k = 3 ∨ k = 5 ∨ k = 7
    · rcases k1 with k1 | k1 | k1 | k1 | k1
      all_goals
        subst k1
        clear n4 n6
        gi_enter Tryz.func77, Tryz.ntmps77
        gi_wp2
        all_goals
          go_ret
          refine ⟨?_, ((Below.refl _ _).alloc (Nat.le_refl _) _).alloc (by simp) _⟩
          rw [← HR.out]
          first
            | (refine ret_int' (rW_of ?_).symm; simp [wrapP, *]; done)
            | (refine ret_int' (rW_not ?_).symm; simp [wrapP, *]; done)
            | (refine ret_int' (rW_not ?_).symm; simp only [wrapP]; omega; done)
            | (refine ret_int' (rW_not ?_).symm; simp [wrapP, *]; intros; omega; done)
            | (exfalso; simp only [List.isEmpty_iff] at *; contradiction)
    · have HN := Lib.hid (show ¬ k = 1 ∧ ¬ k = 2 ∧ ¬ k = 3 ∧ ¬ k = 5 ∧ ¬ k = 7 ∧ ¬ k = 4 ∧ ¬ k = 6 from ⟨fun h => k1 (.inl h), fun h => k1 (.inr (.inl h)), fun h => k1 (.inr (.inr (.inl h))), fun h => k1 (.inr (.inr (.inr (.inl h)))), fun h => k1 (.inr (.inr (.inr (.inr h)))), n4, n6⟩)
      have e1 : (k == 1) = false := by simpa using HN.out.1
      have e2 : (k == 2) = false := by simpa using HN.out.2.1
      have e3 : (k == 3) = false := by simpa using HN.out.2.2.1
      have e5 : (k == 5) = false := by simpa using HN.out.2.2.2.1
      have e7 : (k == 7) = false := by simpa using HN.out.2.2.2.2.1
      have e4 : (k == 4) = false := by simpa using n4
      have e6 : (k == 6) = false := by simpa using n6
      clear k1 n4 n6
      gi_enter Tryz.func77, Tryz.ntmps77
      gi_wp2
      all_goals
        go_ret
        refine ⟨?_, ((Below.refl _ _).alloc (Nat.le_refl _) _).alloc (by simp) _⟩
        rw [← HR.out]
        have := HN.out
        exact ret_int' (rW_not (by simp only [wrapP]; omega)).symm
end Go.Proofs.YthjofgmiabcifabGreatDoor.Sq
namespace Go.Proofs.YthjofgmiabcifabGreatDoor.Sq
open Go Go.RowKit
theorem cell_lt {w : World} {p : Addr} {v : Value} (h : w.cell? p = some v) : p.block < w.heap.size := by
  unfold World.cell? at h
  rcases Nat.lt_or_ge p.block w.heap.size with h' | h'
  · exact h'
  · simp [Array.getElem?_eq_none h'] at h
/-- The cells of a wrapper lie there. -/
structure WrapAt (w : World) (b o : Nat) (x : WrapS) : Prop where
  kind : w.cell? ⟨b, o, none⟩ = some (.int .u8 x.kind)
  mask : w.cell? ⟨b, o + 1, none⟩ = some (.int .u16 x.mask)
  number : w.cell? ⟨b, o + 2, none⟩ = some (.int .i64 x.number)
  text : w.cell? ⟨b, o + 3, none⟩ = some (.string x.text)
  size : x.text.size ≤ maxLen
/-- A slice of wrappers. -/
def WrapsAt (w : World) (v : Value) (ws : List WrapS) : Prop :=
  (∃ p, v = .slice p 0 0 ∧ ws = []) ∨ ∃ b o cap, v = .slice (some ⟨b, o, none⟩) ws.length cap ∧ ws.length ≤ maxLen ∧ ∀ i (h : i < ws.length), WrapAt w b (o + i * 4) ws[i]
theorem WrapAt.below {w w' : World} {b o : Nat} {x : WrapS} (h : WrapAt w b o x) (hb : Below w.heap.size w w') : WrapAt w' b o x := by
  obtain ⟨h0, h1, h2, h3, h4⟩ := h
  exact ⟨(hb.cell (cell_lt h0)).trans h0, (hb.cell (cell_lt h1)).trans h1, (hb.cell (cell_lt h2)).trans h2, (hb.cell (cell_lt h3)).trans h3, h4⟩
theorem WrapsAt.below {w w' : World} {v : Value} {ws : List WrapS} (h : WrapsAt w v ws) (hb : Below w.heap.size w w') : WrapsAt w' v ws := by
  rcases h with h | ⟨b, o, cap, h1, h2, h3⟩
  · exact .inl h
  · exact .inr ⟨b, o, cap, h1, h2, fun i hi => (h3 i hi).below hb⟩
theorem may1_in {T : World → Prop} (V : ValidIn T) (x : WrapS) (w : World) (hs : x.text.size ≤ maxLen) (hT : T w) : Gives 76 #[x.val] w (.bool (!decide (wrapP x))) := by
  have c := fun w' hT' => wcheck_in V x w' hs hT'
  unfold Gives at c
  have hr : (rW x = 0 ∧ decide (wrapP x) = true) ∨ (rW x = 70 ∧ decide (wrapP x) = false) := by
    by_cases h : wrapP x
    · exact .inl ⟨rW_of h, decide_eq_true h⟩
    · exact .inr ⟨rW_not h, decide_eq_false h⟩
  rcases hr with ⟨h1, h2⟩ | ⟨h1, h2⟩
  all_goals
    simp only [h1] at c
    rw [h2]
    clear h1 h2
    unfold WrapS.val at c ⊢
    gi_enter Tryz.func76, Tryz.ntmps76
    gi_wp2_with (gi_at_call 77; refine (c _ ?_).mono ?_; (exact V.below _ _ hT ((Below.refl _ _).alloc (Nat.le_refl _) _)); rintro e w' ⟨rfl, hb⟩; obtain ⟨hcell, hfroz⟩ := stands hb)
    go_ret
    exact ⟨rfl, ((Below.refl _ _).alloc (Nat.le_refl _) _).trans (hb.mono (by simp))⟩
def IdxPost (ws : List WrapS) (w : World) (e : Ending) (w' : World) : Prop := ∃ r : Int, e = .returned (.int .i64 r) ∧ -1 ≤ r ∧ (r < 0 ↔ ∀ x ∈ ws, wrapP x) ∧ Below w.heap.size w w'
set_option maxHeartbeats 1000000 in
theorem idx_in {T : World → Prop} (V : ValidIn T) (b o : Nat) (ws : List WrapS) (cap : Nat) (w : World) (hl : ws.length ≤ maxLen) (hx : ∀ i (h : i < ws.length), WrapAt w b (o + i * 4) ws[i]) (hT : T w) :
    CallsIn FF 0 Tryz.prog 98 #[.slice (some ⟨b, o, none⟩) ws.length cap, .func (.func 76) #[] #[]] w (IdxPost ws w) := by
  unfold maxLen at hl
  have HX := Lib.hid hx
  clear hx
  gi_enter Tryz.func98, Tryz.ntmps98
  gi_wp2
  gi_loopw [8] (fun i wx => Below w.heap.size w wx ∧ ∃ k : Nat, k ≤ ws.length ∧ i = .int .i64 k ∧ ∀ j (h : j < ws.length), j < k → wrapP ws[j]) (fun i _ => ws.length - (intOf i).toNat)
  case atStart => exact ⟨Below.refl _ _, 0, Nat.zero_le _, rfl, fun j h h' => absurd h' (by omega)⟩
  case round =>
    obtain ⟨hbw, k, hk, rfl, hall⟩ := hrel
    have HA := Lib.hid hall
    clear hall
    by_cases hlt : k < ws.length
    · obtain ⟨h0, h1, h2, h3, h4⟩ := (HX.out k hlt).below hbw
      obtain ⟨x, hv⟩ : ∃ x, ws[k] = x := ⟨_, rfl⟩
      rw [hv] at h0 h1 h2 h3 h4
      have HV := Lib.hid hv
      clear hv
      have c := may1_in V x wr h4 (V.below _ _ hT hbw)
      by_cases hp : wrapP x
      · rw [decide_eq_true hp] at c
        have HP := Lib.hid hp
        clear hp
        unfold WrapS.val at c
        gi_wp2_with (gi_at_call 76; refine c.mono ?_; rintro e w' ⟨rfl, hb⟩)
        go_roundw
        case rel =>
          refine ⟨hbw.trans (hb.mono hbw.size), k + 1, by omega, by go_num, fun j h h' => ?_⟩
          by_cases e : j = k
          · subst e; rw [HV.out]; exact HP.out
          · exact HA.out j h (by omega)
        case measure => simp [intOf]; omega
      · rw [decide_eq_false hp] at c
        have HP := Lib.hid hp
        clear hp
        unfold WrapS.val at c
        gi_wp2_with (gi_at_call 76; refine c.mono ?_; rintro e w' ⟨rfl, hb⟩)
        go_ret
        exact ⟨k, rfl, by omega, ⟨fun h => absurd h (by omega), fun h => absurd (h _ (List.getElem_mem hlt)) (by rw [HV.out]; exact HP.out)⟩, hbw.trans (hb.mono hbw.size)⟩
    · gi_wp2
      go_ret
      refine ⟨-1, rfl, by omega, ⟨fun _ x hx => ?_, fun _ => by omega⟩, hbw⟩
      obtain ⟨j, hj, rfl⟩ := List.getElem_of_mem hx
      exact HA.out j hj (by omega)
theorem idx_nil (p : Option Addr) (w : World) : CallsIn FF 0 Tryz.prog 98 #[.slice p 0 0, .func (.func 76) #[] #[]] w (IdxPost [] w) := by
  gi_enter Tryz.func98, Tryz.ntmps98
  gi_wp2
  gi_loopw [8] (fun i wx => wx = w ∧ i = .int .i64 0) (fun _ _ => 0)
  case atStart => exact ⟨rfl, rfl⟩
  case round =>
    obtain ⟨rfl, rfl⟩ := hrel
    gi_wp2
    go_ret
    exact ⟨-1, rfl, by omega, ⟨fun _ x hx => (by cases hx), fun _ => by omega⟩, Below.refl _ _⟩
/-- All wrappers may be. -/
def wrapsB (ws : List WrapS) : Bool := ws.all fun x => decide (wrapP x)
theorem idx_any {T : World → Prop} (V : ValidIn T) {v : Value} {ws : List WrapS} {w : World} (hw : WrapsAt w v ws) (hT : T w) : CallsIn FF 0 Tryz.prog 98 #[v, .func (.func 76) #[] #[]] w (IdxPost ws w) := by
  rcases hw with ⟨p, rfl, rfl⟩ | ⟨b, o, cap, rfl, h1, h2⟩
  · exact idx_nil p w
  · exact idx_in V b o ws cap w h1 h2 hT
theorem contains_in {T : World → Prop} (V : ValidIn T) {v : Value} {ws : List WrapS} {w : World} (hw : WrapsAt w v ws) (hT : T w) : Gives 75 #[v, .func (.func 76) #[] #[]] w (.bool (!wrapsB ws)) := by
  have c := idx_any V hw hT
  clear hw
  obtain ⟨R, hR⟩ : ∃ R, wrapsB ws = R := ⟨_, rfl⟩
  rw [hR]
  have HR := Lib.hid hR
  clear hR
  gi_enter Tryz.func75, Tryz.ntmps75
  gi_wp2_with (gi_at_call 98; refine c.mono ?_; rintro e w' ⟨r, rfl, hr, hi, hb⟩)
  go_ret
  refine ⟨ret_bool ?_, hb⟩
  rw [← HR.out]
  unfold wrapsB
  by_cases h : r < 0
  · have := hi.1 h
    have e : (ws.all fun x => decide (wrapP x)) = true := by rw [List.all_eq_true]; exact fun x hx => decide_eq_true (this x hx)
    rw [e, decide_eq_false (by omega)]
    rfl
  · have : ¬ ∀ x ∈ ws, wrapP x := fun h' => h (hi.2 h')
    have e : (ws.all fun x => decide (wrapP x)) = false := by
      rw [Bool.eq_false_iff]
      intro h'
      rw [List.all_eq_true] at h'
      exact this fun x hx => of_decide_eq_true (h' x hx)
    rw [e, decide_eq_true (by omega)]
    rfl
end Go.Proofs.YthjofgmiabcifabGreatDoor.Sq
