/-
  The touches of a step lie in memory.
  Conditions: as each theorem says.
-/
import Derived.Test.YthjofgmiabcifabGreatDoorPLd
set_option linter.unusedVariables false
set_option linter.unusedSimpArgs false
namespace Go.Proofs.YthjofgmiabcifabGreatDoor.Gl
open Go Go.Conc
/-- What an event touches lies among the first n blocks. -/
def Bd (n : Nat) (e : Event) : Prop :=
  match e.loc with
  | .cell a => a.block < n
  | .obj r => r < n
  | _ => True
theorem Bd.mono {n m : Nat} {e : Event} (h : Bd n e) (hn : n ≤ m) : Bd m e := by
  unfold Bd at *
  split at h <;> first | omega | trivial
def endSize {α : Type} : Result α → Nat
  | .ok _ w => w.heap.size
  | .halt _ w => w.heap.size
theorem cell_in {w : World} {a : Addr} {v : Value} (h : w.cell? a = some v) : a.block < w.heap.size := by
  unfold World.cell? at h
  rcases Nat.lt_or_ge a.block w.heap.size with h' | h'
  · exact h'
  · simp [Array.getElem?_eq_none h'] at h
theorem heap_in {w : World} {b : Nat} {o : Obj} (h : w.heap[b]? = some o) : b < w.heap.size := by
  rcases Nat.lt_or_ge b w.heap.size with h' | h'
  · exact h'
  · simp [Array.getElem?_eq_none h'] at h
theorem farLoad_in {P : Program} {w : World} {a : Addr} {b : Bool} {v : Value} {l : List Addr} (h : w.farLoad P a b = .ok (v, l)) : ∀ x ∈ l, x.block < w.heap.size := by
  unfold World.farLoad at h
  split at h
  · rename_i at_ u hb
    split at h
    · rename_i r hr
      cases h
      unfold World.viewLoad at hr
      simp only [bind, Except.bind, pure, Except.pure, MonadExcept.throw, throwThe, MonadExceptOf.throw] at hr
      split at hr
      · cases hr
      · rename_i r hs
        obtain ⟨c, e, f, hc⟩ := Lift.seen_row hs
        obtain ⟨c', e', f', fi, lk, cl⟩ := r
        simp only at hr
        split at hr
        · cases hr
          intro x hx
          obtain ⟨y, _, rfl⟩ := List.mem_map.1 hx
          exact heap_in hc
        · cases hr
    · cases h
  · cases h
theorem farStore_in {P : Program} {w w' : World} {a : Addr} {b : Bool} {v : Value} {l : List Addr} (h : w.farStore P a v b = .ok (w', l)) : w'.heap.size = w.heap.size ∧ ∀ x ∈ l, x.block < w.heap.size := by
  unfold World.farStore at h
  split at h
  · split at h
    · rename_i r hr
      cases h
      obtain ⟨c, e, f, first, like, cells, bytes, c', _, hs, _, _, _, rfl, rfl⟩ := Lift.viewStore_eq.1 hr
      obtain ⟨c, e, f, hc⟩ := Lift.seen_row hs
      refine ⟨by simp, fun x hx => ?_⟩
      obtain ⟨y, _, rfl⟩ := List.mem_map.1 hx
      exact heap_in hc
    · cases h
  · cases h
theorem ask_heap {α : Type} : ∀ (w : World) (a : Ask α), (w.ask a).2.heap = w.heap := by
  intro w a
  induction a generalizing w with
  | done a => rfl
  | ask what range k ih =>
    unfold World.ask
    dsimp only
    split
    · exact ih _ _
    · exact ih _ _
/-- WHATEVER IS RUN. -/
theorem run_bound {α : Type} {P : Program} (s : Sem α) : ∀ (w : World) (es : Array Event), w.heap.size ≤ endSize (s.runT P w es).1 ∧ ∀ e ∈ (s.runT P w es).2, e ∈ es ∨ Bd (endSize (s.runT P w es).1) e := by
  have one : ∀ {r : Result α × Array Event} {w w' : World} {es es' : Array Event}, w.heap.size ≤ w'.heap.size → (w'.heap.size ≤ endSize r.1 ∧ ∀ e ∈ r.2, e ∈ es' ∨ Bd (endSize r.1) e) → (∀ e ∈ es', e ∈ es ∨ Bd w'.heap.size e) →
      w.heap.size ≤ endSize r.1 ∧ ∀ e ∈ r.2, e ∈ es ∨ Bd (endSize r.1) e := by
    intro r w w' es es' h1 h2 h3
    refine ⟨Nat.le_trans h1 h2.1, fun e he => ?_⟩
    rcases h2.2 e he with h | h
    · rcases h3 e h with h | h
      · exact .inl h
      · exact .inr (h.mono h2.1)
    · exact .inr h
  have push : ∀ {es : Array Event} {x : Event} {n : Nat}, Bd n x → ∀ e ∈ es.push x, e ∈ es ∨ Bd n e := by
    intro es x n hx e he
    rcases Array.mem_push.1 he with h | rfl
    · exact .inl h
    · exact .inr hx
  have app : ∀ {es : Array Event} {l : List Addr} {n : Nat} {a b : Bool}, (∀ x ∈ l, x.block < n) → ∀ e ∈ es ++ l.toArray.map (fun y => (⟨.cell y, a, b⟩ : Event)), e ∈ es ∨ Bd n e := by
    intro es l n a b hl e he
    rcases Array.mem_append.1 he with h | h
    · exact .inl h
    · obtain ⟨y, hy, rfl⟩ := Array.mem_map.1 h
      exact .inr (hl y (by simpa using hy))
  induction s with
  | pure a => intro w es; exact ⟨Nat.le_refl _, fun e h => .inl h⟩
  | halt q => intro w es; exact ⟨Nat.le_refl _, fun e h => .inl h⟩
  | load m a k ih =>
    intro w es
    simp only [Sem.runT]
    split
    · rename_i v hv
      exact one (Nat.le_refl _) (ih v w _) (push (cell_in hv))
    · split
      · rename_i v l hl
        exact one (Nat.le_refl _) (ih v w _) (app (farLoad_in hl))
      · exact ⟨Nat.le_refl _, fun e h => .inl h⟩
  | store m a v k ih =>
    intro w es
    have h0 : ∀ (w : World) (es : Array Event), (∀ x, v ≠ .agg x) → (∀ x, v ≠ .tuple x) → w.heap.size ≤ endSize ((Sem.store m a v k).runT P w es).1 ∧ ∀ e ∈ ((Sem.store m a v k).runT P w es).2, e ∈ es ∨ Bd (endSize ((Sem.store m a v k).runT P w es).1) e := by
      intro w es h1 h2
      have e : (Sem.store m a v k).runT P w es = (match w.cell? a with
        | some _ => if w.frozen? a then (.halt (.unsupported (.unsafePointer "a write to bytes that a string shares")) w, es) else k.runT P (w.setCell a v) (es.push ⟨.cell a, true, m == .atomic⟩)
        | none => match w.farStore P a v (m == .atomic) with
          | .ok (w, touched) => k.runT P w (es ++ touched.toArray.map (⟨.cell ·, true, m == .atomic⟩))
          | .error h => (.halt h w, es)) := by
        cases v <;> first | exact absurd rfl (h1 _) | exact absurd rfl (h2 _) | rfl
      rw [e]
      split
      · rename_i u hu
        split
        · exact ⟨Nat.le_refl _, fun e h => .inl h⟩
        · have hs : (w.setCell a v).heap.size = w.heap.size := by simp [World.setCell]
          exact one (by omega) (ih _ _) (push (by show a.block < _; rw [hs]; exact cell_in hu))
      · split
        · rename_i w1 l hl
          have := farStore_in hl
          exact one (by omega) (ih _ _) (app (by rw [this.1]; exact this.2))
        · exact ⟨Nat.le_refl _, fun e h => .inl h⟩
    by_cases h1 : ∃ x, v = .agg x
    · obtain ⟨x, rfl⟩ := h1
      exact ⟨Nat.le_refl _, fun e h => .inl h⟩
    · by_cases h2 : ∃ x, v = .tuple x
      · obtain ⟨x, rfl⟩ := h2
        exact ⟨Nat.le_refl _, fun e h => .inl h⟩
      · exact h0 w es (fun x e => h1 ⟨x, e⟩) (fun x e => h2 ⟨x, e⟩)
  | new o k ih => intro w es; exact one (by simp) (ih w.heap.size { w with heap := w.heap.push o } es) fun e h => .inl h
  | shape r k ih => intro w es; exact ih _ w es
  | freeze a n k ih =>
    intro w es
    have hs : (w.freeze a n).heap.size = w.heap.size := by unfold World.freeze; split <;> simp
    exact one (by omega) (ih (w.freeze a n) es) fun e h => .inl h
  | frozen a k ih => intro w es; exact ih _ w es
  | getObj r k ih =>
    intro w es
    simp only [Sem.runT]
    split
    · exact ⟨Nat.le_refl _, fun e h => .inl h⟩
    · rename_i o _ ho
      exact one (Nat.le_refl _) (ih o w _) (push (heap_in ho))
    · exact ⟨Nat.le_refl _, fun e h => .inl h⟩
  | setObj r o k ih =>
    intro w es
    simp only [Sem.runT]
    split
    · exact ⟨Nat.le_refl _, fun e h => .inl h⟩
    · rename_i ho
      exact one (w' := { w with heap := w.heap.setIfInBounds r o }) (by simp) (ih _ _) (push (by show r < _; simp; exact heap_in ho))
    · exact ⟨Nat.le_refl _, fun e h => .inl h⟩
  | choose q k ih =>
    intro w es
    simp only [Sem.runT]
    split
    · exact ih 0 w es
    · exact ih _ { w with drawn := w.drawn + 1 } es
  | sys c k ih =>
    intro w es
    simp only [Sem.runT]
    have hs : (w.sys c).2.heap.size = w.heap.size := by
      unfold World.sys
      split
      · rfl
      · rename_i r os w1 _ h
        have := ask_heap w (Kernel.perform c w.os)
        rw [h] at this
        show w1.heap.size = w.heap.size
        rw [← this]
    exact one (by omega) (ih _ _ _) (push trivial)
  | program k ih => intro w es; exact ih P w es
  | mark m k ih => intro w es; exact one (Nat.le_refl _) (ih w _) (push trivial)
/-- The step's own word. -/
def Bdd (w : World) (s : GStep) : Prop := ∀ g' w' es, s = .go g' w' es → w.heap.size ≤ w'.heap.size ∧ ∀ e ∈ es, Bd w'.heap.size e
theorem bdd_go {w : World} {g : Goroutine} : Bdd w (.go g w) := fun g' w' es e => by cases e; exact ⟨Nat.le_refl _, by simp⟩
theorem bdd_ended {w w' : World} {o : Outcome} {es : Array Event} : Bdd w (.ended o w' es) := fun g' w' es e => by cases e
theorem bdd_after {w w1 : World} {d : Array Event} {s : GStep} (h1 : w.heap.size ≤ w1.heap.size) (hd : ∀ e ∈ d, Bd w1.heap.size e) (h : Bdd w1 s) : Bdd w (GStep.after d s) := by
  intro g' w' es e
  cases s <;> simp only [GStep.after] at e <;> first | (cases e; done) | skip
  cases e
  obtain ⟨a1, a2⟩ := h _ _ _ rfl
  refine ⟨Nat.le_trans h1 a1, fun e he => ?_⟩
  rcases Array.mem_append.1 he with h | h
  · exact (hd e h).mono a1
  · exact a2 e h
section
variable {P : Program} {α : Type}
theorem run_ok {s : Sem α} {w w' : World} {a : α} {es : Array Event} (h : s.runT P w #[] = (.ok a w', es)) : w.heap.size ≤ w'.heap.size ∧ ∀ fn, ∀ e ∈ seen P fn es, Bd w'.heap.size e := by
  have := run_bound (P := P) s w #[]
  rw [h] at this
  exact ⟨this.1, fun fn e he => (this.2 e (Lift.mem_seen he)).resolve_left (by simp)⟩
theorem run_halt {s : Sem α} {w w' : World} {q : Halt} {es : Array Event} (h : s.runT P w #[] = (.halt q w', es)) : w.heap.size ≤ w'.heap.size ∧ ∀ fn, ∀ e ∈ seen P fn es, Bd w'.heap.size e := by
  have := run_bound (P := P) s w #[]
  rw [h] at this
  exact ⟨this.1, fun fn e he => (this.2 e (Lift.mem_seen he)).resolve_left (by simp)⟩
end
end Go.Proofs.YthjofgmiabcifabGreatDoor.Gl
namespace Go.Proofs.YthjofgmiabcifabGreatDoor.Gl
open Go Go.Conc
section
variable {P : Program}
theorem bdd_more {w w1 : World} {s : GStep} (h : w.heap.size ≤ w1.heap.size) (hs : Bdd w1 s) : Bdd w s := fun g' w' es e => by
  obtain ⟨a, b⟩ := hs g' w' es e
  exact ⟨Nat.le_trans h a, b⟩
theorem run_size {α : Type} {s : Sem α} {w w1 : World} {a : α} (h : s.run P w = .ok a w1) : w.heap.size ≤ w1.heap.size := by
  have h1 := (run_bound (P := P) s w #[]).1
  rw [Sem.runT_fst, h] at h1
  exact h1
theorem bdd_set {w : World} {g : Goroutine} {r : Nat} {o : Obj} : Bdd w (.go g { w with heap := w.heap.setIfInBounds r o }) := fun g' w' es e => by
  cases e
  exact ⟨by simp, by simp⟩
theorem bdd_doReturn {main : Bool} {fr : Frame} {cs : List Frame} {dy : Option Dying} {v : Value} {w : World} : Bdd w (doReturn P main fr cs dy v w) := by
  unfold doReturn
  dsimp only
  repeat' split
  all_goals first | exact bdd_go | exact bdd_ended
theorem bdd_early {fr : Frame} {cs : List Frame} {dy : Option Dying} {g : Nat} {w : World} : Bdd w (early P fr cs dy g w) := by
  unfold early
  dsimp only
  repeat' split
  all_goals first
    | exact bdd_ended
    | exact bdd_go
    | exact bdd_set
    | exact bdd_more (run_size (by assumption)) bdd_set
    | exact bdd_more (run_size (by assumption)) bdd_go
    | exact bdd_more (run_size (by assumption)) bdd_ended
theorem bdd_dieOf {fr : Frame} {l : List ByteArray} {m : String} {b : Bool} {w : World} : Bdd w (dieOf fr l m b w) := bdd_go
theorem bdd_endThrow {fr : Frame} {m : String} {w : World} : Bdd w (endThrow fr m w) := bdd_dieOf
theorem bdd_endPrinting {fr : Frame} {v : Value} {w : World} : Bdd w (endPrinting P fr v w) := by
  unfold endPrinting
  dsimp only
  split
  · exact bdd_endThrow
  · exact bdd_ended
theorem bdd_endFatal {fr : Frame} {cs : List Frame} {dy : Option Dying} {m : String} {w : World} : Bdd w (endFatal P fr cs dy m w) := by
  unfold endFatal
  dsimp only
  split
  · exact bdd_more (run_size (by assumption)) bdd_dieOf
  · exact bdd_ended
  · exact bdd_ended
theorem bdd_not {w : World} {s : GStep} (h : ∀ g' w' es, s ≠ .go g' w' es) : Bdd w s := fun g' w' es e => absurd e (h _ _ _)
/-- Behind a run. -/
theorem bdd_run {α : Type} {s : Sem α} {w : World} {fn : FuncId} {k : Result α → GStep} (hk : ∀ a w', Bdd w' (k (.ok a w'))) (hh : ∀ q w', Bdd w' (k (.halt q w'))) :
    Bdd w (GStep.after (seen P fn (s.runT P w #[]).2) (k (s.runT P w #[]).1)) := by
  generalize hr : s.runT P w #[] = r
  obtain ⟨r, es⟩ := r
  cases r with
  | ok a w' =>
    obtain ⟨h1, h2⟩ := run_ok hr
    exact bdd_after h1 (h2 fn) (hk a w')
  | halt q w' =>
    obtain ⟨h1, h2⟩ := run_halt hr
    exact bdd_after h1 (h2 fn) (hh q w')
theorem bdd_apply {fr : Frame} {cs : List Frame} {dy : Option Dying} {s : Sem Next} {w : World} : Bdd w (stepG.apply P true fr cs dy s w) := by
  unfold stepG.apply
  simp only [if_true]
  generalize hr : s.runT P w #[] = r
  obtain ⟨r, es⟩ := r
  cases r with
  | ok a w' =>
    obtain ⟨h1, h2⟩ := run_ok hr
    refine bdd_after h1 (fun e he => ?_) ?_
    · by_cases hk : (fr.kind == CallKind.early) = true
      · rw [if_pos hk] at he
        have := Lift.mem_seen he
        simp at this
      · rw [if_neg hk] at he
        exact h2 _ e he
    · cases a
      all_goals dsimp only
      all_goals (repeat' split)
      all_goals first
        | exact bdd_go
        | exact bdd_ended
        | exact bdd_endThrow
        | exact bdd_not (fun g' w' es e => by cases e)
  | halt q w' =>
    obtain ⟨h1, h2⟩ := run_halt hr
    refine bdd_after h1 (fun e he => ?_) ?_
    · have h3 := fun fn => h2 fn e
      have key : ∀ (es' : Array Event), (es' = es ∨ es' = #[]) → e ∈ seen P fr.fn (if (fr.kind == CallKind.early) = true then #[] else es') → Bd w'.heap.size e := by
        rintro es' (rfl | rfl) h
        · split at h
          · have := Lift.mem_seen h
            simp at this
          · exact h3 _ h
        · split at h <;> (have := Lift.mem_seen h; simp at this)
      refine key _ ?_ he
      cases q <;> dsimp only <;> first | exact .inl rfl | exact .inr rfl | (split <;> first | exact .inl rfl | exact .inr rfl)
    · cases q
      case unsupported u => cases u <;> dsimp only <;> first | exact bdd_ended | exact bdd_early
      all_goals dsimp only
      all_goals first
        | exact bdd_go
        | exact bdd_ended
        | exact bdd_endThrow
        | exact bdd_endFatal
theorem bdd_leave {main : Bool} {fr : Frame} {cs : List Frame} {dy : Option Dying} {w : World} {l : Nat} {jump : Option Code} :
    Bdd w (GStep.after (seen P fr.fn ((Instr.endRound l jump).runT P w #[]).2) (match ((Instr.endRound l jump).runT P w #[]).1 with
      | .ok v w => doReturn P main fr cs dy v w
      | .halt _ w => .ended (.stuck "range over a function: no such loop" (fr.pos P)) w)) :=
  bdd_run (k := fun r => match r with
      | .ok v w => doReturn P main fr cs dy v w
      | .halt _ w => .ended (.stuck "range over a function: no such loop" (fr.pos P)) w) (fun a w' => bdd_doReturn) (fun q w' => bdd_ended)
theorem bdd_oper {fr : Frame} {cs : List Frame} {dy : Option Dying} {w : World} : Bdd w (stepG.oper P true fr cs dy w) := by
  unfold stepG.oper
  split
  · exact bdd_ended
  · split <;> exact bdd_apply
theorem bdd_exec {main : Bool} {fr : Frame} {cs : List Frame} {dy : Option Dying} {w : World} : Bdd w (stepG.exec P main true fr cs dy w) := by
  obtain ⟨fn, tmps, todo, defers, mode, kind, ro⟩ := fr
  unfold stepG.exec
  cases todo with
  | nil =>
    cases ro with
    | none => exact bdd_go
    | some l => exact bdd_leave
  | cons it k =>
    cases it with
    | code c =>
      cases c with
      | ret =>
        cases ro with
        | none => exact bdd_go
        | some l => exact bdd_leave
      | exit id =>
        dsimp only
        cases exitTo id k with
        | some k' => exact bdd_go
        | none =>
          cases ro with
          | none => exact bdd_ended
          | some l => exact bdd_leave
      | goto l =>
        dsimp only
        cases gotoIn l k with
        | some k' => exact bdd_go
        | none =>
          cases ro with
          | none => exact bdd_ended
          | some l => exact bdd_leave
      | rangeFunc f params assign body =>
        exact bdd_run (k := fun r => match r with
          | .ok (l, mark) w => stepG.apply P true { fn, tmps, todo := .inRangeFunc l :: k, defers := mark ++ defers, mode, kind, roundOf := ro } cs dy (do let d ← resolve ({ fn, tmps, todo := .inRangeFunc l :: k, defers := mark ++ defers, mode, kind, roundOf := ro } : Frame).eval { callee := .value f, args := #[.const (.func (.yield l) #[] #[])], argTypes := #[] } 0; invoke d.target d.args) w
          | .halt _ w => .ended (.stuck "range over a function: no such loop" _) w) (fun a w' => bdd_apply) (fun q w' => bdd_ended)
      | region id ops draw =>
        dsimp only
        split
        · exact bdd_go
        · split
          · exact bdd_more (run_size (by assumption)) bdd_go
          · exact bdd_ended
      | cond c a b =>
        dsimp only
        split
        · exact bdd_go
        · exact bdd_ended
      | refuse why => exact bdd_ended
      | _ => exact bdd_go
    | endRangeFunc l =>
      exact bdd_run (k := fun (r : Result (Option Code)) => match r with
        | .ok jump w => .go { frame := { fn, tmps, todo := (jump.map Item.code).toList ++ k, defers, mode, kind, roundOf := ro }, callers := cs, status := .running, dying := dy } w
        | .halt (.panic v) w => .go { frame := Frame.raise { fn, tmps, todo := .endRangeFunc l :: k, defers, mode, kind, roundOf := ro } [{ v, recovered := false }], callers := cs, status := .running, dying := dy } w
        | .halt _ w => .ended (.stuck "range over a function: no such loop" _) w) (fun a w' => bdd_go) (fun q w' => by cases q <;> first | exact bdd_go | exact bdd_ended)
    | inRegion ops l =>
      cases l with
      | nil => exact bdd_go
      | cons i l =>
        dsimp only
        split
        · exact bdd_oper
        · exact bdd_go
    | extern row args =>
      dsimp only
      cases Extern.next row with
      | some e => exact bdd_apply
      | none => exact bdd_ended
    | inRangeFunc l => exact bdd_ended
    | beginRound => exact bdd_apply
    | call d wr r sv => exact bdd_apply
    | _ => exact bdd_go
theorem bdd_ite {w : World} {c : Prop} [Decidable c] {a b : GStep} (ha : Bdd w a) (hb : Bdd w b) : Bdd w (if c then a else b) := by
  split
  · exact ha
  · exact hb
theorem bdd_callDeferred {fr : Frame} {cs : List Frame} {dy : Option Dying} {d : Deferred} {w : World} : Bdd w (callDeferred P fr cs dy d w) := by
  unfold callDeferred
  refine bdd_ite bdd_ended ?_
  dsimp only
  generalize hr : (invoke d.target d.args).runT P w #[] = r
  obtain ⟨r, es⟩ := r
  cases r with
  | ok a w' =>
    obtain ⟨h1, h2⟩ := run_ok hr
    refine bdd_after h1 (h2 _) ?_
    cases a
    case coroswitch c e => cases e <;> first | exact bdd_ended | exact bdd_not (fun g' w' es e => by cases e)
    case «alone» on v => cases on <;> first | exact bdd_ended | exact bdd_not (fun g' w' es e => by cases e)
    all_goals dsimp only
    all_goals (repeat' split)
    all_goals first
      | exact bdd_go
      | exact bdd_ended
      | exact bdd_endThrow
      | exact bdd_not (fun g' w' es e => by cases e)
  | halt q w' =>
    obtain ⟨h1, h2⟩ := run_halt hr
    refine bdd_after h1 (fun e he => ?_) ?_
    · have key : ∀ (es' : Array Event), (es' = es ∨ es' = #[]) → e ∈ seen P fr.fn es' → Bd w'.heap.size e := by
        rintro es' (rfl | rfl) h
        · exact h2 _ e h
        · have := Lift.mem_seen h
          simp at this
      refine key _ ?_ he
      cases q <;> dsimp only <;> first | exact .inl rfl | exact .inr rfl
    · cases q
      case unsupported u => cases u <;> dsimp only <;> first | exact bdd_ended | exact bdd_early
      all_goals dsimp only
      all_goals first
        | exact bdd_go
        | exact bdd_ended
        | exact bdd_endThrow
        | exact bdd_endFatal
theorem bdd_unwind {main : Bool} {fr : Frame} {cs : List Frame} {dy : Option Dying} {w : World} : Bdd w (unwind P main fr cs dy w) := by
  unfold unwind
  split
  · rename_i block args ds hd
    exact bdd_run (k := fun (r : Result (List Deferred)) => match r with
      | .ok calls w => .go { frame := { fr with defers := calls ++ ds }, callers := cs, status := .running, dying := dy } w
      | .halt _ w => .ended (.stuck "the deferred calls of a range-over-func loop have been taken" (fr.pos P)) w) (fun a w' => bdd_go) (fun q w' => bdd_ended)
  · exact bdd_callDeferred
  · split
    · exact bdd_ended
    · split
      · exact bdd_ended
      · split
        · exact bdd_go
        · split
          · split
            · exact bdd_go
            · split
              · exact bdd_more (run_size (by assumption)) bdd_go
              · exact bdd_ended
              · exact bdd_ended
          · split
            · exact bdd_endPrinting
            · exact bdd_ended
    · split
      · exact bdd_doReturn
      · rename_i fn hfn
        exact bdd_run (k := fun (r : Result Value) => match r with
          | .ok v w => doReturn P main fr cs dy v w
          | .halt (.stuck s) w => .ended (.stuck s (fr.pos P)) w
          | .halt _ w => .ended (.stuck "return: the result variables cannot be read" (fr.pos P)) w) (fun a w' => bdd_doReturn) (fun q w' => by cases q <;> exact bdd_ended)
/-- THE STEP. -/
theorem stepG_bound {main : Bool} {g g' : Goroutine} {w w' : World} {es : Array Event} (hd : g.dying = none) (h : stepG P main g w = .go g' w' es) : w.heap.size ≤ w'.heap.size ∧ ∀ e ∈ es, Bd w'.heap.size e := by
  have key : Bdd w (stepG P main g w) := by
    obtain ⟨fr, cs, st, dy, of⟩ := g
    simp only at hd
    subst hd
    unfold stepG
    dsimp only
    cases hm : fr.mode with
    | run => exact bdd_exec
    | returning => exact bdd_unwind
    | panicking c => exact bdd_unwind
  exact key _ _ _ h
end
end Go.Proofs.YthjofgmiabcifabGreatDoor.Gl
