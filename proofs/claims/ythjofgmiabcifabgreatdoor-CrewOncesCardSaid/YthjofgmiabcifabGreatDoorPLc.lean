/-
  The steps of a goroutine are tame.
  Conditions: as each theorem says.
-/
import Derived.Test.YthjofgmiabcifabGreatDoorPLb
import Derived.Conc.Events
import GoSem.ClaimFollow
import Derived.Fence
set_option linter.unusedVariables false
set_option linter.unusedSimpArgs false
namespace Go.Proofs.YthjofgmiabcifabGreatDoor.Lift
open Go
/-- The world at a run's end. -/
def endWorld {α : Type} : Result α × Array Event → World
  | (.ok _ w, _) => w
  | (.halt _ w, _) => w
theorem dead_tape {α : Type} {P : Program} {s : Sem α} (hd : Dead s) : ∀ (w : World) (es : Array Event), (endWorld (Sem.runT P s w es)).tape = w.tape := by
  induction hd with
  | unsup u h => exact fun w es => rfl
  | stuck u => exact fun w es => rfl
  | mark _ ih => exact fun w es => ih w _
  | shape _ ih => exact fun w es => ih _ w _
  | frozen _ ih => exact fun w es => ih _ w _
  | program _ ih => exact fun w es => ih _ w _
/-- The tape stays. -/
theorem tame_tape {α : Type} {C : Cls} {Q : α → Prop} {s : Sem α} (hs : Tame C Q s) : ∀ {w0 w : World} (es : Array Event), Sim C w0 w → (endWorld (s.runT C.P w0 es)).tape = w0.tape := by
  induction hs with
  | pure _ => exact fun {w0 w} es _ => rfl
  | @load a k _ ih =>
    intro w0 w es h
    cases hc : w0.cell? a with
    | some v => simp only [Sem.runT, hc]; exact ih v _ h
    | none =>
      rcases h.far (P := C.P) (at_ := (Mode.plain == Mode.atomic)) hc with ⟨e, he, _⟩ | ⟨v, l, he, _⟩
      · simp only [Sem.runT, hc, he]; exact rfl
      · simp only [Sem.runT, hc, he]; exact ih v _ h
  | @store a v k _ ih =>
    intro w0 w es h
    have hv : (∃ x, v = .agg x) ∨ (∃ x, v = .tuple x) ∨ ((∀ x, v ≠ .agg x) ∧ ∀ x, v ≠ .tuple x) := by
      cases v <;> simp
    rcases hv with ⟨x, rfl⟩ | ⟨x, rfl⟩ | ⟨h1, h2⟩
    · simp only [Sem.runT]; exact rfl
    · simp only [Sem.runT]; exact rfl
    · rw [run_store h1 h2]
      cases hc : w0.cell? a with
      | some u =>
        cases hf : w0.frozen? a with
        | true => simp only [if_true]; exact rfl
        | false =>
          simp only [Bool.false_eq_true, if_false]
          exact ih (w0 := w0.setCell a v) _ (h.setCell hc hf v)
      | none =>
        rcases h.farS (P := C.P) (v := v) (at_ := (Mode.plain == Mode.atomic)) hc with ⟨e, he, _⟩ | ⟨h0, h1, l, he, _, _, hs, _⟩
        · simp only [he]; exact rfl
        · simp only [he]; exact ih (w0 := { w0 with heap := h0 }) (w := { w with heap := h1 }) _ hs
  | @new o k ho _ ih =>
    intro w0 w es h
    simp only [Sem.runT]
    exact ih _ (w0 := { w0 with heap := w0.heap.push o }) _ (h.push ho)
  | @getObj r k _ hdead hdead2 ih =>
    intro w0 w es h
    simp only [Sem.runT]
    split
    · exact rfl
    · rename_i p hn hp
      rcases h.objNew hp (fun c t f e => hn c t f (e ▸ rfl)) with ⟨h1, _, h3⟩ | ⟨_, rfl, _⟩ | ⟨_, h1, _⟩
      · exact ih _ h3 h1 _ h
      · exact dead_tape (hdead _ _) _ _
      · exact dead_tape (hdead2 _ h1) _ _
    · exact rfl
  | @getAny r k _ _ _ _ ih1 ih2 ih3 =>
    intro w0 w es h
    simp only [Sem.runT]
    split
    · exact rfl
    · rename_i p hn hp
      rcases h.objNew hp (fun c t f e => hn c t f (e ▸ rfl)) with ⟨h1, _, h3⟩ | ⟨_, rfl, _⟩ | ⟨_, h1, _⟩
      · exact ih1 _ h3 h1 _ h
      · exact ih2 _ _ _ h
      · exact ih3 _ h1 _ h
    · exact rfl
  | @shape r k _ _ ih => exact fun {w0 w} es h => ih _ _ h
  | @setObj r o k hr hpl _ ih =>
    intro w0 w es h
    simp only [Sem.runT]
    split
    · exact rfl
    · rename_i p hn hp
      exact ih (w0 := { w0 with heap := w0.heap.setIfInBounds r o }) _ (h.setObj hr hpl)
    · exact rfl
  | @choose q k _ ih =>
    intro w0 w es h
    simp only [Sem.runT]
    split
    · exact ih _ _ h
    · exact (ih _ (w0 := { w0 with drawn := w0.drawn + 1 }) (w := w) _ ⟨h.size, h.le, h.poison, h.frozen, h.own, h.new⟩)
  | program _ ih => exact fun {w0 w} es h => ih _ h
  | room _ ih => exact fun {w0 w} es h => ih _ h
  | panic v => exact fun {w0 w} es _ => rfl
  | dead hd =>
    intro w0 w es _
    exact dead_tape hd _ _
/-- What an allowed operation may say to do next. -/
def NextV (C : Cls) : Next → Prop
  | .value _ | .skip => True
  | .enter f _ => f ∈ C.L
  | .round l f tmps a b => codeOk C.P C.L a = true ∧ codeOk C.P C.L b = true
  | _ => False
/-- From the lone world w0 the run goes just so in each true world. -/
def Lifts {α : Type} (C : Cls) (Q : α → Prop) (s : Sem α) (w0 : World) (e0 : Array Event) : Prop :=
  ∀ w, Sim C w0 w → (w0.drawn ≤ endDrawn (s.runT C.P w0 e0) ∧ (endWorld (s.runT C.P w0 e0)).tape = w0.tape) ∧
    ∀ es, Al (endDrawn (s.runT C.P w0 e0)) w0 w → Answers C Q s w0 w es (s.runT C.P w0 e0)
section
variable {C : Cls}
theorem Tame.lifts {α : Type} {Q : α → Prop} {s : Sem α} (h : Tame C Q s) (w0 : World) (e0 : Array Event) : Lifts C Q s w0 e0 :=
  fun w hs => ⟨⟨tame_drawn h e0 hs, tame_tape h e0 hs⟩, fun es al => tame_run h e0 es hs al⟩
theorem lifts_bind {α β : Type} {R : α → Prop} {Q : β → Prop} {s : Sem α} {k : α → Sem β} {w0 : World} {e0 : Array Event} (hs : Lifts C R s w0 e0)
    (hk : ∀ a w0' e1, s.runT C.P w0 e0 = (.ok a w0', e1) → R a → Lifts C Q (k a) w0' e1) : Lifts C Q (s >>= k) w0 e0 := by
  intro w sim
  obtain ⟨⟨h1, h2⟩, h3⟩ := hs w sim
  have hb : ∀ (x : World) es, (s >>= k).runT C.P x es = _ := fun x es => Sem.runT_bind' C.P s k x es
  rw [hb]
  generalize hr : s.runT C.P w0 e0 = r at h1 h2 h3
  obtain ⟨r, e1⟩ := r
  cases r with
  | halt q w0' =>
    refine ⟨⟨h1, h2⟩, fun es al => ?_⟩
    have := h3 es al
    cases q with
    | panic v =>
      obtain ⟨w', new, a1, a2, a3, a4, a5⟩ := this
      exact ⟨w', new, by rw [hb, a1], a2, a3, a4, a5⟩
    | unsupported u => trivial
    | stuck u => trivial
    | _ => exact this
  | ok a w0' =>
    have h1 : w0.drawn ≤ w0'.drawn := h1
    have h2 : w0'.tape = w0.tape := h2
    have simT : Sim C w0 { w with tape := w0.tape, drawn := w0.drawn } := ⟨sim.size, sim.le, sim.poison, sim.frozen, sim.own, sim.new⟩
    have ha := (hs _ simT).2 e0 (fun i q _ => rfl)
    rw [hr] at ha
    obtain ⟨ra, w1, new1, b1, b2, b3, b4, b5⟩ := ha
    have hl := hk a w0' e1 hr ra
    have hl1 := (hl _ b3).1
    show (w0.drawn ≤ endDrawn ((k a).runT C.P w0' e1) ∧ (endWorld ((k a).runT C.P w0' e1)).tape = w0.tape) ∧ ∀ es, Al (endDrawn ((k a).runT C.P w0' e1)) w0 w → Answers C Q (s >>= k) w0 w es ((k a).runT C.P w0' e1)
    refine ⟨⟨Nat.le_trans h1 hl1.1, hl1.2.trans h2⟩, fun es al => ?_⟩
    obtain ⟨ra, w', new, a1, a2, a3, a4, a5⟩ := h3 es (fun i q hi => al i q (Nat.lt_of_lt_of_le hi hl1.1))
    have al' : Al (endDrawn ((k a).runT C.P w0' e1)) w0' w' := by
      intro i q hi
      rw [h2, a5.tape]
      have := al (w0'.drawn - w0.drawn + i) q (by omega)
      rw [show w0.drawn + (w0'.drawn - w0.drawn + i) = w0'.drawn + i from by omega, show w.drawn + (w0'.drawn - w0.drawn + i) = w'.drawn + i from by omega] at this
      exact this
    have := (hl _ a3).2 (es ++ new) al'
    exact Answers.after (s' := k a) (w1 := w') (add := new) (by rw [hb, a1]) a2 a5 a4 this
theorem Lifts.mono {α : Type} {R Q : α → Prop} {s : Sem α} {w0 : World} {e0 : Array Event} (h : Lifts C R s w0 e0) (hq : ∀ a, R a → Q a) : Lifts C Q s w0 e0 := by
  intro w sim
  refine ⟨(h w sim).1, fun es al => ?_⟩
  have := (h w sim).2 es al
  generalize s.runT C.P w0 e0 = r at this
  obtain ⟨r, e1⟩ := r
  cases r with
  | halt q w0' => cases q <;> exact this
  | ok a w0' => exact ⟨hq a this.1, this.2⟩
theorem tame_value {s : Sem Value} (h : Tame C Any s) : Tame C (NextV C) (do pure (.value (← s))) := tame_bind h fun _ _ => tame_pure trivial
theorem tame_skip {s : Sem Unit} (h : Tame C Any s) : Tame C (NextV C) (do s; pure .skip) := tame_bind h fun _ _ => tame_pure trivial
theorem nil_operand {ρ : Operand → Value} (hρ : ∀ v, ρ (.const v) = v) {x : Operand} (h : nilOperand x = true) : ρ x = .nilIface ∨ (∃ n c, ρ x = .slice none n c) ∨ ρ x = .pointer none := by
  unfold nilOperand at h
  split at h
  · exact .inl (hρ _)
  · exact .inr (.inl ⟨_, _, hρ _⟩)
  · exact .inr (.inr (hρ _))
  · cases h
theorem tame_op {ρ : Operand → Value} (hρ : ∀ v, ρ (.const v) = v) {o : Oper} (h : opOk C.P C.L o = true) (hc : ∀ c, o.op ≠ .call c) : Tame C (NextV C) (execOp ρ o) := by
  unfold opOk at h
  unfold execOp
  split at h <;> rename_i heq <;> first | (cases h; done) | (rw [heq])
  · exact tame_pure trivial
  · exact tame_pure trivial
  · exact tame_bind tame_asBool fun _ _ => tame_pure trivial
  · exact tame_value tame_alloc
  · exact tame_value tame_box
  · exact tame_value tame_build
  · exact tame_value tame_buildSlice
  · exact tame_value tame_loadAt
  · exact tame_skip tame_storeAt
  · dsimp only
    split
    · exact tame_runtimePanic
    · exact tame_runtimePanic
    · exact tame_runtimePanic
    · split
      · exact tame_runtimePanic
      · refine tame_bind tame_program fun p _ => ?_
        refine tame_bind tame_nilAhead fun r _ => ?_
        split
        · exact tame_bind (R := fun _ => False) tame_unsup fun _ h => h.elim
        · exact tame_pure trivial
      · exact tame_pure trivial
    · exact tame_pure trivial
  · exact tame_value tame_unary
  · exact tame_value tame_makeInterface
  · exact tame_value tame_pureA
  · exact tame_value tame_makeSlice
  · exact tame_value tame_sliceAt
  · exact tame_value tame_field
  · exact tame_value tame_index
  · exact tame_value tame_indexAt
  · exact tame_value tame_typeAssert
  · exact tame_value tame_extract
  · exact tame_value (tame_fieldAt h)
  · refine tame_value (tame_bind tame_eqGuard fun _ _ => tame_binOp fun _ => ?_)
    rcases Bool.or_eq_true _ _ ▸ h with h | h
    · exact tame_equal h
    · simp only [Bool.and_eq_true, Bool.or_eq_true] at h
      exact tame_equal_nil h.2 (h.1.2.imp (nil_operand hρ) (nil_operand hρ))
  · simp only [Bool.and_eq_true] at h
    exact tame_value (tame_convert h.1 h.2)
  · exact absurd heq (hc _)
end
end Go.Proofs.YthjofgmiabcifabGreatDoor.Lift
namespace Go.Proofs.YthjofgmiabcifabGreatDoor.Lift
open Go
section
variable {C : Cls}
theorem listOk_bodied {P : Program} {L : List FuncId} (h : listOk P L = true) {f : FuncId} (hf : f ∈ L) : bodied P L f = true := by
  unfold listOk at h
  rw [List.all_eq_true] at h
  have := h f hf
  simp only [Bool.and_eq_true] at this
  exact this.1
theorem listOk_code {P : Program} {L : List FuncId} (h : listOk P L = true) {f : FuncId} (hf : f ∈ L) : ∃ fn c, P.funcs[f]? = some fn ∧ fn.body = some c ∧ codeOk P L c = true := by
  unfold listOk at h
  rw [List.all_eq_true] at h
  have := h f hf
  simp only [Bool.and_eq_true] at this
  have := this.2
  split at this
  · rename_i fn hfn
    split at this
    · rename_i c hc
      exact ⟨fn, c, hfn, hc, this⟩
    · cases this
  · cases this
theorem tame_callFunc {f : FuncId} {args : Array Value} (h : bodied C.P C.L f = true) : Tame C (NextV C) (callFunc f args) := by
  unfold bodied at h
  simp only [Bool.and_eq_true] at h
  obtain ⟨h1, h2⟩ := h
  refine tame_bind tame_program fun p hp => ?_
  subst hp
  cases hf : C.P.funcs[f]? with
  | none => exact tame_stuck
  | some fn =>
    rw [hf] at h2
    simp only [Bool.and_eq_true, bne_iff_ne, ne_eq] at h2
    dsimp only
    rw [if_neg (by simpa using h2.2), if_neg (by cases hb : fn.body <;> simp_all)]
    refine tame_pure ?_
    show f ∈ C.L
    simpa using h1
theorem tame_getLoop {l : Nat} : Tame C (fun r => codeOk C.P C.L r.assign = true ∧ codeOk C.P C.L r.body = true ∧ (∀ c, r.pending = some c → codeOk C.P C.L c = true) ∧ C.n0 ≤ l) (Instr.getLoop l) := by
  refine .getObj (fun o ho hr => ?_) (fun es n => .stuck _) fun o ho => by cases o <;> first | exact ho.elim | exact .stuck _
  cases o with
  | loop r => exact tame_pure ⟨ho.1, ho.2.1, ho.2.2, hr⟩
  | _ => exact tame_stuck
theorem tame_yield {l : Nat} {args : Array Value} : Tame C (NextV C) (Instr.yield l args) := by
  refine tame_bind tame_getLoop fun r hr => ?_
  refine tame_ite ?_ ?_
  · exact tame_bind (R := fun _ => False) tame_stuck fun _ h => h.elim
  · exact tame_pure ⟨hr.1, hr.2.1⟩
theorem lifts_callMethod {recv : Value} {name : String} {args : Array Value} {w0 : World} {e0 : Array Event} (hL : listOk C.P C.L = true)
    (h : ∀ u v f r w', recv = .iface u v → (method (C.P.types.size + Made.depth) u v name).run C.P w0 = .ok (f, r) w' → f ∈ C.L) :
    Lifts C (NextV C) (callMethod recv name args) w0 e0 := by
  unfold callMethod
  cases recv with
  | iface t v =>
    dsimp only
    refine lifts_bind (tame_program.lifts w0 e0) fun p w1 e1 h1 hp => ?_
    subst hp
    cases h1
    refine lifts_bind (tame_method.lifts w0 _) fun r w2 e2 h2 _ => ?_
    obtain ⟨f, r⟩ := r
    have hf := h t v f r w2 rfl (by rw [← Sem.runT_fst, h2])
    exact (tame_callFunc (listOk_bodied hL hf)).lifts _ _
  | nilIface => exact (tame_runtimePanic).lifts _ _
  | _ => exact (tame_stuck).lifts _ _
/-- What a target may be. -/
def TargetOk (C : Cls) : Target → Prop
  | .builtin b ts _ _ => callOk C.P C.L { callee := .builtin b, args := #[], argTypes := ts } = true
  | .collected _ | .coroexit _ => False
  | _ => True
theorem lifts_invoke {t : Target} {args : Array Value} {w0 : World} {e0 : Array Event} (hL : listOk C.P C.L = true) (ht : TargetOk C t)
    (h : ∀ f, t.leads C.P w0 args = some f → f ∈ C.L) : Lifts C (NextV C) (invoke t args) w0 e0 := by
  unfold invoke
  cases t with
  | nil => exact (tame_runtimePanic).lifts _ _
  | builtin b ts ty cs =>
    refine Tame.lifts ?_ _ _
    unfold TargetOk callOk at ht
    cases b <;> first | (cases ht; done) | skip
    · exact tame_value tame_append
    · exact tame_value (tame_len ht)
    · exact tame_value tame_max
    · exact tame_value tame_min
  | collected r => exact ht.elim
  | coroexit c => exact ht.elim
  | fn f cap =>
    cases f with
    | func f => exact (tame_callFunc (listOk_bodied hL (h f rfl))).lifts _ _
    | method name =>
      dsimp only
      cases ha : args[0]? with
      | none => exact tame_stuck.lifts _ _
      | some recv =>
        refine lifts_callMethod hL fun u v f r w' e1 e2 => h f ?_
        subst e1
        simp only [Target.leads, ha, e2]
    | methodOf u name =>
      dsimp only
      cases ha : args[0]? with
      | none => exact tame_stuck.lifts _ _
      | some recv =>
        refine lifts_bind (tame_underlying.lifts w0 e0) fun d w1 e1 h1 hd => ?_
        have hu : (underlying u).runT C.P w0 e0 = (.ok d w0, e0) := by
          show Sem.runT C.P (match C.P.underlying u with | some d => pure d | none => stuck "no such type") w0 e0 = _
          rw [hd]
          rfl
        rw [hu] at h1
        cases h1
        refine lifts_callMethod hL fun u' v f r w' e1 e2 => h f ?_
        simp only [Target.leads, ha, Option.map_some, hd]
        cases d <;> (dsimp only at e1 ⊢; first | (injection e1 with e3 e4; subst e3; subst e4; simp only [e2]) | (subst e1; simp only [e2]))
    | via u path f p =>
      dsimp only
      cases ha : args[0]? with
      | none => exact tame_stuck.lifts _ _
      | some recv =>
        refine Tame.lifts ?_ _ _
        refine tame_bind (R := Any) ?_ fun _ _ => tame_callFunc (listOk_bodied hL (h f rfl))
        exact tame_bind tame_follow fun _ _ => tame_receiverAt
    | yield l => exact tame_yield.lifts _ _
/-- The operation as a whole, calls and all. -/
theorem lifts_execOp {ρ : Operand → Value} (hρ : ∀ v, ρ (.const v) = v) {o : Oper} {w0 : World} {e0 : Array Event} (hL : listOk C.P C.L = true) (ho : opOk C.P C.L o = true)
    (h : ∀ f, o.about C.P w0 ρ = some f → f ∈ C.L) : Lifts C (NextV C) (execOp ρ o) w0 e0 := by
  by_cases hc : ∃ c, o.op = .call c
  · obtain ⟨c, hc⟩ := hc
    unfold execOp
    rw [hc]
    unfold opOk at ho
    rw [hc] at ho
    unfold Oper.about at h
    rw [hc] at h
    dsimp only at h ho ⊢
    unfold callOk at ho
    cases hcal : c.callee with
    | builtin b =>
      rw [hcal] at ho
      have hr : resolve ρ c o.type = pure { target := .builtin b c.argTypes o.type (c.args.map fun | .const _ => true | _ => false), args := c.args.map ρ } := by
        unfold resolve
        rw [hcal]
        rfl
      rw [hr, pure_bind]
      refine lifts_invoke hL ?_ ?_
      · unfold TargetOk callOk
        exact ho
      · intro f hf
        cases hf
    | invoke recv name =>
      rw [hcal] at ho
      have hr : resolve ρ c o.type = pure { target := .fn (.method name) #[], args := #[ρ recv] ++ c.args.map ρ } := by
        unfold resolve
        rw [hcal]
      rw [hr] at h
      rw [hr, pure_bind]
      exact lifts_invoke hL trivial h
    | value f =>
      rw [hcal] at ho
      have hr : resolve ρ c o.type = Deferred.ofValue (ρ f) (c.args.map ρ) := by
        unfold resolve
        rw [hcal]
      rw [hr] at h
      rw [hr]
      cases hv : ρ f with
      | func fn first cap =>
        rw [hv] at h
        show Lifts C (NextV C) (invoke (.fn fn cap) (first ++ c.args.map ρ)) w0 e0
        exact lifts_invoke hL trivial h
      | nilFunc =>
        show Lifts C (NextV C) (invoke .nil (c.args.map ρ)) w0 e0
        exact lifts_invoke hL trivial fun f hf => by cases hf
      | _ => exact (tame_stuck).lifts _ _
  · exact (tame_op hρ ho fun c hc' => hc ⟨c, hc'⟩).lifts _ _
end
end Go.Proofs.YthjofgmiabcifabGreatDoor.Lift
namespace Go.Proofs.YthjofgmiabcifabGreatDoor.Lift
open Go
def ItemOk (C : Cls) : Item → Prop
  | .code c => codeOk C.P C.L c = true
  | .inLoop c => codeOk C.P C.L c = true
  | .inScope c => codeOk C.P C.L c = true
  | .inRegion ops _ => ∀ o ∈ ops, opOk C.P C.L o = true
  | .call .. | .extern .. => False
  | _ => True
structure FrOk (C : Cls) (fr : Frame) : Prop where
  todo : ∀ it ∈ fr.todo, ItemOk C it
  defers : ∀ d ∈ fr.defers, ∃ r, d.target = .collected r
  kind : fr.kind = .normal
section
variable {C : Cls}
theorem FrOk.withTodo {fr : Frame} (h : FrOk C fr) {k : List Item} (hk : ∀ it ∈ k, ItemOk C it) : FrOk C { fr with todo := k } := ⟨hk, h.defers, h.kind⟩
theorem FrOk.withMode {fr : Frame} (h : FrOk C fr) (m : FrameMode) : FrOk C { fr with mode := m } := ⟨h.todo, h.defers, h.kind⟩
theorem FrOk.raise {fr : Frame} (h : FrOk C fr) (vs : List PanicEntry) : FrOk C (fr.raise vs) := by
  unfold Frame.raise
  split <;> exact ⟨h.todo, h.defers, h.kind⟩
theorem FrOk.finish {fr : Frame} (h : FrOk C fr) (v : Value) : FrOk C (fr.finish v) := by
  have ht := h.todo
  unfold Frame.finish
  split
  · rename_i hq
    rw [hq] at ht
    refine ⟨fun it hi => ?_, h.defers, h.kind⟩
    rcases List.mem_cons.1 hi with rfl | hi
    · have := ht _ (List.mem_cons_self ..)
      exact this
    · exact ht _ (List.mem_cons_of_mem _ hi)
  · rename_i hq
    rw [hq] at ht
    refine ⟨fun it hi => ?_, h.defers, h.kind⟩
    rcases List.mem_cons.1 hi with rfl | hi
    · trivial
    · exact ht _ (List.mem_cons_of_mem _ hi)
  · rename_i hq
    rw [hq] at ht
    exact ⟨fun it hi => ht _ (List.mem_cons_of_mem _ hi), h.defers, h.kind⟩
  · rename_i hq
    rw [hq] at ht
    exact (ht _ (List.mem_cons_self ..)).elim
  · rename_i hq
    rw [hq] at ht
    exact (ht _ (List.mem_cons_self ..)).elim
  · exact h
theorem frOk_enter (hL : listOk C.P C.L = true) {f : FuncId} {args : Array Value} (hf : f ∈ C.L) : FrOk C (Frame.enter C.P f args .normal) := by
  obtain ⟨fn, c, h1, h2, h3⟩ := listOk_code hL hf
  refine ⟨fun it hi => ?_, fun d hd => by simp [Frame.enter] at hd, rfl⟩
  simp only [Frame.enter, h1, Option.bind_some, h2, Option.getD_some, List.mem_singleton] at hi
  subst hi
  exact h3
theorem frOk_round {l : Nat} {f : FuncId} {tmps : Array Value} {a b : Code} (ha : codeOk C.P C.L a = true) (hb : codeOk C.P C.L b = true) : FrOk C (Frame.round l f tmps a b .normal) := by
  refine ⟨fun it hi => ?_, fun d hd => by simp [Frame.round] at hd, rfl⟩
  simp only [Frame.round, List.mem_cons, List.mem_nil_iff, or_false] at hi
  rcases hi with rfl | rfl | rfl
  · exact ha
  · trivial
  · exact hb
/-- The lowest frame is no round of a loop; its function is of the list. -/
def Bot (C : Cls) (l : List Frame) : Prop := ∀ x, l.getLast? = some x → x.roundOf = none ∧ x.fn ∈ C.L
theorem bot_push {a b : Frame} {l : List Frame} (h : Bot C (b :: l)) : Bot C (a :: b :: l) := fun x hx => h x (by rw [List.getLast?_cons_cons] at hx; exact hx)
theorem bot_pop {a b : Frame} {l : List Frame} (h : Bot C (a :: b :: l)) : Bot C (b :: l) := fun x hx => h x (by rw [List.getLast?_cons_cons]; exact hx)
theorem bot_same {a b : Frame} {l : List Frame} (e : a.roundOf = b.roundOf ∧ a.fn = b.fn) (h : Bot C (b :: l)) : Bot C (a :: l) := by
  intro x hx
  cases l with
  | nil =>
    simp only [List.getLast?_singleton, Option.some.injEq] at hx
    subst hx
    rw [e.1, e.2]
    exact h b rfl
  | cons c l => exact h x (by rw [List.getLast?_cons_cons] at hx ⊢; exact hx)
theorem bot_eq {a b : Frame} {l : List Frame} (h : Bot C (b :: l)) (e : a.roundOf = b.roundOf ∧ a.fn = b.fn) : Bot C (a :: l) := bot_same e h
theorem ro_finish (fr : Frame) (v : Value) : (fr.finish v).roundOf = fr.roundOf ∧ (fr.finish v).fn = fr.fn := by
  unfold Frame.finish
  split <;> exact ⟨rfl, rfl⟩
theorem ro_raise (fr : Frame) (vs : List PanicEntry) : (fr.raise vs).roundOf = fr.roundOf ∧ (fr.raise vs).fn = fr.fn := by
  unfold Frame.raise
  split <;> exact ⟨rfl, rfl⟩
/-- The step goes on, or the run ends. -/
def GoOrEnd (s : GStep) : Prop := (∃ g w es, s = .go g w es) ∨ ∃ o w es, s = .ended o w es
theorem GoOrEnd.after {s : GStep} (h : GoOrEnd s) (es : Array Event) : GoOrEnd (s.after es) := by
  rcases h with ⟨g, w, e, rfl⟩ | ⟨o, w, e, rfl⟩
  · exact .inl ⟨_, _, _, rfl⟩
  · exact .inr ⟨_, _, _, rfl⟩
/-- The lone step s0 out of w0 is answered by the true step s out of w, above the frames 'base'. -/
def Goes (C : Cls) (base : List Frame) (w0 w : World) (s0 s : GStep) : Prop :=
  GoOrEnd s0 ∧ ∀ g0 w0' es0, s0 = .go g0 w0' es0 → Al w0'.drawn w0 w →
    g0.status = .running ∧ g0.dying = none ∧ g0.offers = none ∧ ((∀ x ∈ g0.frame :: g0.callers, FrOk C x) ∧ Bot C (g0.frame :: g0.callers)) ∧ w0.drawn ≤ w0'.drawn ∧ w0'.tape = w0.tape ∧
    ∃ w' es, s = .go { g0 with callers := g0.callers ++ base } w' es ∧ (∀ e ∈ es, EvOk C e) ∧ Sim C w0' w' ∧ w'.drawn + w0.drawn = w0'.drawn + w.drawn ∧ Kept C w w'
theorem goes_ended {base : List Frame} {w0 w : World} {o : Outcome} {w1 : World} {es : Array Event} {s : GStep} : Goes C base w0 w (.ended o w1 es) s := by
  refine ⟨.inr ⟨_, _, _, rfl⟩, ?_⟩
  intro g0 w0' es0 h
  cases h
theorem goes_go {base : List Frame} {w0 w : World} {fr : Frame} {up : List Frame} (sim : Sim C w0 w) (hb : Bot C (fr :: up)) (h : ∀ x ∈ fr :: up, FrOk C x) :
    Goes C base w0 w (.go { frame := fr, callers := up, status := .running, dying := none } w0) (.go { frame := fr, callers := up ++ base, status := .running, dying := none } w) := by
  refine ⟨.inl ⟨_, _, _, rfl⟩, ?_⟩
  intro g0 w0' es0 e al
  cases e
  exact ⟨rfl, rfl, rfl, ⟨h, hb⟩, Nat.le_refl _, rfl, w, #[], rfl, by simp, sim, Nat.add_comm _ _, .refl w⟩
def seenOne (P : Program) (r : Bool × Array Event) (e : Event) : Bool × Array Event :=
  match e.loc with
  | .mark (.extern f) => (((P.funcs[f]?).any (·.norace)), r.2)
  | _ => (r.1, if r.1 && !e.sync then r.2 else r.2.push e)
theorem mem_seen {P : Program} {fn : FuncId} {es : Array Event} {e : Event} (h : e ∈ seen P fn es) : e ∈ es := by
  have one : ∀ (r : Bool × Array Event) (a : Event), a ∈ es → (∀ x ∈ r.2, x ∈ es) → ∀ x ∈ (seenOne P r a).2, x ∈ es := by
    intro r a ha hr x hx
    unfold seenOne at hx
    split at hx
    · exact hr x hx
    · dsimp only at hx
      split at hx
      · exact hr x hx
      · rcases Array.mem_push.1 hx with hx | rfl
        · exact hr x hx
        · exact ha
  have key : ∀ (l : List Event) (r : Bool × Array Event), (∀ x ∈ r.2, x ∈ es) → (∀ x ∈ l, x ∈ es) → ∀ x ∈ (l.foldl (seenOne P) r).2, x ∈ es := by
    intro l
    induction l with
    | nil => exact fun r h1 _ => h1
    | cons a l ih =>
      intro r h1 h2
      rw [List.foldl_cons]
      exact ih _ (one r a (h2 _ (List.mem_cons_self ..)) h1) fun x hx => h2 x (List.mem_cons_of_mem _ hx)
  have he : seen P fn es = (es.foldl (seenOne P) ((P.funcs[fn]?).any (·.norace), #[])).2 := rfl
  rw [he, ← Array.foldl_toList] at h
  exact key es.toList _ (by simp) (by simp) e h
end
end Go.Proofs.YthjofgmiabcifabGreatDoor.Lift
namespace Go.Proofs.YthjofgmiabcifabGreatDoor.Lift
open Go
section
variable {C : Cls}
theorem goes_after {base : List Frame} {w0 w w1 w2 : World} {s0 s : GStep} {es0 es : Array Event} (hes : ∀ e ∈ es, EvOk C e)
    (hd : w2.drawn + w0.drawn = w1.drawn + w.drawn) (hle : w0.drawn ≤ w1.drawn) (ht : w1.tape = w0.tape) (hk : Kept C w w2) (h : Goes C base w1 w2 s0 s) : Goes C base w0 w (s0.after es0) (s.after es) := by
  refine ⟨h.1.after _, ?_⟩
  intro g0 w0' e0 he al
  cases s0 <;> simp only [GStep.after] at he <;> cases he
  have al1 : Al w0'.drawn w1 w2 := by
    intro i q hi
    rw [ht, hk.tape]
    have := al (w1.drawn - w0.drawn + i) q (by omega)
    rw [show w0.drawn + (w1.drawn - w0.drawn + i) = w1.drawn + i from by omega, show w.drawn + (w1.drawn - w0.drawn + i) = w2.drawn + i from by omega] at this
    exact this
  obtain ⟨a1, a2, a3, a4, a5, a6, w', new, b1, b2, b3, b4, b5⟩ := h.2 _ _ _ rfl al1
  refine ⟨a1, a2, a3, a4, by omega, a6.trans ht, w', es ++ new, by rw [b1]; rfl, fun e he => ?_, b3, by omega, hk.trans b5⟩
  rcases Array.mem_append.1 he with he | he
  · exact hes e he
  · exact b2 e he
/-- What a step makes of a result and the accesses behind it. -/
def Made (C : Cls) (base : List Frame) (w1 w2 : World) (e2 : Array Event) (s0 s : GStep) : Prop :=
  ∃ d0 t0 d t, s0 = GStep.after d0 t0 ∧ s = GStep.after d t ∧ (∀ e ∈ d, e ∈ e2) ∧ Goes C base w1 w2 t0 t
theorem goes_run {α : Type} {Q : α → Prop} {base : List Frame} {s : Sem α} {w0 w : World} (hs : Lifts C Q s w0 #[]) (sim : Sim C w0 w) {p0 p : Result α × Array Event}
    (hp0 : s.runT C.P w0 #[] = p0) (hp : s.runT C.P w #[] = p) (F0 F : Result α × Array Event → GStep)
    (hok : ∀ a w1 w2 e1 e2, p0 = (.ok a w1, e1) → Q a → Sim C w1 w2 → Made C base w1 w2 e2 (F0 (.ok a w1, e1)) (F (.ok a w2, e2)))
    (hpanic : ∀ v w1 w2 e1 e2, Sim C w1 w2 → Made C base w1 w2 e2 (F0 (.halt (.panic v) w1, e1)) (F (.halt (.panic v) w2, e2)))
    (hdead : ∀ h w1 e1, ((∃ u, (∀ g, u ≠ .initOrder g) ∧ h = .unsupported u) ∨ ∃ u, h = .stuck u) → ∃ o w2 es, F0 (.halt h w1, e1) = .ended o w2 es) :
    Goes C base w0 w (F0 p0) (F p) := by
  obtain ⟨⟨h1, h2⟩, h3⟩ := hs w sim
  have h4 := h3 #[]
  have simT : Sim C w0 { w with tape := w0.tape, drawn := w0.drawn } := ⟨sim.size, sim.le, sim.poison, sim.frozen, sim.own, sim.new⟩
  have hT := (hs _ simT).2 #[] (fun i q _ => rfl)
  rw [hp0] at h1 h2 h4 hT
  obtain ⟨r, e1⟩ := p0
  refine ⟨?_, ?_⟩
  · cases r with
    | ok a w1 =>
      obtain ⟨qa, w2, new, a1, a2, a3, a4, a5⟩ := hT
      obtain ⟨d0, t0, d, t, b1, b2, b3, b4⟩ := hok a w1 _ e1 #[] rfl qa a3
      rw [b1]
      exact b4.1.after _
    | halt q w1 =>
      cases q with
      | panic v =>
        obtain ⟨w2, new, a1, a2, a3, a4, a5⟩ := hT
        obtain ⟨d0, t0, d, t, b1, b2, b3, b4⟩ := hpanic v w1 _ e1 #[] a3
        rw [b1]
        exact b4.1.after _
      | unsupported u => exact .inr (hdead _ _ _ (.inl ⟨u, hT, rfl⟩))
      | stuck u => exact .inr (hdead _ _ _ (.inr ⟨u, rfl⟩))
      | _ => exact hT.elim
  intro g0 w0' es0 he al
  cases r with
  | ok a w1 =>
    have hdr : w1.drawn ≤ w0'.drawn := by
      obtain ⟨qa, w2, new, a1, a2, a3, a4, a5⟩ := hT
      have simX : Sim C w1 { w2 with tape := w1.tape, drawn := w1.drawn } := ⟨a3.size, a3.le, a3.poison, a3.frozen, a3.own, a3.new⟩
      obtain ⟨d0, t0, d, t, b1, b2, b3, b4⟩ := hok a w1 _ e1 #[] rfl qa simX
      rw [b1] at he
      cases t0 <;> simp only [GStep.after] at he <;> cases he
      exact (b4.2 _ _ _ rfl (fun i q _ => rfl)).2.2.2.2.1
    have al0 : Al (endDrawn (Result.ok a w1, e1)) w0 w := fun i q hi => al i q (Nat.lt_of_lt_of_le hi hdr)
    obtain ⟨qa, w2, new, a1, a2, a3, a4, a5⟩ := h4 al0
    rw [hp] at a1
    subst a1
    obtain ⟨d0, t0, d, t, b1, b2, b3, b4⟩ := hok a w1 w2 e1 (#[] ++ new) rfl qa a3
    rw [b2]
    rw [b1] at he
    exact (goes_after (fun e he => a2 e (by simpa using b3 e he)) a4 h1 h2 a5 b4).2 g0 w0' es0 he al
  | halt q w1 =>
    cases q with
    | panic v =>
      have hdr : w1.drawn ≤ w0'.drawn := by
        obtain ⟨w2, new, a1, a2, a3, a4, a5⟩ := hT
        have simX : Sim C w1 { w2 with tape := w1.tape, drawn := w1.drawn } := ⟨a3.size, a3.le, a3.poison, a3.frozen, a3.own, a3.new⟩
        obtain ⟨d0, t0, d, t, b1, b2, b3, b4⟩ := hpanic v w1 _ e1 #[] simX
        rw [b1] at he
        cases t0 <;> simp only [GStep.after] at he <;> cases he
        exact (b4.2 _ _ _ rfl (fun i q _ => rfl)).2.2.2.2.1
      have al0 : Al (endDrawn (Result.halt (α := α) (.panic v) w1, e1)) w0 w := fun i q hi => al i q (Nat.lt_of_lt_of_le hi hdr)
      obtain ⟨w2, new, a1, a2, a3, a4, a5⟩ := h4 al0
      rw [hp] at a1
      subst a1
      obtain ⟨d0, t0, d, t, b1, b2, b3, b4⟩ := hpanic v w1 w2 e1 (#[] ++ new) a3
      rw [b2]
      rw [b1] at he
      exact (goes_after (fun e he => a2 e (by simpa using b3 e he)) a4 h1 h2 a5 b4).2 g0 w0' es0 he al
    | unsupported u =>
      obtain ⟨o, w2, es, hh⟩ := hdead _ _ e1 (.inl ⟨u, hT, rfl⟩)
      rw [hh] at he
      cases he
    | stuck u =>
      obtain ⟨o, w2, es, hh⟩ := hdead _ _ e1 (.inr ⟨u, rfl⟩)
      rw [hh] at he
      cases he
    | _ => exact hT.elim
/-- An entry's answer. -/
theorem apply_goes (hL : listOk C.P C.L = true) {fr : Frame} {up base : List Frame} {w0 w : World} {s : Sem Next} (hok : ∀ x ∈ fr :: up, FrOk C x) (hbot : Bot C (fr :: up)) (hs : Lifts C (NextV C) s w0 #[]) (sim : Sim C w0 w) :
    Goes C base w0 w (stepG.apply C.P true fr up none s w0) (stepG.apply C.P true fr (up ++ base) none s w) := by
  have hf := hok fr (List.mem_cons_self ..)
  have hu : ∀ x ∈ up, FrOk C x := fun x hx => hok x (List.mem_cons_of_mem _ hx)
  have hk : ∀ {d : Deferred} {b : Bool} {r : String} {sv : Array Value} {k : List Item}, fr.todo = .call d b r sv :: k → False := by
    intro d b r sv k hq
    have ht := hf.todo
    rw [hq] at ht
    exact (ht _ (List.mem_cons_self ..)).elim
  unfold stepG.apply
  simp only [if_true]
  generalize hp0 : s.runT C.P w0 #[] = p0
  generalize hp : s.runT C.P w #[] = p
  apply goes_run hs sim hp0 hp
  · intro a w1 w2 e1 e2 _ ha hsim
    refine ⟨_, _, _, _, rfl, rfl, ?_, ?_⟩
    · intro e he
      have := mem_seen he
      rw [hf.kind] at this
      exact this
    · cases a with
      | value v =>
        refine goes_go hsim (bot_same (ro_finish _ _) hbot) fun x hx => ?_
        rcases List.mem_cons.1 hx with rfl | hx
        · exact hf.finish _
        · exact hu x hx
      | skip =>
        refine goes_go hsim (bot_same (ro_finish _ _) hbot) fun x hx => ?_
        rcases List.mem_cons.1 hx with rfl | hx
        · exact hf.finish _
        · exact hu x hx
      | enter f args =>
        dsimp only
        split
        · rename_i hq
          exact (hk hq).elim
        · refine goes_go (up := fr :: up) hsim (bot_push hbot) fun x hx => ?_
          rcases List.mem_cons.1 hx with rfl | hx
          · exact frOk_enter hL ha
          · exact hok x hx
      | round l f tmps x y =>
        refine goes_go (up := fr :: up) hsim (bot_push hbot) fun z hx => ?_
        rcases List.mem_cons.1 hx with rfl | hx
        · exact frOk_round ha.1 ha.2
        · exact hok z hx
      | _ => exact ha.elim
  · intro v w1 w2 e1 e2 hsim
    refine ⟨_, _, _, _, rfl, rfl, ?_, ?_⟩
    · intro e he
      have := mem_seen he
      rw [hf.kind] at this
      exact this
    · refine goes_go hsim (bot_same (ro_raise _ _) hbot) fun x hx => ?_
      rcases List.mem_cons.1 hx with rfl | hx
      · exact hf.raise _
      · exact hu x hx
  · rintro h w1 e1 (⟨u, hu, rfl⟩ | ⟨u, rfl⟩)
    · cases u <;> first | exact absurd rfl (hu _) | exact ⟨_, _, _, rfl⟩
    · exact ⟨_, _, _, rfl⟩
end
end Go.Proofs.YthjofgmiabcifabGreatDoor.Lift
