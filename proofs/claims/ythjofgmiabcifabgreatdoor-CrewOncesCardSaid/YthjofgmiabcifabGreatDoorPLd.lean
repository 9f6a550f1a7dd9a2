/-
  A lone run that ends goes so in company.
  Conditions: as each theorem says.
-/
import Derived.Test.YthjofgmiabcifabGreatDoorPLc
import Derived.CallsIn
set_option linter.unusedVariables false
set_option linter.unusedSimpArgs false
namespace Go.Proofs.YthjofgmiabcifabGreatDoor.Lift
open Go
section
variable {C : Cls}
theorem goes_made {base : List Frame} {w1 w2 : World} {e2 : Array Event} {d0 d : Array Event} {s0 s : GStep} (hd : ∀ e ∈ d, e ∈ e2) (h : Goes C base w1 w2 s0 s) : Made C base w1 w2 e2 (GStep.after d0 s0) (GStep.after d s) := ⟨_, _, _, _, rfl, rfl, hd, h⟩
theorem after_nil (s : GStep) : GStep.after #[] s = s := by
  cases s <;> simp [GStep.after]
theorem goes_made0 {base : List Frame} {w1 w2 : World} {e2 : Array Event} {s0 s : GStep} (h : Goes C base w1 w2 s0 s) : Made C base w1 w2 e2 s0 s := ⟨#[], _, #[], _, (after_nil _).symm, (after_nil _).symm, by simp, h⟩
/-- A function value is called. -/
theorem lifts_valueCall (hL : listOk C.P C.L = true) {v : Value} {args : Array Value} {w0 : World} {e0 : Array Event}
    (h : ∀ d w', (Deferred.ofValue v args).run C.P w0 = .ok d w' → ∀ g, d.target.leads C.P w' d.args = some g → g ∈ C.L) :
    Lifts C (NextV C) (do let d ← Deferred.ofValue v args; invoke d.target d.args) w0 e0 := by
  cases v with
  | func fn first cap => exact lifts_invoke hL (t := .fn fn cap) (args := first ++ args) trivial fun f hf => h _ _ rfl f hf
  | nilFunc => exact lifts_invoke hL (t := .nil) (args := args) trivial fun f hf => by cases hf
  | _ => exact (tame_stuck).lifts _ _
theorem after_ended {d : Array Event} {o : Outcome} {w : World} : ∃ o' w2 es, GStep.after d (.ended o w) = .ended o' w2 es := ⟨_, _, _, rfl⟩
/-- A return to a frame of one's own. -/
theorem doReturn_goes {fr : Frame} {up base : List Frame} {w0 w : World} {v : Value} {m0 m : Bool} (hok : ∀ x ∈ fr :: up, FrOk C x) (hbot : Bot C (fr :: up)) (hne : up ≠ []) (sim : Sim C w0 w) :
    Goes C base w0 w (doReturn C.P m0 fr up none v w0) (doReturn C.P m fr (up ++ base) none v w) := by
  cases up with
  | nil => exact absurd rfl hne
  | cons c rest =>
    have hk := (hok fr (List.mem_cons_self ..)).kind
    unfold doReturn
    simp only [List.cons_append, hk]
    refine goes_go sim (bot_same (ro_finish _ _) (bot_pop hbot)) fun x hx => ?_
    rcases List.mem_cons.1 hx with rfl | hx
    · exact (hok c (by simp)).finish _
    · exact hok x (by simp [hx])
theorem tame_endRound {l : Nat} {j : Option Code} (hj : ∀ c, j = some c → codeOk C.P C.L c = true) : Tame C Any (Instr.endRound l j) := by
  refine tame_bind tame_getLoop fun r hr => ?_
  exact .setObj hr.2.2.2 ⟨hr.1, hr.2.1, hj⟩ (.pure trivial)
theorem tame_beginRound {l : Nat} : Tame C Any (Instr.beginRound l) := by
  refine tame_bind tame_getLoop fun r hr => ?_
  refine .setObj hr.2.2.2 ⟨hr.1, hr.2.1, hr.2.2.1⟩ ?_
  show Tame C Any (match r.state with | .ready => _ | .done => _ | .busy => _ | .exhausted => _)
  cases r.state <;> first | exact tame_pureA | exact tame_runtimePanic
theorem tame_endLoop {l : Nat} : Tame C (fun j => ∀ c, j = some c → codeOk C.P C.L c = true) (Instr.endLoop l) := by
  refine tame_bind tame_getLoop fun r hr => ?_
  have tail : Tame C (fun j : Option Code => ∀ c, j = some c → codeOk C.P C.L c = true) (do setObj l (.loop { r with state := .exhausted }); pure r.pending) :=
    .setObj hr.2.2.2 ⟨hr.1, hr.2.1, hr.2.2.1⟩ (.pure hr.2.2.1)
  refine tame_ite ?_ tail
  exact tame_bind (R := fun _ => False) tame_runtimePanic fun _ h => h.elim
theorem tame_takeDeferred {b : Nat} : Tame C (fun ds => ds = []) (Instr.takeDeferred b) := by
  refine .getObj (fun o ho hr => ?_) (fun es n => .stuck _) fun o ho => by cases o <;> first | exact ho.elim | exact .stuck _
  cases o with
  | deferred ds =>
    cases ds with
    | none => exact tame_stuck
    | some ds =>
      have : ds = [] := ho
      subst this
      exact .setObj hr trivial (.pure rfl)
  | _ => exact tame_stuck
theorem tame_enterLoop {f : FuncId} {tmps : Array Value} {ps : Array Tmp} {a b : Code} {ar : Option Nat} (ha : codeOk C.P C.L a = true) (hb : codeOk C.P C.L b = true) :
    Tame C (fun r => ∀ d ∈ r.2, ∃ n, d.target = .collected n) (Instr.enterLoop f tmps ps a b ar) := by
  unfold Instr.enterLoop
  have tail : ∀ (n : Nat) (mark : List Deferred), (∀ d ∈ mark, ∃ n, d.target = Target.collected n) → Tame C (fun r : Nat × List Deferred => ∀ d ∈ r.2, ∃ n, d.target = .collected n)
      (do pure (← newObj (.loop { state := .ready, pending := none, fn := f, tmps := tmps, params := ps, assign := a, body := b, defers := n }), mark)) :=
    fun n mark hm => .new ⟨ha, hb, fun c hc => by cases hc⟩ fun r => .pure hm
  cases ar with
  | some l => exact tame_bind tame_getLoop fun r _ => tail _ _ (by simp)
  | none =>
    refine .new rfl fun r => ?_
    exact tail _ _ (by simp)
theorem tame_results {fn : Func} {tmps : Array Value} : Tame C Any (results fn tmps) := by
  unfold results
  refine tame_bind (tame_array_mapM (fun r => ?_) _) fun _ _ => tame_pureA
  cases r with
  | tmp t => exact tame_pureA
  | cell a t => exact tame_bind tame_asAddr fun _ _ => tame_loadVar
theorem exitTo_sub {id : Nat} : ∀ {k k' : List Item}, exitTo id k = some k' → ∀ it ∈ k', it ∈ k
  | [], k', h => by cases h
  | it :: k, k', h => by
    intro x hx
    unfold exitTo at h
    split at h
    · rename_i heq
      split at h
      · cases h
        injection heq with h1 h2
        subst h2
        exact List.mem_cons_of_mem _ hx
      · injection heq with h1 h2
        subst h2
        exact List.mem_cons_of_mem _ (exitTo_sub h x hx)
    · rename_i heq
      injection heq with h1 h2
      subst h2
      exact List.mem_cons_of_mem _ (exitTo_sub h x hx)
    · rename_i heq
      cases heq
/-- The step of a running frame. -/
theorem exec_goes (hL : listOk C.P C.L = true) {fr : Frame} {up base : List Frame} {w0 w : World} {m0 m : Bool} (hok : ∀ x ∈ fr :: up, FrOk C x) (hbot : Bot C (fr :: up))
    (hmode : fr.mode = .run) (hab : ∀ f, fr.about C.P w0 = some f → f ∈ C.L) (sim : Sim C w0 w) :
    Goes C base w0 w (stepG.exec C.P m0 true fr up none w0) (stepG.exec C.P m true fr (up ++ base) none w) := by
  have hf := hok fr (List.mem_cons_self ..)
  have hu : ∀ x ∈ up, FrOk C x := fun x hx => hok x (List.mem_cons_of_mem _ hx)
  have hb : up = [] → fr.roundOf = none := fun e => (hbot fr (by rw [e]; rfl)).1
  have ht := hf.todo
  unfold Frame.about at hab
  rw [hmode] at hab
  dsimp only at hab
  have to : ∀ k, (∀ it ∈ k, ItemOk C it) → Goes C base w0 w (.go { frame := { fr with todo := k }, callers := up, status := .running, dying := none } w0) (.go { frame := { fr with todo := k }, callers := up ++ base, status := .running, dying := none } w) := by
    intro k hk
    refine goes_go sim (bot_eq hbot ⟨rfl, rfl⟩) fun x hx => ?_
    rcases List.mem_cons.1 hx with rfl | hx
    · exact hf.withTodo hk
    · exact hu x hx
  have two : ∀ {it k}, ItemOk C it → (∀ x ∈ k, ItemOk C x) → ∀ x ∈ it :: k, ItemOk C x := fun hc hk x hx => by
    rcases List.mem_cons.1 hx with rfl | hx
    · exact hc
    · exact hk x hx
  obtain ⟨fn, tmps, todo, defers, mode, kind, ro⟩ := fr
  unfold stepG.exec
  cases todo with
  | nil =>
    dsimp only
    cases ro with
    | none =>
      refine goes_go sim (bot_eq hbot ⟨rfl, rfl⟩) fun x hx => ?_
      rcases List.mem_cons.1 hx with rfl | hx
      · exact hf.withMode _
      · exact hu x hx
    | some l =>
      have hne : up ≠ [] := fun e => by cases hb e
      dsimp only
      generalize hp0 : (Instr.endRound l none).runT C.P w0 #[] = p0
      generalize hp : (Instr.endRound l none).runT C.P w #[] = p
      apply goes_run ((tame_endRound (fun c h => by cases h)).lifts _ _) sim hp0 hp
      · intro a w1 w2 e1 e2 _ _ hs
        exact goes_made (fun e he => mem_seen he) (doReturn_goes hok hbot hne hs)
      · intro v w1 w2 e1 e2 hs
        exact goes_made (fun e he => mem_seen he) goes_ended
      · rintro h w1 e1 (⟨u, _, rfl⟩ | ⟨u, rfl⟩)
        · exact after_ended
        · exact after_ended
  | cons it k =>
    have tl : ∀ x ∈ k, ItemOk C x := fun x hx => ht x (List.mem_cons_of_mem _ hx)
    have hd : ItemOk C it := ht _ (List.mem_cons_self ..)
    cases it with
    | code c =>
      cases c with
      | ret =>
        dsimp only
        cases ro with
        | none =>
          refine goes_go sim (bot_eq hbot ⟨rfl, rfl⟩) fun x hx => ?_
          rcases List.mem_cons.1 hx with rfl | hx
          · exact hf.withMode _
          · exact hu x hx
        | some l =>
          have hne : up ≠ [] := fun e => by cases hb e
          dsimp only
          generalize hp0 : (Instr.endRound l (some .ret)).runT C.P w0 #[] = p0
          generalize hp : (Instr.endRound l (some .ret)).runT C.P w #[] = p
          apply goes_run ((tame_endRound (fun c h => by cases h; rfl)).lifts _ _) sim hp0 hp
          · intro a w1 w2 e1 e2 _ _ hs
            exact goes_made (fun e he => mem_seen he) (doReturn_goes hok hbot hne hs)
          · intro v w1 w2 e1 e2 hs
            exact goes_made (fun e he => mem_seen he) goes_ended
          · rintro h w1 e1 (⟨u, _, rfl⟩ | ⟨u, rfl⟩)
            · exact after_ended
            · exact after_ended
      | skip => exact to _ tl
      | label l => exact to _ tl
      | seq a b =>
        simp only [ItemOk, codeOk, Bool.and_eq_true] at hd
        exact to _ (two hd.1 (two hd.2 tl))
      | cond c a b =>
        simp only [ItemOk, codeOk, Bool.and_eq_true] at hd
        dsimp only
        split
        · rename_i b _
          refine to _ (two ?_ tl)
          cases b
          · exact hd.2
          · exact hd.1
        · exact goes_ended
      | block id b => exact to _ (two hd (two trivial tl))
      | loop b => exact to _ (two hd (two hd tl))
      | scope b => exact to _ (two hd (two hd tl))
      | exit id =>
        dsimp only
        cases he : exitTo id k with
        | some k' => exact to _ fun x hx => tl x (exitTo_sub he x hx)
        | none =>
          simp only [Option.elim_none]
          cases ro with
          | none =>
            exact goes_ended
          | some l =>
            have hne : up ≠ [] := fun e => by cases hb e
            dsimp only
            generalize hp0 : (Instr.endRound l (some (.exit id))).runT C.P w0 #[] = p0
            generalize hp : (Instr.endRound l (some (.exit id))).runT C.P w #[] = p
            apply goes_run ((tame_endRound (fun c h => by cases h; rfl)).lifts _ _) sim hp0 hp
            · intro a w1 w2 e1 e2 _ _ hs
              exact goes_made (fun e he => mem_seen he) (doReturn_goes hok hbot hne hs)
            · intro v w1 w2 e1 e2 hs
              exact goes_made (fun e he => mem_seen he) goes_ended
            · rintro h w1 e1 (⟨u, _, rfl⟩ | ⟨u, rfl⟩)
              · exact after_ended
              · exact after_ended
      | goto l => cases hd
      | rangeFunc f params assign body =>
        simp only [ItemOk, codeOk, Bool.and_eq_true] at hd
        dsimp only at hab ⊢
        generalize hp0 : (Instr.enterLoop fn tmps params assign body ro).runT C.P w0 #[] = p0
        generalize hp : (Instr.enterLoop fn tmps params assign body ro).runT C.P w #[] = p
        have hrun : (Instr.enterLoop fn tmps params assign body ro).run C.P w0 = p0.1 := by rw [← Sem.runT_fst C.P _ w0 #[], hp0]
        rw [hrun] at hab
        apply goes_run ((tame_enterLoop hd.1.2 hd.2).lifts _ _) sim hp0 hp
        · rintro ⟨l, mark⟩ w1 w2 e1 e2 rfl hm hs
          refine goes_made (fun e he => mem_seen he) ?_
          dsimp only at hab ⊢
          refine apply_goes hL (fun x hx => ?_) (bot_eq hbot ⟨rfl, rfl⟩) ?_ hs
          · rcases List.mem_cons.1 hx with rfl | hx
            · refine ⟨two (it := .inRangeFunc l) trivial tl, fun d hd => ?_, hf.kind⟩
              rcases List.mem_append.1 hd with hd | hd
              · exact hm d hd
              · exact hf.defers d hd
            · exact hu x hx
          · refine lifts_valueCall hL fun d w' hd g hg => hab g ?_
            have e : (resolve (Frame.eval ⟨fn, tmps, .code (.rangeFunc f params assign body) :: k, defers, mode, kind, ro⟩) { callee := .value f, args := #[.const (.func (.yield l) #[] #[])], argTypes := #[] } 0).run C.P w1 = .ok d w' := hd
            rw [e]
            exact hg
        · intro v w1 w2 e1 e2 hs
          exact goes_made (fun e he => mem_seen he) goes_ended
        · rintro h w1 e1 (⟨u, _, rfl⟩ | ⟨u, rfl⟩)
          · exact after_ended
          · exact after_ended
      | refuse why => exact goes_ended
      | region id ops draw =>
        have hops : ∀ o ∈ ops, opOk C.P C.L o = true := by simpa only [ItemOk, codeOk, Array.all_eq_true_iff_forall_mem] using hd
        dsimp only
        cases draw with
        | false => exact to _ (two (it := .inRegion ops _) hops tl)
        | true =>
          simp only [Bool.not_true, Bool.false_eq_true, if_false]
          rw [← Sem.runT_fst C.P _ w0 #[], ← Sem.runT_fst C.P _ w #[]]
          generalize hp0 : (choose (.order fn id)).runT C.P w0 #[] = p0
          generalize hp : (choose (.order fn id)).runT C.P w #[] = p
          apply goes_run ((tame_choose).lifts _ _) sim hp0 hp
          · intro t w1 w2 e1 e2 _ _ hs
            refine goes_made0 (goes_go hs (bot_eq hbot ⟨rfl, rfl⟩) fun x hx => ?_)
            rcases List.mem_cons.1 hx with rfl | hx
            · exact hf.withTodo (two (it := .inRegion ops _) hops tl)
            · exact hu x hx
          · intro v w1 w2 e1 e2 hs
            exact goes_made0 goes_ended
          · rintro h w1 e1 (⟨u, _, rfl⟩ | ⟨u, rfl⟩)
            · exact ⟨_, _, _, rfl⟩
            · exact ⟨_, _, _, rfl⟩
    | inBlock id => exact to _ tl
    | inLoop b => exact to _ (two hd (two hd tl))
    | inScope b => exact to _ tl
    | inRegion ops todo =>
      cases todo with
      | nil => exact to _ tl
      | cons i rest =>
        have hfin : ∀ v, Goes C base w0 w (.go { frame := Frame.finish ⟨fn, tmps, .inRegion ops (i :: rest) :: k, defers, mode, kind, ro⟩ v, callers := up, status := .running, dying := none } w0) (.go { frame := Frame.finish ⟨fn, tmps, .inRegion ops (i :: rest) :: k, defers, mode, kind, ro⟩ v, callers := up ++ base, status := .running, dying := none } w) := by
          intro v
          refine goes_go sim (bot_same (ro_finish _ _) hbot) fun x hx => ?_
          rcases List.mem_cons.1 hx with rfl | hx
          · exact hf.finish _
          · exact hu x hx
        dsimp only
        cases ho : ops[i]? with
        | none =>
          simp only [Option.map_none, Option.getD_none, Bool.false_eq_true, if_false]
          exact hfin _
        | some o =>
          have hop : opOk C.P C.L o = true := hd o (Array.mem_of_getElem? ho)
          simp only [Option.map_some, Option.getD_some]
          split
          · have hop? : Frame.oper? ⟨fn, tmps, .inRegion ops (i :: rest) :: k, defers, mode, kind, ro⟩ = some o := ho
            unfold stepG.oper
            rw [hop?]
            have hl : Lifts C (NextV C) (execOp (Frame.eval ⟨fn, tmps, .inRegion ops (i :: rest) :: k, defers, mode, kind, ro⟩) o) w0 #[] := by
              refine lifts_execOp (fun v => rfl) hL hop fun f hf' => hab f ?_
              dsimp only
              rw [ho]
              unfold Oper.about at hf'
              cases hoo : o.op <;> rw [hoo] at hf' <;> first | (cases hf'; done) | skip
              dsimp only at hf' ⊢
              rw [hoo]
              exact hf'
            dsimp only
            split
            · rename_i hdf
              unfold opOk at hop
              rw [hdf] at hop
              cases hop
            · exact apply_goes hL hok hbot hl sim
          · exact hfin _
    | inRangeFunc l => exact goes_ended
    | endRangeFunc l =>
      dsimp only
      generalize hp0 : (Instr.endLoop l).runT C.P w0 #[] = p0
      generalize hp : (Instr.endLoop l).runT C.P w #[] = p
      apply goes_run ((tame_endLoop).lifts _ _) sim hp0 hp
      · intro j w1 w2 e1 e2 _ hj hs
        refine goes_made (fun e he => mem_seen he) (goes_go hs (bot_eq hbot ⟨rfl, rfl⟩) fun x hx => ?_)
        rcases List.mem_cons.1 hx with rfl | hx
        · refine hf.withTodo fun x hx => ?_
          rcases List.mem_append.1 hx with hx | hx
          · cases j with
            | none => cases hx
            | some c =>
              simp only [Option.map_some, Option.toList_some, List.mem_singleton] at hx
              subst hx
              exact hj c rfl
          · exact tl x hx
        · exact hu x hx
      · intro v w1 w2 e1 e2 hs
        refine goes_made (fun e he => mem_seen he) (goes_go hs (bot_same (ro_raise _ _) hbot) fun x hx => ?_)
        rcases List.mem_cons.1 hx with rfl | hx
        · exact hf.raise _
        · exact hu x hx
      · rintro h w1 e1 (⟨u, _, rfl⟩ | ⟨u, rfl⟩)
        · exact after_ended
        · exact after_ended
    | beginRound =>
      refine apply_goes hL hok hbot (Tame.lifts (tame_skip ?_) _ _) sim
      cases ro with
      | none => exact tame_stuck
      | some l => exact tame_beginRound
    | call d a b c => exact hd.elim
    | extern a b => exact hd.elim
/-- The step of a frame that is left. -/
theorem unwind_goes (hL : listOk C.P C.L = true) {fr : Frame} {up base : List Frame} {w0 w : World} {m0 m : Bool} (hok : ∀ x ∈ fr :: up, FrOk C x) (hbot : Bot C (fr :: up)) (hnl : up = [] → fr.defers ≠ []) (sim : Sim C w0 w) :
    Goes C base w0 w (unwind C.P m0 fr up none w0) (unwind C.P m fr (up ++ base) none w) := by
  have hf := hok fr (List.mem_cons_self ..)
  have hu : ∀ x ∈ up, FrOk C x := fun x hx => hok x (List.mem_cons_of_mem _ hx)
  obtain ⟨fn, tmps, todo, defers, mode, kind, ro⟩ := fr
  unfold unwind
  cases defers with
  | cons d ds =>
    obtain ⟨b, hd⟩ := hf.defers d (List.mem_cons_self ..)
    obtain ⟨target, args⟩ := d
    dsimp only at hd
    subst hd
    dsimp only
    generalize hp0 : (Instr.takeDeferred b).runT C.P w0 #[] = p0
    generalize hp : (Instr.takeDeferred b).runT C.P w #[] = p
    apply goes_run ((tame_takeDeferred).lifts _ _) sim hp0 hp
    · intro a w1 w2 e1 e2 _ ha hs
      subst ha
      refine goes_made (fun e he => mem_seen he) (goes_go hs (bot_eq hbot ⟨rfl, rfl⟩) fun x hx => ?_)
      rcases List.mem_cons.1 hx with rfl | hx
      · exact ⟨hf.todo, fun d hd => hf.defers d (List.mem_cons_of_mem _ hd), hf.kind⟩
      · exact hu x hx
    · intro v w1 w2 e1 e2 hs
      exact goes_made (fun e he => mem_seen he) goes_ended
    · rintro h w1 e1 (⟨u, _, rfl⟩ | ⟨u, rfl⟩)
      · exact after_ended
      · exact after_ended
  | nil =>
    have hne : up ≠ [] := fun e => hnl e rfl
    cases mode with
    | run => exact goes_ended
    | panicking chain =>
      dsimp only
      split
      · exact goes_ended
      · cases up with
        | nil => exact absurd rfl hne
        | cons c rest =>
          refine goes_go sim (bot_same (ro_raise _ _) (bot_pop hbot)) fun x hx => ?_
          rcases List.mem_cons.1 hx with rfl | hx
          · exact (hu c (List.mem_cons_self ..)).raise _
          · exact hu x (List.mem_cons_of_mem _ hx)
    | returning =>
      dsimp only
      split
      · exact doReturn_goes hok hbot hne sim
      · rename_i f hfn
        generalize hp0 : (results f tmps).runT C.P w0 #[] = p0
        generalize hp : (results f tmps).runT C.P w #[] = p
        apply goes_run ((tame_results).lifts _ _) sim hp0 hp
        · intro a w1 w2 e1 e2 _ ha hs
          exact goes_made (fun e he => mem_seen he) (doReturn_goes hok hbot hne hs)
        · intro v w1 w2 e1 e2 hs
          exact goes_made (fun e he => mem_seen he) goes_ended
        · rintro h w1 e1 (⟨u, _, rfl⟩ | ⟨u, rfl⟩)
          · exact after_ended
          · exact after_ended
/-- A step of a goroutine's own frames. -/
theorem step_goes (hL : listOk C.P C.L = true) {fr : Frame} {up base : List Frame} {w0 w : World} {m0 m : Bool} {st st' : GoStatus} {of of' : Option (Array CommCase × CommShape)} (hok : ∀ x ∈ fr :: up, FrOk C x) (hbot : Bot C (fr :: up))
    (hnl : up = [] → fr.mode = .run ∨ fr.defers ≠ []) (hab : ∀ f, fr.about C.P w0 = some f → f ∈ C.L) (sim : Sim C w0 w) :
    Goes C base w0 w (stepG C.P m0 ⟨fr, up, st, none, of⟩ w0) (stepG C.P m ⟨fr, up ++ base, st', none, of'⟩ w) := by
  unfold stepG
  dsimp only
  cases hm : fr.mode with
  | run => exact exec_goes hL hok hbot hm hab sim
  | returning => exact unwind_goes hL hok hbot (fun e => (hnl e).resolve_left (by rw [hm]; intro h; cases h)) sim
  | panicking chain => exact unwind_goes hL hok hbot (fun e => (hnl e).resolve_left (by rw [hm]; intro h; cases h)) sim
end
end Go.Proofs.YthjofgmiabcifabGreatDoor.Lift
namespace Go.Proofs.YthjofgmiabcifabGreatDoor.Lift
open Go
/-- A goroutine's own frames and the lone world. -/
structure LSt where
  fr : Frame
  up : List Frame
  w : World
def LSt.on (s : LSt) (T : Tape) : World := { s.w with tape := T }
/-- A tape that answers as it has answered so far. -/
def Agree (s : LSt) (T : Tape) : Prop := ∀ i q, i < s.w.drawn → T i q = s.w.tape i q
structure LInv (C : Cls) (s : LSt) : Prop where
  frames : ∀ x ∈ s.fr :: s.up, FrOk C x
  bot : Bot C (s.fr :: s.up)
  heap : C.n0 ≤ s.w.heap.size ∧ ∀ (b : Nat) o, s.w.heap[b]? = some o → (b < C.n0 → (∃ c t f, o = .cells c t f) ∨ Seen o) ∧ (C.n0 ≤ b → Plain C o)
/-- How a lone run may end. -/
def Fin (C : Cls) (R : Ending → World → Prop) (s : LSt) (T : Tape) : Prop := s.up = [] ∧ ∃ e, e ≠ .outgrown ∧ s.fr.leaving C.P (s.on T) e ∧ R e (s.on T)
def Stp (C : Cls) (s : LSt) (T : Tape) (s' : LSt) : Prop := ∃ es, stepG C.P true ⟨s.fr, s.up, .running, none, none⟩ (s.on T) = .go ⟨s'.fr, s'.up, .running, none, none⟩ s'.w es
def Safe (C : Cls) (s : LSt) (T : Tape) : Prop := (s.up = [] → s.fr.mode = .run ∨ s.fr.defers ≠ []) ∧ (∀ f, s.fr.about C.P (s.on T) = some f → f ∈ C.L) ∧ ∃ s', Stp C s T s'
/-- Whatever the tape answers the run goes on within the fence, and comes to its end. -/
inductive Way (C : Cls) (R : Ending → World → Prop) : LSt → Prop
  | mk {s : LSt} : LInv C s → (∀ T, Agree s T → Fin C R s T ∨ Safe C s T) → (∀ T s', Agree s T → ¬ Fin C R s T → Stp C s T s' → Way C R s') → Way C R s
/-- On every tape the run comes to its end. -/
def Ends (C : Cls) (R : Ending → World → Prop) (s : LSt) : Prop :=
  ∀ T, Agree s T → ∃ e w' fr, e ≠ .outgrown ∧ R e w' ∧ StepsIn (Machine.fenced C.P (Fence.list C.L none)) C.P (lone s.fr s.up (s.on T)) (lone fr [] w') ∧ fr.leaving C.P w' e
section
variable {C : Cls} {R : Ending → World → Prop}
/-- Nothing is poisoned, nothing is frozen. -/
def Free (C : Cls) : Prop := (∀ b, ¬ C.bp b) ∧ (∀ b, ¬ C.ro b) ∧ ∀ b, ¬ C.ch b
theorem sim_self (h0 : Free C) {w w' : World} (he : w.heap = w'.heap) (hp : C.n0 ≤ w.heap.size ∧ ∀ (b : Nat) o, w.heap[b]? = some o → (b < C.n0 → (∃ c t f, o = .cells c t f) ∨ Seen o) ∧ (C.n0 ≤ b → Plain C o)) : Sim C w w' :=
  ⟨by rw [he], hp.1, fun b _ h => absurd h (h0.1 b), fun b _ _ h => absurd h (h0.2.1 b), fun b hb _ _ => ⟨by rw [he], by
    have h1 : w.heap[b]? = some w.heap[b] := Array.getElem?_eq_getElem (by have := hp.1; omega)
    rcases (hp.2 b _ h1).1 hb with ⟨c, t, f, e⟩ | hs
    · exact .inl ⟨c, t, f, by rw [h1, e]⟩
    · exact .inr ⟨_, hs, h1, h0.2.2 b⟩⟩, fun b hb => ⟨by rw [he], fun o ho => (hp.2 b o ho).2 hb⟩⟩
theorem free_heap (h0 : Free C) {w w' : World} (h : Sim C w w') : w'.heap = w.heap ∧ C.n0 ≤ w.heap.size ∧ ∀ (b : Nat) o, w.heap[b]? = some o → (b < C.n0 → (∃ c t f, o = .cells c t f) ∨ Seen o) ∧ (C.n0 ≤ b → Plain C o) := by
  refine ⟨?_, h.le, fun b o ho => ⟨fun hb => ?_, fun hb => (h.new b hb).2 o ho⟩⟩
  · apply Array.ext_getElem?
    intro b
    by_cases hb : b < C.n0
    · exact (h.own b hb (h0.1 b) (h0.2.1 b)).1.symm
    · exact (h.new b (by omega)).1.symm
  · rcases (h.own b hb (h0.1 b) (h0.2.1 b)).2 with ⟨c, t, f, e⟩ | ⟨o', hs, e, _⟩
    · rw [e] at ho; cases ho; exact .inl ⟨c, t, f, rfl⟩
    · rw [e] at ho; cases ho; exact .inr hs
/-- One step under two tapes that answer the same. -/
theorem stp_again (hL : listOk C.P C.L = true) (h0 : Free C) {s s' : LSt} {T U : Tape} (hi : LInv C s) (hs : Safe C s T)
    (hg : Stp C s T s') (al : ∀ i q, i < s'.w.drawn → T i q = U i q) :
    LInv C s' ∧ s.w.drawn ≤ s'.w.drawn ∧ s'.w.tape = T ∧ Stp C s U { s' with w := s'.on U } := by
  obtain ⟨es, hg⟩ := hg
  have sim : Sim C (s.on T) (s.on U) := sim_self h0 rfl hi.heap
  have hgo := (step_goes (base := []) (m0 := true) (m := true) (st := .running) (st' := .running) (of := none) (of' := none) hL hi.frames hi.bot hs.1 hs.2.1 sim).2
  obtain ⟨a1, a2, a3, ⟨a4, a5⟩, a6, a7, v', es', b1, b2, b3, b4, b5⟩ := hgo _ s'.w es hg (fun i q hi => al _ q hi)
  have sim' : Sim C (s.on T) (s.on T) := sim_self h0 rfl hi.heap
  obtain ⟨_, _, _, _, _, _, v2, es2, c1, c2, c3, c4, c5⟩ := (step_goes (base := []) (m0 := true) (m := true) (st := .running) (st' := .running) (of := none) (of' := none) hL hi.frames hi.bot hs.1 hs.2.1 sim').2 _ s'.w es hg (fun i q hi => rfl)
  have hv : v2 = s'.w := by
    have : stepG C.P true ⟨s.fr, s.up, .running, none, none⟩ (s.on T) = .go ⟨s'.fr, s'.up, .running, none, none⟩ v2 es2 := by simpa using c1
    rw [hg] at this
    injection this with h1 h2 h3
    exact h2.symm
  subst hv
  refine ⟨⟨a4, a5, (free_heap h0 b3).2⟩, a6, a7, es', ?_⟩
  have e : v' = { s' with w := s'.on U }.w := by
    have h1 : v'.heap = s'.w.heap := (free_heap h0 b3).1
    have h2 : v'.drawn = s'.w.drawn := by
      have : v'.drawn + s.w.drawn = s'.w.drawn + s.w.drawn := b4
      omega
    have h3 : v'.tape = U := b5.tape
    have h4 : v'.os = s.w.os := b5.os
    have h5 : v'.output = s.w.output := b5.output
    have h6 : s'.w.os = s.w.os := c5.os
    have h7 : s'.w.output = s.w.output := c5.output
    obtain ⟨x1, x2, x3, x4, x5⟩ := v'
    dsimp only at h1 h2 h3 h4 h5
    subst h1 h2 h3
    simp only [LSt.on, h4, h5, h6, h7]
  rw [← e]
  simpa using b1
theorem step_finished {P : Program} {fr : Frame} {w : World} {m : Machine} : step P { world := w, gs := #[{ frame := fr, callers := [], status := .finished, dying := none }], rest := { timers := #[], alone := none, slice := none } } ≠ .next m := by
  intro h
  simp [step, stepT, move, ask, askOn, runnable_eq, due, ahead, Goroutine.canRun, List.range_succ, choose, pure, Sem.run, Question.forced] at h
  generalize endWith w 2 (bytes "fatal error: no goroutines (main called runtime.Goexit) - deadlock!\n") (Outcome.fatal "no goroutines (main called runtime.Goexit) - deadlock!") = q at h
  cases q <;> cases h
/-- A frame that is left with none below it does not come back to the run. -/
theorem left_ends (hL : listOk C.P C.L = true) (hI : ∀ f ∈ C.L, C.P.inits.idxOf? f = none) {fr : Frame} {w : World} {m1 m2 : Machine} (hk : fr.kind = .normal) (hfn : fr.fn ∈ C.L) (hd : fr.defers = []) (hm : fr.mode ≠ .run)
    (hs : step C.P (lone fr [] w) = .next m1) (hr : StepsIn (Machine.fenced C.P (Fence.list C.L none)) C.P m1 m2) : ∀ fr' w', m2 ≠ lone fr' [] w' := by
  intro fr' w' e2
  have go : ∀ g w1 es, stepG C.P true { frame := fr, callers := [], status := .running, dying := none } w = .go g w1 es → g.callers = [] → g.offers = none → g.status = .finished ∨ g.dying.isSome = true → False := by
    intro g w1 es hg hc ho hgs
    rw [step, stepT, move_lone] at hs
    simp [runT, lone, Array.swapAt!, hg] at hs
    subst hs
    subst e2
    obtain ⟨gf, gc, gs, gd, go⟩ := g
    dsimp only at hc hgs ho
    subst hc ho
    generalize hq : lone fr' [] w' = m2 at hr
    cases hr with
    | refl =>
      simp [lone] at hq
      obtain ⟨_, _, rfl, rfl, _⟩ := hq
      simp at hgs
    | head h1 h2 h3 =>
      have h4 := (h1 ⟨gf, [], gs, gd, none⟩ (by simp)).1 rfl
      rcases hgs with rfl | hgs
      · cases gd with
        | none =>
          exact step_finished h2
        | some d => simp at h4
      · cases gd <;> simp at h4 hgs
  have ended : ∀ o w1 es, stepG C.P true { frame := fr, callers := [], status := .running, dying := none } w = .ended o w1 es → False := by
    intro o w1 es hg
    rw [step, stepT, move_lone] at hs
    simp [runT, lone, Array.swapAt!, hg] at hs
  obtain ⟨fn, c, hfn1, _⟩ := listOk_code hL hfn
  cases hmode : fr.mode with
  | run => exact hm hmode
  | returning =>
    have hg : stepG C.P true { frame := fr, callers := [], status := .running, dying := none } w = unwind C.P true fr [] none w := by
      unfold stepG
      dsimp only
      rw [hmode]
    unfold unwind at hg
    rw [hd, hmode] at hg
    dsimp only at hg
    rw [hfn1] at hg
    dsimp only at hg
    generalize (results fn fr.tmps).runT C.P w #[] = p at hg
    obtain ⟨r, es⟩ := p
    cases r with
    | ok v w1 =>
      unfold doReturn at hg
      dsimp only at hg
      rw [hk] at hg
      simp only [Bool.not_true, Bool.false_eq_true, if_false, hI _ hfn] at hg
      exact ended _ _ _ hg
    | halt h w1 =>
      cases h <;> exact ended _ _ _ hg
  | panicking chain =>
    have hg : stepG C.P true { frame := fr, callers := [], status := .running, dying := none } w = unwind C.P true fr [] none w := by
      unfold stepG
      dsimp only
      rw [hmode]
    unfold unwind at hg
    rw [hd, hmode] at hg
    dsimp only at hg
    split at hg
    · exact ended _ _ _ hg
    · split at hg
      · exact go _ _ _ hg rfl rfl (.inl rfl)
      · split at hg
        · exact go _ _ _ hg rfl rfl (.inr rfl)
        · exact ended _ _ _ hg
        · exact ended _ _ _ hg
/-- A run that comes to its end and has not yet goes on within the fence. -/
theorem ends_safe (hL : listOk C.P C.L = true) (h0 : Free C) (hI : ∀ f ∈ C.L, C.P.inits.idxOf? f = none) {s : LSt} {W : Tape} (hi : LInv C s) (he : Ends C R s) (ha : Agree s W) (hf : ¬ Fin C R s W) : Safe C s W := by
  obtain ⟨e, w', fr, he1, hr, hst, hl⟩ := he W ha
  generalize hm : lone s.fr s.up (s.on W) = m at hst
  generalize hm' : lone fr [] w' = m' at hst
  cases hst with
  | refl =>
    exfalso
    rw [← hm'] at hm
    simp only [lone, Machine.mk.injEq, Array.mk.injEq, List.cons.injEq, Goroutine.mk.injEq] at hm
    obtain ⟨h1, ⟨⟨h2, h3, _⟩, _⟩, _⟩ := hm
    exact hf ⟨h3, e, he1, by rw [h1, h2]; exact hl, by rw [h1]; exact hr⟩
  | head hfen hstep hrest =>
    subst hm
    have hg0 := hfen { frame := s.fr, callers := s.up, status := .running, dying := none } (by simp [lone])
    have hab : ∀ f, s.fr.about C.P (s.on W) = some f → f ∈ C.L := hg0.2.2.1
    have hnl : s.up = [] → s.fr.mode = .run ∨ s.fr.defers ≠ [] := by
      intro hu
      by_cases hmr : s.fr.mode = .run
      · exact .inl hmr
      · refine .inr fun hd => ?_
        rw [hu] at hstep
        have hb := hi.bot s.fr (by rw [hu]; rfl)
        exact left_ends hL hI (hi.frames s.fr (List.mem_cons_self ..)).kind hb.2 hd hmr hstep hrest fr w' hm'.symm
    refine ⟨hnl, hab, ?_⟩
    have sim : Sim C (s.on W) (s.on W) := sim_self h0 rfl hi.heap
    obtain ⟨hgo, hgs⟩ := step_goes (base := []) (m0 := true) (m := true) (st := .running) (st' := .running) (of := none) (of' := none) hL hi.frames hi.bot hnl hab sim
    rcases hgo with ⟨g, w1, es, hg⟩ | ⟨o, w1, es, hg⟩
    · obtain ⟨a1, a2, a3, _⟩ := hgs g w1 es hg (fun i q _ => rfl)
      obtain ⟨gf, gc, gs, gd, go⟩ := g
      dsimp only at a1 a2 a3
      subst a1 a2 a3
      exact ⟨⟨gf, gc, w1⟩, es, hg⟩
    · exfalso
      rw [step_lone_ended (o := o) (w' := w1) (by rw [hg]; rfl)] at hstep
      cases hstep
/-- That a run is at its end hangs on no tape. -/
theorem fin_tape (h0 : Free C) (hR : ∀ e (w : World) T, R e w → R e { w with tape := T }) {s : LSt} {T U : Tape} (hi : LInv C s) (h : Fin C R s T) : Fin C R s U := by
  obtain ⟨hu, e, he, hl, hr⟩ := h
  refine ⟨hu, e, he, ?_, hR e (s.on T) U hr⟩
  cases e with
  | panicked chain => exact hl
  | outgrown => exact absurd rfl he
  | returned v =>
    obtain ⟨h1, h2, h3, fn, h4, h5⟩ := hl
    refine ⟨h1, h2, h3, fn, h4, ?_⟩
    have sim : Sim C (s.on T) (s.on U) := sim_self h0 rfl hi.heap
    have hl := ((tame_results (C := C) (fn := fn) (tmps := s.fr.tmps)).lifts (s.on T) #[] (s.on U) sim).2 #[]
    rw [← Sem.runT_fst C.P _ _ #[]] at h5 ⊢
    generalize hp : (results fn s.fr.tmps).runT C.P (s.on T) #[] = p at h5 hl
    obtain ⟨r, es⟩ := p
    dsimp only at h5
    subst h5
    obtain ⟨_, w', new, b1, b2, b3, b4, b5⟩ := hl (fun i q hi => absurd hi (by show ¬ s.w.drawn + i < s.w.drawn; omega))
    rw [b1]
    have e : w' = s.on U := by
      have e1 : w'.heap = s.w.heap := (free_heap h0 b3).1
      have e2 : w'.drawn = s.w.drawn := by
        have : w'.drawn + s.w.drawn = s.w.drawn + s.w.drawn := b4
        omega
      have e3 : w'.tape = U := b5.tape
      have e4 : w'.os = s.w.os := b5.os
      have e5 : w'.output = s.w.output := b5.output
      obtain ⟨x1, x2, x3, x4, x5⟩ := w'
      dsimp only at e1 e2 e3 e4 e5
      subst e1 e2 e3 e4 e5
      rfl
    rw [e]
/-- Behind a step the run still comes to its end on every tape. -/
theorem ends_next (hL : listOk C.P C.L = true) (h0 : Free C) (hI : ∀ f ∈ C.L, C.P.inits.idxOf? f = none) (hR : ∀ e (w : World) T, R e w → R e { w with tape := T }) {s s' : LSt} {T : Tape}
    (hi : LInv C s) (he : Ends C R s) (ha : Agree s T) (hf : ¬ Fin C R s T) (hst : Stp C s T s') : LInv C s' ∧ Ends C R s' ∧ s.w.drawn ≤ s'.w.drawn ∧ s'.w.tape = T := by
  have hs := ends_safe hL h0 hI hi he ha hf
  obtain ⟨a1, a2, a3, _⟩ := stp_again hL h0 (U := T) hi hs hst (fun _ _ _ => rfl)
  refine ⟨a1, fun U hU => ?_, a2, a3⟩
  have hTU : ∀ i q, i < s'.w.drawn → T i q = U i q := fun i q hi => by rw [hU i q hi, a3]
  have haU : Agree s U := fun i q hi => by rw [← hTU i q (by omega)]; exact ha i q hi
  obtain ⟨_, _, _, es, hg⟩ := stp_again hL h0 (U := U) hi hs hst hTU
  obtain ⟨e, w', fr, he1, hr, hrun, hl⟩ := he U haU
  generalize hm : lone s.fr s.up (s.on U) = m at hrun
  generalize hm' : lone fr [] w' = m' at hrun
  cases hrun with
  | refl =>
    exfalso
    rw [← hm'] at hm
    simp only [lone, Machine.mk.injEq, Array.mk.injEq, List.cons.injEq, Goroutine.mk.injEq] at hm
    obtain ⟨h1, ⟨⟨h2, h3, _⟩, _⟩, _⟩ := hm
    exact hf (fin_tape h0 hR hi ⟨h3, e, he1, by rw [h1, h2]; exact hl, by rw [h1]; exact hr⟩)
  | head hfen hstep hrest =>
    subst hm hm'
    rw [step_lone_go (fr' := s'.fr) (cs' := s'.up) (w' := s'.on U) (by rw [hg]; rfl)] at hstep
    injection hstep with hstep
    subst hstep
    exact ⟨e, w', fr, he1, hr, hrest, hl⟩
/-- A run that comes to its end on every tape is a well-founded tree. -/
theorem way_of_ends (hL : listOk C.P C.L = true) (h0 : Free C) (hI : ∀ f ∈ C.L, C.P.inits.idxOf? f = none) (hR : ∀ e (w : World) T, R e w → R e { w with tape := T }) {s : LSt}
    (hi : LInv C s) (he : Ends C R s) : Way C R s := by
  apply Classical.byContradiction
  intro hn
  have next : ∀ x : { s : LSt // LInv C s ∧ Ends C R s ∧ ¬ Way C R s }, ∃ y : { s : LSt // LInv C s ∧ Ends C R s ∧ ¬ Way C R s } × Tape, Agree x.1 y.2 ∧ ¬ Fin C R x.1 y.2 ∧ Stp C x.1 y.2 y.1.1 := by
    rintro ⟨s, hi, he, hn⟩
    apply Classical.byContradiction
    intro hno
    apply hn
    refine .mk hi (fun T ha => ?_) (fun T s' ha hf hst => ?_)
    · by_cases hf : Fin C R s T
      · exact .inl hf
      · exact .inr (ends_safe hL h0 hI hi he ha hf)
    · apply Classical.byContradiction
      intro hw
      obtain ⟨b1, b2, _⟩ := ends_next hL h0 hI hR hi he ha hf hst
      exact hno ⟨⟨⟨s', b1, b2, hw⟩, T⟩, ha, hf, hst⟩
  let seq : Nat → { s : LSt // LInv C s ∧ Ends C R s ∧ ¬ Way C R s } := fun n => Nat.rec ⟨s, hi, he, hn⟩ (fun _ x => (Classical.choose (next x)).1) n
  let T : Nat → Tape := fun n => (Classical.choose (next (seq n))).2
  have hseq : ∀ n, Agree (seq n).1 (T n) ∧ ¬ Fin C R (seq n).1 (T n) ∧ Stp C (seq n).1 (T n) (seq (n + 1)).1 := fun n => Classical.choose_spec (next (seq n))
  have hdr : ∀ n, (seq n).1.w.drawn ≤ (seq (n + 1)).1.w.drawn ∧ (seq (n + 1)).1.w.tape = T n := fun n =>
    (ends_next hL h0 hI hR (seq n).2.1 (seq n).2.2.1 (hseq n).1 (hseq n).2.1 (hseq n).2.2).2.2
  have hmono : ∀ k n, (seq n).1.w.drawn ≤ (seq (n + k)).1.w.drawn := by
    intro k
    induction k with
    | zero => exact fun n => Nat.le_refl _
    | succ k ih => exact fun n => Nat.le_trans (ih n) (hdr (n + k)).1
  have hsame : ∀ k n i q, i < (seq n).1.w.drawn → (seq (n + k)).1.w.tape i q = (seq n).1.w.tape i q := by
    intro k
    induction k with
    | zero => exact fun n i q _ => rfl
    | succ k ih =>
      intro n i q hi
      rw [← ih n i q hi, ← Nat.add_assoc, (hdr (n + k)).2]
      exact (hseq (n + k)).1 i q (Nat.lt_of_lt_of_le hi (hmono k n))
  let U : Tape := fun i q => open Classical in if h : ∃ n, i < (seq n).1.w.drawn then (seq (Classical.choose h)).1.w.tape i q else 0
  have hU : ∀ n i q, i < (seq n).1.w.drawn → U i q = (seq n).1.w.tape i q := by
    intro n i q hi
    have h : ∃ n, i < (seq n).1.w.drawn := ⟨n, hi⟩
    have e : U i q = (seq (Classical.choose h)).1.w.tape i q := dif_pos h
    rw [e]
    have hc := Classical.choose_spec h
    generalize Classical.choose h = a at hc
    rcases Nat.le_total a n with hle | hle
    · obtain ⟨k, rfl⟩ := Nat.exists_eq_add_of_le hle
      exact (hsame k a i q hc).symm
    · obtain ⟨k, rfl⟩ := Nat.exists_eq_add_of_le hle
      exact hsame k n i q hi
  have hstp : ∀ n, Stp C (seq n).1 U { (seq (n + 1)).1 with w := (seq (n + 1)).1.on U } := by
    intro n
    refine (stp_again hL h0 (seq n).2.1 (ends_safe hL h0 hI (seq n).2.1 (seq n).2.2.1 (hseq n).1 (hseq n).2.1) (hseq n).2.2 fun i q hi => ?_).2.2.2
    rw [hU (n + 1) i q hi, (hdr n).2]
  have key : ∀ {m m'}, StepsIn (Machine.fenced C.P (Fence.list C.L none)) C.P m m' → ∀ n, m = lone (seq n).1.fr (seq n).1.up ((seq n).1.on U) → ∀ e w' fr, e ≠ .outgrown → R e w' → m' = lone fr [] w' → fr.leaving C.P w' e → False := by
    intro m m' hrun
    induction hrun with
    | refl m =>
      intro n hm e w' fr he1 hr hm' hl
      rw [hm] at hm'
      simp only [lone, Machine.mk.injEq, Array.mk.injEq, List.cons.injEq, Goroutine.mk.injEq] at hm'
      obtain ⟨h1, ⟨⟨h2, h3, _⟩, _⟩, _⟩ := hm'
      exact (hseq n).2.1 (fin_tape h0 hR (seq n).2.1 (T := U) ⟨h3, e, he1, by rw [h1, h2]; exact hl, by rw [h1]; exact hr⟩)
    | head hI' hstep _ ih =>
      intro n hm e w' fr he1 hr hm' hl
      obtain ⟨es, hg⟩ := hstp n
      rw [hm, step_lone_go (fr' := (seq (n + 1)).1.fr) (cs' := (seq (n + 1)).1.up) (w' := (seq (n + 1)).1.on U) (by rw [hg]; rfl)] at hstep
      injection hstep with hstep
      exact ih (n + 1) hstep.symm e w' fr he1 hr hm' hl
  obtain ⟨e, w', fr, he1, hr, hrun, hl⟩ := he U fun i q hi => hU 0 i q hi
  exact key hrun 0 rfl e w' fr he1 hr rfl hl
end
end Go.Proofs.YthjofgmiabcifabGreatDoor.Lift
namespace Go.Proofs.YthjofgmiabcifabGreatDoor.Lift
open Go
/-- The class in which nothing is poisoned and nothing is frozen. -/
def Cls.bare (C : Cls) : Cls := { P := C.P, L := C.L, bp := fun _ => False, ro := fun _ => False, ch := fun _ => False, n0 := C.n0 }
theorem bare_free (C : Cls) : Free C.bare := ⟨fun _ h => h, fun _ h => h, fun _ h => h⟩
/-- One step further on some tape. -/
def Further (C : Cls) (R : Ending → World → Prop) (s' s : LSt) : Prop := ∃ T, Agree s T ∧ ¬ Fin C R s T ∧ Stp C s T s'
section
variable {C : Cls} {R : Ending → World → Prop}
theorem way_acc {s : LSt} (h : Way C R s) : Acc (Further C R) s := by
  induction h with
  | mk hi h1 h2 ih => exact Acc.intro _ fun s' ⟨T, ha, hf, hst⟩ => ih T s' ha hf hst
theorem frOk_bare {fr : Frame} (h : FrOk C.bare fr) : FrOk C fr := by
  refine ⟨fun it hi => ?_, h.defers, h.kind⟩
  have := h.todo it hi
  cases it <;> exact this
theorem bot_bare {l : List Frame} (h : Bot C.bare l) : Bot C l := h
/-- The tape of the lone run that answers from now on as the true one. -/
def joined (s : LSt) (w : World) : Tape := fun j q => if j < s.w.drawn then s.w.tape j q else w.tape (w.drawn + (j - s.w.drawn)) q
theorem joined_agree {s : LSt} {w : World} : Agree s (joined s w) := fun i q hi => if_pos hi
/-- A step of a lone walk in company. -/
theorem way_company (hL : listOk C.P C.L = true) {s : LSt} (hw : Way C.bare R s) {w : World} {base : List Frame} {m : Bool} {st : GoStatus} {of : Option (Array CommCase × CommShape)} (sim : Sim C s.w w)
    (hf : ¬ Fin C.bare R s (joined s w)) :
    ∃ s' w' es, Way C.bare R s' ∧ Further C.bare R s' s ∧ stepG C.P m ⟨s.fr, s.up ++ base, st, none, of⟩ w = .go ⟨s'.fr, s'.up ++ base, .running, none, none⟩ w' es ∧
      Sim C s'.w w' ∧ (∀ e ∈ es, EvOk C e) ∧ Kept C w w' ∧ w.drawn ≤ w'.drawn := by
  cases hw with
  | mk hi h1 h2 =>
    have hs := (h1 _ joined_agree).resolve_left hf
    obtain ⟨s', es0, hg⟩ := hs.2.2
    have sim' : Sim C (s.on (joined s w)) w := ⟨sim.size, sim.le, sim.poison, sim.frozen, sim.own, sim.new⟩
    obtain ⟨a1, a2, a3, a4, a6, a7, w', es, b1, b2, b3, b4, b5⟩ := (step_goes (C := C) (base := base) (m0 := true) (m := m) (st := .running) (st' := st) (of := none) (of' := of) hL
      (fun x hx => frOk_bare (hi.frames x hx)) (bot_bare hi.bot) hs.1 hs.2.1 sim').2 _ s'.w es0 hg (fun i q hi => by
        show joined s w (s.w.drawn + i) q = _
        unfold joined
        rw [if_neg (by omega), show s.w.drawn + i - s.w.drawn = i from by omega])
    have b4 : w'.drawn + s.w.drawn = s'.w.drawn + w.drawn := b4
    have a6 : s.w.drawn ≤ s'.w.drawn := a6
    exact ⟨s', w', es, h2 _ s' joined_agree hf ⟨es0, hg⟩, ⟨_, joined_agree, hf, es0, hg⟩, b1, b3, b2, b5, by omega⟩
/-- What a lone walk begins with. -/
theorem ends_of_calls {f : FuncId} {args : Array Value} {w : World} {n : Nat} (hno : ∀ w', ¬ R .outgrown w')
    (h : ∀ T : Tape, (∀ i q, i < w.drawn → T i q = w.tape i q) → CallsIn (Fence.list C.L none) n C.P f args { w with tape := T } R) : Ends C R ⟨Frame.enter C.P f args .normal, [], w⟩ := by
  intro T hT
  obtain ⟨_, hc⟩ := h T hT
  obtain ⟨e, w', fr, hr, hs, hfn, hl⟩ := hc [] (by intro d hd; cases hd)
  cases e with
  | outgrown => exact absurd hr (hno _)
  | returned v => exact ⟨_, w', fr, by simp, hr, hs, hl⟩
  | panicked c => exact ⟨_, w', fr, by simp, hr, hs, hl⟩
theorem inv_enter (hL : listOk C.P C.L = true) {f : FuncId} {args : Array Value} {w : World} (hf : f ∈ C.L) (hp : C.n0 ≤ w.heap.size ∧ ∀ (b : Nat) o, w.heap[b]? = some o → (b < C.n0 → (∃ c t f, o = .cells c t f) ∨ Seen o) ∧ (C.n0 ≤ b → Plain C o)) : LInv C ⟨Frame.enter C.P f args .normal, [], w⟩ := by
  refine ⟨fun x hx => ?_, fun x hx => ?_, hp⟩
  · rcases List.mem_cons.1 hx with rfl | hx
    · exact frOk_enter hL hf
    · cases hx
  · simp only [List.getLast?_singleton, Option.some.injEq] at hx
    subst hx
    exact ⟨rfl, hf⟩
/-- What may be made of an old block by others: it keeps its make. -/
def SameMake (C : Cls) (b : Nat) (x y : Option Obj) : Prop :=
  y = x ∨ (∃ c t f c' f', x = some (.cells c t f) ∧ y = some (.cells c' t f')) ∨ (∃ o o', x = some o ∧ y = some o' ∧ OddAt C b o ∧ OddAt C b o')
/-- Steps of others that turn poisoned blocks alone leave the lone world as it is. -/
theorem sim_others {w0 w w' : World} (sim : Sim C w0 w) (hs : w'.heap.size = w.heap.size) (hb : ∀ b, b < C.n0 → C.bp b → SameMake C b w.heap[b]? w'.heap[b]?)
    (ho : ∀ b, ¬ (b < C.n0 ∧ C.bp b) → w'.heap[b]? = w.heap[b]?) : Sim C w0 w' := by
  refine ⟨hs.trans sim.size, sim.le, fun b h1 h2 => ?_, fun b h1 h2 h3 => ?_, fun b h1 h2 h3 => ?_, fun b h1 => ?_⟩
  · rcases hb b h1 h2 with he | hb
    · rw [he]; exact sim.poison b h1 h2
    rcases sim.poison b h1 h2 with ⟨t, f, c, f', a1, a2⟩ | ⟨a1, o, a2, a3⟩
    · rcases hb with ⟨c1, t1, f1, c2, f2, e1, e2⟩ | ⟨o, o', e1, e2, e3, e4⟩
      · rw [a2] at e1
        cases e1
        exact .inl ⟨_, f, _, _, a1, e2⟩
      · rw [a2] at e1
        cases e1
        exact e3.elim
    · rcases hb with ⟨c1, t1, f1, c2, f2, e1, e2⟩ | ⟨o1, o', e1, e2, e3, e4⟩
      · rw [a2] at e1
        cases e1
        exact a3.elim
      · exact .inr ⟨a1, o', e2, e4⟩
  · rw [ho b fun h => h2 h.2]; exact sim.frozen b h1 h2 h3
  · rw [ho b fun h => h2 h.2]; exact sim.own b h1 h2 h3
  · rw [ho b fun h => by omega]; exact sim.new b h1
/-- The lone world of a true one, all of whose blocks are old: what is no row of cells is poisoned, or memory is seen otherwise through it. -/
theorem lone_world {w : World} (hn : C.n0 = w.heap.size) (hb : ∀ (b : Nat) o, w.heap[b]? = some o → (∀ c t f, o ≠ .cells c t f) → (C.bp b ∧ OddAt C b o) ∨ (¬ C.bp b ∧ Seen o ∧ ¬ C.ch b)) :
    ∃ w0 : World, Sim C w0 w ∧ w0.drawn = w.drawn ∧ w0.tape = w.tape ∧ w0.os = w.os ∧ w0.output = w.output ∧
      (C.n0 ≤ w0.heap.size ∧ ∀ (b : Nat) o, w0.heap[b]? = some o → (b < C.n0 → (∃ c t f, o = .cells c t f) ∨ Seen o) ∧ (C.n0 ≤ b → Plain C o)) ∧
      (∀ (b : Nat) c t f, ¬ C.bp b → w.heap[b]? = some (.cells c t f) → (¬ C.ro b ∧ w0.heap[b]? = some (.cells c t f)) ∨ (C.ro b ∧ w0.heap[b]? = some (.cells c t (0, c.size)))) := by
  classical
  let fix : Nat → Obj → Obj := fun b o => match o with
    | .cells c t f => if C.bp b then .cells #[] t f else if C.ro b then .cells c t (0, c.size) else .cells c t f
    | .view a t => .view a t
    | .number a l => .number a l
    | .map e n => .map e n
    | _ => .map #[] 0
  have hget : ∀ b, (w.heap.mapIdx fix)[b]? = (w.heap[b]?).map (fix b) := fun b => Array.getElem?_mapIdx
  have hlt : ∀ b, C.n0 ≤ b → w.heap[b]? = none := fun b h => Array.getElem?_eq_none (by omega)
  have e0 : ∀ b o, w.heap[b]? = some o → ({ w with heap := w.heap.mapIdx fix } : World).heap[b]? = some (fix b o) := by
    intro b o h
    show (w.heap.mapIdx fix)[b]? = _
    rw [hget, h]
    rfl
  have hsome : ∀ b, b < C.n0 → ∃ o, w.heap[b]? = some o := fun b h => ⟨w.heap[b]'(by omega), Array.getElem?_eq_getElem (by omega)⟩
  refine ⟨{ w with heap := w.heap.mapIdx fix }, ⟨by simp, by simp [hn], fun b h1 h2 => ?_, fun b h1 h2 h3 => ?_, fun b h1 h2 h3 => ?_, fun b h1 => ?_⟩, rfl, rfl, rfl, rfl, ⟨by simp [hn], fun b o ho => ?_⟩, fun b c t f h1 h2 => ?_⟩
  · obtain ⟨o, h3⟩ := hsome b h1
    by_cases hc : ∃ c t f, o = .cells c t f
    · obtain ⟨c, t, f, rfl⟩ := hc
      exact .inl ⟨t, f, c, f, by rw [e0 b _ h3]; simp [fix, h2], h3⟩
    · rcases hb b o h3 (fun c t f e => hc ⟨c, t, f, e⟩) with ⟨_, ho⟩ | ⟨hn, _⟩
      · refine .inr ⟨?_, o, h3, ho⟩
        rw [e0 b _ h3]
        cases o <;> first | exact ho.elim | rfl
      · exact absurd h2 hn
  · obtain ⟨o, e⟩ := hsome b h1
    by_cases hc : ∃ c t f, o = .cells c t f
    · obtain ⟨c, t, f, rfl⟩ := hc
      exact .inl ⟨c, t, f, by rw [e0 b _ e]; simp [fix, h2, h3], e⟩
    · rcases hb b o e (fun c t f e => hc ⟨c, t, f, e⟩) with ⟨hp, ho⟩ | ⟨_, hs, hch⟩
      · exact absurd hp h2
      · refine .inr ⟨o, hs, ?_, e, hch⟩
        rw [e0 b _ e]
        cases o <;> first | exact hs.elim | rfl
  · obtain ⟨o, e⟩ := hsome b h1
    by_cases hc : ∃ c t f, o = .cells c t f
    · obtain ⟨c, t, f, rfl⟩ := hc
      have : ({ w with heap := w.heap.mapIdx fix } : World).heap[b]? = some (.cells c t f) := by rw [e0 b _ e]; simp [fix, h2, h3]
      exact ⟨by rw [this, e], .inl ⟨c, t, f, this⟩⟩
    · rcases hb b o e (fun c t f e => hc ⟨c, t, f, e⟩) with ⟨hp, ho⟩ | ⟨_, hs, hch⟩
      · exact absurd hp h2
      · have : ({ w with heap := w.heap.mapIdx fix } : World).heap[b]? = some o := by
          rw [e0 b _ e]
          cases o <;> first | exact hs.elim | rfl
        exact ⟨by rw [this, e], .inr ⟨o, hs, this, hch⟩⟩
  · have e1 : (w.heap.mapIdx fix)[b]? = none := by rw [hget, hlt b h1]; rfl
    refine ⟨by show (w.heap.mapIdx fix)[b]? = _; rw [e1, hlt b h1], fun o ho => ?_⟩
    have ho : (w.heap.mapIdx fix)[b]? = some o := ho
    rw [e1] at ho
    cases ho
  · have ho : (w.heap.mapIdx fix)[b]? = some o := ho
    refine ⟨fun h1 => ?_, fun h1 => ?_⟩
    · obtain ⟨p, e⟩ := hsome b h1
      rw [hget, e] at ho
      simp only [Option.map_some, Option.some.injEq] at ho
      subst ho
      cases p with
      | cells c t f =>
        left
        by_cases hp : C.bp b
        · exact ⟨_, _, _, if_pos hp⟩
        · by_cases hr : C.ro b
          · exact ⟨_, _, _, (if_neg hp).trans (if_pos hr)⟩
          · exact ⟨_, _, _, (if_neg hp).trans (if_neg hr)⟩
      | _ => exact .inr trivial
    · rw [hget, hlt b h1] at ho
      cases ho
  · by_cases hr : C.ro b
    · exact .inr ⟨hr, by rw [e0 b _ h2]; simp [fix, h1, hr]⟩
    · exact .inl ⟨hr, by rw [e0 b _ h2]; simp [fix, h1, hr]⟩
end
end Go.Proofs.YthjofgmiabcifabGreatDoor.Lift
namespace Go.Proofs.YthjofgmiabcifabGreatDoor.Lift
open Go
/-- Where it ends well the world is as it was. -/
def Still {α : Type} (P : Program) (s : Sem α) : Prop := ∀ w es a w' es', s.runT P w es = (.ok a w', es') → w' = w
section
variable {P : Program} {α β : Type}
theorem still_pure {a : α} : Still P (pure a : Sem α) := by
  intro w es b w' es' h
  cases h
  rfl
theorem still_stuck {s : String} : Still P (stuck s : Sem α) := by
  intro w es b w' es' h
  cases h
theorem still_bind {s : Sem α} {k : α → Sem β} (h : Still P s) (hk : ∀ a, Still P (k a)) : Still P (s >>= k) := by
  intro w es b w' es' he
  have hb : (s >>= k).runT P w es = _ := Sem.runT_bind' P s k w es
  rw [hb] at he
  generalize hr : s.runT P w es = r at he
  obtain ⟨r, e1⟩ := r
  cases r with
  | ok a w1 =>
    have := h _ _ _ _ _ hr
    subst this
    exact hk a _ _ _ _ _ he
  | halt q w1 => cases he
theorem still_program : Still P program := by
  intro w es b w' es' h
  cases h
  rfl
theorem still_load {a : Addr} : Still P (load a) := by
  intro w es b w' es' h
  unfold load at h
  simp only [Sem.runT] at h
  split at h
  · cases h; rfl
  · split at h
    · cases h; rfl
    · cases h
theorem still_typeInfo {t : TypeId} : Still P (typeInfo t) := still_bind still_program fun p => by
  cases p.info? t <;> first | exact still_pure | exact still_stuck
theorem still_underlying {t : TypeId} : Still P (underlying t) := still_bind still_program fun p => by
  cases p.underlying t <;> first | exact still_pure | exact still_stuck
theorem still_sizeOf {t : TypeId} : Still P (sizeOf t) := still_bind still_typeInfo fun i => still_pure
theorem still_isAgg {t : TypeId} : Still P (isAgg t) := still_bind still_underlying fun i => by
  split <;> exact still_pure
theorem still_loadCellsFrom {a : Addr} : ∀ {n i : Nat} {acc : Array Value}, Still P (loadCellsFrom a i n acc)
  | 0, _, _ => still_pure
  | n + 1, _, _ => still_bind still_load fun _ => still_loadCellsFrom
theorem still_loadVar {t : TypeId} {a : Addr} : Still P (loadVar t a) := by
  refine still_bind still_isAgg fun b => ?_
  split
  · exact still_bind still_sizeOf fun n => still_bind still_loadCellsFrom fun _ => still_pure
  · exact still_load
theorem still_list_mapM {f : α → Sem β} (h : ∀ a, Still P (f a)) : ∀ l : List α, Still P (l.mapM f)
  | [] => by rw [List.mapM_nil]; exact still_pure
  | a :: l => by
    rw [List.mapM_cons]
    exact still_bind (h a) fun _ => still_bind (still_list_mapM h l) fun _ => still_pure
theorem still_asAddr {v : Value} : Still P (asAddr v) := by
  cases v with
  | pointer a =>
    cases a with
    | none =>
      intro w es b w' es' h
      cases h
    | some a => exact still_pure
  | _ => exact still_stuck
theorem still_results {fn : Func} {tmps : Array Value} : Still P (results fn tmps) := by
  unfold results
  refine still_bind ?_ fun _ => still_pure
  rw [Array.mapM_eq_mapM_toList]
  refine still_bind (k := fun x => pure x.toArray) (still_list_mapM (fun r => ?_) _) fun _ => still_pure
  cases r with
  | tmp t => exact still_pure
  | cell a t => exact still_bind still_asAddr fun _ => still_loadVar
end
section
variable {C : Cls} {R : Ending → World → Prop}
/-- The return of a lone walk into the frame below. -/
theorem way_return {s : LSt} (hi : LInv C.bare s) {T : Tape} {v : Value} {w : World} {c : Frame} {rest : List Frame} {m : Bool} {st : GoStatus} {of : Option (Array CommCase × CommShape)} (sim : Sim C s.w w)
    (hl : s.fr.leaving C.P (s.on T) (.returned v)) :
    ∃ es, stepG C.P m ⟨s.fr, c :: rest, st, none, of⟩ w = .go ⟨c.finish v, rest, .running, none, none⟩ w es ∧ ∀ e ∈ es, EvOk C e := by
  obtain ⟨h1, h2, h3, fn, h4, h5⟩ := hl
  have sim' : Sim C (s.on T) w := ⟨sim.size, sim.le, sim.poison, sim.frozen, sim.own, sim.new⟩
  have hl := ((tame_results (C := C) (fn := fn) (tmps := s.fr.tmps)).lifts (s.on T) #[] w sim').2 #[]
  rw [← Sem.runT_fst C.P _ _ #[]] at h5
  generalize hp : (results fn s.fr.tmps).runT C.P (s.on T) #[] = p at h5 hl
  obtain ⟨r, es⟩ := p
  dsimp only at h5
  subst h5
  obtain ⟨_, w', new, b1, b2, b3, b4, b5⟩ := hl (fun i q hi => absurd hi (by show ¬ s.w.drawn + i < s.w.drawn; omega))
  have := still_results _ _ _ _ _ b1
  subst this
  unfold stepG
  dsimp only
  rw [h1]
  dsimp only
  unfold unwind
  rw [h2, h1]
  dsimp only
  rw [h4]
  dsimp only
  rw [b1]
  unfold doReturn
  dsimp only
  rw [h3]
  refine ⟨_, rfl, fun e he => ?_⟩
  have := mem_seen (by simpa using he)
  exact b2 e (by simpa using this)
end
end Go.Proofs.YthjofgmiabcifabGreatDoor.Lift
