/-
  The reckoned steps of a goroutine are the steps that the model takes.
  Conditions: as each theorem says.
-/
import Derived.Conc.Own
import Derived.Conc.AtomicLaws2
import Derived.Conc.Script
import Derived.Conc.QuitsD
set_option linter.unusedVariables false
set_option linter.unusedSimpArgs false
namespace Go.Proofs.YthjofgmiabcifabGreatDoor.Ev
open Go Go.Conc
/-- An answer. -/
inductive Ans where
  | val (v : Value)
  | shape (x : Option (TypeId × Nat))
  | frz (b : Bool)
  | num (n : Nat)
  | bool (b : Bool)
  | obj (o : Obj)
  | sys (r : SysRet)
  | hit
  | miss (v : Int)
/-- A deed. -/
inductive Fx where
  | load (m : Mode) (a : Addr) (v : Value)
  | store (m : Mode) (a : Addr) (v : Value)
  | new (o : Obj) (n : Nat)
  | shape (r : Nat) (x : Option (TypeId × Nat))
  | frz (a : Addr) (b : Bool)
  | getObj (r : Nat) (o : Obj)
  | setObj (r : Nat) (o : Obj)
  | test (t b : Bool)
  | mark (m : Mark)
  | ask (q : Question) (n : Nat)
  | sys (c : Sys) (r : SysRet)
  | hit (k : IntKind) (a : Addr) (v n : Int)
  | miss (k : IntKind) (a : Addr) (v old : Int)
def notCells : Option Obj → Prop
  | some (.cells ..) => False
  | some _ => True
  | none => False
/-- What was asked is so. -/
def okOf : List Fx → World → Prop
  | [], _ => True
  | .load _ a v :: l, w => w.cell? a = some v ∧ okOf l w
  | .store _ a v :: l, w => (∃ x, w.cell? a = some x) ∧ w.frozen? a = false ∧ okOf l (w.setCell a v)
  | .new o n :: l, w => w.heap.size = n ∧ okOf l { w with heap := w.heap.push o }
  | .shape r x :: l, w => w.shape? r = x ∧ okOf l w
  | .frz a b :: l, w => w.frozen? a = b ∧ okOf l w
  | .getObj r o :: l, w => w.heap[r]? = some o ∧ notCells (some o) ∧ okOf l w
  | .setObj r o :: l, w => notCells w.heap[r]? ∧ okOf l { w with heap := w.heap.setIfInBounds r o }
  | .test t b :: l, w => t = b ∧ okOf l w
  | .mark _ :: l, w => okOf l w
  | .ask q n :: l, w => q.forced = false ∧ n = q.cut (w.tape w.drawn q) ∧ okOf l { w with drawn := w.drawn + 1 }
  | .sys c r :: l, w => (w.sys c).1 = r ∧ okOf l (w.sys c).2
  | .hit k a v n :: l, w => w.cell? a = some (.int k v) ∧ w.frozen? a = false ∧ okOf l (w.setCell a (.int k n))
  | .miss k a v old :: l, w => w.cell? a = some (.int k v) ∧ w.frozen? a = false ∧ v ≠ old ∧ okOf l w
/-- The world behind. -/
def wOf : List Fx → World → World
  | [], w => w
  | .store _ a v :: l, w => wOf l (w.setCell a v)
  | .new o _ :: l, w => wOf l { w with heap := w.heap.push o }
  | .setObj r o :: l, w => wOf l { w with heap := w.heap.setIfInBounds r o }
  | .ask _ _ :: l, w => wOf l { w with drawn := w.drawn + 1 }
  | .sys c _ :: l, w => wOf l (w.sys c).2
  | .hit k a _ n :: l, w => wOf l (w.setCell a (.int k n))
  | .load .. :: l, w | .shape .. :: l, w | .frz .. :: l, w | .getObj .. :: l, w | .test .. :: l, w | .mark _ :: l, w | .miss .. :: l, w => wOf l w
/-- What is listed. -/
def esOf : List Fx → List Event
  | [] => []
  | .load m a _ :: l => ⟨.cell a, false, m == .atomic⟩ :: esOf l
  | .store m a _ :: l => ⟨.cell a, true, m == .atomic⟩ :: esOf l
  | .getObj r o :: l => ⟨.obj r, false, o.isChan⟩ :: esOf l
  | .setObj r o :: l => ⟨.obj r, true, o.isChan⟩ :: esOf l
  | .mark m :: l => ⟨.mark m, false, true⟩ :: esOf l
  | .sys _ _ :: l => ⟨.output, true, false⟩ :: esOf l
  | .hit _ a _ _ :: l => ⟨.cell a, false, true⟩ :: ⟨.cell a, true, true⟩ :: esOf l
  | .miss _ a _ _ :: l => ⟨.cell a, false, true⟩ :: esOf l
  | .new .. :: l | .shape .. :: l | .frz .. :: l | .test .. :: l | .ask .. :: l => esOf l
/-- A run of the free monad by its answers. -/
def ev {α : Type} (P : Program) : Sem α → List Ans → Option (α × List Fx × List Ans)
  | .pure a, ans => some (a, [], ans)
  | .load m a k, ans => match ans with
    | .val v :: ans => match ev P (k v) ans with
      | some (x, l, r) => some (x, .load m a v :: l, r)
      | none => none
    | _ => none
  | .store m a v k, ans => match v with
    | .agg _ | .tuple _ => none
    | v => match ev P k ans with
      | some (x, l, r) => some (x, .store m a v :: l, r)
      | none => none
  | .new o k, ans => match ans with
    | .num n :: ans => match ev P (k n) ans with
      | some (x, l, r) => some (x, .new o n :: l, r)
      | none => none
    | _ => none
  | .shape b k, ans => match ans with
    | .shape y :: ans => match ev P (k y) ans with
      | some (x, l, r) => some (x, .shape b y :: l, r)
      | none => none
    | _ => none
  | .freeze _ _ _, _ => none
  | .frozen a k, ans => match ans with
    | .frz b :: ans => match ev P (k b) ans with
      | some (x, l, r) => some (x, .frz a b :: l, r)
      | none => none
    | _ => none
  | .getObj b k, ans => match ans with
    | .obj o :: ans => match o with
      | .cells .. => none
      | o => match ev P (k o) ans with
        | some (x, l, r) => some (x, .getObj b o :: l, r)
        | none => none
    | _ => none
  | .setObj b o k, ans => match ev P k ans with
    | some (x, l, r) => some (x, .setObj b o :: l, r)
    | none => none
  | .choose q k, ans => match q.forced with
    | true => ev P (k 0) ans
    | false => match ans with
      | .num n :: ans => match ev P (k n) ans with
        | some (x, l, r) => some (x, .ask q n :: l, r)
        | none => none
      | _ => none
  | .sys c k, ans => match ans with
    | .sys y :: ans => match ev P (k y) ans with
      | some (x, l, r) => some (x, .sys c y :: l, r)
      | none => none
    | _ => none
  | .program k, ans => ev P (k P) ans
  | .mark m k, ans => match ev P k ans with
    | some (x, l, r) => some (x, .mark m :: l, r)
    | none => none
  | .halt _, _ => none
theorem ev_sound {α : Type} {P : Program} {s : Sem α} : ∀ {ans : List Ans} {x : α} {l : List Fx} {r : List Ans} {w : World} {es : Array Event}, ev P s ans = some (x, l, r) → okOf l w →
    s.runT P w es = (.ok x (wOf l w), es ++ (esOf l).toArray) := by
  induction s with
  | pure a =>
    intro ans x l r w es h hw
    simp only [ev, Option.some.injEq, Prod.mk.injEq] at h
    obtain ⟨rfl, rfl, rfl⟩ := h
    simp [Sem.runT, wOf, esOf]
  | load m a k ih =>
    intro ans x l r w es h hw
    unfold ev at h
    split at h
    · rename_i v ans'
      split at h
      · rename_i x' l' r' he
        simp only [Option.some.injEq, Prod.mk.injEq] at h
        obtain ⟨rfl, rfl, rfl⟩ := h
        simp only [Sem.runT, hw.1, ih v he hw.2, wOf, esOf]
        simp
      · cases h
    · cases h
  | store m a v k ih =>
    intro ans x l r w es h hw
    have key : (match ev P k ans with | some (x, l, r) => some (x, Fx.store m a v :: l, r) | none => none) = some (x, l, r) → okOf l w → (match v with | .agg _ | .tuple _ => False | _ => True) → (Sem.store m a v k).runT P w es = (.ok x (wOf l w), es ++ (esOf l).toArray) := by
      intro h hw hv
      split at h
      · rename_i x' l' r' he
        simp only [Option.some.injEq, Prod.mk.injEq] at h
        obtain ⟨rfl, rfl, rfl⟩ := h
        obtain ⟨⟨y, hy⟩, h2, h3⟩ := hw
        cases v <;> first | exact hv.elim | (simp only [Sem.runT, hy, h2, ih he h3, wOf, esOf]; simp)
      · cases h
    cases v <;> first | (cases h; done) | exact key h hw trivial
  | new o k ih =>
    intro ans x l r w es h hw
    unfold ev at h
    split at h
    · rename_i n ans'
      split at h
      · rename_i x' l' r' he
        simp only [Option.some.injEq, Prod.mk.injEq] at h
        obtain ⟨rfl, rfl, rfl⟩ := h
        obtain ⟨rfl, hw⟩ := hw
        simp only [Sem.runT, ih _ he hw, wOf, esOf]
      · cases h
    · cases h
  | shape b k ih =>
    intro ans x l r w es h hw
    unfold ev at h
    split at h
    · rename_i n ans'
      split at h
      · rename_i x' l' r' he
        simp only [Option.some.injEq, Prod.mk.injEq] at h
        obtain ⟨rfl, rfl, rfl⟩ := h
        obtain ⟨rfl, hw⟩ := hw
        simp only [Sem.runT, ih _ he hw, wOf, esOf]
      · cases h
    · cases h
  | freeze a n k ih => intro ans x l r w es h hw; cases h
  | frozen a k ih =>
    intro ans x l r w es h hw
    unfold ev at h
    split at h
    · rename_i n ans'
      split at h
      · rename_i x' l' r' he
        simp only [Option.some.injEq, Prod.mk.injEq] at h
        obtain ⟨rfl, rfl, rfl⟩ := h
        obtain ⟨rfl, hw⟩ := hw
        simp only [Sem.runT, ih _ he hw, wOf, esOf]
      · cases h
    · cases h
  | getObj b k ih =>
    intro ans x l r w es h hw
    unfold ev at h
    split at h
    · rename_i o ans'
      split at h
      · cases h
      · split at h
        · rename_i x' l' r' he
          simp only [Option.some.injEq, Prod.mk.injEq] at h
          obtain ⟨rfl, rfl, rfl⟩ := h
          obtain ⟨h1, h2, hw⟩ := hw
          cases o <;> first | exact h2.elim | (simp only [Sem.runT, h1, ih _ he hw, wOf, esOf]; simp)
        · cases h
    · cases h
  | setObj b o k ih =>
    intro ans x l r w es h hw
    unfold ev at h
    split at h
    · rename_i x' l' r' he
      simp only [Option.some.injEq, Prod.mk.injEq] at h
      obtain ⟨rfl, rfl, rfl⟩ := h
      obtain ⟨h2, hw⟩ := hw
      cases ho : w.heap[b]? with
      | none => rw [ho] at h2; exact h2.elim
      | some p =>
        rw [ho] at h2
        cases p <;> first | exact h2.elim | (simp only [Sem.runT, ho, ih he hw, wOf, esOf]; simp)
    · cases h
  | choose q k ih =>
    intro ans x l r w es h hw
    unfold ev at h
    split at h
    · rename_i hf
      simp only [Sem.runT, hf, if_true]
      exact ih 0 h hw
    · rename_i hf
      split at h
      · rename_i n ans'
        split at h
        · rename_i x' l' r' he
          simp only [Option.some.injEq, Prod.mk.injEq] at h
          obtain ⟨rfl, rfl, rfl⟩ := h
          obtain ⟨h1, rfl, hw⟩ := hw
          simp only [Sem.runT, h1, ih _ he hw, wOf, esOf]
          simp
        · cases h
      · cases h
  | sys c k ih =>
    intro ans x l r w es h hw
    unfold ev at h
    split at h
    · rename_i n ans'
      split at h
      · rename_i x' l' r' he
        simp only [Option.some.injEq, Prod.mk.injEq] at h
        obtain ⟨rfl, rfl, rfl⟩ := h
        obtain ⟨rfl, hw⟩ := hw
        simp only [Sem.runT, ih _ he hw, wOf, esOf]
        simp
      · cases h
    · cases h
  | program k ih => intro ans x l r w es h hw; simp only [Sem.runT]; exact ih P h hw
  | mark m k ih =>
    intro ans x l r w es h hw
    unfold ev at h
    split at h
    · rename_i x' l' r' he
      simp only [Option.some.injEq, Prod.mk.injEq] at h
      obtain ⟨rfl, rfl, rfl⟩ := h
      simp only [Sem.runT, ih he hw, wOf, esOf]
      simp
    · cases h
  | halt h => intro ans x l r w es h hw; cases h
/-- What is known of a program's functions: which numbers are CompareAndSwap, of which kind; which are entries of the model's, which; which have a Go body. -/
structure Tab where
  cas : List (FuncId × IntKind)
  ext : List (FuncId × (Array Value → Sem Value))
  bod : List FuncId
structure TabOk (P : Program) (C : Tab) : Prop where
  cas : ∀ f k, (f, k) ∈ C.cas → ∃ fn, P.funcs[f]? = some fn ∧ (fn.name == "runtime.NumGoroutine") = false ∧ fn.body.isNone = true ∧ Extern.findNext fn = none ∧ Extern.find fn = some (Extern.Atomic.casT (.int k))
  ext : ∀ f e, (f, e) ∈ C.ext → ∃ fn, P.funcs[f]? = some fn ∧ (fn.name == "runtime.NumGoroutine") = false ∧ fn.body.isNone = true ∧ Extern.findNext fn = none ∧ Extern.find fn = some e
  bod : ∀ f, f ∈ C.bod → ∃ fn, P.funcs[f]? = some fn ∧ (fn.name == "runtime.NumGoroutine") = false ∧ fn.body.isNone = false
theorem lookup_mem {β : Type} {C : List (FuncId × β)} {f : FuncId} {k : β} (h : C.lookup f = some k) : (f, k) ∈ C := by
  induction C with
  | nil => cases h
  | cons p C ih =>
    obtain ⟨f', k'⟩ := p
    simp only [List.lookup] at h
    split at h
    · rename_i he
      simp only [beq_iff_eq] at he
      subst he
      cases h
      exact List.mem_cons_self ..
    · exact List.mem_cons_of_mem _ (ih h)
/-- A call by number. -/
def evCall (P : Program) (C : Tab) (f : FuncId) (args : Array Value) (ans : List Ans) : Option (Next × List Fx × List Ans) :=
  match C.ext.lookup f with
  | some e => match ev P (e args) ans with
    | some (v, l, r) => some (.value v, .mark (.extern f) :: l, r)
    | none => none
  | none => match C.bod.contains f with
    | true => some (.enter f args, [], ans)
    | false => ev P (callFunc f args) ans
theorem evCall_sound {P : Program} {C : Tab} (hC : TabOk P C) {f : FuncId} {args : Array Value} {ans : List Ans} {x : Next} {l : List Fx} {r : List Ans} {w : World} {es : Array Event}
    (h : evCall P C f args ans = some (x, l, r)) (hw : okOf l w) : (callFunc f args).runT P w es = (.ok x (wOf l w), es ++ (esOf l).toArray) := by
  unfold evCall at h
  split at h
  · rename_i e he
    obtain ⟨fn, hf, hname, hb, hn, hx⟩ := hC.ext f e (lookup_mem he)
    split at h
    · rename_i v l' r' hev
      simp only [Option.some.injEq, Prod.mk.injEq] at h
      obtain ⟨rfl, rfl, rfl⟩ := h
      have hr := ev_sound (w := w) (es := es.push ⟨.mark (.extern f), false, true⟩) hev hw
      apply Prod.ext
      · rw [Sem.runT_fst, run_callFunc_extern hf hname hb hn hx, ← Sem.runT_fst P _ _ (es.push ⟨.mark (.extern f), false, true⟩), hr]
        rfl
      · show (callFunc f _).events P w es = _
        rw [events_callFunc_extern hf hname hb hn hx]
        show ((e args).runT P w _).2 = _
        rw [hr]
        apply Array.ext'
        simp [esOf]
    · cases h
  · split at h
    · rename_i hb
      obtain ⟨fn, hf, hname, hb⟩ := hC.bod f (by simpa using hb)
      simp only [Option.some.injEq, Prod.mk.injEq] at h
      obtain ⟨rfl, rfl, rfl⟩ := h
      have h1 : fn.name ≠ "runtime.NumGoroutine" := by simpa using hname
      have : callFunc f args = .program fun p => (match p.funcs[f]? with | none => stuck "call: no such function" | some fn => _) := rfl
      have e : ev P (callFunc f args) ([] : List Ans) = some (.enter f args, [], []) := by
        unfold callFunc
        simp only [bind, Sem.bind, program, ev, hf]
        simp [h1, hb, ev, pure]
      have := ev_sound (w := w) (es := es) e trivial
      simpa [wOf, esOf] using this
    · exact ev_sound h hw
/-- An operation: CompareAndSwap and 'pick' by an answer, all else by 'ev'. -/
def evOp (P : Program) (C : Tab) (ρ : Operand → Value) (o : Oper) (ans : List Ans) : Option (Next × List Fx × List Ans) :=
  match o.op with
  | .pick c a b => match ρ c, ans with
    | .bool t, .bool x :: ans => some (.value (if x then ρ a else ρ b), [.test t x], ans)
    | _, _ => none
  | .indexAddr t x ix => match P.underlying t, ρ x, ρ ix, ans with
    | some (.slice elem), .slice (some a) len _, .int _ i, .bool true :: ans => match P.info? elem with
      | some inf => some (.value (.pointer (some (a.add (i.toNat * inf.size)))), [.test (decide (0 ≤ i ∧ i < len)) true], ans)
      | none => none
    | _, _, _, _ => none
  | .call { callee := .value (.func f), args := as, .. } => match C.cas.lookup f with
    | some k => match as.map ρ, ans with
      | ⟨[.pointer (some a), .int k' old, .int k'' n]⟩, .hit :: ans => if k' = k ∧ k'' = k then some (.value (.bool true), [.mark (.extern f), .hit k a old n], ans) else none
      | ⟨[.pointer (some a), .int k' old, .int k'' n]⟩, .miss v :: ans => if k' = k ∧ k'' = k then some (.value (.bool false), [.mark (.extern f), .miss k a v old], ans) else none
      | _, _ => none
    | none => evCall P C f (as.map ρ) ans
  | _ => ev P (execOp ρ o) ans
theorem execOp_call {ρ : Operand → Value} (hρ : ∀ f, ρ (.func f) = .func (.func f) #[] #[]) {o : Oper} {f : FuncId} {as : Array Operand} {ats : Array TypeId} (hop : o.op = .call { callee := .value (.func f), args := as, argTypes := ats }) : execOp ρ o = callFunc f (as.map ρ) := by
  unfold execOp
  simp [hop, resolve, Deferred.ofValue, invoke, hρ]
theorem evOp_sound {P : Program} {C : Tab} (hC : TabOk P C) {ρ : Operand → Value} (hρ : ∀ f, ρ (.func f) = .func (.func f) #[] #[]) {o : Oper} {ans : List Ans} {x : Next} {l : List Fx} {r : List Ans} {w : World} {es : Array Event}
    (h : evOp P C ρ o ans = some (x, l, r)) (hw : okOf l w) : (execOp ρ o).runT P w es = (.ok x (wOf l w), es ++ (esOf l).toArray) := by
  unfold evOp at h
  split at h
  · rename_i c a b hop
    split at h
    · rename_i t x' ans' hc
      simp only [Option.some.injEq, Prod.mk.injEq] at h
      obtain ⟨rfl, rfl, rfl⟩ := h
      obtain ⟨rfl, _⟩ := hw
      unfold execOp
      simp only [hop, hc]
      show (Sem.runT P (Sem.pure _) w es) = _
      simp [Sem.runT, wOf, esOf]
    · cases h
  · rename_i t y ix hop
    split at h
    · rename_i elem a len cp k i ans' hu hx hi
      split at h
      · rename_i inf hinf
        simp only [Option.some.injEq, Prod.mk.injEq] at h
        obtain ⟨rfl, rfl, rfl⟩ := h
        obtain ⟨ht, _⟩ := hw
        have ht := of_decide_eq_true ht
        unfold execOp
        simp only [hop, hx, hi]
        have e : ev P (do pure (Next.value (← Instr.indexAt t (.slice (some a) len cp) (.int k i))) : Sem Next) ([] : List Ans) = some (.value (.pointer (some (a.add (i.toNat * inf.size)))), [], []) := by
          unfold Instr.indexAt
          simp only [bind, Sem.bind, pure, asIntOf, underlying, program, hu, ev, sizeOf, typeInfo, hinf, ht, and_self, if_true]
        have := ev_sound (w := w) (es := es) e trivial
        simpa [wOf, esOf] using this
      · cases h
    · cases h
  · rename_i f as ats hop
    split at h
    · rename_i k hk
      obtain ⟨fn, hf, hname, hb, hn, he⟩ := hC.cas f k (lookup_mem hk)
      have e0 := execOp_call hρ hop
      have run : ∀ {a : Addr} {old n : Int}, as.map ρ = #[.pointer (some a), .int k old, .int k n] → ∀ {b : Bool} {w' : World} {evs : Array Event}, (casBody k a old n).run P w = .ok (.bool b) w' →
          (casBody k a old n).events P w (es.push ⟨.mark (.extern f), false, true⟩) = (es.push ⟨.mark (.extern f), false, true⟩) ++ evs → (execOp ρ o).runT P w es = (.ok (.value (.bool b)) w', (es.push ⟨.mark (.extern f), false, true⟩) ++ evs) := by
        intro a old n e1 b w' evs hr hv
        rw [e0, e1]
        apply Prod.ext
        · rw [Sem.runT_fst, run_callFunc_extern hf hname hb hn he, casT_eq, hr]
          rfl
        · show (callFunc f _).events P w es = _
          rw [events_callFunc_extern hf hname hb hn he, casT_eq, hv]
      split at h
      · rename_i a k' old k'' n ans' e1
        split at h
        · rename_i hkk
          obtain ⟨rfl, rfl⟩ := hkk
          simp only [Option.some.injEq, Prod.mk.injEq] at h
          obtain ⟨rfl, rfl, rfl⟩ := h
          obtain ⟨hc, hz, _⟩ := hw
          rw [run e1 (run_cas_hit_entry hc hz) (evs := #[⟨.cell a, false, true⟩, ⟨.cell a, true, true⟩]) (by rw [events_cas_hit_entry hc hz]; apply Array.ext'; simp)]
          refine Prod.ext rfl ?_
          apply Array.ext'
          simp [esOf]
        · cases h
      · rename_i a k' old k'' n v ans' e1
        split at h
        · rename_i hkk
          obtain ⟨rfl, rfl⟩ := hkk
          simp only [Option.some.injEq, Prod.mk.injEq] at h
          obtain ⟨rfl, rfl, rfl⟩ := h
          obtain ⟨hc, hz, hne, _⟩ := hw
          rw [run e1 (run_cas_miss_entry hc hz hne) (evs := #[⟨.cell a, false, true⟩]) (by rw [events_cas_miss_entry hc hz hne]; apply Array.ext'; simp)]
          refine Prod.ext rfl ?_
          apply Array.ext'
          simp [esOf]
        · cases h
      · cases h
    · rw [execOp_call hρ hop]
      exact evCall_sound hC h hw
  · exact ev_sound h hw
end Go.Proofs.YthjofgmiabcifabGreatDoor.Ev
namespace Go.Proofs.YthjofgmiabcifabGreatDoor.Ev
open Go Go.Conc
/-- A goroutine that runs. -/
abbrev on (fr : Frame) (cs : List Frame) : Goroutine := { frame := fr, callers := cs, status := .running, dying := none }
/-- Is a guarded operation wanted? By an answer. -/
def guardOf (ops : Array Oper) (tmps : Array Value) (o : Oper) (ans : List Ans) : Option (Bool × List Fx × List Ans) :=
  match o.guard with
  | none => some (true, [], ans)
  | some (j, want) => match yielded ops tmps j, ans with
    | some t, .bool b :: ans => some (b == want, [.test t b], ans)
    | _, _ => none
theorem guardOf_sound {ops : Array Oper} {tmps : Array Value} {o : Oper} {ans : List Ans} {b : Bool} {l : List Fx} {r : List Ans} {w : World} (h : guardOf ops tmps o ans = some (b, l, r)) (hw : okOf l w) :
    Region.wanted o (yielded ops tmps) = b ∧ wOf l w = w ∧ esOf l = [] ∧ ∀ l', (okOf (l ++ l') w ↔ okOf l' w) := by
  unfold guardOf at h
  unfold Region.wanted
  split at h
  · rename_i hg
    simp only [Option.some.injEq, Prod.mk.injEq] at h
    obtain ⟨rfl, rfl, rfl⟩ := h
    rw [hg]
    exact ⟨rfl, rfl, rfl, fun l' => Iff.rfl⟩
  · rename_i j want hg
    split at h
    · rename_i t x ans' hy
      simp only [Option.some.injEq, Prod.mk.injEq] at h
      obtain ⟨rfl, rfl, rfl⟩ := h
      obtain ⟨rfl, _⟩ := hw
      rw [hg]
      refine ⟨?_, rfl, rfl, fun l' => ⟨fun h => h.2, fun h => ⟨rfl, h⟩⟩⟩
      simp only [hy]
      rfl
    · cases h
/-- What an operation leads to. -/
def nextOf (P : Program) (fr : Frame) (cs : List Frame) : Next → Option Goroutine
  | .value v => some (on (fr.finish v) cs)
  | .skip => some (on (fr.finish undef) cs)
  | .enter f args => some (on (Frame.enter P f args .normal) (fr :: cs))
  | .defer d => some (on ({ fr with defers := d :: fr.defers }.finish undef) cs)
  | _ => none
def gexec (P : Program) (C : Tab) (fr : Frame) (cs : List Frame) (ans : List Ans) : Option (Goroutine × List Fx × List Ans) :=
  match fr.kind with
  | .early => none
  | _ =>
  match fr.roundOf with
  | some _ => none
  | none =>
  match fr.todo with
  | [] => some (on { fr with mode := .returning } cs, [], ans)
  | .inBlock _ :: k | .inScope _ :: k => some (on { fr with todo := k } cs, [], ans)
  | .inLoop body :: k => some (on { fr with todo := .code body :: .inLoop body :: k } cs, [], ans)
  | .inRegion ops [] :: k => some (on { fr with todo := k } cs, [], ans)
  | .inRegion ops (i :: is) :: k => match ops[i]? with
    | none => none
    | some o => match guardOf ops fr.tmps o ans with
      | none => none
      | some (false, l, ans) => some (on (fr.finish undef) cs, l, ans)
      | some (true, l, ans) => match evOp P C fr.eval o ans with
        | none => none
        | some (n, l', ans) => match nextOf P fr cs n with
          | some g => some (g, l ++ l', ans)
          | none => none
  | .code c :: k => match c with
    | .ret => some (on { fr with mode := .returning } cs, [], ans)
    | .skip | .label _ => some (on { fr with todo := k } cs, [], ans)
    | .seq a b => some (on { fr with todo := .code a :: .code b :: k } cs, [], ans)
    | .cond c x y => match fr.eval c, ans with
      | .bool t, .bool b :: ans => some (on { fr with todo := .code (if b then x else y) :: k } cs, [.test t b], ans)
      | _, _ => none
    | .block id body => some (on { fr with todo := .code body :: .inBlock id :: k } cs, [], ans)
    | .loop body => some (on { fr with todo := .code body :: .inLoop body :: k } cs, [], ans)
    | .scope body => some (on { fr with todo := .code body :: .inScope body :: k } cs, [], ans)
    | .exit id => match exitTo id k with
      | some k' => some (on { fr with todo := k' } cs, [], ans)
      | none => none
    | .region id ops draw => match draw with
      | false => some (on { fr with todo := .inRegion ops (List.range ops.size) :: k } cs, [], ans)
      | true => match ans with
        | .num t :: ans => some (on { fr with todo := .inRegion ops (Region.schedule (P.follows .mixedOrders) ops t) :: k } cs, [.ask (.order fr.fn id) t], ans)
        | _ => none
    | _ => none
  | _ => none
def gunwind (P : Program) (C : Tab) (main : Bool) (fr : Frame) (cs : List Frame) (ans : List Ans) : Option (Goroutine × List Fx × List Ans) :=
  match fr.defers with
  | d :: ds => match d.target with
    | .fn (.func f) capt => match evCall P C f (d.args ++ capt) ans with
      | some (.enter f args, l, r) => some (on (Frame.enter P f args .deferred) ({ fr with defers := ds } :: cs), l, r)
      | some (.value _, l, r) => some (on { fr with defers := ds } cs, l, r)
      | _ => none
    | _ => none
  | [] => match P.funcs[fr.fn]? with
    | none => none
    | some fn => match ev P (results fn fr.tmps) ans with
      | none => none
      | some (v, l, r) => match cs with
        | c :: cs => match fr.kind with
          | .normal => some (on (c.finish v) cs, l, r)
          | .deferred => match c.mode with
            | .returning => some (on c cs, l, r)
            | .panicking (⟨_, false, _⟩ :: _) => some (on c cs, l, r)
            | _ => none
          | _ => none
        | [] => none
/-- A frame that is left by Goexit. -/
def gpanic (P : Program) (C : Tab) (fr : Frame) (cs : List Frame) (chain : List PanicEntry) (ans : List Ans) : Option (Goroutine × List Fx × List Ans) :=
  match fr.defers with
  | d :: ds => match d.target with
    | .fn (.func f) capt => match evCall P C f (d.args ++ capt) ans with
      | some (.enter f args, l, r) => some (on (Frame.enter P f args .deferred) ({ fr with defers := ds } :: cs), l, r)
      | _ => none
    | _ => none
  | [] => match fr.catches P, cs, chain with
    | false, [], ⟨_, _, true⟩ :: _ => some ({ frame := fr, callers := [], status := .finished, dying := none }, [], ans)
    | _, _, _ => none
def gstep (P : Program) (C : Tab) (main : Bool) (g : Goroutine) (ans : List Ans) : Option (Goroutine × List Fx × List Ans) :=
  match g.dying with
  | some _ => none
  | none => match g.frame.mode with
    | .run => gexec P C g.frame g.callers ans
    | .returning => gunwind P C main g.frame g.callers ans
    | .panicking chain => gpanic P C g.frame g.callers chain ans
theorem okOf_append {l l' : List Fx} : ∀ {w : World}, okOf (l ++ l') w → okOf l w ∧ okOf l' (wOf l w) := by
  induction l with
  | nil => exact fun h => ⟨trivial, h⟩
  | cons x l ih =>
    intro w h
    cases x <;> simp only [List.cons_append, okOf, wOf] at h ⊢ <;> first
      | exact ⟨⟨h.1, (ih h.2).1⟩, (ih h.2).2⟩
      | exact ⟨⟨h.1, h.2.1, (ih h.2.2).1⟩, (ih h.2.2).2⟩
      | exact ⟨⟨h.1, h.2.1, h.2.2.1, (ih h.2.2.2).1⟩, (ih h.2.2.2).2⟩
      | exact ih h
theorem nextOf_sound {P : Program} {fr : Frame} {cs : List Frame} {s : Sem Next} {n : Next} {g : Goroutine} {w w' : World} {es : Array Event} (he : fr.kind ≠ .early) (ht : ∃ ops is k, fr.todo = .inRegion ops is :: k) (hn : nextOf P fr cs n = some g)
    (hs : s.runT P w #[] = (.ok n w', es)) : stepG.apply P true fr cs none s w = .go g w' (seen P fr.fn es) := by
  have he' : (fr.kind == CallKind.early) = false := by simpa using he
  obtain ⟨ops, is, k, ht⟩ := ht
  unfold stepG.apply
  simp only [if_true, hs]
  cases n with
  | value v => simp only [nextOf, Option.some.injEq] at hn; subst hn; simp [he', GStep.after]
  | skip => simp only [nextOf, Option.some.injEq] at hn; subst hn; simp [he', GStep.after]
  | enter f args => simp only [nextOf, Option.some.injEq] at hn; subst hn; simp [he', GStep.after, ht]
  | defer d => simp only [nextOf, Option.some.injEq] at hn; subst hn; simp [he', GStep.after]
  | _ => cases hn
theorem gexec_sound {P : Program} {C : Tab} (hC : TabOk P C) {main : Bool} {fr : Frame} {cs : List Frame} {st : GoStatus} {of : Option (Array CommCase × CommShape)} {ans : List Ans} {g : Goroutine} {l : List Fx} {r : List Ans} {w : World} (hm : fr.mode = .run) (h : gexec P C fr cs ans = some (g, l, r)) (hw : okOf l w) :
    stepG P main ⟨fr, cs, st, none, of⟩ w = .go g (wOf l w) (seen P fr.fn (esOf l).toArray) := by
  unfold gexec at h
  split at h
  · cases h
  rename_i hke
  split at h
  · cases h
  rename_i hro
  unfold stepG
  simp only [hm]
  unfold stepG.exec
  split at h <;> rename_i htodo
  · simp only [Option.some.injEq, Prod.mk.injEq] at h
    obtain ⟨rfl, rfl, rfl⟩ := h
    simp [htodo, hro, wOf, esOf, seen_none]
  · simp only [Option.some.injEq, Prod.mk.injEq] at h
    obtain ⟨rfl, rfl, rfl⟩ := h
    simp [htodo, wOf, esOf, seen_none]
  · simp only [Option.some.injEq, Prod.mk.injEq] at h
    obtain ⟨rfl, rfl, rfl⟩ := h
    simp [htodo, wOf, esOf, seen_none]
  · simp only [Option.some.injEq, Prod.mk.injEq] at h
    obtain ⟨rfl, rfl, rfl⟩ := h
    simp [htodo, wOf, esOf, seen_none]
  · simp only [Option.some.injEq, Prod.mk.injEq] at h
    obtain ⟨rfl, rfl, rfl⟩ := h
    simp [htodo, wOf, esOf, seen_none]
  · rename_i ops i is k
    split at h
    · cases h
    rename_i o ho
    split at h
    · cases h
    · rename_i l' ans' hg
      simp only [Option.some.injEq, Prod.mk.injEq] at h
      obtain ⟨rfl, rfl, rfl⟩ := h
      obtain ⟨h1, h2, h3, _⟩ := guardOf_sound hg hw
      simp [htodo, ho, h1, h2, h3, seen_none]
    · rename_i l' ans' hg
      split at h
      · cases h
      rename_i n l'' ans'' hev
      split at h
      · rename_i g' hn
        simp only [Option.some.injEq, Prod.mk.injEq] at h
        obtain ⟨rfl, rfl, rfl⟩ := h
        obtain ⟨w1, w2⟩ := okOf_append hw
        obtain ⟨h1, h2, h3, h4⟩ := guardOf_sound hg w1
        rw [h2] at w2
        have hrun := evOp_sound (es := #[]) hC (fun f => rfl) hev w2
        have e1 : wOf (l' ++ l'') w = wOf l'' w := by
          have : ∀ (l : List Fx) w, wOf (l ++ l'') w = wOf l'' (wOf l w) := by
            intro l
            induction l with
            | nil => intro w; rfl
            | cons x l ih => intro w; cases x <;> simp only [List.cons_append, wOf, ih]
          rw [this, h2]
        have e2 : esOf (l' ++ l'') = esOf l'' := by
          have : ∀ (l : List Fx), esOf (l ++ l'') = esOf l ++ esOf l'' := by
            intro l
            induction l with
            | nil => rfl
            | cons x l ih => cases x <;> simp only [List.cons_append, esOf, ih]
          rw [this, h3, List.nil_append]
        rw [e1, e2]
        have key := nextOf_sound (es := (esOf l'').toArray) (fun h => hke h) ⟨ops, i :: is, k, htodo⟩ hn (by simpa using hrun)
        rw [htodo]
        simp only [ho, Option.map_some, h1, Option.getD_some, if_true]
        unfold stepG.oper
        simp only [Frame.oper?, htodo, ho, hro]
        exact key
      · cases h
  · rename_i c k
    split at h
    · simp only [Option.some.injEq, Prod.mk.injEq] at h
      obtain ⟨rfl, rfl, rfl⟩ := h
      simp [htodo, hro, wOf, esOf, seen_none]
    · simp only [Option.some.injEq, Prod.mk.injEq] at h
      obtain ⟨rfl, rfl, rfl⟩ := h
      simp [htodo, wOf, esOf, seen_none]
    · simp only [Option.some.injEq, Prod.mk.injEq] at h
      obtain ⟨rfl, rfl, rfl⟩ := h
      simp [htodo, wOf, esOf, seen_none]
    · simp only [Option.some.injEq, Prod.mk.injEq] at h
      obtain ⟨rfl, rfl, rfl⟩ := h
      simp [htodo, wOf, esOf, seen_none]
    · split at h
      · rename_i t b ans' hc
        simp only [Option.some.injEq, Prod.mk.injEq] at h
        obtain ⟨rfl, rfl, rfl⟩ := h
        obtain ⟨rfl, _⟩ := hw
        simp [htodo, hc, wOf, esOf, seen_none]
      · cases h
    · simp only [Option.some.injEq, Prod.mk.injEq] at h
      obtain ⟨rfl, rfl, rfl⟩ := h
      simp [htodo, wOf, esOf, seen_none]
    · simp only [Option.some.injEq, Prod.mk.injEq] at h
      obtain ⟨rfl, rfl, rfl⟩ := h
      simp [htodo, wOf, esOf, seen_none]
    · simp only [Option.some.injEq, Prod.mk.injEq] at h
      obtain ⟨rfl, rfl, rfl⟩ := h
      simp [htodo, wOf, esOf, seen_none]
    · split at h
      · rename_i k' hx
        simp only [Option.some.injEq, Prod.mk.injEq] at h
        obtain ⟨rfl, rfl, rfl⟩ := h
        simp [htodo, hx, wOf, esOf, seen_none]
      · cases h
    · split at h
      · simp only [Option.some.injEq, Prod.mk.injEq] at h
        obtain ⟨rfl, rfl, rfl⟩ := h
        simp [htodo, wOf, esOf, seen_none]
      · split at h
        · simp only [Option.some.injEq, Prod.mk.injEq] at h
          obtain ⟨rfl, rfl, rfl⟩ := h
          obtain ⟨h1, rfl, _⟩ := hw
          simp [htodo, wOf, esOf, seen_none, choose, Sem.run, h1]
        · cases h
    · cases h
  · cases h
theorem gunwind_sound {P : Program} {C : Tab} (hC : TabOk P C) {main : Bool} {fr : Frame} {cs : List Frame} {st : GoStatus} {of : Option (Array CommCase × CommShape)} {ans : List Ans} {g : Goroutine} {l : List Fx} {r : List Ans} {w : World} (hm : fr.mode = .returning) (h : gunwind P C main fr cs ans = some (g, l, r)) (hw : okOf l w) :
    stepG P main ⟨fr, cs, st, none, of⟩ w = .go g (wOf l w) (seen P fr.fn (esOf l).toArray) := by
  unfold gunwind at h
  unfold stepG
  simp only [hm]
  unfold unwind
  split at h
  · rename_i d ds hd
    split at h
    · rename_i f capt ht
      obtain ⟨tg, dargs⟩ := d
      dsimp only at ht h
      subst ht
      have hev : ∀ {n : Next} {l : List Fx} {r : List Ans}, evCall P C f (dargs ++ capt) ans = some (n, l, r) → okOf l w → (invoke (.fn (.func f) capt) dargs).runT P w #[] = (.ok n (wOf l w), (esOf l).toArray) := by
        intro n l r h hw
        have := evCall_sound (es := #[]) hC h hw
        rw [Array.empty_append] at this
        exact this
      split at h
      · rename_i f' args l' r' he
        simp only [Option.some.injEq, Prod.mk.injEq] at h
        obtain ⟨rfl, rfl, rfl⟩ := h
        have hr := hev he hw
        simp only [hd]
        unfold callDeferred
        simp only [hr]
        simp [hm, GStep.after]
      · rename_i v l' r' he
        simp only [Option.some.injEq, Prod.mk.injEq] at h
        obtain ⟨rfl, rfl, rfl⟩ := h
        have hr := hev he hw
        simp only [hd]
        unfold callDeferred
        simp only [hr]
        simp [hm, GStep.after]
      · cases h
    · cases h
  · rename_i hd
    split at h
    · cases h
    rename_i fn hfn
    split at h
    · cases h
    rename_i v l' r' he
    have hr := ev_sound (w := w) (es := #[]) he
    split at h
    · rename_i c cs'
      split at h
      · rename_i hk
        simp only [Option.some.injEq, Prod.mk.injEq] at h
        obtain ⟨rfl, rfl, rfl⟩ := h
        have hr := hr hw
        rw [hd]
        simp only [hm, hfn, hr]
        simp [doReturn, hk, GStep.after]
      · rename_i hk
        split at h
        · rename_i hcm
          simp only [Option.some.injEq, Prod.mk.injEq] at h
          obtain ⟨rfl, rfl, rfl⟩ := h
          have hr := hr hw
          rw [hd]
          simp only [hm, hfn, hr]
          simp [doReturn, hk, GStep.after, hcm]
        · rename_i hcm
          simp only [Option.some.injEq, Prod.mk.injEq] at h
          obtain ⟨rfl, rfl, rfl⟩ := h
          have hr := hr hw
          rw [hd]
          simp only [hm, hfn, hr]
          simp [doReturn, hk, GStep.after, hcm]
        · cases h
      · cases h
    · cases h
theorem gpanic_sound {P : Program} {C : Tab} (hC : TabOk P C) {main : Bool} {fr : Frame} {cs : List Frame} {st : GoStatus} {of : Option (Array CommCase × CommShape)} {ans : List Ans} {g : Goroutine} {l : List Fx} {r : List Ans} {w : World} {chain : List PanicEntry} (hm : fr.mode = .panicking chain) (h : gpanic P C fr cs chain ans = some (g, l, r)) (hw : okOf l w) :
    stepG P main ⟨fr, cs, st, none, of⟩ w = .go g (wOf l w) (seen P fr.fn (esOf l).toArray) := by
  unfold gpanic at h
  unfold stepG
  simp only [hm]
  unfold unwind
  split at h
  · rename_i d ds hd
    split at h
    · rename_i f capt ht
      obtain ⟨tg, dargs⟩ := d
      dsimp only at ht h
      subst ht
      split at h
      · rename_i f' args l' r' he
        simp only [Option.some.injEq, Prod.mk.injEq] at h
        obtain ⟨rfl, rfl, rfl⟩ := h
        have hr : (invoke (.fn (.func f) capt) dargs).runT P w #[] = _ := evCall_sound (es := #[]) hC he hw
        rw [Array.empty_append] at hr
        simp only [hd]
        unfold callDeferred
        simp only [hr]
        simp [hm, GStep.after]
      · cases h
    · cases h
  · rename_i hd
    split at h
    · rename_i hc
      simp only [Option.some.injEq, Prod.mk.injEq] at h
      obtain ⟨rfl, rfl, rfl⟩ := h
      rw [hd]
      simp [hm, hc, wOf, esOf, seen_none]
    · cases h
theorem gstep_sound {P : Program} {C : Tab} (hC : TabOk P C) {main : Bool} {g g' : Goroutine} {ans : List Ans} {l : List Fx} {r : List Ans} {w : World} (h : gstep P C main g ans = some (g', l, r)) (hw : okOf l w) :
    stepG P main g w = .go g' (wOf l w) (seen P g.frame.fn (esOf l).toArray) := by
  obtain ⟨fr, cs, st, dy, of⟩ := g
  unfold gstep at h
  dsimp only at h
  split at h
  · cases h
  split at h
  · exact gexec_sound hC ‹_› h hw
  · exact gunwind_sound hC ‹_› h hw
  · exact gpanic_sound hC ‹_› h hw
end Go.Proofs.YthjofgmiabcifabGreatDoor.Ev
namespace Go.Proofs.YthjofgmiabcifabGreatDoor.Ev
open Go Go.Conc
def muteFx : Fx → Bool
  | .test .. | .shape .. | .frz .. | .mark (.extern _) => true
  | _ => false
def mute (l : List Fx) : Bool := l.all muteFx
theorem mute_w {l : List Fx} (h : mute l = true) : ∀ w, wOf l w = w := by
  induction l with
  | nil => intro w; rfl
  | cons x l ih =>
    simp only [mute, List.all_cons, Bool.and_eq_true] at h
    intro w
    cases x <;> simp only [muteFx] at h <;> first | (cases h.1; done) | exact ih h.2 w
theorem mute_append {l l' : List Fx} {w : World} (h : mute l = true) : okOf (l ++ l') w ↔ okOf l w ∧ okOf l' w := by
  induction l with
  | nil => simp [okOf]
  | cons x l ih =>
    simp only [mute, List.all_cons, Bool.and_eq_true] at h
    have := ih h.2
    cases x <;> simp only [muteFx] at h <;> first | (cases h.1; done) | simp only [List.cons_append, okOf, this, and_assoc]
theorem mute_seen {P : Program} {fn : FuncId} {l : List Fx} (h : mute l = true) : seen P fn (esOf l).toArray = #[] := by
  rw [seen_def]
  have key : ∀ (l : List Fx) (q : Bool), mute l = true → ((esOf l).foldl (seenStep fun f => (P.funcs[f]?).any (·.norace)) (q, #[])).2 = #[] := by
    intro l
    induction l with
    | nil => intro q _; rfl
    | cons x l ih =>
      intro q h
      simp only [mute, List.all_cons, Bool.and_eq_true] at h
      cases x with
      | mark m =>
        cases m with
        | extern f => exact ih _ h.2
        | _ => cases h.1
      | test => exact ih _ h.2
      | shape => exact ih _ h.2
      | frz => exact ih _ h.2
      | _ => cases h.1
  simpa using key l _ h
/-- A quiet run, reckoned. -/
def grun (P : Program) (C : Tab) (main : Bool) : Nat → Goroutine → List Ans → Option (Goroutine × List Fx)
  | 0, g, ans => match ans with
    | [] => some (g, [])
    | _ => none
  | n + 1, g, ans => match g.status with
    | .running => match gstep P C main g ans with
      | some (g', l, r) => match mute l with
        | true => match grun P C main n g' r with
          | some (h, l') => some (h, l ++ l')
          | none => none
        | false => none
      | none => none
    | _ => none
/-- A step that looks at the world, and the quiet run behind it. -/
def gseg (P : Program) (C : Tab) (main : Bool) (n : Nat) (g : Goroutine) (ans ans' : List Ans) : Option (List Fx × Goroutine × List Fx) :=
  match gstep P C main g ans with
  | some (g', l, []) => match grun P C main n g' ans' with
    | some (h, l') => some (l, h, l')
    | none => none
  | _ => none
/-- From g to h by n quiet steps. -/
def Sil (P : Program) (main : Bool) (Live : World → Prop) : Nat → Goroutine → Goroutine → Prop
  | 0, g, h => g = h
  | n + 1, g, h => g.status = .running ∧ ∃ g', (∀ w, Live w → stepG P main g w = .go g' w #[]) ∧ Sil P main Live n g' h
section
variable {P : Program} {C : Tab} {main : Bool} {Live : World → Prop}
theorem grun_sound (hC : TabOk P C) : ∀ {n : Nat} {g h : Goroutine} {ans : List Ans} {l : List Fx}, grun P C main n g ans = some (h, l) → (∀ w, Live w → okOf l w) → Sil P main Live n g h := by
  intro n
  induction n with
  | zero =>
    intro g h ans l hr _
    unfold grun at hr
    split at hr
    · simp only [Option.some.injEq, Prod.mk.injEq] at hr
      exact hr.1
    · cases hr
  | succ n ih =>
    intro g h ans l hr hl
    unfold grun at hr
    split at hr
    · rename_i hs
      split at hr
      · rename_i g' l1 r1 hg
        split at hr
        · rename_i hm
          split at hr
          · rename_i h' l2 hr2
            simp only [Option.some.injEq, Prod.mk.injEq] at hr
            obtain ⟨rfl, rfl⟩ := hr
            refine ⟨hs, g', fun w hw => ?_, ih hr2 fun w hw => ((mute_append hm).1 (hl w hw)).2⟩
            have hok := (mute_append hm).1 (hl w hw)
            rw [gstep_sound hC hg hok.1, mute_w hm, mute_seen hm]
          · cases hr
        · cases hr
      · cases hr
    · cases hr
/-- A step that looks at the world; behind it the quiet run. -/
theorem gseg_sound (hC : TabOk P C) {n : Nat} {g h : Goroutine} {ans ans' : List Ans} {l l' : List Fx} (hs : gseg P C main n g ans ans' = some (l, h, l')) (hl : ∀ w, Live w → okOf l' w) :
    ∃ g', (∀ w, okOf l w → stepG P main g w = .go g' (wOf l w) (seen P g.frame.fn (esOf l).toArray)) ∧ Sil P main Live n g' h := by
  unfold gseg at hs
  split at hs
  · rename_i g' l1 hg
    split at hs
    · rename_i h' l2 hr
      simp only [Option.some.injEq, Prod.mk.injEq] at hs
      obtain ⟨rfl, rfl, rfl⟩ := hs
      exact ⟨g', fun w hw => gstep_sound hC hg hw, grun_sound hC hr hl⟩
    · cases hs
  · cases hs
end
end Go.Proofs.YthjofgmiabcifabGreatDoor.Ev
namespace Go.Proofs.YthjofgmiabcifabGreatDoor.Ev
open Go Go.Conc
/-- The unguarded operation at a plain frame's head. -/
def gop (g : Goroutine) : Option Oper :=
  match g.dying, g.frame.mode, g.frame.kind, g.frame.roundOf, g.frame.todo with
  | some _, _, _, _, _ => none
  | none, .run, .early, _, _ => none
  | none, .run, _, none, .inRegion ops (i :: _) :: _ => match ops[i]? with
    | some o => match o.guard with
      | none => some o
      | some _ => none
    | none => none
  | _, _, _, _, _ => none
theorem gop_sound {P : Program} {main : Bool} {g : Goroutine} {o : Oper} {w : World} (h : gop g = some o) :
    g.frame.kind ≠ .early ∧ stepG P main g w = stepG.apply P true g.frame g.callers none (execOp g.frame.eval o) w := by
  obtain ⟨fr, cs, st, dy, of⟩ := g
  unfold gop at h
  dsimp only at h ⊢
  split at h
  · cases h
  · cases h
  · rename_i ops i is k hm hr ht hk
    split at h
    · rename_i o' ho
      split at h
      · rename_i hg
        simp only [Option.some.injEq] at h
        subst h
        refine ⟨fun e => hk e, ?_⟩
        unfold stepG
        simp only [hm]
        unfold stepG.exec
        simp only [ht, ho, Option.map_some, Option.getD_some, Region.wanted, hg, if_true]
        unfold stepG.oper
        simp only [Frame.oper?, ht, ho, hr]
      · cases h
    · cases h
  · cases h
/-- A communication. -/
def gcomm (P : Program) (g : Goroutine) : Option (Array CommCase × Bool × CommShape) :=
  match gop g with
  | none => none
  | some o => match ev P (execOp g.frame.eval o) [] with
    | some (.comm cs b sh, [], _) => some (cs, b, sh)
    | _ => none
theorem gcomm_sound {P : Program} {main : Bool} {g : Goroutine} {cs : Array CommCase} {b : Bool} {sh : CommShape} {w : World} (h : gcomm P g = some (cs, b, sh)) :
    stepG P main g w = .comm (on g.frame g.callers) cs b sh w #[] := by
  unfold gcomm at h
  split at h
  · cases h
  rename_i o ho
  split at h
  · rename_i he
    simp only [Option.some.injEq, Prod.mk.injEq] at h
    obtain ⟨rfl, rfl, rfl⟩ := h
    obtain ⟨hk, hs⟩ := gop_sound (P := P) (main := main) (w := w) ho
    have hk' : (g.frame.kind == CallKind.early) = false := by simpa using hk
    have hr := ev_sound (es := #[]) (w := w) he trivial
    rw [hs]
    unfold stepG.apply
    simp only [if_true, hr]
    simp [wOf, esOf, hk', seen_none, GStep.after]
  · cases h
/-- A go statement: the starter behind it, the child. -/
def gspawn (P : Program) (g : Goroutine) : Option (Goroutine × Goroutine) :=
  match gop g with
  | none => none
  | some o => match ev P (execOp g.frame.eval o) [] with
    | some (.spawn d, [], _) => match d.target with
      | .fn _ _ => some (on (g.frame.finish undef) g.callers, on { (default : Frame) with fn := P.funcs.size, defers := [d], mode := .panicking [goexitEntry] } [])
      | _ => none
    | _ => none
theorem gspawn_sound {P : Program} {main : Bool} {g g' c : Goroutine} {w : World} (h : gspawn P g = some (g', c)) : stepG P main g w = .spawn g' c w #[] := by
  unfold gspawn at h
  split at h
  · cases h
  rename_i o ho
  split at h
  · rename_i d _ he
    split at h
    · rename_i ht
      simp only [Option.some.injEq, Prod.mk.injEq] at h
      obtain ⟨rfl, rfl⟩ := h
      obtain ⟨hk, hs⟩ := gop_sound (P := P) (main := main) (w := w) ho
      have hk' : (g.frame.kind == CallKind.early) = false := by simpa using hk
      have hr := ev_sound (es := #[]) (w := w) he trivial
      rw [hs]
      unfold stepG.apply
      simp only [if_true, hr]
      simp [wOf, esOf, hk', seen_none, GStep.after, ht]
    · cases h
  · cases h
/-- A run that comes to a semaphore at nought. -/
def evB {α : Type} (P : Program) : Sem α → List Ans → Option (List Fx)
  | .load m a k, ans => match ans with
    | .val v :: ans => match evB P (k v) ans with
      | some l => some (.load m a v :: l)
      | none => none
    | _ => none
  | .program k, ans => evB P (k P) ans
  | .mark m k, ans => match evB P k ans with
    | some l => some (.mark m :: l)
    | none => none
  | .halt .blocked, _ => some []
  | _, _ => none
theorem evB_sound {α : Type} {P : Program} {s : Sem α} : ∀ {ans : List Ans} {l : List Fx} {w : World} {es : Array Event}, evB P s ans = some l → okOf l w → ∃ es', s.runT P w es = (.halt .blocked w, es') := by
  induction s with
  | load m a k ih =>
    intro ans l w es h hw
    unfold evB at h
    split at h
    · rename_i v ans'
      split at h
      · rename_i l' he
        simp only [Option.some.injEq] at h
        subst h
        simp only [Sem.runT, hw.1]
        exact ih v he hw.2
      · cases h
    · cases h
  | program k ih => intro ans l w es h hw; simp only [Sem.runT]; exact ih P h hw
  | mark m k ih =>
    intro ans l w es h hw
    unfold evB at h
    split at h
    · rename_i l' he
      simp only [Option.some.injEq] at h
      subst h
      simp only [Sem.runT]
      exact ih he hw
    · cases h
  | halt q =>
    intro ans l w es h hw
    cases q <;> first | (cases h; done) | exact ⟨_, rfl⟩
  | _ => intro ans l w es h hw; cases h
/-- The operation at the head waits. -/
def gblock (P : Program) (g : Goroutine) (ans : List Ans) : Option (List Fx) :=
  match gop g with
  | none => none
  | some o => evB P (execOp g.frame.eval o) ans
theorem gblock_sound {P : Program} {main : Bool} {g : Goroutine} {ans : List Ans} {l : List Fx} {w : World} (h : gblock P g ans = some l) (hw : okOf l w) :
    stepG P main g w = .go { on g.frame g.callers with status := .blocked } w #[] := by
  unfold gblock at h
  split at h
  · cases h
  rename_i o ho
  obtain ⟨hk, hs⟩ := gop_sound (P := P) (main := main) (w := w) ho
  have hk' : (g.frame.kind == CallKind.early) = false := by simpa using hk
  obtain ⟨es', hr⟩ := evB_sound (es := #[]) h hw
  rw [hs]
  unfold stepG.apply
  simp only [if_true, hr]
  simp [hk', seen_none, GStep.after]
def leaveFx : Fx → Bool
  | .test .. | .mark (.extern _) | .mark .disable | .mark .enable => true
  | _ => false
def deafFx (d : Nat) : List Fx → Nat
  | [] => d
  | .mark .disable :: l => deafFx (d + 1) l
  | .mark .enable :: l => deafFx (d - 1) l
  | _ :: l => deafFx d l
def gquit (P : Program) (C : Tab) : Nat → Nat → Goroutine → List Ans → Option (List Fx)
  | 0, d, g, ans => match g.status, d, ans with
    | .finished, 0, [] => some []
    | _, _, _ => none
  | n + 1, d, g, ans => match g.status with
    | .running => match gstep P C false g ans with
      | some (g', l, r) => match l.all leaveFx with
        | true => match gquit P C n (deafFx d l) g' r with
          | some l' => some (l ++ l')
          | none => none
        | false => none
      | none => none
    | _ => none
/-- The marks that the trace keeps. -/
def keptOf : List Fx → List Event
  | [] => []
  | .mark .disable :: l => ⟨.mark .disable, false, true⟩ :: keptOf l
  | .mark .enable :: l => ⟨.mark .enable, false, true⟩ :: keptOf l
  | _ :: l => keptOf l
theorem leave_seen {P : Program} {fn : FuncId} {l : List Fx} (h : l.all leaveFx = true) : seen P fn (esOf l).toArray = (keptOf l).toArray ∧ (∀ w, wOf l w = w) ∧ (∀ w w', okOf l w → okOf l w') ∧
    (∀ e ∈ keptOf l, e.mute = true) ∧ ∀ d, deafBehind d (keptOf l).toArray = deafFx d l := by
  refine ⟨?_, ?_, ?_, ?_, ?_⟩
  · rw [seen_def]
    have key : ∀ (l : List Fx) (q : Bool) (k : Array Event), l.all leaveFx = true → ((esOf l).foldl (seenStep fun f => (P.funcs[f]?).any (·.norace)) (q, k)).2 = k ++ (keptOf l).toArray := by
      intro l
      induction l with
      | nil => intro q k _; simp [esOf, keptOf]
      | cons x l ih =>
        intro q k h
        simp only [List.all_cons, Bool.and_eq_true] at h
        cases x with
        | mark m =>
          cases m with
          | extern f => exact ih _ _ h.2
          | disable =>
            simp only [esOf, List.foldl_cons, keptOf]
            have : seenStep (fun f => (P.funcs[f]?).any (·.norace)) (q, k) ⟨.mark .disable, false, true⟩ = (q, k.push ⟨.mark .disable, false, true⟩) := by simp [seenStep]
            rw [this, ih _ _ h.2]
            apply Array.ext'
            simp
          | enable =>
            simp only [esOf, List.foldl_cons, keptOf]
            have : seenStep (fun f => (P.funcs[f]?).any (·.norace)) (q, k) ⟨.mark .enable, false, true⟩ = (q, k.push ⟨.mark .enable, false, true⟩) := by simp [seenStep]
            rw [this, ih _ _ h.2]
            apply Array.ext'
            simp
          | _ => cases h.1
        | test => exact ih _ _ h.2
        | _ => cases h.1
    simpa using key l _ #[] h
  · induction l with
    | nil => intro w; rfl
    | cons x l ih =>
      simp only [List.all_cons, Bool.and_eq_true] at h
      intro w
      cases x <;> simp only [leaveFx] at h <;> first | (cases h.1; done) | exact ih h.2 w
  · induction l with
    | nil => intro w w' _; trivial
    | cons x l ih =>
      simp only [List.all_cons, Bool.and_eq_true] at h
      intro w w' hw
      cases x <;> simp only [leaveFx] at h <;> first | (cases h.1; done) | exact ih h.2 w w' hw | exact ⟨hw.1, ih h.2 w w' hw.2⟩
  · induction l with
    | nil => simp [keptOf]
    | cons x l ih =>
      simp only [List.all_cons, Bool.and_eq_true] at h
      intro e he
      cases x with
      | mark m =>
        cases m with
        | extern f => exact ih h.2 e he
        | disable =>
          rcases List.mem_cons.1 he with rfl | he
          · rfl
          · exact ih h.2 e he
        | enable =>
          rcases List.mem_cons.1 he with rfl | he
          · rfl
          · exact ih h.2 e he
        | _ => cases h.1
      | test => exact ih h.2 e he
      | _ => cases h.1
  · induction l with
    | nil => intro d; rfl
    | cons x l ih =>
      simp only [List.all_cons, Bool.and_eq_true] at h
      intro d
      have e : ∀ (d : Nat) (x : Event) (l : List Event), deafBehind d (x :: l).toArray = deafBehind (match x.loc with | .mark .disable => d + 1 | .mark .enable => d - 1 | _ => d) l.toArray := by
        intro d x l
        simp [deafBehind]
        rfl
      cases x with
      | mark m =>
        cases m with
        | extern f => exact ih h.2 d
        | disable => simp only [keptOf, e, deafFx]; exact ih h.2 _
        | enable => simp only [keptOf, e, deafFx]; exact ih h.2 _
        | _ => cases h.1
      | test => exact ih h.2 d
      | _ => cases h.1
theorem gquit_sound {P : Program} {C : Tab} (hC : TabOk P C) : ∀ {n d : Nat} {g : Goroutine} {ans : List Ans} {l : List Fx} {w : World}, gquit P C n d g ans = some l → okOf l w → QuitsD P n d g := by
  intro n
  induction n with
  | zero =>
    intro d g ans l w h _
    unfold gquit at h
    split at h
    · rename_i hs
      exact ⟨hs, rfl⟩
    · cases h
  | succ n ih =>
    intro d g ans l w h hw
    unfold gquit at h
    split at h
    · rename_i hs
      split at h
      · rename_i g' l1 r hg
        split at h
        · rename_i hm
          split at h
          · rename_i l2 hq
            simp only [Option.some.injEq] at h
            subst h
            obtain ⟨w1, w2⟩ := okOf_append hw
            obtain ⟨k1, k2, k3, k4, k5⟩ := leave_seen (P := P) (fn := g.frame.fn) hm
            rw [k2] at w2
            refine .inr ⟨hs, g', (keptOf l1).toArray, fun e he => k4 e (by simpa using he), fun w' => ?_, ?_⟩
            · rw [gstep_sound hC hg (k3 w w' w1), k2, k1]
            · rw [k5]
              exact ih hq w2
          · cases h
        · cases h
      · cases h
    · cases h
end Go.Proofs.YthjofgmiabcifabGreatDoor.Ev
