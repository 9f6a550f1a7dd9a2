/-
  Tame computations: what goes well alone goes so in company.
  Conditions: as each theorem says.
-/
import Derived.Conc.Own
import Derived.Laws.Sem
set_option linter.unusedVariables false
set_option linter.unusedSimpArgs false
namespace Go.Proofs.YthjofgmiabcifabGreatDoor.Lift
open Go
/-- Two values of this type are compared without a look at memory. -/
def eqOk (P : Program) : Nat → TypeId → Bool
  | 0, _ => false
  | d + 1, t =>
    match P.underlying t with
    | some .bool | some (.int _) | some .string => true
    | some (.struct fs) => fs.all fun f => eqOk P d f.type
    | _ => false
/-- A comparison with nil. -/
def nilOperand : Operand → Bool
  | .const .nilIface => true
  | .const (.slice none _ _) => true
  | .const (.pointer none) => true
  | _ => false
def nilOk (P : Program) (t : TypeId) : Bool :=
  match P.underlying t with
  | some (.interface _) | some (.slice _) | some (.pointer _) => true
  | _ => false
def intType (P : Program) (t : TypeId) : Bool :=
  match P.underlying t with
  | some (.int _) => true
  | _ => false
def fieldOk (P : Program) (s : TypeId) (f : Nat) : Bool :=
  match P.underlying s with
  | some (.struct fs) => match fs[f]? with
    | some x => match P.info? x.type with
      | some i => i.size != 0
      | none => false
    | none => true
  | _ => true
def lenOk (P : Program) (ts : Array TypeId) : Bool :=
  match ts[0]? with
  | some t => match P.underlying t with
    | some .string | some (.slice _) | some (.array _ _) => true
    | _ => false
  | none => true
/-- The function's code may be entered. -/
def bodied (P : Program) (L : List FuncId) (f : FuncId) : Bool :=
  L.contains f && match P.funcs[f]? with
  | some fn => fn.body.isSome && fn.name != "runtime.NumGoroutine"
  | none => false
def callOk (P : Program) (L : List FuncId) (c : Call) : Bool :=
  match c.callee with
  | .value (.func f) => bodied P L f
  | .value (.tmp _) => true
  | .value _ => false
  | .invoke _ _ => true
  | .builtin .len => lenOk P c.argTypes
  | .builtin .append => true
  | .builtin .min | .builtin .max => c.argTypes.all (intType P)
  | .builtin _ => false
def opOk (P : Program) (L : List FuncId) (o : Oper) : Bool :=
  match o.op with
  | .move _ | .assign _ | .pick .. | .alloc _ | .box .. | .build .. | .buildSlice .. | .load .. | .store .. | .nilCheck _ | .unOp .. | .makeInterface .. | .makeFunc .. | .makeSlice .. | .slice .. | .field .. | .index .. | .indexAddr .. | .typeAssert .. | .extract .. => true
  | .fieldAddr s _ f => fieldOk P s f
  | .binOp op t x y _ => eqOk P 8 t || ((op matches .eql | .neq) && (nilOperand x || nilOperand y) && nilOk P t)
  | .convert src dst _ => intType P src && intType P dst
  | .call c => callOk P L c
  | _ => false
def codeOk (P : Program) (L : List FuncId) : Code → Bool
  | .skip | .ret | .exit _ | .label _ => true
  | .region _ ops _ => ops.all (opOk P L)
  | .seq a b => codeOk P L a && codeOk P L b
  | .cond _ a b => codeOk P L a && codeOk P L b
  | .block _ a => codeOk P L a
  | .loop a => codeOk P L a
  | .scope a => codeOk P L a
  | .rangeFunc f _ a b => (f matches .tmp _) && codeOk P L a && codeOk P L b
  | .goto _ | .refuse _ => false
/-- All functions of the list may be entered, and their code is of the allowed make. -/
def listOk (P : Program) (L : List FuncId) : Bool :=
  L.all fun f => bodied P L f && match P.funcs[f]? with
    | some fn => match fn.body with
      | some c => codeOk P L c
      | none => false
    | none => false
/-- Every run of it ends in a halt that no walk survives. -/
inductive Dead {α : Type} : Sem α → Prop
  | unsup (u : Unsupported) (h : ∀ g, u ≠ .initOrder g := by intro g h; cases h) : Dead (.halt (.unsupported u))
  | stuck (s : String) : Dead (.halt (.stuck s))
  | mark {m : Mark} {k : Sem α} : Dead k → Dead (.mark m k)
  | shape {r : Nat} {k : Option (TypeId × Nat) → Sem α} : (∀ x, Dead (k x)) → Dead (.shape r k)
  | frozen {a : Addr} {k : Bool → Sem α} : (∀ x, Dead (k x)) → Dead (.frozen a k)
  | program {k : Program → Sem α} : (∀ p, Dead (k p)) → Dead (.program k)
/-- What an old block is, which objects are plain: the program, the list of functions, which old blocks are poisoned, which are frozen, how many are old. -/
structure Cls where
  P : Program
  L : List FuncId
  bp : Nat → Prop
  ro : Nat → Prop
  ch : Nat → Prop
  n0 : Nat
/-- An old object that is no row of cells: a channel where the class says so, else one of the run-time's tables. -/
def OddAt (C : Cls) (r : Nat) : Obj → Prop
  | .chan .. => C.ch r
  | .cells .. | .view .. | .number .. | .map .. => False
  | _ => ¬ C.ch r
/-- An object through which memory is seen otherwise: the lone world keeps it. -/
def Seen : Obj → Prop
  | .view .. | .number .. | .map .. => True
  | _ => False
/-- An object that a tame run may lay. -/
def Plain (C : Cls) : Obj → Prop
  | .view .. | .chan .. | .pending .. => False
  | .loop l => codeOk C.P C.L l.assign = true ∧ codeOk C.P C.L l.body = true ∧ ∀ c, l.pending = some c → codeOk C.P C.L c = true
  | .deferred (some ds) => ds = []
  | _ => True
/-- What a tame run may be made of; its value satisfies Q. -/
inductive Tame (C : Cls) {α : Type} (Q : α → Prop) : Sem α → Prop
  | pure {a : α} : Q a → Tame C Q (.pure a)
  | load {a : Addr} {k : Value → Sem α} : (∀ v, Tame C Q (k v)) → Tame C Q (.load .plain a k)
  | store {a : Addr} {v : Value} {k : Sem α} : Tame C Q k → Tame C Q (.store .plain a v k)
  | new {o : Obj} {k : Nat → Sem α} : Plain C o → (∀ r, Tame C Q (k r)) → Tame C Q (.new o k)
  | getObj {r : Nat} {k : Obj → Sem α} : (∀ o, Plain C o → C.n0 ≤ r → Tame C Q (k o)) → (∀ es n, Dead (k (.map es n))) → (∀ o, Seen o → Dead (k o)) → Tame C Q (.getObj r k)
  | getAny {r : Nat} {k : Obj → Sem α} : (∀ o, Plain C o → C.n0 ≤ r → Tame C Q (k o)) → (∀ es n, Tame C Q (k (.map es n))) → (∀ o, Seen o → Tame C Q (k o)) → (∀ es n o, OddAt C r o → k o = k (.map es n)) → Tame C Q (.getObj r k)
  | shape {r : Nat} {k : Option (TypeId × Nat) → Sem α} : (∀ e, Dead (k (some (e, 0))) ∨ ∀ n, k (some (e, n)) = k (some (e, 0))) → (∀ x, Tame C Q (k x)) → Tame C Q (.shape r k)
  | setObj {r : Nat} {o : Obj} {k : Sem α} : C.n0 ≤ r → Plain C o → Tame C Q k → Tame C Q (.setObj r o k)
  | choose {q : Question} {k : Nat → Sem α} : (∀ n, Tame C Q (k n)) → Tame C Q (.choose q k)
  | program {k : Program → Sem α} : Tame C Q (k C.P) → Tame C Q (.program k)
  | room {k : Sem α} : Tame C Q k → Tame C Q (.mark .noRoom k)
  | panic (v : Value) : Tame C Q (.halt (.panic v))
  | dead {s : Sem α} : Dead s → Tame C Q s
structure Sim (C : Cls) (w0 w : World) : Prop where
  size : w.heap.size = w0.heap.size
  le : C.n0 ≤ w0.heap.size
  poison : ∀ b, b < C.n0 → C.bp b → (∃ t f c f', w0.heap[b]? = some (.cells #[] t f) ∧ w.heap[b]? = some (.cells c t f')) ∨ (w0.heap[b]? = some (.map #[] 0) ∧ ∃ o, w.heap[b]? = some o ∧ OddAt C b o)
  frozen : ∀ b, b < C.n0 → ¬ C.bp b → C.ro b → (∃ c t f, w0.heap[b]? = some (.cells c t (0, c.size)) ∧ w.heap[b]? = some (.cells c t f)) ∨ ∃ o, Seen o ∧ w0.heap[b]? = some o ∧ w.heap[b]? = some o ∧ ¬ C.ch b
  own : ∀ b, b < C.n0 → ¬ C.bp b → ¬ C.ro b → w0.heap[b]? = w.heap[b]? ∧ ((∃ c t f, w0.heap[b]? = some (.cells c t f)) ∨ ∃ o, Seen o ∧ w0.heap[b]? = some o ∧ ¬ C.ch b)
  new : ∀ b, C.n0 ≤ b → w0.heap[b]? = w.heap[b]? ∧ ∀ o, w0.heap[b]? = some o → Plain C o
/-- The answers up to the draw number n are the same. -/
def Al (n : Nat) (w0 w : World) : Prop := ∀ i q, w0.drawn + i < n → w0.tape (w0.drawn + i) q = w.tape (w.drawn + i) q
/-- How many draws have been made at a run's end. -/
def endDrawn {α : Type} : Result α × Array Event → Nat
  | (.ok _ w, _) => w.drawn
  | (.halt _ w, _) => w.drawn
/-- What stays of a world: the tape itself, the outside. -/
structure Kept (C : Cls) (w w' : World) : Prop where
  tape : w'.tape = w.tape
  os : w'.os = w.os
  output : w'.output = w.output
  old : ∀ b, b < C.n0 → (C.bp b ∨ C.ro b) → w'.heap[b]? = w.heap[b]?
theorem Kept.refl {C : Cls} (w : World) : Kept C w w := ⟨rfl, rfl, rfl, fun _ _ _ => rfl⟩
theorem Kept.trans {C : Cls} {a b c : World} (h : Kept C a b) (k : Kept C b c) : Kept C a c := ⟨k.tape.trans h.tape, k.os.trans h.os, k.output.trans h.output, fun x hx ho => (k.old x hx ho).trans (h.old x hx ho)⟩
/-- An access that a tame run lists. -/
def EvOk (C : Cls) (e : Event) : Prop :=
  (∃ a x, e = ⟨.cell a, x, false⟩ ∧ (a.block < C.n0 → ¬ C.bp a.block ∧ (x = true → ¬ C.ro a.block))) ∨ (∃ r x, e = ⟨.obj r, x, false⟩ ∧ C.n0 ≤ r) ∨ (∃ r, e = ⟨.obj r, false, true⟩) ∨ (∃ r, e = ⟨.obj r, false, false⟩ ∧ r < C.n0 ∧ ¬ C.ch r) ∨ e = noRoomEvent
/-- How the true run answers the lone one's end. -/
def Answers {α : Type} (C : Cls) (Q : α → Prop) (s : Sem α) (w0 w : World) (es : Array Event) : Result α × Array Event → Prop
  | (.ok a w0', _) => Q a ∧ ∃ w' new, s.runT C.P w es = (.ok a w', es ++ new) ∧ (∀ e ∈ new, EvOk C e) ∧ Sim C w0' w' ∧ w'.drawn + w0.drawn = w0'.drawn + w.drawn ∧ Kept C w w'
  | (.halt (.panic v) w0', _) => ∃ w' new, s.runT C.P w es = (.halt (.panic v) w', es ++ new) ∧ (∀ e ∈ new, EvOk C e) ∧ Sim C w0' w' ∧ w'.drawn + w0.drawn = w0'.drawn + w.drawn ∧ Kept C w w'
  | (.halt (.unsupported u) _, _) => ∀ g, u ≠ .initOrder g
  | (.halt (.stuck _) _, _) => True
  | _ => False
theorem dead_run {α : Type} {P : Program} {s : Sem α} (h : Dead s) : ∀ (w : World) (es : Array Event), (∃ u w', (∀ g, u ≠ .initOrder g) ∧ (s.runT P w es).1 = .halt (.unsupported u) w') ∨ (∃ u w', (s.runT P w es).1 = .halt (.stuck u) w') := by
  induction h with
  | unsup u h => exact fun w es => .inl ⟨u, w, h, rfl⟩
  | stuck u => exact fun w es => .inr ⟨u, w, rfl⟩
  | mark _ ih => exact fun w es => ih w _
  | shape _ ih => exact fun w es => ih _ w _
  | frozen _ ih => exact fun w es => ih _ w _
  | program _ ih => exact fun w es => ih _ w _
section
variable {C : Cls} {w0 w : World}
theorem Sim.cell (h : Sim C w0 w) {a : Addr} {v : Value} (hc : w0.cell? a = some v) : w.cell? a = some v ∧ (a.block < C.n0 → ¬ C.bp a.block) := by
  by_cases hb : a.block < C.n0
  · by_cases hp : C.bp a.block
    · rcases h.poison _ hb hp with ⟨t, f, _, _, h0, _⟩ | ⟨h0, _⟩ <;> simp [World.cell?, h0] at hc
    · refine ⟨?_, fun _ => hp⟩
      by_cases hr : C.ro a.block
      · rcases h.frozen _ hb hp hr with ⟨c, t, f, h0, h1⟩ | ⟨o, hs, h0, _⟩
        · simp only [World.cell?, h0] at hc
          simp only [World.cell?, h1]
          exact hc
        · cases o <;> first | exact hs.elim | (simp [World.cell?, h0] at hc)
      · obtain ⟨he, _⟩ := h.own _ hb hp hr
        simp only [World.cell?, he] at hc
        simp only [World.cell?]
        exact hc
  · refine ⟨?_, fun k => absurd k hb⟩
    have he := (h.new a.block (by omega)).1
    simp only [World.cell?, he] at hc
    simp only [World.cell?]
    exact hc
/-- A row of cells of the lone world is one of the true world's: the same, or it is poisoned. -/
theorem Sim.row (h : Sim C w0 w) {b : Nat} {c0 : Array Value} {t : TypeId} {f0 : Nat × Nat} (h0 : w0.heap[b]? = some (.cells c0 t f0)) :
    ∃ c f, w.heap[b]? = some (.cells c t f) ∧ ((b < C.n0 ∧ C.bp b ∧ c0 = #[]) ∨ (b < C.n0 ∧ ¬ C.bp b ∧ C.ro b ∧ c0 = c ∧ f0 = (0, c.size)) ∨ ((b < C.n0 → ¬ C.bp b ∧ ¬ C.ro b) ∧ c0 = c ∧ f0 = f)) := by
  by_cases hb : b < C.n0
  · by_cases hp : C.bp b
    · rcases h.poison _ hb hp with ⟨t', f, c, f', h1, h2⟩ | ⟨h1, _⟩
      · rw [h0] at h1
        cases h1
        exact ⟨c, f', h2, .inl ⟨hb, hp, rfl⟩⟩
      · rw [h0] at h1; cases h1
    · by_cases hr : C.ro b
      · rcases h.frozen _ hb hp hr with ⟨c, t', f, h1, h2⟩ | ⟨o, hs, h1, _⟩
        · rw [h0] at h1
          cases h1
          exact ⟨_, f, h2, .inr (.inl ⟨hb, hp, hr, rfl, rfl⟩)⟩
        · rw [h0] at h1; cases h1; exact hs.elim
      · obtain ⟨he, _⟩ := h.own _ hb hp hr
        exact ⟨c0, f0, by rw [← he]; exact h0, .inr (.inr ⟨fun _ => ⟨hp, hr⟩, rfl, rfl⟩)⟩
  · have he := (h.new b (by omega)).1
    exact ⟨c0, f0, by rw [← he]; exact h0, .inr (.inr ⟨fun k => absurd k hb, rfl, rfl⟩)⟩
theorem seenCells_more {p : Program} {c c' : Array Value} {e : TypeId} (hc : ∀ (i : Nat) (v : Value), c[i]? = some v → c'[i]? = some v) : ∀ {f x stop : Nat} {l : List (Nat × Nat × List UInt8)}, seenCells p c e f x stop = .ok l →
    seenCells p c' e f x stop = .ok l ∧ ∀ y ∈ l, ∃ v, c[y.1]? = some v := by
  intro f
  induction f with
  | zero => intro x stop l h; simp [seenCells] at h
  | succ f ih =>
    intro x stop l h
    unfold seenCells at h ⊢
    by_cases hx : x ≥ stop
    · rw [if_pos hx] at h ⊢
      cases h
      exact ⟨rfl, fun y hy => by cases hy⟩
    · rw [if_neg hx] at h ⊢
      dsimp only at h ⊢
      by_cases hw : p.bytesOf e = 0
      · rw [if_pos hw] at h; cases h
      · rw [if_neg hw] at h ⊢
        cases hm : (cellHolding p p.depth e (x % p.bytesOf e)).map fun (i, s) => (x / p.bytesOf e * p.cellsOf e + i, x / p.bytesOf e * p.bytesOf e + s) with
        | none => rw [hm] at h; cases h
        | some is =>
          obtain ⟨i, s⟩ := is
          rw [hm] at h
          dsimp only at h ⊢
          cases hi : c[i]? with
          | none => rw [hi] at h; cases h
          | some v =>
            rw [hi] at h
            rw [hc i v hi]
            dsimp only at h ⊢
            cases hb : v.bytes? with
            | none => rw [hb] at h; cases h
            | some bs =>
              rw [hb] at h
              cases bs with
              | nil => cases h
              | cons b bs =>
                dsimp only at h ⊢
                cases hr : seenCells p c e f (s + (b :: bs).length) stop with
                | error m => rw [hr] at h; cases h
                | ok l' =>
                  rw [hr] at h
                  obtain ⟨h1, h2⟩ := ih hr
                  rw [h1]
                  cases h
                  refine ⟨rfl, fun y hy => ?_⟩
                  rcases List.mem_cons.1 hy with rfl | hy
                  · exact ⟨v, hi⟩
                  · exact h2 y hy
/-- What is seen of a row is seen of a longer one. -/
theorem seen_more {p : Program} {w0 w : World} {at_ : Addr} {u : TypeId} {k : Addr} {b : Bool} {c c' : Array Value} {e : TypeId} {f f' : Nat × Nat} (h0 : w0.heap[at_.block]? = some (.cells c e f)) (h1 : w.heap[at_.block]? = some (.cells c' e f'))
    (hc : ∀ (i : Nat) (v : Value), c[i]? = some v → c'[i]? = some v) {r : Array Value × TypeId × (Nat × Nat) × Nat × Value × List (Nat × Nat × List UInt8)} (h : w0.seen p at_ u k b = .ok r) :
    ∃ first like cells, r = (c, e, f, first, like, cells) ∧ w.seen p at_ u k b = .ok (c', e, f', first, like, cells) ∧ ∀ y ∈ cells, ∃ v, c[y.1]? = some v := by
  unfold World.seen at h ⊢
  simp only [bind, Except.bind, pure, Except.pure, throw, throwThe, MonadExceptOf.throw] at h ⊢
  cases hs : (k.spot.isSome || at_.spot.isSome) with
  | true => rw [hs] at h; cases h
  | false =>
    rw [hs] at h
    simp only [Bool.false_eq_true, if_false] at h ⊢
    cases h2 : plainCell p p.depth u k.off with
    | none => rw [h2] at h; cases h
    | some like =>
      rw [h2] at h
      dsimp only at h ⊢
      cases h3 : like.bytes?.map (·.length) with
      | none => rw [h3] at h; cases h
      | some size =>
        rw [h3] at h
        dsimp only at h ⊢
        cases h4 : byteOfCell p p.depth u k.off with
        | none => rw [h4] at h; cases h
        | some β =>
          rw [h4, h0] at h
          rw [h1]
          dsimp only at h ⊢
          by_cases h5 : p.cellsOf e = 0
          · rw [if_pos h5] at h; cases h
          · rw [if_neg h5] at h ⊢
            cases h6 : byteOfCell p p.depth e (at_.off % p.cellsOf e) with
            | none => rw [h6] at h; cases h
            | some b0 =>
              rw [h6] at h
              dsimp only at h ⊢
              cases h7 : seenCells p c e (size + 1) (at_.off / p.cellsOf e * p.bytesOf e + b0 + β) (at_.off / p.cellsOf e * p.bytesOf e + b0 + β + size) with
              | error m => rw [h7] at h; cases h
              | ok cells =>
                rw [h7] at h
                obtain ⟨a1, a2⟩ := seenCells_more hc h7
                rw [a1]
                dsimp only at h ⊢
                cases b with
                | false =>
                  simp only [Bool.false_eq_true, if_false] at h ⊢
                  cases h
                  exact ⟨_, _, _, rfl, rfl, a2⟩
                | true =>
                  simp only [if_true] at h ⊢
                  split at h
                  · rename_i x s bs
                    by_cases h8 : (decide (s ≠ at_.off / p.cellsOf e * p.bytesOf e + b0 + β) || decide (bs.length ≠ size)) = true
                    · rw [if_pos h8] at h; cases h
                    · rw [if_neg h8] at h
                      skip
                      cases h
                      refine ⟨_, _, _, rfl, ?_, a2⟩
                      rw [if_neg h8]
                  · cases h
/-- Where there is no cell: a benign halt, or memory seen otherwise, alike in both. -/
theorem Sim.far (h : Sim C w0 w) {P : Program} {a : Addr} {at_ : Bool} (hc : w0.cell? a = none) : (∃ e, w0.farLoad P a at_ = .error e ∧ ((∃ u, (∀ g, u ≠ .initOrder g) ∧ e = .unsupported u) ∨ ∃ s, e = .stuck s)) ∨
    ∃ v l, w0.farLoad P a at_ = .ok (v, l) ∧ w.cell? a = none ∧ w.farLoad P a at_ = .ok (v, l) ∧ ∀ b ∈ l, b.block < C.n0 → ¬ C.bp b.block := by
  have hnp : ∀ x u, w0.heap[a.block]? ≠ some (.pending x u) := by
    intro x u hv
    by_cases hb : a.block < C.n0
    · by_cases hp : C.bp a.block
      · rcases h.poison _ hb hp with ⟨t, f, _, _, h0, _⟩ | ⟨h0, _⟩ <;> (rw [h0] at hv; cases hv)
      · by_cases hr : C.ro a.block
        · rcases h.frozen _ hb hp hr with ⟨c, t, f, h0, _⟩ | ⟨o, hs, h0, _⟩
          · rw [h0] at hv; cases hv
          · rw [h0] at hv; cases hv; exact hs
        · obtain ⟨_, ⟨c, t, f, h0⟩ | ⟨o, hs, h0, _⟩⟩ := h.own _ hb hp hr
          · rw [h0] at hv; cases hv
          · rw [h0] at hv; cases hv; exact hs
    · have := (h.new a.block (by omega)).2 _ hv
      exact this
  unfold World.farLoad
  cases hb : w0.heap[a.block]? with
  | none => exact .inl ⟨_, rfl, by unfold World.noCell; rw [hb]; exact .inr ⟨_, rfl⟩⟩
  | some o =>
    cases o with
    | pending c t => exact absurd hb (hnp c t)
    | view x u =>
      have hw : w.heap[a.block]? = some (.view x u) := by
        by_cases hb' : a.block < C.n0
        · by_cases hp : C.bp a.block
          · rcases h.poison _ hb' hp with ⟨t, f, _, _, h0, _⟩ | ⟨h0, _⟩ <;> (rw [h0] at hb; cases hb)
          · by_cases hr : C.ro a.block
            · rcases h.frozen _ hb' hp hr with ⟨c, t, f, h0, _⟩ | ⟨o, hs, h0, h1, _⟩
              · rw [h0] at hb; cases hb
              · rw [h0] at hb; cases hb; exact h1
            · rw [← (h.own _ hb' hp hr).1]; exact hb
        · exact ((h.new a.block (by omega)).2 _ hb).elim
      rw [hw]
      dsimp only
      cases hl : w0.viewLoad P x u a at_ with
      | error m => exact .inl ⟨_, rfl, .inl ⟨_, (fun g hg => by cases hg), rfl⟩⟩
      | ok r =>
        obtain ⟨v, l⟩ := r
        refine .inr ⟨v, l, rfl, by simp [World.cell?, hw], ?_⟩
        unfold World.viewLoad at hl ⊢
        simp only [bind, Except.bind, pure, Except.pure, throw, throwThe, MonadExceptOf.throw] at hl ⊢
        cases hs : w0.seen P x u a at_ with
        | error m => rw [hs] at hl; cases hl
        | ok r =>
          cases hx : w0.heap[x.block]? with
          | none =>
            exfalso
            unfold World.seen at hs
            simp only [bind, Except.bind, pure, Except.pure, throw, throwThe, MonadExceptOf.throw, hx] at hs
            repeat' (split at hs)
            all_goals (try cases hs)
            all_goals (try (rename_i h; cases h))
          | some o =>
            by_cases hcell : ∃ c e f, o = .cells c e f
            · obtain ⟨c, e, f, rfl⟩ := hcell
              obtain ⟨c', f', hx', hor⟩ := h.row hx
              have hmore : ∀ (i : Nat) (v : Value), c[i]? = some v → c'[i]? = some v := by
                rcases hor with ⟨_, _, rfl⟩ | ⟨_, _, _, rfl, _⟩ | ⟨_, rfl, _⟩
                · intro i v hv; simp at hv
                · exact fun i v hv => hv
                · exact fun i v hv => hv
              obtain ⟨first, like, cells, rfl, h2, h3⟩ := seen_more hx hx' hmore hs
              rw [hs] at hl
              rw [h2]
              dsimp only at hl ⊢
              split at hl
              · rename_i v' hv'
                cases hl
                refine ⟨rfl, fun b hb' hlt => ?_⟩
                obtain ⟨y, hy, rfl⟩ := List.mem_map.1 hb'
                obtain ⟨v1, hv1⟩ := h3 y hy
                rcases hor with ⟨_, _, rfl⟩ | ⟨_, hp, _⟩ | ⟨hp, _⟩
                · simp at hv1
                · exact hp
                · exact (hp hlt).1
              · cases hl
            · exfalso
              unfold World.seen at hs
              simp only [bind, Except.bind, pure, Except.pure, throw, throwThe, MonadExceptOf.throw, hx] at hs
              cases o with
              | cells c e f => exact hcell ⟨c, e, f, rfl⟩
              | _ =>
                dsimp only at hs
                repeat' (split at hs)
                all_goals (try cases hs)
                all_goals (try (rename_i h; cases h))
    | _ => exact .inl ⟨_, rfl, by unfold World.noCell; rw [hb]; exact .inr ⟨_, rfl⟩⟩
/-- What is seen of a block's make. -/
theorem Sim.seen (h : Sim C w0 w) (r : Nat) : w.shape? r = w0.shape? r ∨ ∃ e n, w0.shape? r = some (e, 0) ∧ w.shape? r = some (e, n) := by
  by_cases hb : r < C.n0
  · by_cases hp : C.bp r
    · rcases h.poison _ hb hp with ⟨t, f, c, f', h0, h1⟩ | ⟨h0, o, h1, ho⟩
      · exact .inr ⟨t, c.size, by simp [World.shape?, h0], by simp [World.shape?, h1]⟩
      · exact .inl (by cases o <;> first | exact ho.elim | simp [World.shape?, h0, h1])
    · by_cases hr : C.ro r
      · rcases h.frozen _ hb hp hr with ⟨c, t, f, h0, h1⟩ | ⟨o, hs, h0, h1, _⟩
        · exact .inl (by simp [World.shape?, h0, h1])
        · exact .inl (by simp [World.shape?, h0, h1])
      · obtain ⟨he, _⟩ := h.own _ hb hp hr
        exact .inl (by simp [World.shape?, he])
  · have he := (h.new r (by omega)).1
    exact .inl (by simp [World.shape?, he])
/-- A cell that is there and not frozen in the lone world may be written, and is not frozen in the true one. -/
theorem Sim.writable (h : Sim C w0 w) {a : Addr} {v : Value} (hc : w0.cell? a = some v) (hf : w0.frozen? a = false) :
    w.frozen? a = false ∧ (a.block < C.n0 → ¬ C.bp a.block ∧ ¬ C.ro a.block) := by
  by_cases hb : a.block < C.n0
  · have hp := (h.cell hc).2 hb
    by_cases hr : C.ro a.block
    · exfalso
      obtain ⟨c, t, f, h0, h1⟩ | ⟨o, hs, h0, _⟩ := h.frozen _ hb hp hr
      rotate_left
      · cases o <;> first | exact hs.elim | (simp [World.cell?, h0] at hc)
      simp only [World.cell?, h0] at hc
      simp only [World.frozen?, h0] at hf
      split at hc
      · cases hc
      · have : a.off < c.size := by
          rcases Nat.lt_or_ge a.off c.size with h2 | h2
          · exact h2
          · rw [Array.getElem?_eq_none h2] at hc; cases hc
        simp [this] at hf
    · obtain ⟨he, _⟩ := h.own _ hb hp hr
      refine ⟨?_, fun _ => ⟨hp, hr⟩⟩
      simp only [World.frozen?, he] at hf
      simp only [World.frozen?]
      exact hf
  · have he := (h.new a.block (by omega)).1
    refine ⟨?_, fun k => absurd k hb⟩
    simp only [World.frozen?, he] at hf
    simp only [World.frozen?]
    exact hf
end
end Go.Proofs.YthjofgmiabcifabGreatDoor.Lift
namespace Go.Proofs.YthjofgmiabcifabGreatDoor.Lift
open Go
section
variable {C : Cls} {w0 w : World}
theorem Sim.setCell (h : Sim C w0 w) {a : Addr} {u : Value} (hc : w0.cell? a = some u) (hf : w0.frozen? a = false) (v : Value) : Sim C (w0.setCell a v) (w.setCell a v) := by
  have hb0 := h.writable hc hf
  have hset : ∀ (x : World) (b : Nat), (x.setCell a v).heap[b]? = if a.block = b then (x.heap[b]?).map (fun | .cells c elem frozen => .cells (if a.spot.isSome then c else c.setIfInBounds a.off v) elem frozen | o => o) else x.heap[b]? := by
    intro x b
    simp only [World.setCell, Array.getElem?_modify]
    rfl
  refine ⟨by simp [World.setCell, h.size], by simp [World.setCell, h.le], fun b hb hp => ?_, fun b hb hp hr => ?_, fun b hb hp hr => ?_, fun b hb => ?_⟩
  · have hne : a.block ≠ b := by intro e; subst e; exact (hb0.2 hb).1 hp
    simp only [hset, if_neg hne]; exact h.poison b hb hp
  · have hne : a.block ≠ b := by intro e; subst e; exact (hb0.2 hb).2 hr
    simp only [hset, if_neg hne]; exact h.frozen b hb hp hr
  · obtain ⟨he, ⟨c, t, f, h0⟩ | ⟨o, hs, h0, hch⟩⟩ := h.own b hb hp hr
    · refine ⟨by rw [hset, hset, he], .inl ?_⟩
      rw [hset, h0]
      split
      · exact ⟨_, _, _, rfl⟩
      · exact ⟨_, _, _, rfl⟩
    · refine ⟨by rw [hset, hset, he], .inr ⟨o, hs, ?_, hch⟩⟩
      rw [hset, h0]
      split
      · cases o <;> first | exact hs.elim | rfl
      · rfl
  · obtain ⟨he, hpl⟩ := h.new b hb
    refine ⟨by rw [hset, hset, he], fun o ho => ?_⟩
    rw [hset] at ho
    split at ho
    · cases h0 : w0.heap[b]? with
      | none => rw [h0] at ho; cases ho
      | some o0 =>
        have := hpl _ h0
        rw [h0] at ho
        simp only [Option.map_some, Option.some.injEq] at ho
        subst ho
        cases o0 <;> first | exact this | trivial
    · exact hpl _ ho
theorem Sim.push (h : Sim C w0 w) {o : Obj} (ho : Plain C o) : Sim C { w0 with heap := w0.heap.push o } { w with heap := w.heap.push o } := by
  have hp : ∀ (x : World) (b : Nat), b < x.heap.size → ({ x with heap := x.heap.push o } : World).heap[b]? = x.heap[b]? := by
    intro x b hb
    simp only [Array.getElem?_push]
    rw [if_neg (by omega)]
  have hl := h.le
  have hs := h.size
  refine ⟨by simp [h.size], by simp; omega, fun b hb q => ?_, fun b hb q r => ?_, fun b hb q r => ?_, fun b hb => ?_⟩
  · rw [hp w0 _ (by omega), hp w _ (by omega)]; exact h.poison b hb q
  · rw [hp w0 _ (by omega), hp w _ (by omega)]; exact h.frozen b hb q r
  · rw [hp w0 _ (by omega), hp w _ (by omega)]; exact h.own b hb q r
  · simp only [Array.getElem?_push, hs]
    by_cases e : b = w0.heap.size
    · subst e; simp [ho]
    · rw [if_neg e, if_neg e]; exact h.new b hb
theorem Sim.setObj (h : Sim C w0 w) {r : Nat} {o : Obj} (hr : C.n0 ≤ r) (ho : Plain C o) : Sim C { w0 with heap := w0.heap.setIfInBounds r o } { w with heap := w.heap.setIfInBounds r o } := by
  have hp : ∀ (x : World) (b : Nat), b ≠ r → ({ x with heap := x.heap.setIfInBounds r o } : World).heap[b]? = x.heap[b]? := by
    intro x b hb
    simp only [Array.getElem?_setIfInBounds]
    rw [if_neg (by omega)]
  refine ⟨by simp [h.size], by simp [h.le], fun b hb q => ?_, fun b hb q s => ?_, fun b hb q s => ?_, fun b hb => ?_⟩
  · rw [hp w0 _ (by omega), hp w _ (by omega)]; exact h.poison b hb q
  · rw [hp w0 _ (by omega), hp w _ (by omega)]; exact h.frozen b hb q s
  · rw [hp w0 _ (by omega), hp w _ (by omega)]; exact h.own b hb q s
  · simp only [Array.getElem?_setIfInBounds, h.size]
    by_cases e : r = b
    · subst e
      simp only [if_true]
      split
      · simp [ho]
      · simp
    · rw [if_neg e, if_neg e]; exact h.new b hb
/-- A row that both have is laid anew in both. -/
theorem Sim.setRow (h : Sim C w0 w) {b : Nat} {c0 : Array Value} {t : TypeId} {f : Nat × Nat} (h0 : w0.heap[b]? = some (.cells c0 t f)) (own : b < C.n0 → ¬ C.bp b ∧ ¬ C.ro b) (c' : Array Value) :
    Sim C { w0 with heap := w0.heap.setIfInBounds b (.cells c' t f) } { w with heap := w.heap.setIfInBounds b (.cells c' t f) } := by
  have hlt : b < w0.heap.size := by
    rcases Nat.lt_or_ge b w0.heap.size with h1 | h1
    · exact h1
    · rw [Array.getElem?_eq_none h1] at h0; cases h0
  have hlt' : b < w.heap.size := by rw [h.size]; exact hlt
  have hp : ∀ (x : World) (b' : Nat), b' ≠ b → ({ x with heap := x.heap.setIfInBounds b (.cells c' t f) } : World).heap[b']? = x.heap[b']? := by
    intro x b' hb
    show (x.heap.setIfInBounds b _)[b']? = _
    rw [Array.getElem?_setIfInBounds_ne (Ne.symm hb)]
  have he : ∀ (x : World), b < x.heap.size → ({ x with heap := x.heap.setIfInBounds b (.cells c' t f) } : World).heap[b]? = some (.cells c' t f) := by
    intro x hx
    show (x.heap.setIfInBounds b _)[b]? = _
    rw [Array.getElem?_setIfInBounds_self_of_lt hx]
  refine ⟨by simp [h.size], by simp [h.le], fun b' hb q => ?_, fun b' hb q s => ?_, fun b' hb q s => ?_, fun b' hb => ?_⟩
  · have hne : b' ≠ b := by rintro rfl; exact (own hb).1 q
    rw [hp w0 _ hne, hp w _ hne]; exact h.poison b' hb q
  · have hne : b' ≠ b := by rintro rfl; exact (own hb).2 s
    rw [hp w0 _ hne, hp w _ hne]; exact h.frozen b' hb q s
  · by_cases hne : b' = b
    · subst hne
      exact ⟨by rw [he w0 hlt, he w hlt'], .inl ⟨_, _, _, he w0 hlt⟩⟩
    · rw [hp w0 _ hne, hp w _ hne]; exact h.own b' hb q s
  · by_cases hne : b' = b
    · subst hne
      refine ⟨by rw [he w0 hlt, he w hlt'], fun o ho => ?_⟩
      rw [he w0 hlt] at ho
      cases ho
      trivial
    · rw [hp w0 _ hne, hp w _ hne]; exact h.new b' hb
theorem set_id {a : Array Obj} {b : Nat} {o : Obj} (h : a[b]? = some o) : a.setIfInBounds b o = a := by
  apply Array.ext_getElem?
  intro i
  by_cases e : b = i
  · subst e
    have hlt : b < a.size := by
      rcases Nat.lt_or_ge b a.size with h1 | h1
      · exact h1
      · rw [Array.getElem?_eq_none h1] at h; cases h
    rw [Array.getElem?_setIfInBounds_self_of_lt hlt, h]
  · rw [Array.getElem?_setIfInBounds_ne e]
/-- The step of a store through a view. -/
def stF (first : Nat) (bytes : List UInt8) (frozen : Nat × Nat) (c : Array Value) (y : Nat × Nat × List UInt8) : Except String (Array Value) := do
  if y.2.1 < first || y.2.1 + y.2.2.length > first + bytes.length then MonadExcept.throw "memory seen as another type: a part of a cell written"
  if frozen.1 ≤ y.1 && y.1 < frozen.2 then MonadExcept.throw "a write to bytes that a string shares"
  let some old := c[y.1]? | MonadExcept.throw "memory seen as another type: no such cell"
  let some new := old.ofBytes ((bytes.drop (y.2.1 - first)).take y.2.2.length) | MonadExcept.throw "memory seen as another type: a bool from a byte other than 0 or 1"
  pure (c.setIfInBounds y.1 new)
theorem stF_frozen {first : Nat} {bytes : List UInt8} {c c1 : Array Value} {n : Nat} {y : Nat × Nat × List UInt8} (hn : y.1 < n) : stF first bytes (0, n) c y ≠ .ok c1 := by
  intro h
  unfold stF at h
  simp only [bind, Except.bind, pure, Except.pure, MonadExcept.throw, throwThe, MonadExceptOf.throw] at h
  split at h
  · cases h
  · have : (decide (0 ≤ y.1) && decide (y.1 < n)) = true := by simp [hn]
    rw [if_pos this] at h
    cases h
theorem viewStore_eq {p : Program} {w : World} {at_ : Addr} {u : TypeId} {k : Addr} {v : Value} {b : Bool} {w1 : World} {l : List Addr} :
    w.viewStore p at_ u k v b = .ok (w1, l) ↔ ∃ c e f first like cells bytes c', tight p p.depth u = true ∧ w.seen p at_ u k b = .ok (c, e, f, first, like, cells) ∧ v.bytes? = some bytes ∧ some bytes.length = like.bytes?.map (·.length) ∧
      cells.foldlM (stF first bytes f) c = .ok c' ∧ w1 = { w with heap := w.heap.setIfInBounds at_.block (.cells c' e f) } ∧ l = cells.map fun y => { block := at_.block, off := y.1 } := by
  unfold World.viewStore
  simp only [bind, Except.bind, pure, Except.pure, MonadExcept.throw, throwThe, MonadExceptOf.throw]
  cases ht : tight p p.depth u with
  | false => simp
  | true =>
    simp only [Bool.not_true, Bool.false_eq_true, if_false]
    cases hs : w.seen p at_ u k b with
    | error m => simp
    | ok r =>
      obtain ⟨c, e, f, first, like, cells⟩ := r
      dsimp only
      cases hv : v.bytes? with
      | none => simp
      | some bytes =>
        dsimp only
        by_cases hl : some bytes.length = like.bytes?.map (·.length)
        · rw [if_neg (by simpa using hl)]
          constructor
          · intro h
            split at h
            · cases h
            · rename_i c' hc'
              cases h
              exact ⟨c, e, f, first, like, cells, bytes, c', trivial, rfl, rfl, hl, hc', rfl, rfl⟩
          · rintro ⟨c1, e1, f1, first1, like1, cells1, bytes1, c1', _, h2, h3, _, h5, rfl, rfl⟩
            cases h2
            cases h3
            split
            · rename_i m hm
              exact absurd (hm.symm.trans h5) (by simp)
            · rename_i c2 hc2
              have : c2 = c1' := by
                have := hc2.symm.trans h5
                simpa using this
              subst this
              rfl
        · rw [if_pos (by simpa using hl)]
          constructor
          · intro h; cases h
          · rintro ⟨c1, e1, f1, first1, like1, cells1, bytes1, c1', _, h2, h3, h4, _⟩
            cases h2
            cases h3
            exact absurd h4 hl
theorem seen_row {p : Program} {w : World} {at_ : Addr} {u : TypeId} {k : Addr} {b : Bool} {r : Array Value × TypeId × (Nat × Nat) × Nat × Value × List (Nat × Nat × List UInt8)} (h : w.seen p at_ u k b = .ok r) :
    ∃ c e f, w.heap[at_.block]? = some (.cells c e f) := by
  unfold World.seen at h
  simp only [bind, Except.bind, pure, Except.pure, MonadExcept.throw, throwThe, MonadExceptOf.throw] at h
  cases hx : w.heap[at_.block]? with
  | none =>
    exfalso
    rw [hx] at h
    repeat' (split at h)
    all_goals (try cases h)
    all_goals (try contradiction)
  | some o =>
    rw [hx] at h
    cases o with
    | cells c e f => exact ⟨c, e, f, rfl⟩
    | _ =>
      exfalso
      dsimp only at h
      repeat' (split at h)
      all_goals (try cases h)
      all_goals (try contradiction)
theorem Sim.farS (h : Sim C w0 w) {P : Program} {a : Addr} {v : Value} {at_ : Bool} (hc : w0.cell? a = none) : (∃ e, w0.farStore P a v at_ = .error e ∧ ((∃ u, (∀ g, u ≠ .initOrder g) ∧ e = .unsupported u) ∨ ∃ s, e = .stuck s)) ∨
    ∃ h0 h1 l, w0.farStore P a v at_ = .ok ({ w0 with heap := h0 }, l) ∧ w.cell? a = none ∧ w.farStore P a v at_ = .ok ({ w with heap := h1 }, l) ∧ Sim C { w0 with heap := h0 } { w with heap := h1 } ∧
      (∀ b ∈ l, b.block < C.n0 → ¬ C.bp b.block ∧ ¬ C.ro b.block) ∧ ∀ b, b < C.n0 → (C.bp b ∨ C.ro b) → h1[b]? = w.heap[b]? := by
  have hnp : ∀ x u, w0.heap[a.block]? ≠ some (.pending x u) := by
    intro x u hv
    by_cases hb : a.block < C.n0
    · by_cases hp : C.bp a.block
      · rcases h.poison _ hb hp with ⟨t, f, _, _, h0, _⟩ | ⟨h0, _⟩ <;> (rw [h0] at hv; cases hv)
      · by_cases hr : C.ro a.block
        · rcases h.frozen _ hb hp hr with ⟨c, t, f, h0, _⟩ | ⟨o, hs, h0, _⟩
          · rw [h0] at hv; cases hv
          · rw [h0] at hv; cases hv; exact hs
        · obtain ⟨_, ⟨c, t, f, h0⟩ | ⟨o, hs, h0, _⟩⟩ := h.own _ hb hp hr
          · rw [h0] at hv; cases hv
          · rw [h0] at hv; cases hv; exact hs
    · have := (h.new a.block (by omega)).2 _ hv
      exact this
  unfold World.farStore
  cases hb : w0.heap[a.block]? with
  | none => exact .inl ⟨_, rfl, by unfold World.noCell; rw [hb]; exact .inr ⟨_, rfl⟩⟩
  | some o =>
    cases o with
    | pending c t => exact absurd hb (hnp c t)
    | view x u =>
      have hw : w.heap[a.block]? = some (.view x u) := by
        by_cases hb' : a.block < C.n0
        · by_cases hp : C.bp a.block
          · rcases h.poison _ hb' hp with ⟨t, f, _, _, h0, _⟩ | ⟨h0, _⟩ <;> (rw [h0] at hb; cases hb)
          · by_cases hr : C.ro a.block
            · rcases h.frozen _ hb' hp hr with ⟨c, t, f, h0, _⟩ | ⟨o, hs, h0, h1, _⟩
              · rw [h0] at hb; cases hb
              · rw [h0] at hb; cases hb; exact h1
            · rw [← (h.own _ hb' hp hr).1]; exact hb
        · exact ((h.new a.block (by omega)).2 _ hb).elim
      rw [hw]
      dsimp only
      cases hl : w0.viewStore P x u a v at_ with
      | error m => exact .inl ⟨_, rfl, .inl ⟨_, (fun g hg => by cases hg), rfl⟩⟩
      | ok r =>
        obtain ⟨w1, l⟩ := r
        obtain ⟨c, e, f, first, like, cells, bytes, c', k1, k2, k3, k4, k5, rfl, rfl⟩ := viewStore_eq.1 hl
        obtain ⟨c0, e0, f0, hx⟩ := seen_row k2
        obtain ⟨c2, f2, hx', hor⟩ := h.row hx
        have hmore : ∀ (i : Nat) (v : Value), c0[i]? = some v → c2[i]? = some v := by
          rcases hor with ⟨_, _, rfl⟩ | ⟨_, _, _, rfl, _⟩ | ⟨_, rfl, _⟩
          · intro i v hv; simp at hv
          · exact fun i v hv => hv
          · exact fun i v hv => hv
        obtain ⟨first', like', cells', e1, h2, h3⟩ := seen_more hx hx' hmore k2
        cases e1
        by_cases hown : (x.block < C.n0 → ¬ C.bp x.block ∧ ¬ C.ro x.block) ∧ c = c2 ∧ f = f2
        · obtain ⟨own, rfl, rfl⟩ := hown
          refine .inr ⟨_, w.heap.setIfInBounds x.block (.cells c' e f), _, rfl, by simp [World.cell?, hw], ?_, h.setRow hx own c', fun b hb' hlt => ?_, fun b hb' ho => ?_⟩
          · have := viewStore_eq.2 ⟨c, e, f, first, like, cells, bytes, c', k1, h2, k3, k4, k5, rfl, rfl⟩
            rw [this]
          · obtain ⟨y, hy, rfl⟩ := List.mem_map.1 hb'
            exact own hlt
          · rw [Array.getElem?_setIfInBounds_ne]
            rintro rfl
            rcases ho with h3 | h3
            · exact (own hb').1 h3
            · exact (own hb').2 h3
        · have hnil : cells = [] := by
            cases cells with
            | nil => rfl
            | cons y cells =>
              exfalso
              obtain ⟨v1, hv1⟩ := h3 y (by simp)
              rcases hor with ⟨_, _, rfl⟩ | ⟨_, _, _, rfl, rfl⟩ | h4
              · simp at hv1
              · rw [List.foldlM_cons] at k5
                cases hf : stF first bytes (0, c.size) c y with
                | error m => rw [hf] at k5; cases k5
                | ok c3 =>
                  have hlt : y.1 < c.size := by
                    rcases Nat.lt_or_ge y.1 c.size with h5 | h5
                    · exact h5
                    · rw [Array.getElem?_eq_none h5] at hv1; cases hv1
                  exact stF_frozen hlt hf
              · exact hown h4
          subst hnil
          have hc' : c' = c := by cases k5; rfl
          subst hc'
          refine .inr ⟨w0.heap, w.heap, [], ?_, by simp [World.cell?, hw], ?_, h, (fun b hb' => by cases hb'), fun _ _ _ => rfl⟩
          · rw [set_id hx]; rfl
          · have := viewStore_eq.2 ⟨c2, e, f2, first, like, [], bytes, c2, k1, h2, k3, k4, rfl, rfl, rfl⟩
            rw [this, set_id hx']
            rfl
    | _ => exact .inl ⟨_, rfl, by unfold World.noCell; rw [hb]; exact .inr ⟨_, rfl⟩⟩
/-- An object that is no row of cells lies among the new ones, or is the lone world's stand-in, or one through which memory is seen otherwise. -/
theorem Sim.objNew (h : Sim C w0 w) {r : Nat} {o : Obj} (ho : w0.heap[r]? = some o) (hn : ∀ c t f, o ≠ .cells c t f) :
    (C.n0 ≤ r ∧ w.heap[r]? = some o ∧ Plain C o) ∨ (r < C.n0 ∧ o = .map #[] 0 ∧ ∃ p, w.heap[r]? = some p ∧ OddAt C r p) ∨ (r < C.n0 ∧ Seen o ∧ w.heap[r]? = some o ∧ ¬ C.ch r) := by
  by_cases hb : r < C.n0
  · by_cases hp : C.bp r
    · rcases h.poison _ hb hp with ⟨t, f, _, _, h0, _⟩ | ⟨h0, h1⟩
      · rw [h0] at ho; cases ho; exact absurd rfl (hn _ _ _)
      · rw [h0] at ho; cases ho; exact .inr (.inl ⟨hb, rfl, h1⟩)
    · by_cases hr : C.ro r
      · rcases h.frozen _ hb hp hr with ⟨c, t, f, h0, _⟩ | ⟨o', hs, h0, h1, h2⟩
        · rw [h0] at ho; cases ho; exact absurd rfl (hn _ _ _)
        · rw [h0] at ho; cases ho; exact .inr (.inr ⟨hb, hs, h1, h2⟩)
      · obtain ⟨he, ⟨c, t, f, h0⟩ | ⟨o', hs, h0, h2⟩⟩ := h.own _ hb hp hr
        · rw [h0] at ho; cases ho; exact absurd rfl (hn _ _ _)
        · rw [h0] at ho; cases ho; exact .inr (.inr ⟨hb, hs, by rw [← he]; exact h0, h2⟩)
  · obtain ⟨he, hpl⟩ := h.new r (by omega)
    exact .inl ⟨by omega, by rw [← he]; exact ho, hpl _ ho⟩
theorem Al.heaps {n : Nat} (h : Al n w0 w) {h1 h2 : Array Obj} : Al n { w0 with heap := h1 } { w with heap := h2 } := h
theorem Al.next {n : Nat} (h : Al n w0 w) : Al n { w0 with drawn := w0.drawn + 1 } { w with drawn := w.drawn + 1 } := fun i q hi => by
  have := h (i + 1) q (by simp at hi; omega)
  simp only [Nat.add_assoc, Nat.add_comm 1 i] at *
  exact this
end
/-- What has been answered behind an entry more. -/
theorem Answers.after {α : Type} {C : Cls} {Q : α → Prop} {s s' : Sem α} {w0 w00 w w1 : World} {es add : Array Event} {r : Result α × Array Event}
    (hs : s.runT C.P w es = s'.runT C.P w1 (es ++ add)) (hadd : ∀ e ∈ add, EvOk C e) (hk : Kept C w w1) (hd : w1.drawn + w0.drawn = w00.drawn + w.drawn) (h : Answers C Q s' w00 w1 (es ++ add) r) : Answers C Q s w0 w es r := by
  obtain ⟨r, e2⟩ := r
  cases r with
  | ok a w0' =>
    obtain ⟨hq, w', new, h1, h3, h4, h5, h6⟩ := h
    refine ⟨hq, w', add ++ new, by rw [hs, h1, Array.append_assoc], fun e he => ?_, h4, by omega, hk.trans h6⟩
    rcases Array.mem_append.1 he with he | he
    · exact hadd e he
    · exact h3 e he
  | halt q w0' =>
    cases q with
    | panic v =>
      obtain ⟨w', new, h1, h3, h4, h5, h6⟩ := h
      refine ⟨w', add ++ new, by rw [hs, h1, Array.append_assoc], fun e he => ?_, h4, by omega, hk.trans h6⟩
      rcases Array.mem_append.1 he with he | he
      · exact hadd e he
      · exact h3 e he
    | _ => exact h
theorem push_eq {es : Array Event} (e : Event) : es.push e = es ++ #[e] := by simp
theorem plain_not : (Mode.plain == Mode.atomic) = false := rfl
theorem run_store {α : Type} {P : Program} {a : Addr} {v : Value} {k : Sem α} (h1 : ∀ x, v ≠ .agg x) (h2 : ∀ x, v ≠ .tuple x) (x : World) (es : Array Event) : (Sem.store Mode.plain a v k).runT P x es = (match x.cell? a with
    | some _ => if x.frozen? a then (.halt (.unsupported (.unsafePointer "a write to bytes that a string shares")) x, es) else k.runT P (x.setCell a v) (es.push ⟨.cell a, true, Mode.plain == Mode.atomic⟩)
    | none => match x.farStore P a v (Mode.plain == Mode.atomic) with
      | .ok (x, touched) => k.runT P x (es ++ touched.toArray.map (⟨.cell ·, true, Mode.plain == Mode.atomic⟩))
      | .error h => (.halt h x, es)) := by
  cases v <;> first | exact absurd rfl (h1 _) | exact absurd rfl (h2 _) | rfl
theorem dead_answers {α : Type} {C : Cls} {Q : α → Prop} {s s' : Sem α} {w00 w : World} {es0 : Array Event} (hd : Dead s) (w0 : World) (es : Array Event) : Answers C Q s' w00 w es0 (s.runT C.P w0 es) := by
  rcases dead_run hd (P := C.P) w0 es with ⟨u, w', hg, hu⟩ | ⟨u, w', hu⟩
  · generalize (Sem.runT C.P s w0 es) = r at hu
    obtain ⟨r, e⟩ := r
    subst hu
    exact hg
  · generalize (Sem.runT C.P s w0 es) = r at hu
    obtain ⟨r, e⟩ := r
    subst hu
    trivial
theorem dead_drawn {α : Type} {P : Program} {s : Sem α} (hd : Dead s) : ∀ (w : World) (es : Array Event), endDrawn (Sem.runT P s w es) = w.drawn := by
  induction hd with
  | unsup u h => exact fun w es => rfl
  | stuck u => exact fun w es => rfl
  | mark _ ih => exact fun w es => ih w _
  | shape _ ih => exact fun w es => ih _ w _
  | frozen _ ih => exact fun w es => ih _ w _
  | program _ ih => exact fun w es => ih _ w _
/-- Draws are never taken back. -/
theorem tame_drawn {α : Type} {C : Cls} {Q : α → Prop} {s : Sem α} (hs : Tame C Q s) : ∀ {w0 w : World} (es : Array Event), Sim C w0 w → w0.drawn ≤ endDrawn (s.runT C.P w0 es) := by
  induction hs with
  | pure _ => exact fun {w0 w} es _ => Nat.le_refl _
  | @load a k _ ih =>
    intro w0 w es h
    cases hc : w0.cell? a with
    | some v => simp only [Sem.runT, hc]; exact ih v _ h
    | none =>
      rcases h.far (P := C.P) (at_ := (Mode.plain == Mode.atomic)) hc with ⟨e, he, _⟩ | ⟨v, l, he, _⟩
      · simp only [Sem.runT, hc, he]; exact Nat.le_refl _
      · simp only [Sem.runT, hc, he]; exact ih v _ h
  | @store a v k _ ih =>
    intro w0 w es h
    have hv : (∃ x, v = .agg x) ∨ (∃ x, v = .tuple x) ∨ ((∀ x, v ≠ .agg x) ∧ ∀ x, v ≠ .tuple x) := by
      cases v <;> simp
    rcases hv with ⟨x, rfl⟩ | ⟨x, rfl⟩ | ⟨h1, h2⟩
    · simp only [Sem.runT]; exact Nat.le_refl _
    · simp only [Sem.runT]; exact Nat.le_refl _
    · rw [run_store h1 h2]
      cases hc : w0.cell? a with
      | some u =>
        cases hf : w0.frozen? a with
        | true => simp only [if_true]; exact Nat.le_refl _
        | false =>
          simp only [Bool.false_eq_true, if_false]
          exact ih (w0 := w0.setCell a v) _ (h.setCell hc hf v)
      | none =>
        rcases h.farS (P := C.P) (v := v) (at_ := (Mode.plain == Mode.atomic)) hc with ⟨e, he, _⟩ | ⟨h0, h1, l, he, _, _, hs, _⟩
        · simp only [he]; exact Nat.le_refl _
        · simp only [he]; exact ih (w0 := { w0 with heap := h0 }) (w := { w with heap := h1 }) _ hs
  | @new o k ho _ ih =>
    intro w0 w es h
    simp only [Sem.runT]
    exact ih _ (w0 := { w0 with heap := w0.heap.push o }) _ (h.push ho)
  | @getObj r k _ hdead hdead2 ih =>
    intro w0 w es h
    simp only [Sem.runT]
    split
    · exact Nat.le_refl _
    · rename_i p hn hp
      rcases h.objNew hp (fun c t f e => hn c t f (e ▸ rfl)) with ⟨h1, _, h3⟩ | ⟨_, rfl, _⟩ | ⟨_, h1, _⟩
      · exact ih _ h3 h1 _ h
      · rw [dead_drawn (hdead _ _)]; exact Nat.le_refl _
      · rw [dead_drawn (hdead2 _ h1)]; exact Nat.le_refl _
    · exact Nat.le_refl _
  | @getAny r k _ _ _ _ ih1 ih2 ih3 =>
    intro w0 w es h
    simp only [Sem.runT]
    split
    · exact Nat.le_refl _
    · rename_i p hn hp
      rcases h.objNew hp (fun c t f e => hn c t f (e ▸ rfl)) with ⟨h1, _, h3⟩ | ⟨_, rfl, _⟩ | ⟨_, h1, _⟩
      · exact ih1 _ h3 h1 _ h
      · exact ih2 _ _ _ h
      · exact ih3 _ h1 _ h
    · exact Nat.le_refl _
  | @shape r k _ _ ih => exact fun {w0 w} es h => ih _ _ h
  | @setObj r o k hr hpl _ ih =>
    intro w0 w es h
    simp only [Sem.runT]
    split
    · exact Nat.le_refl _
    · rename_i p hn hp
      exact ih (w0 := { w0 with heap := w0.heap.setIfInBounds r o }) _ (h.setObj hr hpl)
    · exact Nat.le_refl _
  | @choose q k _ ih =>
    intro w0 w es h
    simp only [Sem.runT]
    split
    · exact ih _ _ h
    · exact Nat.le_trans (Nat.le_succ _) (ih _ (w0 := { w0 with drawn := w0.drawn + 1 }) (w := w) _ ⟨h.size, h.le, h.poison, h.frozen, h.own, h.new⟩)
  | program _ ih => exact fun {w0 w} es h => ih _ h
  | room _ ih => exact fun {w0 w} es h => ih _ h
  | panic v => exact fun {w0 w} es _ => Nat.le_refl _
  | dead hd =>
    intro w0 w es _
    rw [dead_drawn hd]
    exact Nat.le_refl _
/-- A tame run of the lone world is a run of the true one. -/
theorem tame_run {α : Type} {C : Cls} {Q : α → Prop} {s : Sem α} (hs : Tame C Q s) : ∀ {w0 w : World} (e0 es : Array Event), Sim C w0 w → Al (endDrawn (s.runT C.P w0 e0)) w0 w → Answers C Q s w0 w es (s.runT C.P w0 e0) := by
  induction hs with
  | pure hq => exact fun {w0 w} e0 es h _ => ⟨hq, w, #[], by simp [Sem.runT], by simp, h, Nat.add_comm _ _, .refl w⟩
  | @load a k _ ih =>
    intro w0 w e0 es h al
    cases hc : w0.cell? a with
    | some v =>
      have hw := h.cell hc
      have e1 : ∀ (x : World) es, x.cell? a = some v → (Sem.load Mode.plain a k).runT C.P x es = (k v).runT C.P x (es ++ #[⟨.cell a, false, false⟩]) := fun x es hx => by simp only [Sem.runT, hx, plain_not, push_eq]
      rw [e1 _ _ hc] at al ⊢
      refine Answers.after (s' := k v) (w1 := w) (add := #[⟨.cell a, false, false⟩]) (e1 _ _ hw.1) ?_ (.refl w) (Nat.add_comm _ _) (ih v _ _ h al)
      intro e he
      simp only [List.mem_toArray, List.mem_singleton] at he
      subst he
      exact .inl ⟨a, false, rfl, fun hb => ⟨hw.2 hb, by simp⟩⟩
    | none =>
      rcases h.far (P := C.P) (at_ := (Mode.plain == Mode.atomic)) hc with ⟨e, he, hh⟩ | ⟨v, l, he, hcw, hew, hl⟩
      · have e1 : (Sem.load Mode.plain a k).runT C.P w0 e0 = (.halt e w0, e0) := by simp only [Sem.runT, hc, he]
        rw [e1]
        rcases hh with ⟨u, hg, rfl⟩ | ⟨u, rfl⟩ <;> first | exact hg | trivial
      · have e1 : ∀ (x : World) es, x.cell? a = none → x.farLoad C.P a (Mode.plain == Mode.atomic) = .ok (v, l) → (Sem.load Mode.plain a k).runT C.P x es = (k v).runT C.P x (es ++ l.toArray.map (⟨.cell ·, false, Mode.plain == Mode.atomic⟩)) := fun x es hx hy => by simp only [Sem.runT, hx, hy]
        rw [e1 _ _ hc he] at al ⊢
        refine Answers.after (s' := k v) (w1 := w) (add := l.toArray.map (⟨.cell ·, false, Mode.plain == Mode.atomic⟩)) (e1 _ _ hcw hew) ?_ (.refl w) (Nat.add_comm _ _) (ih v _ _ h al)
        intro e hem
        obtain ⟨b, hb, rfl⟩ := Array.mem_map.1 hem
        exact .inl ⟨b, false, rfl, fun hlt => ⟨hl b (by simpa using hb) hlt, by simp⟩⟩
  | @store a v k _ ih =>
    intro w0 w e0 es h al
    have hv : (∃ x, v = .agg x) ∨ (∃ x, v = .tuple x) ∨ ((∀ x, v ≠ .agg x) ∧ ∀ x, v ≠ .tuple x) := by
      cases v <;> simp
    rcases hv with ⟨x, rfl⟩ | ⟨x, rfl⟩ | ⟨h1, h2⟩
    · simp only [Sem.runT]; trivial
    · simp only [Sem.runT]; trivial
    · have hrun : ∀ (x : World) es, _ := fun x es => run_store (P := C.P) (a := a) (k := k) h1 h2 x es
      cases hc : w0.cell? a with
      | some u =>
        cases hf : w0.frozen? a with
        | true =>
          have e1 : (Sem.store Mode.plain a v k).runT C.P w0 e0 = (.halt (.unsupported (.unsafePointer "a write to bytes that a string shares")) w0, e0) := by rw [hrun, hc]; simp only [hf, if_true]
          rw [e1]
          intro g hg
          cases hg
        | false =>
          have hw := h.cell hc
          have hwf := h.writable hc hf
          have e1 : ∀ (x : World) es, x.cell? a = some u → x.frozen? a = false → (Sem.store Mode.plain a v k).runT C.P x es = k.runT C.P (x.setCell a v) (es ++ #[⟨.cell a, true, false⟩]) := fun x es hx hy => by rw [hrun, hx]; simp only [hy, plain_not, push_eq, Bool.false_eq_true, if_false]
          rw [e1 _ _ hc hf] at al ⊢
          refine Answers.after (s' := k) (w00 := w0.setCell a v) (w1 := w.setCell a v) (add := #[⟨.cell a, true, false⟩]) (e1 _ _ hw.1 hwf.1) ?_ ⟨rfl, rfl, rfl, fun b hb ho => by
            have hne : a.block ≠ b := by rintro rfl; rcases ho with h3 | h3; exact (hwf.2 hb).1 h3; exact (hwf.2 hb).2 h3
            simp [World.setCell, Array.getElem?_modify, hne]⟩ (Nat.add_comm _ _) (ih _ _ (h.setCell hc hf v) al.heaps)
          intro e he
          simp only [List.mem_toArray, List.mem_singleton] at he
          subst he
          exact .inl ⟨a, true, rfl, fun hb => ⟨(hwf.2 hb).1, fun _ => (hwf.2 hb).2⟩⟩
      | none =>
        rcases h.farS (P := C.P) (v := v) (at_ := (Mode.plain == Mode.atomic)) hc with ⟨e, he, hh⟩ | ⟨q0, q1, l, he, hcw, hew, hs, hl, hold⟩
        · have e1 : (Sem.store Mode.plain a v k).runT C.P w0 e0 = (.halt e w0, e0) := by rw [hrun, hc]; simp only [he]
          rw [e1]
          rcases hh with ⟨u, hg, rfl⟩ | ⟨u, rfl⟩ <;> first | exact hg | trivial
        · have e1 : ∀ (x x' : World) es, x.cell? a = none → x.farStore C.P a v (Mode.plain == Mode.atomic) = .ok (x', l) → (Sem.store Mode.plain a v k).runT C.P x es = k.runT C.P x' (es ++ l.toArray.map (⟨.cell ·, true, Mode.plain == Mode.atomic⟩)) := fun x x' es hx hy => by rw [hrun, hx]; simp only [hy]
          rw [e1 _ _ _ hc he] at al ⊢
          refine Answers.after (s' := k) (w00 := { w0 with heap := q0 }) (w1 := { w with heap := q1 }) (add := l.toArray.map (⟨.cell ·, true, Mode.plain == Mode.atomic⟩)) (e1 _ _ _ hcw hew) ?_ ⟨rfl, rfl, rfl, hold⟩ (Nat.add_comm _ _) (ih _ _ hs al.heaps)
          intro e hem
          obtain ⟨b, hb, rfl⟩ := Array.mem_map.1 hem
          exact .inl ⟨b, true, rfl, fun hlt => ⟨(hl b (by simpa using hb) hlt).1, fun _ => (hl b (by simpa using hb) hlt).2⟩⟩
  | @new o k ho _ ih =>
    intro w0 w e0 es h al
    have e1 : ∀ (x : World) es, (Sem.new o k).runT C.P x es = (k x.heap.size).runT C.P { x with heap := x.heap.push o } (es ++ #[]) := fun x es => by simp only [Sem.runT, Array.append_empty]
    rw [e1] at al ⊢
    refine Answers.after (s' := k w0.heap.size) (w1 := { w with heap := w.heap.push o }) (add := #[]) (by rw [e1, h.size]) (by simp) ⟨rfl, rfl, rfl, fun b hb _ => by
      have h3 := h.le
      have h4 := h.size
      show (w.heap.push o)[b]? = _
      rw [Array.getElem?_push, if_neg (by omega)]⟩ (by simp [Nat.add_comm]) (ih _ _ _ (h.push ho) al.heaps)
  | @getObj r k _ hdead hdead2 ih =>
    intro w0 w e0 es h al
    cases ho : w0.heap[r]? with
    | none =>
      have e1 : (Sem.getObj r k).runT C.P w0 e0 = (.halt (.stuck "getObj: no such block") w0, e0) := by simp only [Sem.runT, ho]
      rw [e1]; trivial
    | some o =>
      by_cases hcell : ∃ c t f, o = .cells c t f
      · obtain ⟨c, t, f, rfl⟩ := hcell
        have e1 : (Sem.getObj r k).runT C.P w0 e0 = (.halt (.stuck "getObj: a row of cells") w0, e0) := by simp only [Sem.runT, ho]
        rw [e1]; trivial
      · have hn : ∀ c t f, o ≠ .cells c t f := fun c t f e => hcell ⟨c, t, f, e⟩
        have hrun : ∀ (x : World) es, x.heap[r]? = some o → (Sem.getObj r k).runT C.P x es = (k o).runT C.P x (es ++ #[⟨.obj r, false, o.isChan⟩]) := by
          intro x es hx
          cases o <;> first | exact absurd rfl (hn _ _ _) | simp only [Sem.runT, hx, push_eq]
        rcases h.objNew ho hn with ⟨h1, h2, h3⟩ | ⟨_, rfl, _⟩ | ⟨_, h1, _⟩
        · rw [hrun _ _ ho] at al ⊢
          refine Answers.after (s' := k o) (w1 := w) (add := #[⟨.obj r, false, o.isChan⟩]) (hrun _ _ h2) ?_ (.refl w) (Nat.add_comm _ _) (ih o h3 h1 _ _ h al)
          intro e he
          simp only [List.mem_toArray, List.mem_singleton] at he
          subst he
          refine .inr (.inl ⟨r, false, ?_, h1⟩)
          cases o <;> first | exact h3.elim | rfl
        · rw [hrun _ _ ho]
          exact dead_answers (hdead _ _) _ _
        · rw [hrun _ _ ho]
          exact dead_answers (hdead2 _ h1) _ _
  | @getAny r k _ _ _ hsame ih1 ih2 ih3 =>
    intro w0 w e0 es h al
    cases ho : w0.heap[r]? with
    | none =>
      have e1 : (Sem.getObj r k).runT C.P w0 e0 = (.halt (.stuck "getObj: no such block") w0, e0) := by simp only [Sem.runT, ho]
      rw [e1]; trivial
    | some o =>
      by_cases hcell : ∃ c t f, o = .cells c t f
      · obtain ⟨c, t, f, rfl⟩ := hcell
        have e1 : (Sem.getObj r k).runT C.P w0 e0 = (.halt (.stuck "getObj: a row of cells") w0, e0) := by simp only [Sem.runT, ho]
        rw [e1]; trivial
      · have hn : ∀ c t f, o ≠ .cells c t f := fun c t f e => hcell ⟨c, t, f, e⟩
        have hrun : ∀ (x : World) es, x.heap[r]? = some o → (Sem.getObj r k).runT C.P x es = (k o).runT C.P x (es ++ #[⟨.obj r, false, o.isChan⟩]) := by
          intro x es hx
          cases o <;> first | exact absurd rfl (hn _ _ _) | simp only [Sem.runT, hx, push_eq]
        rcases h.objNew ho hn with ⟨h1, h2, h3⟩ | ⟨hlt, rfl, p, h1, hp⟩ | ⟨hlt, h1, h2, h3⟩
        · rw [hrun _ _ ho] at al ⊢
          refine Answers.after (s' := k o) (w1 := w) (add := #[⟨.obj r, false, o.isChan⟩]) (hrun _ _ h2) ?_ (.refl w) (Nat.add_comm _ _) (ih1 o h3 h1 _ _ h al)
          intro e he
          simp only [List.mem_toArray, List.mem_singleton] at he
          subst he
          refine .inr (.inl ⟨r, false, ?_, h1⟩)
          cases o <;> first | exact h3.elim | rfl
        · rw [hrun _ _ ho] at al ⊢
          refine Answers.after (s' := k (.map #[] 0)) (w1 := w) (add := #[⟨.obj r, false, p.isChan⟩]) ?_ ?_ (.refl w) (Nat.add_comm _ _) (ih2 _ _ _ _ h al)
          · rw [← hsame #[] 0 p hp]
            cases p <;> first | exact hp.elim | simp only [Sem.runT, h1, push_eq]
          · intro e he
            simp only [List.mem_toArray, List.mem_singleton] at he
            subst he
            cases p <;> first | exact hp.elim | exact .inr (.inr (.inl ⟨r, rfl⟩)) | exact .inr (.inr (.inr (.inl ⟨r, rfl, hlt, hp⟩)))
        · rw [hrun _ _ ho] at al ⊢
          refine Answers.after (s' := k o) (w1 := w) (add := #[⟨.obj r, false, o.isChan⟩]) (hrun _ _ h2) ?_ (.refl w) (Nat.add_comm _ _) (ih3 o h1 _ _ h al)
          intro e he
          simp only [List.mem_toArray, List.mem_singleton] at he
          subst he
          cases o <;> first | exact h1.elim | exact .inr (.inr (.inr (.inl ⟨r, rfl, hlt, h3⟩)))
  | @setObj r o k hr hpl _ ih =>
    intro w0 w e0 es h al
    cases ho : w0.heap[r]? with
    | none =>
      have e1 : (Sem.setObj r o k).runT C.P w0 e0 = (.halt (.stuck "setObj: no such block") w0, e0) := by simp only [Sem.runT, ho]
      rw [e1]; trivial
    | some p =>
      by_cases hcell : ∃ c t f, p = .cells c t f
      · obtain ⟨c, t, f, rfl⟩ := hcell
        have e1 : (Sem.setObj r o k).runT C.P w0 e0 = (.halt (.stuck "setObj: a row of cells") w0, e0) := by simp only [Sem.runT, ho]
        rw [e1]; trivial
      · have hn : ∀ c t f, p ≠ .cells c t f := fun c t f e => hcell ⟨c, t, f, e⟩
        rcases h.objNew ho hn with ⟨h1, h2, h3⟩ | ⟨hlt, _⟩ | ⟨hlt, _⟩
        · have hrun : ∀ (x : World) es, x.heap[r]? = some p → (Sem.setObj r o k).runT C.P x es = k.runT C.P { x with heap := x.heap.setIfInBounds r o } (es ++ #[⟨.obj r, true, o.isChan⟩]) := by
            intro x es hx
            cases p <;> first | exact absurd rfl (hn _ _ _) | simp only [Sem.runT, hx, push_eq]
          rw [hrun _ _ ho] at al ⊢
          refine Answers.after (s' := k) (w1 := { w with heap := w.heap.setIfInBounds r o }) (add := #[⟨.obj r, true, o.isChan⟩]) (hrun _ _ h2) ?_ ⟨rfl, rfl, rfl, fun b hb _ => by
            show (w.heap.setIfInBounds r o)[b]? = _
            rw [Array.getElem?_setIfInBounds_ne (by omega)]⟩ (by simp [Nat.add_comm]) (ih _ _ (h.setObj hr hpl) al.heaps)
          intro e he
          simp only [List.mem_toArray, List.mem_singleton] at he
          subst he
          refine .inr (.inl ⟨r, true, ?_, h1⟩)
          cases o <;> first | exact hpl.elim | rfl
        · omega
        · omega
  | @shape r k hk _ ih =>
    intro w0 w e0 es h al
    have e1 : ∀ (x : World) es, (Sem.shape r k).runT C.P x es = (k (x.shape? r)).runT C.P x (es ++ #[]) := fun x es => by simp only [Sem.runT, Array.append_empty]
    rw [e1] at al ⊢
    have go : k (w.shape? r) = k (w0.shape? r) → Answers C Q (Sem.shape r k) w0 w es ((k (w0.shape? r)).runT C.P w0 (e0 ++ #[])) := fun e =>
      Answers.after (s' := k (w0.shape? r)) (w1 := w) (add := #[]) (by rw [e1, e]) (by simp) (.refl w) (Nat.add_comm _ _) (ih _ _ _ h al)
    rcases h.seen r with hs | ⟨e, n, h0, h1⟩
    · exact go (by rw [hs])
    · rcases hk e with hd | he
      · rw [h0]; exact dead_answers hd _ _
      · exact go (by rw [h0, h1, he])
  | @choose q k hk ih =>
    intro w0 w e0 es h al
    cases hq : q.forced with
    | true =>
      have e1 : ∀ (x : World) es, (Sem.choose q k).runT C.P x es = (k 0).runT C.P x (es ++ #[]) := fun x es => by simp only [Sem.runT, hq, if_true, Array.append_empty]
      rw [e1] at al ⊢
      exact Answers.after (s' := k 0) (w1 := w) (add := #[]) (e1 w _) (by simp) (.refl w) (Nat.add_comm _ _) (ih 0 _ _ h al)
    | false =>
      have e1 : ∀ (x : World) es, (Sem.choose q k).runT C.P x es = (k (q.cut (x.tape x.drawn q))).runT C.P { x with drawn := x.drawn + 1 } (es ++ #[]) := fun x es => by simp only [Sem.runT, hq, Bool.false_eq_true, if_false, Array.append_empty]
      rw [e1] at al ⊢
      have e2 : w0.tape w0.drawn q = w.tape w.drawn q := al 0 q (by have := tame_drawn (hk (q.cut (w0.tape w0.drawn q))) (w0 := { w0 with drawn := w0.drawn + 1 }) (w := w) (e0 ++ #[]) ⟨h.size, h.le, h.poison, h.frozen, h.own, h.new⟩; exact this)
      refine Answers.after (s' := k (q.cut (w0.tape w0.drawn q))) (w1 := { w with drawn := w.drawn + 1 }) (add := #[]) (by rw [e1, e2]) (by simp) ⟨rfl, rfl, rfl, fun _ _ _ => rfl⟩ (by simp [Nat.add_comm, Nat.add_left_comm]) (ih _ _ _ ⟨h.size, h.le, h.poison, h.frozen, h.own, h.new⟩ al.next)
  | @program k _ ih =>
    intro w0 w e0 es h al
    have e1 : ∀ (x : World) es, (Sem.program k).runT C.P x es = (k C.P).runT C.P x (es ++ #[]) := fun x es => by simp only [Sem.runT, Array.append_empty]
    rw [e1] at al ⊢
    exact Answers.after (s' := k C.P) (w1 := w) (add := #[]) (e1 w _) (by simp) (.refl w) (Nat.add_comm _ _) (ih _ _ h al)
  | @room k _ ih =>
    intro w0 w e0 es h al
    have e1 : ∀ (x : World) es, (Sem.mark .noRoom k).runT C.P x es = k.runT C.P x (es ++ #[noRoomEvent]) := fun x es => by simp only [Sem.runT, noRoomEvent, push_eq]
    rw [e1] at al ⊢
    refine Answers.after (s' := k) (w1 := w) (add := #[noRoomEvent]) (e1 w _) ?_ (.refl w) (Nat.add_comm _ _) (ih _ _ h al)
    intro e he
    simp only [List.mem_toArray, List.mem_singleton] at he
    exact .inr (.inr (.inr (.inr he)))
  | panic v => exact fun {w0 w} e0 es h _ => ⟨w, #[], by simp [Sem.runT], by simp, h, Nat.add_comm _ _, .refl w⟩
  | dead hd => exact fun {w0 w} e0 es _ _ => dead_answers hd _ _
end Go.Proofs.YthjofgmiabcifabGreatDoor.Lift
namespace Go.Proofs.YthjofgmiabcifabGreatDoor.Lift
open Go
section
variable {C : Cls} {α β : Type}
theorem dead_bind {s : Sem α} (h : Dead s) (k : α → Sem β) : Dead (s.bind k) := by
  induction h with
  | unsup u h => exact .unsup u h
  | stuck u => exact .stuck u
  | mark _ ih => exact .mark ih
  | shape _ ih => exact .shape ih
  | frozen _ ih => exact .frozen ih
  | program _ ih => exact .program ih
theorem tame_bind' {R : α → Prop} {Q : β → Prop} {s : Sem α} {k : α → Sem β} (h : Tame C R s) (hk : ∀ a, R a → Tame C Q (k a)) : Tame C Q (s.bind k) := by
  induction h with
  | pure hq => exact hk _ hq
  | load _ ih => exact .load ih
  | store _ ih => exact .store ih
  | new ho _ ih => exact .new ho ih
  | getObj _ hd hd2 ih => exact .getObj ih (fun es n => dead_bind (hd es n) k) fun o ho => dead_bind (hd2 o ho) k
  | getAny _ _ _ hs ih1 ih2 ih3 => exact .getAny ih1 ih2 ih3 fun es n o ho => by show Sem.bind _ _ = Sem.bind _ _; rw [hs es n o ho]
  | setObj hr ho _ ih => exact .setObj hr ho ih
  | shape hk _ ih => exact .shape (fun e => (hk e).elim (fun hd => .inl (dead_bind hd k)) fun he => .inr fun n => by show Sem.bind _ _ = Sem.bind _ _; rw [he n]) ih
  | choose _ ih => exact .choose ih
  | program _ ih => exact .program ih
  | room _ ih => exact .room ih
  | panic v => exact .panic v
  | dead hd => exact .dead (dead_bind hd k)
theorem tame_bind {R : α → Prop} {Q : β → Prop} {s : Sem α} {k : α → Sem β} (h : Tame C R s) (hk : ∀ a, R a → Tame C Q (k a)) : Tame C Q (s >>= k) := tame_bind' h hk
theorem tame_pure {Q : α → Prop} {a : α} (h : Q a) : Tame C Q (pure a : Sem α) := .pure h
theorem tame_map {R : α → Prop} {Q : β → Prop} {s : Sem α} {f : α → β} (h : Tame C R s) (hf : ∀ a, R a → Q (f a)) : Tame C Q (f <$> s) := tame_bind (k := fun a => pure (f a)) h fun a ha => tame_pure (hf a ha)
theorem tame_stuck {Q : α → Prop} {s : String} : Tame C Q (stuck s : Sem α) := .dead (.stuck s)
theorem tame_unsup {Q : α → Prop} {u : Unsupported} (h : ∀ g, u ≠ .initOrder g := by intro g h; cases h) : Tame C Q (unsupported u : Sem α) := .dead (.unsup u h)
theorem tame_goPanic {Q : α → Prop} {v : Value} : Tame C Q (goPanic v : Sem α) := .panic v
/-- Nothing is asked of the value. -/
abbrev Any {α : Type} : α → Prop := fun _ => True
end
section
variable {C : Cls}
theorem tame_program : Tame C (fun p => p = C.P) program := .program (.pure rfl)
theorem tame_typeInfo {t : TypeId} : Tame C (fun i => C.P.info? t = some i) (typeInfo t) := by
  refine tame_bind tame_program ?_
  rintro p rfl
  cases h : C.P.info? t with
  | none => exact tame_stuck
  | some i => exact tame_pure rfl
theorem tame_underlying {t : TypeId} : Tame C (fun d => C.P.underlying t = some d) (underlying t) := by
  refine tame_bind tame_program ?_
  rintro p rfl
  cases h : C.P.underlying t with
  | none => exact tame_stuck
  | some i => exact tame_pure rfl
theorem tame_zeroValue {t : TypeId} : Tame C Any (zeroValue t) := by
  refine tame_bind tame_typeInfo fun i _ => ?_
  split
  · exact tame_pure trivial
  · exact tame_unsup
theorem tame_sizeOf {t : TypeId} : Tame C (fun n => ∀ i, C.P.info? t = some i → n = i.size) (sizeOf t) :=
  tame_bind tame_typeInfo fun i hi => tame_pure fun j hj => by rw [hi] at hj; cases hj; rfl
theorem tame_isAgg {t : TypeId} : Tame C Any (isAgg t) := by
  refine tame_bind tame_underlying fun i _ => ?_
  split <;> exact tame_pure trivial
theorem tame_load {a : Addr} : Tame C Any (load a) := .load fun _ => .pure trivial
theorem tame_store {a : Addr} {v : Value} : Tame C Any (store a v) := .store (.pure trivial)
theorem tame_loadCellsFrom {a : Addr} : ∀ {n i : Nat} {acc : Array Value}, Tame C Any (loadCellsFrom a i n acc)
  | 0, _, _ => tame_pure trivial
  | n + 1, _, _ => tame_bind tame_load fun _ _ => tame_loadCellsFrom
theorem tame_loadCells {a : Addr} {n : Nat} : Tame C Any (loadCells a n) := tame_loadCellsFrom
theorem tame_storeCells {a : Addr} : ∀ {vs : List Value} {i : Nat}, Tame C Any (storeCells a vs i)
  | [], _ => tame_pure trivial
  | _ :: _, _ => tame_bind tame_store fun _ _ => tame_storeCells
theorem tame_loadVar {t : TypeId} {a : Addr} : Tame C Any (loadVar t a) := by
  refine tame_bind tame_isAgg fun b _ => ?_
  split
  · exact tame_bind tame_sizeOf fun n _ => tame_bind tame_loadCells fun _ _ => tame_pure trivial
  · exact tame_load
theorem tame_storeVar {t : TypeId} {a : Addr} {v : Value} : Tame C Any (storeVar t a v) := by
  refine tame_bind tame_sizeOf fun n _ => ?_
  split
  · exact tame_bind (R := Any) tame_stuck fun _ _ => tame_storeCells
  · exact tame_storeCells
theorem tame_newCells {t : TypeId} {cs : Array Value} : Tame C Any (newObj (.cells cs t)) := .new trivial fun _ => .pure trivial
theorem tame_newRow {t : TypeId} {cs : Array Value} : Tame C Any (newRow t cs) := tame_bind tame_newCells fun _ _ => tame_pure trivial
theorem tame_newVar {t : TypeId} {v : Value} : Tame C Any (newVar t v) := tame_newRow
theorem tame_elemOf {t : TypeId} : Tame C Any (elemOf t) := by
  refine tame_bind tame_underlying fun d _ => ?_
  split
  · exact tame_pure trivial
  · exact tame_stuck
theorem tame_part {t : TypeId} {cs : Array Value} {off : Nat} : Tame C Any (part t cs off) := by
  refine tame_bind tame_isAgg fun b _ => ?_
  split
  · exact tame_bind tame_sizeOf fun n _ => tame_pure trivial
  · split
    · exact tame_pure trivial
    · exact tame_stuck
theorem tame_choose {q : Question} : Tame C Any (choose q) := .choose fun _ => .pure trivial
theorem tame_runtimePanic {α : Type} {Q : α → Prop} {e : RuntimeError} : Tame C Q (runtimePanic e : Sem α) := by
  refine tame_bind tame_program fun p _ => ?_
  cases e with
  | bounds x y s c => exact tame_goPanic
  | error m => exact tame_goPanic
  | plain m => exact tame_goPanic
  | nilDeref => exact tame_goPanic
  | typeAssertion i c a m => exact tame_bind tame_elemOf fun _ _ => tame_bind tame_newVar fun _ _ => tame_goPanic
  | panicNil => exact tame_bind tame_elemOf fun _ _ => tame_bind tame_newVar fun _ _ => tame_goPanic
  | unhashable t => exact tame_goPanic
theorem tame_boundsPanic {α : Type} {Q : α → Prop} {k : IntKind} {x y : Int} {c : BoundsCode} : Tame C Q (boundsPanic k x y c : Sem α) := by
  unfold boundsPanic
  dsimp only
  split
  · exact tame_bind (tame_map (Q := Any) tame_choose fun _ _ => trivial) fun _ _ => tame_runtimePanic
  · exact tame_bind (R := Any) (tame_pure trivial) fun _ _ => tame_runtimePanic
theorem tame_asIntOf {v : Value} : Tame C (fun r => v = .int r.1 r.2) (asIntOf v) := by
  cases v with
  | int k n => exact tame_pure rfl
  | pointer a => cases a with
    | none => exact tame_stuck
    | some a => exact tame_unsup
  | _ => exact tame_stuck
theorem tame_asInt {v : Value} : Tame C Any (asInt v) := tame_bind tame_asIntOf fun _ _ => tame_pure trivial
theorem tame_asBool {v : Value} : Tame C Any (asBool v) := by
  cases v <;> first | exact tame_pure trivial | exact tame_stuck
theorem tame_asAgg {v : Value} : Tame C Any (asAgg v) := by
  cases v <;> first | exact tame_pure trivial | exact tame_stuck
theorem tame_asAddr {v : Value} : Tame C Any (asAddr v) := by
  cases v with
  | pointer a => cases a with
    | none => exact tame_runtimePanic (Q := Any) (e := .nilDeref)
    | some a => exact tame_pure trivial
  | _ => exact tame_stuck
theorem tame_sureAddr {v : Value} : Tame C Any (Instr.sureAddr v) := by
  unfold Instr.sureAddr
  split
  · exact tame_pure trivial
  · exact tame_stuck
theorem tame_alloc {e : TypeId} {b : Bool} {v : Value} : Tame C Any (Instr.alloc e b v) := by
  unfold Instr.alloc
  refine tame_bind tame_zeroValue fun z _ => ?_
  split
  · exact tame_bind tame_storeVar fun _ _ => tame_pure trivial
  · exact tame_bind tame_newVar fun _ _ => tame_pure trivial
theorem tame_box {e : TypeId} {v : Value} : Tame C Any (Instr.box e v) := tame_bind tame_newVar fun _ _ => tame_pure trivial
theorem tame_list_mapM {α β : Type} {f : α → Sem β} (h : ∀ a, Tame C Any (f a)) : ∀ l : List α, Tame C Any (l.mapM f)
  | [] => by rw [List.mapM_nil]; exact tame_pure trivial
  | a :: l => by
    rw [List.mapM_cons]
    exact tame_bind (h a) fun _ _ => tame_bind (tame_list_mapM h l) fun _ _ => tame_pure trivial
theorem tame_array_mapM {α β : Type} {f : α → Sem β} (h : ∀ a, Tame C Any (f a)) (l : Array α) : Tame C Any (l.mapM f) := by
  rw [Array.mapM_eq_mapM_toList]
  exact tame_map (tame_list_mapM h _) fun _ _ => trivial
theorem tame_build {t : TypeId} {ps : Array (Nat × Value)} : Tame C Any (Instr.build t ps) := by
  unfold Instr.build
  refine tame_bind tame_zeroValue fun z _ => tame_bind tame_underlying fun d _ => ?_
  split
  · refine tame_bind (tame_array_mapM (fun f => tame_bind tame_sizeOf fun _ _ => tame_pure trivial) _) fun p _ => ?_
    split
    · exact tame_pure trivial
    · exact tame_stuck
  · refine tame_bind tame_sizeOf fun n _ => ?_
    split
    · exact tame_pure trivial
    · exact tame_stuck
  · exact tame_stuck
theorem tame_buildSlice {t : TypeId} {n : Nat} {ps : Array (Nat × Value)} : Tame C Any (Instr.buildSlice t n ps) := by
  unfold Instr.buildSlice
  repeat' (first
    | exact tame_pure trivial
    | exact tame_stuck
    | exact tame_unsup
    | exact tame_runtimePanic
    | exact tame_boundsPanic
    | exact tame_asInt
    | exact tame_asBool
    | exact tame_loadVar
    | exact tame_storeVar
    | exact tame_loadCells
    | exact tame_part
    | refine tame_bind tame_underlying fun _ _ => ?_
    | refine tame_bind tame_typeInfo fun _ _ => ?_
    | refine tame_bind tame_sizeOf fun _ _ => ?_
    | refine tame_bind tame_zeroValue fun _ _ => ?_
    | refine tame_bind tame_asIntOf fun _ _ => ?_
    | refine tame_bind tame_asInt fun _ _ => ?_
    | refine tame_bind tame_asAgg fun _ _ => ?_
    | refine tame_bind tame_asAddr fun _ _ => ?_
    | refine tame_bind tame_sureAddr fun _ _ => ?_
    | refine tame_bind tame_choose fun _ _ => ?_
    | refine tame_bind tame_newRow fun _ _ => ?_
    | refine tame_bind tame_newVar fun _ _ => ?_
    | refine tame_bind tame_askRoom fun _ _ => ?_
    | refine tame_bind tame_program fun _ _ => ?_
    | refine tame_map tame_choose fun _ _ => trivial
    | refine tame_bind (R := Any) ?_ fun _ _ => ?_
    | dsimp only
    | split)
theorem tame_loadAt {t : TypeId} {v : Value} : Tame C Any (Instr.loadAt t v) := tame_bind tame_sureAddr fun _ _ => tame_loadVar
theorem tame_storeAt {t : TypeId} {v x : Value} : Tame C Any (Instr.storeAt t v x) := tame_bind tame_sureAddr fun _ _ => tame_storeVar
theorem tame_makeInterface {t : TypeId} {v : Value} : Tame C Any (Instr.makeInterface t v) := by
  unfold Instr.makeInterface
  refine tame_bind tame_underlying fun d _ => ?_
  split
  · exact tame_stuck
  · exact tame_pure trivial
theorem tame_askRoom {n : Nat} : Tame C Any (askRoom n) := by
  unfold askRoom
  split
  · exact .room (.pure trivial)
  · exact tame_pure trivial
theorem tame_makeSlice {t : TypeId} {a b : Value} : Tame C Any (Instr.makeSlice t a b) := by
  unfold Instr.makeSlice
  repeat' (first
    | exact tame_pure trivial
    | exact tame_stuck
    | exact tame_unsup
    | exact tame_runtimePanic
    | exact tame_boundsPanic
    | exact tame_asInt
    | exact tame_asBool
    | exact tame_loadVar
    | exact tame_storeVar
    | exact tame_loadCells
    | exact tame_part
    | refine tame_bind tame_underlying fun _ _ => ?_
    | refine tame_bind tame_typeInfo fun _ _ => ?_
    | refine tame_bind tame_sizeOf fun _ _ => ?_
    | refine tame_bind tame_zeroValue fun _ _ => ?_
    | refine tame_bind tame_asIntOf fun _ _ => ?_
    | refine tame_bind tame_asInt fun _ _ => ?_
    | refine tame_bind tame_asAgg fun _ _ => ?_
    | refine tame_bind tame_asAddr fun _ _ => ?_
    | refine tame_bind tame_sureAddr fun _ _ => ?_
    | refine tame_bind tame_choose fun _ _ => ?_
    | refine tame_bind tame_newRow fun _ _ => ?_
    | refine tame_bind tame_newVar fun _ _ => ?_
    | refine tame_bind tame_askRoom fun _ _ => ?_
    | refine tame_bind tame_program fun _ _ => ?_
    | refine tame_map tame_choose fun _ _ => trivial
    | refine tame_bind (R := Any) ?_ fun _ _ => ?_
    | dsimp only
    | split)
theorem tame_sliceBound {x : Value} {y : Nat} {c : BoundsCode} : Tame C Any (Instr.sliceBound x y c) := by
  unfold Instr.sliceBound
  repeat' (first
    | exact tame_pure trivial
    | exact tame_stuck
    | exact tame_unsup
    | exact tame_runtimePanic
    | exact tame_boundsPanic
    | exact tame_asInt
    | exact tame_asBool
    | exact tame_loadVar
    | exact tame_storeVar
    | exact tame_loadCells
    | exact tame_part
    | refine tame_bind tame_underlying fun _ _ => ?_
    | refine tame_bind tame_typeInfo fun _ _ => ?_
    | refine tame_bind tame_sizeOf fun _ _ => ?_
    | refine tame_bind tame_zeroValue fun _ _ => ?_
    | refine tame_bind tame_asIntOf fun _ _ => ?_
    | refine tame_bind tame_asInt fun _ _ => ?_
    | refine tame_bind tame_asAgg fun _ _ => ?_
    | refine tame_bind tame_asAddr fun _ _ => ?_
    | refine tame_bind tame_sureAddr fun _ _ => ?_
    | refine tame_bind tame_choose fun _ _ => ?_
    | refine tame_bind tame_newRow fun _ _ => ?_
    | refine tame_bind tame_newVar fun _ _ => ?_
    | refine tame_bind tame_askRoom fun _ _ => ?_
    | refine tame_bind tame_program fun _ _ => ?_
    | refine tame_map tame_choose fun _ _ => trivial
    | refine tame_bind (R := Any) ?_ fun _ _ => ?_
    | dsimp only
    | split)
theorem tame_sliceBounds {b : Bool} {l c : Nat} {lo hi mx : Option Value} : Tame C Any (Instr.sliceBounds b l c lo hi mx) := by
  unfold Instr.sliceBounds
  repeat' (first | exact tame_sliceBound | exact tame_pure trivial | exact tame_stuck | refine tame_bind tame_sliceBound fun _ _ => ?_ | dsimp only | split | refine tame_bind (R := Any) ?_ fun _ _ => ?_)
theorem tame_slice {t : TypeId} {x : Value} {lo hi mx : Option Value} : Tame C Any (Instr.slice t x lo hi mx) := by
  unfold Instr.slice
  repeat' (first | refine tame_bind tame_sliceBounds fun _ _ => ?_ | (first
    | exact tame_pure trivial
    | exact tame_stuck
    | exact tame_unsup
    | exact tame_runtimePanic
    | exact tame_boundsPanic
    | exact tame_asInt
    | exact tame_asBool
    | exact tame_loadVar
    | exact tame_storeVar
    | exact tame_loadCells
    | exact tame_part
    | refine tame_bind tame_underlying fun _ _ => ?_
    | refine tame_bind tame_typeInfo fun _ _ => ?_
    | refine tame_bind tame_sizeOf fun _ _ => ?_
    | refine tame_bind tame_zeroValue fun _ _ => ?_
    | refine tame_bind tame_asIntOf fun _ _ => ?_
    | refine tame_bind tame_asInt fun _ _ => ?_
    | refine tame_bind tame_asAgg fun _ _ => ?_
    | refine tame_bind tame_asAddr fun _ _ => ?_
    | refine tame_bind tame_sureAddr fun _ _ => ?_
    | refine tame_bind tame_choose fun _ _ => ?_
    | refine tame_bind tame_newRow fun _ _ => ?_
    | refine tame_bind tame_newVar fun _ _ => ?_
    | refine tame_bind tame_askRoom fun _ _ => ?_
    | refine tame_bind tame_program fun _ _ => ?_
    | refine tame_map tame_choose fun _ _ => trivial
    | refine tame_bind (R := Any) ?_ fun _ _ => ?_
    | dsimp only
    | split))
theorem tame_sliceAt {t : TypeId} {x : Value} {lo hi mx : Option Value} : Tame C Any (Instr.sliceAt t x lo hi mx) := by
  unfold Instr.sliceAt
  repeat' (first | exact tame_slice | refine tame_bind tame_sliceBounds fun _ _ => ?_ | (first
    | exact tame_pure trivial
    | exact tame_stuck
    | exact tame_unsup
    | exact tame_runtimePanic
    | exact tame_boundsPanic
    | exact tame_asInt
    | exact tame_asBool
    | exact tame_loadVar
    | exact tame_storeVar
    | exact tame_loadCells
    | exact tame_part
    | refine tame_bind tame_underlying fun _ _ => ?_
    | refine tame_bind tame_typeInfo fun _ _ => ?_
    | refine tame_bind tame_sizeOf fun _ _ => ?_
    | refine tame_bind tame_zeroValue fun _ _ => ?_
    | refine tame_bind tame_asIntOf fun _ _ => ?_
    | refine tame_bind tame_asInt fun _ _ => ?_
    | refine tame_bind tame_asAgg fun _ _ => ?_
    | refine tame_bind tame_asAddr fun _ _ => ?_
    | refine tame_bind tame_sureAddr fun _ _ => ?_
    | refine tame_bind tame_choose fun _ _ => ?_
    | refine tame_bind tame_newRow fun _ _ => ?_
    | refine tame_bind tame_newVar fun _ _ => ?_
    | refine tame_bind tame_askRoom fun _ _ => ?_
    | refine tame_bind tame_program fun _ _ => ?_
    | refine tame_map tame_choose fun _ _ => trivial
    | refine tame_bind (R := Any) ?_ fun _ _ => ?_
    | dsimp only
    | split))
theorem tame_field {t : TypeId} {x : Value} {f : Nat} : Tame C Any (Instr.field t x f) := by
  unfold Instr.field
  repeat' (first
    | exact tame_pure trivial
    | exact tame_stuck
    | exact tame_unsup
    | exact tame_runtimePanic
    | exact tame_boundsPanic
    | exact tame_asInt
    | exact tame_asBool
    | exact tame_loadVar
    | exact tame_storeVar
    | exact tame_loadCells
    | exact tame_part
    | refine tame_bind tame_underlying fun _ _ => ?_
    | refine tame_bind tame_typeInfo fun _ _ => ?_
    | refine tame_bind tame_sizeOf fun _ _ => ?_
    | refine tame_bind tame_zeroValue fun _ _ => ?_
    | refine tame_bind tame_asIntOf fun _ _ => ?_
    | refine tame_bind tame_asInt fun _ _ => ?_
    | refine tame_bind tame_asAgg fun _ _ => ?_
    | refine tame_bind tame_asAddr fun _ _ => ?_
    | refine tame_bind tame_sureAddr fun _ _ => ?_
    | refine tame_bind tame_choose fun _ _ => ?_
    | refine tame_bind tame_newRow fun _ _ => ?_
    | refine tame_bind tame_newVar fun _ _ => ?_
    | refine tame_bind tame_askRoom fun _ _ => ?_
    | refine tame_bind tame_program fun _ _ => ?_
    | refine tame_map tame_choose fun _ _ => trivial
    | refine tame_bind (R := Any) ?_ fun _ _ => ?_
    | dsimp only
    | split)
theorem tame_index {t : TypeId} {x i : Value} : Tame C Any (Instr.index t x i) := by
  unfold Instr.index
  repeat' (first
    | exact tame_pure trivial
    | exact tame_stuck
    | exact tame_unsup
    | exact tame_runtimePanic
    | exact tame_boundsPanic
    | exact tame_asInt
    | exact tame_asBool
    | exact tame_loadVar
    | exact tame_storeVar
    | exact tame_loadCells
    | exact tame_part
    | refine tame_bind tame_underlying fun _ _ => ?_
    | refine tame_bind tame_typeInfo fun _ _ => ?_
    | refine tame_bind tame_sizeOf fun _ _ => ?_
    | refine tame_bind tame_zeroValue fun _ _ => ?_
    | refine tame_bind tame_asIntOf fun _ _ => ?_
    | refine tame_bind tame_asInt fun _ _ => ?_
    | refine tame_bind tame_asAgg fun _ _ => ?_
    | refine tame_bind tame_asAddr fun _ _ => ?_
    | refine tame_bind tame_sureAddr fun _ _ => ?_
    | refine tame_bind tame_choose fun _ _ => ?_
    | refine tame_bind tame_newRow fun _ _ => ?_
    | refine tame_bind tame_newVar fun _ _ => ?_
    | refine tame_bind tame_askRoom fun _ _ => ?_
    | refine tame_bind tame_program fun _ _ => ?_
    | refine tame_map tame_choose fun _ _ => trivial
    | refine tame_bind (R := Any) ?_ fun _ _ => ?_
    | dsimp only
    | split)
theorem tame_indexAt {t : TypeId} {x i : Value} : Tame C Any (Instr.indexAt t x i) := by
  unfold Instr.indexAt
  repeat' (first
    | exact tame_pure trivial
    | exact tame_stuck
    | exact tame_unsup
    | exact tame_runtimePanic
    | exact tame_boundsPanic
    | exact tame_asInt
    | exact tame_asBool
    | exact tame_loadVar
    | exact tame_storeVar
    | exact tame_loadCells
    | exact tame_part
    | refine tame_bind tame_underlying fun _ _ => ?_
    | refine tame_bind tame_typeInfo fun _ _ => ?_
    | refine tame_bind tame_sizeOf fun _ _ => ?_
    | refine tame_bind tame_zeroValue fun _ _ => ?_
    | refine tame_bind tame_asIntOf fun _ _ => ?_
    | refine tame_bind tame_asInt fun _ _ => ?_
    | refine tame_bind tame_asAgg fun _ _ => ?_
    | refine tame_bind tame_asAddr fun _ _ => ?_
    | refine tame_bind tame_sureAddr fun _ _ => ?_
    | refine tame_bind tame_choose fun _ _ => ?_
    | refine tame_bind tame_newRow fun _ _ => ?_
    | refine tame_bind tame_newVar fun _ _ => ?_
    | refine tame_bind tame_askRoom fun _ _ => ?_
    | refine tame_bind tame_program fun _ _ => ?_
    | refine tame_map tame_choose fun _ _ => trivial
    | refine tame_bind (R := Any) ?_ fun _ _ => ?_
    | dsimp only
    | split)
theorem tame_typeAssert {x : Value} {t u : TypeId} {b : Bool} : Tame C Any (Instr.typeAssert x t u b) := by
  unfold Instr.typeAssert
  repeat' (first
    | exact tame_pure trivial
    | exact tame_stuck
    | exact tame_unsup
    | exact tame_runtimePanic
    | exact tame_boundsPanic
    | exact tame_asInt
    | exact tame_asBool
    | exact tame_loadVar
    | exact tame_storeVar
    | exact tame_loadCells
    | exact tame_part
    | refine tame_bind tame_underlying fun _ _ => ?_
    | refine tame_bind tame_typeInfo fun _ _ => ?_
    | refine tame_bind tame_sizeOf fun _ _ => ?_
    | refine tame_bind tame_zeroValue fun _ _ => ?_
    | refine tame_bind tame_asIntOf fun _ _ => ?_
    | refine tame_bind tame_asInt fun _ _ => ?_
    | refine tame_bind tame_asAgg fun _ _ => ?_
    | refine tame_bind tame_asAddr fun _ _ => ?_
    | refine tame_bind tame_sureAddr fun _ _ => ?_
    | refine tame_bind tame_choose fun _ _ => ?_
    | refine tame_bind tame_newRow fun _ _ => ?_
    | refine tame_bind tame_newVar fun _ _ => ?_
    | refine tame_bind tame_askRoom fun _ _ => ?_
    | refine tame_bind tame_program fun _ _ => ?_
    | refine tame_map tame_choose fun _ _ => trivial
    | refine tame_bind (R := Any) ?_ fun _ _ => ?_
    | dsimp only
    | split)
theorem tame_extract {x : Value} {n : Nat} : Tame C Any (Instr.extract x n) := by
  unfold Instr.extract
  repeat' (first
    | exact tame_pure trivial
    | exact tame_stuck
    | exact tame_unsup
    | exact tame_runtimePanic
    | exact tame_boundsPanic
    | exact tame_asInt
    | exact tame_asBool
    | exact tame_loadVar
    | exact tame_storeVar
    | exact tame_loadCells
    | exact tame_part
    | refine tame_bind tame_underlying fun _ _ => ?_
    | refine tame_bind tame_typeInfo fun _ _ => ?_
    | refine tame_bind tame_sizeOf fun _ _ => ?_
    | refine tame_bind tame_zeroValue fun _ _ => ?_
    | refine tame_bind tame_asIntOf fun _ _ => ?_
    | refine tame_bind tame_asInt fun _ _ => ?_
    | refine tame_bind tame_asAgg fun _ _ => ?_
    | refine tame_bind tame_asAddr fun _ _ => ?_
    | refine tame_bind tame_sureAddr fun _ _ => ?_
    | refine tame_bind tame_choose fun _ _ => ?_
    | refine tame_bind tame_newRow fun _ _ => ?_
    | refine tame_bind tame_newVar fun _ _ => ?_
    | refine tame_bind tame_askRoom fun _ _ => ?_
    | refine tame_bind tame_program fun _ _ => ?_
    | refine tame_map tame_choose fun _ _ => trivial
    | refine tame_bind (R := Any) ?_ fun _ _ => ?_
    | dsimp only
    | split)
theorem tame_unary {op : UnOp} {x : Value} : Tame C Any (Op.unary op x) := by
  unfold Op.unary Op.intArith Op.intBits
  repeat' (first
    | exact tame_pure trivial
    | exact tame_stuck
    | exact tame_unsup
    | exact tame_runtimePanic
    | exact tame_boundsPanic
    | exact tame_asInt
    | exact tame_asBool
    | exact tame_loadVar
    | exact tame_storeVar
    | exact tame_loadCells
    | exact tame_part
    | refine tame_bind tame_underlying fun _ _ => ?_
    | refine tame_bind tame_typeInfo fun _ _ => ?_
    | refine tame_bind tame_sizeOf fun _ _ => ?_
    | refine tame_bind tame_zeroValue fun _ _ => ?_
    | refine tame_bind tame_asIntOf fun _ _ => ?_
    | refine tame_bind tame_asInt fun _ _ => ?_
    | refine tame_bind tame_asAgg fun _ _ => ?_
    | refine tame_bind tame_asAddr fun _ _ => ?_
    | refine tame_bind tame_sureAddr fun _ _ => ?_
    | refine tame_bind tame_choose fun _ _ => ?_
    | refine tame_bind tame_newRow fun _ _ => ?_
    | refine tame_bind tame_newVar fun _ _ => ?_
    | refine tame_bind tame_askRoom fun _ _ => ?_
    | refine tame_bind tame_program fun _ _ => ?_
    | refine tame_map tame_choose fun _ _ => trivial
    | refine tame_bind (R := Any) ?_ fun _ _ => ?_
    | dsimp only
    | split)
theorem tame_fieldAt {s : TypeId} {x : Value} {f : Nat} (h : fieldOk C.P s f = true) : Tame C Any (Instr.fieldAt s x f) := by
  unfold Instr.fieldAt
  refine tame_bind tame_underlying fun d hd => ?_
  split
  · rename_i fs
    split
    · rename_i x hx
      refine tame_bind tame_sureAddr fun a _ => tame_bind (R := Any) ?_ fun _ _ => tame_pure trivial
      unfold fieldPlace
      refine tame_bind tame_sizeOf fun n hn => ?_
      simp only [fieldOk, hd, hx] at h
      split
      · rename_i hz
        cases hi : C.P.info? x.type with
        | none => rw [hi] at h; cases h
        | some i =>
          rw [hi] at h
          have := hn i hi
          simp at h
          omega
      · exact tame_pure trivial
    · exact tame_stuck
  · exact tame_stuck
end
end Go.Proofs.YthjofgmiabcifabGreatDoor.Lift
