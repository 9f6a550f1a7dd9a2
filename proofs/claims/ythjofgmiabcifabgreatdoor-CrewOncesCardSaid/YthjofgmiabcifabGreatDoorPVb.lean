/-
  The run ahead of the crowd.
  Conditions: as each theorem says.
-/
import Derived.Test.YthjofgmiabcifabGreatDoorPSg
import Derived.Test.YthjofgmiabcifabGreatDoorPRf
import Derived.Test.YthjofgmiabcifabGreatDoorPVa
set_option linter.unusedVariables false
set_option linter.unusedSimpArgs false
namespace Go.Proofs.YthjofgmiabcifabGreatDoor.So
open Go Go.Conc
open Go.ConcN (PermW upd)
open Go.ConcR (g_of_ofEvents)
open Go.Proofs.YthjofgmiabcifabGreatDoor.Ev Go.Proofs.YthjofgmiabcifabGreatDoor.Co Go.Proofs.YthjofgmiabcifabGreatDoor.Ab Go.Proofs.YthjofgmiabcifabGreatDoor.Mc Go.Proofs.YthjofgmiabcifabGreatDoor.Ma Go.Proofs.YthjofgmiabcifabGreatDoor.Tr
open Go.Proofs.YthjofgmiabcifabGreatDoor.Lift (LSt Sim Cls EvOk Seen OddAt)
open Go.Proofs.YthjofgmiabcifabGreatDoor.Gl (Bd stepG_bound)
/-- An access of memory, or nothing. -/
def EvFine (e : Event) : Prop := (∃ a, e.loc = .cell a) ∨ (∃ r, e.loc = .obj r) ∨ e = noRoomEvent ∨ ∃ f, e.loc = .mark (.extern f)
theorem EvFine.quiet {e : Event} (h : EvFine e) : (∀ a, e.loc ≠ .mark (.release a)) ∧ e.loc ≠ .mark .disable ∧ e.loc ≠ .mark .enable := by
  rcases h with ⟨a, h⟩ | ⟨r, h⟩ | rfl | ⟨f, h⟩
  · rw [h]; simp
  · rw [h]; simp
  · simp [noRoomEvent]
  · rw [h]; simp
theorem EvFine.touch {e : Event} (h : EvFine e) {x : Touch} (hx : (MemAct.ofEvent e).touch? = some x) : x.loc = e.loc ∧ ((∃ a, e.loc = .cell a) ∨ ∃ r, e.loc = .obj r) := by
  rcases h with ⟨a, h⟩ | ⟨r, h⟩ | rfl | ⟨f, h⟩
  · obtain ⟨loc, wr, sy⟩ := e
    simp only at h
    subst h
    have := touch_cell hx
    subst this
    exact ⟨rfl, .inl ⟨a, rfl⟩⟩
  · obtain ⟨loc, wr, sy⟩ := e
    simp only at h
    subst h
    refine ⟨?_, .inr ⟨r, rfl⟩⟩
    cases wr <;> cases sy <;> simp [MemAct.ofEvent, MemAct.touch?] at hx <;> rw [← hx]
  · cases hx
  · obtain ⟨loc, wr, sy⟩ := e
    simp only at h
    subst h
    cases hx
theorem evOk_fine {C : Cls} {e : Event} (h : EvOk C e) : EvFine e := by
  rcases h with ⟨a, wr, rfl, _⟩ | ⟨r, wr, rfl, _⟩ | ⟨r, rfl⟩ | ⟨r, rfl, _⟩ | rfl
  · exact .inl ⟨_, rfl⟩
  · exact .inr (.inl ⟨_, rfl⟩)
  · exact .inr (.inl ⟨_, rfl⟩)
  · exact .inr (.inl ⟨_, rfl⟩)
  · exact .inr (.inr (.inl rfl))
/-- A list of deeds that accesses memory alone. -/
def fineL (l : List Fx) : Bool := l.all fun x => match x with | .mark (.extern _) | .load .. | .store .. | .new .. | .test .. | .ask .. => true | _ => false
theorem fineL_es : ∀ {l : List Fx}, fineL l = true → ∀ e ∈ esOf l, EvFine e
  | [], _, e, he => by cases he
  | x :: l, h, e, he => by
    simp only [fineL, List.all_cons, Bool.and_eq_true] at h
    have ih := fineL_es (l := l) h.2
    cases x with
    | mark m =>
      cases m <;> first | (cases h.1; done) | skip
      rcases List.mem_cons.1 he with rfl | he
      · exact .inr (.inr (.inr ⟨_, rfl⟩))
      · exact ih e he
    | load => rcases List.mem_cons.1 he with rfl | he; exact .inl ⟨_, rfl⟩; exact ih e he
    | store => rcases List.mem_cons.1 he with rfl | he; exact .inl ⟨_, rfl⟩; exact ih e he
    | new => exact ih e he
    | test => exact ih e he
    | ask => exact ih e he
    | _ => cases h.1
theorem fine_seen {P : Program} {fn : FuncId} {l : List Fx} (h : fineL l = true) : ∀ e ∈ seen P fn (esOf l).toArray, EvFine e := fun e he => fineL_es h e (by simpa using Lift.mem_seen he)
/-- The trace of one goroutine alone. -/
structure S0 (Ok : Loc → Prop) (t : Trace) : Prop where
  gs : ∀ (i : Nat) (op : MemOp), t[i]? = some op → op.g = 0
  norel : ∀ a, NoRelease a t
  deaf0 : Deaf t 0 = 0
  tch : ∀ i x, touchAt t i = some x → Ok x.loc
theorem S0.nil (Ok : Loc → Prop) : S0 Ok #[] := ⟨fun i op h => by simp at h, fun a i h => by simp [Trace.act?] at h, rfl, fun i x h => by simp [touchAt, Trace.act?] at h⟩
theorem S0.app {Ok Ok' : Loc → Prop} {t : Trace} {fn : FuncId} {pos : String} {es : Array Event} (h : S0 Ok t) (hm : ∀ l, Ok l → Ok' l) (he : ∀ e ∈ es, EvFine e ∧ ∀ x, (MemAct.ofEvent e).touch? = some x → Ok' x.loc) : S0 Ok' (t ++ MemOp.ofEvents 0 fn pos es) := by
  refine ⟨fun i op hi => ?_, fun a => norel_app (h.norel a) (norel_es fun e hee => (he e hee).1.quiet.1 a), ?_, fun i x hx => ?_⟩
  · rcases getElem?_append_cases hi with ⟨_, hi'⟩ | ⟨_, hiu⟩
    · exact h.gs i op hi'
    · exact g_of_ofEvents op hiu
  · rw [Deaf_own, h.deaf0, deaf_quiet fun e hee => (he e hee).1.quiet.2]
  · obtain ⟨z, hz, hzx⟩ := touch_of hx
    rcases getElem?_append_cases hz with ⟨_, hz'⟩ | ⟨_, hzu⟩
    · exact hm _ (h.tch i x (by rw [touchAt_of hz']; exact hzx))
    · rw [ofEvents_eq] at hzu
      obtain ⟨e, hee, rfl⟩ := Array.mem_map.1 hzu
      exact (he e hee).2 x hzx
theorem S0.knows {Ok : Loc → Prop} {t : Trace} (h : S0 Ok t) {i : Nat} {x : Touch} (hx : touchAt t i = some x) : Knows t 0 i := by
  obtain ⟨z, hz, _⟩ := touch_of hx
  have := knows_own hz
  rwa [h.gs i z hz] at this
/-- Below a block number. -/
def Bl (n : Nat) (l : Loc) : Prop := match l with | .cell a => a.block < n | .obj r => r < n | _ => False
theorem Bl.mono {n m : Nat} {l : Loc} (h : Bl n l) (hn : n ≤ m) : Bl m l := by
  unfold Bl at *
  split at h <;> first | omega | exact h
/-- A step of the stage ahead of the crowd. -/
def E0 (g : Goroutine) (w w' : World) (es : Array Event) : Prop := w.heap.size ≤ w'.heap.size ∧ ∀ e ∈ es, EvFine e ∧ Bd w'.heap.size e
theorem E0.quiet (g : Goroutine) (w : World) : E0 g w w #[] := ⟨Nat.le_refl _, by simp⟩
theorem E0.of {g g' : Goroutine} {w w' : World} {es : Array Event} (hd : g.dying = none) (h : stepG Tryz.prog true g w = .go g' w' es) (he : ∀ e ∈ es, EvFine e) : E0 g w w' es := by
  obtain ⟨h1, h2⟩ := stepG_bound hd h
  exact ⟨h1, fun e hee => ⟨he e hee, h2 e hee⟩⟩
theorem bd_bl {n : Nat} {e : Event} (hf : EvFine e) (h : Bd n e) {x : Touch} (hx : (MemAct.ofEvent e).touch? = some x) : Bl n x.loc := by
  obtain ⟨h1, h2⟩ := hf.touch hx
  rw [h1]
  rcases h2 with ⟨a, h2⟩ | ⟨r, h2⟩
  · unfold Bd at h; rw [h2] at h ⊢; exact h
  · unfold Bd at h; rw [h2] at h ⊢; exact h
theorem E0.step {g : Goroutine} {w w' : World} {es : Array Event} {t : Trace} {fn : FuncId} {pos : String} (h : E0 g w w' es) (ht : S0 (Bl w.heap.size) t) : S0 (Bl w'.heap.size) (t ++ MemOp.ofEvents 0 fn pos es) :=
  ht.app (fun l hl => hl.mono h.1) fun e he => ⟨(h.2 e he).1, fun x hx => bd_bl (h.2 e he).1 (h.2 e he).2 hx⟩
/-- Whom nobody is beside. -/
theorem leave0 {P : Program} {gs : Array Goroutine} {fu dw : Nat → Nat} (h : gs.size = 1) : Leave P 0 gs fu dw := ⟨h, fun i hi => absurd hi (by omega)⟩
/-- It reads as it read, but for blocks that are turned and for what is marked. -/
def Told (x : Cx) (w w0 : World) : Prop := w.heap.size = w0.heap.size ∧ ∀ b c t f, ¬ Turned x b → w.heap[b]? = some (.cells c t f) → ∃ f', w0.heap[b]? = some (.cells c t f')
theorem Told.cell {x : Cx} {w w0 : World} (h : Told x w w0) {a : Addr} {v : Value} (hn : ¬ Turned x a.block) (hc : w.cell? a = some v) : w0.cell? a = some v := by
  unfold World.cell? at hc ⊢
  cases hb : w.heap[a.block]? with
  | none => rw [hb] at hc; cases hc
  | some o =>
    rw [hb] at hc
    cases o with
    | cells c t f =>
      obtain ⟨f', e⟩ := h.2 _ _ _ _ hn hb
      rw [e]
      exact hc
    | _ => cases hc
theorem enter_way {x : Cx} {w : World} {L : List FuncId} (hL : Lift.listOk Tryz.prog L = true) (hI : ∀ f ∈ L, Tryz.prog.inits.idxOf? f = none) {f : FuncId} (hf : f ∈ L) {args : Array Value} {R : Ending → World → Prop} (hR : ∀ e (w : World) T, R e w → R e { w with tape := T }) (hno : ∀ w', ¬ R .outgrown w')
    (tcell : ∀ b, Turned x b → (∃ c t f, w.heap[b]? = some (.cells c t f)) ∨ (∃ c d e f g h, w.heap[b]? = some (.chan c d e f g h)) ∨ w.heap[b]? = none)
    (hE : ∀ w0, Told x w w0 → CallsIn (Fence.list L none) 0 Tryz.prog f args w0 R) :
    ∃ w0, Told x w w0 ∧ Sim (Cl Tryz.prog x L w) w0 w ∧ Lift.Way (Cl Tryz.prog x L w).bare R ⟨Frame.enter Tryz.prog f args .normal, [], w0⟩ := by
  obtain ⟨w0, h1, h2, h3, h4, h5, h6, h7⟩ := Lift.lone_world (C := Cl Tryz.prog x L w) (w := w) rfl (fun b o ho hn => by
    by_cases hs : Seen o
    · right
      refine ⟨?_, hs, ?_⟩
      · rintro (hT | ⟨o', ho', _, hns⟩)
        · rcases tcell b hT with ⟨c, t, f, e⟩ | ⟨c, d, e', f, g, h, e⟩ | e
          · rw [e] at ho; cases ho; exact hn _ _ _ rfl
          · rw [e] at ho; cases ho; exact hs
          · rw [e] at ho; cases ho
        · rw [ho'] at ho; cases ho; exact hns hs
      · rintro ⟨c, d, e, f, g, h, e'⟩
        rw [e'] at ho; cases ho; exact hs
    · left
      refine ⟨.inr ⟨o, ho, hn, hs⟩, ?_⟩
      have nch : ∀ (hc : ∀ c d e f g h, o ≠ .chan c d e f g h), ¬ (Cl Tryz.prog x L w).ch b := by
        rintro hc ⟨c, d, e, f, g, h, e'⟩
        rw [e'] at ho; cases ho; exact hc _ _ _ _ _ _ rfl
      cases o with
      | cells c t f => exact absurd rfl (hn _ _ _)
      | chan c d e f g h => exact ⟨_, _, _, _, _, _, ho⟩
      | view => exact absurd trivial hs
      | number => exact absurd trivial hs
      | map => exact absurd trivial hs
      | _ => exact nch (by simp))
  have ht : ∀ T : Tape, Told x w { w0 with tape := T } := fun T => ⟨h1.size, fun b c t f hT he => by
    have hnb : ¬ (Cl Tryz.prog x L w).bp b := by
      rintro (h | ⟨o, ho, hn, _⟩)
      · exact hT h
      · rw [he] at ho; cases ho; exact hn _ _ _ rfl
    rcases h7 b c t f hnb he with ⟨_, e⟩ | ⟨_, e⟩
    · exact ⟨_, e⟩
    · exact ⟨_, e⟩⟩
  refine ⟨w0, ht w0.tape, h1, Lift.way_of_ends (C := (Cl Tryz.prog x L w).bare) hL (Lift.bare_free _) hI hR (Lift.inv_enter hL hf h6) (Lift.ends_of_calls (n := 0) hno fun T _ => hE _ (ht T))⟩
/-- The list is fit. -/
theorem list_ok : Lift.listOk Tryz.prog Sq.LS = true := by kernel_rfl
theorem list_inits : ∀ f ∈ Sq.LS, Tryz.prog.inits.idxOf? f = none := by
  have : (Sq.LS.all fun f => (Tryz.prog.inits.idxOf? f).isNone) = true := by kernel_rfl
  intro f hf
  simpa using List.all_eq_true.1 this f hf
end Go.Proofs.YthjofgmiabcifabGreatDoor.So
namespace Go.Proofs.YthjofgmiabcifabGreatDoor.So
open Go Go.Conc Go.RowKit
open Go.Proofs.YthjofgmiabcifabGreatDoor.Ev Go.Proofs.YthjofgmiabcifabGreatDoor.Co Go.Proofs.YthjofgmiabcifabGreatDoor.Mc Go.Proofs.YthjofgmiabcifabGreatDoor.Ma
open Go.Proofs.YthjofgmiabcifabGreatDoor.Lift (LSt Sim Cls EvOk Kept)
open Go.Proofs.YthjofgmiabcifabGreatDoor.Sq (NodesAt NodeX NodeXAt WrapsAt WrapAt IntsAt treeB ableI OncePost workB eSpec ValidIn)
abbrev T0 (w : World) : Prop := Lib.Utf8Tabs 0 1 w
theorem T0.of_cells {w w0 : World} (h : T0 w) (hc : ∀ a v, w.cell? a = some v → w0.cell? a = some v) : T0 w0 := ⟨fun c hl => hc _ _ (h.1 c hl), fun i hi => ⟨hc _ _ (h.2 i hi).1, hc _ _ (h.2 i hi).2⟩⟩
theorem cells_of {w w' : World} (h : Below w.heap.size w w') : ∀ a v, w.cell? a = some v → w'.cell? a = some v := fun a v hv => (h.cell (World.block_lt_of_cell? w a hv)).trans hv
theorem valid : ValidIn T0 := ⟨fun w w' h hb => h.of_cells (cells_of hb), fun s w hs hT => Sq.valid_in s w (by unfold maxLen at hs; omega) hT⟩
theorem range_of {w w0 : World} {b o : Nat} {cs : List Value} (h : w.rangeAt b o cs) (hc : ∀ a v, w.cell? a = some v → w0.cell? a = some v) : w0.rangeAt b o cs := fun i v hi => hc _ _ (h i v hi)
theorem nodes_of {w w0 : World} {v : Value} {xs : List NodeX} (h : NodesAt w v xs) (hc : ∀ a v, w.cell? a = some v → w0.cell? a = some v) : NodesAt w0 v xs := by
  rcases h with h | ⟨b, o, cap, h1, h2, h3⟩
  · exact .inl h
  · refine .inr ⟨b, o, cap, h1, h2, fun i hi => ?_⟩
    obtain ⟨a1, a2, a3, a4, a5⟩ := h3 i hi
    refine ⟨range_of a1 hc, a2, ?_, a4, ?_⟩
    · rcases a3 with h | ⟨b, o, cap, h1, h2, h3⟩
      · exact .inl h
      · refine .inr ⟨b, o, cap, h1, h2, fun i hi => ?_⟩
        obtain ⟨c0, c1, c2, c3, c4⟩ := h3 i hi
        exact ⟨hc _ _ c0, hc _ _ c1, hc _ _ c2, hc _ _ c3, c4⟩
    · rcases a5 with h | ⟨b, o, cap, h1, h2, h3⟩
      · exact .inl h
      · exact .inr ⟨b, o, cap, h1, h2, fun i hi => hc _ _ (h3 i hi)⟩
theorem below_at {n : Nat} {W w : World} (h : Below n W w) (d : Nat) : Below n W (w.at d) := ⟨h.os, h.tape, h.output, h.size, h.block⟩
theorem below_push {n : Nat} {W w : World} (h : Below n W w) (hn : n ≤ w.heap.size) (o : Obj) : Below n W { w with heap := w.heap.push o } := h.alloc hn o
theorem cell_pushed (w : World) (v : Value) (t : TypeId) : ({ w with heap := w.heap.push (.cells #[v] t) } : World).cell? ⟨w.heap.size, 0, none⟩ = some v := Sq.cell_new w #[v] t 0
theorem size_push (w : World) (o : Obj) : ({ w with heap := w.heap.push o } : World).heap.size = w.heap.size + 1 := by simp
/-- A step of the stage ahead of the crowd. -/
theorem go0 {Z : Goroutine → World → Prop} {g h : Goroutine} {w : World} {n : Nat} {ans ans' : List Ans} {l l' : List Fx} (hs : gseg Tryz.prog CC true n g ans ans' = some (l, h, l')) (hr : g.status = .running) (hd : g.dying = none) (hf : fineL l = true) (h1 : ∀ d, okOf l (w.at d))
    (h2 : ∀ w, okOf l' w) (h5 : ∀ d, Solo Tryz.prog E0 Z h (wOf l (w.at d))) : Solo Tryz.prog E0 Z g w :=
  Solo.seg ccOk hs (Lv := fun _ => True) E0.quiet hr h1 (fun w _ => h2 w) (fun _ _ => trivial) (fun d g' hst => E0.of hd hst (fine_seen hf)) h5
theorem at_self (w : World) : ∃ d, w = w.at d := ⟨w.drawn, rfl⟩
theorem sil0 {Z : Goroutine → World → Prop} {g h : Goroutine} {w : World} {n : Nat} {ans : List Ans} {l : List Fx} (hs : grun Tryz.prog CC true n g ans = some (h, l)) (h2 : ∀ w, okOf l w) (h5 : Solo Tryz.prog E0 Z h w) : Solo Tryz.prog E0 Z g w :=
  Solo.sil (Lv := fun _ => True) E0.quiet (fun _ => trivial) (at_self w) (grun_sound ccOk hs fun w _ => h2 w) h5
/-- Blocks that are not yet. -/
def far (w : World) : Cx := ⟨w.heap.size, w.heap.size, w.heap.size, w.heap.size, w.heap.size, w.heap.size, w.heap.size, w.heap.size, w.heap.size, w.heap.size⟩
theorem far_turned {w : World} {b : Nat} (h : Turned (far w) b) : b = w.heap.size := by
  rcases h with h | h | h | h | h | h <;> exact h
theorem far_cells {w w0 : World} (h : Told (far w) w w0) : ∀ a v, w.cell? a = some v → w0.cell? a = some v := fun a v hv => h.cell (fun hT => by have := far_turned hT; have := World.block_lt_of_cell? w a hv; omega) hv
theorem kept_below {w w0 w' : World} {L : List FuncId} (s : Sim (Cl Tryz.prog (far w) L w) w0 w') (k : Kept (Cl Tryz.prog (far w) L w) w w') : Below w.heap.size w w' :=
  ⟨k.os, k.tape, k.output, by have := s.size; have h2 : w.heap.size ≤ w0.heap.size := s.le; omega, fun b hb => k.old b hb (.inr fun hT => by have := far_turned hT; omega)⟩
/-- A lone walk, its return included. -/
theorem way0 {Z : Goroutine → World → Prop} {f : FuncId} (hf : f ∈ Sq.LS) {args : Array Value} {w : World} {c : Frame} {rest : List Frame} {R : Ending → World → Prop} (hR : ∀ e (w : World) T, R e w → R e { w with tape := T }) (hv : ∀ e w', R e w' → ∃ v, e = .returned v)
    (hE : ∀ w0, (∀ a v, w.cell? a = some v → w0.cell? a = some v) → CallsIn (Fence.list Sq.LS none) 0 Tryz.prog f args w0 R)
    (hk : ∀ v w0 w', R (.returned v) w0 → Below w.heap.size w w' → Solo Tryz.prog E0 Z (on (c.finish v) rest) w') : Solo Tryz.prog E0 Z (on (Frame.enter Tryz.prog f args .normal) (c :: rest)) w := by
  obtain ⟨w0, _, sim, way⟩ := enter_way (x := far w) (w := w) list_ok list_inits hf (args := args) hR (fun w' h => by obtain ⟨v, e⟩ := hv _ _ h; cases e) (fun b hT => .inr (.inr (by rw [far_turned hT]; exact Array.getElem?_eq_none (Nat.le_refl _)))) (fun w0 ht => hE w0 (far_cells ht))
  exact Solo.way (C := Cl Tryz.prog (far w) Sq.LS w) (s := ⟨Frame.enter Tryz.prog f args .normal, [], w0⟩) list_ok (fun fr cs w g' w' es hst he => E0.of rfl hst fun e hee => evOk_fine (he e hee)) hv way sim (fun v w0 w' h1 h2 h3 => hk v w0 w' h1 (kept_below h2 h3))
section
variable {sp : Option Addr} {m c : Nat} {k : Int} {W : World} {xs : List NodeX}
variable (sp m c k W xs) in
/-- The start. -/
structure Start : Prop where
  nodes : NodesAt W (.slice sp m c) xs
  tabs : T0 W
  fits : m ≤ 9223372036854775807
  num : -9223372036854775808 ≤ k ∧ k ≤ 9223372036854775807
theorem Start.len (h : Start sp m c k W xs) : xs.length = m := h.nodes.len
/-- The box of the argument stands. -/
structure Box (w : World) (sv : Value) (W : World) : Prop where
  below : Below W.heap.size W w
  big : W.heap.size < w.heap.size
  box : w.cell? ⟨W.heap.size, 0, none⟩ = some sv
theorem Box.at {w W : World} {sv : Value} (h : Box w sv W) (d : Nat) : Box (w.at d) sv W := ⟨below_at h.below d, h.big, h.box⟩
theorem Box.on {w w' W : World} {sv : Value} (h : Box w sv W) (hb : Below w.heap.size w w') : Box w' sv W := ⟨h.below.trans (hb.mono h.below.size), Nat.lt_of_lt_of_le h.big hb.size, cells_of hb _ _ h.box⟩
theorem Box.push {w W : World} {sv : Value} (h : Box w sv W) (o : Obj) : Box { w with heap := w.heap.push o } sv W := h.on (below_push (Below.refl _ _) (Nat.le_refl _) o)
/-- How the first stage ends. -/
def Z0 (sp : Option Addr) (m c : Nat) (k : Int) (W : World) (xs : List NodeX) (g : Goroutine) (w : World) : Prop :=
  (∃ T td, g = mkE T td ∧ T.getD 4 undef = .bool true ∧ Below W.heap.size W w) ∨
  ∃ Sb K K', g = c1 Tryz.prog k Sb K [fr3c Tryz.prog k W.heap.size K'] ∧ treeB (xs.map NodeX.row) = true ∧ workB k = true ∧ Box w (.slice sp m c) W ∧ W.heap.size < Sb ∧ w.cell? ⟨Sb, 0, none⟩ = some (.slice sp m c) ∧ w.heap[Sb]? = some (.cells #[.slice sp m c] 24)
theorem end0 {T : Array Value} {td : List Item} {w : World} (hT : T.getD 4 undef = .bool true) (hb : Below W.heap.size W w) : Solo Tryz.prog E0 (Z0 sp m c k W xs) (mkE T td) w := .stop fun d => .inl ⟨T, td, rfl, hT, below_at hb d⟩
theorem gtb (a b : Int) : cm .gtr a b = decide (a > b) := rfl
theorem leb (a b : Int) : cm .leq a b = decide (a ≤ b) := rfl
theorem geb (a b : Int) : cm .geq a b = decide (a ≥ b) := rfl
theorem neb (a b : Int) : cm .neq a b = (a != b) := rfl
theorem ltb (a b : Int) : cm .lss a b = decide (a < b) := rfl
/-- The document's Once, where crew.Once has handed back nothing. -/
theorem bad0 (hS : Start sp m c k W xs) {e : Int} (he : (treeB (xs.map NodeX.row) = false ∧ e = 6) ∨ (treeB (xs.map NodeX.row) = true ∧ workB k = false ∧ e = 310)) {w : World} (hB : Box w (.slice sp m c) W) (K : Nat → Value) :
    Solo Tryz.prog E0 (Z0 sp m c k W xs) (mkB Tryz.prog k W.heap.size (.slice none 0 0) (.int .i64 0) (.int .i64 e) K) w := by
  refine go0 (mkB_s sp m c k W.heap.size _ _ _ K) rfl rfl rfl (fun d => And.intro hB.box trivial) (fun _ => trivial) fun d => ?_
  have hB := hB.at d
  change Solo Tryz.prog E0 (Z0 sp m c k W xs) _ (w.at d)
  refine way0 (w := w.at d) (by decide) (R := fun e' _ => e' = .returned (.tuple #[.slice none 0 0, .int .i64 0, .int .i64 e])) (fun _ _ _ h => h) (fun e w' h => ⟨_, h⟩) (fun w0 hc => ?_) (fun v w0 w' hv hb => ?_)
  · have hc' : ∀ a v, W.cell? a = some v → w0.cell? a = some v := fun a v hv => hc a v (cells_of hB.below a v hv)
    refine CallsIn.mono (Sq.refonce_in valid sp m c xs k w0 (nodes_of hS.nodes hc') (hS.tabs.of_cells hc') hS.num) fun e' w' h => ?_
    unfold OncePost at h
    rcases he with ⟨h1, rfl⟩ | ⟨h1, h2, rfl⟩
    · rw [h1, if_pos rfl] at h; exact h
    · rw [h1, if_neg (by decide), h2, if_pos rfl] at h; exact h
  · injection hv with hv
    subst hv
    have hq := d1_e k W.heap.size none none 0 0 0 0 0 0 e e (fun i => ((st Tryz.prog true 2 (mkB Tryz.prog k W.heap.size (.slice none 0 0) (.int .i64 0) (.int .i64 e) K) [.val (.slice sp m c)] []).callers.headD default).tmps.getD i undef)
    refine sil0 hq (fun _ => ?_) (end0 (d1_e4 ..) (hB.on hb).below)
    have e1 : cm .neq e e = false := by rw [neb]; simp
    exact And.intro rfl (And.intro rfl (And.intro rfl (And.intro rfl (And.intro e1 (And.intro e1 (And.intro e1 (And.intro e1 (And.intro e1 (And.intro e1 (And.intro rfl (And.intro rfl trivial)))))))))))
/-- crew.Once. -/
theorem once0 (hS : Start sp m c k W xs) {w : World} (hB : Box w (.slice sp m c) W) (K : Nat → Value) : Solo Tryz.prog E0 (Z0 sp m c k W xs) (mkA Tryz.prog k W.heap.size K) w := by
  refine go0 (mkA_s sp m c k W.heap.size K) rfl rfl rfl (fun d => And.intro hB.box trivial) (fun _ => trivial) fun d => ?_
  have hB := hB.at d
  change Solo Tryz.prog E0 (Z0 sp m c k W xs) _ (w.at d)
  obtain ⟨K', hK'⟩ : ∃ K', (fun i => ((st Tryz.prog true 4 (mkA Tryz.prog k W.heap.size K) [.val (.slice sp m c)] []).callers.headD default).tmps.getD i undef) = K' := ⟨_, rfl⟩
  rw [hK']
  generalize w.at d = w at hB
  refine go0 (b1_s sp m c k [fr3c Tryz.prog k W.heap.size K'] w.heap.size) (by kernel_rfl) (by kernel_rfl) rfl (fun d => And.intro rfl trivial) (fun _ => trivial) fun d => ?_
  obtain ⟨w2, hw2⟩ : ∃ w2, wOf [.new (.cells #[.slice sp m c] 24) w.heap.size] (w.at d) = w2 := ⟨_, rfl⟩
  have hB2 : Box w2 (.slice sp m c) W := by rw [← hw2]; exact (hB.at d).push _
  have hSb : w2.heap[w.heap.size]? = some (.cells #[.slice sp m c] 24) := by rw [← hw2]; show ((w.at d).heap.push _)[w.heap.size]? = _; exact Array.getElem?_push_size
  have hbig := hB.big
  rw [hw2]
  have hcS : w2.cell? ⟨w.heap.size, 0, none⟩ = some (.slice sp m c) := cell_of hSb rfl
  refine go0 (b2_s sp m c k [fr3c Tryz.prog k W.heap.size K'] w.heap.size) (by kernel_rfl) (by kernel_rfl) rfl (fun d => And.intro hcS trivial) (fun _ => trivial) fun d2 => ?_
  have hB3 := hB2.at d2
  change Solo Tryz.prog E0 (Z0 sp m c k W xs) _ (w2.at d2)
  obtain ⟨K4, hK4⟩ : ∃ K4, (fun i => ((st Tryz.prog true 1 (b2 Tryz.prog sp m c k [fr3c Tryz.prog k W.heap.size K'] w.heap.size) [.val (.slice sp m c)] []).callers.headD default).tmps.getD i undef) = K4 := ⟨_, rfl⟩
  rw [hK4]
  refine way0 (w := w2.at d2) (by decide) (R := fun e' _ => e' = .returned (.int .i64 (eSpec (treeB (xs.map NodeX.row))))) (fun _ _ _ h => h) (fun e w' h => ⟨_, h⟩) (fun w0 hc => ?_) (fun v w0 w' hv hb => ?_)
  · have hc' : ∀ a v, W.cell? a = some v → w0.cell? a = some v := fun a v hv => hc a v (cells_of hB3.below a v hv)
    exact CallsIn.mono (Sq.tcheck_in valid sp m c xs w0 (nodes_of hS.nodes hc') (hS.tabs.of_cells hc')) fun e' w' h => h.1
  · injection hv with hv
    subst hv
    have hB4 := hB3.on hb
    have hSb4 : w'.heap[w.heap.size]? = some (.cells #[.slice sp m c] 24) := (hb.block _ (Array.getElem?_eq_some_iff.1 (show (w2.at d2).heap[w.heap.size]? = _ from hSb)).1).trans hSb
    cases hG : treeB (xs.map NodeX.row) with
    | false =>
      exact sil0 (b4_bad k W.heap.size w.heap.size K4 K') (fun _ => And.intro rfl trivial) (bad0 hS (.inl ⟨hG, rfl⟩) hB4 _)
    | true =>
      cases hk : workB k with
      | true =>
        have hk' : (decide (1 ≤ k) && decide (k ≤ 16)) = true := hk
        rw [Bool.and_eq_true, decide_eq_true_eq, decide_eq_true_eq] at hk'
        refine sil0 (b4_good k w.heap.size K4 [fr3c Tryz.prog k W.heap.size K']) (fun _ => ?_) (.stop fun d => .inr ⟨w.heap.size, K4, K', rfl, hG, hk, hB4.at d, hbig, cell_of hSb4 rfl, hSb4⟩)
        have e1 : cm .geq k 1 = true := by rw [geb]; simpa using hk'.1
        have e2 : (!(cm .leq k 16)) = false := by rw [leb]; simpa using hk'.2
        exact And.intro rfl (And.intro e1 (And.intro e1 (And.intro e1 (And.intro e2 trivial))))
      | false =>
        have hk' : (decide (1 ≤ k) && decide (k ≤ 16)) = false := hk
        by_cases h1 : 1 ≤ k
        · have h2 : ¬ k ≤ 16 := by simpa [h1] using hk'
          refine sil0 (b4_many k W.heap.size w.heap.size K4 K') (fun _ => ?_) (bad0 hS (.inr ⟨hG, hk, rfl⟩) hB4 _)
          have e1 : cm .geq k 1 = true := by rw [geb]; simpa using h1
          have e2 : (!(cm .leq k 16)) = true := by rw [leb]; simpa using h2
          exact And.intro rfl (And.intro e1 (And.intro e1 (And.intro e1 (And.intro e2 trivial))))
        · refine sil0 (b4_few k W.heap.size w.heap.size K4 K') (fun _ => ?_) (bad0 hS (.inr ⟨hG, hk, rfl⟩) hB4 _)
          have e1 : cm .geq k 1 = false := by rw [geb]; simpa using h1
          exact And.intro rfl (And.intro e1 (And.intro e1 (And.intro e1 (And.intro rfl trivial))))
/-- THE FIRST STAGE. -/
theorem stage0 (hS : Start sp m c k W xs) : Solo Tryz.prog E0 (Z0 sp m c k W xs) (e3 Tryz.prog sp m c k) W := by
  refine sil0 (a1_q sp m c k) (fun _ => trivial) ?_
  refine go0 (a1_s sp m c k W.heap.size) (by kernel_rfl) (by kernel_rfl) rfl (fun d => And.intro rfl trivial) (fun _ => trivial) fun d => ?_
  obtain ⟨w, hw⟩ : ∃ w, wOf [.new (.cells #[.slice sp m c] 24) W.heap.size] (W.at d) = w := ⟨_, rfl⟩
  have hB : Box w (.slice sp m c) W := by
    rw [← hw]
    exact ⟨below_push (below_at (Below.refl _ _) d) (Nat.le_refl _) _, by show W.heap.size < ((W.at d).heap.push _).size; rw [Array.size_push]; exact Nat.lt_succ_self _, cell_pushed (W.at d) _ _⟩
  rw [hw]
  by_cases h100 : 100 < m
  · have t1 : cm .gtr m 100 = true := by rw [gtb]; simp; omega
    refine go0 (a2_c sp m c k W.heap.size) (by kernel_rfl) (by kernel_rfl) rfl (fun d => And.intro hB.box trivial) (fun _ => And.intro t1 trivial) fun d => ?_
    have hB := hB.at d
    have hx : wOf [.load .plain ⟨W.heap.size, 0, none⟩ (.slice sp m c)] (w.at d) = w.at d := rfl
    rw [hx]
    generalize w.at d = w at hB
    by_cases h1024 : m ≤ 1024
    · have t2 : cm .leq m 1024 = true := by rw [leb]; simp; omega
      exact go0 (a3_e sp m c k W.heap.size) (by kernel_rfl) (by kernel_rfl) rfl (fun d => And.intro t1 (And.intro hB.box trivial)) (fun _ => And.intro t1 (And.intro t1 (And.intro t1 (And.intro t2 (And.intro t2 (And.intro t2 (And.intro t2 (And.intro t2 (And.intro rfl trivial)))))))))
        fun d => end0 (a3_e4 ..) (hB.at d).below
    · have t2 : cm .leq m 1024 = false := by rw [leb]; simp; omega
      refine go0 (a3_c sp m c k W.heap.size) (by kernel_rfl) (by kernel_rfl) rfl (fun d => And.intro t1 (And.intro hB.box trivial)) (fun _ => And.intro t1 (And.intro t1 (And.intro t1 (And.intro t2 trivial)))) fun d => ?_
      have hB := hB.at d
      have hx : wOf [.test (cm .gtr m 100) true, .load .plain ⟨W.heap.size, 0, none⟩ (.slice sp m c)] (w.at d) = w.at d := rfl
      rw [hx]
      generalize w.at d = w at hB
      by_cases h2000 : 2000 < m
      · have t3 : cm .gtr m 2000 = true := by rw [gtb]; simp; omega
        exact go0 (a4_e sp m c k W.heap.size) (by kernel_rfl) (by kernel_rfl) rfl (fun d => And.intro t2 (And.intro hB.box trivial)) (fun _ => And.intro t2 (And.intro t2 (And.intro t2 (And.intro t3 trivial)))) fun d => end0 (a4_e4 ..) (hB.at d).below
      · have t3 : cm .gtr m 2000 = false := by rw [gtb]; simp; omega
        exact go0 (a4_c sp m c k W.heap.size) (by kernel_rfl) (by kernel_rfl) rfl (fun d => And.intro t2 (And.intro hB.box trivial)) (fun _ => And.intro t2 (And.intro t2 (And.intro t2 (And.intro t3 trivial)))) fun d => once0 hS (hB.at d) _
  · have t1 : cm .gtr m 100 = false := by rw [gtb]; simp; omega
    have t3 : cm .gtr m 2000 = false := by rw [gtb]; simp; omega
    refine go0 (a2_s sp m c k W.heap.size) (by kernel_rfl) (by kernel_rfl) rfl (fun d => And.intro hB.box trivial) (fun _ => And.intro t1 (And.intro t1 (And.intro t1 (And.intro t1 (And.intro t1 (And.intro rfl trivial)))))) fun d => ?_
    exact go0 (a3_s sp m c k W.heap.size) (by kernel_rfl) (by kernel_rfl) rfl (fun d => And.intro rfl (And.intro hB.box trivial)) (fun _ => And.intro rfl (And.intro rfl (And.intro rfl (And.intro t3 trivial)))) fun d => once0 hS ((hB.at _).at d) _
end
end Go.Proofs.YthjofgmiabcifabGreatDoor.So
