/-
  The walk of the first goroutine, its stops.
  Conditions: as each theorem says.
-/
import Derived.Test.YthjofgmiabcifabGreatDoorPMc
import Derived.Test.YthjofgmiabcifabGreatDoorPMi
import Derived.Test.YthjofgmiabcifabGreatDoorPSf
import Derived.Test.YthjofgmiabcifabGreatDoorPGl
import Derived.Conc.CrowdStepC
set_option linter.unusedVariables false
set_option linter.unusedSimpArgs false
namespace Go.Proofs.YthjofgmiabcifabGreatDoor.So
open Go Go.Conc
open Go.ConcN (upd upd_same upd_ne sumTo sumTo_upd)
open Go.Proofs.YthjofgmiabcifabGreatDoor.Ev Go.Proofs.YthjofgmiabcifabGreatDoor.Ma
open Go.Proofs.YthjofgmiabcifabGreatDoor.Lift (LSt Sim Further Fin Way Cls Kept EvOk)
/-- A walk of goroutine 0: each step goes well whatever the count of draws; it comes where Z holds. -/
inductive Solo (P : Program) (E : Goroutine → World → World → Array Event → Prop) (Z : Goroutine → World → Prop) : Goroutine → World → Prop
  | stop {g : Goroutine} {w : World} : (∀ d, Z g (w.at d)) → Solo P E Z g w
  | next {g : Goroutine} {w : World} (G : Nat → Goroutine) (W : Nat → World) (es : Nat → Array Event) : g.status = .running →
      (∀ d, stepG P true g (w.at d) = .go (G d) (W d) (es d)) → (∀ d, E g (w.at d) (W d) (es d)) → (∀ d, Solo P E Z (G d) (W d)) → Solo P E Z g w
section
variable {P : Program} {E : Goroutine → World → World → Array Event → Prop} {Z : Goroutine → World → Prop} {g h : Goroutine} {w : World}
theorem Solo.step (hr : g.status = .running) (hs : ∀ d, ∃ g' w' es, stepG P true g (w.at d) = .go g' w' es ∧ E g (w.at d) w' es ∧ Solo P E Z g' w') : Solo P E Z g w := by
  classical
  exact .next (fun d => (hs d).choose) (fun d => (hs d).choose_spec.choose) (fun d => (hs d).choose_spec.choose_spec.choose) hr
    (fun d => (hs d).choose_spec.choose_spec.choose_spec.1) (fun d => (hs d).choose_spec.choose_spec.choose_spec.2.1) (fun d => (hs d).choose_spec.choose_spec.choose_spec.2.2)
theorem Solo.at (h : Solo P E Z g w) (d : Nat) : Solo P E Z g (w.at d) := by
  cases h with
  | stop h => exact .stop fun d' => h d'
  | next G W es h1 h2 h3 h4 => exact .next G W es h1 (fun d' => h2 d') h3 h4
/-- A quiet run. -/
theorem Solo.sil {Lv : World → Prop} (hE : ∀ g w, E g w w #[]) (hl : ∀ d, Lv (w.at d)) : ∀ {n : Nat} {g : Goroutine} {w' : World}, (∃ d, w' = w.at d) → Sil P true Lv n g h → Solo P E Z h w → Solo P E Z g w' := by
  intro n
  induction n with
  | zero => rintro g w' ⟨d, rfl⟩ hs hh; have hs : g = h := hs; subst hs; exact hh.at d
  | succ n ih =>
    rintro g w' ⟨d, rfl⟩ ⟨hr, g', h1, h2⟩ hh
    exact .step hr fun d' => ⟨g', w.at d', #[], h1 _ (hl d'), hE _ _, ih ⟨d', rfl⟩ h2 hh⟩
/-- A step that looks at the world and the quiet run behind it; what is asked may be answered by the draw. -/
theorem Solo.segs {C : Tab} (hC : TabOk P C) {Lv : World → Prop} (hE : ∀ g w, E g w w #[]) (hr : g.status = .running)
    (hs : ∀ d, ∃ n ans ans' l h l', gseg P C true n g ans ans' = some (l, h, l') ∧ okOf l (w.at d) ∧ (∀ w, Lv w → okOf l' w) ∧ (∀ d', Lv ((wOf l (w.at d)).at d')) ∧ (∀ g', stepG P true g (w.at d) = .go g' (wOf l (w.at d)) (seen P g.frame.fn (esOf l).toArray) → E g (w.at d) (wOf l (w.at d)) (seen P g.frame.fn (esOf l).toArray)) ∧ Solo P E Z h (wOf l (w.at d))) : Solo P E Z g w := by
  refine .step hr fun d => ?_
  obtain ⟨n, ans, ans', l, h, l', h1, h2, h3, h4, h5, h6⟩ := hs d
  obtain ⟨g', h7, h8⟩ := gseg_sound hC h1 h3
  exact ⟨g', _, _, h7 _ h2, h5 _ (h7 _ h2), Solo.sil (w := wOf l (w.at d)) hE h4 ⟨_, rfl⟩ h8 h6⟩
/-- The same, where the draws tell nothing. -/
theorem Solo.seg {C : Tab} (hC : TabOk P C) {n : Nat} {ans ans' : List Ans} {l l' : List Fx} (hs : gseg P C true n g ans ans' = some (l, h, l')) {Lv : World → Prop} (hE : ∀ g w, E g w w #[]) (hr : g.status = .running)
    (h1 : ∀ d, okOf l (w.at d)) (h2 : ∀ w, Lv w → okOf l' w) (h3 : ∀ d d', Lv ((wOf l (w.at d)).at d')) (h4 : ∀ d g', stepG P true g (w.at d) = .go g' (wOf l (w.at d)) (seen P g.frame.fn (esOf l).toArray) → E g (w.at d) (wOf l (w.at d)) (seen P g.frame.fn (esOf l).toArray)) (h5 : ∀ d, Solo P E Z h (wOf l (w.at d))) : Solo P E Z g w :=
  .segs hC hE hr fun d => ⟨n, ans, ans', l, h, l', hs, h1 d, h2, h3 d, h4 d, h5 d⟩
theorem sim_at {C : Cls} {w0 w : World} (s : Sim C w0 w) (d : Nat) : Sim C w0 (w.at d) := ⟨s.size, s.le, s.poison, s.frozen, s.own, s.new⟩
theorem kept_at {C : Cls} (w : World) (d : Nat) : Kept C w (w.at d) := ⟨rfl, rfl, rfl, fun _ _ _ => rfl⟩
/-- A LONE WALK, LIFTED, with its return into the frame below. -/
theorem Solo.way {C : Cls} {R : Ending → World → Prop} (hL : Lift.listOk C.P C.L = true) {c : Frame} {rest : List Frame} (hE : ∀ fr cs w g' w' es, stepG C.P true ⟨fr, cs, .running, none, none⟩ w = .go g' w' es → (∀ e ∈ es, EvOk C e) → E ⟨fr, cs, .running, none, none⟩ w w' es)
    (hR : ∀ e w', R e w' → ∃ v, e = .returned v) {s : LSt} (way : Lift.Way C.bare R s) : ∀ {w : World}, Sim C s.w w →
    (∀ v w0 w', R (.returned v) w0 → Sim C w0 w' → Kept C w w' → Solo C.P E Z ⟨c.finish v, rest, .running, none, none⟩ w') → Solo C.P E Z ⟨s.fr, s.up ++ c :: rest, .running, none, none⟩ w := by
  have acc := Lift.way_acc way
  induction acc with
  | intro s _ ih =>
    intro w sim hk
    refine .step rfl fun d => ?_
    by_cases hf : Fin C.bare R s (Lift.joined s (w.at d))
    · obtain ⟨hup, e, hne, hleave, hr⟩ := hf
      have hi : Lift.LInv C.bare s := by cases way with | mk hi _ _ => exact hi
      obtain ⟨v, rfl⟩ := hR _ _ hr
      obtain ⟨es, hst, hes⟩ := Lift.way_return (c := c) (rest := rest) (m := true) (st := .running) (of := none) hi (sim_at sim d) hleave
      have hst' : stepG C.P true ⟨s.fr, s.up ++ c :: rest, .running, none, none⟩ (w.at d) = .go ⟨c.finish v, rest, .running, none, none⟩ (w.at d) es := by rw [hup]; exact hst
      refine ⟨_, _, es, hst', hE _ _ _ _ _ _ hst' hes, hk v _ _ hr ?_ (kept_at w d)⟩
      have sim := sim_at sim d
      exact ⟨sim.size, sim.le, sim.poison, sim.frozen, sim.own, sim.new⟩
    · obtain ⟨s', w', es, way', fur, hst, sim', hes, kept, hdr⟩ := Lift.way_company (base := c :: rest) (m := true) (st := .running) (of := none) hL way (sim_at sim d) hf
      exact ⟨_, _, es, hst, hE _ _ _ _ _ _ hst hes, ih s' fur way' sim' fun v w0 w'' a b k => hk v w0 w'' a b ((kept_at w d).trans (kept.trans k))⟩
end
section
variable {P : Program} {E : Goroutine → World → World → Array Event → Prop} {Z : Goroutine → World → Prop} {n : Nat} {J : World → (Nat → Nat) → Trace → Prop} {Q : Machine → Outcome → World → Trace → Prop}
/-- All but the first only leave. -/
def Leave (P : Program) (n : Nat) (gs : Array Goroutine) (fu dw : Nat → Nat) : Prop := gs.size = n + 1 ∧ ∀ i, i < n → ∃ g, gs[i + 1]? = some g ∧ QuitsD P (fu i) (dw i) g
theorem leave_awake {gs : Array Goroutine} {fu dw : Nat → Nat} (h : Leave P n gs fu dw) {a : Goroutine} (h0 : gs[0]? = some a) (hr : a.status = .running) : ∀ g ∈ gs, awake g := by
  intro g hg
  obtain ⟨i, hi, rfl⟩ := Array.mem_iff_getElem.1 hg
  rcases Nat.eq_zero_or_pos i with rfl | hpos
  · have : gs[0] = a := by simpa [Array.getElem?_eq_getElem hi] using h0
    rw [this]; exact awake_of (.inl hr)
  · obtain ⟨k, rfl⟩ : ∃ k, i = k + 1 := ⟨i - 1, by omega⟩
    obtain ⟨g, hg, hq⟩ := h.2 k (by have := h.1; omega)
    rw [Array.getElem?_eq_getElem hi] at hg
    cases hg
    exact awake_of (hq.status.elim .inl fun x => .inr (.inr x))
/-- A leaver's step. -/
theorem leave_step {gs : Array Goroutine} {fu dw : Nat → Nat} (h : Leave P n gs fu dw) {a : Goroutine} (h0 : gs[0]? = some a) (hr : a.status = .running) {k : Nat} {g : Goroutine} (hg : gs[k + 1]? = some g) (hgr : g.status = .running) (w : World) (sl : Option (Nat × Nat)) :
    ∃ gs' m es, runT P (crowd gs w sl) (k + 1) = (.next (crowd gs' w sl), MemOp.ofEvents (k + 1) g.frame.fn g.frame.place es) ∧ k < n ∧ (∀ e ∈ es, Event.mute e = true) ∧ gs'[0]? = some a ∧ Leave P n gs' (upd fu k m) (upd dw k (deafBehind (dw k) es)) ∧
      sumTo n (upd fu k m) + 1 = sumTo n fu := by
  obtain ⟨hs, hall⟩ := h
  have hlt : k + 1 < gs.size := (Array.getElem?_eq_some_iff.1 hg).1
  obtain ⟨g2, hg2, hq⟩ := hall k (by omega)
  have hge := hg2.symm.trans hg
  cases hge
  cases hf : fu k with
  | zero => rw [hf] at hq; rw [hq.1] at hgr; cases hgr
  | succ m =>
    rw [hf] at hq
    rcases hq with ⟨h, _⟩ | ⟨_, g', es, hm, hst, hq'⟩
    · rw [h] at hgr; cases hgr
    have hrun := runT_crowd_go (P := P) (sl := sl) (i := k + 1) hg (by simpa using hst w)
    have hsum := sumTo_upd fu m id (show k < n by omega)
    simp only [id, hf] at hsum
    refine ⟨_, m, es, hrun, by omega, hm, ?_, ⟨by simpa using hs, fun i hi => ?_⟩, ?_⟩
    · rw [Array.getElem?_setIfInBounds_ne (by omega), Array.getElem?_map, h0]
      simp [woken_run hr]
    · by_cases e : i = k
      · subst e
        rw [Array.getElem?_setIfInBounds_self_of_lt (by simpa using hlt), upd_same, upd_same]
        exact ⟨_, rfl, hq'⟩
      · obtain ⟨o, ho, hqo⟩ := hall i hi
        rw [Array.getElem?_setIfInBounds_ne (by omega), Array.getElem?_map, ho, upd_ne _ _ e, upd_ne _ _ e]
        exact ⟨_, rfl, by rw [woken_quitsD hqo]; exact hqo⟩
    · have e1 : sumTo n (upd fu k m) = sumTo n fun i => upd fu k m i := rfl
      have e2 : sumTo n fu = sumTo n fun i => fu i := rfl
      rw [e1, e2]
      omega
/-- THE WALK RUNS. -/
theorem solo_runs (hat : ∀ w dw t d, J w dw t → J (w.at d) dw t)
    (h0 : ∀ g g' w w' es dw t, stepG P true g w = .go g' w' es → E g w w' es → J w dw t → J w' dw (t ++ MemOp.ofEvents 0 g.frame.fn g.frame.place es))
    (hl : ∀ w dw t k fn pos es, k < n → (∀ e ∈ es, Event.mute e = true) → J w dw t → J w (upd dw k (deafBehind (dw k) es)) (t ++ MemOp.ofEvents (k + 1) fn pos es))
    (hZ : ∀ g w gs fu dw t sl, Z g w → gs[0]? = some g → Leave P n gs fu dw → J w dw t → Runs P Q (crowd gs w sl) t) :
    ∀ {g : Goroutine} {w : World}, Solo P E Z g w → ∀ (m : Nat) (d : Nat) gs fu dw t sl, sumTo n fu = m → gs[0]? = some g → Leave P n gs fu dw → J (w.at d) dw t → Runs P Q (crowd gs (w.at d) sl) t := by
  intro g w h
  induction h with
  | stop h => intro m d gs fu dw t sl _ hg hL hJ; exact hZ _ _ _ _ _ _ _ (h d) hg hL hJ
  | @next g w G W es hr hst hE hs ih =>
    intro m
    induction m using Nat.strongRecOn with
    | _ m ihm =>
      intro d gs fu dw t sl hm hg hL hJ
      obtain ⟨i, a, d', sl', hi, har, hstep⟩ := crowd_pick (P := P) (w := w.at d) (sl := sl) (leave_awake hL hg hr) ⟨0, g, hg, hr⟩
      have hJ' : J (w.at d') dw t := hat (w.at d) dw t d' hJ
      rcases Nat.eq_zero_or_pos i with rfl | hpos
      · have := hi.symm.trans hg
        cases this
        have hrun := runT_crowd_go (P := P) (sl := sl') (i := 0) hg (show stepG P (0 == 0) g (w.at d') = _ from hst d')
        refine .next (hstep.trans hrun) ?_
        have hlt : 0 < gs.size := by have := hL.1; omega
        have := ih d' _ (W d').drawn ((gs.map (woken P g (G d') (W d'))).setIfInBounds 0 (G d')) fu dw (t ++ MemOp.ofEvents 0 g.frame.fn g.frame.place (es d')) sl' rfl (by rw [Array.getElem?_setIfInBounds_self_of_lt (by simpa using hlt)])
          ⟨by simpa using hL.1, fun i hi => by
            obtain ⟨o, ho, hqo⟩ := hL.2 i hi
            rw [Array.getElem?_setIfInBounds_ne (by omega), Array.getElem?_map, ho]
            exact ⟨_, rfl, by rw [woken_quitsD hqo]; exact hqo⟩⟩ (h0 _ _ _ _ _ _ _ (hst d') (hE d') hJ')
        exact this
      · obtain ⟨k, rfl⟩ : ∃ k, i = k + 1 := ⟨i - 1, by omega⟩
        obtain ⟨gs', m', es', hrun, hk, hmu, hg', hL', hsum⟩ := leave_step hL hg hr hi har (w.at d') sl'
        refine .next (hstep.trans hrun) (ihm _ ?_ d' gs' _ _ _ sl' rfl hg' hL' (hl _ _ _ _ _ _ _ hk hmu hJ'))
        omega
/-- THE END: the step by which the run ends, whoever leaves ahead of it. -/
theorem end_runs (hat : ∀ w dw t d, J w dw t → J (w.at d) dw t)
    (hl : ∀ w dw t k fn pos es, k < n → (∀ e ∈ es, Event.mute e = true) → J w dw t → J w (upd dw k (deafBehind (dw k) es)) (t ++ MemOp.ofEvents (k + 1) fn pos es))
    {g : Goroutine} {w : World} (hr : g.status = .running) (hst : ∀ d, ∃ o w' es, stepG P true g (w.at d) = .ended o w' es ∧ ∀ gs fu dw t sl w1, gs[0]? = some g → Leave P n gs fu dw → J (w.at d) dw t → Q (crowd gs w1 sl) o w' (t ++ MemOp.ofEvents 0 g.frame.fn g.frame.place es)) :
    ∀ (m : Nat) (d : Nat) gs fu dw t sl, sumTo n fu = m → gs[0]? = some g → Leave P n gs fu dw → J (w.at d) dw t → Runs P Q (crowd gs (w.at d) sl) t := by
  intro m
  induction m using Nat.strongRecOn with
  | _ m ihm =>
    intro d gs fu dw t sl hm hg hL hJ
    obtain ⟨i, a, d', sl', hi, har, hstep⟩ := crowd_pick (P := P) (w := w.at d) (sl := sl) (leave_awake hL hg hr) ⟨0, g, hg, hr⟩
    have hJ' : J (w.at d') dw t := hat (w.at d) dw t d' hJ
    rcases Nat.eq_zero_or_pos i with rfl | hpos
    · have := hi.symm.trans hg
      cases this
      obtain ⟨o, w', es, h1, h2⟩ := hst d'
      have hrun := Go.ConcN.runT_crowd_ended (P := P) (sl := sl') (i := 0) hg (show stepG P (0 == 0) g (w.at d') = _ from h1)
      exact .fin (hstep.trans hrun) (h2 gs fu dw t sl (w.at d) hg hL hJ')
    · obtain ⟨k, rfl⟩ : ∃ k, i = k + 1 := ⟨i - 1, by omega⟩
      obtain ⟨gs', m', es', hrun, hk, hmu, hg', hL', hsum⟩ := leave_step hL hg hr hi har (w.at d') sl'
      exact .next (hstep.trans hrun) (ihm _ (by omega) d' gs' _ _ _ sl' rfl hg' hL' (hl _ _ _ _ _ _ _ hk hmu hJ'))
end
end Go.Proofs.YthjofgmiabcifabGreatDoor.So
namespace Go.Proofs.YthjofgmiabcifabGreatDoor.So
open Go Go.Conc Go.Proofs.YthjofgmiabcifabGreatDoor.Ev Go.Proofs.YthjofgmiabcifabGreatDoor.Co
abbrev spv (sp : Option Addr) (m c : Nat) : Value := .agg #[.slice sp m c]
def e3 (P : Program) (sp : Option Addr) (m c : Nat) (k : Int) : Goroutine := on (Frame.enter P 3 #[spv sp m c, .int .i64 k] .normal) []
def a1 (P : Program) (sp : Option Addr) (m c : Nat) (k : Int) : Goroutine := qt P true 2 (e3 P sp m c k) []
theorem a1_q (sp : Option Addr) (m c : Nat) (k : Int) : grun Tryz.prog CC true 2 (e3 Tryz.prog sp m c k) [] = some (a1 Tryz.prog sp m c k, []) := by kernel_rfl
def a2 (P : Program) (sp : Option Addr) (m c : Nat) (k : Int) (b0 : Nat) : Goroutine := st P true 6 (a1 P sp m c k) [.num b0] []
theorem a1_s (sp : Option Addr) (m c : Nat) (k : Int) (b0 : Nat) : gseg Tryz.prog CC true 6 (a1 Tryz.prog sp m c k) [.num b0] [] = some ([.new (.cells #[.slice sp m c] 24) b0], a2 Tryz.prog sp m c k b0, []) := by kernel_rfl
def a3 (P : Program) (sp : Option Addr) (m c : Nat) (k : Int) (b0 : Nat) : Goroutine := st P true 10 (a2 P sp m c k b0) [.val (.slice sp m c)] [.bool false, .bool false, .bool false, .bool false, .bool false, .bool false]
theorem a2_s (sp : Option Addr) (m c : Nat) (k : Int) (b0 : Nat) : gseg Tryz.prog CC true 10 (a2 Tryz.prog sp m c k b0) [.val (.slice sp m c)] [.bool false, .bool false, .bool false, .bool false, .bool false, .bool false] = some ([.load .plain ⟨b0, 0, none⟩ (.slice sp m c)], a3 Tryz.prog sp m c k b0, [.test (cm .gtr m 100) false, .test (cm .gtr m 100) false, .test (cm .gtr m 100) false, .test (cm .gtr m 100) false, .test (cm .gtr m 100) false, .test false false]) := by kernel_rfl
def a3c (P : Program) (sp : Option Addr) (m c : Nat) (k : Int) (b0 : Nat) : Goroutine := st P true 4 (a2 P sp m c k b0) [.val (.slice sp m c)] [.bool true]
theorem a2_c (sp : Option Addr) (m c : Nat) (k : Int) (b0 : Nat) : gseg Tryz.prog CC true 4 (a2 Tryz.prog sp m c k b0) [.val (.slice sp m c)] [.bool true] = some ([.load .plain ⟨b0, 0, none⟩ (.slice sp m c)], a3c Tryz.prog sp m c k b0, [.test (cm .gtr m 100) true]) := by kernel_rfl
def a4c (P : Program) (sp : Option Addr) (m c : Nat) (k : Int) (b0 : Nat) : Goroutine := st P true 5 (a3c P sp m c k b0) [.bool true, .val (.slice sp m c)] [.bool true, .bool true, .bool true, .bool false]
theorem a3_c (sp : Option Addr) (m c : Nat) (k : Int) (b0 : Nat) : gseg Tryz.prog CC true 5 (a3c Tryz.prog sp m c k b0) [.bool true, .val (.slice sp m c)] [.bool true, .bool true, .bool true, .bool false] = some ([.test (cm .gtr m 100) true, .load .plain ⟨b0, 0, none⟩ (.slice sp m c)], a4c Tryz.prog sp m c k b0, [.test (cm .gtr m 100) true, .test (cm .gtr m 100) true, .test (cm .gtr m 100) true, .test (cm .leq m 1024) false]) := by kernel_rfl
def tdA (P : Program) : List Item := (st P true 8 (a3 P none 0 0 0 0) [.bool false, .val (.slice none 0 0)] [.bool false, .bool false, .bool false, .bool false]).frame.todo
/-- At the call of crew.Once. -/
def mkA (P : Program) (k : Int) (b0 : Nat) (K : Nat → Value) : Goroutine := on { fn := 3, tmps := #[K 0, .int .i64 k, ptr b0 0, K 3, K 4, K 5, K 6, K 7, K 8, K 9, K 10, K 11, K 12, K 13, K 14, K 15, K 16, K 17, K 18, K 19, K 20, K 21, K 22, K 23, K 24, K 25, K 26, K 27, K 28, K 29, K 30, K 31, K 32, K 33, K 34, K 35, K 36, K 37, K 38, K 39, K 40, K 41, K 42, K 43, K 44, K 45, K 46, K 47, K 48, K 49, K 50, K 51, K 52, K 53, K 54, K 55, K 56, K 57, K 58, K 59, K 60, K 61, K 62, K 63, K 64, K 65, K 66, K 67, K 68, K 69, K 70, K 71], todo := tdA P, defers := [], mode := .run, kind := .normal } []
theorem a3_s (sp : Option Addr) (m c : Nat) (k : Int) (b0 : Nat) : gseg Tryz.prog CC true 8 (a3 Tryz.prog sp m c k b0) [.bool false, .val (.slice sp m c)] [.bool false, .bool false, .bool false, .bool false] = some ([.test false false, .load .plain ⟨b0, 0, none⟩ (.slice sp m c)], mkA Tryz.prog k b0 (junk (st Tryz.prog true 8 (a3 Tryz.prog sp m c k b0) [.bool false, .val (.slice sp m c)] [.bool false, .bool false, .bool false, .bool false])), [.test false false, .test false false, .test false false, .test (cm .gtr m 2000) false]) := by kernel_rfl
theorem a4_c (sp : Option Addr) (m c : Nat) (k : Int) (b0 : Nat) : gseg Tryz.prog CC true 8 (a4c Tryz.prog sp m c k b0) [.bool false, .val (.slice sp m c)] [.bool false, .bool false, .bool false, .bool false] = some ([.test (cm .leq m 1024) false, .load .plain ⟨b0, 0, none⟩ (.slice sp m c)], mkA Tryz.prog k b0 (junk (st Tryz.prog true 8 (a4c Tryz.prog sp m c k b0) [.bool false, .val (.slice sp m c)] [.bool false, .bool false, .bool false, .bool false])), [.test (cm .leq m 1024) false, .test (cm .leq m 1024) false, .test (cm .leq m 1024) false, .test (cm .gtr m 2000) false]) := by kernel_rfl
/-- It returns true. -/
def mkE (T : Array Value) (td : List Item) : Goroutine := on { fn := 3, tmps := T, todo := td, defers := [], mode := .returning, kind := .normal } []
theorem a3_e (sp : Option Addr) (m c : Nat) (k : Int) (b0 : Nat) : gseg Tryz.prog CC true 16 (a3c Tryz.prog sp m c k b0) [.bool true, .val (.slice sp m c)] [.bool true, .bool true, .bool true, .bool true, .bool true, .bool true, .bool true, .bool true, .bool true] = some ([.test (cm .gtr m 100) true, .load .plain ⟨b0, 0, none⟩ (.slice sp m c)], mkE (st Tryz.prog true 16 (a3c Tryz.prog sp m c k b0) [.bool true, .val (.slice sp m c)] [.bool true, .bool true, .bool true, .bool true, .bool true, .bool true, .bool true, .bool true, .bool true]).frame.tmps (st Tryz.prog true 16 (a3c Tryz.prog sp m c k b0) [.bool true, .val (.slice sp m c)] [.bool true, .bool true, .bool true, .bool true, .bool true, .bool true, .bool true, .bool true, .bool true]).frame.todo, [.test (cm .gtr m 100) true, .test (cm .gtr m 100) true, .test (cm .gtr m 100) true, .test (cm .leq m 1024) true, .test (cm .leq m 1024) true, .test (cm .leq m 1024) true, .test (cm .leq m 1024) true, .test (cm .leq m 1024) true, .test true true]) := by kernel_rfl
theorem a3_e4 (sp : Option Addr) (m c : Nat) (k : Int) (b0 : Nat) : (st Tryz.prog true 16 (a3c Tryz.prog sp m c k b0) [.bool true, .val (.slice sp m c)] [.bool true, .bool true, .bool true, .bool true, .bool true, .bool true, .bool true, .bool true, .bool true]).frame.tmps.getD 4 undef = .bool true := by kernel_rfl
theorem a4_e (sp : Option Addr) (m c : Nat) (k : Int) (b0 : Nat) : gseg Tryz.prog CC true 10 (a4c Tryz.prog sp m c k b0) [.bool false, .val (.slice sp m c)] [.bool false, .bool false, .bool false, .bool true] = some ([.test (cm .leq m 1024) false, .load .plain ⟨b0, 0, none⟩ (.slice sp m c)], mkE (st Tryz.prog true 10 (a4c Tryz.prog sp m c k b0) [.bool false, .val (.slice sp m c)] [.bool false, .bool false, .bool false, .bool true]).frame.tmps (st Tryz.prog true 10 (a4c Tryz.prog sp m c k b0) [.bool false, .val (.slice sp m c)] [.bool false, .bool false, .bool false, .bool true]).frame.todo, [.test (cm .leq m 1024) false, .test (cm .leq m 1024) false, .test (cm .leq m 1024) false, .test (cm .gtr m 2000) true]) := by kernel_rfl
theorem a4_e4 (sp : Option Addr) (m c : Nat) (k : Int) (b0 : Nat) : (st Tryz.prog true 10 (a4c Tryz.prog sp m c k b0) [.bool false, .val (.slice sp m c)] [.bool false, .bool false, .bool false, .bool true]).frame.tmps.getD 4 undef = .bool true := by kernel_rfl
def td3c (P : Program) : List Item := ((st P true 4 (mkA P 0 0 J0) [.val (.slice none 0 0)] []).callers.headD default).todo
/-- CrewOnces at its call of crew.Once. -/
def fr3c (P : Program) (k : Int) (b0 : Nat) (K : Nat → Value) : Frame := { fn := 3, tmps := #[K 0, .int .i64 k, ptr b0 0, K 3, K 4, K 5, K 6, K 7, K 8, K 9, K 10, K 11, K 12, K 13, K 14, K 15, K 16, K 17, K 18, K 19, K 20, K 21, K 22, K 23, K 24, K 25, K 26, K 27, K 28, K 29, K 30, K 31, K 32, K 33, K 34, K 35, K 36, K 37, K 38, K 39, K 40, K 41, K 42, K 43, K 44, K 45, K 46, K 47, K 48, K 49, K 50, K 51, K 52, K 53, K 54, K 55, K 56, K 57, K 58, K 59, K 60, K 61, K 62, K 63, K 64, K 65, K 66, K 67, K 68, K 69, K 70, K 71], todo := td3c P, defers := [], mode := .run, kind := .normal }
def b1 (P : Program) (sp : Option Addr) (m c : Nat) (k : Int) (cs : List Frame) : Goroutine := on (st P true 4 (mkA P k 0 J0) [.val (.slice sp m c)] []).frame cs
theorem mkA_s (sp : Option Addr) (m c : Nat) (k : Int) (b0 : Nat) (K : Nat → Value) : gseg Tryz.prog CC true 4 (mkA Tryz.prog k b0 K) [.val (.slice sp m c)] [] = some ([.load .plain ⟨b0, 0, none⟩ (.slice sp m c)], b1 Tryz.prog sp m c k [fr3c Tryz.prog k b0 (fun i => ((st Tryz.prog true 4 (mkA Tryz.prog k b0 K) [.val (.slice sp m c)] []).callers.headD default).tmps.getD i undef)], []) := by kernel_rfl
def b2 (P : Program) (sp : Option Addr) (m c : Nat) (k : Int) (cs : List Frame) (Sb : Nat) : Goroutine := st P true 7 (b1 P sp m c k cs) [.num Sb] []
theorem b1_s (sp : Option Addr) (m c : Nat) (k : Int) (cs : List Frame) (Sb : Nat) : gseg Tryz.prog CC true 7 (b1 Tryz.prog sp m c k cs) [.num Sb] [] = some ([.new (.cells #[.slice sp m c] 24) Sb], b2 Tryz.prog sp m c k cs Sb, []) := by kernel_rfl
def td4w (P : Program) : List Item := ((st P true 1 (b2 P none 0 0 0 [] 0) [.val (.slice none 0 0)] []).callers.headD default).todo
/-- crew.Once at its call of tree.Check. -/
def fr4w (P : Program) (n : Int) (Sb : Nat) (K : Nat → Value) : Frame := { fn := 4, tmps := #[K 0, .int .i64 n, ptr Sb 0, K 3, K 4, K 5, K 6, K 7, K 8, K 9, K 10, K 11, K 12, K 13, K 14, K 15, K 16, K 17, K 18, K 19, K 20, K 21, K 22, K 23, K 24, K 25, K 26, K 27], todo := td4w P, defers := [], mode := .run, kind := .normal }
theorem b2_s (sp : Option Addr) (m c : Nat) (k : Int) (cs : List Frame) (Sb : Nat) : gseg Tryz.prog CC true 1 (b2 Tryz.prog sp m c k cs Sb) [.val (.slice sp m c)] [] = some ([.load .plain ⟨Sb, 0, none⟩ (.slice sp m c)], on (Frame.enter Tryz.prog 6 #[spv sp m c] .normal) (fr4w Tryz.prog k Sb (fun i => ((st Tryz.prog true 1 (b2 Tryz.prog sp m c k cs Sb) [.val (.slice sp m c)] []).callers.headD default).tmps.getD i undef) :: cs), []) := by kernel_rfl
/-- tree.Check has come back. -/
def b4 (P : Program) (n : Int) (Sb : Nat) (K : Nat → Value) (cs : List Frame) (e : Int) : Goroutine := on ((fr4w P n Sb K).finish (.int .i64 e)) cs
def tdB (P : Program) : List Item := (qt P true 27 (b4 P 0 0 J0 [fr3c P 0 0 J0] 6) [.bool true]).frame.todo
/-- At the call of the document's Once. -/
def mkB (P : Program) (k : Int) (b0 : Nat) (a nn e : Value) (K : Nat → Value) : Goroutine := on { fn := 3, tmps := #[K 0, .int .i64 k, ptr b0 0, K 3, K 4, a, nn, e, K 8, K 9, K 10, K 11, K 12, K 13, K 14, K 15, K 16, K 17, K 18, K 19, K 20, K 21, K 22, K 23, K 24, K 25, K 26, K 27, K 28, K 29, K 30, K 31, K 32, K 33, K 34, K 35, K 36, K 37, K 38, K 39, K 40, K 41, K 42, K 43, K 44, K 45, K 46, K 47, K 48, K 49, K 50, K 51, K 52, K 53, K 54, K 55, K 56, K 57, K 58, K 59, K 60, K 61, K 62, K 63, K 64, K 65, K 66, K 67, K 68, K 69, K 70, K 71], todo := tdB P, defers := [], mode := .run, kind := .normal } []
theorem b4_bad (k : Int) (b0 Sb : Nat) (K K' : Nat → Value) : grun Tryz.prog CC true 27 (b4 Tryz.prog k Sb K [fr3c Tryz.prog k b0 K'] 6) [.bool true] = some (mkB Tryz.prog k b0 (.slice none 0 0) (.int .i64 0) (.int .i64 6) (junk (qt Tryz.prog true 27 (b4 Tryz.prog k Sb K [fr3c Tryz.prog k b0 K'] 6) [.bool true])), [.test true true]) := by kernel_rfl
theorem b4_many (k : Int) (b0 Sb : Nat) (K K' : Nat → Value) : grun Tryz.prog CC true 51 (b4 Tryz.prog k Sb K [fr3c Tryz.prog k b0 K'] 0) [.bool false, .bool true, .bool true, .bool true, .bool true] = some (mkB Tryz.prog k b0 (.slice none 0 0) (.int .i64 0) (.int .i64 310) (junk (qt Tryz.prog true 51 (b4 Tryz.prog k Sb K [fr3c Tryz.prog k b0 K'] 0) [.bool false, .bool true, .bool true, .bool true, .bool true])), [.test false false, .test (cm .geq k 1) true, .test (cm .geq k 1) true, .test (cm .geq k 1) true, .test (!(cm .leq k 16)) true]) := by kernel_rfl
theorem b4_few (k : Int) (b0 Sb : Nat) (K K' : Nat → Value) : grun Tryz.prog CC true 51 (b4 Tryz.prog k Sb K [fr3c Tryz.prog k b0 K'] 0) [.bool false, .bool false, .bool false, .bool false, .bool true] = some (mkB Tryz.prog k b0 (.slice none 0 0) (.int .i64 0) (.int .i64 310) (junk (qt Tryz.prog true 51 (b4 Tryz.prog k Sb K [fr3c Tryz.prog k b0 K'] 0) [.bool false, .bool false, .bool false, .bool false, .bool true])), [.test false false, .test (cm .geq k 1) false, .test (cm .geq k 1) false, .test (cm .geq k 1) false, .test (!false) true]) := by kernel_rfl
def c1 (P : Program) (n : Int) (Sb : Nat) (K : Nat → Value) (cs : List Frame) : Goroutine := qt P true 36 (b4 P n Sb K cs 0) [.bool false, .bool true, .bool true, .bool true, .bool false]
theorem b4_good (n : Int) (Sb : Nat) (K : Nat → Value) (cs : List Frame) : grun Tryz.prog CC true 36 (b4 Tryz.prog n Sb K cs 0) [.bool false, .bool true, .bool true, .bool true, .bool false] = some (c1 Tryz.prog n Sb K cs, [.test false false, .test (cm .geq n 1) true, .test (cm .geq n 1) true, .test (cm .geq n 1) true, .test (!(cm .leq n 16)) false]) := by kernel_rfl
def c2 (P : Program) (n : Int) (Sb : Nat) (K : Nat → Value) (cs : List Frame) (On : Nat) : Goroutine := st P true 3 (c1 P n Sb K cs) [.num On] []
theorem c1_s (n : Int) (Sb : Nat) (K : Nat → Value) (cs : List Frame) (On : Nat) : gseg Tryz.prog CC true 3 (c1 Tryz.prog n Sb K cs) [.num On] [] = some ([.new (.cells #[.int .u32 0, .int .i32 0, .int .u32 0] 44) On], c2 Tryz.prog n Sb K cs On, []) := by kernel_rfl
def c3 (P : Program) (n : Int) (Sb : Nat) (K : Nat → Value) (cs : List Frame) (On : Nat) (Pa : Nat) : Goroutine := st P true 3 (c2 P n Sb K cs On) [.num Pa] []
theorem c2_s (n : Int) (Sb : Nat) (K : Nat → Value) (cs : List Frame) (On : Nat) (Pa : Nat) : gseg Tryz.prog CC true 3 (c2 Tryz.prog n Sb K cs On) [.num Pa] [] = some ([.new (.cells #[.slice none 0 0] 45) Pa], c3 Tryz.prog n Sb K cs On Pa, []) := by kernel_rfl
def c4 (P : Program) (n : Int) (Sb : Nat) (K : Nat → Value) (cs : List Frame) (On : Nat) (Pa : Nat) (Md : Nat) : Goroutine := st P true 4 (c3 P n Sb K cs On Pa) [.num Md] []
theorem c3_s (n : Int) (Sb : Nat) (K : Nat → Value) (cs : List Frame) (On : Nat) (Pa : Nat) (Md : Nat) : gseg Tryz.prog CC true 4 (c3 Tryz.prog n Sb K cs On Pa) [.num Md] [] = some ([.new (.cells #[.int .i64 0] 48) Md], c4 Tryz.prog n Sb K cs On Pa Md, []) := by kernel_rfl
def td4m (P : Program) : List Item := (c4 P 0 0 J0 [] 0 0 0).frame.todo.tail
def ops9 (P : Program) : Array Oper := match (c4 P 0 0 J0 [] 0 0 0).frame.todo with | .inRegion ops _ :: _ => ops | _ => #[]
/-- The row is made. -/
def mk5 (P : Program) (x : Cx) (n : Nat) (cs : List Frame) (K : Nat → Value) : Goroutine := on { fn := 4, tmps := #[K 0, .int .i64 n, ptr x.Sb 0, K 3, K 4, K 5, K 6, K 7, ptr x.On 0, ptr x.Pa 0, ptr x.Md 0, K 11, K 12, K 13, K 14, K 15, K 16, K 17, K 18, K 19, K 20, .slice (some ⟨x.Oa, 0, none⟩) n n, K 22, K 23, K 24, K 25, K 26, K 27], todo := .inRegion (ops9 P) [2, 3] :: td4m P, defers := [], mode := .run, kind := .normal } cs
set_option maxHeartbeats 4000000 in
theorem c4_s (x : Cx) (n : Nat) (K : Nat → Value) (cs : List Frame) (h1 : 1 ≤ n) (h2 : n ≤ 16) : gseg Tryz.prog CC true 0 (c4 Tryz.prog n x.Sb K cs x.On x.Pa x.Md) [.num x.Oa] [] = some ([.new (.cells (Array.replicate n (.int .u16 0)) 29) x.Oa], mk5 Tryz.prog x n cs (junk (c4 Tryz.prog n x.Sb K cs x.On x.Pa x.Md)), []) := by
  have h : n = 1 ∨ n = 2 ∨ n = 3 ∨ n = 4 ∨ n = 5 ∨ n = 6 ∨ n = 7 ∨ n = 8 ∨ n = 9 ∨ n = 10 ∨ n = 11 ∨ n = 12 ∨ n = 13 ∨ n = 14 ∨ n = 15 ∨ n = 16 := by omega
  clear h1 h2
  rcases h with rfl | rfl | rfl | rfl | rfl | rfl | rfl | rfl | rfl | rfl | rfl | rfl | rfl | rfl | rfl | rfl <;> (show _ = _; kernel_rfl)
def c6 (P : Program) (x : Cx) (n : Nat) (cs : List Frame) (K : Nat → Value) : Goroutine := st P true 0 (mk5 P x n cs K) [.num x.Ob] []
theorem mk5_s (x : Cx) (n : Nat) (cs : List Frame) (K : Nat → Value) : gseg Tryz.prog CC true 0 (mk5 Tryz.prog x n cs K) [.num x.Ob] [] = some ([.new (.cells #[.slice none 0 0] 25) x.Ob], c6 Tryz.prog x n cs K, []) := by kernel_rfl
theorem c6_s (x : Cx) (n : Nat) (cs : List Frame) (K : Nat → Value) : gseg Tryz.prog CC true 7 (c6 Tryz.prog x n cs K) [] [] = some ([.store .plain ⟨x.Ob, 0, none⟩ (.slice (some ⟨x.Oa, 0, none⟩) n n)], e8 Tryz.prog x n (fr4 Tryz.prog x n (fun i => ((st Tryz.prog true 7 (c6 Tryz.prog x n cs K) [] []).callers.headD default).tmps.getD i undef) :: cs), []) := by kernel_rfl
theorem bx_s (x : Cx) (n : Int) (cs : List Frame) : gseg Tryz.prog CC true 3 (sBx Tryz.prog x n cs) [.num x.Fb] [] = some ([.new (.cells #[dof x] 57) x.Fb], sMc Tryz.prog x n cs, []) := by kernel_rfl
theorem mc_s (x : Cx) (n : Int) (cs : List Frame) : gseg Tryz.prog CC true 0 (sMc Tryz.prog x n cs) [.num x.Ch] [] = some ([.new (.chan 0 #[] false 0 0 false) x.Ch], sAl Tryz.prog x n cs, []) := by kernel_rfl
theorem al_s (x : Cx) (n : Int) (cs : List Frame) : gseg Tryz.prog CC true 0 (sAl Tryz.prog x n cs) [.num x.Nb] [] = some ([.new (.cells #[.chan none] 74) x.Nb], sSt Tryz.prog x n cs, []) := by kernel_rfl
theorem stn_s (x : Cx) (n : Int) (cs : List Frame) : gseg Tryz.prog CC true 3 (sSt Tryz.prog x n cs) [] [] = some ([.store .plain ⟨x.Nb, 0, none⟩ (.chan (some x.Ch))], sAw Tryz.prog x n cs, []) := by kernel_rfl
theorem aw_s2 (x : Cx) (n : Int) (cs : List Frame) : gseg Tryz.prog CC true 10 (sAw Tryz.prog x n cs) [.num x.Wg] [] = some ([.new (.cells #[.int .u64 0, .int .u32 0] 79) x.Wg], sLp0 Tryz.prog x n cs, []) := by kernel_rfl
def ops11 (P : Program) : Array Oper := match tdFin P with | .code (.region _ ops _) :: _ => ops | _ => #[]
/-- In the region of the results. -/
def mkR11 (P : Program) (x : Cx) (n : Int) (cs : List Frame) (K R : Nat → Value) (r : List Nat) : Goroutine := on { fn := 4, tmps := #[K 0, .int .i64 n, ptr x.Sb 0, K 3, R 4, R 5, R 6, K 7, ptr x.On 0, ptr x.Pa 0, ptr x.Md 0, ptr x.Ob 0, K 12, K 13, K 14, K 15, K 16, K 17, K 18, K 19, K 20, K 21, K 22, K 23, K 24, K 25, R 26, R 27], todo := .inRegion (ops11 P) r :: (tdFin P).tail, defers := [], mode := .run, kind := .normal } cs
theorem fin_s (x : Cx) (n : Int) (cs : List Frame) (K : Nat → Value) (t : Nat) : gseg Tryz.prog CC true 0 (mkFin Tryz.prog x n cs K) [.num t] [] = some ([.ask (.order 4 11) t], mkR11 Tryz.prog x n cs K K (Region.schedule (Tryz.prog.follows .mixedOrders) (ops11 Tryz.prog) t), []) := by kernel_rfl
theorem r11_0 (x : Cx) (n : Int) (cs : List Frame) (K R : Nat → Value) (r : List Nat) (v : Value) : gseg Tryz.prog CC true 0 (mkR11 Tryz.prog x n cs K R (0 :: r)) [.val v] [] = some ([.load .plain ⟨x.Ob, 0, none⟩ v], mkR11 Tryz.prog x n cs K (Co.put R 26 v) r, []) := by kernel_rfl
def sL15 (P : Program) (x : Cx) (n : Int) (cs : List Frame) (K R : Nat → Value) (r : List Nat) : Goroutine := qt P true 10 (mkR11 P x n cs K R (1 :: r)) []
theorem r11_1 (x : Cx) (n : Int) (cs : List Frame) (K R : Nat → Value) (r : List Nat) : grun Tryz.prog CC true 10 (mkR11 Tryz.prog x n cs K R (1 :: r)) [] = some (sL15 Tryz.prog x n cs K R r, []) := by kernel_rfl
theorem l15_s (x : Cx) (n : Int) (cs : List Frame) (K R : Nat → Value) (r : List Nat) (v : Int) : gseg Tryz.prog CC true 4 (sL15 Tryz.prog x n cs K R r) [.val (.int .i64 v)] [] = some ([.mark (.extern 33), .load .atomic ⟨x.Md, 0, none⟩ (.int .i64 v)], mkR11 Tryz.prog x n cs K (Co.put R 27 (.int .i64 v)) r, []) := by kernel_rfl
theorem r11_2 (x : Cx) (n : Int) (cs : List Frame) (K R : Nat → Value) (r : List Nat) : grun Tryz.prog CC true 1 (mkR11 Tryz.prog x n cs K R (2 :: r)) [] = some (mkR11 Tryz.prog x n cs K (Co.put R 4 (R 26)) r, []) := by kernel_rfl
theorem r11_3 (x : Cx) (n : Int) (cs : List Frame) (K R : Nat → Value) (r : List Nat) : grun Tryz.prog CC true 1 (mkR11 Tryz.prog x n cs K R (3 :: r)) [] = some (mkR11 Tryz.prog x n cs K (Co.put R 5 (R 27)) r, []) := by kernel_rfl
theorem r11_4 (x : Cx) (n : Int) (cs : List Frame) (K R : Nat → Value) (r : List Nat) : grun Tryz.prog CC true 1 (mkR11 Tryz.prog x n cs K R (4 :: r)) [] = some (mkR11 Tryz.prog x n cs K (Co.put R 6 (.int .i64 0)) r, []) := by kernel_rfl
theorem r11_e (x : Cx) (n : Int) (k : Int) (b0 : Nat) (K K' R : Nat → Value) : grun Tryz.prog CC true 13 (mkR11 Tryz.prog x n [fr3c Tryz.prog k b0 K'] K R []) [] = some (mkB Tryz.prog k b0 (R 4) (R 5) (R 6) (junk (qt Tryz.prog true 13 (mkR11 Tryz.prog x n [fr3c Tryz.prog k b0 K'] K R []) [])), []) := by kernel_rfl
/-- What must have come ahead of an operation of it. -/
def ahead11 : Nat → List Nat
  | 2 => [0] | 3 => [1] | _ => []
def fine11 : List Nat → Bool
  | [] => true
  | k :: r => (ahead11 k).all (fun j => !(k :: r).contains j) && decide (k < 5) && !r.contains k && fine11 r
theorem all11 : (allLin .any (ops11 Tryz.prog) (ops11 Tryz.prog).size (Array.replicate (ops11 Tryz.prog).size false) []).all (fun r => fine11 r && decide (0 ∈ r ∧ 1 ∈ r ∧ 2 ∈ r ∧ 3 ∈ r ∧ 4 ∈ r)) = true := by kernel_rfl
def td3d (P : Program) : List Item := ((st P true 2 (mkB P 0 0 undef undef undef J0) [.val (.slice none 0 0)] []).callers.headD default).todo
/-- CrewOnces at its call of the document's Once. -/
def fr3d (P : Program) (k : Int) (b0 : Nat) (a nn e : Value) (K : Nat → Value) : Frame := { fn := 3, tmps := #[K 0, .int .i64 k, ptr b0 0, K 3, K 4, a, nn, e, K 8, K 9, K 10, K 11, K 12, K 13, K 14, K 15, K 16, K 17, K 18, K 19, K 20, K 21, K 22, K 23, K 24, K 25, K 26, K 27, K 28, K 29, K 30, K 31, K 32, K 33, K 34, K 35, K 36, K 37, K 38, K 39, K 40, K 41, K 42, K 43, K 44, K 45, K 46, K 47, K 48, K 49, K 50, K 51, K 52, K 53, K 54, K 55, K 56, K 57, K 58, K 59, K 60, K 61, K 62, K 63, K 64, K 65, K 66, K 67, K 68, K 69, K 70, K 71], todo := td3d P, defers := [], mode := .run, kind := .normal }
theorem mkB_s (sp : Option Addr) (m c : Nat) (k : Int) (b0 : Nat) (a nn e : Value) (K : Nat → Value) : gseg Tryz.prog CC true 2 (mkB Tryz.prog k b0 a nn e K) [.val (.slice sp m c)] [] = some ([.load .plain ⟨b0, 0, none⟩ (.slice sp m c)], on (Frame.enter Tryz.prog 5 #[spv sp m c, .int .i64 k] .normal) [fr3d Tryz.prog k b0 a nn e (fun i => ((st Tryz.prog true 2 (mkB Tryz.prog k b0 a nn e K) [.val (.slice sp m c)] []).callers.headD default).tmps.getD i undef)], []) := by kernel_rfl
def d1 (P : Program) (k : Int) (b0 : Nat) (a nn e : Value) (K : Nat → Value) (v : Value) : Goroutine := on ((fr3d P k b0 a nn e K).finish v) []
theorem d1_e (k : Int) (b0 : Nat) (pa pb : Option Addr) (la ca lb cb : Nat) (nn mm e f : Int) (K : Nat → Value) : grun Tryz.prog CC true 51 (d1 Tryz.prog k b0 (.slice pa la ca) (.int .i64 nn) (.int .i64 e) K (.tuple #[.slice pb lb cb, .int .i64 mm, .int .i64 f])) [.bool false, .bool false, .bool false, .bool false, .bool false, .bool false, .bool false, .bool false, .bool false, .bool false, .bool false, .bool false] = some (mkE (qt Tryz.prog true 51 (d1 Tryz.prog k b0 (.slice pa la ca) (.int .i64 nn) (.int .i64 e) K (.tuple #[.slice pb lb cb, .int .i64 mm, .int .i64 f])) [.bool false, .bool false, .bool false, .bool false, .bool false, .bool false, .bool false, .bool false, .bool false, .bool false, .bool false, .bool false]).frame.tmps (qt Tryz.prog true 51 (d1 Tryz.prog k b0 (.slice pa la ca) (.int .i64 nn) (.int .i64 e) K (.tuple #[.slice pb lb cb, .int .i64 mm, .int .i64 f])) [.bool false, .bool false, .bool false, .bool false, .bool false, .bool false, .bool false, .bool false, .bool false, .bool false, .bool false, .bool false]).frame.todo, [.test (cm .neq nn mm) false, .test (cm .neq nn mm) false, .test (cm .neq nn mm) false, .test (cm .neq nn mm) false, .test (cm .neq e f) false, .test (cm .neq e f) false, .test (cm .neq e f) false, .test (cm .neq e f) false, .test (cm .neq e f) false, .test (cm .neq e f) false, .test (cm .neq la lb) false, .test (cm .lss 0 la) false]) := by kernel_rfl
theorem d1_e4 (k : Int) (b0 : Nat) (pa pb : Option Addr) (la ca lb cb : Nat) (nn mm e f : Int) (K : Nat → Value) : (qt Tryz.prog true 51 (d1 Tryz.prog k b0 (.slice pa la ca) (.int .i64 nn) (.int .i64 e) K (.tuple #[.slice pb lb cb, .int .i64 mm, .int .i64 f])) [.bool false, .bool false, .bool false, .bool false, .bool false, .bool false, .bool false, .bool false, .bool false, .bool false, .bool false, .bool false]).frame.tmps.getD 4 undef = .bool true := by kernel_rfl
def tdL (P : Program) : List Item := (qt P true 49 (d1 P 0 0 (.slice none 0 0) (.int .i64 0) (.int .i64 0) J0 (.tuple #[.slice none 0 0, .int .i64 0, .int .i64 0])) [.bool false, .bool false, .bool false, .bool false, .bool false, .bool false, .bool false, .bool false, .bool false, .bool false, .bool false, .bool true]).frame.todo
/-- At the head of a round of the comparison. -/
def mkL (P : Program) (a b : Value) (i : Int) (K : Nat → Value) : Goroutine := on { fn := 3, tmps := #[K 0, K 1, K 2, K 3, K 4, a, K 6, K 7, b, K 9, K 10, .int .i64 i, K 12, K 13, K 14, K 15, K 16, K 17, K 18, K 19, K 20, K 21, K 22, K 23, K 24, K 25, K 26, K 27, K 28, K 29, K 30, K 31, K 32, K 33, K 34, K 35, K 36, K 37, K 38, K 39, K 40, K 41, K 42, K 43, K 44, K 45, K 46, K 47, K 48, K 49, K 50, K 51, K 52, K 53, K 54, K 55, K 56, K 57, K 58, K 59, K 60, K 61, K 62, K 63, K 64, K 65, K 66, K 67, K 68, K 69, K 70, K 71], todo := tdL P, defers := [], mode := .run, kind := .normal } []
theorem d1_l (k : Int) (b0 : Nat) (pa pb : Option Addr) (la ca lb cb : Nat) (nn mm e f : Int) (K : Nat → Value) : grun Tryz.prog CC true 49 (d1 Tryz.prog k b0 (.slice pa la ca) (.int .i64 nn) (.int .i64 e) K (.tuple #[.slice pb lb cb, .int .i64 mm, .int .i64 f])) [.bool false, .bool false, .bool false, .bool false, .bool false, .bool false, .bool false, .bool false, .bool false, .bool false, .bool false, .bool true] = some (mkL Tryz.prog (.slice pa la ca) (.slice pb lb cb) 0 (junk (qt Tryz.prog true 49 (d1 Tryz.prog k b0 (.slice pa la ca) (.int .i64 nn) (.int .i64 e) K (.tuple #[.slice pb lb cb, .int .i64 mm, .int .i64 f])) [.bool false, .bool false, .bool false, .bool false, .bool false, .bool false, .bool false, .bool false, .bool false, .bool false, .bool false, .bool true])), [.test (cm .neq nn mm) false, .test (cm .neq nn mm) false, .test (cm .neq nn mm) false, .test (cm .neq nn mm) false, .test (cm .neq e f) false, .test (cm .neq e f) false, .test (cm .neq e f) false, .test (cm .neq e f) false, .test (cm .neq e f) false, .test (cm .neq e f) false, .test (cm .neq la lb) false, .test (cm .lss 0 la) true]) := by kernel_rfl
def ops10 (P : Program) : Array Oper := match tdL P with | .code (.region _ ops _) :: _ => ops | _ => #[]
/-- In the region of the comparison. -/
def mkR10 (P : Program) (a b : Value) (i : Int) (K R : Nat → Value) (r : List Nat) : Goroutine := on { fn := 3, tmps := #[K 0, K 1, K 2, K 3, K 4, a, K 6, K 7, b, K 9, K 10, .int .i64 i, K 12, K 13, K 14, K 15, K 16, K 17, K 18, K 19, K 20, K 21, K 22, K 23, K 24, K 25, K 26, K 27, K 28, K 29, K 30, K 31, K 32, K 33, K 34, K 35, K 36, K 37, K 38, K 39, K 40, K 41, K 42, K 43, K 44, K 45, K 46, K 47, K 48, K 49, K 50, K 51, K 52, K 53, K 54, K 55, K 56, K 57, K 58, K 59, K 60, K 61, K 62, R 63, R 64, R 65, R 66, R 67, R 68, R 69, R 70, R 71], todo := .inRegion (ops10 P) r :: (tdL P).tail, defers := [], mode := .run, kind := .normal } []
theorem l_s (a b : Value) (i : Int) (K : Nat → Value) (t : Nat) : gseg Tryz.prog CC true 0 (mkL Tryz.prog a b i K) [.num t] [] = some ([.ask (.order 3 10) t], mkR10 Tryz.prog a b i K K (Region.schedule (Tryz.prog.follows .mixedOrders) (ops10 Tryz.prog) t), []) := by kernel_rfl
theorem r10_0 (a b : Value) (i : Int) (K R : Nat → Value) (r : List Nat) : grun Tryz.prog CC true 1 (mkR10 Tryz.prog a b i K R (0 :: r)) [] = some (mkR10 Tryz.prog a b i K (Co.put R 63 (a)) r, []) := by kernel_rfl
theorem r10_1 (a b : Value) (i : Int) (K R : Nat → Value) (r : List Nat) : grun Tryz.prog CC true 1 (mkR10 Tryz.prog a b i K R (1 :: r)) [] = some (mkR10 Tryz.prog a b i K (Co.put R 64 (.int .i64 i)) r, []) := by kernel_rfl
theorem r10_4 (a b : Value) (i : Int) (K R : Nat → Value) (r : List Nat) : grun Tryz.prog CC true 1 (mkR10 Tryz.prog a b i K R (4 :: r)) [] = some (mkR10 Tryz.prog a b i K (Co.put R 67 (b)) r, []) := by kernel_rfl
theorem r10_5 (a b : Value) (i : Int) (K R : Nat → Value) (r : List Nat) : grun Tryz.prog CC true 1 (mkR10 Tryz.prog a b i K R (5 :: r)) [] = some (mkR10 Tryz.prog a b i K (Co.put R 68 (.int .i64 i)) r, []) := by kernel_rfl
theorem r10_2 (a b : Value) (i : Int) (j : Nat) (g la ca : Nat) (K R : Nat → Value) (r : List Nat) : grun Tryz.prog CC true 1 (mkR10 Tryz.prog a b i K (Co.put (Co.put R 63 (.slice (some ⟨g, 0, none⟩) la ca)) 64 (.int .i64 j)) (2 :: r)) [.bool true] = some (mkR10 Tryz.prog a b i K (Co.put (Co.put (Co.put R 63 (.slice (some ⟨g, 0, none⟩) la ca)) 64 (.int .i64 j)) 65 (.pointer (some (Addr.add ⟨g, 0, none⟩ ((j : Int).toNat * 1))))) r, [.test (decide ((0 : Int) ≤ j ∧ (j : Int) < la)) true]) := by kernel_rfl
theorem r10_6 (a b : Value) (i : Int) (j : Nat) (g la ca : Nat) (K R : Nat → Value) (r : List Nat) : grun Tryz.prog CC true 1 (mkR10 Tryz.prog a b i K (Co.put (Co.put R 67 (.slice (some ⟨g, 0, none⟩) la ca)) 68 (.int .i64 j)) (6 :: r)) [.bool true] = some (mkR10 Tryz.prog a b i K (Co.put (Co.put (Co.put R 67 (.slice (some ⟨g, 0, none⟩) la ca)) 68 (.int .i64 j)) 69 (.pointer (some (Addr.add ⟨g, 0, none⟩ ((j : Int).toNat * 1))))) r, [.test (decide ((0 : Int) ≤ j ∧ (j : Int) < la)) true]) := by kernel_rfl
theorem r10_3 (a b : Value) (i : Int) (z : Addr) (v : Value) (K R : Nat → Value) (r : List Nat) : gseg Tryz.prog CC true 0 (mkR10 Tryz.prog a b i K (Co.put R 65 (.pointer (some z))) (3 :: r)) [.val v] [] = some ([.load .plain z v], mkR10 Tryz.prog a b i K (Co.put (Co.put R 65 (.pointer (some z))) 66 v) r, []) := by kernel_rfl
theorem r10_7 (a b : Value) (i : Int) (z : Addr) (v : Value) (K R : Nat → Value) (r : List Nat) : gseg Tryz.prog CC true 0 (mkR10 Tryz.prog a b i K (Co.put R 69 (.pointer (some z))) (7 :: r)) [.val v] [] = some ([.load .plain z v], mkR10 Tryz.prog a b i K (Co.put (Co.put R 69 (.pointer (some z))) 70 v) r, []) := by kernel_rfl
theorem r10_8 (pa pb : Option Addr) (la ca lb cb : Nat) (i : Int) (u v : Int) (K R : Nat → Value) : grun Tryz.prog CC true 24 (mkR10 Tryz.prog (.slice pa la ca) (.slice pb lb cb) i K (Co.put (Co.put R 66 (.int .u16 u)) 70 (.int .u16 v)) [8]) [.bool false, .bool true] = some (mkL Tryz.prog (.slice pa la ca) (.slice pb lb cb) (ar .add .i64 i 1) (junk (qt Tryz.prog true 24 (mkR10 Tryz.prog (.slice pa la ca) (.slice pb lb cb) i K (Co.put (Co.put R 66 (.int .u16 u)) 70 (.int .u16 v)) [8]) [.bool false, .bool true])), [.test (cm .neq u v) false, .test (cm .lss (ar .add .i64 i 1) la) true]) := by kernel_rfl
theorem r10_e (pa pb : Option Addr) (la ca lb cb : Nat) (i : Int) (u v : Int) (K R : Nat → Value) : grun Tryz.prog CC true 26 (mkR10 Tryz.prog (.slice pa la ca) (.slice pb lb cb) i K (Co.put (Co.put R 66 (.int .u16 u)) 70 (.int .u16 v)) [8]) [.bool false, .bool false] = some (mkE (qt Tryz.prog true 26 (mkR10 Tryz.prog (.slice pa la ca) (.slice pb lb cb) i K (Co.put (Co.put R 66 (.int .u16 u)) 70 (.int .u16 v)) [8]) [.bool false, .bool false]).frame.tmps (qt Tryz.prog true 26 (mkR10 Tryz.prog (.slice pa la ca) (.slice pb lb cb) i K (Co.put (Co.put R 66 (.int .u16 u)) 70 (.int .u16 v)) [8]) [.bool false, .bool false]).frame.todo, [.test (cm .neq u v) false, .test (cm .lss (ar .add .i64 i 1) la) false]) := by kernel_rfl
theorem r10_e4 (pa pb : Option Addr) (la ca lb cb : Nat) (i : Int) (u v : Int) (K R : Nat → Value) : (qt Tryz.prog true 26 (mkR10 Tryz.prog (.slice pa la ca) (.slice pb lb cb) i K (Co.put (Co.put R 66 (.int .u16 u)) 70 (.int .u16 v)) [8]) [.bool false, .bool false]).frame.tmps.getD 4 undef = .bool true := by kernel_rfl
def ahead10 : Nat → List Nat
  | 2 => [0, 1] | 3 => [2] | 6 => [4, 5] | 7 => [6] | 8 => [3, 7] | _ => []
def fine10 : List Nat → Bool
  | [] => true
  | k :: r => (ahead10 k).all (fun j => !(k :: r).contains j) && decide (k < 9) && !r.contains k && fine10 r
theorem all10 : (allLin .any (ops10 Tryz.prog) (ops10 Tryz.prog).size (Array.replicate (ops10 Tryz.prog).size false) []).all (fun r => fine10 r && (r.getLast? == some 8) && decide (0 ∈ r ∧ 1 ∈ r ∧ 2 ∈ r ∧ 3 ∈ r ∧ 4 ∈ r ∧ 5 ∈ r ∧ 6 ∈ r ∧ 7 ∈ r)) = true := by kernel_rfl
end Go.Proofs.YthjofgmiabcifabGreatDoor.So
namespace Go.Proofs.YthjofgmiabcifabGreatDoor.So
open Go Go.Conc Go.Proofs.YthjofgmiabcifabGreatDoor.Ev Go.Proofs.YthjofgmiabcifabGreatDoor.Co Go.Proofs.YthjofgmiabcifabGreatDoor.Mc
/-- Where it ends well it lists nothing. -/
def Mum {α : Type} (P : Program) (s : Sem α) : Prop := ∀ w es a w' es', s.runT P w es = (.ok a w', es') → es' = es
section
variable {P : Program} {α β : Type}
theorem mum_pure {a : α} : Mum P (pure a : Sem α) := by intro w es b w' es' h; cases h; rfl
theorem mum_stuck {s : String} : Mum P (stuck s : Sem α) := by intro w es b w' es' h; cases h
theorem mum_program : Mum P program := by intro w es b w' es' h; cases h; rfl
theorem mum_bind {s : Sem α} {k : α → Sem β} (h : Mum P s) (hk : ∀ a, Mum P (k a)) : Mum P (s >>= k) := by
  intro w es b w' es' he
  have hb : (s >>= k).runT P w es = _ := Sem.runT_bind' P s k w es
  rw [hb] at he
  generalize hr : s.runT P w es = r at he
  obtain ⟨r, e1⟩ := r
  cases r with
  | ok a w1 =>
    have := h _ _ _ _ _ hr
    subst this
    exact hk a _ _ _ _ _ he
  | halt q w1 => cases he
theorem mum_typeInfo {t : TypeId} : Mum P (typeInfo t) := mum_bind mum_program fun p => by
  cases p.info? t <;> first | exact mum_pure | exact mum_stuck
theorem mum_underlying {t : TypeId} : Mum P (underlying t) := mum_bind mum_program fun p => by
  cases p.underlying t <;> first | exact mum_pure | exact mum_stuck
theorem mum_zero {t : TypeId} : Mum P (zeroValue t) := by
  unfold zeroValue
  refine mum_bind mum_typeInfo fun i => ?_
  split <;> first | exact mum_pure | exact mum_stuck | (intro w es b w' es' h; cases h)
theorem mum_typeAssert {x : Value} {t u : TypeId} : Mum P (Instr.typeAssert x t u true) := by
  unfold Instr.typeAssert
  simp only [if_true]
  refine mum_bind mum_underlying fun k => ?_
  split
  · exact mum_bind mum_zero fun _ => mum_pure
  · refine mum_bind mum_typeInfo fun i => ?_
    split
    · exact mum_pure
    · exact mum_bind mum_zero fun _ => mum_pure
  · exact mum_bind mum_zero fun _ => mum_pure
  · split
    · exact mum_pure
    · exact mum_bind mum_zero fun _ => mum_pure
  · exact mum_stuck
end
/-- A type assertion with a comma. -/
theorem ta_step {main : Bool} {g : Goroutine} {o : Oper} {y : Operand} {i t : TypeId} {v x : Value} {b : Bool} (ho : gop g = some o) (hop : o.op = .typeAssert y 56 i true) (hy : g.frame.eval y = .iface t v)
    (hA : ∀ w, Sem.run Tryz.prog (Instr.typeAssert (.iface t v) 56 i true) w = .ok (.tuple #[x, .bool b]) w) (w : World) : stepG Tryz.prog main g w = .go (on (g.frame.finish (.tuple #[x, .bool b])) g.callers) w #[] := by
  obtain ⟨hk, hs⟩ := gop_sound (P := Tryz.prog) (main := main) (w := w) ho
  have hk' : (g.frame.kind == CallKind.early) = false := by simpa using hk
  have hr : (execOp g.frame.eval o).runT Tryz.prog w #[] = (.ok (.value (.tuple #[x, .bool b])) w, #[]) := by
    have e : execOp g.frame.eval o = (do pure (.value (← Instr.typeAssert (.iface t v) 56 i true)) : Sem Next) := by unfold execOp; simp only [hop, hy]
    have h1 := hA w
    rw [← Sem.runT_fst Tryz.prog _ _ #[]] at h1
    generalize hp : (Instr.typeAssert (.iface t v) 56 i true).runT Tryz.prog w #[] = q at h1
    obtain ⟨r, es⟩ := q
    dsimp only at h1
    subst h1
    have := mum_typeAssert _ _ _ _ _ hp
    subst this
    rw [e]
    have hb := Sem.runT_bind' Tryz.prog (Instr.typeAssert (.iface t v) 56 i true) (fun a => pure (Next.value a)) w #[]
    rw [hp] at hb
    exact hb
  rw [hs]
  unfold stepG.apply
  simp only [if_true, hr]
  simp [hk', seen_none, GStep.after]
theorem ta_sil {main : Bool} {Lv : World → Prop} {g : Goroutine} {o : Oper} {y : Operand} {i t : TypeId} {v x : Value} {b : Bool} (hr : g.status = .running) (ho : gop g = some o) (hop : o.op = .typeAssert y 56 i true) (hy : g.frame.eval y = .iface t v)
    (hA : ∀ w, Sem.run Tryz.prog (Instr.typeAssert (.iface t v) 56 i true) w = .ok (.tuple #[x, .bool b]) w) : Sil Tryz.prog main Lv 1 g (on (g.frame.finish (.tuple #[x, .bool b])) g.callers) :=
  ⟨hr, _, fun w _ => ta_step ho hop hy hA w, rfl⟩
def T1 (P : Program) (t : TypeId) (v : Value) (cs : List Frame) : Goroutine := qt P false 20 (on (Frame.enter P 14 #[.iface t v] .normal) cs) []
def fr14 (P : Program) (t : TypeId) (v : Value) : Frame := (T1 P t v []).callers.headD default
def tdT1 (P : Program) : List Item := (T1 P 0 undef []).frame.todo
def mkT1 (P : Program) (t : TypeId) (v : Value) (s : Int) (K : Nat → Value) (cs : List Frame) : Goroutine := on { fn := 32, tmps := #[.iface t v, K 1, K 2, .int .u16 s, K 4, K 5, K 6, K 7, K 8, K 9, K 10, K 11, K 12, K 13, K 14, K 15, K 16, .iface t v, K 18, K 19, K 20, K 21, K 22, K 23, K 24, K 25, K 26, K 27, K 28, K 29, K 30, K 31, K 32, K 33, K 34, K 35, K 36, K 37, K 38, K 39, K 40, K 41, K 42, K 43, K 44, K 45, K 46, K 47, K 48, K 49, K 50, K 51, K 52, K 53, K 54, K 55, K 56, K 57, K 58, K 59, K 60, K 61, K 62, K 63, K 64], todo := tdT1 P, defers := [], mode := .run, kind := .normal } (fr14 P t v :: cs)
def tdT2 (P : Program) : List Item := (qt P false 16 (on ((mkT1 P 0 undef 0 J0 []).frame.finish (.tuple #[undef, .bool false])) (mkT1 P 0 undef 0 J0 []).callers) [.bool false]).frame.todo
def mkT2 (P : Program) (t : TypeId) (v : Value) (s : Int) (K : Nat → Value) (cs : List Frame) : Goroutine := on { fn := 32, tmps := #[.iface t v, K 1, K 2, .int .u16 s, K 4, K 5, K 6, K 7, K 8, K 9, K 10, K 11, K 12, K 13, K 14, K 15, K 16, K 17, K 18, K 19, K 20, K 21, K 22, K 23, K 24, .iface t v, K 26, K 27, K 28, K 29, K 30, K 31, K 32, K 33, K 34, K 35, K 36, K 37, K 38, K 39, K 40, K 41, K 42, K 43, K 44, K 45, K 46, K 47, K 48, K 49, K 50, K 51, K 52, K 53, K 54, K 55, K 56, K 57, K 58, K 59, K 60, K 61, K 62, K 63, K 64], todo := tdT2 P, defers := [], mode := .run, kind := .normal } (fr14 P t v :: cs)
def tdT3 (P : Program) : List Item := (qt P false 16 (on ((mkT2 P 0 undef 0 J0 []).frame.finish (.tuple #[undef, .bool false])) (mkT2 P 0 undef 0 J0 []).callers) [.bool false]).frame.todo
def mkT3 (P : Program) (t : TypeId) (v : Value) (s : Int) (K : Nat → Value) (cs : List Frame) : Goroutine := on { fn := 32, tmps := #[.iface t v, K 1, K 2, .int .u16 s, K 4, K 5, K 6, K 7, K 8, K 9, K 10, K 11, K 12, K 13, K 14, K 15, K 16, K 17, K 18, K 19, K 20, K 21, K 22, K 23, K 24, K 25, K 26, K 27, K 28, K 29, K 30, K 31, K 32, .iface t v, K 34, K 35, K 36, K 37, K 38, K 39, K 40, K 41, K 42, K 43, K 44, K 45, K 46, K 47, K 48, K 49, K 50, K 51, K 52, K 53, K 54, K 55, K 56, K 57, K 58, K 59, K 60, K 61, K 62, K 63, K 64], todo := tdT3 P, defers := [], mode := .run, kind := .normal } (fr14 P t v :: cs)
def tdT4 (P : Program) : List Item := (qt P false 16 (on ((mkT3 P 0 undef 0 J0 []).frame.finish (.tuple #[undef, .bool false])) (mkT3 P 0 undef 0 J0 []).callers) [.bool false]).frame.todo
def mkT4 (P : Program) (t : TypeId) (v : Value) (s : Int) (K : Nat → Value) (cs : List Frame) : Goroutine := on { fn := 32, tmps := #[.iface t v, K 1, K 2, .int .u16 s, K 4, K 5, K 6, K 7, K 8, K 9, K 10, K 11, K 12, K 13, K 14, K 15, K 16, K 17, K 18, K 19, K 20, K 21, K 22, K 23, K 24, K 25, K 26, K 27, K 28, K 29, K 30, K 31, K 32, K 33, K 34, K 35, K 36, K 37, K 38, K 39, K 40, .iface t v, K 42, K 43, K 44, K 45, K 46, K 47, K 48, K 49, K 50, K 51, K 52, K 53, K 54, K 55, K 56, K 57, K 58, K 59, K 60, K 61, K 62, K 63, K 64], todo := tdT4 P, defers := [], mode := .run, kind := .normal } (fr14 P t v :: cs)
def tdT5 (P : Program) : List Item := (qt P false 16 (on ((mkT4 P 0 undef 0 J0 []).frame.finish (.tuple #[undef, .bool false])) (mkT4 P 0 undef 0 J0 []).callers) [.bool false]).frame.todo
def mkT5 (P : Program) (t : TypeId) (v : Value) (s : Int) (K : Nat → Value) (cs : List Frame) : Goroutine := on { fn := 32, tmps := #[.iface t v, K 1, K 2, .int .u16 s, K 4, K 5, K 6, K 7, K 8, K 9, K 10, K 11, K 12, K 13, K 14, K 15, K 16, K 17, K 18, K 19, K 20, K 21, K 22, K 23, K 24, K 25, K 26, K 27, K 28, K 29, K 30, K 31, K 32, K 33, K 34, K 35, K 36, K 37, K 38, K 39, K 40, K 41, K 42, K 43, K 44, K 45, K 46, K 47, K 48, .iface t v, K 50, K 51, K 52, K 53, K 54, K 55, K 56, K 57, K 58, K 59, K 60, K 61, K 62, K 63, K 64], todo := tdT5 P, defers := [], mode := .run, kind := .normal } (fr14 P t v :: cs)
def tdT6 (P : Program) : List Item := (qt P false 16 (on ((mkT5 P 0 undef 0 J0 []).frame.finish (.tuple #[undef, .bool false])) (mkT5 P 0 undef 0 J0 []).callers) [.bool false]).frame.todo
def mkT6 (P : Program) (t : TypeId) (v : Value) (s : Int) (K : Nat → Value) (cs : List Frame) : Goroutine := on { fn := 32, tmps := #[.iface t v, K 1, K 2, .int .u16 s, K 4, K 5, K 6, K 7, K 8, K 9, K 10, K 11, K 12, K 13, K 14, K 15, K 16, K 17, K 18, K 19, K 20, K 21, K 22, K 23, K 24, K 25, K 26, K 27, K 28, K 29, K 30, K 31, K 32, K 33, K 34, K 35, K 36, K 37, K 38, K 39, K 40, K 41, K 42, K 43, K 44, K 45, K 46, K 47, K 48, K 49, K 50, K 51, K 52, K 53, K 54, K 55, K 56, .iface t v, K 58, K 59, K 60, K 61, K 62, K 63, K 64], todo := tdT6 P, defers := [], mode := .run, kind := .normal } (fr14 P t v :: cs)
theorem T1_q (t : TypeId) (v : Value) (cs : List Frame) : grun Tryz.prog CC false 20 (on (Frame.enter Tryz.prog 14 #[.iface t v] .normal) cs) [] = some (mkT1 Tryz.prog t v 0 (junk (T1 Tryz.prog t v cs)) cs, []) := by kernel_rfl
theorem T1_o (t : TypeId) (v : Value) (s : Int) (K : Nat → Value) (cs : List Frame) : (gop (mkT1 Tryz.prog t v s K cs)).map (fun o => o.op) = some (.typeAssert (.tmp 17) 56 129 true) := by kernel_rfl
theorem T1_true (t : TypeId) (v x : Value) (s : Int) (K : Nat → Value) (cs : List Frame) : grun Tryz.prog CC false 20 (on ((mkT1 Tryz.prog t v s K (cs)).frame.finish (.tuple #[x, .bool true])) (mkT1 Tryz.prog t v s K (cs)).callers) [.bool true] = some (mkT2 Tryz.prog t v (bits .or .u16 s 1) (junk (qt Tryz.prog false 20 (on ((mkT1 Tryz.prog t v s K (cs)).frame.finish (.tuple #[x, .bool true])) (mkT1 Tryz.prog t v s K (cs)).callers) [.bool true])) cs, [.test true true]) := by kernel_rfl
theorem T1_false (t : TypeId) (v x : Value) (s : Int) (K : Nat → Value) (cs : List Frame) : grun Tryz.prog CC false 16 (on ((mkT1 Tryz.prog t v s K (cs)).frame.finish (.tuple #[x, .bool false])) (mkT1 Tryz.prog t v s K (cs)).callers) [.bool false] = some (mkT2 Tryz.prog t v s (junk (qt Tryz.prog false 16 (on ((mkT1 Tryz.prog t v s K (cs)).frame.finish (.tuple #[x, .bool false])) (mkT1 Tryz.prog t v s K (cs)).callers) [.bool false])) cs, [.test false false]) := by kernel_rfl
theorem T2_o (t : TypeId) (v : Value) (s : Int) (K : Nat → Value) (cs : List Frame) : (gop (mkT2 Tryz.prog t v s K cs)).map (fun o => o.op) = some (.typeAssert (.tmp 25) 56 132 true) := by kernel_rfl
theorem T2_true (t : TypeId) (v x : Value) (s : Int) (K : Nat → Value) (cs : List Frame) : grun Tryz.prog CC false 20 (on ((mkT2 Tryz.prog t v s K (cs)).frame.finish (.tuple #[x, .bool true])) (mkT2 Tryz.prog t v s K (cs)).callers) [.bool true] = some (mkT3 Tryz.prog t v (bits .or .u16 s 2) (junk (qt Tryz.prog false 20 (on ((mkT2 Tryz.prog t v s K (cs)).frame.finish (.tuple #[x, .bool true])) (mkT2 Tryz.prog t v s K (cs)).callers) [.bool true])) cs, [.test true true]) := by kernel_rfl
theorem T2_false (t : TypeId) (v x : Value) (s : Int) (K : Nat → Value) (cs : List Frame) : grun Tryz.prog CC false 16 (on ((mkT2 Tryz.prog t v s K (cs)).frame.finish (.tuple #[x, .bool false])) (mkT2 Tryz.prog t v s K (cs)).callers) [.bool false] = some (mkT3 Tryz.prog t v s (junk (qt Tryz.prog false 16 (on ((mkT2 Tryz.prog t v s K (cs)).frame.finish (.tuple #[x, .bool false])) (mkT2 Tryz.prog t v s K (cs)).callers) [.bool false])) cs, [.test false false]) := by kernel_rfl
theorem T3_o (t : TypeId) (v : Value) (s : Int) (K : Nat → Value) (cs : List Frame) : (gop (mkT3 Tryz.prog t v s K cs)).map (fun o => o.op) = some (.typeAssert (.tmp 33) 56 135 true) := by kernel_rfl
theorem T3_true (t : TypeId) (v x : Value) (s : Int) (K : Nat → Value) (cs : List Frame) : grun Tryz.prog CC false 20 (on ((mkT3 Tryz.prog t v s K (cs)).frame.finish (.tuple #[x, .bool true])) (mkT3 Tryz.prog t v s K (cs)).callers) [.bool true] = some (mkT4 Tryz.prog t v (bits .or .u16 s 4) (junk (qt Tryz.prog false 20 (on ((mkT3 Tryz.prog t v s K (cs)).frame.finish (.tuple #[x, .bool true])) (mkT3 Tryz.prog t v s K (cs)).callers) [.bool true])) cs, [.test true true]) := by kernel_rfl
theorem T3_false (t : TypeId) (v x : Value) (s : Int) (K : Nat → Value) (cs : List Frame) : grun Tryz.prog CC false 16 (on ((mkT3 Tryz.prog t v s K (cs)).frame.finish (.tuple #[x, .bool false])) (mkT3 Tryz.prog t v s K (cs)).callers) [.bool false] = some (mkT4 Tryz.prog t v s (junk (qt Tryz.prog false 16 (on ((mkT3 Tryz.prog t v s K (cs)).frame.finish (.tuple #[x, .bool false])) (mkT3 Tryz.prog t v s K (cs)).callers) [.bool false])) cs, [.test false false]) := by kernel_rfl
theorem T4_o (t : TypeId) (v : Value) (s : Int) (K : Nat → Value) (cs : List Frame) : (gop (mkT4 Tryz.prog t v s K cs)).map (fun o => o.op) = some (.typeAssert (.tmp 41) 56 138 true) := by kernel_rfl
theorem T4_true (t : TypeId) (v x : Value) (s : Int) (K : Nat → Value) (cs : List Frame) : grun Tryz.prog CC false 20 (on ((mkT4 Tryz.prog t v s K (cs)).frame.finish (.tuple #[x, .bool true])) (mkT4 Tryz.prog t v s K (cs)).callers) [.bool true] = some (mkT5 Tryz.prog t v (bits .or .u16 s 8) (junk (qt Tryz.prog false 20 (on ((mkT4 Tryz.prog t v s K (cs)).frame.finish (.tuple #[x, .bool true])) (mkT4 Tryz.prog t v s K (cs)).callers) [.bool true])) cs, [.test true true]) := by kernel_rfl
theorem T4_false (t : TypeId) (v x : Value) (s : Int) (K : Nat → Value) (cs : List Frame) : grun Tryz.prog CC false 16 (on ((mkT4 Tryz.prog t v s K (cs)).frame.finish (.tuple #[x, .bool false])) (mkT4 Tryz.prog t v s K (cs)).callers) [.bool false] = some (mkT5 Tryz.prog t v s (junk (qt Tryz.prog false 16 (on ((mkT4 Tryz.prog t v s K (cs)).frame.finish (.tuple #[x, .bool false])) (mkT4 Tryz.prog t v s K (cs)).callers) [.bool false])) cs, [.test false false]) := by kernel_rfl
theorem T5_o (t : TypeId) (v : Value) (s : Int) (K : Nat → Value) (cs : List Frame) : (gop (mkT5 Tryz.prog t v s K cs)).map (fun o => o.op) = some (.typeAssert (.tmp 49) 56 141 true) := by kernel_rfl
theorem T5_true (t : TypeId) (v x : Value) (s : Int) (K : Nat → Value) (cs : List Frame) : grun Tryz.prog CC false 20 (on ((mkT5 Tryz.prog t v s K (cs)).frame.finish (.tuple #[x, .bool true])) (mkT5 Tryz.prog t v s K (cs)).callers) [.bool true] = some (mkT6 Tryz.prog t v (bits .or .u16 s 16) (junk (qt Tryz.prog false 20 (on ((mkT5 Tryz.prog t v s K (cs)).frame.finish (.tuple #[x, .bool true])) (mkT5 Tryz.prog t v s K (cs)).callers) [.bool true])) cs, [.test true true]) := by kernel_rfl
theorem T5_false (t : TypeId) (v x : Value) (s : Int) (K : Nat → Value) (cs : List Frame) : grun Tryz.prog CC false 16 (on ((mkT5 Tryz.prog t v s K (cs)).frame.finish (.tuple #[x, .bool false])) (mkT5 Tryz.prog t v s K (cs)).callers) [.bool false] = some (mkT6 Tryz.prog t v s (junk (qt Tryz.prog false 16 (on ((mkT5 Tryz.prog t v s K (cs)).frame.finish (.tuple #[x, .bool false])) (mkT5 Tryz.prog t v s K (cs)).callers) [.bool false])) cs, [.test false false]) := by kernel_rfl
theorem T6_o (t : TypeId) (v : Value) (s : Int) (K : Nat → Value) (cs : List Frame) : (gop (mkT6 Tryz.prog t v s K cs)).map (fun o => o.op) = some (.typeAssert (.tmp 57) 56 143 true) := by kernel_rfl
theorem T6_true (t : TypeId) (v x : Value) (s : Int) (K : Nat → Value) (c : Frame) (cs : List Frame) : grun Tryz.prog CC false 27 (on ((mkT6 Tryz.prog t v s K (c :: cs)).frame.finish (.tuple #[x, .bool true])) (mkT6 Tryz.prog t v s K (c :: cs)).callers) [.bool true] = some (on (c.finish (.int .u16 (bits .or .u16 s 32))) cs, [.test true true]) := by kernel_rfl
theorem T6_false (t : TypeId) (v x : Value) (s : Int) (K : Nat → Value) (c : Frame) (cs : List Frame) : grun Tryz.prog CC false 23 (on ((mkT6 Tryz.prog t v s K (c :: cs)).frame.finish (.tuple #[x, .bool false])) (mkT6 Tryz.prog t v s K (c :: cs)).callers) [.bool false] = some (on (c.finish (.int .u16 s)) cs, [.test false false]) := by kernel_rfl
theorem T_sil {Lv : World → Prop} {g h : Goroutine} {n : Nat} {ans : List Ans} {b : Bool} (hg : grun Tryz.prog CC false n g ans = some (h, [.test b b])) : Sil Tryz.prog false Lv n g h := grun_sound ccOk hg fun _ _ => And.intro rfl trivial
theorem T1_all {Lv : World → Prop} {t : TypeId} {v : Value} {b : Bool} (h : Sq.Asserts t v 129 b) (s : Int) (K : Nat → Value) (cs : List Frame) : ∃ j K', Sil Tryz.prog false Lv j (mkT1 Tryz.prog t v s K cs) (mkT2 Tryz.prog t v (Sq.orB s b 1) K' cs) := by
  obtain ⟨x, hA⟩ := h
  obtain ⟨o, ho, hop⟩ := Option.map_eq_some_iff.1 (T1_o t v s K cs)
  have hs : Sil Tryz.prog false Lv 1 _ _ := ta_sil (by kernel_rfl) ho hop rfl hA
  cases b
  · exact ⟨_, _, sil_trans hs (T_sil (T1_false ..))⟩
  · exact ⟨_, _, sil_trans hs (T_sil (T1_true ..))⟩
theorem T2_all {Lv : World → Prop} {t : TypeId} {v : Value} {b : Bool} (h : Sq.Asserts t v 132 b) (s : Int) (K : Nat → Value) (cs : List Frame) : ∃ j K', Sil Tryz.prog false Lv j (mkT2 Tryz.prog t v s K cs) (mkT3 Tryz.prog t v (Sq.orB s b 2) K' cs) := by
  obtain ⟨x, hA⟩ := h
  obtain ⟨o, ho, hop⟩ := Option.map_eq_some_iff.1 (T2_o t v s K cs)
  have hs : Sil Tryz.prog false Lv 1 _ _ := ta_sil (by kernel_rfl) ho hop rfl hA
  cases b
  · exact ⟨_, _, sil_trans hs (T_sil (T2_false ..))⟩
  · exact ⟨_, _, sil_trans hs (T_sil (T2_true ..))⟩
theorem T3_all {Lv : World → Prop} {t : TypeId} {v : Value} {b : Bool} (h : Sq.Asserts t v 135 b) (s : Int) (K : Nat → Value) (cs : List Frame) : ∃ j K', Sil Tryz.prog false Lv j (mkT3 Tryz.prog t v s K cs) (mkT4 Tryz.prog t v (Sq.orB s b 4) K' cs) := by
  obtain ⟨x, hA⟩ := h
  obtain ⟨o, ho, hop⟩ := Option.map_eq_some_iff.1 (T3_o t v s K cs)
  have hs : Sil Tryz.prog false Lv 1 _ _ := ta_sil (by kernel_rfl) ho hop rfl hA
  cases b
  · exact ⟨_, _, sil_trans hs (T_sil (T3_false ..))⟩
  · exact ⟨_, _, sil_trans hs (T_sil (T3_true ..))⟩
theorem T4_all {Lv : World → Prop} {t : TypeId} {v : Value} {b : Bool} (h : Sq.Asserts t v 138 b) (s : Int) (K : Nat → Value) (cs : List Frame) : ∃ j K', Sil Tryz.prog false Lv j (mkT4 Tryz.prog t v s K cs) (mkT5 Tryz.prog t v (Sq.orB s b 8) K' cs) := by
  obtain ⟨x, hA⟩ := h
  obtain ⟨o, ho, hop⟩ := Option.map_eq_some_iff.1 (T4_o t v s K cs)
  have hs : Sil Tryz.prog false Lv 1 _ _ := ta_sil (by kernel_rfl) ho hop rfl hA
  cases b
  · exact ⟨_, _, sil_trans hs (T_sil (T4_false ..))⟩
  · exact ⟨_, _, sil_trans hs (T_sil (T4_true ..))⟩
theorem T5_all {Lv : World → Prop} {t : TypeId} {v : Value} {b : Bool} (h : Sq.Asserts t v 141 b) (s : Int) (K : Nat → Value) (cs : List Frame) : ∃ j K', Sil Tryz.prog false Lv j (mkT5 Tryz.prog t v s K cs) (mkT6 Tryz.prog t v (Sq.orB s b 16) K' cs) := by
  obtain ⟨x, hA⟩ := h
  obtain ⟨o, ho, hop⟩ := Option.map_eq_some_iff.1 (T5_o t v s K cs)
  have hs : Sil Tryz.prog false Lv 1 _ _ := ta_sil (by kernel_rfl) ho hop rfl hA
  cases b
  · exact ⟨_, _, sil_trans hs (T_sil (T5_false ..))⟩
  · exact ⟨_, _, sil_trans hs (T_sil (T5_true ..))⟩
theorem T6_all {Lv : World → Prop} {t : TypeId} {v : Value} {b : Bool} (h : Sq.Asserts t v 143 b) (s : Int) (K : Nat → Value) (c : Frame) (cs : List Frame) : ∃ j, Sil Tryz.prog false Lv j (mkT6 Tryz.prog t v s K (c :: cs)) (on (c.finish (.int .u16 (Sq.orB s b 32))) cs) := by
  obtain ⟨x, hA⟩ := h
  obtain ⟨o, ho, hop⟩ := Option.map_eq_some_iff.1 (T6_o t v s K (c :: cs))
  have hs : Sil Tryz.prog false Lv 1 _ _ := ta_sil (by kernel_rfl) ho hop rfl hA
  cases b
  · exact ⟨_, sil_trans hs (T_sil (T6_false ..))⟩
  · exact ⟨_, sil_trans hs (T_sil (T6_true ..))⟩
/-- PART.CAN, whatever the part's type. -/
theorem can_sil {Lv : World → Prop} {t : TypeId} {u : Int} (h : Sq.TyCan t u) (v : Value) (c : Frame) (cs : List Frame) : ∃ j, Sil Tryz.prog false Lv (j + 1) (on (Frame.enter Tryz.prog 14 #[.iface t v] .normal) (c :: cs)) (on (c.finish (.int .u16 u)) cs) := by
  obtain ⟨b1, b2, b3, b4, b5, b6, hc, h1, h2, h3, h4, h5, h6⟩ := h v
  have s0 : Sil Tryz.prog false Lv 20 _ _ := grun_sound ccOk (T1_q t v (c :: cs)) fun _ _ => trivial
  obtain ⟨j1, K1, s1⟩ := T1_all (Lv := Lv) h1 0 (junk (T1 Tryz.prog t v (c :: cs))) (c :: cs)
  obtain ⟨j2, K2, s2⟩ := T2_all (Lv := Lv) h2 _ K1 (c :: cs)
  obtain ⟨j3, K3, s3⟩ := T3_all (Lv := Lv) h3 _ K2 (c :: cs)
  obtain ⟨j4, K4, s4⟩ := T4_all (Lv := Lv) h4 _ K3 (c :: cs)
  obtain ⟨j5, K5, s5⟩ := T5_all (Lv := Lv) h5 _ K4 (c :: cs)
  obtain ⟨j6, s6⟩ := T6_all (Lv := Lv) h6 _ K5 c cs
  have hall := sil_trans s0 (sil_trans s1 (sil_trans s2 (sil_trans s3 (sil_trans s4 (sil_trans s5 s6)))))
  rw [show 20 + (j1 + (j2 + (j3 + (j4 + (j5 + j6))))) = (19 + (j1 + (j2 + (j3 + (j4 + (j5 + j6)))))) + 1 by omega] at hall
  subst hc
  exact ⟨_, hall⟩
theorem canOk_of {x : Cx} {u : Int} {t : TypeId} (h : Sq.TyCan t u) : CanOk x u t := by
  intro v J i R r
  obtain ⟨j, hj⟩ := can_sil (Lv := Live x) h v (mkRg Tryz.prog x J i (put R 16 (.iface t v)) (5 :: r)).frame (mkRg Tryz.prog x J i (put R 16 (.iface t v)) (5 :: r)).callers
  rw [rg5_ret] at hj
  exact ⟨j, hj⟩
end Go.Proofs.YthjofgmiabcifabGreatDoor.So
