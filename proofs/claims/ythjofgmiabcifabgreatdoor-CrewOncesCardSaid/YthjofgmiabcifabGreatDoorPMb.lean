/-
  The machine: one step of the crowd.
  Conditions: as each theorem says.
-/
import Derived.Test.YthjofgmiabcifabGreatDoorPMa
set_option linter.unusedVariables false
set_option linter.unusedSimpArgs false
namespace Go.Proofs.YthjofgmiabcifabGreatDoor.Ma
open Go Go.Conc
open Go.ConcN (PermW upd upd_same upd_ne sumTo sumTo_upd sumTo_congr sumTo_le)
open Go.ConcR (g_of_ofEvents ofEvent_cell ofEvent_loc_mark)
open Go.ConcM (OsLater)
open Go.Proofs.YthjofgmiabcifabGreatDoor.Ev Go.Proofs.YthjofgmiabcifabGreatDoor.Co Go.Proofs.YthjofgmiabcifabGreatDoor.Ab Go.Proofs.YthjofgmiabcifabGreatDoor.Mc Go.Proofs.YthjofgmiabcifabGreatDoor.Tr
open Go.Proofs.YthjofgmiabcifabGreatDoor.Lift (LSt Sim Further Fin)
theorem wake_us (b : Nat) (cs : List Frame) (J K : Nat → Value) : mayWake Tryz.prog (mkUs Tryz.prog b cs J K) = true := by kernel_rfl
theorem wake_ush (b : Nat) (cs : List Frame) (J K : Nat → Value) : mayWake Tryz.prog (mkUsh Tryz.prog b cs J K) = true := by kernel_rfl
theorem wake_d4 (x : Cx) : mayWake Tryz.prog (sD4 Tryz.prog x) = true := by kernel_rfl
theorem wake_cl (x : Cx) (n : Int) (cs : List Frame) (R K : Nat → Value) : mayWake Tryz.prog (mkCl Tryz.prog x n cs R K) = true := by kernel_rfl
theorem mv_ms {T T' : TD} {s s' : Sh} (hm : (T', s') ∈ mv T s) : (s.ms = 0 → s'.ms = 0 ∨ T.ph = .us) ∧ (s.wm = 0 → s'.wm = 0 ∨ T.ph = .d4) := by
  obtain ⟨ph, item, old, aw, sv, it, rest⟩ := T
  cases ph
  case rg =>
    cases rest with
    | nil => simp [mv] at hm
    | cons c r =>
      cases r with
      | nil =>
        simp only [mv, List.mem_singleton, Prod.mk.injEq] at hm
        obtain ⟨rfl, rfl⟩ := hm
        exact ⟨fun h => .inl h, fun h => .inl h⟩
      | cons y r =>
        simp only [mv] at hm
        split at hm
        · cases ‹c :: y :: r = []›
        · cases ‹c :: y :: r = [_]›
        all_goals
          simp only [List.mem_singleton, Prod.mk.injEq] at hm
          obtain ⟨rfl, rfl⟩ := hm
          exact ⟨fun h => .inl h, fun h => .inl h⟩
  case us => exact ⟨fun _ => .inr rfl, fun h => by
    simp only [mv, List.mem_singleton, Prod.mk.injEq] at hm
    obtain ⟨rfl, rfl⟩ := hm
    exact .inl h⟩
  case d4 => exact ⟨fun h => by
    simp only [mv, List.mem_singleton, Prod.mk.injEq] at hm
    obtain ⟨rfl, rfl⟩ := hm
    exact .inl h, fun _ => .inr rfl⟩
  case s1 =>
    simp only [mv] at hm
    split at hm
    · cases hm
    · simp only [List.mem_singleton, Prod.mk.injEq] at hm
      obtain ⟨rfl, rfl⟩ := hm
      exact ⟨fun h => absurd h ‹_›, fun h => .inl h⟩
  all_goals
    simp only [mv] at hm
    (repeat' (split at hm))
    all_goals simp only [List.mem_cons, List.mem_singleton, List.not_mem_nil, or_false, Prod.mk.injEq] at hm
    all_goals first
      | (rcases hm with ⟨rfl, rfl⟩ | ⟨rfl, rfl⟩ <;> exact ⟨fun h => .inl h, fun h => .inl h⟩)
      | (obtain ⟨rfl, rfl⟩ := hm; exact ⟨fun h => .inl h, fun h => .inl h⟩)
theorem mvC_ms {C C' : CD} {s s' : Sh} (hm : (C', s') ∈ mvC C s) : s'.ms = s.ms ∧ (s'.shut = s.shut ∨ (s'.shut = true ∧ C.ph = .cl)) ∧ s'.sent = s.sent ∧ s'.pts = s.pts := by
  obtain ⟨ph, old⟩ := C
  cases ph
  all_goals
    simp only [mvC] at hm
    (repeat' (split at hm))
    all_goals simp only [List.mem_cons, List.mem_singleton, List.not_mem_nil, or_false, Prod.mk.injEq] at hm
    all_goals (obtain ⟨rfl, rfl⟩ := hm; simp)
section
variable {x : Cx} {n B : Nat} {cs : List Frame} {u : Int} {W0 : World} {sa : Option Addr} {sl sc : Nat} {L : List FuncId}
variable {gs : Array Goroutine} {w w' : World} {sl' : Option (Nat × Nat)} {j : Nat} {D : Nat → TD} {C : CD} {s s' : Sh} {k k' : Parts} {fu dw : Nat → Nat} {f0 : Nat} {lo lo' : Option LSt} {Wc Wc' : World} {t : Trace}
theorem get_map_set (f : Goroutine → Goroutine) (a : Nat) (y : Goroutine) (b : Nat) (hb : a ≠ b) : ((gs.map f).setIfInBounds a y)[b]? = (gs[b]?).map f := by
  rw [Array.getElem?_setIfInBounds_ne hb, Array.getElem?_map]
theorem get_map_set_same (f : Goroutine → Goroutine) (a : Nat) (y : Goroutine) (ha : a < gs.size) : ((gs.map f).setIfInBounds a y)[a]? = some y := by
  simp [ha]
theorem woken_blocked {P : Program} {g g' : Goroutine} {w' : World} (h : g'.status = .blocked) : woken P g g' w' = id := by
  funext o; unfold woken; simp [h]
/-- A draw of the scheduler's leaves all as it is. -/
theorem I1.at (h : I1 x n B cs u W0 sa sl sc L gs w j D C s k fu dw f0 lo Wc t) (d : Nat) : I1 x n B cs u W0 sa sl sc L gs (w.at d) j D C s k fu dw f0 lo Wc t := by
  refine ⟨h.size, h.ai, h.wd.tick rfl rfl (.refl _) rfl, ⟨h.ba.ob, h.ba.fb, h.ba.nb, h.ba.sb⟩, h.g0, fun i hi => ?_, h.meet, h.st, h.tl, h.rl, h.acc, h.fin⟩
  obtain ⟨g, hg, hs⟩ := h.gw i hi
  refine ⟨g, hg, ?_⟩
  rcases hs with h1 | ⟨hp, hd, J, l, hl, hs, hy, sim, hB, hch⟩ | h1
  · exact .inl h1
  · exact .inr (.inl ⟨hp, hd, J, l, hl, hs, hy, ⟨sim.size, sim.le, sim.poison, sim.frozen, sim.own, sim.new⟩, hB, hch⟩)
  · exact .inr (.inr h1)
/-- A WORKER's STEP. -/
theorem goW (I : I1 x n B cs u W0 sa sl sc L gs w j D C s k fu dw f0 lo Wc t) {q : Nat} (hq : q < j) {g g' : Goroutine} {es : Array Event} {T' : TD} {m' d' : Nat} (hg : gs[q + 1]? = some g)
    (hst : stepG Tryz.prog false g w = .go g' w' es) (ai' : AInv n j (upd D q T') C s') (wd' : Wd x n (CanOk x u) u B W0 k' s' w') (ba' : Base x n (.slice sa sl sc) w')
    (hs' : WS x n B u sa sl sc L k' T' s' m' d' lo' Wc' g' w')
    (hoth : ∀ i, i < j → i ≠ q → ∀ o, WS x n B u sa sl sc L k (D i) s (fu i) (dw i) lo Wc o w → WS x n B u sa sl sc L k' (D i) s' (fu i) (dw i) lo' Wc' (woken Tryz.prog g g' w' o) w')
    (hC : ∀ a, CS x n cs C j s f0 a → CS x n cs C j s' f0 (woken Tryz.prog g g' w' a)) (hrun : T'.ph = .rcv → g'.status = .running ∨ ∀ a, gs[0]? = some a → a.status = .blocked → C.ph = .sd → False)
    (st' : ∀ i, i < j → (upd D q T' i).ph = .stP → B ≤ k'.pa.block ∧ w'.cell? k'.pa = some (.iface k'.t k'.v) ∧ 0 < k'.pl ∧ CanOk x u k'.t)
    (tl' : TL (fam x B) n j (upd D q T') s' (t ++ MemOp.ofEvents (q + 1) g.frame.fn g.frame.place es)) (rl' : RL (fam x B).Sh (wa x) j (upd D q T') (t ++ MemOp.ofEvents (q + 1) g.frame.fn g.frame.place es) (upd dw q d') (dC C.ph))
    (acc' : AccO (Further (Cl Tryz.prog x L W0).bare (Rm x B u)) lo') :
    runT Tryz.prog (crowd gs w sl') (q + 1) = (.next (crowd ((gs.map (woken Tryz.prog g g' w')).setIfInBounds (q + 1) g') w' sl'), MemOp.ofEvents (q + 1) g.frame.fn g.frame.place es) ∧
    I1 x n B cs u W0 sa sl sc L ((gs.map (woken Tryz.prog g g' w')).setIfInBounds (q + 1) g') w' j (upd D q T') C s' k' (upd fu q m') (upd dw q d') f0 lo' Wc' (t ++ MemOp.ofEvents (q + 1) g.frame.fn g.frame.place es) := by
  have hsz := I.size
  have stat : ∀ o : Goroutine, o.status = .running → (woken Tryz.prog g g' w' o).status = .running := by
    intro o ho
    unfold woken
    split
    · rw [again_running _ (.inl ho)]; exact ho
    · exact ho
  have statB : ∀ o : Goroutine, (woken Tryz.prog g g' w' o).status = .blocked → o.status = .blocked := by
    intro o
    unfold woken
    split
    · intro h
      unfold Goroutine.again at h
      cases hs : o.status <;> cases ho : o.offers <;> simp_all
    · exact id
  refine ⟨runT_crowd_go (i := q + 1) hg (by simpa using hst), ⟨by simp [hsz], ai', wd', ba', ?_, fun i hi => ?_, fun a ha hb hc i o hi hr ho => ?_, st', tl', rl', acc', I.fin⟩⟩
  · obtain ⟨a, ha, hca⟩ := I.g0
    exact ⟨_, by rw [get_map_set _ _ _ _ (by omega), ha]; rfl, hC a hca⟩
  · by_cases e : i = q
    · subst e
      refine ⟨g', get_map_set_same _ _ _ (by omega), ?_⟩
      rw [upd_same, upd_same, upd_same]
      exact hs'
    · obtain ⟨o, ho, hwo⟩ := I.gw i hi
      refine ⟨_, by rw [get_map_set _ _ _ _ (by omega), ho]; rfl, ?_⟩
      rw [upd_ne _ _ e, upd_ne _ _ e, upd_ne _ _ e]
      exact hoth i hi e o hwo
  · obtain ⟨a0, ha0, _⟩ := I.g0
    rw [get_map_set _ _ _ _ (by omega), ha0] at ha
    cases ha
    by_cases e : i = q
    · subst e
      rw [get_map_set_same _ _ _ (by omega)] at ho
      cases ho
      rw [upd_same] at hr
      rcases hrun hr with h1 | h1
      · exact h1
      · exact (h1 a0 ha0 (statB a0 hb) hc).elim
    · rw [get_map_set _ _ _ _ (by omega)] at ho
      rw [upd_ne _ _ e] at hr
      obtain ⟨o1, ho1, _⟩ := I.gw i hi
      rw [ho1] at ho
      cases ho
      exact stat o1 (I.meet a0 ha0 (statB a0 hb) hc i o1 hi hr ho1)
/-- THE STARTER's STEP, but for a go statement. -/
theorem goC (I : I1 x n B cs u W0 sa sl sc L gs w j D C s k fu dw f0 lo Wc t) {a a' : Goroutine} {es : Array Event} {C' : CD} {m' : Nat} (ha : gs[0]? = some a)
    (hst : stepG Tryz.prog true a w = .go a' w' es) (ai' : AInv n j D C' s') (wd' : Wd x n (CanOk x u) u B W0 k s' w') (ba' : Base x n (.slice sa sl sc) w') (hs' : CS x n cs C' j s' m' a')
    (hoth : ∀ i, i < j → ∀ o, WS x n B u sa sl sc L k (D i) s (fu i) (dw i) lo Wc o w → WS x n B u sa sl sc L k (D i) s' (fu i) (dw i) lo Wc (woken Tryz.prog a a' w' o) w')
    (hrun : a'.status = .running ∨ C'.ph ≠ .sd)
    (st' : ∀ i, i < j → (D i).ph = .stP → B ≤ k.pa.block ∧ w'.cell? k.pa = some (.iface k.t k.v) ∧ 0 < k.pl ∧ CanOk x u k.t)
    (tl' : TL (fam x B) n j D s' (t ++ MemOp.ofEvents 0 a.frame.fn a.frame.place es)) (rl' : RL (fam x B).Sh (wa x) j D (t ++ MemOp.ofEvents 0 a.frame.fn a.frame.place es) dw (dC C'.ph)) (hfin : C'.ph ≠ .fin) :
    runT Tryz.prog (crowd gs w sl') 0 = (.next (crowd ((gs.map (woken Tryz.prog a a' w')).setIfInBounds 0 a') w' sl'), MemOp.ofEvents 0 a.frame.fn a.frame.place es) ∧
    I1 x n B cs u W0 sa sl sc L ((gs.map (woken Tryz.prog a a' w')).setIfInBounds 0 a') w' j D C' s' k fu dw m' lo Wc (t ++ MemOp.ofEvents 0 a.frame.fn a.frame.place es) := by
  have hsz := I.size
  refine ⟨runT_crowd_go (i := 0) ha (by simpa using hst), ⟨by simp [hsz], ai', wd', ba', ⟨a', get_map_set_same _ _ _ (by omega), hs'⟩, fun i hi => ?_, fun b hb hbb hc i o hi hr ho => ?_, st', tl', rl', I.acc, hfin⟩⟩
  · obtain ⟨o, ho, hwo⟩ := I.gw i hi
    exact ⟨_, by rw [get_map_set _ _ _ _ (by omega), ho]; rfl, hoth i hi o hwo⟩
  · rw [get_map_set_same _ _ _ (by omega)] at hb
    cases hb
    rcases hrun with h1 | h1
    · rw [h1] at hbb; cases hbb
    · exact absurd hc h1
end
end Go.Proofs.YthjofgmiabcifabGreatDoor.Ma
namespace Go.Proofs.YthjofgmiabcifabGreatDoor.Ma
open Go Go.Conc
open Go.ConcN (PermW upd upd_same upd_ne sumTo sumTo_upd sumTo_congr sumTo_le)
open Go.ConcR (g_of_ofEvents ofEvent_cell ofEvent_loc_mark)
open Go.ConcM (OsLater)
open Go.Proofs.YthjofgmiabcifabGreatDoor.Ev Go.Proofs.YthjofgmiabcifabGreatDoor.Co Go.Proofs.YthjofgmiabcifabGreatDoor.Ab Go.Proofs.YthjofgmiabcifabGreatDoor.Mc Go.Proofs.YthjofgmiabcifabGreatDoor.Tr
open Go.Proofs.YthjofgmiabcifabGreatDoor.Lift (LSt Sim Further Fin)
structure Hyp (x : Cx) (n B : Nat) (u : Int) (W0 : World) (sa : Option Addr) (sl sc : Nat) (L : List FuncId) : Prop where
  dist : Dist x B
  lst : Lift.listOk Tryz.prog L = true
  inits : ∀ f ∈ L, Tryz.prog.inits.idxOf? f = none
  in12 : 12 ∈ L
  made : ∀ Wc w0 : World, B ≤ w0.heap.size → (∀ b c t f, b < B → ¬ Turned x b → W0.heap[b]? = some (.cells c t f) → ∃ f', w0.heap[b]? = some (.cells c t f')) →
    Lift.Ends (Cl Tryz.prog x L Wc).bare (Rm x B u) ⟨Frame.enter Tryz.prog 12 #[.agg #[.slice sa sl sc]] .normal, [], w0⟩
theorem fur_eq (P : Program) (x : Cx) (L : List FuncId) (Wa Wb : World) (R : Ending → World → Prop) : Further (Cl P x L Wa).bare R = Further (Cl P x L Wb).bare R := rfl
theorem on_eq (f : Frame) (c : List Frame) : on f c = ⟨f, [] ++ c, .running, none, none⟩ := rfl
theorem es_nil (g : Nat) (fn : FuncId) (pos : String) (t : Trace) : t ++ MemOp.ofEvents g fn pos #[] = t := by
  have : MemOp.ofEvents g fn pos #[] = #[] := rfl
  rw [this]; simp
section
variable {x : Cx} {n B : Nat} {cs : List Frame} {u : Int} {W0 : World} {sa : Option Addr} {sl sc : Nat} {L : List FuncId}
variable {gs : Array Goroutine} {w w' : World} {sl' : Option (Nat × Nat)} {j : Nat} {D : Nat → TD} {C : CD} {s s' : Sh} {k k' : Parts} {fu dw : Nat → Nat} {f0 : Nat} {lo lo' : Option LSt} {Wc Wc' : World} {t : Trace}
variable (x n B cs u W0 sa sl sc L) in
/-- One step further in the machine. -/
def NX (p : Nat) (gs : Array Goroutine) (w : World) (sl' : Option (Nat × Nat)) (j : Nat) (D : Nat → TD) (C : CD) (s : Sh) (fu : Nat → Nat) (f0 : Nat) (lo : Option LSt) (t : Trace) : Prop :=
  ∃ gs2 w2 j2 D2 C2 s2 k2 fu2 dw2 f2 lo2 Wc2 ops, runT Tryz.prog (crowd gs w sl') p = (.next (crowd gs2 w2 sl'), ops) ∧ I1 x n B cs u W0 sa sl sc L gs2 w2 j2 D2 C2 s2 k2 fu2 dw2 f2 lo2 Wc2 (t ++ ops) ∧
    Less (Further (Cl Tryz.prog x L W0).bare (Rm x B u)) (mu n gs2 j2 D2 C2 s2 fu2 f2 lo2) (mu n gs j D C s fu f0 lo)
theorem less_low {gs2 : Array Goroutine} {j2 : Nat} {D2 : Nat → TD} {C2 : CD} {s2 : Sh} {fu2 : Nat → Nat} {f2 : Nat} {lo2 : Option LSt} {r : LSt → LSt → Prop} (ha : AccO r lo2) (h : Low n j2 D2 C2 s2 j2 D2 C2 s2 ∨ True)
    (hl : Phi n j2 D2 C2 s2 < Phi n j D C s ∨ (Phi n j2 D2 C2 s2 = Phi n j D C s ∧ Lam j2 D2 C2 s2 < Lam j D C s)) : Less r (mu n gs2 j2 D2 C2 s2 fu2 f2 lo2) (mu n gs j D C s fu f0 lo) :=
  ⟨ha, hl.imp id fun ⟨a, b⟩ => ⟨a, .inl b⟩⟩
theorem less_fuel {gs2 : Array Goroutine} {fu2 : Nat → Nat} {f2 : Nat} {r : LSt → LSt → Prop} (ha : AccO r lo) (hj : j ≤ n) (h : sumTo j fu2 + f2 + 1 = sumTo j fu + f0) : Less r (mu n gs2 j D C s fu2 f2 lo) (mu n gs j D C s fu f0 lo) := by
  refine ⟨ha, .inr ⟨rfl, .inr ⟨rfl, .inr ⟨rfl, ?_⟩⟩⟩⟩
  show (n + 3) * (sumTo j fu2 + f2) + awk gs2 j < (n + 3) * (sumTo j fu + f0) + awk gs j
  rw [← h, Nat.mul_add (n + 3) (sumTo j fu2 + f2) 1]
  have := awk_le gs2 j
  omega
theorem less_awk {gs2 : Array Goroutine} {fu2 : Nat → Nat} {f2 : Nat} {r : LSt → LSt → Prop} (ha : AccO r lo) (h : sumTo j fu2 + f2 = sumTo j fu + f0) (hw : awk gs2 j < awk gs j) : Less r (mu n gs2 j D C s fu2 f2 lo) (mu n gs j D C s fu f0 lo) := by
  refine ⟨ha, .inr ⟨rfl, .inr ⟨rfl, .inr ⟨rfl, ?_⟩⟩⟩⟩
  show (n + 3) * (sumTo j fu2 + f2) + awk gs2 j < (n + 3) * (sumTo j fu + f0) + awk gs j
  rw [h]
  omega
theorem sum_fuel {q : Nat} (hq : q < j) (m : Nat) : sumTo j (upd fu q m) + fu q = sumTo j fu + m := sumTo_upd fu m id hq
/-- A stand that does not hang on what is at work. -/
theorem WS.far {T : TD} {m d : Nat} {g : Goroutine} (h : WS x n B u sa sl sc L k T s m d lo Wc g w) (h1 : T.ph ≠ .mk) (h2 : k' = k ∨ (isE T.ph = false ∧ T.ph ≠ .rg ∧ T.ph ≠ .cn)) : WS x n B u sa sl sc L k' T s m d lo' Wc' g w := by
  have key : ∀ g, AtW x n u k T g → AtW x n u k' T g := by
    rcases h2 with rfl | ⟨a, b, c⟩
    · exact fun _ h => h
    · exact fun g h => AtW.rek h a ⟨b, c⟩
  rcases h with ⟨n1, n2, hd, h⟩ | ⟨hp, _⟩ | ⟨hp, hq⟩
  · refine .inl ⟨n1, n2, hd, ?_⟩
    rcases h with ⟨h, hs, ha⟩ | ⟨hp, hm0, hms, h, ha, ho, rfl⟩ | h
    · exact .inl ⟨h, hs, key h ha⟩
    · exact .inr (.inl ⟨hp, hm0, hms, h, key h ha, ho, rfl⟩)
    · exact .inr (.inr h)
  · exact absurd hp h1
  · exact .inr (.inr ⟨hp, hq⟩)
theorem mv_stP {T T' : TD} (hm : (T', s') ∈ mv T s) (h : T'.ph = .stP) : T.ph = .mk := by
  obtain ⟨ph, item, old, aw, sv, it, rest⟩ := T
  cases ph
  case r0 | r1 | r3 =>
    simp only [mv, List.mem_singleton, Prod.mk.injEq] at hm
    obtain ⟨rfl, rfl⟩ := hm
    rcases hd_ph _ with e | e <;> rw [e] at h <;> cases h
  case r2 =>
    simp only [mv] at hm
    split at hm <;> simp only [List.mem_singleton, Prod.mk.injEq] at hm <;> obtain ⟨rfl, rfl⟩ := hm
    · cases h
    · rcases hd_ph _ with e | e <;> rw [e] at h <;> cases h
  case u0 =>
    simp only [mv] at hm
    split at hm <;> simp only [List.mem_singleton, Prod.mk.injEq] at hm <;> obtain ⟨rfl, rfl⟩ := hm
    · cases h
    · rcases hdU_ph _ _ with e | e <;> rw [e] at h <;> cases h
  case ux =>
    simp only [mv, List.mem_singleton, Prod.mk.injEq] at hm
    obtain ⟨rfl, rfl⟩ := hm
    rcases hdU_ph _ _ with e | e <;> rw [e] at h <;> cases h
  case rg =>
    cases rest with
    | nil => simp [mv] at hm
    | cons c r =>
      cases r with
      | nil =>
        simp only [mv, List.mem_singleton, Prod.mk.injEq] at hm
        obtain ⟨rfl, rfl⟩ := hm
        cases h
      | cons y r =>
        simp only [mv] at hm
        split at hm
        · cases ‹c :: y :: r = []›
        · cases ‹c :: y :: r = [_]›
        all_goals
          simp only [List.mem_singleton, Prod.mk.injEq] at hm
          obtain ⟨rfl, rfl⟩ := hm
          cases h
  case mk => rfl
  all_goals
    simp only [mv] at hm
    (repeat' (split at hm))
    all_goals simp only [List.mem_cons, List.mem_singleton, List.not_mem_nil, or_false, Prod.mk.injEq] at hm
    all_goals first
      | (rcases hm with ⟨rfl, rfl⟩ | ⟨rfl, rfl⟩ <;> cases h; done)
      | (obtain ⟨rfl, rfl⟩ := hm; cases h; done)
      | (rcases hm with ⟨rfl, rfl⟩ | ⟨rfl, rfl⟩ <;> (try split at h) <;> cases h; done)
theorem cell_moves (hD : Dist x B) (hm : Moves x w w') {a : Addr} (ha : B ≤ a.block) : w'.cell? a = w.cell? a := by
  have : ¬ Turned x a.block := by
    obtain ⟨d1, d2, d3, d4, d5, d6, d7, d8, d9, d10⟩ := hD
    unfold Turned
    omega
  simp [World.cell?, hm.rest _ this]
theorem Base.moves (hD : Dist x B) (hm : Moves x w w') {sv : Value} (h : Base x n sv w) : Base x n sv w' := by
  obtain ⟨d1, d2, d3, d4, d5, d6, d7, d8, d9, d10⟩ := hD
  refine ⟨?_, ?_, ?_, ?_⟩
  · rw [hm.rest _ (by unfold Turned; omega)]; exact h.ob
  · rw [hm.rest _ (by unfold Turned; omega)]; exact h.fb
  · rw [hm.rest _ (by unfold Turned; omega)]; exact h.nb
  · rw [hm.rest _ (by unfold Turned; omega)]; exact h.sb
/-- What others see of a worker's stop. -/
theorem oth_of (H : Hyp x n B u W0 sa sl sc L) (I : I1 x n B cs u W0 sa sl sc L gs w j D C s k fu dw f0 lo Wc t) {q : Nat} (hq : q < j) {g g' : Goroutine} {T' : TD} (hm : (T', s') ∈ mv (D q) s) (wd' : Wd x n (CanOk x u) u B W0 k s' w') (hmv : Moves x w w')
    (hus : (D q).ph = .us ∨ (D q).ph = .d4 → mayWake Tryz.prog g = true ∧ g'.status ≠ .blocked ∧ g'.status ≠ .waiting) :
    (∀ i, i < j → i ≠ q → ∀ o, WS x n B u sa sl sc L k (D i) s (fu i) (dw i) lo Wc o w → WS x n B u sa sl sc L k (D i) s' (fu i) (dw i) lo Wc (woken Tryz.prog g g' w' o) w') ∧
    (∀ a, CS x n cs C j s f0 a → CS x n cs C j s' f0 (woken Tryz.prog g g' w' a)) := by
  have h1 := mv_ms hm
  obtain ⟨e1, e2⟩ := mv_shut hm
  refine ⟨fun i hi hne o hwo => hwo.others H.dist I.wd wd' (fun _ => hmv) (fun h0 => (h1.1 h0).imp id fun e => hus (.inl e)) (.inl e1), fun a hca => hca.others ⟨_, _, wd'.ch⟩ e2 (fun hsd => ?_) (fun h0 => (h1.2 h0).imp id fun e => hus (.inr e))⟩
  rw [e1, I.ai.shut, hsd]
  rfl
/-- A QUIET STEP OF A WORKER's. -/
theorem nx_quiet (H : Hyp x n B u W0 sa sl sc L) (I : I1 x n B cs u W0 sa sl sc L gs w j D C s k fu dw f0 lo Wc t) {q m : Nat} (hq : q < j) {g g' : Goroutine} (hg : gs[q + 1]? = some g) (hst : stepG Tryz.prog false g w = .go g' w #[])
    (hf : fu q = m + 1) (hs' : WS x n B u sa sl sc L k (D q) s m (dw q) lo Wc g' w) (hrun : g'.status = .running) : NX x n B cs u W0 sa sl sc L (q + 1) gs w sl' j D C s fu f0 lo t := by
  have key := goW (sl' := sl') (T' := D q) (m' := m) (d' := dw q) I hq hg hst (by rw [upd_self]; exact I.ai) I.wd I.ba hs'
    (fun i hi hne o hwo => hwo.others H.dist I.wd I.wd (fun _ => .refl x w) (fun h0 => .inl h0) (.inl rfl)) (fun a hca => hca.others ⟨_, _, I.wd.ch⟩ rfl (fun hsd => by rw [I.ai.shut, hsd]; rfl) (fun h0 => .inl h0)) (fun _ => .inl hrun)
    (by rw [upd_self]; exact I.st) (by rw [upd_self, es_nil]; exact I.tl) (by rw [upd_self, upd_self, es_nil]; exact I.rl) I.acc
  rw [upd_self, upd_self] at key
  refine ⟨_, _, _, _, _, _, _, _, _, _, _, _, _, key.1, key.2, less_fuel I.acc I.ai.jn ?_⟩
  have := sum_fuel (fu := fu) hq m
  omega
/-- The work is entered. -/
theorem enter_mk (H : Hyp x n B u W0 sa sl sc L) (hW : Wd x n (CanOk x u) u B W0 k s w) : ∃ w0 : World, Sim (Cl Tryz.prog x L w) w0 w ∧ Lift.Way (Cl Tryz.prog x L w).bare (Rm x B u) ⟨Frame.enter Tryz.prog 12 #[.agg #[.slice sa sl sc]] .normal, [], w0⟩ := by
  have tcell : ∀ b, Turned x b → (∃ c t f, w.heap[b]? = some (.cells c t f)) ∨ ∃ c d e f g h, w.heap[b]? = some (.chan c d e f g h) := by
    intro b hb
    rcases hb with rfl | rfl | rfl | rfl | rfl | rfl
    · exact .inl ⟨_, _, _, hW.on⟩
    · exact .inl ⟨_, _, _, hW.pa⟩
    · exact .inl ⟨_, _, _, hW.md⟩
    · obtain ⟨c, e, _⟩ := hW.oa; exact .inl ⟨_, _, _, e⟩
    · exact .inr ⟨_, _, _, _, _, _, hW.ch⟩
    · exact .inl ⟨_, _, _, hW.wg⟩
  obtain ⟨w0, h1, h2, h3, h4, h5, h6, h7⟩ := Lift.lone_world (C := Cl Tryz.prog x L w) (w := w) rfl (fun b o ho hn => by
    by_cases hs : Lift.Seen o
    · right
      refine ⟨?_, hs, ?_⟩
      · rintro (hT | ⟨o', ho', _, hns⟩)
        · rcases tcell b hT with ⟨c, t, f, e⟩ | ⟨c, d, e', f, g, h, e⟩
          · rw [e] at ho; cases ho; exact hn _ _ _ rfl
          · rw [e] at ho; cases ho; exact hs
        · rw [ho'] at ho; cases ho; exact hns hs
      · rintro ⟨c, d, e, f, g, h, e'⟩
        rw [e'] at ho; cases ho; exact hs
    · left
      refine ⟨.inr ⟨o, ho, hn, hs⟩, ?_⟩
      have nch : ∀ (hc : ∀ c d e f g h, o ≠ .chan c d e f g h), ¬ (Cl Tryz.prog x L w).ch b := by
        rintro hc ⟨c, d, e, f, g, h, e'⟩
        rw [e'] at ho; cases ho; exact hc _ _ _ _ _ _ rfl
      cases o with
      | cells c t f => exact absurd rfl (hn _ _ _)
      | chan c d e f g h => exact ⟨_, _, _, _, _, _, ho⟩
      | view => exact absurd trivial hs
      | number => exact absurd trivial hs
      | map => exact absurd trivial hs
      | _ => exact nch (by simp))
  refine ⟨w0, h1, Lift.way_of_ends (C := (Cl Tryz.prog x L w).bare) H.lst (Lift.bare_free _) H.inits (fun e w T h => h) (Lift.inv_enter H.lst H.in12 h6) (H.made w w0 ?_ fun b c t f hb hT he => ?_)⟩
  · have := h6.1
    have hs := hW.size
    have e : (Cl Tryz.prog x L w).n0 = w.heap.size := rfl
    omega
  · rw [← hW.old b hb hT] at he
    have hnb : ¬ (Cl Tryz.prog x L w).bp b := by
      rintro (h | ⟨o, ho, hn, _⟩)
      · exact hT h
      · rw [he] at ho; cases ho; exact hn _ _ _ rfl
    rcases h7 b c t f hnb he with ⟨_, h⟩ | ⟨_, h⟩
    · exact ⟨_, h⟩
    · exact ⟨_, h⟩
/-- A WORKER's STOP. -/
theorem nx_stop (H : Hyp x n B u W0 sa sl sc L) (I : I1 x n B cs u W0 sa sl sc L gs w j D C s k fu dw f0 lo Wc t) {q : Nat} (hq : q < j) {g : Goroutine} (hg : gs[q + 1]? = some g) (ha : AtW x n u k (D q) g) (hdw : dw q = dW (D q).ph)
    (hr : (D q).ph ≠ .rcv) (hd : (D q).ph ≠ .dr2) (hs1 : ¬ ((D q).ph = .s1 ∧ s.ms = 0)) : NX x n B cs u W0 sa sl sc L (q + 1) gs w sl' j D C s fu f0 lo t := by
  have hD := H.dist
  obtain ⟨T', s', g', w', hm, hst, wd', haft, hmv⟩ := wstep hD I.ba (I.ai.facts hq) (I.st q hq) I.wd ha hr hd hs1
  have hnm : (D q).ph ≠ .mk := fun e => by
    generalize hT : D q = T at ha e
    obtain ⟨ph, item, old, aw, sv, it, rest⟩ := T
    simp only at e
    subst e
    exact ha
  have stat : g'.status ≠ .blocked ∧ g'.status ≠ .waiting := by
    rcases haft with ⟨_, N, hq⟩ | ⟨_, jj, J, a, b, c, _, hs⟩ | ⟨jj, h, hs, ha'⟩
    · rcases hq.status with e | e <;> rw [e] <;> simp
    · rw [sil_running hs rfl]; simp
    · rw [sil_running hs ha'.running]; simp
  have hus : (D q).ph = .us ∨ (D q).ph = .d4 → mayWake Tryz.prog g = true ∧ g'.status ≠ .blocked ∧ g'.status ≠ .waiting := by
    intro e
    refine ⟨?_, stat⟩
    generalize hT : D q = T at ha e
    obtain ⟨ph, item, old, aw, sv, it, rest⟩ := T
    simp only at e
    rcases e with rfl | rfl
    · rcases ha with ⟨J, V, td, K, K', ha⟩ | ⟨J, V, td, K, K', ha⟩
      · rw [ha]; exact wake_us ..
      · rw [ha]; exact wake_ush ..
    · have ha : g = sD4 Tryz.prog x := ha
      rw [ha]; exact wake_d4 x
  obtain ⟨ho, hc⟩ := oth_of (g := g) (g' := g') (f0 := f0) H I hq hm wd' hmv hus
  have hpk : past (D q).ph = true → B ≤ k.pa.block := fun hp => (I.wd.part ((I.ai.facts hq).pts hp)).1
  have hfine : (D q).ph = .rg → (D q).rest.head? = some 7 → (D q).rest = [7] := by
    intro e h7
    generalize hT : D q = T at ha e h7
    obtain ⟨ph, item, old, aw, sv, it, rest⟩ := T
    simp only at e
    subst e
    obtain ⟨J, R, _, hr⟩ := ha
    cases rest with
    | nil => cases h7
    | cons c r =>
      simp only [List.head?_cons, Option.some.injEq] at h7
      subst h7
      have := hr.head.2.1.2 rfl
      rw [this]
  have hdeaf : Deaf t (q + 1) = dW (D q).ph := by rw [I.rl.deafW q hq, hdw]
  have tl' := tl_step hD I.ai hq hm hpk hfine I.tl hdeaf g.frame.fn g.frame.place
  have rl' := rl_step (k := k) hD hq hm I.rl hdw g.frame.fn g.frame.place
  have ai' := I.ai.stepW hq hm
  have low := I.ai.fallsW hq hm
  have ba' := Base.moves hD hmv I.ba
  have st' : ∀ i, i < j → (upd D q T' i).ph = .stP → B ≤ k.pa.block ∧ w'.cell? k.pa = some (.iface k.t k.v) ∧ 0 < k.pl ∧ CanOk x u k.t := by
    intro i hi hp
    by_cases e : i = q
    · subst e
      rw [upd_same] at hp
      exact absurd (mv_stP hm hp) hnm
    · rw [upd_ne _ _ e] at hp
      obtain ⟨p1, p2, p3, p4⟩ := I.st i hi hp
      exact ⟨p1, by rw [cell_moves hD hmv p1]; exact p2, p3, p4⟩
  rcases haft with ⟨hp, N, hquit⟩ | ⟨hp, jj, J, a, b, c, hsv, hs⟩ | ⟨jj, h, hs, ha'⟩
  · have key := goW (sl' := sl') (T' := T') (m' := N) (d' := dW T'.ph) I hq hg hst ai' wd' ba' (.inr (.inr ⟨hp, by rw [hp]; exact hquit⟩)) ho hc (fun e => by rw [hp] at e; cases e) st' tl' rl' I.acc
    exact ⟨_, _, _, _, _, _, _, _, _, _, _, _, _, key.1, key.2, less_low I.acc (.inr trivial) low⟩
  · cases hsv
    have hE' : isE (upd D q T' q).ph = true := by rw [upd_same, hp]; rfl
    have hno : ∀ i, i < j → i ≠ q → (D i).ph ≠ .mk := by
      intro i hi hne e
      exact hne (uniqE ai' i q hi hq (by rw [upd_ne _ _ hne, e]; rfl) hE')
    obtain ⟨w0, sim, way⟩ := enter_mk (sa := sa) (sl := sl) (sc := sc) H wd'
    have hit : T'.item = (D q).item ∨ True := .inr trivial
    have acc' : AccO (Further (Cl Tryz.prog x L W0).bare (Rm x B u)) (some ⟨Frame.enter Tryz.prog 12 #[.agg #[.slice sa sl sc]] .normal, [], w0⟩) := by
      intro l e
      cases e
      rw [fur_eq Tryz.prog x L W0 w' (Rm x B u)]
      exact Lift.way_acc way
    rw [on_eq] at hs
    have key := goW (sl' := sl') (T' := T') (m' := jj) (d' := dW T'.ph) (lo' := some ⟨Frame.enter Tryz.prog 12 #[.agg #[.slice sa sl sc]] .normal, [], w0⟩) (Wc' := w') I hq hg hst ai' wd' ba'
      (.inr (.inl ⟨hp, by rw [hp]; rfl, J, _, rfl, hs, way, sim, wd'.size, _, _, _, _, _, _, wd'.ch⟩)) (fun i hi hne o hwo => (ho i hi hne o hwo).far (hno i hi hne) (.inl rfl)) hc (fun e => by rw [hp] at e; cases e) st' tl' rl' acc'
    exact ⟨_, _, _, _, _, _, _, _, _, _, _, _, _, key.1, key.2, less_low acc' (.inr trivial) low⟩
  · have hnq : T'.ph ≠ .mk ∧ T'.ph ≠ .quit := by
      constructor <;> intro e <;> (obtain ⟨ph, item, old, aw, sv, it, rest⟩ := T'; simp only at e; subst e; exact ha')
    have key := goW (sl' := sl') (T' := T') (m' := jj) (d' := dW T'.ph) I hq hg hst ai' wd' ba' (.inl ⟨hnq.1, hnq.2, rfl, .inl ⟨h, hs, ha'⟩⟩) ho hc (fun _ => .inl (sil_running hs ha'.running)) st' tl' rl' I.acc
    exact ⟨_, _, _, _, _, _, _, _, _, _, _, _, _, key.1, key.2, less_low I.acc (.inr trivial) low⟩
/-- AN ORDER IS DRAWN. -/
theorem nx_draw (H : Hyp x n B u W0 sa sl sc L) (I : I1 x n B cs u W0 sa sl sc L gs w j D C s k fu dw f0 lo Wc t) {q : Nat} (hq : q < j) {g : Goroutine} (hg : gs[q + 1]? = some g) (ha : AtW x n u k (D q) g) (hdw : dw q = dW (D q).ph)
    (hd : (D q).ph = .dr2) : NX x n B cs u W0 sa sl sc L (q + 1) gs w sl' j D C s fu f0 lo t := by
  have hD := H.dist
  obtain ⟨r, g', w', h7, h8, hst, wd', ha', hmv⟩ : ∃ r g' w', r.getLast? = some 7 ∧ r.length = 8 ∧ stepG Tryz.prog false g w = .go g' w' #[] ∧ Wd x n (CanOk x u) u B W0 k s w' ∧ AtW x n u k { D q with ph := .rg, rest := r } g' ∧ Moves x w w' := by
    generalize hT : D q = T at ha hd
    obtain ⟨ph, item, old, aw, sv, it, rest⟩ := T
    simp only at hd
    subst hd
    obtain ⟨J, R, ha⟩ := ha
    rw [ha]
    exact w_dr2 I.wd
  have ai' := I.ai.draw hq hd h7
  have low := I.ai.fallsDraw hq hd (r := r) (by omega)
  have ho : ∀ i, i < j → i ≠ q → ∀ o, WS x n B u sa sl sc L k (D i) s (fu i) (dw i) lo Wc o w → WS x n B u sa sl sc L k (D i) s (fu i) (dw i) lo Wc (woken Tryz.prog g g' w' o) w' :=
    fun i hi hne o hwo => hwo.others hD I.wd wd' (fun _ => hmv) (fun h0 => .inl h0) (.inl rfl)
  have hc : ∀ a, CS x n cs C j s f0 a → CS x n cs C j s f0 (woken Tryz.prog g g' w' a) :=
    fun a hca => hca.others ⟨_, _, wd'.ch⟩ rfl (fun hsd => by rw [I.ai.shut, hsd]; rfl) (fun h0 => .inl h0)
  have st' : ∀ i, i < j → (upd D q { D q with ph := .rg, rest := r } i).ph = .stP → B ≤ k.pa.block ∧ w'.cell? k.pa = some (.iface k.t k.v) ∧ 0 < k.pl ∧ CanOk x u k.t := by
    intro i hi hp
    by_cases e : i = q
    · subst e; rw [upd_same] at hp; cases hp
    · rw [upd_ne _ _ e] at hp
      obtain ⟨p1, p2, p3, p4⟩ := I.st i hi hp
      exact ⟨p1, by rw [cell_moves hD hmv p1]; exact p2, p3, p4⟩
  have e0 : dW (D q).ph = dW Ph.rg := by rw [hd]; rfl
  have tl' : TL (fam x B) n j (upd D q { D q with ph := .rg, rest := r }) s (t ++ MemOp.ofEvents (q + 1) g.frame.fn g.frame.place #[]) := by
    rw [es_nil]
    exact I.tl.move hq rfl (fun _ _ h => h) (fun h => by cases h) (fun _ h => by rw [hd] at h; cases h) (fun _ _ => .inl (by rw [hd]; rfl))
  have rl' : RL (fam x B).Sh (wa x) j (upd D q { D q with ph := .rg, rest := r }) (t ++ MemOp.ofEvents (q + 1) g.frame.fn g.frame.place #[]) (upd dw q (dw q)) (dC C.ph) := by
    rw [es_nil, upd_self]
    exact I.rl.move hq (fun h => by cases h)
  have key := goW (sl' := sl') (T' := { D q with ph := .rg, rest := r }) (m' := 0) (d' := dw q) I hq hg hst ai' wd' (Base.moves hD hmv I.ba) (.inl ⟨by simp, by simp, by rw [hdw, e0], .inl ⟨g', rfl, ha'⟩⟩) ho hc (fun h => by cases h) st' tl' rl' I.acc
  exact ⟨_, _, _, _, _, _, _, _, _, _, _, _, _, key.1, key.2, less_low I.acc (.inr trivial) low⟩
/-- IT WAITS AT THE LOCK. -/
theorem nx_block (I : I1 x n B cs u W0 sa sl sc L gs w j D C s k fu dw f0 lo Wc t) {q : Nat} (hq : q < j) {g : Goroutine} (hg : gs[q + 1]? = some g) (ha : AtW x n u k (D q) g) (hdw : dw q = dW (D q).ph) (hf : fu q = 0)
    (hp : (D q).ph = .s1) (h0 : s.ms = 0) : NX x n B cs u W0 sa sl sc L (q + 1) gs w sl' j D C s fu f0 lo t := by
  obtain ⟨hst, hof⟩ := wblock I.wd ha hp h0
  have hid : woken Tryz.prog g { g with status := .blocked } w = id := woken_blocked rfl
  have hs' : WS x n B u sa sl sc L k (D q) s 0 (dw q) lo Wc { g with status := .blocked } w := .inl ⟨by rw [hp]; simp, by rw [hp]; simp, hdw, .inr (.inl ⟨hp, rfl, h0, g, ha, hof, rfl⟩)⟩
  have key := goW (sl' := sl') (T' := D q) (m' := 0) (d' := dw q) I hq hg hst (by rw [upd_self]; exact I.ai) I.wd I.ba hs'
    (fun i hi hne o hwo => by rw [hid]; exact hwo) (fun a hca => by rw [hid]; exact hca) (fun e => by rw [hp] at e; cases e)
    (by rw [upd_self]; exact I.st) (by rw [upd_self, es_nil]; exact I.tl) (by rw [upd_self, upd_self, es_nil]; exact I.rl) I.acc
  rw [upd_self, upd_self] at key
  refine ⟨_, _, _, _, _, _, _, _, _, _, _, _, _, key.1, key.2, less_awk I.acc (by have := sum_fuel (fu := fu) hq 0; omega) ?_⟩
  rw [hid, Array.map_id]
  have := awk_set (g' := ({ g with status := .blocked } : Goroutine)) I.size hg
  have e1 : act g = 1 := if_pos ha.running
  have e2 : act ({ g with status := .blocked } : Goroutine) = 0 := rfl
  omega
/-- IT LEAVES. -/
theorem nx_leave (H : Hyp x n B u W0 sa sl sc L) (I : I1 x n B cs u W0 sa sl sc L gs w j D C s k fu dw f0 lo Wc t) {q m : Nat} (hq : q < j) {g : Goroutine} (hg : gs[q + 1]? = some g) (hp : (D q).ph = .quit) (hf : fu q = m) (hquit : QuitsD Tryz.prog m (dw q) g) (hr : g.status = .running) :
    NX x n B cs u W0 sa sl sc L (q + 1) gs w sl' j D C s fu f0 lo t := by
  cases m with
  | zero => have := hquit.1; rw [hr] at this; cases this
  | succ m =>
    rcases hquit with ⟨h, _⟩ | ⟨_, g', es, hmute, hst, hq'⟩
    · rw [hr] at h; cases h
    · have key := goW (sl' := sl') (T' := D q) (m' := m) (d' := deafBehind (dw q) es) I hq hg (hst w) (by rw [upd_self]; exact I.ai) I.wd I.ba (.inr (.inr ⟨hp, hq'⟩))
        (fun i hi hne o hwo => hwo.others H.dist I.wd I.wd (fun _ => .refl x w) (fun h0 => .inl h0) (.inl rfl)) (fun a hca => hca.others ⟨_, _, I.wd.ch⟩ rfl (fun hsd => by rw [I.ai.shut, hsd]; rfl) (fun h0 => .inl h0))
        (fun e => by rw [hp] at e; cases e) (by rw [upd_self]; exact I.st) (by rw [upd_self]; exact tl_leave hq I.tl hmute _ _) (by rw [upd_self]; exact rl_leave hq hp I.rl hmute _ _) I.acc
      rw [upd_self] at key
      refine ⟨_, _, _, _, _, _, _, _, _, _, _, _, _, key.1, key.2, less_fuel I.acc I.ai.jn ?_⟩
      have := sum_fuel (fu := fu) hq m
      omega
end
end Go.Proofs.YthjofgmiabcifabGreatDoor.Ma
