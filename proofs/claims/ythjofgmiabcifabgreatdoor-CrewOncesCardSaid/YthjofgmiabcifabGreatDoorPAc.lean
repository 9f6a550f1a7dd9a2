/-
  The automaton of the crowd: its moves fall and go on.
  Conditions: as each theorem says.
-/
import Derived.Test.YthjofgmiabcifabGreatDoorPAb
set_option linter.unusedVariables false
set_option linter.unusedSimpArgs false
namespace Go.Proofs.YthjofgmiabcifabGreatDoor.Ab
open Go.ConcN (sumTo upd upd_same upd_ne sumTo_upd sumTo_congr le_sumTo sumTo_le)
structure OInv (done pts : Bool) (made E1 E2 E3 : Nat) : Prop where
  o1 : done = true → E1 = 0 ∧ E2 = 0 ∧ E3 = 0 ∧ pts = true ∧ made = 1
  o2 : done = false → (pts = true ↔ E2 + E3 = 1) ∧ made = E3
section
variable (T : TD) (m : MW) (i : Nat)
theorem hd_E1 : fE1 (hd T) = 0 := by rcases hd_cases T with ⟨e, _⟩ | ⟨e, _⟩ <;> rw [e] <;> rfl
theorem hd_E2 : fE2 (hd T) = 0 := by rcases hd_cases T with ⟨e, _⟩ | ⟨e, _⟩ <;> rw [e] <;> rfl
theorem hd_E3 : fE3 (hd T) = 0 := by rcases hd_cases T with ⟨e, _⟩ | ⟨e, _⟩ <;> rw [e] <;> rfl
theorem hd_V : fV (hd T) = 1 := by rcases hd_cases T with ⟨e, _⟩ | ⟨e, _⟩ <;> rw [e] <;> rfl
theorem hd_23 : f23 (hd T) = 0 := by rcases hd_cases T with ⟨e, _⟩ | ⟨e, _⟩ <;> rw [e] <;> rfl
theorem hd_4 : f4 (hd T) = 0 := by rcases hd_cases T with ⟨e, _⟩ | ⟨e, _⟩ <;> rw [e] <;> rfl
theorem hd_I : fI i (hd T) = if T.item = i then 1 else 0 := by rcases hd_cases T with ⟨e, _⟩ | ⟨e, _⟩ <;> rw [e] <;> simp [fI, Ab.holds]
theorem hdU_E1 : fE1 (hdU T m) = 0 := by rcases hdU_cases T m with ⟨e, _⟩ | ⟨e, _⟩ <;> rw [e] <;> rfl
theorem hdU_E2 : fE2 (hdU T m) = 0 := by rcases hdU_cases T m with ⟨e, _⟩ | ⟨e, _⟩ <;> rw [e] <;> rfl
theorem hdU_E3 : fE3 (hdU T m) = 0 := by rcases hdU_cases T m with ⟨e, _⟩ | ⟨e, _⟩ <;> rw [e] <;> rfl
theorem hdU_V : fV (hdU T m) = 1 := by rcases hdU_cases T m with ⟨e, _⟩ | ⟨e, _⟩ <;> rw [e] <;> rfl
theorem hdU_23 : f23 (hdU T m) = 0 := by rcases hdU_cases T m with ⟨e, _⟩ | ⟨e, _⟩ <;> rw [e] <;> rfl
theorem hdU_4 : f4 (hdU T m) = 0 := by rcases hdU_cases T m with ⟨e, _⟩ | ⟨e, _⟩ <;> rw [e] <;> rfl
theorem hdU_I : fI i (hdU T m) = if T.item = i then 1 else 0 := by rcases hdU_cases T m with ⟨e, _⟩ | ⟨e, _⟩ <;> rw [e] <;> simp [fI, Ab.holds]
end
set_option maxHeartbeats 4000000 in
theorem once_step {T T' : TD} {s s' : Sh} {N E1 E2 E3 E1' E2' E3' : Nat} (h : OInv s.done s.pts s.made E1 E2 E3) (hm : (T', s') ∈ mv T s) (hl : N + E1 + E2 + E3 ≤ 1)
    (e1 : E1' + fE1 T = E1 + fE1 T') (e2 : E2' + fE2 T = E2 + fE2 T') (e3 : E3' + fE3 T = E3 + fE3 T') (lN : fN T ≤ N) (l1 : fE1 T ≤ E1) (l2 : fE2 T ≤ E2) (l3 : fE3 T ≤ E3) : OInv s'.done s'.pts s'.made E1' E2' E3' := by
  obtain ⟨ph, item, old, aw, sv, it, rest⟩ := T
  obtain ⟨done, mu, ms, pts, made, sent, shut, fill, wv, ww, wm⟩ := s
  obtain ⟨h1, h2⟩ := h
  cases ph
  all_goals
    simp only [mv] at hm
    (repeat' (split at hm))
    all_goals simp only [List.mem_cons, List.mem_singleton, List.not_mem_nil, or_false, Prod.mk.injEq] at hm
    all_goals first
      | (rcases hm with ⟨rfl, rfl⟩ | ⟨rfl, rfl⟩ <;> ((try simp only [hd_E1, hd_E2, hd_E3, hdU_E1, hdU_E2, hdU_E3] at e1 e2 e3); simp only [fE1, fE2, fE3, fN] at *; cases done <;> cases pts <;> simp at * <;> refine ⟨fun hd => ?_, fun hd => ?_⟩ <;> simp at * <;> omega); done)
      | (obtain ⟨rfl, rfl⟩ := hm; (try simp only [hd_E1, hd_E2, hd_E3, hdU_E1, hdU_E2, hdU_E3] at e1 e2 e3); simp only [fE1, fE2, fE3, fN] at *; cases done <;> cases pts <;> simp at * <;> refine ⟨fun hd => ?_, fun hd => ?_⟩ <;> simp at * <;> omega; done)
/-- What is handed out and filled. -/
theorem item_step {T T' : TD} {s s' : Sh} (hm : (T', s') ∈ mv T s) (hf : holds T.ph = true → s.fill T.item = false) (i : Nat) : fI i T' + (if s'.fill i then 1 else 0) = fI i T + (if s.fill i then 1 else 0) := by
  obtain ⟨ph, item, old, aw, sv, it, rest⟩ := T
  obtain ⟨done, mu, ms, pts, made, sent, shut, fill, wv, ww, wm⟩ := s
  cases ph
  case rg =>
    have hf0 : fill item = false := hf rfl
    clear hf
    simp only [mv] at hm
    split at hm
    · cases hm
    all_goals
      simp only [List.mem_singleton, Prod.mk.injEq] at hm
      obtain ⟨rfl, rfl⟩ := hm
      by_cases e : i = item
      · subst e; simp [fI, Ab.holds, hf0]
      · have : ¬ item = i := fun h => e h.symm
        simp [fI, Ab.holds, e, this]
  all_goals
    clear hf
    simp only [mv] at hm
    (repeat' (split at hm))
    all_goals simp only [List.mem_cons, List.mem_singleton, List.not_mem_nil, or_false, Prod.mk.injEq] at hm
    all_goals first
      | (rcases hm with ⟨rfl, rfl⟩ | ⟨rfl, rfl⟩ <;> (try simp only [hd_I, hdU_I]) <;> simp [fI, Ab.holds]; done)
      | (obtain ⟨rfl, rfl⟩ := hm; (try simp only [hd_I, hdU_I]); simp [fI, Ab.holds]; done)
/-- The group's law, of numbers alone. -/
structure GInv (wt th : Bool) (p wv ww wm V L2 L4 : Nat) : Prop where
  count : wv = V + p
  quiet : wt = false → ww = 0 ∧ wm = 0 ∧ L2 = 0 ∧ L4 = 0
  busy : wt = true → (1 ≤ V → ww = 1 ∧ wm = 0 ∧ L2 = 0 ∧ L4 = 0) ∧ (V = 0 → L2 + L4 + wm = 1 ∧ ww = L2)
  thr : th = true → V = 0
set_option maxHeartbeats 4000000 in
theorem group_step {T T' : TD} {s s' : Sh} {wt th : Bool} {p V L2 L4 V' L2' L4' : Nat} (h : GInv wt th p s.wv s.ww s.wm V L2 L4) (hp : wt = true → p = 0) (hx : wt = false ∨ th = false) (hm : (T', s') ∈ mv T s)
    (e1 : V' + fV T = V + fV T') (e2 : L2' + f23 T = L2 + f23 T') (e3 : L4' + f4 T = L4 + f4 T') (l1 : fV T ≤ V) (l2 : f23 T ≤ L2) (l3 : f4 T ≤ L4) : GInv wt th p s'.wv s'.ww s'.wm V' L2' L4' := by
  obtain ⟨ph, item, old, aw, sv, it, rest⟩ := T
  obtain ⟨done, mu, ms, pts, made, sent, shut, fill, wv, ww, wm⟩ := s
  obtain ⟨h1, h2, h3, h4⟩ := h
  cases ph
  all_goals
    simp only [mv] at hm
    (repeat' (split at hm))
    all_goals simp only [List.mem_cons, List.mem_singleton, List.not_mem_nil, or_false, Prod.mk.injEq] at hm
    all_goals first
      | (rcases hm with ⟨rfl, rfl⟩ | ⟨rfl, rfl⟩ <;> ((try simp only [hd_V, hd_23, hd_4, hdU_V, hdU_23, hdU_4] at e1 e2 e3); simp only [fV, f23, f4] at *; cases wt <;> cases th <;> simp at * <;> refine ⟨?_, fun hd => ?_, fun hd => ?_, fun hd => ?_⟩ <;> (try simp at *) <;> omega); done)
      | (obtain ⟨rfl, rfl⟩ := hm; (try simp only [hd_V, hd_23, hd_4, hdU_V, hdU_23, hdU_4] at e1 e2 e3); simp only [fV, f23, f4] at *; cases wt <;> cases th <;> simp at * <;> refine ⟨?_, fun hd => ?_, fun hd => ?_, fun hd => ?_⟩ <;> (try simp at *) <;> omega; done)
end Go.Proofs.YthjofgmiabcifabGreatDoor.Ab
namespace Go.Proofs.YthjofgmiabcifabGreatDoor.Ab
open Go.ConcN (sumTo upd upd_same upd_ne sumTo_upd sumTo_congr le_sumTo sumTo_le)
section
variable {n j : Nat} {D : Nat → TD} {C C' : CD} {s s' : Sh} {k : Nat} {T' : TD}
theorem AInv.lock1 (h : AInv n j D C s) : Sum j D fN + Sum j D fE1 + Sum j D fE2 + Sum j D fE3 ≤ 1 := by
  have := h.lock
  split at this <;> omega
theorem AInv.oinv (h : AInv n j D C s) : OInv s.done s.pts s.made (Sum j D fE1) (Sum j D fE2) (Sum j D fE3) := ⟨h.once1, h.once2⟩
theorem AInv.ginv (h : AInv n j D C s) : GInv (waits C.ph) (through C.ph) (pend C.ph) s.wv s.ww s.wm (Sum j D fV) (Sum j D f23) (Sum j D f4) := ⟨h.count, h.quiet, h.busy, h.thr⟩
theorem AInv.unfilled (h : AInv n j D C s) (hk : k < j) (hh : holds (D k).ph = true) : s.fill (D k).item = false := by
  have h1 := h.items _ ((h.wk k hk).item hh)
  have h2 := le_sum hk D (fI (D k).item)
  have : fI (D k).item (D k) = 1 := by simp [fI, hh]
  cases hf : s.fill (D k).item with
  | false => rfl
  | true => rw [hf] at h1; simp at h1; split at h1 <;> omega
theorem AInv.self (h : AInv n j D C s) (hk : k < j) (hm : (T', s') ∈ mv (D k) s) : WInv n T' s' := by
  have a1 := le_sum hk D fK
  have a2 := le_sum hk D fA
  refine winv_self (h.wk k hk) h.n16 h.wide hm (fun hp hS => ?_) (fun hp hS => ?_) (fun hp ha => ?_)
  · have := (h.free hS).1
    simp only [fK, hp] at a1
    cases hK : s.mu.K with
    | true => rfl
    | false => rw [hK] at this; simp at this; omega
  · obtain ⟨b1, b2, b3, b4, b5⟩ := h.starve hS
    simp only [fK, hp] at a1
    refine ⟨b1, ?_, b5⟩
    cases hL : s.mu.L with
    | false => rfl
    | true => rw [hL] at b3; simp at b3; omega
  · have hA : fA (D k) = 1 := by simp [fA, hp, ha]
    cases hS : s.mu.S with
    | true => have := (h.starve hS).2.1; omega
    | false =>
      have := (h.free hS).1
      refine ⟨?_, rfl⟩
      cases hK : s.mu.K with
      | true => rfl
      | false => rw [hK] at this; simp at this; omega
theorem mv_fill (hm : (T', s') ∈ mv (D k) s) : ∀ i, s'.fill i = true → s.fill i = true ∨ past (D k).ph = true := by
  intro i hi
  generalize D k = T at hm
  obtain ⟨ph, item, old, aw, sv, it, rest⟩ := T
  cases ph <;> simp only [mv] at hm <;> (repeat' (split at hm)) <;> simp only [List.mem_cons, List.mem_singleton, List.not_mem_nil, or_false, Prod.mk.injEq] at hm <;> first
    | (rcases hm with ⟨rfl, rfl⟩ | ⟨rfl, rfl⟩ <;> exact .inl hi)
    | (obtain ⟨rfl, rfl⟩ := hm; exact .inl hi)
    | exact .inr rfl
/-- A WORKER's OWN STEP. -/
theorem AInv.stepW (h : AInv n j D C s) (hk : k < j) (hm : (T', s') ∈ mv (D k) s) : AInv n j (upd D k T') C s' := by
  have u := fun f => sum_upd hk D T' f
  have l := fun f => le_sum hk D f
  have m := mu_step (h.wk k hk) h.minv hm (u fN) (u fE) (u fQ) (u fU) (u fK) (u fA) (u fX) (l fQ) (l fK) (l fA) (l fN) (l fE) (l fU) (l fX)
  have o := once_step h.oinv hm h.lock1 (u fE1) (u fE2) (u fE3) (l fN) (l fE1) (l fE2) (l fE3)
  have g := group_step h.ginv (fun hw => by cases hp : C.ph <;> simp [hp, waits, pend] at hw ⊢) (by cases hp : C.ph <;> simp [waits, through]) hm (u fV) (u f23) (u f4) (l fV) (l f23) (l f4)
  obtain ⟨e1, e2⟩ := mv_shut hm
  refine ⟨h.n1, h.n16, h.jn, fun i hi => ?_, ?_, m.free, m.starve, m.fix, o.o1, o.o2, fun i hi => ?_, by rw [e2]; exact h.sent, fun x => by rw [e2]; exact h.feed x, fun x => by rw [e2]; exact h.feed0 x, fun x => by rw [e2]; exact h.feedn x, by rw [e1]; exact h.shut, h.more, h.all, g.count, g.quiet, g.busy, g.thr, h.w2, fun i hi => ?_⟩
  · by_cases e : i = k
    · subst e; rw [upd_same]; exact h.self hk hm
    · rw [upd_ne _ _ e]; exact h.others hk hm i hi e
  · have := m.lock
    rw [sum_fE] at this
    omega
  · have h1 := h.items i hi
    have h2 := item_step hm (fun hh => h.unfilled hk hh) i
    have h3 := u (fI i)
    rw [e2]
    omega
  · rcases mv_fill hm i hi with h1 | h1
    · exact mv_done hm (h.filled i h1)
    · exact mv_done hm ((h.wk k hk).past h1)
/-- THE STARTER's OWN STEP. -/
theorem AInv.stepC (h : AInv n j D C s) (hm : (C', s') ∈ mvC C s) : AInv n j D C' s' := by
  obtain ⟨ph, old⟩ := C
  obtain ⟨done, mu, ms, pts, made, sent, shut, fill, wv, ww, wm⟩ := s
  obtain ⟨i1, i2, i3, i4, i5, i6, i7, i8, i9, i10, i11, i12, i13, i14, i15, i16, i17, i18, i19, i20, i21, i22, i23, i24⟩ := h
  have hV : Sum j D fV ≤ j := sum_le_n fun T => by unfold fV; cases T.ph <;> simp
  have wk : ∀ s' : Sh, s'.done = done → s'.shut = shut ∨ s'.shut = true → s'.mu = mu → ∀ k, k < j → WInv n (D k) s' := by
    intro s' e1 e2 e3 k hk
    obtain ⟨b1, b2, b3, b4, b5, b6, b7, b8, b9, b10, b11, b12, b13, b14, b15, b16, b17⟩ := i4 k hk
    simp only at *
    exact ⟨b1, fun x => by rw [e1]; exact b2 x, fun x => by rcases e2 with e2 | e2 <;> rw [e2]; exact b3 x, b4, b5, b6, b7, b8, b9, b10, b11, fun x => by rw [e3]; exact b12 x, b13, b14, b15, b16, fun x => by rw [e1]; exact b17 x⟩
  cases ph
  all_goals
    simp only [mvC] at hm
    (repeat' (split at hm))
    all_goals simp only [List.mem_cons, List.mem_singleton, List.not_mem_nil, or_false, Prod.mk.injEq] at hm
    all_goals
      obtain ⟨rfl, rfl⟩ := hm
      simp only [waits, through, pend, closed, spawning] at *
      refine ⟨i1, i2, i3, wk _ rfl (by simp) rfl, i5, i6, i7, i8, i9, i10, i11, i12, ?_, ?_, ?_, ?_, ?_, ?_, ?_, ?_, ?_, ?_, ?_, i24⟩ <;> simp [waits, through, pend, closed, spawning] at * <;> (try omega) <;> (try assumption) <;> (try simp_all) <;> omega
end
end Go.Proofs.YthjofgmiabcifabGreatDoor.Ab
namespace Go.Proofs.YthjofgmiabcifabGreatDoor.Ab
open Go.ConcN (sumTo upd upd_same upd_ne sumTo_upd sumTo_congr le_sumTo sumTo_le sumTo_upd_out)
section
variable {n j : Nat} {D : Nat → TD} {C C' : CD} {s s' : Sh} {k : Nat} {T' : TD}
theorem sum_push (T : TD) (f : TD → Nat) : Sum (j + 1) (upd D j T) f = Sum j D f + f T := by
  show sumTo j _ + f (upd D j T j) = _
  rw [upd_same]
  congr 1
  exact sumTo_congr fun i hi => by rw [upd_ne _ _ (by omega)]
theorem sum_zero {f : TD → Nat} (h : ∀ k, k < j → f (D k) = 0) : Sum j D f = 0 := by
  have := sumTo_le (f := fun k => f (D k)) (c := 0) (j := j) fun i hi => by rw [h i hi]; exact Nat.le_refl _
  simp only [Nat.zero_mul] at this
  exact Nat.le_zero.1 this
/-- A go STATEMENT. -/
def spawned (n j : Nat) : CD := { ph := if j + 1 < n then .ga else .gl }
theorem AInv.spawn (h : AInv n j D C s) (hc : C.ph = .gg) : AInv n (j + 1) (upd D j { ph := .ldN }) (spawned n j) s := by
  have u := fun f => sum_push (j := j) (D := D) { ph := Ph.ldN } f
  obtain ⟨i1, i2, i3, i4, i5, i6, i7, i8, i9, i10, i11, i12, i13, i14, i15, i16, i17, i18, i19, i20, i21, i22, i23, i24⟩ := h
  have hj := i17
  simp only [hc, spawning, true_implies] at hj
  have hs : s.sent = 0 := i14 (.inl (by rw [hc]; rfl))
  refine ⟨i1, i2, hj, fun i hi => ?_, ?_, ?_, ?_, ?_, ?_, ?_, ?_, i12, ?_, ?_, ?_, ?_, ?_, ?_, ?_, ?_, ?_, ?_, ?_, i24⟩
  · by_cases e : i = j
    · subst e
      rw [upd_same]
      constructor <;> simp [holds, past, leaving, inLoop]
    · rw [upd_ne _ _ e]
      exact i4 i (by omega)
  all_goals (try simp only [u])
  all_goals (try simp only [fN, fE1, fE2, fE3, fQ, fU, fK, fA, fX, fV, f23, f4, fI, Ab.holds, inLoop, Bool.false_and, Bool.false_eq_true, if_false, Nat.add_zero])
  all_goals (try unfold spawned)
  all_goals (try assumption)
  all_goals by_cases hjn : j + 1 < n <;> simp [hjn, waits, through, pend, closed, spawning, hs] <;> simp [hc, waits, through, pend, closed, spawning] at * <;> (try omega)
  all_goals (first | assumption | omega | exact ⟨by omega, by omega⟩)
/-- AN ITEM IS HANDED OVER. -/
def fed (n : Nat) (s : Sh) : CD := { ph := if s.sent + 1 < n then .sd else .cl }
theorem AInv.pass (h : AInv n j D C s) (hc : C.ph = .sd) (hk : k < j) (hr : (D k).ph = .rcv) : AInv n j (upd D k { D k with ph := .ld1, item := s.sent }) (fed n s) { s with sent := s.sent + 1 } := by
  have u := fun f => sum_upd hk D { D k with ph := Ph.ld1, item := s.sent } f
  obtain ⟨i1, i2, i3, i4, i5, i6, i7, i8, i9, i10, i11, i12, i13, i14, i15, i16, i17, i18, i19, i20, i21, i22, i23, i24⟩ := h
  have hs := i13 hc
  have e : ∀ f : TD → Nat, f { D k with ph := Ph.ld1, item := s.sent } = f (D k) → Sum j (upd D k { D k with ph := Ph.ld1, item := s.sent }) f = Sum j D f := fun f hf => by have := u f; omega
  have eN := e fN (by simp [fN, hr])
  have e1 := e fE1 (by simp [fE1, hr])
  have e2 := e fE2 (by simp [fE2, hr])
  have e3 := e fE3 (by simp [fE3, hr])
  have eQ := e fQ (by simp [fQ, hr])
  have eU := e fU (by simp [fU, hr])
  have eK := e fK (by simp [fK, hr])
  have eA := e fA (by simp [fA, inLoop, hr])
  have eX := e fX (by simp [fX, hr])
  have eV := e fV (by simp [fV, hr])
  have e23 := e f23 (by simp [f23, hr])
  have e4 := e f4 (by simp [f4, hr])
  have hjn := i18 (by rw [hc]; rfl)
  refine ⟨i1, i2, i3, fun i hi => ?_, ?_, ?_, ?_, ?_, ?_, ?_, fun i hi => ?_, ?_, ?_, ?_, ?_, ?_, ?_, ?_, ?_, ?_, ?_, ?_, ?_, i24⟩
  · by_cases e : i = k
    · subst e
      rw [upd_same]
      have hw := i4 i hi
      have hit := hw.it
      have hre := hw.rest (by simp [hr]) (by simp [hr])
      constructor <;> simp [holds, past, leaving, inLoop, hs, hit, hre]
    · rw [upd_ne _ _ e]
      obtain ⟨b1, b2, b3, b4, b5, b6, b7, b8, b9, b10, b11, b12, b13, b14, b15, b16, b17⟩ := i4 i hi
      exact ⟨b1, b2, b3, b4, b5, b6, b7, b8, b9, b10, b11, b12, b13, b14, b15, b16, b17⟩
  all_goals (try simp only [eN, e1, e2, e3, eQ, eU, eK, eA, eX, eV, e23, e4])
  all_goals (try assumption)
  · have h1 := u (fI i)
    have h2 := i11 i hi
    have h3 : fI i (D k) = 0 := by simp [fI, hr, Ab.holds]
    have h4 : fI i { D k with ph := Ph.ld1, item := s.sent } = if s.sent = i then 1 else 0 := by simp [fI, Ab.holds]
    rw [h3, h4] at h1
    generalize Sum j (upd D k _) (fI i) = X at h1 ⊢
    show X + (if s.fill i = true then 1 else 0) = if i < s.sent + 1 then 1 else 0
    generalize (if s.fill i = true then 1 else 0) = Y at h2 ⊢
    by_cases e : s.sent = i
    · rw [if_pos e] at h1
      rw [if_neg (by omega)] at h2
      rw [if_pos (by omega)]
      omega
    · rw [if_neg e] at h1
      by_cases hl : i < s.sent
      · rw [if_pos hl] at h2
        rw [if_pos (by omega)]
        omega
      · rw [if_neg hl] at h2
        rw [if_neg (by omega)]
        omega
  all_goals (try unfold fed)
  all_goals by_cases hx : s.sent + 1 < n <;> simp [hx, waits, through, pend, closed, spawning] <;> simp [hc, waits, through, pend, closed, spawning] at * <;> (try omega)
  all_goals (first | assumption | omega)
/-- AN ORDER IS DRAWN. -/
theorem AInv.draw (h : AInv n j D C s) (hk : k < j) (hr : (D k).ph = .dr2) {r : List Nat} (h7 : r.getLast? = some 7) : AInv n j (upd D k { D k with ph := .rg, rest := r }) C s := by
  have u := fun f => sum_upd hk D { D k with ph := Ph.rg, rest := r } f
  obtain ⟨i1, i2, i3, i4, i5, i6, i7, i8, i9, i10, i11, i12, i13, i14, i15, i16, i17, i18, i19, i20, i21, i22, i23, i24⟩ := h
  have e : ∀ f : TD → Nat, f { D k with ph := Ph.rg, rest := r } = f (D k) → Sum j (upd D k { D k with ph := Ph.rg, rest := r }) f = Sum j D f := fun f hf => by have := u f; omega
  have eN := e fN (by simp [fN, hr])
  have e1 := e fE1 (by simp [fE1, hr])
  have e2 := e fE2 (by simp [fE2, hr])
  have e3 := e fE3 (by simp [fE3, hr])
  have eQ := e fQ (by simp [fQ, hr])
  have eU := e fU (by simp [fU, hr])
  have eK := e fK (by simp [fK, hr])
  have eA := e fA (by simp [fA, inLoop, hr])
  have eX := e fX (by simp [fX, hr])
  have eV := e fV (by simp [fV, hr])
  have e23 := e f23 (by simp [f23, hr])
  have e4 := e f4 (by simp [f4, hr])
  have eI := fun i => e (fI i) (by simp [fI, hr, Ab.holds])
  refine ⟨i1, i2, i3, fun i hi => ?_, ?_, ?_, ?_, ?_, ?_, ?_, fun i hi => ?_, i12, i13, i14, i15, i16, i17, i18, ?_, ?_, ?_, ?_, i23, i24⟩
  · by_cases e : i = k
    · subst e
      rw [upd_same]
      have hw := i4 i hi
      have hp := hw.past (by rw [hr]; rfl)
      have hit := hw.it
      have him := hw.item (by rw [hr]; rfl)
      constructor <;> simp [holds, past, leaving, inLoop, hp, hit, him, h7]
    · rw [upd_ne _ _ e]; exact i4 i hi
  all_goals (try simp only [eN, e1, e2, e3, eQ, eU, eK, eA, eX, eV, e23, e4, eI])
  all_goals first | assumption | exact i11 _ ‹_›
/-- The start. -/
theorem AInv.init (n : Nat) (h1 : 1 ≤ n) (h16 : n ≤ 16) (D : Nat → TD) : AInv n 0 D { ph := .ga } ⟨false, .zero, 0, false, 0, 0, false, fun _ => false, 0, 0, 0⟩ := by
  constructor <;> simp [sumTo, waits, through, pend, closed, spawning, MW.zero, h1, h16] <;> omega
/-- NOBODY CAN BE STUCK. -/
theorem AInv.goes (h : AInv n j D C s) (hw : ∀ k, k < j → ((D k).ph = .s1 ∧ s.ms = 0) ∨ ((D k).ph = .rcv ∧ s.shut = false) ∨ (D k).ph = .quit)
    (hc : (C.ph = .sd ∧ ∀ k, k < j → (D k).ph ≠ .rcv) ∨ (C.ph = .w3 ∧ s.wm = 0)) : False := by
  have z : ∀ f : TD → Nat, (∀ T : TD, T.ph = .s1 ∨ T.ph = .rcv ∨ T.ph = .quit → f T = 0) → Sum j D f = 0 := fun f hf => sum_zero fun k hk => hf _ (by rcases hw k hk with ⟨e, _⟩ | ⟨e, _⟩ | e <;> simp [e])
  have zN := z fN fun T hT => by rcases hT with e | e | e <;> simp [fN, e]
  have z1 := z fE1 fun T hT => by rcases hT with e | e | e <;> simp [fE1, e]
  have z2 := z fE2 fun T hT => by rcases hT with e | e | e <;> simp [fE2, e]
  have z3 := z fE3 fun T hT => by rcases hT with e | e | e <;> simp [fE3, e]
  have zU := z fU fun T hT => by rcases hT with e | e | e <;> simp [fU, e]
  have zK := z fK fun T hT => by rcases hT with e | e | e <;> simp [fK, e]
  have zA := z fA fun T hT => by rcases hT with e | e | e <;> simp [fA, inLoop, e]
  have zX := z fX fun T hT => by rcases hT with e | e | e <;> simp [fX, e]
  have z23 := z f23 fun T hT => by rcases hT with e | e | e <;> simp [f23, e]
  have z4 := z f4 fun T hT => by rcases hT with e | e | e <;> simp [f4, e]
  have key : ∀ k, k < j → (D k).ph = .s1 → False := by
    intro k hk e
    have hms : s.ms = 0 := by
      rcases hw k hk with ⟨_, h1⟩ | ⟨h1, _⟩ | h1
      · exact h1
      · rw [e] at h1; cases h1
      · rw [e] at h1; cases h1
    have hQ := le_sum hk D fQ
    simp only [fQ, e] at hQ
    have hl := h.lock
    have hL : s.mu.L = false := by
      cases hL : s.mu.L with
      | false => rfl
      | true => rw [hL] at hl; simp at hl; omega
    cases hS : s.mu.S with
    | true =>
      have := (h.starve hS).2.2.1
      rw [hL] at this
      simp at this
      omega
    | false =>
      obtain ⟨a1, a2⟩ := h.free hS
      have hK : s.mu.K = false := by
        cases hK : s.mu.K with
        | false => rfl
        | true => rw [hK] at a1; simp at a1; omega
      have := h.fix hS hL hK (by omega)
      omega
  rcases hc with ⟨e, hn⟩ | ⟨e, hn⟩
  · have hj := h.all (by rw [e]; rfl)
    have hn1 := h.n1
    have h0 : 0 < j := by omega
    rcases hw 0 h0 with ⟨e0, _⟩ | ⟨e0, _⟩ | e0
    · exact key 0 h0 e0
    · exact hn 0 h0 e0
    · have := (h.wk 0 h0).leaving (by rw [e0]; rfl)
      rw [h.shut, e] at this
      cases this
  · have hb := h.busy (by rw [e]; rfl)
    have hs : s.shut = true := by rw [h.shut, e]; rfl
    have hV : Sum j D fV = 0 := sum_zero fun k hk => by
      rcases hw k hk with ⟨e0, _⟩ | ⟨e0, h1⟩ | e0
      · exact (key k hk e0).elim
      · rw [hs] at h1; cases h1
      · simp [fV, e0]
    have := (hb.2 hV).1
    omega
/-- AT THE END: all have left; all places are filled; the work was done once. -/
theorem AInv.fin (h : AInv n j D C s) (hc : C.ph = .fin) : j = n ∧ (∀ k, k < j → (D k).ph = .quit) ∧ (∀ i, i < n → s.fill i = true) ∧ s.done = true ∧ s.pts = true ∧ s.made = 1 := by
  have hj := h.all (by rw [hc]; rfl)
  have hV := h.thr (by rw [hc]; rfl)
  obtain ⟨_, _, h2, h4⟩ := h.quiet (by rw [hc]; rfl)
  have hq : ∀ k, k < j → (D k).ph = .quit := fun k hk => by
    have a1 := le_sum hk D fV
    have a2 := le_sum hk D f23
    have a3 := le_sum hk D f4
    revert a1 a2 a3
    cases e : (D k).ph <;> simp [fV, f23, f4, e] <;> omega
  have hf : ∀ i, i < n → s.fill i = true := fun i hi => by
    have h1 := h.items i hi
    have h2 : Sum j D (fI i) = 0 := sum_zero fun k hk => by simp [fI, hq k hk, Ab.holds]
    have h3 := h.feedn (.inr (by rw [hc]; rfl))
    rw [h2, h3] at h1
    cases hfi : s.fill i with
    | true => rfl
    | false => rw [hfi] at h1; simp [hi] at h1
  have hd := h.filled 0 (hf 0 (by have := h.n1; omega))
  have ho := h.once1 hd
  exact ⟨hj, hq, hf, hd, ho.2.2.2.1, ho.2.2.2.2⟩
end
end Go.Proofs.YthjofgmiabcifabGreatDoor.Ab
namespace Go.Proofs.YthjofgmiabcifabGreatDoor.Ab
open Go.ConcN (sumTo upd upd_same upd_ne sumTo_upd sumTo_congr le_sumTo sumTo_le sumTo_upd_out)
def rank (T : TD) : Nat :=
  match T.ph with
  | .quit => 0 | .d4 => 2 | .d3 => 3 | .d2 => 4 | .d1 => 5 | .wk => 6 | .wr => 7 | .rcv => 8 | .ldF => 9 | .ldN => 10
  | .rg => 8 + 2 * T.rest.length
  | .cn => 7 + 2 * T.rest.length
  | .dr2 => 30 | .ldP => 31 | .ue => 32 | .us => 38 | .uc | .ux => 39 | .u0 => 40 | .ud => 41 | .ur => 42 | .uL => 43
  | .stD => 44 | .drS => 45 | .am => 46 | .stP => 47 | .mk => 48 | .ldS => 49 | .ld2 => 50 | .la => 51 | .le => 52
  | .s1 => 51 | .t1 => 52 | .a1 => 53 | .r2 => 54 | .t2 => 55
  | .sq | .c1 | .r1 | .c2 | .r3 => if T.aw then 53 else 60
  | .r0 => 61 | .l0 => 62 | .kd => 63 | .ld1 => 64
def stale (T : TD) (m : MW) : Nat := if T.old = m then 0 else 200
def lam (T : TD) (m : MW) : Nat :=
  match T.ph with
  | .sq => 10 * (4 - T.it) + 5 + stale T m
  | .c1 => 10 * (4 - T.it) + 4 + stale T m
  | .r1 => 10 * (4 - T.it) + 3
  | .c2 | .uc => if T.old = m then 0 else 100
  | .r3 => 99
  | .ux => 50
  | _ => 0
def rankC (C : CD) : Nat :=
  match C.ph with
  | .fin => 0 | .aq => 1 | .ke => 2 | .w4 => 3 | .w3 => 4 | .ww => 5 | .w1 | .w2 => 6 | .kw => 7 | .cl => 8 | .sd => 9 | .gl => 10 | .gg => 11 | .ge => 12 | .gr => 13 | .gb => 14 | .ga => 15
def lamC (C : CD) (v : Nat) : Nat :=
  match C.ph with
  | .w2 => if C.old = v then 0 else 100
  | .w1 => 50
  | _ => 0
def Phi (n j : Nat) (D : Nat → TD) (C : CD) (s : Sh) : Nat := Sum j D rank + rankC C + 5 * s.ms + s.wm + 60 * (n - s.sent) + 20 * (n - j)
def Lam (j : Nat) (D : Nat → TD) (C : CD) (s : Sh) : Nat := Sum j D (fun T => lam T s.mu) + lamC C s.wv
section
variable {n j : Nat} {D : Nat → TD} {C C' : CD} {s s' : Sh} {k : Nat} {T T' : TD}
theorem hd_rank (T : TD) : rank (hd T) = if T.aw then 53 else 60 := by rcases hd_cases T with ⟨e, _⟩ | ⟨e, _⟩ <;> rw [e] <;> rfl
theorem hdU_rank (T : TD) (m : MW) : rank (hdU T m) ≤ 39 := by rcases hdU_cases T m with ⟨e, _⟩ | ⟨e, _⟩ <;> rw [e] <;> simp [rank]
theorem hd_lam (T : TD) : lam (hd T) T.old ≤ 45 ∧ (T.it < 5 → lam (hd T) T.old ≤ 10 * (4 - T.it) + 5) := by
  rcases hd_cases T with ⟨e, _, _, e3⟩ | ⟨e, _⟩ <;> rw [e] <;> simp [lam, stale] <;> omega
set_option maxHeartbeats 4000000 in
theorem mv_falls (hw : WInv n T s) (hm : (T', s') ∈ mv T s) : rank T' + 5 * s'.ms + s'.wm < rank T + 5 * s.ms + s.wm ∨
    (rank T' = rank T ∧ s'.ms = s.ms ∧ s'.wm = s.wm ∧ s'.mu = s.mu ∧ s'.wv = s.wv ∧ lam T' s.mu < lam T s.mu) := by
  obtain ⟨ph, item, old, aw, sv, it, rest⟩ := T
  obtain ⟨done, mu, ms, pts, made, sent, shut, fill, wv, ww, wm⟩ := s
  have hit : it ≤ 4 := hw.it
  have hsq := hw.sq
  have hcn := hw.cn
  have hc1 := hw.c1
  clear hw
  cases ph
  case r0 =>
    simp only [mv, List.mem_singleton, Prod.mk.injEq] at hm
    obtain ⟨rfl, rfl⟩ := hm
    left
    simp only [hd_rank]
    simp [rank]
  case r1 =>
    have hsq : it < 4 := hsq (by simp)
    simp only [mv, List.mem_singleton, Prod.mk.injEq] at hm
    obtain ⟨rfl, rfl⟩ := hm
    right
    refine ⟨by simp only [hd_rank]; rfl, rfl, rfl, rfl, rfl, ?_⟩
    have := (hd_lam { ph := Ph.r1, item := item, old := mu, aw := aw, sv := sv, it := it + 1, rest := rest }).2 (by simp only; omega)
    simp only at this
    simp only [lam] at this ⊢
    omega
  case r3 =>
    simp only [mv, List.mem_singleton, Prod.mk.injEq] at hm
    obtain ⟨rfl, rfl⟩ := hm
    right
    refine ⟨by simp only [hd_rank]; rfl, rfl, rfl, rfl, rfl, ?_⟩
    have := (hd_lam { ph := Ph.r3, item := item, old := mu, aw := aw, sv := sv, it := it, rest := rest }).1
    simp only [lam] at this ⊢
    omega
  case r2 =>
    simp only [mv] at hm
    split at hm <;> simp only [List.mem_singleton, Prod.mk.injEq] at hm <;> obtain ⟨rfl, rfl⟩ := hm <;> left
    · simp [rank]
    · simp only [hd_rank]; simp [rank]
  case u0 =>
    simp only [mv] at hm
    split at hm <;> simp only [List.mem_singleton, Prod.mk.injEq] at hm <;> obtain ⟨rfl, rfl⟩ := hm <;> left
    · simp [rank]
    · have := hdU_rank { ph := Ph.u0, item := item, old := old, aw := aw, sv := sv, it := it, rest := rest } { mu with L := false }
      simp only [rank] at this ⊢
      omega
  case ux =>
    simp only [mv, List.mem_singleton, Prod.mk.injEq] at hm
    obtain ⟨rfl, rfl⟩ := hm
    rcases hdU_cases { ph := Ph.ux, item := item, old := old, aw := aw, sv := sv, it := it, rest := rest } mu with ⟨e, _⟩ | ⟨e, _⟩ <;> simp only [e]
    · left; simp [rank]
    · right; simp [rank, lam]
  case uc =>
    simp only [mv] at hm
    split at hm <;> rename_i h0 <;> simp only [List.mem_singleton, Prod.mk.injEq] at hm <;> obtain ⟨rfl, rfl⟩ := hm
    · left; simp [rank]
    · right
      have h0 : ¬ old = mu := fun e => h0 e.symm
      simp [rank, lam, h0]
  case c2 =>
    simp only [mv] at hm
    split at hm <;> rename_i h0
    · split at hm <;> simp only [List.mem_cons, List.mem_singleton, List.not_mem_nil, or_false, Prod.mk.injEq] at hm
      · rcases hm with ⟨rfl, rfl⟩ | ⟨rfl, rfl⟩ <;> left <;> simp only [rank] <;> split <;> omega
      · obtain ⟨rfl, rfl⟩ := hm
        left; simp only [rank]; split <;> omega
    · simp only [List.mem_singleton, Prod.mk.injEq] at hm
      obtain ⟨rfl, rfl⟩ := hm
      right
      have h0 : ¬ old = mu := fun e => h0 e.symm
      simp [rank, lam, h0]
  case c1 =>
    simp only [mv] at hm
    split at hm <;> rename_i h0 <;> simp only [List.mem_singleton, Prod.mk.injEq] at hm <;> obtain ⟨rfl, rfl⟩ := hm
    · have h1 : aw = false := (hc1 rfl).1
      left; simp [rank, h1]
    · right
      have h0 : ¬ old = mu := fun e => h0 e.symm
      simp [rank, lam, stale, h0]
  case sq =>
    have hsq : it < 4 := hsq (by simp)
    simp only [mv, List.mem_cons, List.not_mem_nil, or_false, Prod.mk.injEq] at hm
    rcases hm with ⟨rfl, rfl⟩ | ⟨rfl, rfl⟩ <;> right
    · simp only [rank, lam, stale]
      refine ⟨trivial, trivial, trivial, trivial, trivial, ?_⟩
      split <;> omega
    · split <;> simp only [rank, lam, stale] <;> refine ⟨trivial, trivial, trivial, trivial, trivial, ?_⟩ <;> omega
  case rg =>
    left
    cases rest with
    | nil => simp [mv] at hm
    | cons x r =>
      cases r with
      | nil =>
        simp only [mv, List.mem_singleton, Prod.mk.injEq] at hm
        obtain ⟨rfl, rfl⟩ := hm
        simp [rank]
      | cons y r =>
        simp only [mv] at hm
        split at hm
        · cases ‹x :: y :: r = []›
        · cases ‹x :: y :: r = [_]›
        all_goals
          rename_i he
          cases he
          simp only [List.mem_singleton, Prod.mk.injEq] at hm
          obtain ⟨rfl, rfl⟩ := hm
          simp [rank]
  case cn =>
    left
    simp only [mv, List.mem_singleton, Prod.mk.injEq] at hm
    obtain ⟨rfl, rfl⟩ := hm
    have := hcn rfl
    cases rest with
    | nil => simp at this
    | cons x r => simp [rank]; omega
  all_goals
    left
    simp only [mv] at hm
    (repeat' (split at hm))
    all_goals simp only [List.mem_cons, List.mem_singleton, List.not_mem_nil, or_false, Prod.mk.injEq] at hm
    all_goals first
      | (rcases hm with ⟨rfl, rfl⟩ | ⟨rfl, rfl⟩ <;> simp only [rank] <;> omega)
      | (obtain ⟨rfl, rfl⟩ := hm; simp only [rank] <;> omega)
      | (obtain ⟨rfl, rfl⟩ := hm; split <;> simp only [rank] <;> omega)
/-- Lower in the two first places. -/
def Low (n j : Nat) (D' : Nat → TD) (C' : CD) (s' : Sh) (j' : Nat) (D : Nat → TD) (C : CD) (s : Sh) : Prop :=
  Phi n j' D' C' s' < Phi n j D C s ∨ (Phi n j' D' C' s' = Phi n j D C s ∧ Lam j' D' C' s' < Lam j D C s)
theorem AInv.fallsW (h : AInv n j D C s) (hk : k < j) (hm : (T', s') ∈ mv (D k) s) : Low n j (upd D k T') C s' j D C s := by
  have hr := sum_upd hk D T' rank
  obtain ⟨_, e2⟩ := mv_shut hm
  rcases mv_falls (h.wk k hk) hm with h1 | ⟨h1, h2, h3, h4, h5, h6⟩
  · left
    unfold Phi
    rw [e2]
    omega
  · right
    unfold Phi Lam
    rw [e2, h2, h3, h4, h5]
    have hl := sum_upd hk D T' (fun T => lam T s.mu)
    omega
theorem AInv.fallsC (hm : (C', s') ∈ mvC C s) : Low n j D C' s' j D C s := by
  obtain ⟨ph, old⟩ := C
  obtain ⟨done, mu, ms, pts, made, sent, shut, fill, wv, ww, wm⟩ := s
  unfold Low Phi Lam
  cases ph
  case w1 =>
    simp only [mvC] at hm
    split at hm <;> simp only [List.mem_singleton, Prod.mk.injEq] at hm <;> obtain ⟨rfl, rfl⟩ := hm
    · left; simp [rankC]
    · right; simp [rankC, lamC]
  case w2 =>
    simp only [mvC] at hm
    split at hm <;> rename_i h0 <;> simp only [List.mem_singleton, Prod.mk.injEq] at hm <;> obtain ⟨rfl, rfl⟩ := hm
    · left; simp [rankC]
    · right
      have h0 : ¬ old = wv := fun e => h0 e.symm
      simp [rankC, lamC, h0]
  all_goals
    left
    simp only [mvC] at hm
    (repeat' (split at hm))
    all_goals simp only [List.mem_cons, List.mem_singleton, List.not_mem_nil, or_false, Prod.mk.injEq] at hm
    all_goals
      obtain ⟨rfl, rfl⟩ := hm
      simp only [rankC]
      omega
theorem AInv.fallsSpawn (h : AInv n j D C s) (hc : C.ph = .gg) : Low n j (upd D j { ph := .ldN }) (spawned n j) s (j + 1) D C s := by
  left
  have hj := h.more (by rw [hc]; rfl)
  have u := sum_push (j := j) (D := D) { ph := Ph.ldN } rank
  have e1 : rank { ph := Ph.ldN } = 10 := rfl
  have e2 : rankC C = 11 := by simp [rankC, hc]
  have e3 : rankC (spawned n j) ≤ 15 := by unfold spawned; by_cases hx : j + 1 < n <;> simp [rankC, hx]
  unfold Phi
  omega
theorem AInv.fallsPass (h : AInv n j D C s) (hc : C.ph = .sd) (hk : k < j) (hr : (D k).ph = .rcv) : Low n j (upd D k { D k with ph := .ld1, item := s.sent }) (fed n s) { s with sent := s.sent + 1 } j D C s := by
  left
  have hs := h.feed hc
  have u := sum_upd hk D { D k with ph := Ph.ld1, item := s.sent } rank
  have e1 : rank { D k with ph := Ph.ld1, item := s.sent } = 64 := rfl
  have e2 : rank (D k) = 8 := by simp [rank, hr]
  have e3 : rankC C = 9 := by simp [rankC, hc]
  have e4 : rankC (fed n s) ≤ 9 := by unfold fed; by_cases hx : s.sent + 1 < n <;> simp [rankC, hx]
  unfold Phi
  rw [e1, e2] at u
  generalize Sum j (upd D k _) rank = X at u ⊢
  simp only
  omega
theorem AInv.fallsDraw (h : AInv n j D C s) (hk : k < j) (hr : (D k).ph = .dr2) {r : List Nat} (h8 : r.length ≤ 8) : Low n j (upd D k { D k with ph := .rg, rest := r }) C s j D C s := by
  left
  have u := sum_upd hk D { D k with ph := Ph.rg, rest := r } rank
  have e1 : rank { D k with ph := Ph.rg, rest := r } = 8 + 2 * r.length := rfl
  have e2 : rank (D k) = 30 := by simp [rank, hr]
  unfold Phi
  rw [e1, e2] at u
  generalize Sum j (upd D k _) rank = X at u ⊢
  omega
end
end Go.Proofs.YthjofgmiabcifabGreatDoor.Ab
