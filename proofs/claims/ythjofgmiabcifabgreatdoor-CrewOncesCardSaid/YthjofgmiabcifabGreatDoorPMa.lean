/-
  The machine: the crowd and its measure.
  Conditions: as each theorem says.
-/
import Derived.Test.YthjofgmiabcifabGreatDoorPMe
import Derived.Test.YthjofgmiabcifabGreatDoorPTr
import Derived.Test.YthjofgmiabcifabGreatDoorPLd
import Derived.Conc.CrowdComm
set_option linter.unusedVariables false
set_option linter.unusedSimpArgs false
namespace Go.Proofs.YthjofgmiabcifabGreatDoor.Ma
open Go Go.Conc
open Go.ConcN (PermW upd upd_same upd_ne)
open Go.ConcR (g_of_ofEvents ofEvent_cell ofEvent_loc_mark)
open Go.Proofs.YthjofgmiabcifabGreatDoor.Ev Go.Proofs.YthjofgmiabcifabGreatDoor.Co Go.Proofs.YthjofgmiabcifabGreatDoor.Ab Go.Proofs.YthjofgmiabcifabGreatDoor.Mc Go.Proofs.YthjofgmiabcifabGreatDoor.Tr
/-- The families of places. -/
def fam (x : Cx) (B : Nat) : Fam where
  Sh := fun l => (∃ a, l = .cell a ∧ (a.block = x.On ∨ a.block = x.Md ∨ a.block = x.Wg)) ∨ l = .obj x.Ch
  Od := fun l => (∃ a, l = .cell a ∧ a.block < B ∧ ¬ Turned x a.block) ∨ ∃ r, l = .obj r ∧ r < B ∧ r ≠ x.Ch
  Mk := fun l => (∃ a, l = .cell a ∧ (a.block = x.Pa ∨ B ≤ a.block)) ∨ ∃ r, l = .obj r ∧ B ≤ r
  Pl := fun i => .cell ⟨x.Oa, i, none⟩
  Dn := ⟨x.On, 0, none⟩
/-- The group's first cell. -/
abbrev wa (x : Cx) : Addr := ⟨x.Wg, 0, none⟩
theorem fam_ok {x : Cx} {B : Nat} (hD : Dist x B) : (fam x B).Ok := by
  obtain ⟨d1, d2, d3, d4, d5, d6, d7, d8, d9, d10⟩ := hD
  refine ⟨?_, ?_, ?_, ?_, ?_, ?_, ?_, .inl ⟨_, rfl, .inl rfl⟩⟩
  · rintro l (⟨a, rfl, h1, h2⟩ | ⟨r, rfl, h1, h2⟩) (⟨b, e, h3⟩ | e)
    · cases e
      rcases h3 with h3 | h3 | h3
      · exact h2 (.inl h3)
      · exact h2 (.inr (.inr (.inl h3)))
      · exact h2 (.inr (.inr (.inr (.inr (.inr h3)))))
    · cases e
    · cases e
    · cases e; exact h2 rfl
  · rintro l (⟨a, rfl, h1⟩ | ⟨r, rfl, h1⟩) (⟨b, e, h3⟩ | e)
    · cases e
      omega
    · cases e
    · cases e
    · cases e; omega
  · rintro i (⟨b, e, h3⟩ | e)
    · cases e
      simp only at h3
      omega
    · cases e
  · rintro l (⟨a, rfl, h1, h2⟩ | ⟨r, rfl, h1, h2⟩) (⟨b, e, h3⟩ | ⟨b, e, h3⟩)
    · cases e
      rcases h3 with h3 | h3
      · exact h2 (.inr (.inl h3))
      · omega
    · cases e
    · cases e
    · cases e; omega
  · rintro i (⟨a, e, h1, h2⟩ | ⟨r, e, _⟩)
    · cases e
      exact h2 (.inr (.inr (.inr (.inl rfl))))
    · cases e
  · rintro i (⟨a, e, h1⟩ | ⟨r, e, _⟩)
    · cases e
      simp only at h1
      omega
    · cases e
  · intro i i' e
    have : (Loc.cell ⟨x.Oa, i, none⟩) = .cell ⟨x.Oa, i', none⟩ := e
    simpa using this
/-- How often it is deaf. -/
def dW (p : Ph) : Nat := match p with | .l0 | .r0 | .sq | .c1 | .r1 | .c2 | .r3 | .t1 | .s1 | .t2 | .r2 | .a1 | .le | .u0 | .uc | .ux | .us | .ue | .d1 | .d2 | .d3 | .d4 | .quit => 1 | _ => 0
def dC (p : Pc) : Nat := match p with | .gb | .gr | .ge | .w1 | .w2 | .ww | .w3 | .w4 | .ke => 1 | _ => 0
section
variable {x : Cx} {n B j : Nat} {k : Parts} {T T' : TD} {s s' : Sh} {C C' : CD}
theorem hd_ph (T : TD) : (hd T).ph = .sq ∨ (hd T).ph = .c2 := by rcases hd_cases T with ⟨e, _⟩ | ⟨e, _⟩ <;> rw [e] <;> simp
theorem hdU_ph (T : TD) (m : MW) : (hdU T m).ph = .ue ∨ (hdU T m).ph = .uc := by rcases hdU_cases T m with ⟨e, _⟩ | ⟨e, _⟩ <;> rw [e] <;> simp
/-- How deaf it is behind its step. -/
theorem deaf_mv (hm : (T', s') ∈ mv T s) : deafBehind (dW T.ph) (esW x k T s) = dW T'.ph := by
  obtain ⟨ph, item, old, aw, sv, it, rest⟩ := T
  cases ph
  case r0 | r1 | r3 =>
    simp only [mv, List.mem_singleton, Prod.mk.injEq] at hm
    obtain ⟨rfl, rfl⟩ := hm
    rcases hd_ph _ with e | e <;> rw [e] <;> rfl
  case r2 =>
    simp only [mv] at hm
    split at hm <;> simp only [List.mem_singleton, Prod.mk.injEq] at hm <;> obtain ⟨rfl, rfl⟩ := hm
    · rfl
    · rcases hd_ph _ with e | e <;> rw [e] <;> rfl
  case u0 =>
    simp only [mv] at hm
    split at hm <;> simp only [List.mem_singleton, Prod.mk.injEq] at hm <;> obtain ⟨rfl, rfl⟩ := hm
    · rfl
    · rcases hdU_ph _ _ with e | e <;> rw [e] <;> rfl
  case ux =>
    simp only [mv, List.mem_singleton, Prod.mk.injEq] at hm
    obtain ⟨rfl, rfl⟩ := hm
    rcases hdU_ph _ _ with e | e <;> rw [e] <;> rfl
  case rg =>
    cases rest with
    | nil => simp [mv] at hm
    | cons c r =>
      have hn : ∀ d, deafBehind d (esW x k ⟨.rg, item, old, aw, sv, it, c :: r⟩ s) = d := by
        intro d
        simp only [esW]
        split <;> rfl
      rw [hn]
      cases r with
      | nil =>
        simp only [mv, List.mem_singleton, Prod.mk.injEq] at hm
        obtain ⟨rfl, rfl⟩ := hm
        rfl
      | cons y r =>
        simp only [mv] at hm
        split at hm
        · cases ‹c :: y :: r = []›
        · cases ‹c :: y :: r = [_]›
        all_goals
          simp only [List.mem_singleton, Prod.mk.injEq] at hm
          obtain ⟨rfl, rfl⟩ := hm
          rfl
  case l0 | c1 | uc =>
    simp only [mv] at hm
    split at hm <;> rename_i h0 <;> simp only [List.mem_singleton, Prod.mk.injEq] at hm <;> obtain ⟨rfl, rfl⟩ := hm <;> simp only [esW, h0, if_true, if_false] <;> rfl
  case c2 =>
    simp only [mv] at hm
    split at hm <;> rename_i h0
    · simp only [esW, h0, if_true]
      split at hm <;> simp only [List.mem_cons, List.mem_singleton, List.not_mem_nil, or_false, Prod.mk.injEq] at hm
      · rcases hm with ⟨rfl, rfl⟩ | ⟨rfl, rfl⟩ <;> rfl
      · obtain ⟨rfl, rfl⟩ := hm; rfl
    · simp only [List.mem_singleton, Prod.mk.injEq] at hm
      obtain ⟨rfl, rfl⟩ := hm
      simp only [esW, h0, if_false]
      rfl
  all_goals
    simp only [mv] at hm
    (repeat' (split at hm))
    all_goals simp only [List.mem_cons, List.mem_singleton, List.not_mem_nil, or_false, Prod.mk.injEq] at hm
    all_goals first
      | (rcases hm with ⟨rfl, rfl⟩ | ⟨rfl, rfl⟩ <;> rfl)
      | (obtain ⟨rfl, rfl⟩ := hm; rfl)
      | (rcases hm with ⟨rfl, rfl⟩ | ⟨rfl, rfl⟩ <;> (try split) <;> rfl)
theorem deaf_mvC (hm : (C', s') ∈ mvC C s) : deafBehind (dC C.ph) (esC x C s) = dC C'.ph := by
  obtain ⟨ph, old⟩ := C
  cases ph
  case w2 =>
    simp only [mvC] at hm
    split at hm <;> rename_i h0 <;> simp only [List.mem_singleton, Prod.mk.injEq] at hm <;> obtain ⟨rfl, rfl⟩ := hm <;> simp only [esC, h0, if_true, if_false] <;> rfl
  all_goals
    simp only [mvC] at hm
    (repeat' (split at hm))
    all_goals simp only [List.mem_cons, List.mem_singleton, List.not_mem_nil, or_false, Prod.mk.injEq] at hm
    all_goals (obtain ⟨rfl, rfl⟩ := hm; rfl)
/-- What a worker's step lists: a mark that is no release, an atomic access to a shared cell, or a plain one to a place of its own phase. -/
inductive Lst (x : Cx) (k : Parts) (T : TD) : Event → Prop
  | mark (m : Mark) : m = .disable ∨ m = .enable ∨ (∃ a, m = .acquire a) ∨ (∃ a, m = .releaseMerge a) → Lst x k T (mkE m)
  | sh (a : Addr) (wr : Bool) : (a.block = x.On ∨ a.block = x.Md ∨ a.block = x.Wg) → (wr = true → a = ⟨x.On, 0, none⟩ → T.ph = .stD) → Lst x k T ⟨.cell a, wr, true⟩
  | od (b : Nat) : b = x.Nb ∨ b = x.Fb ∨ b = x.Ob ∨ b = x.Sb → Lst x k T ⟨.cell ⟨b, 0, none⟩, false, false⟩
  | pa : past T.ph = true → Lst x k T ⟨.cell ⟨x.Pa, 0, none⟩, false, false⟩
  | pk : past T.ph = true → Lst x k T ⟨.cell k.pa, false, false⟩
  | st : T.ph = .stP → Lst x k T ⟨.cell ⟨x.Pa, 0, none⟩, true, false⟩
  | pl : T.ph = .rg → T.rest.head? = some 7 → Lst x k T ⟨.cell ⟨x.Oa, T.item, none⟩, true, false⟩
theorem lst_es (hD : Dist x B) : ∀ e ∈ esW x k T s, Lst x k T e := by
  intro e he
  have n1 : x.Md ≠ x.On := by have := hD.d2; have := hD.d3; omega
  have n2 : x.Wg ≠ x.On := by obtain ⟨d1, d2, d3, d4, d5, d6, d7, d8, d9, d10⟩ := hD; omega
  obtain ⟨ph, item, old, aw, sv, it, rest⟩ := T
  have rA : ∀ b o, (b = x.On ∨ b = x.Md ∨ b = x.Wg) → Lst x k ⟨ph, item, old, aw, sv, it, rest⟩ (rdA b o) := fun b o h => .sh _ false h fun e => by cases e
  have wA : ∀ b o, (b = x.On ∨ b = x.Md ∨ b = x.Wg) → ((⟨b, o, none⟩ : Addr) = ⟨x.On, 0, none⟩ → ph = .stD) → Lst x k ⟨ph, item, old, aw, sv, it, rest⟩ (wrA b o) := fun b o h h2 => .sh _ true h fun _ => h2
  cases ph <;> simp only [esW] at he
  case rg =>
    split at he <;> simp only [List.mem_toArray, List.mem_cons, List.not_mem_nil, or_false] at he
    · subst he; exact .od _ (.inr (.inr (.inl rfl)))
    · subst he; exact .pa rfl
    · subst he; exact .pk rfl
    · subst he; exact .pl rfl rfl
  all_goals (try (split at he))
  all_goals simp only [List.mem_toArray, List.mem_cons, List.not_mem_nil, or_false] at he
  all_goals first
    | (exact he.elim)
    | (subst he; first | exact .mark _ (by simp) | exact .od _ (by simp) | exact .pa rfl | exact .st rfl | exact rA _ _ (by simp) | exact wA _ _ (by simp) (by simp [n1, n2]))
    | (rcases he with rfl | rfl <;> first | exact rA _ _ (by simp) | exact wA _ _ (by simp) (by simp [n1, n2]))
    | (rcases he with rfl | rfl | rfl | rfl <;> first | exact .mark _ (by simp) | exact rA _ _ (by simp) | exact wA _ _ (by simp) (by simp [n1, n2]))
end
end Go.Proofs.YthjofgmiabcifabGreatDoor.Ma
namespace Go.Proofs.YthjofgmiabcifabGreatDoor.Ma
open Go Go.Conc
open Go.ConcN (PermW upd upd_same upd_ne)
open Go.ConcR (g_of_ofEvents ofEvent_cell ofEvent_loc_mark)
open Go.Proofs.YthjofgmiabcifabGreatDoor.Ev Go.Proofs.YthjofgmiabcifabGreatDoor.Co Go.Proofs.YthjofgmiabcifabGreatDoor.Ab Go.Proofs.YthjofgmiabcifabGreatDoor.Mc Go.Proofs.YthjofgmiabcifabGreatDoor.Tr
section
variable {x : Cx} {n B j i : Nat} {k : Parts} {T' : TD} {s s' : Sh} {C C' : CD} {D : Nat → TD} {t : Trace} {dw : Nat → Nat} {d0 : Nat}
theorem isE_fE (T : TD) : isE T.ph = true ↔ fE T = 1 := by unfold isE fE fE1 fE2 fE3; cases T.ph <;> simp
theorem uniqE (h : AInv n j D C s) : ∀ k k', k < j → k' < j → isE (D k).ph = true → isE (D k').ph = true → k = k' := by
  intro k k' hk hk' h1 h2
  rcases Decidable.em (k = k') with e | e
  · exact e
  · have := le_sum2 hk hk' e D fE
    rw [sum_fE, (isE_fE _).1 h1, (isE_fE _).1 h2] at this
    have := h.lock1
    omega
theorem noE_of_lock (h : AInv n j D C s) {i : Nat} (hi : i < j) (hN : fN (D i) = 1) : ∀ k, k < j → isE (D k).ph = false := by
  intro k hk
  cases he : isE (D k).ph with
  | false => rfl
  | true =>
    have h1 := le_sum hi D fN
    have h2 := le_sum hk D fE
    rw [sum_fE, (isE_fE _).1 he] at h2
    have := h.lock1
    omega
theorem mv_fill_mono {T : TD} (hm : (T', s') ∈ mv T s) : ∀ i, s'.fill i = false → s.fill i = false := by
  intro i hi
  obtain ⟨ph, item, old, aw, sv, it, rest⟩ := T
  cases ph
  case rg =>
    cases rest with
    | nil => simp [mv] at hm
    | cons c r =>
      cases r with
      | nil =>
        simp only [mv, List.mem_singleton, Prod.mk.injEq] at hm
        obtain ⟨rfl, rfl⟩ := hm
        simp only at hi
        split at hi
        · cases hi
        · exact hi
      | cons y r =>
        simp only [mv] at hm
        split at hm
        · cases ‹c :: y :: r = []›
        · cases ‹c :: y :: r = [_]›
        all_goals
          simp only [List.mem_singleton, Prod.mk.injEq] at hm
          obtain ⟨rfl, rfl⟩ := hm
          exact hi
  all_goals
    simp only [mv] at hm
    (repeat' (split at hm))
    all_goals simp only [List.mem_cons, List.mem_singleton, List.not_mem_nil, or_false, Prod.mk.injEq] at hm
    all_goals first
      | (rcases hm with ⟨rfl, rfl⟩ | ⟨rfl, rfl⟩ <;> exact hi)
      | (obtain ⟨rfl, rfl⟩ := hm; exact hi)
/-- How the phases go on. -/
theorem mv_E {T : TD} (hm : (T', s') ∈ mv T s) : (isE T'.ph = true → isE T.ph = true ∨ fN T = 1) ∧ (isE T.ph = true → T.ph ≠ .stD → isE T'.ph = true) ∧
    (past T'.ph = true → T.ph ≠ .stD → past T.ph = true ∨ (T.ph = .ld1 ∧ s.done = true) ∨ (T.ph = .ld2 ∧ s.done = true)) ∧ (relP T'.ph = true → relP T.ph = true ∨ T.ph = .wr) := by
  obtain ⟨ph, item, old, aw, sv, it, rest⟩ := T
  have nope : ∀ {p : Ph}, (p = .sq ∨ p = .c2) → isE p = false ∧ past p = false ∧ relP p = false := by
    intro p hp; rcases hp with rfl | rfl <;> exact ⟨rfl, rfl, rfl⟩
  have nopeU : ∀ {p : Ph}, (p = .ue ∨ p = .uc) → isE p = false ∧ relP p = false := by
    intro p hp; rcases hp with rfl | rfl <;> exact ⟨rfl, rfl⟩
  cases ph
  case r0 | r1 | r3 =>
    simp only [mv, List.mem_singleton, Prod.mk.injEq] at hm
    obtain ⟨rfl, rfl⟩ := hm
    obtain ⟨a, b, c⟩ := nope (hd_ph _)
    rw [a, b, c]
    simp [isE]
  case r2 =>
    simp only [mv] at hm
    split at hm <;> simp only [List.mem_singleton, Prod.mk.injEq] at hm <;> obtain ⟨rfl, rfl⟩ := hm
    · simp [isE, past, relP]
    · obtain ⟨a, b, c⟩ := nope (hd_ph _)
      rw [a, b, c]
      simp [isE]
  case u0 =>
    simp only [mv] at hm
    split at hm <;> simp only [List.mem_singleton, Prod.mk.injEq] at hm <;> obtain ⟨rfl, rfl⟩ := hm
    · simp [isE, past, relP]
    · obtain ⟨a, c⟩ := nopeU (hdU_ph _ _)
      rw [a, c]
      simp [isE, past]
  case ux =>
    simp only [mv, List.mem_singleton, Prod.mk.injEq] at hm
    obtain ⟨rfl, rfl⟩ := hm
    obtain ⟨a, c⟩ := nopeU (hdU_ph _ _)
    rw [a, c]
    simp [isE, past]
  case rg =>
    cases rest with
    | nil => simp [mv] at hm
    | cons c r =>
      cases r with
      | nil =>
        simp only [mv, List.mem_singleton, Prod.mk.injEq] at hm
        obtain ⟨rfl, rfl⟩ := hm
        simp [isE, past, relP]
      | cons y r =>
        simp only [mv] at hm
        split at hm
        · cases ‹c :: y :: r = []›
        · cases ‹c :: y :: r = [_]›
        all_goals
          simp only [List.mem_singleton, Prod.mk.injEq] at hm
          obtain ⟨rfl, rfl⟩ := hm
          simp [isE, past, relP]
  all_goals
    simp only [mv] at hm
    (repeat' (split at hm))
    all_goals simp only [List.mem_cons, List.mem_singleton, List.not_mem_nil, or_false, Prod.mk.injEq] at hm
    all_goals first
      | (rcases hm with ⟨rfl, rfl⟩ | ⟨rfl, rfl⟩ <;> (try split) <;> simp_all [isE, past, relP, fN]; done)
      | (obtain ⟨rfl, rfl⟩ := hm; simp_all [isE, past, relP, fN]; done)
theorem touch_cell {a : Addr} {wr sy : Bool} {y : Touch} (h : (MemAct.ofEvent ⟨.cell a, wr, sy⟩).touch? = some y) : y = ⟨.cell a, wr, if sy then .atomic else .plain⟩ := by
  rw [ofEvent_cell] at h
  simpa [MemAct.touch?] using h.symm
/-- What a worker's step touches. -/
theorem lst_touchy (hD : Dist x B) (h : AInv n j D C s) (hi : i < j) (hpk : past (D i).ph = true → B ≤ k.pa.block) (tl : TL (fam x B) n j D s t) {e : Event} (he : Lst x k (D i) e) (hpl : ¬ ((D i).ph = .rg ∧ (D i).rest.head? = some 7)) {y : Touch}
    (hy : (MemAct.ofEvent e).touch? = some y) : Touchy (fam x B) n j D s t (i + 1) y := by
  have kn : past (D i).ph = true → s.done = true ∧ ∀ l, (fam x B).Mk l → PermW t (i + 1) l := by
    intro hp
    have hd := (h.wk i hi).past hp
    obtain ⟨p, _, p2, p3⟩ := tl.dn hd
    exact ⟨hd, fun l hl q a ha hal hw => Knows.of_before (p2 l hl q a ha hal hw) (p3 i hi hp)⟩
  obtain ⟨d1, d2, d3, d4, d5, d6, d7, d8, d9, d10⟩ := id hD
  cases he with
  | mark m hm =>
    rcases hm with rfl | rfl | ⟨a, rfl⟩ | ⟨a, rfl⟩ <;> cases hy
  | sh a wr ha _ =>
    have := touch_cell hy
    subst this
    exact .inl ⟨.inl ⟨a, rfl, ha⟩, by simp, by simp⟩
  | od b hb =>
    have := touch_cell hy
    subst this
    refine .inr (.inl ⟨.inl ⟨_, rfl, ?_, ?_⟩, rfl⟩)
    · simp only; omega
    · simp only [Turned]; omega
  | pa hp =>
    have := touch_cell hy
    subst this
    have hM : (fam x B).Mk (.cell ⟨x.Pa, 0, none⟩) := .inl ⟨_, rfl, .inl rfl⟩
    exact .inr (.inr (.inl ⟨hM, rfl, (kn hp).1, (kn hp).2 _ hM⟩))
  | pk hp =>
    have := touch_cell hy
    subst this
    have hM : (fam x B).Mk (.cell k.pa) := .inl ⟨_, rfl, .inr (hpk hp)⟩
    exact .inr (.inr (.inl ⟨hM, rfl, (kn hp).1, (kn hp).2 _ hM⟩))
  | st hp =>
    have := touch_cell hy
    subst this
    exact .inr (.inr (.inr (.inl ⟨.inl ⟨_, rfl, .inl rfl⟩, (h.wk i hi).none (.inr (.inr (.inl hp))), i, rfl, hi, by rw [hp]; rfl⟩)))
  | pl hp h7 => exact absurd ⟨hp, h7⟩ hpl
theorem done_back {u : Trace} {a : Addr} {p : Nat} (h : DoneAt (t ++ u) a p) (hu : ∀ op ∈ u, op.act ≠ .access ⟨.cell a, true, true⟩) : DoneAt t a p := by
  have hp : p < t.size := by
    obtain ⟨op, ho, hoa⟩ := Option.map_eq_some_iff.1 h.act
    rcases getElem?_append_cases ho with ⟨hi, _⟩ | ⟨_, hou⟩
    · exact hi
    · exact absurd hoa (hu op hou)
  refine ⟨by rw [← act?_old (u := u) hp]; exact h.act, (heard_old hp).1 h.heard, fun q sync hq e => ?_⟩
  exact h.last q sync hq (by rw [act?_old (lt_of_act? e)]; exact e)
theorem norel_lst {T : TD} {e : Event} (he : Lst x k T e) (a : Addr) : e.loc ≠ .mark (.release a) := by
  cases he with
  | mark m hm => rcases hm with rfl | rfl | ⟨a, rfl⟩ | ⟨a, rfl⟩ <;> simp [mkE]
  | _ => simp
/-- A WORKER's STEP KEEPS THE TRACE's LAW. -/
theorem tl_step (hD : Dist x B) (h : AInv n j D C s) (hi : i < j) (hm : (T', s') ∈ mv (D i) s) (hpk : past (D i).ph = true → B ≤ k.pa.block) (hfine : (D i).ph = .rg → (D i).rest.head? = some 7 → (D i).rest = [7]) (tl : TL (fam x B) n j D s t)
    (hdeaf : Deaf t (i + 1) = dW (D i).ph) (fn : FuncId) (pos : String) : TL (fam x B) n j (upd D i T') s' (t ++ MemOp.ofEvents (i + 1) fn pos (esW x k (D i) s)) := by
  have A := fam_ok hD
  have hl := lst_es (x := x) (B := B) (k := k) (T := D i) (s := s) hD
  have hw := h.wk i hi
  obtain ⟨m1, m2, m3, m4⟩ := mv_E hm
  have hops : ∀ op ∈ MemOp.ofEvents (i + 1) fn pos (esW x k (D i) s), ∃ e ∈ esW x k (D i) s, op = ⟨i + 1, fn, pos, .ofEvent e⟩ := by
    intro op hop
    rw [ofEvents_eq] at hop
    obtain ⟨e, he, rfl⟩ := Array.mem_map.1 hop
    exact ⟨e, he, rfl⟩
  by_cases hst : (D i).ph = .stD
  · have hes : esW x k (D i) s = #[wrA x.On 0] := by simp only [esW, hst]
    have hd0 : s.done = false := hw.none (.inr (.inr (.inr (.inr (.inr hst)))))
    have hmv : T'.ph = .uL ∧ s' = { s with done := true } := by
      generalize hT : D i = T at hm hst
      obtain ⟨ph, item, old, aw, sv, it, rest⟩ := T
      simp only at hst
      subst hst
      simp only [mv, List.mem_singleton, Prod.mk.injEq] at hm
      exact ⟨by rw [hm.1], hm.2⟩
    rw [hes, ofEvents_eq]
    have e1 : (#[wrA x.On 0].map fun e => ({ g := i + 1, fn, pos, act := .ofEvent e } : MemOp)) = #[⟨i + 1, fn, pos, .access ⟨.cell ⟨x.On, 0, none⟩, true, true⟩⟩] := by simp [wrA, ofEvent_cell]
    rw [e1]
    refine tl.finish A hi (by rw [hst]; rfl) hd0 (by rw [hmv.2]) (fun q hq hf => by rw [hmv.2] at hf; exact hf) (fun k' hk' hne => ?_) (fun k' hk' => ?_) rfl rfl (by rw [hdeaf, hst]; rfl)
    · cases hp : past (D k').ph with
      | false => rfl
      | true => have := (h.wk k' hk').past hp; rw [hd0] at this; cases this
    · by_cases e : k' = i
      · subst e; rw [upd_same, hmv.1]; rfl
      · rw [upd_ne _ _ e]
        cases hE : isE (D k').ph with
        | false => rfl
        | true => exact absurd (uniqE h k' i hk' hi hE (by rw [hst]; rfl)) e
  by_cases hpl : (D i).ph = .rg ∧ (D i).rest.head? = some 7
  · obtain ⟨hrg, h7⟩ := hpl
    have hrest : (D i).rest = [7] := hfine hrg h7
    have hmv : T'.ph = .rcv ∧ s'.done = s.done ∧ s'.fill = (fun q => if q = (D i).item then true else s.fill q) := by
      generalize hT : D i = T at hm hrg hrest
      obtain ⟨ph, item, old, aw, sv, it, rest⟩ := T
      simp only at hrg hrest
      subst hrg hrest
      simp only [mv, List.mem_singleton, Prod.mk.injEq] at hm
      exact ⟨by rw [hm.1], by rw [hm.2], by rw [hm.2]⟩
    have hitem : (D i).item < n := hw.item (by rw [hrg]; rfl)
    have hfill : s.fill (D i).item = false := h.unfilled hi (by rw [hrg]; rfl)
    have hP := tl.pl _ hitem hfill (i + 1) (by omega)
    have tl' : TL (fam x B) n j (upd D i T') s' t := tl.move hi hmv.2.1 (fun q hq hf => mv_fill_mono hm q hf) (fun hE => by rw [hmv.1] at hE; cases hE) (fun _ hE => by rw [hrg] at hE; cases hE) (fun hp => by rw [hmv.1] at hp; cases hp)
    have hes : esW x k (D i) s = #[⟨.cell ⟨x.Oa, (D i).item, none⟩, true, false⟩] := by simp only [esW, hrg, hrest]
    refine tl'.app A (g := i + 1) (by omega) (fun a b ha hb h1 h2 => ?_) (fun op hop => ?_) (fun hd op hop sync e => ?_)
    · have key : ∀ c, c < j → isE (upd D i T' c).ph = true → isE (D c).ph = true := by
        intro c hc hE
        by_cases e : c = i
        · subst e; rw [upd_same, hmv.1] at hE; cases hE
        · rwa [upd_ne _ _ e] at hE
      exact uniqE h a b ha hb (key a ha h1) (key b hb h2)
    · obtain ⟨e, he, rfl⟩ := hops op hop
      rw [hes] at he
      simp only [List.mem_toArray, List.mem_singleton] at he
      subst he
      refine ⟨rfl, fun y hy => ?_⟩
      have := touch_cell hy
      subst this
      exact .inr (.inr (.inr (.inr ⟨(D i).item, hitem, rfl, by rw [hmv.2.2]; simp, hP⟩)))
    · obtain ⟨e', he, rfl⟩ := hops op hop
      rw [hes] at he
      simp only [List.mem_toArray, List.mem_singleton] at he
      subst he
      simp only [ofEvent_cell, MemAct.access.injEq, Event.mk.injEq, Loc.cell.injEq] at e
      have : x.Oa = x.On := by have := e.1; simpa [fam] using congrArg Addr.block this
      obtain ⟨d1, d2, d3, d4, d5, d6, d7, d8, d9, d10⟩ := hD
      omega
  · have hnw : ∀ op ∈ MemOp.ofEvents (i + 1) fn pos (esW x k (D i) s), ∀ sync, op.act ≠ .access ⟨.cell (fam x B).Dn, true, sync⟩ := by
      intro op hop sync e
      obtain ⟨e', he, rfl⟩ := hops op hop
      have := hl e' he
      obtain ⟨d1, d2, d3, d4, d5, d6, d7, d8, d9, d10⟩ := hD
      cases this with
      | mark m hm => cases e
      | sh a wr ha hw' =>
        simp only [ofEvent_cell, MemAct.access.injEq, Event.mk.injEq, Loc.cell.injEq] at e
        exact hst (hw' e.2.1 e.1)
      | od b hb => simp only [ofEvent_cell, MemAct.access.injEq, Event.mk.injEq] at e; exact absurd e.2.1 (by simp)
      | pa hp => simp only [ofEvent_cell, MemAct.access.injEq, Event.mk.injEq] at e; exact absurd e.2.1 (by simp)
      | pk hp => simp only [ofEvent_cell, MemAct.access.injEq, Event.mk.injEq] at e; exact absurd e.2.1 (by simp)
      | st hp =>
        simp only [ofEvent_cell, MemAct.access.injEq, Event.mk.injEq, Loc.cell.injEq] at e
        have : x.Pa = x.On := by have := e.1; simpa [fam] using congrArg Addr.block this
        omega
      | pl hp h7 => exact hpl ⟨hp, h7⟩
    have tl' := tl.app A (g := i + 1) (u := MemOp.ofEvents (i + 1) fn pos (esW x k (D i) s)) (by omega) (uniqE h) (fun op hop => by
      obtain ⟨e, he, rfl⟩ := hops op hop
      exact ⟨rfl, fun y hy => lst_touchy hD h hi hpk tl (hl e he) hpl hy⟩) (fun _ => hnw)
    refine tl'.move hi (mv_done_not hm hst) (fun q hq hf => mv_fill_mono hm q hf) (fun hE => ?_) (fun _ hE => m2 hE hst) (fun hp hd => ?_)
    · rcases m1 hE with h1 | h1
      · exact .inl h1
      · exact .inr fun _ => noE_of_lock h hi h1
    · have sees : esW x k (D i) s = #[rdA x.On 0] → dW (D i).ph = 0 → ∀ p, DoneAt (t ++ MemOp.ofEvents (i + 1) fn pos (esW x k (D i) s)) (fam x B).Dn p → Knows (t ++ MemOp.ofEvents (i + 1) fn pos (esW x k (D i) s)) (i + 1) p := by
        intro hes h0 p hp
        have hp' := done_back hp fun op hop => hnw op hop true
        rw [hes, ofEvents_eq] at *
        have e1 : (#[rdA x.On 0].map fun e => ({ g := i + 1, fn, pos, act := .ofEvent e } : MemOp)) = #[⟨i + 1, fn, pos, .access ⟨.cell ⟨x.On, 0, none⟩, false, true⟩⟩] := by simp [rdA, ofEvent_cell]
        rw [e1]
        exact hp'.sees (y := ⟨i + 1, fn, pos, .access ⟨.cell ⟨x.On, 0, none⟩, false, true⟩⟩) rfl (by rw [hdeaf, h0])
      rcases m3 hp hst with h1 | ⟨h1, _⟩ | ⟨h1, _⟩
      · exact .inl h1
      · exact .inr (sees (by simp only [esW, h1]) (by rw [h1]; rfl))
      · exact .inr (sees (by simp only [esW, h1]) (by rw [h1]; rfl))
end
end Go.Proofs.YthjofgmiabcifabGreatDoor.Ma
namespace Go.Proofs.YthjofgmiabcifabGreatDoor.Ma
open Go Go.Conc
open Go.ConcN (PermW upd upd_same upd_ne)
open Go.ConcR (g_of_ofEvents ofEvent_cell ofEvent_loc_mark)
open Go.Proofs.YthjofgmiabcifabGreatDoor.Ev Go.Proofs.YthjofgmiabcifabGreatDoor.Co Go.Proofs.YthjofgmiabcifabGreatDoor.Ab Go.Proofs.YthjofgmiabcifabGreatDoor.Mc Go.Proofs.YthjofgmiabcifabGreatDoor.Tr
section
variable {x : Cx} {n B j i : Nat} {k : Parts} {T' : TD} {s s' : Sh} {C C' : CD} {D : Nat → TD} {t : Trace} {dw : Nat → Nat} {d0 : Nat}
theorem upd_self {α : Type} (f : Nat → α) (i : Nat) : upd f i (f i) = f := by
  funext a; unfold upd; split
  · rename_i h; rw [h]
  · rfl
/-- Atomic accesses of the group's cells between a 'disable' and its 'enable', whatever stands ahead of it. -/
theorem deaf_own {es : Array Event} (hl : ∀ e ∈ es, (∃ m, e = mkE m ∧ (m = .disable ∨ m = .enable)) ∨ ∃ a wr, e = ⟨.cell a, wr, true⟩ ∧ (fam x B).Sh (.cell a)) (hd : ∀ q e, es[q]? = some e → (∃ a wr, e = ⟨.cell a, wr, true⟩) → 0 < deafBehind d0 (es.extract 0 q)) :
    ∀ q e, es[q]? = some e → (MemAct.ofEvent e).touch? = none ∨ ((∃ ad wr, e = ⟨.cell ad, wr, true⟩ ∧ (fam x B).Sh (.cell ad)) ∧ 0 < deafBehind d0 (es.extract 0 q)) := by
  intro q e he
  rcases hl e (Array.mem_of_getElem? he) with ⟨m, rfl, hm⟩ | ⟨a, wr, rfl, ha⟩
  · left
    rcases hm with rfl | rfl <;> rfl
  · exact .inr ⟨⟨a, wr, rfl, ha⟩, hd q _ he ⟨a, wr, rfl⟩⟩
theorem rl_step (hD : Dist x B) (hi : i < j) (hm : (T', s') ∈ mv (D i) s) (rl : RL (fam x B).Sh (wa x) j D t dw d0) (hdw : dw i = dW (D i).ph) (fn : FuncId) (pos : String) :
    RL (fam x B).Sh (wa x) j (upd D i T') (t ++ MemOp.ofEvents (i + 1) fn pos (esW x k (D i) s)) (upd dw i (dW T'.ph)) d0 := by
  have hl := lst_es (x := x) (B := B) (k := k) (T := D i) (s := s) hD
  have hdd := deaf_mv (x := x) (k := k) hm
  have key := rl.appW (T' := T') (fn := fn) (pos := pos) (es := esW x k (D i) s) hi (fun e he => norel_lst (hl e he) _) (fun hr => ?_)
  · rw [hdw, hdd] at key
    exact key
  · have hdeaf := rl.deafW i hi
    rw [hdw] at hdeaf
    have wg : ∀ o, (fam x B).Sh (.cell ⟨x.Wg, o, none⟩) := fun o => .inl ⟨_, rfl, .inr (.inr rfl)⟩
    rcases (mv_E hm).2.2.2 hr with h1 | h1
    · obtain ⟨r, hrel⟩ := rl.rel i hi h1
      refine ⟨r, hrel.appOwn fn pos _ ?_⟩
      rw [hdeaf]
      generalize hT : D i = T at h1 hm
      obtain ⟨ph, item, old, aw, sv, it, rest⟩ := T
      cases ph <;> simp only [relP] at h1 <;> (try (cases h1; done)) <;> simp only [esW, dW]
      case wk =>
        intro q e he
        left
        rcases q with _ | q
        · simp at he; subst he; rfl
        · simp at he
      case d1 =>
        refine deaf_own (fun e he => ?_) (fun q e he _ => ?_)
        · simp only [List.mem_toArray, List.mem_cons, List.not_mem_nil, or_false] at he
          rcases he with rfl | rfl <;> exact .inr ⟨_, _, rfl, wg _⟩
        · rcases q with _ | _ | q
          · simp [deafBehind, rdA, wrA]
          · simp [deafBehind, rdA, wrA]
          · simp at he
      case d2 =>
        refine deaf_own (fun e he => ?_) (fun q e he _ => ?_)
        · simp only [List.mem_toArray, List.mem_cons, List.not_mem_nil, or_false] at he
          rcases he with rfl; exact .inr ⟨_, _, rfl, wg _⟩
        · rcases q with _ | q
          · simp [deafBehind, rdA, wrA]
          · simp at he
      case d3 =>
        refine deaf_own (fun e he => ?_) (fun q e he _ => ?_)
        · simp only [List.mem_toArray, List.mem_cons, List.not_mem_nil, or_false] at he
          rcases he with rfl; exact .inr ⟨_, _, rfl, wg _⟩
        · rcases q with _ | q
          · simp [deafBehind, rdA, wrA]
          · simp at he
      case d4 =>
        refine deaf_own (fun e he => ?_) (fun q e he _ => ?_)
        · simp only [List.mem_toArray, List.mem_cons, List.not_mem_nil, or_false] at he
          rcases he with rfl | rfl | rfl | rfl
          · exact .inl ⟨_, rfl, .inl rfl⟩
          · exact .inr ⟨_, _, rfl, wg _⟩
          · exact .inr ⟨_, _, rfl, wg _⟩
          · exact .inl ⟨_, rfl, .inr rfl⟩
        · rcases q with _ | _ | _ | _ | q
          · simp [mkE] at he; rename_i h; obtain ⟨a, wr, h⟩ := h; subst he; cases h
          · simp [deafBehind, mkE]
          · simp [deafBehind, mkE, rdA]
          · simp [mkE] at he; rename_i h; obtain ⟨a, wr, h⟩ := h; subst he; cases h
          · simp at he
      case quit => simp [mv] at hm
    · rw [h1] at hdeaf
      have hes : esW x k (D i) s = #[⟨.mark (.releaseMerge (wa x)), false, true⟩] := by simp only [esW, h1]; rfl
      rw [hes]
      exact ⟨_, RelS.new hdeaf fn pos⟩
inductive LstC (x : Cx) : Event → Prop
  | mark (m : Mark) : m = .disable ∨ m = .enable ∨ (∃ a, m = .acquire a) ∨ m = .read ⟨x.Wg, 1, none⟩ ∨ m = .write ⟨x.Wg, 1, none⟩ → LstC x (mkE m)
  | sh (o : Nat) (wr : Bool) : LstC x ⟨.cell ⟨x.Wg, o, none⟩, wr, true⟩
  | nb : LstC x ⟨.cell ⟨x.Nb, 0, none⟩, false, false⟩
  | ch (wr : Bool) : LstC x ⟨.obj x.Ch, wr, true⟩
theorem lst_esC : ∀ e ∈ esC x C s, LstC x e := by
  intro e he
  obtain ⟨ph, old⟩ := C
  cases ph <;> simp only [esC] at he
  all_goals (try (split at he))
  all_goals simp only [List.mem_toArray, List.mem_cons, List.not_mem_nil, or_false] at he
  all_goals first
    | (exact he.elim)
    | (subst he; first | exact .mark _ (by simp) | exact .nb | exact .sh _ _ | exact .ch _)
    | (rcases he with rfl | rfl <;> first | exact .sh _ _ | exact .ch _)
    | (rcases he with rfl | rfl | rfl | rfl <;> first | exact .mark _ (by simp) | exact .sh _ _)
theorem mvC_same (hm : (C', s') ∈ mvC C s) : s'.done = s.done ∧ s'.fill = s.fill := by
  obtain ⟨ph, old⟩ := C
  cases ph
  all_goals
    simp only [mvC] at hm
    (repeat' (split at hm))
    all_goals simp only [List.mem_cons, List.mem_singleton, List.not_mem_nil, or_false, Prod.mk.injEq] at hm
    all_goals (obtain ⟨rfl, rfl⟩ := hm; exact ⟨rfl, rfl⟩)
theorem tlC_step (hD : Dist x B) (h : AInv n j D C s) (hm : (C', s') ∈ mvC C s) (tl : TL (fam x B) n j D s t) (fn : FuncId) (pos : String) : TL (fam x B) n j D s' (t ++ MemOp.ofEvents 0 fn pos (esC x C s)) := by
  have A := fam_ok hD
  obtain ⟨e1, e2⟩ := mvC_same hm
  obtain ⟨d1, d2, d3, d4, d5, d6, d7, d8, d9, d10⟩ := id hD
  refine (tl.app A (g := 0) (Nat.zero_le _) (uniqE h) (fun op hop => ?_) (fun _ op hop sync e => ?_)).state e1 e2
  · rw [ofEvents_eq] at hop
    obtain ⟨e, he, rfl⟩ := Array.mem_map.1 hop
    refine ⟨rfl, fun y hy => ?_⟩
    have := lst_esC e he
    cases this with
    | mark m hm =>
      rcases hm with rfl | rfl | ⟨a, rfl⟩ | rfl | rfl
      · cases hy
      · cases hy
      · cases hy
      · simp only [mkE, MemAct.ofEvent, MemAct.touch?, Option.some.injEq] at hy
        subst hy
        exact .inl ⟨.inl ⟨_, rfl, .inr (.inr rfl)⟩, by simp, by simp⟩
      · simp only [mkE, MemAct.ofEvent, MemAct.touch?, Option.some.injEq] at hy
        subst hy
        exact .inl ⟨.inl ⟨_, rfl, .inr (.inr rfl)⟩, by simp, by simp⟩
    | sh o wr =>
      have := touch_cell hy
      subst this
      exact .inl ⟨.inl ⟨_, rfl, .inr (.inr rfl)⟩, by simp, by simp⟩
    | nb =>
      have := touch_cell hy
      subst this
      refine .inr (.inl ⟨.inl ⟨_, rfl, by simp only; omega, ?_⟩, rfl⟩)
      simp only [Turned]; omega
    | ch wr =>
      cases wr with
      | true => cases hy
      | false =>
        have : y = ⟨.obj x.Ch, false, .atomic⟩ := by simpa [MemAct.ofEvent, MemAct.touch?] using hy.symm
        subst this
        exact .inl ⟨.inr rfl, by simp, by simp⟩
  · rw [ofEvents_eq] at hop
    obtain ⟨e', he, rfl⟩ := Array.mem_map.1 hop
    have := lst_esC e' he
    cases this with
    | mark m hm => cases e
    | sh o wr =>
      simp only [ofEvent_cell, MemAct.access.injEq, Event.mk.injEq, Loc.cell.injEq] at e
      have : x.Wg = x.On := by have := e.1; simpa [fam] using congrArg Addr.block this
      omega
    | nb => simp only [ofEvent_cell, MemAct.access.injEq, Event.mk.injEq] at e; exact absurd e.2.1 (by simp)
    | ch wr => cases wr <;> simp [MemAct.ofEvent] at e
theorem rlC_step (hm : (C', s') ∈ mvC C s) (rl : RL (fam x B).Sh (wa x) j D t dw d0) (hd : d0 = dC C.ph) (fn : FuncId) (pos : String) : RL (fam x B).Sh (wa x) j D (t ++ MemOp.ofEvents 0 fn pos (esC x C s)) dw (dC C'.ph) := by
  have := rl.app0 (fn := fn) (pos := pos) (es := esC x C s) (fun e he => by
    have := lst_esC e he
    cases this with
    | mark m hm => rcases hm with rfl | rfl | ⟨a, rfl⟩ | rfl | rfl <;> simp [mkE]
    | _ => simp)
  rw [hd, deaf_mvC hm] at this
  exact this
/-- The lone walk's class: the blocks that others may turn are poisoned; all other old ones are frozen. -/
def Cl (P : Program) (x : Cx) (L : List FuncId) (W : World) : Lift.Cls where
  P := P
  L := L
  bp := fun b => Turned x b ∨ ∃ o, W.heap[b]? = some o ∧ (∀ c t f, o ≠ .cells c t f) ∧ ¬ Lift.Seen o
  ro := fun b => ¬ Turned x b
  ch := fun b => ∃ c d e f g h, W.heap[b]? = some (.chan c d e f g h)
  n0 := W.heap.size
theorem tl_way {L : List FuncId} {W : World} (hD : Dist x B) (h : AInv n j D C s) (hi : i < j) (hp : (D i).ph = .mk) (hB : B ≤ W.heap.size) (hch : ∃ c d e f g h, W.heap[x.Ch]? = some (.chan c d e f g h)) (tl : TL (fam x B) n j D s t)
    {es : Array Event} (he : ∀ e ∈ es, Lift.EvOk (Cl Tryz.prog x L W) e) (fn : FuncId) (pos : String) : TL (fam x B) n j D s (t ++ MemOp.ofEvents (i + 1) fn pos es) := by
  have A := fam_ok hD
  obtain ⟨d1, d2, d3, d4, d5, d6, d7, d8, d9, d10⟩ := id hD
  have hd0 : s.done = false := (h.wk i hi).none (.inr (.inl hp))
  have mkT : ∀ y : Touch, (fam x B).Mk y.loc → Touchy (fam x B) n j D s t (i + 1) y := fun y hy => .inr (.inr (.inr (.inl ⟨hy, hd0, i, rfl, hi, by rw [hp]; rfl⟩)))
  refine tl.app A (g := i + 1) (by omega) (uniqE h) (fun op hop => ?_) (fun hd => by rw [hd0] at hd; cases hd)
  rw [ofEvents_eq] at hop
  obtain ⟨e, hee, rfl⟩ := Array.mem_map.1 hop
  refine ⟨rfl, fun y hy => ?_⟩
  rcases he e hee with ⟨a, wr, rfl, ha⟩ | ⟨r, wr, rfl, hr⟩ | ⟨r, rfl⟩ | ⟨r, rfl, hr, hc⟩ | rfl
  · have := touch_cell hy
    subst this
    by_cases hlt : a.block < B
    · obtain ⟨h1, h2⟩ := ha (Nat.lt_of_lt_of_le hlt hB)
      have hT : ¬ Turned x a.block := fun hT => h1 (.inl hT)
      refine .inr (.inl ⟨.inl ⟨a, rfl, hlt, hT⟩, ?_⟩)
      cases wr with
      | false => rfl
      | true => exact absurd hT (h2 rfl)
    · exact mkT _ (.inl ⟨a, rfl, .inr (by omega)⟩)
  · have hy : y.loc = .obj r := by cases wr <;> (simp [MemAct.ofEvent, MemAct.touch?] at hy; rw [← hy])
    have hr : W.heap.size ≤ r := hr
    exact mkT _ (.inr ⟨r, hy, by omega⟩)
  · have : y = ⟨.obj r, false, .atomic⟩ := by simpa [MemAct.ofEvent, MemAct.touch?] using hy.symm
    subst this
    by_cases hc : r = x.Ch
    · exact .inl ⟨.inr (by rw [hc]), by simp, by simp⟩
    · by_cases hlt : r < B
      · exact .inr (.inl ⟨.inr ⟨r, rfl, hlt, hc⟩, rfl⟩)
      · exact mkT _ (.inr ⟨r, rfl, by omega⟩)
  · have : y = ⟨.obj r, false, .plain⟩ := by simpa [MemAct.ofEvent, MemAct.touch?] using hy.symm
    subst this
    have hne : r ≠ x.Ch := fun e => hc (e ▸ hch)
    by_cases hlt : r < B
    · exact .inr (.inl ⟨.inr ⟨r, rfl, hlt, hne⟩, rfl⟩)
    · exact mkT _ (.inr ⟨r, rfl, by omega⟩)
  · cases hy
theorem evOk_mark {Cc : Lift.Cls} {e : Event} (he : Lift.EvOk Cc e) : (∀ a, e.loc ≠ .mark (.release a)) ∧ e.loc ≠ .mark .disable ∧ e.loc ≠ .mark .enable := by
  rcases he with ⟨a, wr, rfl, ha⟩ | ⟨r, wr, rfl, hr⟩ | ⟨r, rfl⟩ | ⟨r, rfl, hr, hc⟩ | rfl <;> simp [noRoomEvent]
theorem deaf_quiet {es : Array Event} (h : ∀ e ∈ es, e.loc ≠ .mark .disable ∧ e.loc ≠ .mark .enable) (d : Nat) : deafBehind d es = d := by
  have key : ∀ l : List Event, (∀ e ∈ l, e.loc ≠ .mark .disable ∧ e.loc ≠ .mark .enable) → l.foldl (fun d e => match e.loc with | .mark .disable => d + 1 | .mark .enable => d - 1 | _ => d) d = d := by
    intro l
    induction l with
    | nil => intro _; rfl
    | cons e l ih =>
      intro hl
      rw [List.foldl_cons]
      have h1 := hl e (by simp)
      have : (match e.loc with | .mark .disable => d + 1 | .mark .enable => d - 1 | _ => d) = d := by
        split
        · rename_i h; exact absurd h h1.1
        · rename_i h; exact absurd h h1.2
        · rfl
      rw [this]
      exact ih fun e he => hl e (by simp [he])
  unfold deafBehind
  rw [← Array.foldl_toList]
  exact key _ fun e hee => h e (by simpa using hee)
theorem rl_way {Cc : Lift.Cls} (hi : i < j) (hp : relP (D i).ph = false) (rl : RL (fam x B).Sh (wa x) j D t dw d0) {es : Array Event} (he : ∀ e ∈ es, Lift.EvOk Cc e) (fn : FuncId) (pos : String) :
    RL (fam x B).Sh (wa x) j D (t ++ MemOp.ofEvents (i + 1) fn pos es) dw d0 := by
  have := rl.appW (T' := D i) (fn := fn) (pos := pos) (es := es) hi (fun e hee => (evOk_mark (he e hee)).1 _) (fun hr => by rw [hp] at hr; cases hr)
  rw [upd_self, deaf_quiet (fun e hee => (evOk_mark (he e hee)).2), upd_self] at this
  exact this
theorem tl_leave (hi : i < j) (tl : TL (fam x B) n j D s t) {es : Array Event} (he : ∀ e ∈ es, Event.mute e = true) (fn : FuncId) (pos : String) : TL (fam x B) n j D s (t ++ MemOp.ofEvents (i + 1) fn pos es) := by
  refine tl.mute fun op hop => ?_
  rw [ofEvents_eq] at hop
  obtain ⟨e, hee, rfl⟩ := Array.mem_map.1 hop
  have := he e hee
  obtain ⟨loc, wr, sy⟩ := e
  cases loc with
  | mark m => cases m <;> first | (cases this; done) | exact ⟨by simp only; omega, rfl, fun e h => by cases h⟩
  | _ => cases this
theorem rl_leave (hi : i < j) (hp : (D i).ph = .quit) (rl : RL (fam x B).Sh (wa x) j D t dw d0) {es : Array Event} (he : ∀ e ∈ es, Event.mute e = true) (fn : FuncId) (pos : String) :
    RL (fam x B).Sh (wa x) j D (t ++ MemOp.ofEvents (i + 1) fn pos es) (upd dw i (deafBehind (dw i) es)) d0 := by
  have hm : ∀ e ∈ es, (MemAct.ofEvent e).touch? = none ∧ e.loc ≠ .mark (.release (wa x)) := by
    intro e hee
    have := he e hee
    obtain ⟨loc, wr, sy⟩ := e
    cases loc with
    | mark m => cases m <;> first | (cases this; done) | exact ⟨rfl, by simp⟩
    | _ => cases this
  have := rl.appW (T' := D i) (fn := fn) (pos := pos) (es := es) hi (fun e hee => (hm e hee).2) (fun hr => by
    obtain ⟨r, h⟩ := rl.rel i hi hr
    exact ⟨r, h.appOwn fn pos es fun q e hq => .inl (hm e (Array.mem_of_getElem? hq)).1⟩)
  rw [upd_self] at this
  exact this
end
end Go.Proofs.YthjofgmiabcifabGreatDoor.Ma
namespace Go.Proofs.YthjofgmiabcifabGreatDoor.Ma
open Go Go.Conc
open Go.ConcN (PermW upd upd_same upd_ne sumTo sumTo_upd sumTo_congr sumTo_le)
open Go.ConcR (g_of_ofEvents ofEvent_cell ofEvent_loc_mark)
open Go.ConcM (OsLater)
open Go.Proofs.YthjofgmiabcifabGreatDoor.Ev Go.Proofs.YthjofgmiabcifabGreatDoor.Co Go.Proofs.YthjofgmiabcifabGreatDoor.Ab Go.Proofs.YthjofgmiabcifabGreatDoor.Mc Go.Proofs.YthjofgmiabcifabGreatDoor.Tr
open Go.Proofs.YthjofgmiabcifabGreatDoor.Lift (LSt Sim Further Fin)
inductive Runs (P : Program) (Q : Machine → Outcome → World → Trace → Prop) : Machine → Trace → Prop
  | fin {m : Machine} {t : Trace} {o : Outcome} {w : World} {ops : Trace} : stepT P m = (.ended o w, ops) → Q m o w (t ++ ops) → Runs P Q m t
  | next {m m' : Machine} {t ops : Trace} : stepT P m = (.next m', ops) → Runs P Q m' (t ++ ops) → Runs P Q m t
theorem Runs.run {P : Program} {Q : Machine → Outcome → World → Trace → Prop} {m : Machine} {t : Trace} (h : Runs P Q m t) :
    ∃ n last o w t', runNT P (n + 1) m t = (.ended o w, t') ∧ runN P n m = .next last ∧ step P last = .ended o w ∧ Q last o w t' := by
  induction h with
  | @fin m t o w ops hs hq => exact ⟨0, m, o, w, t ++ ops, by simp [runNT, hs], rfl, by simp [step, hs], hq⟩
  | next hs _ ih =>
    obtain ⟨n, last, o, w, t', h1, h2, h3, h4⟩ := ih
    exact ⟨n + 1, last, o, w, t', by rw [runNT_succ_next hs]; exact h1, by rw [runN_succ_next hs]; exact h2, h3, h4⟩
abbrev Mu := Nat × Nat × Option LSt × Nat
def AccO (r : LSt → LSt → Prop) (o : Option LSt) : Prop := ∀ l, o = some l → Acc r l
def FurO (r : LSt → LSt → Prop) (o' o : Option LSt) : Prop := ∃ l' l, o' = some l' ∧ o = some l ∧ r l' l
def Less (r : LSt → LSt → Prop) (m' m : Mu) : Prop :=
  AccO r m'.2.2.1 ∧ (m'.1 < m.1 ∨ (m'.1 = m.1 ∧ (m'.2.1 < m.2.1 ∨ (m'.2.1 = m.2.1 ∧ (FurO r m'.2.2.1 m.2.2.1 ∨ (m'.2.2.1 = m.2.2.1 ∧ m'.2.2.2 < m.2.2.2))))))
theorem accO_acc {r : LSt → LSt → Prop} {o : Option LSt} (h : AccO r o) : Acc (FurO r) o := by
  cases o with
  | none => exact ⟨_, fun o' ⟨l', l, _, e, _⟩ => by cases e⟩
  | some l =>
    have := h l rfl
    induction this with
    | intro l _ ih =>
      refine ⟨_, fun o' ⟨l', l2, e1, e2, hr⟩ => ?_⟩
      cases e2
      subst e1
      exact ih l' hr (fun l3 e3 => by cases e3; exact (h l rfl).inv hr)
theorem less_wf (r : LSt → LSt → Prop) : WellFounded (Less r) := by
  have key : ∀ p q : Nat, ∀ o : Option LSt, AccO r o → ∀ c : Nat, Acc (Less r) (p, q, o, c) := by
    intro p
    induction p using Nat.strongRecOn with
    | _ p ihp =>
      intro q
      induction q using Nat.strongRecOn with
      | _ q ihq =>
        intro o ho
        have hacc := accO_acc ho
        induction hacc with
        | intro o _ iho =>
          intro c
          induction c using Nat.strongRecOn with
          | _ c ihc =>
            refine ⟨_, fun m' ⟨h1, h2⟩ => ?_⟩
            obtain ⟨p', q', o', c'⟩ := m'
            simp only at h1 h2
            rcases h2 with h2 | ⟨rfl, h2 | ⟨rfl, h2 | ⟨rfl, h2⟩⟩⟩
            · exact ihp p' h2 q' o' h1 c'
            · exact ihq q' h2 o' h1 c'
            · exact iho o' h2 h1 c'
            · exact ihc c' h2
  refine ⟨fun m => ⟨_, fun m' ⟨h1, _⟩ => ?_⟩⟩
  obtain ⟨p', q', o', c'⟩ := m'
  exact key p' q' o' h1 c'
def act (g : Goroutine) : Nat := if g.status = .running then 1 else 0
theorem act_le (g : Goroutine) : act g ≤ 1 := by unfold act; split <;> omega
def awk (gs : Array Goroutine) (j : Nat) : Nat := sumTo (j + 1) fun i => act (gs.getD i default)
theorem awk_le (gs : Array Goroutine) (j : Nat) : awk gs j ≤ j + 1 := by
  have := sumTo_le (f := fun i => act (gs.getD i default)) (c := 1) (j := j + 1) fun i _ => act_le _
  unfold awk
  omega
theorem awk_set {gs : Array Goroutine} {j p : Nat} {g g' : Goroutine} (hs : gs.size = j + 1) (hp : gs[p]? = some g) : awk (gs.setIfInBounds p g') j + act g = awk gs j + act g' := by
  have hlt : p < j + 1 := by
    rcases Nat.lt_or_ge p (j + 1) with h | h
    · exact h
    · rw [Array.getElem?_eq_none (by omega)] at hp; cases hp
  have e : awk (gs.setIfInBounds p g') j = sumTo (j + 1) fun a => act (upd (fun i => gs.getD i default) p g' a) := by
    unfold awk
    refine sumTo_congr fun i hi => ?_
    congr 1
    by_cases ei : i = p
    · subst ei
      rw [upd_same, Array.getD_eq_getD_getElem?, Array.getElem?_setIfInBounds_self_of_lt (by omega)]
      rfl
    · rw [upd_ne _ _ ei, Array.getD_eq_getD_getElem?, Array.getElem?_setIfInBounds_ne (Ne.symm ei), ← Array.getD_eq_getD_getElem?]
  have := sumTo_upd (fun i => gs.getD i default) g' act hlt
  have eg : gs.getD p default = g := by rw [Array.getD_eq_getD_getElem?, hp]; rfl
  rw [e]
  simp only [eg] at this
  exact this
section
variable (x : Cx) (n B : Nat) (cs : List Frame) (u : Int) (W0 : World) (sa : Option Addr) (sl sc : Nat) (L : List FuncId)
/-- What the work hands back. -/
def Rm (e : Ending) (w' : World) : Prop := ∃ pa pl pc t v, e = .returned (.tuple #[.slice (some pa) pl pc, .int .i64 0]) ∧ w'.cell? pa = some (.iface t v) ∧ 0 < pl ∧ B ≤ pa.block ∧ CanOk x u t
def rc (c : Nat) : CommCase := rcase c (.int .i64 0)
def scs (c i : Nat) : CommCase := scase c (.int .i64 i) (.tuple #[])
/-- Where a worker stands, with its fuel and its deafness. -/
def WS (k : Parts) (T : TD) (s : Sh) (m d : Nat) (lo : Option LSt) (Wc : World) (g : Goroutine) (w : World) : Prop :=
  (T.ph ≠ .mk ∧ T.ph ≠ .quit ∧ d = dW T.ph ∧ ((∃ h, Sil Tryz.prog false (Live x) m g h ∧ AtW x n u k T h) ∨
    (T.ph = .s1 ∧ m = 0 ∧ s.ms = 0 ∧ ∃ h, AtW x n u k T h ∧ h.offers = none ∧ g = { h with status := .blocked }) ∨
    (T.ph = .rcv ∧ m = 0 ∧ ∃ J, (s.shut = false ∧ g = parked (mkRcv Tryz.prog x J) #[rc x.Ch] (.recv true)) ∨ (s.shut = true ∧ g = { parked (mkRcv Tryz.prog x J) #[rc x.Ch] (.recv true) with status := .running })))) ∨
  (T.ph = .mk ∧ d = 0 ∧ ∃ J l, lo = some l ∧ Sil Tryz.prog false (Live x) m g ⟨l.fr, l.up ++ (sMk Tryz.prog x J T.item sa sl sc).callers, .running, none, none⟩ ∧ Lift.Way (Cl Tryz.prog x L Wc).bare (Rm x B u) l ∧
    Sim (Cl Tryz.prog x L Wc) l.w w ∧ B ≤ Wc.heap.size ∧ ∃ c d e f g h, Wc.heap[x.Ch]? = some (.chan c d e f g h)) ∨
  (T.ph = .quit ∧ QuitsD Tryz.prog m d g)
/-- Where the starter stands. -/
def CS (C : CD) (j : Nat) (s : Sh) (m : Nat) (g : Goroutine) : Prop :=
  (∃ h, Sil Tryz.prog true (Live x) m g h ∧ AtC x n cs C j s.sent h) ∨
  (C.ph = .w3 ∧ m = 0 ∧ s.wm = 0 ∧ ∃ h, AtC x n cs C j s.sent h ∧ h.offers = none ∧ h.status = .running ∧ g = { h with status := .blocked }) ∨
  (C.ph = .sd ∧ m = 0 ∧ ∃ R K Q, g = parked (mkSe Tryz.prog x n s.sent (fr4 Tryz.prog x n Q :: cs) R K) #[scs x.Ch s.sent] .send)
structure I1 (gs : Array Goroutine) (w : World) (j : Nat) (D : Nat → TD) (C : CD) (s : Sh) (k : Parts) (fu dw : Nat → Nat) (f0 : Nat) (lo : Option LSt) (Wc : World) (t : Trace) : Prop where
  size : gs.size = j + 1
  ai : AInv n j D C s
  wd : Wd x n (CanOk x u) u B W0 k s w
  ba : Base x n (.slice sa sl sc) w
  g0 : ∃ a, gs[0]? = some a ∧ CS x n cs C j s f0 a
  gw : ∀ i, i < j → ∃ g, gs[i + 1]? = some g ∧ WS x n B u sa sl sc L k (D i) s (fu i) (dw i) lo Wc g w
  meet : ∀ a, gs[0]? = some a → a.status = .blocked → C.ph = .sd → ∀ i g, i < j → (D i).ph = .rcv → gs[i + 1]? = some g → g.status = .running
  st : ∀ i, i < j → (D i).ph = .stP → B ≤ k.pa.block ∧ w.cell? k.pa = some (.iface k.t k.v) ∧ 0 < k.pl ∧ CanOk x u k.t
  tl : TL (fam x B) n j D s t
  rl : RL (fam x B).Sh (wa x) j D t dw (dC C.ph)
  acc : AccO (Further (Cl Tryz.prog x L W0).bare (Rm x B u)) lo
  fin : C.ph ≠ .fin
def mu (gs : Array Goroutine) (j : Nat) (D : Nat → TD) (C : CD) (s : Sh) (fu : Nat → Nat) (f0 : Nat) (lo : Option LSt) : Mu := (Phi n j D C s, Lam j D C s, lo, (n + 3) * (sumTo j fu + f0) + awk gs j)
end
section
variable {x : Cx} {n B : Nat} {cs : List Frame} {u : Int} {W0 : World} {sa : Option Addr} {sl sc : Nat} {L : List FuncId} {k k' : Parts} {T : TD} {s s' : Sh} {m d : Nat} {lo : Option LSt} {Wc w w' : World} {g : Goroutine} {C : CD} {j : Nat}
theorem sil_running {P : Program} {main : Bool} {Lv : World → Prop} {m : Nat} {g h : Goroutine} (hs : Sil P main Lv m g h) (hh : h.status = .running) : g.status = .running := by
  cases m with
  | zero => have hs : g = h := hs; rw [hs]; exact hh
  | succ m => exact hs.1
theorem run_sGa (x : Cx) (n j : Int) (cs : List Frame) (J : Nat → Value) : (sGa Tryz.prog x n j cs J).status = .running := by kernel_rfl
theorem run_sGb (x : Cx) (n j : Int) (cs : List Frame) (J : Nat → Value) : (sGb Tryz.prog x n j cs J).status = .running := by kernel_rfl
theorem run_sGr (x : Cx) (n j : Int) (cs : List Frame) (J : Nat → Value) : (sGr Tryz.prog x n j cs J).status = .running := by kernel_rfl
theorem run_sKw (x : Cx) (n : Int) (cs : List Frame) (K : Nat → Value) : (sKw Tryz.prog x n cs K).status = .running := by kernel_rfl
theorem run_sW1 (x : Cx) (n : Int) (cs : List Frame) (K R : Nat → Value) : (sW1 Tryz.prog x n cs K R).status = .running := by kernel_rfl
theorem run_sW2 (x : Cx) (n : Int) (cs : List Frame) (K R : Nat → Value) (v : Int) : (sW2 Tryz.prog x n cs K R v).status = .running := by kernel_rfl
theorem run_sWw (x : Cx) (n : Int) (cs : List Frame) (K R : Nat → Value) (v : Int) : (sWw Tryz.prog x n cs K R v).status = .running := by kernel_rfl
theorem run_sW3 (x : Cx) (n : Int) (cs : List Frame) (K R : Nat → Value) (v : Int) : (sW3 Tryz.prog x n cs K R v).status = .running := by kernel_rfl
theorem run_sW4 (x : Cx) (n : Int) (cs : List Frame) (K R : Nat → Value) (v : Int) : (sW4 Tryz.prog x n cs K R v).status = .running := by kernel_rfl
theorem run_sKe1 (x : Cx) (n : Int) (cs : List Frame) (K R : Nat → Value) : (sKe1 Tryz.prog x n cs K R).status = .running := by kernel_rfl
theorem run_sKe2 (x : Cx) (n : Int) (cs : List Frame) (K R : Nat → Value) (v : Int) : (sKe2 Tryz.prog x n cs K R v).status = .running := by kernel_rfl
theorem run_sAq1 (x : Cx) (n : Int) (cs : List Frame) (K R : Nat → Value) : (sAq1 Tryz.prog x n cs K R).status = .running := by kernel_rfl
theorem run_sAq2 (x : Cx) (n : Int) (cs : List Frame) (K R : Nat → Value) (v : Int) : (sAq2 Tryz.prog x n cs K R v).status = .running := by kernel_rfl
theorem atC_running {j sent : Nat} (h : AtC x n cs C j sent g) : g.status = .running := by
  obtain ⟨ph, old⟩ := C
  cases ph
  case ga => obtain ⟨J, Q, h⟩ := h; rw [h]; exact run_sGa ..
  case gb => obtain ⟨J, Q, h⟩ := h; rw [h]; exact run_sGb ..
  case gr => obtain ⟨J, Q, h⟩ := h; rw [h]; exact run_sGr ..
  case ge => obtain ⟨J, Q, V, td, h⟩ := h; rw [h]; rfl
  case gg => obtain ⟨J, Q, h⟩ := h; rw [h]; rfl
  case gl => obtain ⟨J, Q, h⟩ := h; rw [h]; rfl
  case sd => obtain ⟨R, K, Q, h⟩ := h; rw [h]; rfl
  case cl => obtain ⟨R, K, Q, h⟩ := h; rw [h]; rfl
  case kw => obtain ⟨K, Q, h⟩ := h; rw [h]; exact run_sKw ..
  case w1 => obtain ⟨K, R, Q, h⟩ := h; rw [h]; exact run_sW1 ..
  case w2 => obtain ⟨K, R, Q, h⟩ := h; rw [h]; exact run_sW2 ..
  case ww => obtain ⟨K, R, Q, v, _, h⟩ := h; rw [h]; exact run_sWw ..
  case w3 => obtain ⟨K, R, Q, v, h⟩ := h; rw [h]; exact run_sW3 ..
  case w4 => obtain ⟨K, R, Q, v, h⟩ := h; rw [h]; exact run_sW4 ..
  case ke =>
    rcases h with ⟨K, R, Q, h⟩ | ⟨K, R, Q, v, h⟩
    · rw [h]; exact run_sKe1 ..
    · rw [h]; exact run_sKe2 ..
  case aq =>
    rcases h with ⟨K, R, Q, h⟩ | ⟨K, R, Q, v, h⟩
    · rw [h]; exact run_sAq1 ..
    · rw [h]; exact run_sAq2 ..
  case fin => obtain ⟨K, h⟩ := h; rw [h]; rfl
theorem AtW.rek (h : AtW x n u k T g) (hE : isE T.ph = false) (hp : T.ph ≠ .rg ∧ T.ph ≠ .cn) : AtW x n u k' T g := by
  obtain ⟨ph, item, old, aw, sv, it, rest⟩ := T
  cases ph <;> first | (cases hE; done) | exact absurd rfl hp.1 | exact absurd rfl hp.2 | exact h
/-- The turned blocks keep their make. -/
theorem moves_make {k k' : Parts} (h : Wd x n (CanOk x u) u B W0 k s w) (h' : Wd x n (CanOk x u) u B W0 k' s' w') (b : Nat) (hb : Turned x b) (Cc : Lift.Cls) (hch : b = x.Ch → Cc.ch b) : Lift.SameMake Cc b w.heap[b]? w'.heap[b]? := by
  rcases hb with rfl | rfl | rfl | rfl | rfl | rfl
  · exact .inr (.inl ⟨_, _, _, _, _, h.on, h'.on⟩)
  · exact .inr (.inl ⟨_, _, _, _, _, h.pa, h'.pa⟩)
  · exact .inr (.inl ⟨_, _, _, _, _, h.md, h'.md⟩)
  · obtain ⟨c, e, _⟩ := h.oa
    obtain ⟨c', e', _⟩ := h'.oa
    exact .inr (.inl ⟨_, _, _, _, _, e, e'⟩)
  · exact .inr (.inr ⟨_, _, h.ch, h'.ch, hch rfl, hch rfl⟩)
  · exact .inr (.inl ⟨_, _, _, _, _, h.wg, h'.wg⟩)
theorem sim_moves {k k' : Parts} {w0 : World} (h : Wd x n (CanOk x u) u B W0 k s w) (h' : Wd x n (CanOk x u) u B W0 k' s' w') (hm : Moves x w w') (hB : B ≤ Wc.heap.size) (hD : Dist x B) (hch : ∃ c d e f g h, Wc.heap[x.Ch]? = some (.chan c d e f g h))
    (sim : Sim (Cl Tryz.prog x L Wc) w0 w) : Sim (Cl Tryz.prog x L Wc) w0 w' := by
  have tb : ∀ b, Turned x b → b < B := by
    intro b hb
    obtain ⟨d1, d2, d3, d4, d5, d6, d7, d8, d9, d10⟩ := hD
    rcases hb with rfl | rfl | rfl | rfl | rfl | rfl <;> omega
  refine Lift.sim_others sim hm.size (fun b hb hp => ?_) (fun b hb => hm.rest b fun hT => hb ⟨?_, .inl hT⟩)
  · by_cases hT : Turned x b
    · exact moves_make h h' b hT _ fun e => e ▸ hch
    · exact .inl (hm.rest b hT)
  · have : Wc.heap.size = (Cl Tryz.prog x L Wc).n0 := rfl
    have := tb b hT
    show b < Wc.heap.size
    omega
/-- What another's step leaves of a worker's stand. -/
theorem WS.others {a a' : Goroutine} (h : WS x n B u sa sl sc L k T s m d lo Wc g w) (hD : Dist x B) (hw : Wd x n (CanOk x u) u B W0 k s w) (hw' : Wd x n (CanOk x u) u B W0 k s' w') (hm : T.ph = .mk → Moves x w w')
    (h1 : s.ms = 0 → s'.ms = 0 ∨ (mayWake Tryz.prog a = true ∧ a'.status ≠ .blocked ∧ a'.status ≠ .waiting)) (h2 : s'.shut = s.shut ∨ (s'.shut = true ∧ mayWake Tryz.prog a = true ∧ a'.status ≠ .blocked ∧ a'.status ≠ .waiting)) :
    WS x n B u sa sl sc L k T s' m d lo Wc (woken Tryz.prog a a' w' g) w' := by
  have wk : mayWake Tryz.prog a = true ∧ a'.status ≠ .blocked ∧ a'.status ≠ .waiting → ∀ o, woken Tryz.prog a a' w' o = o.again w' := by
    rintro ⟨e1, e2, e3⟩ o
    unfold woken
    rw [if_pos (by simp [e1, e2, e3])]
  have two : ∀ o, woken Tryz.prog a a' w' o = o ∨ woken Tryz.prog a a' w' o = o.again w' := by
    intro o; unfold woken; split <;> simp
  have run : ∀ o : Goroutine, o.status = .running → woken Tryz.prog a a' w' o = o := by
    intro o ho
    rcases two o with e | e
    · exact e
    · rw [e, again_running _ (.inl ho)]
  rcases h with ⟨n1, n2, hd, h⟩ | ⟨hp, hd, J, l, hl, hs, hy, sim, hB, hch⟩ | ⟨hp, hq⟩
  · refine .inl ⟨n1, n2, hd, ?_⟩
    rcases h with ⟨h, hs, ha⟩ | ⟨hp, hm0, hms, h, ha, ho, rfl⟩ | ⟨hp, hm0, J, ⟨hsh, rfl⟩ | ⟨hsh, rfl⟩⟩
    · rw [run g (sil_running hs ha.running)]
      exact .inl ⟨h, hs, ha⟩
    · have hag : ({ h with status := .blocked } : Goroutine).again w' = h := by
        have hr := ha.running
        obtain ⟨f, c, st, dy, of⟩ := h
        simp only at ho hr
        subst ho hr
        rfl
      rcases h1 hms with h0 | hwk
      · rcases two { h with status := .blocked } with e | e
        · rw [e]; exact .inr (.inl ⟨hp, hm0, h0, h, ha, ho, rfl⟩)
        · rw [e, hag, hm0]; exact .inl ⟨h, rfl, ha⟩
      · rw [wk hwk, hag, hm0]; exact .inl ⟨h, rfl, ha⟩
    · have hc := hw'.ch
      rcases h2 with e2 | ⟨e2, hwk⟩
      · rw [e2, hsh] at hc
        have hag : (parked (mkRcv Tryz.prog x J) #[rc x.Ch] (.recv true)).again w' = parked (mkRcv Tryz.prog x J) #[rc x.Ch] (.recv true) := again_recv_open hc
        have : woken Tryz.prog a a' w' (parked (mkRcv Tryz.prog x J) #[rc x.Ch] (.recv true)) = parked (mkRcv Tryz.prog x J) #[rc x.Ch] (.recv true) := by
          rcases two (parked (mkRcv Tryz.prog x J) #[rc x.Ch] (.recv true)) with e | e
          · exact e
          · rw [e, hag]
        rw [this]
        exact .inr (.inr ⟨hp, hm0, J, .inl ⟨by rw [e2, hsh], rfl⟩⟩)
      · rw [e2] at hc
        rw [wk hwk, show (parked (mkRcv Tryz.prog x J) #[rc x.Ch] (.recv true)).again w' = _ from again_recv_closed hc]
        exact .inr (.inr ⟨hp, hm0, J, .inr ⟨e2, rfl⟩⟩)
    · rw [run _ rfl]
      refine .inr (.inr ⟨hp, hm0, J, .inr ⟨?_, rfl⟩⟩)
      rcases h2 with e2 | ⟨e2, _⟩
      · rw [e2, hsh]
      · exact e2
  · rw [run g (sil_running hs rfl)]
    exact .inr (.inl ⟨hp, hd, J, l, hl, hs, hy, sim_moves hw hw' (hm hp) hB hD hch sim, hB, hch⟩)
  · rw [woken_quitsD hq]
    exact .inr (.inr ⟨hp, hq⟩)
/-- .. of the starter's. -/
theorem CS.others {a a' : Goroutine} {g0 : Goroutine} (h : CS x n cs C j s m g0) (hc : ∃ r q, w'.heap[x.Ch]? = some (.chan 0 #[] s'.shut r q false)) (hsent : s'.sent = s.sent) (hsd : C.ph = .sd → s'.shut = false)
    (h1 : s.wm = 0 → s'.wm = 0 ∨ (mayWake Tryz.prog a = true ∧ a'.status ≠ .blocked ∧ a'.status ≠ .waiting)) : CS x n cs C j s' m (woken Tryz.prog a a' w' g0) := by
  have two : ∀ o, woken Tryz.prog a a' w' o = o ∨ woken Tryz.prog a a' w' o = o.again w' := by
    intro o; unfold woken; split <;> simp
  have wk : mayWake Tryz.prog a = true ∧ a'.status ≠ .blocked ∧ a'.status ≠ .waiting → ∀ o, woken Tryz.prog a a' w' o = o.again w' := by
    rintro ⟨e1, e2, e3⟩ o
    unfold woken
    rw [if_pos (by simp [e1, e2, e3])]
  rcases h with ⟨h, hs, ha⟩ | ⟨hp, hm0, hwm, h, ha, ho, hr, rfl⟩ | ⟨hp, hm0, R, K, Q, rfl⟩
  · have : woken Tryz.prog a a' w' g0 = g0 := by
      rcases two g0 with e | e
      · exact e
      · rw [e, again_running _ (.inl (sil_running hs (atC_running ha)))]
    rw [this]
    exact .inl ⟨h, hs, by rw [hsent]; exact ha⟩
  · have hag : ({ h with status := .blocked } : Goroutine).again w' = h := by
      obtain ⟨f, c, st, dy, of⟩ := h
      simp only at ho hr
      subst ho hr
      rfl
    rcases h1 hwm with h0 | hwk
    · rcases two { h with status := .blocked } with e | e
      · rw [e]; exact .inr (.inl ⟨hp, hm0, h0, h, by rw [hsent]; exact ha, ho, hr, rfl⟩)
      · rw [e, hag, hm0]; exact .inl ⟨h, rfl, by rw [hsent]; exact ha⟩
    · rw [wk hwk, hag, hm0]; exact .inl ⟨h, rfl, by rw [hsent]; exact ha⟩
  · obtain ⟨r, q, hc⟩ := hc
    rw [hsd hp] at hc
    have hag : (parked (mkSe Tryz.prog x n s.sent (fr4 Tryz.prog x n Q :: cs) R K) #[scs x.Ch s.sent] .send).again w' = parked (mkSe Tryz.prog x n s.sent (fr4 Tryz.prog x n Q :: cs) R K) #[scs x.Ch s.sent] .send := again_send_open hc
    have : woken Tryz.prog a a' w' (parked (mkSe Tryz.prog x n s.sent (fr4 Tryz.prog x n Q :: cs) R K) #[scs x.Ch s.sent] .send) = parked (mkSe Tryz.prog x n s.sent (fr4 Tryz.prog x n Q :: cs) R K) #[scs x.Ch s.sent] .send := by
      rcases two (parked (mkSe Tryz.prog x n s.sent (fr4 Tryz.prog x n Q :: cs) R K) #[scs x.Ch s.sent] .send) with e | e
      · exact e
      · rw [e, hag]
    rw [this]
    exact .inr (.inr ⟨hp, hm0, R, K, Q, by rw [hsent]⟩)
end
end Go.Proofs.YthjofgmiabcifabGreatDoor.Ma
