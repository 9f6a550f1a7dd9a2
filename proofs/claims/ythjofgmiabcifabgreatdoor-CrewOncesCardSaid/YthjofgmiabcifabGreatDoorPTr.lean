/-
  The trace of the crowd has no race.
  Conditions: as each theorem says.
-/
import Derived.Test.YthjofgmiabcifabGreatDoorPAc
import Derived.Conc.CrowdTrace
import Derived.Conc.CrowdBase
set_option linter.unusedVariables false
set_option linter.unusedSimpArgs false
namespace Go.Proofs.YthjofgmiabcifabGreatDoor.Tr
open Go Go.Conc
open Go.ConcN (PermW fork_knows Deaf_absent upd upd_same upd_ne)
open Go.Proofs.YthjofgmiabcifabGreatDoor.Ab
/-- The families of places. -/
structure Fam where
  Sh : Loc → Prop
  Od : Loc → Prop
  Mk : Loc → Prop
  Pl : Nat → Loc
  Dn : Addr
structure Fam.Ok (F : Fam) : Prop where
  od_sh : ∀ l, F.Od l → ¬ F.Sh l
  mk_sh : ∀ l, F.Mk l → ¬ F.Sh l
  pl_sh : ∀ i, ¬ F.Sh (F.Pl i)
  od_mk : ∀ l, F.Od l → ¬ F.Mk l
  od_pl : ∀ i, ¬ F.Od (F.Pl i)
  mk_pl : ∀ i, ¬ F.Mk (F.Pl i)
  inj : ∀ i i', F.Pl i = F.Pl i' → i = i'
  dn_sh : F.Sh (.cell F.Dn)
/-- At the work. -/
def isE (p : Ph) : Bool := match p with | .ldS | .mk | .stP | .am | .drS | .stD => true | _ => false
/-- Every write to the place is ahead of p, or it is p. -/
def PermAtW (t : Trace) (l : Loc) (p : Nat) : Prop := ∀ i a, touchAt t i = some a → a.loc = l → a.write = true → Before t i p
/-- The work was done at p. -/
structure DoneAt (t : Trace) (a : Addr) (p : Nat) : Prop where
  act : t.act? p = some (.access ⟨.cell a, true, true⟩)
  heard : t.heard p
  last : ∀ k sync, p < k → t.act? k ≠ some (.access ⟨.cell a, true, sync⟩)
structure TL (F : Fam) (n j : Nat) (D : Nat → TD) (s : Sh) (t : Trace) : Prop where
  quiet : Quiet F.Sh t
  nr : ∀ said, ¬ Race said t
  gs : ∀ (i : Nat) (op : MemOp), t[i]? = some op → op.g ≤ j
  old : ∀ g, g ≤ j → ∀ l, F.Od l → PermW t g l
  pl : ∀ i, i < n → s.fill i = false → ∀ g, g ≤ j → Perm t g (F.Pl i)
  mk0 : s.done = false → (∀ k, k < j → isE (D k).ph = false) → ∀ g, g ≤ j → ∀ l, F.Mk l → Perm t g l
  mk1 : s.done = false → ∀ k, k < j → isE (D k).ph = true → ∀ l, F.Mk l → Perm t (k + 1) l
  dn : s.done = true → ∃ p, DoneAt t F.Dn p ∧ (∀ l, F.Mk l → PermAtW t l p) ∧ ∀ k, k < j → past (D k).ph = true → Knows t (k + 1) p
/-- What goroutine g may touch. -/
def Touchy (F : Fam) (n j : Nat) (D : Nat → TD) (s : Sh) (t : Trace) (g : Nat) (x : Touch) : Prop :=
  (F.Sh x.loc ∧ x.kind ≠ .plain ∧ (x.kind = .said → g = 0)) ∨ (F.Od x.loc ∧ x.write = false) ∨
  (F.Mk x.loc ∧ x.write = false ∧ s.done = true ∧ PermW t g x.loc) ∨ (F.Mk x.loc ∧ s.done = false ∧ ∃ k, g = k + 1 ∧ k < j ∧ isE (D k).ph = true) ∨
  (∃ i, i < n ∧ x.loc = F.Pl i ∧ s.fill i = true ∧ Perm t g x.loc)
section
variable {F : Fam} {n j : Nat} {D : Nat → TD} {s s' : Sh} {t u : Trace}
theorem PermAtW.app {l : Loc} {p : Nat} (h : PermAtW t l p) (hu : ∀ op ∈ u, ∀ b, op.act.touch? = some b → b.loc = l → b.write = true → False) : PermAtW (t ++ u) l p := by
  intro i a ha hl hw
  obtain ⟨x, hx, hxa⟩ := touch_of ha
  rcases getElem?_append_cases hx with ⟨hi, hx'⟩ | ⟨_, hxu⟩
  · exact (h i a (by rw [touchAt_of hx']; exact hxa) hl hw).app u
  · exact (hu x hxu a hxa hl hw).elim
theorem DoneAt.app {a : Addr} {p : Nat} (h : DoneAt t a p) (hu : ∀ op ∈ u, ∀ sync, op.act ≠ .access ⟨.cell a, true, sync⟩) : DoneAt (t ++ u) a p := by
  have hp := lt_of_act? h.act
  refine ⟨by rw [act?_old hp]; exact h.act, (heard_old hp).2 h.heard, fun k sync hk e => ?_⟩
  obtain ⟨op, ho, hoa⟩ := Option.map_eq_some_iff.1 e
  rcases getElem?_append_cases ho with ⟨hi, ho'⟩ | ⟨_, hou⟩
  · exact h.last k sync hk (by rw [act?_of ho', hoa])
  · exact hu op hou sync hoa
/-- ONE GOROUTINE's OPERATIONS. -/
theorem TL.app (A : F.Ok) (h : TL F n j D s t) {g : Nat} (hg : g ≤ j) (uniq : ∀ k k', k < j → k' < j → isE (D k).ph = true → isE (D k').ph = true → k = k')
    (hu : ∀ op ∈ u, op.g = g ∧ ∀ x, op.act.touch? = some x → Touchy F n j D s t g x) (hd : s.done = true → ∀ op ∈ u, ∀ sync, op.act ≠ .access ⟨.cell F.Dn, true, sync⟩) : TL F n j D s (t ++ u) := by
  refine ⟨h.quiet.app fun op hop x hx hs => ?_, fun said => ?_, fun i op hi => ?_, fun g' hg' l hl => (h.old g' hg' l hl).app fun op hop b hb e hw => ?_, fun i hi hf g' hg' => (h.pl i hi hf g' hg').app fun op hop b hb e => ?_,
    fun h0 hE g' hg' l hl => (h.mk0 h0 hE g' hg' l hl).app fun op hop b hb e => ?_, fun h0 k hk hE l hl => (h.mk1 h0 k hk hE l hl).app fun op hop b hb e => ?_, fun h1 => ?_⟩
  · rcases (hu op hop).2 x hx with ⟨_, h1, h2⟩ | ⟨h1, _⟩ | ⟨h1, _⟩ | ⟨h1, _⟩ | ⟨i, _, h1, _⟩
    · exact ⟨h1, fun e => (hu op hop).1.trans (h2 e)⟩
    · exact absurd hs (A.od_sh _ h1)
    · exact absurd hs (A.mk_sh _ h1)
    · exact absurd hs (A.mk_sh _ h1)
    · rw [h1] at hs; exact absurd hs (A.pl_sh i)
  · refine noRace_append (h.nr said) (fun op hop => (hu op hop).1) (fun i a ha op hop b hb hc => ?_)
    rcases (hu op hop).2 b hb with ⟨h0, h1, h2⟩ | ⟨h1, h2⟩ | ⟨h1, h2, _, h3⟩ | ⟨h1, h2, k, rfl, hk, hE⟩ | ⟨i', _, h1, _, h3⟩
    · exact h.quiet.known h0 h1 h2 i a ha hc
    · exact h.old g hg _ h1 i a ha hc.1 (hc.2.2.1.resolve_right (by simp [h2]))
    · exact h3 i a ha hc.1 (hc.2.2.1.resolve_right (by simp [h2]))
    · exact h.mk1 h2 k hk hE _ h1 i a ha hc.1
    · exact h3 i a ha hc.1
  · rcases getElem?_append_cases hi with ⟨_, hi'⟩ | ⟨_, hiu⟩
    · exact h.gs i op hi'
    · rw [(hu op hiu).1]; exact hg
  · rcases (hu op hop).2 b hb with ⟨h1, _⟩ | ⟨_, h2⟩ | ⟨h1, _⟩ | ⟨h1, _⟩ | ⟨i, _, h1, _⟩
    · exact absurd (e ▸ h1) (A.od_sh _ hl)
    · rw [h2] at hw; cases hw
    · exact absurd (e ▸ h1) (A.od_mk _ hl)
    · exact absurd (e ▸ h1) (A.od_mk _ hl)
    · rw [← e, h1] at hl; exact absurd hl (A.od_pl i)
  · rcases (hu op hop).2 b hb with ⟨h1, _⟩ | ⟨h1, _⟩ | ⟨h1, _⟩ | ⟨h1, _⟩ | ⟨i', _, h1, h2, _⟩
    · rw [e] at h1; exact absurd h1 (A.pl_sh i)
    · rw [e] at h1; exact absurd h1 (A.od_pl i)
    · rw [e] at h1; exact absurd h1 (A.mk_pl i)
    · rw [e] at h1; exact absurd h1 (A.mk_pl i)
    · rw [e] at h1; rw [A.inj _ _ h1, h2] at hf; cases hf
  · rcases (hu op hop).2 b hb with ⟨h1, _⟩ | ⟨h1, _⟩ | ⟨_, _, h1, _⟩ | ⟨_, _, k, _, hk, hE'⟩ | ⟨i', _, h1, _⟩
    · exact absurd (e ▸ h1) (A.mk_sh _ hl)
    · exact absurd hl (A.od_mk _ (e ▸ h1))
    · rw [h0] at h1; cases h1
    · rw [hE k hk] at hE'; cases hE'
    · rw [← e, h1] at hl; exact absurd hl (A.mk_pl i')
  · rcases (hu op hop).2 b hb with ⟨h1, _⟩ | ⟨h1, _⟩ | ⟨_, _, h1, _⟩ | ⟨_, _, k', hgk, hk', hE'⟩ | ⟨i', _, h1, _⟩
    · exact absurd (e ▸ h1) (A.mk_sh _ hl)
    · exact absurd hl (A.od_mk _ (e ▸ h1))
    · rw [h0] at h1; cases h1
    · rw [(hu op hop).1, hgk, uniq k' k hk' hk hE' hE]
    · rw [← e, h1] at hl; exact absurd hl (A.mk_pl i')
  · obtain ⟨p, p1, p2, p3⟩ := h.dn h1
    refine ⟨p, p1.app (hd h1), fun l hl => (p2 l hl).app fun op hop b hb e hw => ?_, fun k hk hp => (p3 k hk hp).app u⟩
    rcases (hu op hop).2 b hb with ⟨h2, _⟩ | ⟨h2, _⟩ | ⟨_, h2, _⟩ | ⟨_, h2, _⟩ | ⟨i', _, h2, _⟩
    · exact absurd (e ▸ h2) (A.mk_sh _ hl)
    · exact absurd hl (A.od_mk _ (e ▸ h2))
    · rw [h2] at hw; cases hw
    · rw [h1] at h2; cases h2
    · rw [← e, h2] at hl; exact absurd hl (A.mk_pl i')
/-- A worker's phase turns, nothing is listed. -/
theorem TL.move (h : TL F n j D s t) {k : Nat} {T' : TD} (hk : k < j) (e1 : s'.done = s.done) (e2 : ∀ i, i < n → s'.fill i = false → s.fill i = false)
    (e3 : isE T'.ph = true → isE (D k).ph = true ∨ (s.done = false → ∀ k, k < j → isE (D k).ph = false)) (e3' : s.done = false → isE (D k).ph = true → isE T'.ph = true)
    (e4 : past T'.ph = true → s.done = true → past (D k).ph = true ∨ ∀ p, DoneAt t F.Dn p → Knows t (k + 1) p) : TL F n j (upd D k T') s' t := by
  refine ⟨h.quiet, h.nr, h.gs, h.old, fun i hi hf => h.pl i hi (e2 i hi hf), fun h0 hE => ?_, fun h0 k' hk' hE => ?_, fun h1 => ?_⟩
  · rw [e1] at h0
    refine h.mk0 h0 fun k' hk' => ?_
    have := hE k' hk'
    by_cases e : k' = k
    · subst e
      rw [upd_same] at this
      cases hx : isE (D k').ph with
      | false => rfl
      | true => rw [e3' h0 hx] at this; cases this
    · rwa [upd_ne _ _ e] at this
  · rw [e1] at h0
    by_cases e : k' = k
    · subst e
      rw [upd_same] at hE
      rcases e3 hE with h2 | h2
      · exact h.mk1 h0 k' hk' h2
      · exact h.mk0 h0 (h2 h0) (k' + 1) (by omega)
    · rw [upd_ne _ _ e] at hE
      exact h.mk1 h0 k' hk' hE
  · rw [e1] at h1
    obtain ⟨p, p1, p2, p3⟩ := h.dn h1
    refine ⟨p, p1, p2, fun k' hk' hp => ?_⟩
    by_cases e : k' = k
    · subst e
      rw [upd_same] at hp
      rcases e4 hp h1 with h2 | h2
      · exact p3 k' hk' h2
      · exact h2 p p1
    · rw [upd_ne _ _ e] at hp
      exact p3 k' hk' hp
/-- The shared state turns but for 'done' and the places. -/
theorem TL.state (h : TL F n j D s t) (e1 : s'.done = s.done) (e2 : s'.fill = s.fill) : TL F n j D s' t := by
  refine ⟨h.quiet, h.nr, h.gs, h.old, fun i hi hf => h.pl i hi (by rw [← e2]; exact hf), fun h0 => h.mk0 (by rw [← e1]; exact h0), fun h0 => h.mk1 (by rw [← e1]; exact h0), fun h0 => h.dn (by rw [← e1]; exact h0)⟩
/-- A read of 'done' that hears: it knows. -/
theorem DoneAt.sees {a : Addr} {p : Nat} {y : MemOp} (h : DoneAt t a p) (hy : y.act = .access ⟨.cell a, false, true⟩) (hd : Deaf t y.g = 0) : Knows (t ++ #[y]) y.g p := by
  have hlast : (t ++ #[y])[t.size]? = some y := by rw [Array.getElem?_append_right (Nat.le_refl _)]; simp
  have hp := lt_of_act? h.act
  refine ⟨t.size, y, hlast, rfl, .inr (.single (.inr ⟨.atomic (a := a) hp (by rw [act?_old hp]; exact h.act) (by rw [act?_of hlast, hy]) (fun k sync h1 h2 => by rw [act?_old h2]; exact h.last k sync h1), (heard_old hp).2 h.heard, ?_⟩))⟩
  exact ⟨y.g, by simp [Trace.g?], by rw [deaf_old (Nat.le_refl _)]; exact hd⟩
/-- THE WORK IS DONE. -/
theorem TL.finish (A : F.Ok) (h : TL F n j D s t) {k : Nat} {T' : TD} {y : MemOp} (hk : k < j) (hE : isE (D k).ph = true) (h0 : s.done = false) (e1 : s'.done = true) (e2 : ∀ i, i < n → s'.fill i = false → s.fill i = false)
    (hp : ∀ k', k' < j → k' ≠ k → past (D k').ph = false) (hE' : ∀ k', k' < j → isE (upd D k T' k').ph = false) (hy : y.act = .access ⟨.cell F.Dn, true, true⟩) (hg : y.g = k + 1) (hd : Deaf t (k + 1) = 0) :
    TL F n j (upd D k T') s' (t ++ #[y]) := by
  have hlast : (t ++ #[y])[t.size]? = some y := by rw [Array.getElem?_append_right (Nat.le_refl _)]; simp
  have ht : ∀ op ∈ #[y], op.g = k + 1 ∧ ∀ x, op.act.touch? = some x → x = ⟨.cell F.Dn, true, .atomic⟩ := by
    intro op hop
    simp only [List.mem_toArray, List.mem_singleton] at hop
    subst hop
    refine ⟨hg, fun x hx => ?_⟩
    rw [hy] at hx
    simpa [MemAct.touch?] using hx.symm
  refine ⟨h.quiet.app fun op hop x hx hs => by rw [(ht op hop).2 x hx]; simp, fun said => ?_, fun i op hi => ?_, fun g' hg' l hl => (h.old g' hg' l hl).app fun op hop b hb e hw => ?_, fun i hi hf g' hg' => (h.pl i hi (e2 i hi hf) g' hg').app fun op hop b hb e => ?_,
    fun h0 => (by rw [e1] at h0; cases h0), fun h0 => (by rw [e1] at h0; cases h0), fun _ => ⟨t.size, ⟨by rw [act?_of hlast, hy], ?_, fun q sync hq e => ?_⟩, fun l hl i a ha hal _ => ?_, fun k' hk' hpa => ?_⟩⟩
  · refine noRace_append (h.nr said) (fun op hop => (ht op hop).1) (fun i a ha op hop b hb hc => ?_)
    have e := (ht op hop).2 b hb
    subst e
    exact h.quiet.known A.dn_sh (by simp) (by simp) i a ha hc
  · rcases getElem?_append_cases hi with ⟨_, hi'⟩ | ⟨_, hiu⟩
    · exact h.gs i op hi'
    · rw [(ht op hiu).1]; omega
  · have := (ht op hop).2 b hb
    subst this
    have e : Loc.cell F.Dn = l := e
    rw [← e] at hl
    exact absurd A.dn_sh (A.od_sh _ hl)
  · have := (ht op hop).2 b hb
    subst this
    have e : Loc.cell F.Dn = F.Pl i := e
    exact absurd (e ▸ A.dn_sh) (A.pl_sh i)
  · exact ⟨k + 1, by simp [Trace.g?, hg], by rw [deaf_old (Nat.le_refl _)]; exact hd⟩
  · have := lt_of_act? e
    simp at this
    omega
  · exact (h.mk1 h0 k hk hE l hl).release hg (fun b hb e => by have := (ht y (by simp)).2 b hb; subst this; have e : Loc.cell F.Dn = l := e; exact A.mk_sh l hl (e ▸ A.dn_sh)) i a ha hal
  · by_cases e : k' = k
    · subst e
      have := knows_own hlast
      rwa [hg] at this
    · rw [upd_ne _ _ e, hp k' hk' e] at hpa
      cases hpa
theorem old_touch {x y : MemOp} (hx : x.act.touch? = none) (hy : y.act.touch? = none) {i : Nat} {a : Touch} (ha : touchAt (t ++ #[x, y]) i = some a) : touchAt t i = some a := by
  obtain ⟨z, hz, hza⟩ := touch_of ha
  rcases getElem?_append_cases hz with ⟨_, hz'⟩ | ⟨_, hzu⟩
  · rw [touchAt_of hz']; exact hza
  · simp only [List.mem_toArray, List.mem_cons, List.not_mem_nil, or_false] at hzu
    rcases hzu with rfl | rfl
    · rw [hx] at hza; cases hza
    · rw [hy] at hza; cases hza
/-- A go STATEMENT. -/
theorem TL.fork (h : TL F n j D s t) {x y : MemOp} {T : TD} (hx : x.g = 0 ∧ x.act = .go (j + 1)) (hy : y.g = j + 1 ∧ y.act = .start) (h0 : Deaf t 0 = 0) (hE : isE T.ph = false) (hp : past T.ph = false) : TL F n (j + 1) (upd D j T) s (t ++ #[x, y]) := by
  have hk : Deaf t (j + 1) = 0 := Deaf_absent fun i op hi e => by have := h.gs i op hi; omega
  have tx : x.act.touch? = none := by rw [hx.2]; rfl
  have ty : y.act.touch? = none := by rw [hy.2]; rfl
  have hnt : ∀ op ∈ #[x, y], ∀ b, op.act.touch? = some b → False := by
    intro op hop b hb
    simp only [List.mem_toArray, List.mem_cons, List.not_mem_nil, or_false] at hop
    rcases hop with rfl | rfl
    · rw [tx] at hb; cases hb
    · rw [ty] at hb; cases hb
  have lift : ∀ g, g ≤ j + 1 → ∀ i, Knows t (if g = j + 1 then 0 else g) i → Knows (t ++ #[x, y]) g i := by
    intro g hg i hkn
    by_cases e : g = j + 1
    · rw [if_pos e] at hkn
      rw [e]
      exact fork_knows hx hy h0 hk hkn
    · rw [if_neg e] at hkn
      exact hkn.app _
  have le : ∀ g, g ≤ j + 1 → (if g = j + 1 then 0 else g) ≤ j := by intro g hg; split <;> omega
  refine ⟨h.quiet.app fun op hop b hb _ => (hnt op hop b hb).elim, fun said => ?_, fun i op hi => ?_, fun g hg l hl i a ha e hw => lift g hg i (h.old _ (le g hg) l hl i a (old_touch tx ty ha) e hw),
    fun i hi hf g hg i' a ha e => lift g hg i' (h.pl i hi hf _ (le g hg) i' a (old_touch tx ty ha) e), fun h1 hE' g hg l hl i a ha e => lift g hg i (h.mk0 h1 (fun k hk => ?_) _ (le g hg) l hl i a (old_touch tx ty ha) e),
    fun h1 k hk hE' l hl i a ha e => ?_, fun h1 => ?_⟩
  · have e : t ++ #[x, y] = (t ++ #[x]) ++ #[y] := by apply Array.ext'; simp
    rw [e]
    refine noRace_append (g := j + 1) (noRace_append (g := 0) (h.nr said) (fun op hop => by simp at hop; rw [hop]; exact hx.1) (fun i a _ op hop b hb _ => (hnt op (by simp at hop ⊢; exact .inl hop) b hb).elim))
      (fun op hop => by simp at hop; rw [hop]; exact hy.1) (fun i a _ op hop b hb _ => (hnt op (by simp at hop ⊢; exact .inr hop) b hb).elim)
  · rcases getElem?_append_cases hi with ⟨_, hi'⟩ | ⟨_, hiu⟩
    · exact Nat.le_succ_of_le (h.gs i op hi')
    · simp only [List.mem_toArray, List.mem_cons, List.not_mem_nil, or_false] at hiu
      rcases hiu with rfl | rfl
      · rw [hx.1]; exact Nat.zero_le _
      · rw [hy.1]; exact Nat.le_refl _
  · have := hE' k (by omega)
    rwa [upd_ne _ _ (by omega)] at this
  · by_cases ek : k = j
    · subst ek
      rw [upd_same, hE] at hE'
      cases hE'
    · rw [upd_ne _ _ ek] at hE'
      exact (h.mk1 h1 k (by omega) hE' l hl i a (old_touch tx ty ha) e).app _
  · obtain ⟨p, p1, p2, p3⟩ := h.dn h1
    refine ⟨p, p1.app (fun op hop sync e => ?_), fun l hl i a ha e hw => (p2 l hl i a (old_touch tx ty ha) e hw).app _, fun k hk hpa => ?_⟩
    · simp only [List.mem_toArray, List.mem_cons, List.not_mem_nil, or_false] at hop
      rcases hop with rfl | rfl
      · rw [hx.2] at e; cases e
      · rw [hy.2] at e; cases e
    · by_cases ek : k = j
      · subst ek
        rw [upd_same, hp] at hpa
        cases hpa
      · rw [upd_ne _ _ ek] at hpa
        exact (p3 k (by omega) hpa).app _
/-- Operations that touch nothing. -/
theorem TL.mute (h : TL F n j D s t) (hu : ∀ op ∈ u, op.g ≤ j ∧ op.act.touch? = none ∧ ∀ e, op.act ≠ .access e) : TL F n j D s (t ++ u) := by
  have no : ∀ op ∈ u, ∀ b, op.act.touch? = some b → False := fun op hop b hb => by rw [(hu op hop).2.1] at hb; cases hb
  have old : ∀ {i : Nat} {a : Touch}, touchAt (t ++ u) i = some a → i < t.size ∧ touchAt t i = some a := by
    intro i a ha
    obtain ⟨z, hz, hza⟩ := touch_of ha
    rcases getElem?_append_cases hz with ⟨hi, hz'⟩ | ⟨_, hzu⟩
    · exact ⟨hi, by rw [touchAt_of hz']; exact hza⟩
    · exact (no z hzu a hza).elim
  refine ⟨h.quiet.app fun op hop b hb _ => (no op hop b hb).elim, fun said ⟨i, i', hlt, ⟨a, b, ha, hb, hc⟩, n1, n2⟩ => ?_, fun i op hi => ?_, fun g hg l hl => (h.old g hg l hl).app fun op hop b hb _ _ => (no op hop b hb).elim,
    fun i hi hf g hg => (h.pl i hi hf g hg).app fun op hop b hb _ => (no op hop b hb).elim, fun h1 hE g hg l hl => (h.mk0 h1 hE g hg l hl).app fun op hop b hb _ => (no op hop b hb).elim,
    fun h1 k hk hE l hl => (h.mk1 h1 k hk hE l hl).app fun op hop b hb _ => (no op hop b hb).elim, fun h1 => ?_⟩
  · exact h.nr said ⟨i, i', hlt, ⟨a, b, (old ha).2, (old hb).2, hc⟩, fun e => n1 (hb_app u e), fun e => n2 (hb_app u e)⟩
  · rcases getElem?_append_cases hi with ⟨_, hi'⟩ | ⟨_, hiu⟩
    · exact h.gs i op hi'
    · exact (hu op hiu).1
  · obtain ⟨p, p1, p2, p3⟩ := h.dn h1
    exact ⟨p, p1.app fun op hop sync => (hu op hop).2.2 _, fun l hl => (p2 l hl).app fun op hop b hb _ _ => (no op hop b hb).elim, fun k hk hp => (p3 k hk hp).app u⟩
end
end Go.Proofs.YthjofgmiabcifabGreatDoor.Tr
namespace Go.Proofs.YthjofgmiabcifabGreatDoor.Tr
open Go Go.Conc
open Go.ConcN (PermW RelBy upd upd_same upd_ne)
open Go.ConcR (mk g_of_ofEvents ofEvent_mk ofEvent_loc_mark ofEvent_cell loc_of_ofEvent)
open Go.Proofs.YthjofgmiabcifabGreatDoor.Ab
/-- It has said its release. -/
def relP (p : Ph) : Bool := match p with | .wk | .d1 | .d2 | .d3 | .d4 | .quit => true | _ => false
structure RelS (Sh : Loc → Prop) (a : Addr) (t : Trace) (k r : Nat) : Prop where
  by_ : RelBy a t k r
  only : ∀ (i : Nat) (op : MemOp) (x : Touch), r < i → t[i]? = some op → op.g = k → op.act.touch? = some x → Sh x.loc
structure RL (Sh : Loc → Prop) (a : Addr) (j : Nat) (D : Nat → TD) (t : Trace) (dw : Nat → Nat) (d0 : Nat) : Prop where
  norel : NoRelease a t
  deaf0 : Deaf t 0 = d0
  deafW : ∀ k, k < j → Deaf t (k + 1) = dw k
  rel : ∀ k, k < j → relP (D k).ph = true → ∃ r, RelS Sh a t (k + 1) r
section
variable {Sh : Loc → Prop} {a : Addr} {j : Nat} {D : Nat → TD} {t u : Trace} {dw : Nat → Nat} {d0 : Nat}
theorem RelS.appOther {k r g : Nat} (h : RelS Sh a t k r) (hu : ∀ op ∈ u, op.g = g) (hg : g ≠ k) : RelS Sh a (t ++ u) k r := by
  refine ⟨h.by_.appOther hu hg, fun i op x hi ho hk hx => ?_⟩
  rcases getElem?_append_cases ho with ⟨_, ho'⟩ | ⟨_, hou⟩
  · exact h.only i op x hi ho' hk hx
  · exact absurd ((hu op hou).symm.trans hk) hg
theorem RelS.appNone {k r : Nat} (h : RelS Sh a t k r) (hu : ∀ op ∈ u, op.act.touch? = none) : RelS Sh a (t ++ u) k r := by
  refine ⟨h.by_.app fun i hi _ hc => ?_, fun i op x hi ho hk hx => ?_⟩
  · obtain ⟨x, hx, _⟩ := hc
    obtain ⟨op, ho, hox⟩ := touch_of hx
    rcases getElem?_append_cases ho with ⟨h1, _⟩ | ⟨_, hou⟩
    · omega
    · rw [hu op hou] at hox; cases hox
  · rcases getElem?_append_cases ho with ⟨_, ho'⟩ | ⟨_, hou⟩
    · exact h.only i op x hi ho' hk hx
    · rw [hu op hou] at hx; cases hx
theorem RelS.appOwn {k r : Nat} (h : RelS Sh a t k r) (fn : FuncId) (pos : String) (es : Array Event)
    (hes : ∀ j e, es[j]? = some e → (MemAct.ofEvent e).touch? = none ∨ ((∃ ad wr, e = ⟨.cell ad, wr, true⟩ ∧ Sh (.cell ad)) ∧ 0 < deafBehind (Deaf t k) (es.extract 0 j))) : RelS Sh a (t ++ MemOp.ofEvents k fn pos es) k r := by
  refine ⟨h.by_.appOwn fn pos es fun j e he => (hes j e he).imp id fun ⟨⟨ad, wr, h1, _⟩, h2⟩ => ⟨⟨ad, wr, h1⟩, h2⟩, fun i op x hi ho hk hx => ?_⟩
  rcases getElem?_append_cases ho with ⟨_, ho'⟩ | ⟨_, hou⟩
  · exact h.only i op x hi ho' hk hx
  · rw [ofEvents_eq] at hou
    obtain ⟨e, he, rfl⟩ := Array.mem_map.1 hou
    obtain ⟨q, hq⟩ := Array.getElem?_of_mem he
    rcases hes q e hq with h1 | ⟨⟨ad, wr, rfl, h1⟩, _⟩
    · rw [h1] at hx; cases hx
    · simp only [ofEvent_cell, MemAct.touch?, Option.some.injEq] at hx
      subst hx
      exact h1
theorem RelS.new {k : Nat} (hd : Deaf t k = 0) (fn : FuncId) (pos : String) : RelS Sh a (t ++ MemOp.ofEvents k fn pos #[⟨.mark (.releaseMerge a), false, true⟩]) k t.size := by
  refine ⟨RelBy.new hd fn pos, fun i op x hi ho hk hx => ?_⟩
  have := lt_size_of_getElem? ho
  rw [ofEvents_eq] at this
  simp at this
  omega
theorem norel_app (h : NoRelease a t) (hu : ∀ op ∈ u, op.act ≠ .mark (.release a)) : NoRelease a (t ++ u) := by
  intro i e
  obtain ⟨op, ho, hoa⟩ := Option.map_eq_some_iff.1 e
  rcases getElem?_append_cases ho with ⟨hi, ho'⟩ | ⟨_, hou⟩
  · exact h i (by rw [act?_of ho', hoa])
  · exact hu op hou hoa
theorem norel_es {g : Nat} {fn : FuncId} {pos : String} {es : Array Event} (h : ∀ e ∈ es, e.loc ≠ .mark (.release a)) : ∀ op ∈ MemOp.ofEvents g fn pos es, op.act ≠ .mark (.release a) := by
  intro op hop e
  rw [ofEvents_eq] at hop
  obtain ⟨x, hx, rfl⟩ := Array.mem_map.1 hop
  exact h x hx (loc_of_ofEvent e)
/-- A worker's step. -/
theorem RL.appW (h : RL Sh a j D t dw d0) {k : Nat} {T' : TD} (hk : k < j) {fn : FuncId} {pos : String} {es : Array Event} (hnr : ∀ e ∈ es, e.loc ≠ .mark (.release a))
    (hrel : relP T'.ph = true → ∃ r, RelS Sh a (t ++ MemOp.ofEvents (k + 1) fn pos es) (k + 1) r) : RL Sh a j (upd D k T') (t ++ MemOp.ofEvents (k + 1) fn pos es) (upd dw k (deafBehind (dw k) es)) d0 := by
  refine ⟨norel_app h.norel (norel_es hnr), by rw [Deaf_other t (g := 0) (g' := k + 1) (by omega) _ g_of_ofEvents, h.deaf0], fun k' hk' => ?_, fun k' hk' hr => ?_⟩
  · by_cases e : k' = k
    · subst e; rw [Deaf_own, h.deafW k' hk', upd_same]
    · rw [Deaf_other t (g := k' + 1) (g' := k + 1) (by omega) _ g_of_ofEvents, h.deafW k' hk', upd_ne _ _ e]
  · by_cases e : k' = k
    · subst e; rw [upd_same] at hr; exact hrel hr
    · rw [upd_ne _ _ e] at hr
      obtain ⟨r, hr⟩ := h.rel k' hk' hr
      exact ⟨r, hr.appOther (g := k + 1) g_of_ofEvents (by omega)⟩
/-- The starter's step. -/
theorem RL.app0 (h : RL Sh a j D t dw d0) {fn : FuncId} {pos : String} {es : Array Event} (hnr : ∀ e ∈ es, e.loc ≠ .mark (.release a)) : RL Sh a j D (t ++ MemOp.ofEvents 0 fn pos es) dw (deafBehind d0 es) := by
  refine ⟨norel_app h.norel (norel_es hnr), by rw [Deaf_own, h.deaf0], fun k' hk' => ?_, fun k' hk' hr => ?_⟩
  · rw [Deaf_other t (g := k' + 1) (g' := 0) (by omega) _ g_of_ofEvents, h.deafW k' hk']
  · obtain ⟨r, hr⟩ := h.rel k' hk' hr
    exact ⟨r, hr.appOther (g := 0) g_of_ofEvents (by omega)⟩
/-- Operations that say nothing and touch nothing. -/
theorem deaf_mute {g : Nat} (hu : ∀ op ∈ u, ∀ m, op.act ≠ .mark m) : Deaf (t ++ u) g = Deaf t g := by
  have key : ∀ (l : List MemOp) (d : Nat), (∀ op ∈ l, ∀ m, op.act ≠ .mark m) → l.foldl (deafStep g) d = d := by
    intro l
    induction l with
    | nil => intro d _; rfl
    | cons y l ih =>
      intro d hl
      have hy : deafStep g d y = d := by
        unfold deafStep
        split
        · rename_i h; exact absurd h (hl y (by simp) _)
        · rename_i h; exact absurd h (hl y (by simp) _)
        · rfl
      rw [List.foldl_cons, hy]
      exact ih d fun op hop => hl op (by simp [hop])
  have := Deaf_append t g u.toList
  simp only [Array.toArray_toList] at this
  rw [this]
  exact key _ _ fun op hop => hu op (by simpa using hop)
theorem RL.mute (h : RL Sh a j D t dw d0) (hu : ∀ op ∈ u, op.act.touch? = none ∧ ∀ m, op.act ≠ .mark m) : RL Sh a j D (t ++ u) dw d0 :=
  ⟨norel_app h.norel fun op hop => (hu op hop).2 _, by rw [deaf_mute fun op hop => (hu op hop).2, h.deaf0], fun k hk => by rw [deaf_mute fun op hop => (hu op hop).2, h.deafW k hk],
    fun k hk hr => let ⟨r, hr⟩ := h.rel k hk hr; ⟨r, hr.appNone fun op hop => (hu op hop).1⟩⟩
theorem RL.move (h : RL Sh a j D t dw d0) {k : Nat} {T' : TD} (hk : k < j) (hr : relP T'.ph = true → relP (D k).ph = true) : RL Sh a j (upd D k T') t dw d0 := by
  refine ⟨h.norel, h.deaf0, h.deafW, fun k' hk' h1 => ?_⟩
  by_cases e : k' = k
  · subst e; rw [upd_same] at h1; exact h.rel k' hk' (hr h1)
  · rw [upd_ne _ _ e] at h1; exact h.rel k' hk' h1
theorem RL.fork (h : RL Sh a j D t dw d0) {x y : MemOp} {T : TD} (hx : x.g = 0 ∧ x.act = .go (j + 1)) (hy : y.g = j + 1 ∧ y.act = .start) (hn : ∀ (i : Nat) (op : MemOp), t[i]? = some op → op.g ≤ j) (hr : relP T.ph = false) :
    RL Sh a (j + 1) (upd D j T) (t ++ #[x, y]) (upd dw j 0) d0 := by
  have hm : ∀ op ∈ #[x, y], op.act.touch? = none ∧ ∀ m, op.act ≠ .mark m := by
    intro op hop
    simp only [List.mem_toArray, List.mem_cons, List.not_mem_nil, or_false] at hop
    rcases hop with rfl | rfl
    · rw [hx.2]; exact ⟨rfl, fun m => by simp⟩
    · rw [hy.2]; exact ⟨rfl, fun m => by simp⟩
  have h' := h.mute hm
  refine ⟨h'.norel, h'.deaf0, fun k hk => ?_, fun k hk h1 => ?_⟩
  · by_cases e : k = j
    · subst e
      rw [upd_same, deaf_mute fun op hop => (hm op hop).2]
      exact Go.ConcN.Deaf_absent fun i op hi e => by have := hn i op hi; omega
    · rw [upd_ne _ _ e]; exact h'.deafW k (by omega)
  · by_cases e : k = j
    · subst e; rw [upd_same, hr] at h1; cases h1
    · rw [upd_ne _ _ e] at h1; exact h'.rel k (by omega) h1
structure S2 (Sh : Loc → Prop) (a : Addr) (j : Nat) (t : Trace) (dw : Nat → Nat) : Prop where
  quiet : Quiet Sh t
  nr : ∀ said, ¬ Race said t
  gs : ∀ (i : Nat) (op : MemOp), t[i]? = some op → op.g ≤ j
  perm : ∀ l, ¬ Sh l → Perm t 0 l
  norel : NoRelease a t
  acq : ∃ q, t.act? q = some (.mark (.acquire a)) ∧ t.g? q = some 0 ∧ t.heard q ∧ ∀ k, k < j → ∃ r, RelS Sh a t (k + 1) r ∧ r < q
  deaf0 : Deaf t 0 = 0
  deafW : ∀ k, k < j → Deaf t (k + 1) = dw k
theorem S2.handed (h : S2 Sh a j t dw) : t.HandedOver := by
  obtain ⟨q, h1, h2, h3, h4⟩ := h.acq
  refine Go.ConcN.handedOver_all (a := a) (q := q) (fun i g hg h0 => ?_) h.norel h1 h2 h3
  obtain ⟨op, ho, hog⟩ := Option.map_eq_some_iff.1 hg
  have hgs := h.gs i op ho
  obtain ⟨k, rfl⟩ : ∃ k, g = k + 1 := ⟨g - 1, by omega⟩
  obtain ⟨r, hr, hrq⟩ := h4 k (by omega)
  exact ⟨r, hr.by_, hrq⟩
/-- THE STARTER SAYS 'acquire', hearing; all have released. -/
theorem S2.begin {F : Fam} {n : Nat} {s : Ab.Sh} (h : TL F n j D s t) (hr : RL F.Sh a j D t dw 0) (hall : ∀ k, k < j → relP (D k).ph = true) {y : MemOp} (hy : y.act = .mark (.acquire a)) (hg : y.g = 0) : S2 F.Sh a j (t ++ #[y]) dw := by
  have hlast : (t ++ #[y])[t.size]? = some y := by rw [Array.getElem?_append_right (Nat.le_refl _)]; simp
  have hu : ∀ op ∈ #[y], op.act.touch? = none := by intro op hop; simp at hop; subst hop; rw [hy]; rfl
  have hug : ∀ op ∈ #[y], op.g = 0 := by intro op hop; simp at hop; subst hop; exact hg
  have no : ∀ op ∈ #[y], ∀ b, op.act.touch? = some b → False := fun op hop b hb => by rw [hu op hop] at hb; cases hb
  have heard : (t ++ #[y]).heard t.size := ⟨0, by simp [Trace.g?, hg], by rw [deaf_old (Nat.le_refl _)]; exact hr.deaf0⟩
  have hnr : NoRelease a (t ++ #[y]) := norel_app hr.norel fun op hop e => by simp at hop; subst hop; rw [hy] at e; cases e
  have rel : ∀ k, k < j → ∃ r, RelS F.Sh a (t ++ #[y]) (k + 1) r ∧ r < t.size := fun k hk => by
    obtain ⟨r, hk⟩ := hr.rel k hk (hall k hk)
    exact ⟨r, hk.appNone hu, lt_of_act? hk.by_.act⟩
  have dd : ∀ g, Deaf (t ++ #[y]) g = Deaf t g := fun g => by rw [Deaf_push]; unfold deafStep; rw [hy]
  refine ⟨h.quiet.app fun op hop b hb _ => (no op hop b hb).elim, fun said => ?_, fun i op hi => ?_, fun l hl i x hx e => ?_, hnr, ⟨t.size, by rw [act?_of hlast, hy], by simp [Trace.g?, hg], heard, rel⟩, by rw [dd, hr.deaf0], fun k hk => by rw [dd, hr.deafW k hk]⟩
  · exact noRace_append (h.nr said) hug fun i a _ op hop b hb _ => (no op hop b hb).elim
  · rcases getElem?_append_cases hi with ⟨_, hi'⟩ | ⟨_, hiu⟩
    · exact h.gs i op hi'
    · rw [hug op hiu]; omega
  · obtain ⟨z, hz, hzx⟩ := touch_of hx
    rcases getElem?_append_cases hz with ⟨hi, hz'⟩ | ⟨_, hzu⟩
    · by_cases h0 : z.g = 0
      · have := knows_own hz
        rwa [h0] at this
      · have hgs := h.gs i z hz'
        obtain ⟨k, hk⟩ : ∃ k, z.g = k + 1 := ⟨z.g - 1, by omega⟩
        obtain ⟨r, hr1, hrq⟩ := rel k (by omega)
        have hle : i ≤ r := Nat.le_of_not_lt fun hlt => hl (e ▸ hr1.only i z x hlt hz hk hzx)
        obtain ⟨zr, hzr, hzrg⟩ := Option.map_eq_some_iff.1 hr1.by_.g
        have edge : HappensBefore (t ++ #[y]) r t.size := .single (.inr ⟨.marked hrq (.inr hr1.by_.act) (by rw [act?_of hlast, hy]) (fun k _ _ => hnr k), hr1.by_.heard, heard⟩)
        refine ⟨t.size, y, hlast, hg, .inr ?_⟩
        rcases Nat.lt_or_ge i r with hlt | hge
        · exact (hb_po hlt hz hzr (hk.trans hzrg.symm)).trans edge
        · obtain rfl : i = r := by omega
          exact edge
    · exact (no z hzu x hzx).elim
/-- The starter's operations behind it. -/
theorem S2.app0 (h : S2 Sh a j t dw) {fn : FuncId} {pos : String} {es : Array Event} (he : ∀ e ∈ es, e.loc ≠ .mark (.release a) ∧ e.loc ≠ .mark .disable ∧ e.loc ≠ .mark .enable ∧
    ∀ x, (MemAct.ofEvent e).touch? = some x → Sh x.loc → x.kind ≠ .plain) : S2 Sh a j (t ++ MemOp.ofEvents 0 fn pos es) dw := by
  have hg : ∀ op ∈ MemOp.ofEvents 0 fn pos es, op.g = 0 := g_of_ofEvents
  have ht : ∀ op ∈ MemOp.ofEvents 0 fn pos es, ∀ x, op.act.touch? = some x → Sh x.loc → x.kind ≠ .plain := by
    intro op hop x hx hs
    rw [ofEvents_eq] at hop
    obtain ⟨e, hee, rfl⟩ := Array.mem_map.1 hop
    exact (he e hee).2.2.2 x hx hs
  obtain ⟨q, h1, h2, h3, h4⟩ := h.acq
  have hq := lt_of_act? h1
  refine ⟨h.quiet.app fun op hop x hx hs => ⟨ht op hop x hx hs, fun _ => hg op hop⟩, fun said => ?_, fun i op hi => ?_, fun l hl => (h.perm l hl).app fun op hop _ _ _ => hg op hop, norel_app h.norel (norel_es fun e hee => (he e hee).1),
    ⟨q, by rw [act?_old hq]; exact h1, by rw [g?_old hq]; exact h2, (heard_old hq).2 h3, fun k hk => let ⟨r, hr, hrq⟩ := h4 k hk; ⟨r, hr.appOther (g := 0) hg (by omega), hrq⟩⟩, ?_, fun k hk => by rw [Deaf_other t (g := k + 1) (g' := 0) (by omega) _ hg, h.deafW k hk]⟩
  · refine noRace_append (h.nr said) hg fun i b hb op hop x hx hc => ?_
    by_cases hs : Sh x.loc
    · exact h.quiet.known hs (ht op hop x hx hs) (fun _ => rfl) i b hb hc
    · exact h.perm x.loc hs i b hb hc.1
  · rcases getElem?_append_cases hi with ⟨_, hi'⟩ | ⟨_, hiu⟩
    · exact h.gs i op hi'
    · rw [hg op hiu]; omega
  · rw [Deaf_own, h.deaf0]
    have key : ∀ l : List Event, (∀ e ∈ l, e.loc ≠ .mark .disable ∧ e.loc ≠ .mark .enable) → l.foldl (fun d e => match e.loc with | .mark .disable => d + 1 | .mark .enable => d - 1 | _ => d) 0 = 0 := by
      intro l
      induction l with
      | nil => intro _; rfl
      | cons e l ih =>
        intro hl
        rw [List.foldl_cons]
        have h1 := hl e (by simp)
        have : (match e.loc with | .mark .disable => 0 + 1 | .mark .enable => 0 - 1 | _ => 0) = 0 := by
          split
          · rename_i h; exact absurd h h1.1
          · rfl
          · rfl
        rw [this]
        exact ih fun e he => hl e (by simp [he])
    unfold deafBehind
    rw [← Array.foldl_toList]
    exact key _ fun e hee => ⟨(he e (by simpa using hee)).2.1, (he e (by simpa using hee)).2.2.1⟩
/-- A leaver's. -/
theorem S2.leave (h : S2 Sh a j t dw) {k : Nat} (hk : k < j) {fn : FuncId} {pos : String} {es : Array Event} (he : ∀ e ∈ es, Event.mute e = true) : S2 Sh a j (t ++ MemOp.ofEvents (k + 1) fn pos es) (upd dw k (deafBehind (dw k) es)) := by
  have hg : ∀ op ∈ MemOp.ofEvents (k + 1) fn pos es, op.g = k + 1 := g_of_ofEvents
  have hn : ∀ op ∈ MemOp.ofEvents (k + 1) fn pos es, op.act.touch? = none ∧ op.act ≠ .mark (.release a) := by
    intro op hop
    rw [ofEvents_eq] at hop
    obtain ⟨e, hee, rfl⟩ := Array.mem_map.1 hop
    have := he e hee
    obtain ⟨loc, wr, sy⟩ := e
    cases loc with
    | mark m => cases m <;> first | (cases this; done) | exact ⟨rfl, fun e => by cases e⟩
    | _ => cases this
  have no : ∀ op ∈ MemOp.ofEvents (k + 1) fn pos es, ∀ b, op.act.touch? = some b → False := fun op hop b hb => by rw [(hn op hop).1] at hb; cases hb
  obtain ⟨q, h1, h2, h3, h4⟩ := h.acq
  have hq := lt_of_act? h1
  refine ⟨h.quiet.app fun op hop x hx _ => (no op hop x hx).elim, fun said => noRace_append (h.nr said) hg fun i b hb op hop x hx hc => (no op hop x hx).elim, fun i op hi => ?_, fun l hl => (h.perm l hl).app fun op hop b hb _ => (no op hop b hb).elim,
    norel_app h.norel fun op hop => (hn op hop).2, ⟨q, by rw [act?_old hq]; exact h1, by rw [g?_old hq]; exact h2, (heard_old hq).2 h3, fun k' hk' => let ⟨r, hr, hrq⟩ := h4 k' hk'; ⟨r, hr.appNone fun op hop => (hn op hop).1, hrq⟩⟩, by rw [Deaf_other t (g := 0) (g' := k + 1) (by omega) _ hg, h.deaf0], fun k' hk' => ?_⟩
  · rcases getElem?_append_cases hi with ⟨_, hi'⟩ | ⟨_, hiu⟩
    · exact h.gs i op hi'
    · rw [hg op hiu]; omega
  · by_cases e : k' = k
    · subst e; rw [Deaf_own, h.deafW k' hk', upd_same]
    · rw [Deaf_other t (g := k' + 1) (g' := k + 1) (by omega) _ hg, h.deafW k' hk', upd_ne _ _ e]
end
end Go.Proofs.YthjofgmiabcifabGreatDoor.Tr
