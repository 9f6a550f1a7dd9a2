/-
  The automaton of the crowd: its moves keep its invariant.
  Conditions: as each theorem says.
-/
import Derived.Conc.CrowdBase
set_option linter.unusedVariables false
set_option linter.unusedSimpArgs false
namespace Go.Proofs.YthjofgmiabcifabGreatDoor.Ab
open Go.ConcN (sumTo upd upd_same upd_ne sumTo_upd sumTo_congr le_sumTo)
/-- A mutex's word: how many queue, starving, woken, locked. -/
structure MW where
  W : Nat
  S : Bool
  K : Bool
  L : Bool
  deriving DecidableEq
def MW.val (m : MW) : Int := 8 * m.W + 4 * (if m.S then 1 else 0) + 2 * (if m.K then 1 else 0) + (if m.L then 1 else 0)
def MW.zero : MW := ⟨0, false, false, false⟩
inductive Ph where
  | ldN | ldF | rcv
  | ld1 | kd | l0 | r0 | sq | c1 | r1 | c2 | r3 | t1 | s1 | t2 | r2 | a1 | le | la | ld2
  | ldS | mk | stP | am | drS | stD
  | uL | ur | ud | u0 | uc | ux | us | ue
  | ldP | dr2 | rg | cn
  | wr | wk | d1 | d2 | d3 | d4 | quit
  deriving DecidableEq
/-- A worker's stop and what it bears along. -/
structure TD where
  ph : Ph
  item : Nat := 0
  old : MW := .zero
  aw : Bool := false
  sv : Bool := false
  it : Nat := 0
  rest : List Nat := []
  deriving DecidableEq
inductive Pc where
  | ga | gb | gr | ge | gg | gl | sd | cl | kw | w1 | w2 | ww | w3 | w4 | ke | aq | fin
  deriving DecidableEq
structure CD where
  ph : Pc
  old : Nat := 0
  deriving DecidableEq
structure Sh where
  done : Bool
  mu : MW
  ms : Nat
  pts : Bool
  made : Nat
  sent : Nat
  shut : Bool
  fill : Nat → Bool
  wv : Nat
  ww : Nat
  wm : Nat
/-- Behind lockSlow's loop head. -/
def hd (T : TD) : TD := if T.old.L && !T.old.S && decide (T.it < 4) then { T with ph := .sq } else { T with ph := .c2 }
/-- The word that lockSlow would lay. -/
def nwOf (m : MW) (aw sv : Bool) : MW := ⟨if m.L || m.S then m.W + 1 else m.W, m.S || (sv && m.L), !aw && m.K, m.L || !m.S⟩
/-- Behind unlockSlow's loop head. -/
def hdU (T : TD) (m : MW) : TD := if m.W = 0 ∨ m.L ∨ m.K ∨ m.S then { T with ph := .ue } else { T with ph := .uc, old := m }
/-- Where a worker's stop leads. None: it waits, or it is no step of its own alone. -/
def mv (T : TD) (s : Sh) : List (TD × Sh) :=
  match T.ph with
  | .ldN => [({ T with ph := .ldF }, s)]
  | .ldF => [({ T with ph := .rcv }, s)]
  | .rcv => if s.shut then [({ T with ph := .wr }, s)] else []
  | .ld1 => if s.done then [({ T with ph := .ldP }, s)] else [({ T with ph := .kd }, s)]
  | .kd => [({ T with ph := .l0 }, s)]
  | .l0 => if s.mu = .zero then [({ T with ph := .le }, { s with mu := ⟨0, false, false, true⟩ })] else [({ T with ph := .r0 }, s)]
  | .r0 => [(hd { T with old := s.mu, aw := false, sv := false, it := 0 }, s)]
  | .sq => [({ T with ph := .c2 }, s), (if !T.aw && !T.old.K && decide (T.old.W ≠ 0) then { T with ph := .c1 } else { T with ph := .r1 }, s)]
  | .c1 => if s.mu = T.old then [({ T with ph := .r1, aw := true }, { s with mu := { s.mu with K := true } })] else [({ T with ph := .r1 }, s)]
  | .r1 => [(hd { T with old := s.mu, it := T.it + 1 }, s)]
  | .c2 => if s.mu = T.old then
      if T.old.L || T.old.S then [({ T with ph := .t1 }, { s with mu := nwOf T.old T.aw T.sv }), ({ T with ph := .s1 }, { s with mu := nwOf T.old T.aw T.sv })]
      else [({ T with ph := .le }, { s with mu := nwOf T.old T.aw T.sv })]
    else [({ T with ph := .r3 }, s)]
  | .r3 => [(hd { T with old := s.mu }, s)]
  | .t1 => [({ T with ph := .s1 }, s)]
  | .s1 => if s.ms = 0 then [] else [(if T.sv then { T with ph := .r2 } else { T with ph := .t2 }, { s with ms := s.ms - 1 })]
  | .t2 => [({ T with ph := .r2 }, s), ({ T with ph := .r2, sv := true }, s)]
  | .r2 => if s.mu.S then [({ T with ph := .a1, old := s.mu }, s)] else [(hd { T with old := s.mu, aw := true, it := 0 }, s)]
  | .a1 => [({ T with ph := .le }, { s with mu := ⟨s.mu.W - 1, s.mu.S && (T.sv && decide (T.old.W ≠ 1)), s.mu.K, true⟩ })]
  | .le => [({ T with ph := .la }, s)]
  | .la => [({ T with ph := .ld2 }, s)]
  | .ld2 => if s.done then [({ T with ph := .uL }, s)] else [({ T with ph := .ldS }, s)]
  | .ldS => [({ T with ph := .mk }, s)]
  | .mk => [({ T with ph := .stP }, s)]
  | .stP => [({ T with ph := .am }, { s with pts := true })]
  | .am => [({ T with ph := .drS }, { s with made := s.made + 1 })]
  | .drS => [({ T with ph := .stD }, s)]
  | .stD => [({ T with ph := .uL }, { s with done := true })]
  | .uL => [({ T with ph := .ur }, s)]
  | .ur => [({ T with ph := .ud }, s)]
  | .ud => [({ T with ph := .u0 }, s)]
  | .u0 => let m : MW := { s.mu with L := false }
    if m.S then [({ T with ph := .us }, { s with mu := m })] else [(hdU T m, { s with mu := m })]
  | .uc => if s.mu = T.old then [({ T with ph := .us }, { s with mu := ⟨s.mu.W - 1, false, true, false⟩ })] else [({ T with ph := .ux }, s)]
  | .ux => [(hdU T s.mu, s)]
  | .us => [({ T with ph := .ue }, { s with ms := s.ms + 1 })]
  | .ue => [({ T with ph := .ldP }, s)]
  | .ldP => [({ T with ph := .dr2 }, s)]
  | .dr2 => []
  | .rg => match T.rest with
    | [] => []
    | [_] => [({ T with ph := .rcv, rest := [] }, { s with fill := fun i => if i = T.item then true else s.fill i })]
    | 5 :: _ => [({ T with ph := .cn }, s)]
    | _ :: r => [({ T with rest := r }, s)]
  | .cn => [({ T with ph := .rg, rest := T.rest.tail }, s)]
  | .wr => [({ T with ph := .wk }, s)]
  | .wk => [({ T with ph := .d1 }, s)]
  | .d1 => if s.wv = 1 ∧ s.ww = 1 then [({ T with ph := .d2 }, { s with wv := 0 })] else [({ T with ph := .quit }, { s with wv := s.wv - 1 })]
  | .d2 => [({ T with ph := .d3 }, s)]
  | .d3 => [({ T with ph := .d4 }, { s with ww := 0 })]
  | .d4 => [({ T with ph := .quit }, { s with wm := s.wm + 1 })]
  | .quit => []
/-- Where the starter's stop leads. -/
def mvC (C : CD) (s : Sh) : List (CD × Sh) :=
  match C.ph with
  | .ga => [({ C with ph := .gb }, s)]
  | .gb => if s.wv = 0 then [({ C with ph := .gr }, { s with wv := 1 })] else [({ C with ph := .ge }, { s with wv := s.wv + 1 })]
  | .gr => [({ C with ph := .ge }, s)]
  | .ge => [({ C with ph := .gg }, s)]
  | .gg => []
  | .gl => [({ C with ph := .sd }, s)]
  | .sd => []
  | .cl => [({ C with ph := .kw }, { s with shut := true })]
  | .kw => [({ C with ph := .w1 }, s)]
  | .w1 => if s.wv = 0 then [({ C with ph := .ke }, s)] else [({ C with ph := .w2, old := s.wv }, s)]
  | .w2 => if s.wv = C.old then [({ C with ph := .ww }, { s with ww := 1 })] else [({ C with ph := .w1 }, s)]
  | .ww => [({ C with ph := .w3 }, s)]
  | .w3 => if s.wm = 0 then [] else [({ C with ph := .w4 }, { s with wm := s.wm - 1 })]
  | .w4 => [({ C with ph := .ke }, s)]
  | .ke => [({ C with ph := .aq }, s)]
  | .aq => [({ C with ph := .fin }, s)]
  | .fin => []
/-- Behind its lock, ahead of its unlock, not at work. -/
def fN (T : TD) : Nat := match T.ph with | .le | .la | .ld2 | .uL | .ur | .ud | .u0 => 1 | _ => 0
def fE1 (T : TD) : Nat := match T.ph with | .ldS | .mk | .stP => 1 | _ => 0
def fE2 (T : TD) : Nat := match T.ph with | .am => 1 | _ => 0
def fE3 (T : TD) : Nat := match T.ph with | .drS | .stD => 1 | _ => 0
def fQ (T : TD) : Nat := match T.ph with | .t1 | .s1 => 1 | _ => 0
def fU (T : TD) : Nat := match T.ph with | .us => 1 | _ => 0
def fK (T : TD) : Nat := match T.ph with | .t2 | .r2 | .a1 => 1 | _ => 0
def inLoop (p : Ph) : Bool := match p with | .sq | .c1 | .r1 | .c2 | .r3 => true | _ => false
def fA (T : TD) : Nat := if inLoop T.ph && T.aw then 1 else 0
def fX (T : TD) : Nat := match T.ph with | .uc | .ux => 1 | _ => 0
def fV (T : TD) : Nat := match T.ph with | .d2 | .d3 | .d4 | .quit => 0 | _ => 1
def f23 (T : TD) : Nat := match T.ph with | .d2 | .d3 => 1 | _ => 0
def f4 (T : TD) : Nat := match T.ph with | .d4 => 1 | _ => 0
/-- It has been handed an item and has not filled its place. -/
def holds (p : Ph) : Bool := match p with | .ldN | .ldF | .rcv | .wr | .wk | .d1 | .d2 | .d3 | .d4 | .quit => false | _ => true
def fI (i : Nat) (T : TD) : Nat := if holds T.ph && decide (T.item = i) then 1 else 0
/-- It has seen that the work is done. -/
def past (p : Ph) : Bool := match p with | .uL | .ur | .ud | .u0 | .uc | .ux | .us | .ue | .ldP | .dr2 | .rg | .cn => true | _ => false
def leaving (p : Ph) : Bool := match p with | .wr | .wk | .d1 | .d2 | .d3 | .d4 | .quit => true | _ => false
def pend (p : Pc) : Nat := match p with | .gr | .ge | .gg => 1 | _ => 0
def waits (p : Pc) : Bool := match p with | .ww | .w3 => true | _ => false
def through (p : Pc) : Bool := match p with | .w4 | .ke | .aq | .fin => true | _ => false
/-- The channel is closed behind these. -/
def closed (p : Pc) : Bool := match p with | .kw | .w1 | .w2 | .ww | .w3 | .w4 | .ke | .aq | .fin => true | _ => false
def spawning (p : Pc) : Bool := match p with | .ga | .gb | .gr | .ge | .gg => true | _ => false
/-- What is held of one worker. -/
structure WInv (n : Nat) (T : TD) (s : Sh) : Prop where
  item : holds T.ph = true → T.item < n
  past : past T.ph = true → s.done = true
  leaving : leaving T.ph = true → s.shut = true
  snap : (T.ph = .sq ∨ T.ph = .c1 ∨ T.ph = .c2) → T.aw = true → T.old.K = true ∧ T.old.S = false
  wide : (T.ph = .sq ∨ T.ph = .c1 ∨ T.ph = .c2 ∨ T.ph = .uc ∨ T.ph = .a1) → T.old.W ≤ n
  sv : inLoop T.ph = true → T.sv = true → T.aw = true
  sq : (T.ph = .sq ∨ T.ph = .c1 ∨ T.ph = .r1) → T.it < 4
  it : T.it ≤ 4
  sqo : T.ph = .sq → T.old.L = true ∧ T.old.S = false
  c1 : T.ph = .c1 → T.aw = false ∧ T.old.K = false ∧ T.old.S = false ∧ T.old.L = true ∧ T.old.W ≠ 0
  spin : T.ph = .c2 → T.old.L = true → T.old.S = false → T.it ≤ 4
  a1 : T.ph = .a1 → T.old.S = true ∧ T.old.K = false ∧ T.old.L = false ∧ 1 ≤ T.old.W ∧ T.old.W ≤ s.mu.W ∧ s.mu.S = true
  uc : T.ph = .uc → T.old.W ≠ 0 ∧ T.old.L = false ∧ T.old.K = false ∧ T.old.S = false
  rest : T.ph ≠ .rg → T.ph ≠ .cn → T.rest = []
  cn : T.ph = .cn → T.rest.head? = some 5
  rg : (T.ph = .rg ∨ T.ph = .cn) → T.rest.getLast? = some 7
  none : (T.ph = .ldS ∨ T.ph = .mk ∨ T.ph = .stP ∨ T.ph = .am ∨ T.ph = .drS ∨ T.ph = .stD) → s.done = false
abbrev Sum (j : Nat) (D : Nat → TD) (f : TD → Nat) : Nat := sumTo j fun k => f (D k)
structure AInv (n j : Nat) (D : Nat → TD) (C : CD) (s : Sh) : Prop where
  n1 : 1 ≤ n
  n16 : n ≤ 16
  jn : j ≤ n
  wk : ∀ k, k < j → WInv n (D k) s
  -- the mutex
  lock : Sum j D fN + Sum j D fE1 + Sum j D fE2 + Sum j D fE3 = if s.mu.L then 1 else 0
  free : s.mu.S = false → s.ms + Sum j D fU + Sum j D fK + Sum j D fA = (if s.mu.K then 1 else 0) ∧ s.mu.W + s.ms + Sum j D fU = Sum j D fQ
  starve : s.mu.S = true → s.mu.K = false ∧ Sum j D fA = 0 ∧ s.ms + Sum j D fU + Sum j D fK + (if s.mu.L then 1 else 0) = 1 ∧ s.mu.W = Sum j D fQ + Sum j D fK ∧ 1 ≤ s.mu.W
  fix : s.mu.S = false → s.mu.L = false → s.mu.K = false → s.mu.W ≠ 0 → 1 ≤ Sum j D fX
  -- once
  once1 : s.done = true → Sum j D fE1 = 0 ∧ Sum j D fE2 = 0 ∧ Sum j D fE3 = 0 ∧ s.pts = true ∧ s.made = 1
  once2 : s.done = false → (s.pts = true ↔ Sum j D fE2 + Sum j D fE3 = 1) ∧ s.made = Sum j D fE3
  -- the items
  items : ∀ i, i < n → Sum j D (fI i) + (if s.fill i then 1 else 0) = if i < s.sent then 1 else 0
  sent : s.sent ≤ n
  feed : C.ph = .sd → s.sent < n
  feed0 : spawning C.ph = true ∨ C.ph = .gl → s.sent = 0
  feedn : C.ph = .cl ∨ closed C.ph = true → s.sent = n
  shut : s.shut = closed C.ph
  more : spawning C.ph = true → j < n
  all : spawning C.ph = false → j = n
  -- the group
  count : s.wv = Sum j D fV + pend C.ph
  quiet : waits C.ph = false → s.ww = 0 ∧ s.wm = 0 ∧ Sum j D f23 = 0 ∧ Sum j D f4 = 0
  busy : waits C.ph = true → (1 ≤ Sum j D fV → s.ww = 1 ∧ s.wm = 0 ∧ Sum j D f23 = 0 ∧ Sum j D f4 = 0) ∧ (Sum j D fV = 0 → Sum j D f23 + Sum j D f4 + s.wm = 1 ∧ s.ww = Sum j D f23)
  thr : through C.ph = true → Sum j D fV = 0
  w2 : C.ph = .w2 → 1 ≤ C.old ∧ C.old ≤ n
  filled : ∀ i, s.fill i = true → s.done = true
end Go.Proofs.YthjofgmiabcifabGreatDoor.Ab
namespace Go.Proofs.YthjofgmiabcifabGreatDoor.Ab
open Go.ConcN (sumTo upd upd_same upd_ne sumTo_upd sumTo_congr le_sumTo sumTo_le)
theorem sum_upd {j k : Nat} (hk : k < j) (D : Nat → TD) (T : TD) (f : TD → Nat) : Sum j (upd D k T) f + f (D k) = Sum j D f + f T := sumTo_upd D T f hk
/-- The mutex's law, of numbers alone. -/
structure MInv (m : MW) (ms N E Q U K A X : Nat) : Prop where
  lock : N + E = if m.L then 1 else 0
  free : m.S = false → ms + U + K + A = (if m.K then 1 else 0) ∧ m.W + ms + U = Q
  starve : m.S = true → m.K = false ∧ A = 0 ∧ ms + U + K + (if m.L then 1 else 0) = 1 ∧ m.W = Q + K ∧ 1 ≤ m.W
  fix : m.S = false → m.L = false → m.K = false → m.W ≠ 0 → 1 ≤ X
def fE (T : TD) : Nat := fE1 T + fE2 T + fE3 T
theorem sumTo_add (f g : Nat → Nat) : ∀ j, sumTo j (fun k => f k + g k) = sumTo j f + sumTo j g
  | 0 => rfl
  | j + 1 => by simp only [sumTo, sumTo_add f g j]; omega
theorem sum_fE (j : Nat) (D : Nat → TD) : Sum j D fE = Sum j D fE1 + Sum j D fE2 + Sum j D fE3 := by
  unfold Sum fE
  rw [sumTo_add (fun k => fE1 (D k) + fE2 (D k)), sumTo_add]
theorem hdU_cases (T : TD) (m : MW) : (hdU T m = { T with ph := .ue } ∧ (m.W = 0 ∨ m.L = true ∨ m.K = true ∨ m.S = true)) ∨ (hdU T m = { T with ph := .uc, old := m } ∧ m.W ≠ 0 ∧ m.L = false ∧ m.K = false ∧ m.S = false) := by
  unfold hdU
  split
  · exact .inl ⟨rfl, ‹_›⟩
  · rename_i h
    refine .inr ⟨rfl, ?_⟩
    simp only [not_or, Bool.not_eq_true] at h
    exact h
theorem hd_cases (T : TD) : (hd T = { T with ph := .sq } ∧ T.old.L = true ∧ T.old.S = false ∧ T.it < 4) ∨ (hd T = { T with ph := .c2 } ∧ (T.old.L = true → T.old.S = false → ¬ T.it < 4)) := by
  unfold hd
  split
  · rename_i h
    simp only [Bool.and_eq_true, Bool.not_eq_true', decide_eq_true_eq] at h
    exact .inl ⟨rfl, h.1.1, h.1.2, h.2⟩
  · rename_i h
    simp only [Bool.and_eq_true, Bool.not_eq_true', decide_eq_true_eq, not_and] at h
    exact .inr ⟨rfl, fun h1 h2 => h ⟨h1, h2⟩⟩
set_option maxHeartbeats 4000000 in
/-- A worker's own step keeps the mutex's law. -/
theorem mu_step {n : Nat} {T T' : TD} {s s' : Sh} {N E Q U K A X N' E' Q' U' K' A' X' : Nat} (hw : WInv n T s) (h : MInv s.mu s.ms N E Q U K A X) (hm : (T', s') ∈ mv T s)
    (eN : N' + fN T = N + fN T') (eE : E' + fE T = E + fE T') (eQ : Q' + fQ T = Q + fQ T') (eU : U' + fU T = U + fU T') (eK : K' + fK T = K + fK T') (eA : A' + fA T = A + fA T') (eX : X' + fX T = X + fX T')
    (lQ : fQ T ≤ Q) (lK : fK T ≤ K) (lA : fA T ≤ A) (lN : fN T ≤ N) (lE : fE T ≤ E) (lU : fU T ≤ U) (lX : fX T ≤ X) : MInv s'.mu s'.ms N' E' Q' U' K' A' X' := by
  obtain ⟨ph, item, old, aw, sv, it, rest⟩ := T
  obtain ⟨done, mu, ms, pts, made, sent, shut, fill, wv, ww, wm⟩ := s
  obtain ⟨h1, h2, h3, h4⟩ := h
  cases ph
  case r0 =>
    simp only [mv] at hm
    simp only [List.mem_singleton, Prod.mk.injEq] at hm
    obtain ⟨rfl, rfl⟩ := hm
    rcases hd_cases _ with ⟨e, _⟩ | ⟨e, _⟩ <;> rw [e] at eN eE eQ eU eK eA eX <;> clear e hw <;>
    (simp only [fN, fE, fE1, fE2, fE3, fQ, fU, fK, fA, fX, inLoop] at *
     obtain ⟨W, S, Kk, L⟩ := mu
     cases S <;> cases Kk <;> cases L <;> cases aw <;> simp at * <;> refine ⟨?_, fun h => ?_, fun h => ?_, fun h => ?_⟩ <;> simp at * <;> omega)
  case r1 =>
    simp only [mv] at hm
    simp only [List.mem_singleton, Prod.mk.injEq] at hm
    obtain ⟨rfl, rfl⟩ := hm
    rcases hd_cases _ with ⟨e, _⟩ | ⟨e, _⟩ <;> rw [e] at eN eE eQ eU eK eA eX <;> clear e hw <;>
    (simp only [fN, fE, fE1, fE2, fE3, fQ, fU, fK, fA, fX, inLoop] at *
     obtain ⟨W, S, Kk, L⟩ := mu
     cases S <;> cases Kk <;> cases L <;> cases aw <;> simp at * <;> refine ⟨?_, fun h => ?_, fun h => ?_, fun h => ?_⟩ <;> simp at * <;> omega)
  case r3 =>
    simp only [mv] at hm
    simp only [List.mem_singleton, Prod.mk.injEq] at hm
    obtain ⟨rfl, rfl⟩ := hm
    rcases hd_cases _ with ⟨e, _⟩ | ⟨e, _⟩ <;> rw [e] at eN eE eQ eU eK eA eX <;> clear e hw <;>
    (simp only [fN, fE, fE1, fE2, fE3, fQ, fU, fK, fA, fX, inLoop] at *
     obtain ⟨W, S, Kk, L⟩ := mu
     cases S <;> cases Kk <;> cases L <;> cases aw <;> simp at * <;> refine ⟨?_, fun h => ?_, fun h => ?_, fun h => ?_⟩ <;> simp at * <;> omega)
  case r2 =>
    simp only [mv] at hm
    split at hm
    · simp only [List.mem_singleton, Prod.mk.injEq] at hm
      obtain ⟨rfl, rfl⟩ := hm
      clear hw
      simp only [fN, fE, fE1, fE2, fE3, fQ, fU, fK, fA, fX, inLoop] at *
      obtain ⟨W, S, Kk, L⟩ := mu
      cases S <;> cases Kk <;> cases L <;> simp at * <;> refine ⟨?_, fun h => ?_, fun h => ?_, fun h => ?_⟩ <;> simp at * <;> omega
    · simp only [List.mem_singleton, Prod.mk.injEq] at hm
      obtain ⟨rfl, rfl⟩ := hm
      rcases hd_cases _ with ⟨e, _⟩ | ⟨e, _⟩ <;> rw [e] at eN eE eQ eU eK eA eX <;> clear e hw <;>
      (simp only [fN, fE, fE1, fE2, fE3, fQ, fU, fK, fA, fX, inLoop] at *
       obtain ⟨W, S, Kk, L⟩ := mu
       cases S <;> cases Kk <;> cases L <;> simp at * <;> refine ⟨?_, fun h => ?_, fun h => ?_, fun h => ?_⟩ <;> simp at * <;> omega)
  case u0 =>
    simp only [mv] at hm
    split at hm
    · simp only [List.mem_singleton, Prod.mk.injEq] at hm
      obtain ⟨rfl, rfl⟩ := hm
      clear hw
      simp only [fN, fE, fE1, fE2, fE3, fQ, fU, fK, fA, fX, inLoop] at *
      obtain ⟨W, S, Kk, L⟩ := mu
      cases S <;> cases Kk <;> cases L <;> simp at * <;> refine ⟨?_, fun h => ?_, fun h => ?_, fun h => ?_⟩ <;> simp at * <;> omega
    · simp only [List.mem_singleton, Prod.mk.injEq] at hm
      obtain ⟨rfl, rfl⟩ := hm
      rcases hdU_cases _ _ with ⟨e, hx⟩ | ⟨e, hx⟩ <;> rw [e] at eN eE eQ eU eK eA eX <;> clear e hw <;>
      (simp only [fN, fE, fE1, fE2, fE3, fQ, fU, fK, fA, fX, inLoop] at *
       obtain ⟨W, S, Kk, L⟩ := mu
       cases S <;> cases Kk <;> cases L <;> simp at * <;> refine ⟨?_, fun h => ?_, fun h => ?_, fun h => ?_⟩ <;> simp at * <;> omega)
  case ux =>
    simp only [mv] at hm
    simp only [List.mem_singleton, Prod.mk.injEq] at hm
    obtain ⟨rfl, rfl⟩ := hm
    rcases hdU_cases _ _ with ⟨e, hx⟩ | ⟨e, hx⟩ <;> rw [e] at eN eE eQ eU eK eA eX <;> clear e hw <;>
    (simp only [fN, fE, fE1, fE2, fE3, fQ, fU, fK, fA, fX, inLoop] at *
     obtain ⟨W, S, Kk, L⟩ := mu
     cases S <;> cases Kk <;> cases L <;> simp at * <;> refine ⟨?_, fun h => ?_, fun h => ?_, fun h => ?_⟩ <;> simp at * <;> omega)
  case c1 =>
    have hc := hw.c1 rfl
    simp only [mv] at hm
    split at hm
    · rename_i h0
      subst h0
      simp only [List.mem_singleton, Prod.mk.injEq] at hm
      obtain ⟨rfl, rfl⟩ := hm
      clear hw
      simp only [fN, fE, fE1, fE2, fE3, fQ, fU, fK, fA, fX, inLoop] at *
      obtain ⟨W, S, Kk, L⟩ := mu
      cases S <;> cases Kk <;> cases L <;> simp at * <;> refine ⟨?_, fun h => ?_, fun h => ?_, fun h => ?_⟩ <;> simp_all <;> omega
    · simp only [List.mem_singleton, Prod.mk.injEq] at hm
      obtain ⟨rfl, rfl⟩ := hm
      clear hw
      simp only [fN, fE, fE1, fE2, fE3, fQ, fU, fK, fA, fX, inLoop] at *
      obtain ⟨W, S, Kk, L⟩ := mu
      cases S <;> cases Kk <;> cases L <;> cases aw <;> simp at * <;> refine ⟨?_, fun h => ?_, fun h => ?_, fun h => ?_⟩ <;> simp at * <;> omega
  case c2 =>
    have hc := hw.snap (.inr (.inr rfl))
    have hsv := hw.sv rfl
    simp only [mv] at hm
    split at hm
    · rename_i h0
      subst h0
      split at hm
      · simp only [List.mem_cons, List.not_mem_nil, or_false, Prod.mk.injEq] at hm
        rcases hm with ⟨rfl, rfl⟩ | ⟨rfl, rfl⟩ <;> clear hw <;>
        (simp only [fN, fE, fE1, fE2, fE3, fQ, fU, fK, fA, fX, inLoop, nwOf] at *
         obtain ⟨W, S, Kk, L⟩ := mu
         cases S <;> cases Kk <;> cases L <;> cases aw <;> cases sv <;> simp at * <;> refine ⟨?_, fun h => ?_, fun h => ?_, fun h => ?_⟩ <;> simp at * <;> omega)
      · simp only [List.mem_singleton, Prod.mk.injEq] at hm
        obtain ⟨rfl, rfl⟩ := hm
        clear hw
        simp only [fN, fE, fE1, fE2, fE3, fQ, fU, fK, fA, fX, inLoop, nwOf] at *
        obtain ⟨W, S, Kk, L⟩ := mu
        cases S <;> cases Kk <;> cases L <;> cases aw <;> cases sv <;> simp at * <;> refine ⟨?_, fun h => ?_, fun h => ?_, fun h => ?_⟩ <;> simp at * <;> omega
    · simp only [List.mem_singleton, Prod.mk.injEq] at hm
      obtain ⟨rfl, rfl⟩ := hm
      clear hw
      simp only [fN, fE, fE1, fE2, fE3, fQ, fU, fK, fA, fX, inLoop] at *
      obtain ⟨W, S, Kk, L⟩ := mu
      cases S <;> cases Kk <;> cases L <;> cases aw <;> simp at * <;> refine ⟨?_, fun h => ?_, fun h => ?_, fun h => ?_⟩ <;> simp at * <;> omega
  case a1 =>
    have hc := hw.a1 rfl
    simp only [mv] at hm
    simp only [List.mem_singleton, Prod.mk.injEq] at hm
    obtain ⟨rfl, rfl⟩ := hm
    clear hw
    simp only [fN, fE, fE1, fE2, fE3, fQ, fU, fK, fA, fX, inLoop] at *
    obtain ⟨W, S, Kk, L⟩ := mu
    obtain ⟨hc1, hc2, hc3, hc4, hc5, hc6⟩ := hc
    simp only at hc6 hc5
    subst hc6
    have hd : decide (old.W ≠ 1) = true → 2 ≤ old.W := fun h => by have := of_decide_eq_true h; omega
    generalize decide (old.W ≠ 1) = dd at hd
    cases dd <;> cases Kk <;> cases L <;> cases sv <;> simp at * <;> refine ⟨?_, fun h => ?_, fun h => ?_, fun h => ?_⟩ <;> simp at * <;> omega
  case uc =>
    have hc := hw.uc rfl
    simp only [mv] at hm
    split at hm
    · rename_i h0
      subst h0
      simp only [List.mem_singleton, Prod.mk.injEq] at hm
      obtain ⟨rfl, rfl⟩ := hm
      clear hw
      simp only [fN, fE, fE1, fE2, fE3, fQ, fU, fK, fA, fX, inLoop] at *
      obtain ⟨W, S, Kk, L⟩ := mu
      cases S <;> cases Kk <;> cases L <;> simp at * <;> refine ⟨?_, fun h => ?_, fun h => ?_, fun h => ?_⟩ <;> simp at * <;> omega
    · simp only [List.mem_singleton, Prod.mk.injEq] at hm
      obtain ⟨rfl, rfl⟩ := hm
      clear hw
      simp only [fN, fE, fE1, fE2, fE3, fQ, fU, fK, fA, fX, inLoop] at *
      obtain ⟨W, S, Kk, L⟩ := mu
      cases S <;> cases Kk <;> cases L <;> simp at * <;> refine ⟨?_, fun h => ?_, fun h => ?_, fun h => ?_⟩ <;> simp at * <;> omega
  case l0 =>
    simp only [mv] at hm
    split at hm
    · rename_i h0
      simp only [List.mem_singleton, Prod.mk.injEq] at hm
      obtain ⟨rfl, rfl⟩ := hm
      clear hw
      simp only [fN, fE, fE1, fE2, fE3, fQ, fU, fK, fA, fX, inLoop] at *
      subst h0
      simp [MW.zero] at h1 h2 h3 h4
      refine ⟨?_, fun _ => ?_, fun h => ?_, fun _ h => ?_⟩ <;> simp at * <;> omega
    · simp only [List.mem_singleton, Prod.mk.injEq] at hm
      obtain ⟨rfl, rfl⟩ := hm
      clear hw
      simp only [fN, fE, fE1, fE2, fE3, fQ, fU, fK, fA, fX, inLoop] at *
      obtain ⟨W, S, Kk, L⟩ := mu
      cases S <;> cases Kk <;> cases L <;> simp at * <;> refine ⟨?_, fun h => ?_, fun h => ?_, fun h => ?_⟩ <;> simp at * <;> omega
  case sq =>
    simp only [mv, List.mem_cons, List.not_mem_nil, or_false, Prod.mk.injEq] at hm
    clear hw
    rcases hm with ⟨rfl, rfl⟩ | ⟨rfl, rfl⟩
    · simp only [fN, fE, fE1, fE2, fE3, fQ, fU, fK, fA, fX, inLoop] at *
      obtain ⟨W, S, Kk, L⟩ := mu
      cases S <;> cases Kk <;> cases L <;> cases aw <;> simp at * <;> refine ⟨?_, fun h => ?_, fun h => ?_, fun h => ?_⟩ <;> simp at * <;> omega
    · split at eN <;> rename_i hb <;> simp only [hb, if_true, if_false, Bool.false_eq_true, ite_true, ite_false] at eE eQ eU eK eA eX <;>
      (simp only [fN, fE, fE1, fE2, fE3, fQ, fU, fK, fA, fX, inLoop] at *
       obtain ⟨W, S, Kk, L⟩ := mu
       clear hb
       cases S <;> cases Kk <;> cases L <;> cases aw <;> simp at * <;> refine ⟨?_, fun h => ?_, fun h => ?_, fun h => ?_⟩ <;> simp at * <;> omega)
  case s1 =>
    clear hw
    simp only [mv] at hm
    split at hm
    · cases hm
    · simp only [List.mem_singleton, Prod.mk.injEq] at hm
      obtain ⟨rfl, rfl⟩ := hm
      cases sv <;> (simp only [fN, fE, fE1, fE2, fE3, fQ, fU, fK, fA, fX, inLoop, Bool.false_eq_true, if_true, if_false] at *
                    obtain ⟨W, S, Kk, L⟩ := mu
                    cases S <;> cases Kk <;> cases L <;> simp at * <;> refine ⟨?_, fun h => ?_, fun h => ?_, fun h => ?_⟩ <;> simp at * <;> omega)
  case rg =>
    clear hw
    simp only [mv] at hm
    split at hm
    · cases hm
    all_goals
      simp only [List.mem_singleton, Prod.mk.injEq] at hm
      obtain ⟨rfl, rfl⟩ := hm
      simp only [fN, fE, fE1, fE2, fE3, fQ, fU, fK, fA, fX, inLoop] at *
      obtain ⟨W, S, Kk, L⟩ := mu
      cases S <;> cases Kk <;> cases L <;> simp at * <;> refine ⟨?_, fun h => ?_, fun h => ?_, fun h => ?_⟩ <;> simp at * <;> omega
  case ldN | ldF | kd | t1 | le | la | ldS | mk | stP | am | drS | stD | uL | ur | ud | us | ue | ldP | cn | wr | wk | d2 | d3 | d4 =>
    clear hw
    simp only [mv] at hm
    simp only [List.mem_singleton, Prod.mk.injEq] at hm
    obtain ⟨rfl, rfl⟩ := hm
    simp only [fN, fE, fE1, fE2, fE3, fQ, fU, fK, fA, fX, inLoop] at *
    obtain ⟨W, S, Kk, L⟩ := mu
    cases S <;> cases Kk <;> cases L <;> simp at * <;> refine ⟨?_, fun h => ?_, fun h => ?_, fun h => ?_⟩ <;> simp at * <;> omega
  case dr2 | quit =>
    simp [mv] at hm
  case t2 =>
    clear hw
    simp only [mv, List.mem_cons, List.not_mem_nil, or_false, Prod.mk.injEq] at hm
    rcases hm with ⟨rfl, rfl⟩ | ⟨rfl, rfl⟩ <;>
    (simp only [fN, fE, fE1, fE2, fE3, fQ, fU, fK, fA, fX, inLoop] at *
     obtain ⟨W, S, Kk, L⟩ := mu
     cases S <;> cases Kk <;> cases L <;> simp at * <;> refine ⟨?_, fun h => ?_, fun h => ?_, fun h => ?_⟩ <;> simp at * <;> omega)
  all_goals
    clear hw
    simp only [mv] at hm
    split at hm
    all_goals
      simp only [List.mem_singleton, List.not_mem_nil, Prod.mk.injEq] at hm
    all_goals
      obtain ⟨rfl, rfl⟩ := hm
      simp only [fN, fE, fE1, fE2, fE3, fQ, fU, fK, fA, fX, inLoop] at *
      obtain ⟨W, S, Kk, L⟩ := mu
      cases S <;> cases Kk <;> cases L <;> simp at * <;> refine ⟨?_, fun h => ?_, fun h => ?_, fun h => ?_⟩ <;> simp at * <;> omega
end Go.Proofs.YthjofgmiabcifabGreatDoor.Ab
namespace Go.Proofs.YthjofgmiabcifabGreatDoor.Ab
open Go.ConcN (sumTo upd upd_same upd_ne sumTo_upd sumTo_congr le_sumTo sumTo_le)
theorem le_sum {j k : Nat} (hk : k < j) (D : Nat → TD) (f : TD → Nat) : f (D k) ≤ Sum j D f := le_sumTo (f := fun k => f (D k)) hk
theorem le_sumTo2 {f : Nat → Nat} {i k : Nat} : ∀ {j : Nat}, i < j → k < j → i ≠ k → f i + f k ≤ sumTo j f
  | j + 1, hi, hk, hne => by
    rcases Nat.lt_or_ge i j with h1 | h1 <;> rcases Nat.lt_or_ge k j with h2 | h2
    · have := le_sumTo2 (f := f) h1 h2 hne; simp only [sumTo]; omega
    · obtain rfl : k = j := by omega
      have := le_sumTo (f := f) h1; simp only [sumTo]; omega
    · obtain rfl : i = j := by omega
      have := le_sumTo (f := f) h2; simp only [sumTo]; omega
    · omega
theorem le_sum2 {j i k : Nat} (hi : i < j) (hk : k < j) (hne : i ≠ k) (D : Nat → TD) (f : TD → Nat) : f (D i) + f (D k) ≤ Sum j D f := le_sumTo2 (f := fun k => f (D k)) hi hk hne
theorem sum_le_n {j : Nat} {D : Nat → TD} {f : TD → Nat} (h : ∀ T, f T ≤ 1) : Sum j D f ≤ j := by
  have := sumTo_le (f := fun k => f (D k)) (c := 1) (j := j) fun i _ => h (D i)
  rw [Nat.one_mul] at this
  exact this
section
variable {n j : Nat} {D : Nat → TD} {C : CD} {s s' : Sh} {k : Nat} {T' : TD}
theorem AInv.minv (h : AInv n j D C s) : MInv s.mu s.ms (Sum j D fN) (Sum j D fE) (Sum j D fQ) (Sum j D fU) (Sum j D fK) (Sum j D fA) (Sum j D fX) :=
  ⟨by rw [sum_fE]; have := h.lock; omega, h.free, h.starve, h.fix⟩
theorem fQK_le (T : TD) : fQ T + fK T ≤ 1 := by
  unfold fQ fK
  cases T.ph <;> simp
/-- The word is no wider than there are workers. -/
theorem AInv.wide (h : AInv n j D C s) : s.mu.W ≤ n := by
  have h1 : Sum j D (fun T => fQ T + fK T) ≤ j := sum_le_n fQK_le
  have h2 : Sum j D (fun T => fQ T + fK T) = Sum j D fQ + Sum j D fK := sumTo_add _ _ _
  have := h.jn
  cases hS : s.mu.S with
  | false => have := (h.free hS).2; omega
  | true => have := (h.starve hS).2.2.2.1; omega
theorem mv_done (hm : (T', s') ∈ mv (D k) s) : s.done = true → s'.done = true := by
  intro hd
  generalize D k = T at hm
  obtain ⟨ph, item, old, aw, sv, it, rest⟩ := T
  cases ph <;> simp only [mv] at hm <;> (repeat' (split at hm)) <;> simp only [List.mem_cons, List.mem_singleton, List.not_mem_nil, or_false, Prod.mk.injEq] at hm <;> first
    | (rcases hm with ⟨rfl, rfl⟩ | ⟨rfl, rfl⟩ <;> first | exact hd | rfl)
    | (obtain ⟨rfl, rfl⟩ := hm; first | exact hd | rfl)
theorem mv_shut (hm : (T', s') ∈ mv (D k) s) : s'.shut = s.shut ∧ s'.sent = s.sent := by
  generalize D k = T at hm
  obtain ⟨ph, item, old, aw, sv, it, rest⟩ := T
  cases ph <;> simp only [mv] at hm <;> (repeat' (split at hm)) <;> simp only [List.mem_cons, List.mem_singleton, List.not_mem_nil, or_false, Prod.mk.injEq] at hm <;> first
    | (rcases hm with ⟨rfl, rfl⟩ | ⟨rfl, rfl⟩ <;> exact ⟨rfl, rfl⟩)
    | (obtain ⟨rfl, rfl⟩ := hm; exact ⟨rfl, rfl⟩)
theorem mv_done_not (hm : (T', s') ∈ mv (D k) s) (h : (D k).ph ≠ .stD) : s'.done = s.done := by
  generalize D k = T at hm h
  obtain ⟨ph, item, old, aw, sv, it, rest⟩ := T
  cases ph <;> simp only [mv] at hm <;> (repeat' (split at hm)) <;> simp only [List.mem_cons, List.mem_singleton, List.not_mem_nil, or_false, Prod.mk.injEq] at hm <;> first
    | (exact absurd rfl h)
    | (rcases hm with ⟨rfl, rfl⟩ | ⟨rfl, rfl⟩ <;> rfl)
    | (obtain ⟨rfl, rfl⟩ := hm; rfl)
/-- While another has the lock handed over, the word stays starving and grows no less. -/
theorem mv_starve (h : AInv n j D C s) (hk : k < j) (hm : (T', s') ∈ mv (D k) s) (hS : s.mu.S = true) (hK : 1 + fK (D k) ≤ Sum j D fK) : s'.mu.S = true ∧ s.mu.W ≤ s'.mu.W := by
  obtain ⟨h1, h2, h3, h4, h5⟩ := h.starve hS
  have hl := h.lock
  have a1 := le_sum hk D fN
  have a2 := le_sum hk D fE1
  have a3 := le_sum hk D fE2
  have a4 := le_sum hk D fE3
  have a5 := le_sum hk D fU
  have hL : s.mu.L = false := by
    cases hL : s.mu.L with
    | false => rfl
    | true => rw [hL] at h3; simp at h3; omega
  rw [hL] at hl h3
  simp at hl h3
  have hc1 := (h.wk k hk).c1
  have huc := (h.wk k hk).uc
  clear h h2 h4 h5
  revert hm hK a1 a2 a3 a4 a5 hc1 huc
  generalize D k = T
  obtain ⟨ph, item, old, aw, sv, it, rest⟩ := T
  intro hm hK a1 a2 a3 a4 a5 hc1 huc
  cases ph <;> simp only [mv] at hm <;> (repeat' (split at hm)) <;> simp only [List.mem_cons, List.mem_singleton, List.not_mem_nil, or_false, Prod.mk.injEq] at hm <;> first
    | (rcases hm with ⟨rfl, rfl⟩ | ⟨rfl, rfl⟩ <;> exact ⟨hS, Nat.le_refl _⟩)
    | (obtain ⟨rfl, rfl⟩ := hm; exact ⟨hS, Nat.le_refl _⟩)
    | (exfalso; simp only [fK, fN, fU, fE1, fE2, fE3] at hK a1 a2 a3 a4 a5; omega)
    | (exfalso; rename_i h0; rw [h0] at hS; cases hS; done)
    | (exfalso; rename_i h0; have h9 := (hc1 rfl).2.2.1; dsimp only at h9 h0; rw [h0, h9] at hS; cases hS; done)
    | (exfalso; rename_i h0; have h9 := (huc rfl).2.2.2; dsimp only at h9 h0; rw [h0, h9] at hS; cases hS; done)
    | (rename_i h0 h1; try dsimp only at h0 h1
       rcases hm with ⟨rfl, rfl⟩ | ⟨rfl, rfl⟩ <;> (simp only [nwOf]; rw [← h0, hS]; simp; done))
    | (exfalso; rename_i h0 h1; (try dsimp only at h0 h1); rw [← h0, hS] at h1; simp at h1; done)
end
end Go.Proofs.YthjofgmiabcifabGreatDoor.Ab
namespace Go.Proofs.YthjofgmiabcifabGreatDoor.Ab
open Go.ConcN (sumTo upd upd_same upd_ne sumTo_upd sumTo_congr le_sumTo sumTo_le)
section
variable {n j : Nat} {D : Nat → TD} {C : CD} {s s' : Sh} {k : Nat} {T' : TD}
/-- Others. -/
theorem WInv.other {T : TD} (h : WInv n T s) (h1 : s.done = true → s'.done = true) (h2 : s'.shut = s.shut) (h3 : T.ph = .a1 → s'.mu.S = true ∧ s.mu.W ≤ s'.mu.W)
    (h4 : (T.ph = .ldS ∨ T.ph = .mk ∨ T.ph = .stP ∨ T.ph = .am ∨ T.ph = .drS ∨ T.ph = .stD) → s'.done = s.done) : WInv n T s' :=
  ⟨h.item, fun x => h1 (h.past x), fun x => by rw [h2]; exact h.leaving x, h.snap, h.wide, h.sv, h.sq, h.it, h.sqo, h.c1, h.spin,
    fun x => let ⟨a, b, c, d, e, f⟩ := h.a1 x; ⟨a, b, c, d, Nat.le_trans e (h3 x).2, (h3 x).1⟩, h.uc, h.rest, h.cn, h.rg, fun x => by rw [h4 x]; exact h.none x⟩
theorem AInv.others (h : AInv n j D C s) (hk : k < j) (hm : (T', s') ∈ mv (D k) s) : ∀ i, i < j → i ≠ k → WInv n (D i) s' := by
  intro i hi hne
  refine (h.wk i hi).other (mv_done hm) (mv_shut hm).1 (fun ha => ?_) (fun he => ?_)
  · have := (h.wk i hi).a1 ha
    have h2 := le_sum2 hi hk hne D fK
    refine mv_starve h hk hm this.2.2.2.2.2 ?_
    simp only [fK, ha] at h2 ⊢
    omega
  · refine mv_done_not hm fun hp => ?_
    have h2 := le_sum2 hi hk hne D fE
    rw [sum_fE] at h2
    have hl := h.lock
    have : fE (D i) = 1 := by rcases he with e | e | e | e | e | e <;> simp [fE, fE1, fE2, fE3, e]
    have : fE (D k) = 1 := by simp [fE, fE1, fE2, fE3, hp]
    split at hl <;> omega
set_option maxHeartbeats 4000000 in
theorem winv_self {T : TD} (hw : WInv n T s) (hn : n ≤ 16) (wide : s.mu.W ≤ n) (hm : (T', s') ∈ mv T s)
    (hr2 : T.ph = .r2 → s.mu.S = false → s.mu.K = true) (hr2' : T.ph = .r2 → s.mu.S = true → s.mu.K = false ∧ s.mu.L = false ∧ 1 ≤ s.mu.W)
    (haw : inLoop T.ph = true → T.aw = true → s.mu.K = true ∧ s.mu.S = false) : WInv n T' s' := by
  obtain ⟨ph, item, old, aw, sv, it, rest⟩ := T
  obtain ⟨i1, i2, i3, i4, i5, i6, i7, i8, i9, i10, i11, i12, i13, i14, i15, i16, i17⟩ := hw
  cases ph
  case r0 | r1 | r3 =>
    simp only [mv, List.mem_singleton, Prod.mk.injEq] at hm
    obtain ⟨rfl, rfl⟩ := hm
    rcases hd_cases _ with ⟨e, e1, e2, e3⟩ | ⟨e, e1⟩ <;> rw [e] <;> clear e <;> constructor <;> simp_all [holds, past, leaving, inLoop] <;> omega
  case r2 =>
    simp only [mv] at hm
    split at hm
    · simp only [List.mem_singleton, Prod.mk.injEq] at hm
      obtain ⟨rfl, rfl⟩ := hm
      constructor <;> simp_all [holds, past, leaving, inLoop]
    · simp only [List.mem_singleton, Prod.mk.injEq] at hm
      obtain ⟨rfl, rfl⟩ := hm
      rcases hd_cases _ with ⟨e, e1, e2, e3⟩ | ⟨e, e1⟩ <;> rw [e] <;> clear e <;> constructor <;> simp_all [holds, past, leaving, inLoop]
  case u0 =>
    simp only [mv] at hm
    split at hm
    · simp only [List.mem_singleton, Prod.mk.injEq] at hm
      obtain ⟨rfl, rfl⟩ := hm
      constructor <;> simp_all [holds, past, leaving, inLoop]
    · simp only [List.mem_singleton, Prod.mk.injEq] at hm
      obtain ⟨rfl, rfl⟩ := hm
      rcases hdU_cases _ _ with ⟨e, e1⟩ | ⟨e, e1⟩ <;> rw [e] <;> clear e <;> constructor <;> simp_all [holds, past, leaving, inLoop]
  case ux =>
    simp only [mv, List.mem_singleton, Prod.mk.injEq] at hm
    obtain ⟨rfl, rfl⟩ := hm
    rcases hdU_cases _ _ with ⟨e, e1⟩ | ⟨e, e1⟩ <;> rw [e] <;> clear e <;> constructor <;> simp_all [holds, past, leaving, inLoop]
  case rg =>
    cases rest with
    | nil => simp [mv] at hm
    | cons x r =>
      cases r with
      | nil =>
        simp only [mv, List.mem_singleton, Prod.mk.injEq] at hm
        obtain ⟨rfl, rfl⟩ := hm
        constructor <;> simp_all [holds, past, leaving, inLoop]
      | cons y r =>
        simp only [mv] at hm
        split at hm
        · cases ‹x :: y :: r = []›
        · cases ‹x :: y :: r = [_]›
        all_goals
          rename_i he
          cases he
          simp only [List.mem_singleton, Prod.mk.injEq] at hm
          obtain ⟨rfl, rfl⟩ := hm
          constructor <;> simp_all [holds, past, leaving, inLoop]
  case cn =>
    simp only [mv, List.mem_singleton, Prod.mk.injEq] at hm
    obtain ⟨rfl, rfl⟩ := hm
    cases rest with
    | nil => simp at i15
    | cons x r =>
      cases r with
      | nil => simp_all
      | cons y r => constructor <;> simp_all [holds, past, leaving, inLoop]
  all_goals
    simp only [mv] at hm
    (repeat' (split at hm))
    all_goals simp only [List.mem_cons, List.mem_singleton, List.not_mem_nil, or_false, Prod.mk.injEq] at hm
    all_goals first
      | (rcases hm with ⟨rfl, rfl⟩ | ⟨rfl, rfl⟩ <;> constructor <;> simp_all [holds, past, leaving, inLoop]; done)
      | (obtain ⟨rfl, rfl⟩ := hm; constructor <;> simp_all [holds, past, leaving, inLoop]; done)
end
end Go.Proofs.YthjofgmiabcifabGreatDoor.Ab
