/-
  The machine: the crowd comes to its end.
  Conditions: as each theorem says.
-/
import Derived.Test.YthjofgmiabcifabGreatDoorPMb
set_option linter.unusedVariables false
set_option linter.unusedSimpArgs false
namespace Go.Proofs.YthjofgmiabcifabGreatDoor.Ma
open Go Go.Conc
open Go.ConcN (PermW upd upd_same upd_ne sumTo sumTo_upd sumTo_congr sumTo_le)
open Go.ConcR (g_of_ofEvents ofEvent_cell ofEvent_loc_mark)
open Go.ConcM (OsLater)
open Go.Proofs.YthjofgmiabcifabGreatDoor.Ev Go.Proofs.YthjofgmiabcifabGreatDoor.Co Go.Proofs.YthjofgmiabcifabGreatDoor.Ab Go.Proofs.YthjofgmiabcifabGreatDoor.Mc Go.Proofs.YthjofgmiabcifabGreatDoor.Tr
open Go.Proofs.YthjofgmiabcifabGreatDoor.Lift (LSt Sim Further Fin)
section
variable {x : Cx} {n B : Nat} {cs : List Frame} {u : Int} {W0 : World} {sa : Option Addr} {sl sc : Nat} {L : List FuncId}
variable {gs : Array Goroutine} {w w' : World} {sl' : Option (Nat × Nat)} {j : Nat} {D : Nat → TD} {C : CD} {s s' : Sh} {k k' : Parts} {fu dw : Nat → Nat} {f0 : Nat} {lo lo' : Option LSt} {Wc Wc' : World} {t : Trace}
theorem turned_lt (hD : Dist x B) {b : Nat} (hb : Turned x b) : b < B := by
  obtain ⟨d1, d2, d3, d4, d5, d6, d7, d8, d9, d10⟩ := hD
  rcases hb with rfl | rfl | rfl | rfl | rfl | rfl <;> omega
/-- The old blocks stand. -/
theorem Wd.stand (hD : Dist x B) (h : Wd x n (CanOk x u) u B W0 k s w) (hb : ∀ b, b < B → w'.heap[b]? = w.heap[b]?) (hsz : B ≤ w'.heap.size) (ht : w'.tape = w.tape) (ho : w'.os = w.os) (hp : w'.output = w.output) (hpts : s.pts = false) :
    Wd x n (CanOk x u) u B W0 k' s w' := by
  have l := fun {b} (hb : Turned x b) => turned_lt hD hb
  refine ⟨by rw [hb _ (l tOn)]; exact h.on, ?_, by rw [hb _ (l tMd)]; exact h.md, ?_, ?_, by rw [hb _ (l tWg)]; exact h.wg, fun e => ?_, fun b h1 h2 => by rw [hb b h1]; exact h.old b h1 h2, hsz, ht.trans h.tape, ho ▸ h.os, hp.trans h.output⟩
  · rw [hb _ (l tPa), h.pa, hpts]; rfl
  · obtain ⟨c, e1, e2⟩ := h.oa
    exact ⟨c, by rw [hb _ (l tOa)]; exact e1, e2⟩
  · rw [hb _ (l (.inr (.inr (.inr (.inr (.inl rfl))))))]; exact h.ch
  · rw [hpts] at e; cases e
theorem Base.stand (hD : Dist x B) {sv : Value} (h : Base x n sv w) (hb : ∀ b, b < B → w'.heap[b]? = w.heap[b]?) : Base x n sv w' := by
  obtain ⟨d1, d2, d3, d4, d5, d6, d7, d8, d9, d10⟩ := hD
  exact ⟨by rw [hb _ (by omega)]; exact h.ob, by rw [hb _ (by omega)]; exact h.fb, by rw [hb _ (by omega)]; exact h.nb, by rw [hb _ (by omega)]; exact h.sb⟩
theorem mk_facts (I : I1 x n B cs u W0 sa sl sc L gs w j D C s k fu dw f0 lo Wc t) {q : Nat} (hq : q < j) (hp : (D q).ph = .mk) : s.done = false ∧ s.pts = false ∧ (∀ i, i < j → i ≠ q → isE (D i).ph = false ∧ (D i).ph ≠ .rg ∧ (D i).ph ≠ .cn) := by
  have hd := (I.ai.wk q hq).none (.inr (.inl hp))
  have h1 := le_sum hq D fE1
  simp only [fE1, hp] at h1
  have hl := I.ai.lock1
  have ho := (I.ai.once2 hd).1
  refine ⟨hd, ?_, fun i hi hne => ⟨?_, fun e => ?_, fun e => ?_⟩⟩
  · cases hpt : s.pts with
    | false => rfl
    | true => have := ho.1 hpt; omega
  · cases hE : isE (D i).ph with
    | false => rfl
    | true => exact absurd (uniqE I.ai i q hi hq hE (by rw [hp]; rfl)) hne
  · have := (I.ai.wk i hi).past (by rw [e]; rfl); rw [hd] at this; cases this
  · have := (I.ai.wk i hi).past (by rw [e]; rfl); rw [hd] at this; cases this
/-- A STEP OF THE WORK. -/
theorem nx_way (H : Hyp x n B u W0 sa sl sc L) (I : I1 x n B cs u W0 sa sl sc L gs w j D C s k fu dw f0 lo Wc t) {q : Nat} (hq : q < j) {g : Goroutine} (hg : gs[q + 1]? = some g) (hp : (D q).ph = .mk) (hd : dw q = 0) {J : Nat → Value} {l : LSt} (hl : lo = some l)
    (hgl : g = ⟨l.fr, l.up ++ (sMk Tryz.prog x J (D q).item sa sl sc).callers, .running, none, none⟩) (way : Lift.Way (Cl Tryz.prog x L Wc).bare (Rm x B u) l) (sim : Sim (Cl Tryz.prog x L Wc) l.w w) (hB : B ≤ Wc.heap.size)
    (hch : ∃ c d e f g h, Wc.heap[x.Ch]? = some (.chan c d e f g h)) : NX x n B cs u W0 sa sl sc L (q + 1) gs w sl' j D C s fu f0 lo t := by
  have hD := H.dist
  obtain ⟨hdone, hpts, hoth⟩ := mk_facts I hq hp
  have hE : isE (D q).ph = true := by rw [hp]; rfl
  have nostP : ∀ i, i < j → (D i).ph = .stP → False := by
    intro i hi e
    have := uniqE I.ai i q hi hq (by rw [e]; rfl) hE
    subst this
    rw [hp] at e
    cases e
  have hrel : relP (D q).ph = false := by rw [hp]; rfl
  by_cases hf : Fin (Cl Tryz.prog x L Wc).bare (Rm x B u) l (Lift.joined l w)
  · obtain ⟨hup, e, hne, hleave, pa, pl, pc, ty, v, rfl, hcell, hpl, hpa, hcan⟩ := hf
    have hi : Lift.LInv (Cl Tryz.prog x L Wc).bare l := by cases way with | mk hi _ _ => exact hi
    obtain ⟨es, hst, hes⟩ := Lift.way_return (c := (sMk Tryz.prog x J (D q).item sa sl sc).callers.headD default) (rest := (sMk Tryz.prog x J (D q).item sa sl sc).callers.tail) (m := false) (st := .running) (of := none) hi sim hleave
    rw [← mk_callers] at hst
    have hst' : stepG Tryz.prog false g w = .go (sMkR Tryz.prog x J (D q).item sa sl sc pa pl pc) w es := by
      rw [hgl, hup, List.nil_append]
      unfold sMkR
      rw [on_eq, List.nil_append]
      exact hst
    have hm : (({ D q with ph := .stP } : TD), s) ∈ mv (D q) s := by
      generalize D q = T at hp
      obtain ⟨ph, item, old, aw, sv, it, rest⟩ := T
      simp only at hp
      subst hp
      simp [mv]
    have ai' := I.ai.stepW hq hm
    have low := I.ai.fallsW hq hm
    have wd' : Wd x n (CanOk x u) u B W0 ⟨pa, pl, pc, ty, v⟩ s w := Wd.stand hD I.wd (fun _ _ => rfl) I.wd.size rfl rfl rfl hpts
    have hcw : w.cell? pa = some (.iface ty v) := (sim.cell (a := pa) hcell).1
    have hsil : Sil Tryz.prog false (Live x) 3 (sMkR Tryz.prog x J (D q).item sa sl sc pa pl pc) (sStP Tryz.prog x J (D q).item sa sl sc pa pl pc) := sil_of (mk_q x J (D q).item sa sl sc pa pl pc) (fun _ _ => trivial)
    have hs' : WS x n B u sa sl sc L ⟨pa, pl, pc, ty, v⟩ { D q with ph := .stP } s 3 0 lo Wc (sMkR Tryz.prog x J (D q).item sa sl sc pa pl pc) w := .inl ⟨by simp, by simp, rfl, .inl ⟨_, hsil, J, sa, sl, sc, rfl⟩⟩
    have tl' : TL (fam x B) n j (upd D q { D q with ph := .stP }) s (t ++ MemOp.ofEvents (q + 1) g.frame.fn g.frame.place es) :=
      (tl_way hD I.ai hq hp hB hch I.tl hes _ _).move hq rfl (fun _ _ h => h) (fun _ => .inl hE) (fun _ _ => rfl) (fun h => by cases h)
    have rl' : RL (fam x B).Sh (wa x) j (upd D q { D q with ph := .stP }) (t ++ MemOp.ofEvents (q + 1) g.frame.fn g.frame.place es) (upd dw q 0) (dC C.ph) := by
      rw [← hd, upd_self]
      exact (rl_way hq hrel I.rl hes _ _).move hq (fun h => by cases h)
    have key := goW (sl' := sl') (T' := { D q with ph := .stP }) (m' := 3) (d' := 0) (k' := ⟨pa, pl, pc, ty, v⟩) I hq hg hst' ai' wd' I.ba hs'
      (fun i hi hne o hwo => (hwo.others hD I.wd I.wd (fun _ => .refl x w) (fun h0 => .inl h0) (.inl rfl)).far (fun e => by have := (hoth i hi hne).1; rw [e] at this; cases this) (.inr (hoth i hi hne)))
      (fun a hca => hca.others ⟨_, _, I.wd.ch⟩ rfl (fun hsd => by rw [I.ai.shut, hsd]; rfl) (fun h0 => .inl h0)) (fun h => by cases h)
      (fun i hi hpi => by
        by_cases e : i = q
        · exact ⟨hpa, hcw, hpl, hcan⟩
        · rw [upd_ne _ _ e] at hpi
          exact (nostP i hi hpi).elim) tl' rl' I.acc
    exact ⟨_, _, _, _, _, _, _, _, _, _, _, _, _, key.1, key.2, less_low I.acc (.inr trivial) low⟩
  · obtain ⟨l', w', es, way', fur, hst, sim', hes, kept, hdr⟩ := Lift.way_company (base := (sMk Tryz.prog x J (D q).item sa sl sc).callers) (m := false) (st := .running) (of := none) H.lst way sim hf
    have hb : ∀ b, b < B → w'.heap[b]? = w.heap[b]? := by
      intro b hb
      refine kept.old b (Nat.lt_of_lt_of_le hb hB) ?_
      by_cases hT : Turned x b
      · exact .inl (.inl hT)
      · exact .inr hT
    have hsz : B ≤ w'.heap.size := by
      have h1 := sim'.size
      have h2 := sim'.le
      have e : (Cl Tryz.prog x L Wc).n0 = Wc.heap.size := rfl
      omega
    have wd' : Wd x n (CanOk x u) u B W0 k s w' := Wd.stand hD I.wd hb hsz kept.tape kept.os kept.output hpts
    have hst' : stepG Tryz.prog false g w = .go ⟨l'.fr, l'.up ++ (sMk Tryz.prog x J (D q).item sa sl sc).callers, .running, none, none⟩ w' es := by rw [hgl]; exact hst
    have acc' : AccO (Further (Cl Tryz.prog x L W0).bare (Rm x B u)) (some l') := by
      intro l2 e
      cases e
      have := I.acc l hl
      rw [fur_eq Tryz.prog x L W0 Wc (Rm x B u)] at this ⊢
      exact this.inv fur
    have key := goW (sl' := sl') (T' := D q) (m' := 0) (d' := dw q) (k' := k) (lo' := some l') (Wc' := Wc) I hq hg hst' (by rw [upd_self]; exact I.ai) wd' (Base.stand hD I.ba hb)
      (.inr (.inl ⟨hp, hd, J, l', rfl, rfl, way', sim', hB, hch⟩))
      (fun i hi hne o hwo => (hwo.others hD I.wd wd' (fun e => by have := (hoth i hi hne).1; rw [e] at this; cases this) (fun h0 => .inl h0) (.inl rfl)).far (fun e => by have := (hoth i hi hne).1; rw [e] at this; cases this) (.inl rfl))
      (fun a hca => hca.others ⟨_, _, wd'.ch⟩ rfl (fun hsd => by rw [I.ai.shut, hsd]; rfl) (fun h0 => .inl h0)) (fun h => by rw [hp] at h; cases h)
      (fun i hi hpi => by rw [upd_self] at hpi; exact (nostP i hi hpi).elim) (by rw [upd_self]; exact tl_way hD I.ai hq hp hB hch I.tl hes _ _) (by rw [upd_self, upd_self]; exact rl_way hq hrel I.rl hes _ _) acc'
    rw [upd_self, upd_self] at key
    exact ⟨_, _, _, _, _, _, _, _, _, _, _, _, _, key.1, key.2, acc', .inr ⟨rfl, .inr ⟨rfl, .inl ⟨l', l, rfl, hl, fur⟩⟩⟩⟩
end
end Go.Proofs.YthjofgmiabcifabGreatDoor.Ma
namespace Go.Proofs.YthjofgmiabcifabGreatDoor.Ma
open Go Go.Conc
open Go.ConcN (PermW upd upd_same upd_ne sumTo sumTo_upd sumTo_congr sumTo_le sumTo_upd_out)
open Go.ConcR (g_of_ofEvents ofEvent_cell ofEvent_loc_mark)
open Go.ConcM (OsLater)
open Go.Proofs.YthjofgmiabcifabGreatDoor.Ev Go.Proofs.YthjofgmiabcifabGreatDoor.Co Go.Proofs.YthjofgmiabcifabGreatDoor.Ab Go.Proofs.YthjofgmiabcifabGreatDoor.Mc Go.Proofs.YthjofgmiabcifabGreatDoor.Tr
open Go.Proofs.YthjofgmiabcifabGreatDoor.Lift (LSt Sim Further Fin)
section
variable {x : Cx} {n B : Nat} {cs : List Frame} {u : Int} {W0 : World} {sa : Option Addr} {sl sc : Nat} {L : List FuncId}
variable {gs : Array Goroutine} {w w' : World} {sl' : Option (Nat × Nat)} {j : Nat} {D : Nat → TD} {C : CD} {s s' : Sh} {k k' : Parts} {fu dw : Nat → Nat} {f0 : Nat} {lo lo' : Option LSt} {Wc Wc' : World} {t : Trace}
theorem off_w {T : TD} {m d : Nat} {g : Goroutine} (h : WS x n B u sa sl sc L k T s m d lo Wc g w) (c : Nat) : offersAt g c true = [] ∧ (g.status ≠ .blocked ∨ T.ph ≠ .rcv → offersAt g c false = []) := by
  have run : ∀ o : Goroutine, o.status = .running ∨ o.status = .finished → ∀ b, offersAt o c b = [] := fun o ho b => offersAt_of_not_blocked (by rcases ho with e | e <;> rw [e] <;> simp) c b
  rcases h with ⟨n1, n2, hd, h⟩ | ⟨hp, hd, J, l, hl, hs, _⟩ | ⟨hp, hq⟩
  · rcases h with ⟨h, hs, ha⟩ | ⟨hp, hm0, hms, h, ha, ho, rfl⟩ | ⟨hp, hm0, J, ⟨hsh, rfl⟩ | ⟨hsh, rfl⟩⟩
    · have := sil_running hs ha.running
      exact ⟨run g (.inl this) _, fun _ => run g (.inl this) _⟩
    · have e : ∀ b, offersAt ({ h with status := .blocked } : Goroutine) c b = [] := by
        intro b
        unfold offersAt
        simp only [ho]
      exact ⟨e _, fun _ => e _⟩
    · refine ⟨offersAt_parked_recv' _ _ _ _ _, fun h => ?_⟩
      rcases h with h | h
      · exact absurd rfl h
      · exact absurd hp h
    · exact ⟨run _ (.inl rfl) _, fun _ => run _ (.inl rfl) _⟩
  · have := sil_running hs rfl
    exact ⟨run g (.inl this) _, fun _ => run g (.inl this) _⟩
  · exact ⟨run g hq.status _, fun _ => run g hq.status _⟩
theorem off_c {m : Nat} {a : Goroutine} (h : CS x n cs C j s m a) (c : Nat) : offersAt a c false = [] ∧ (a.status ≠ .blocked ∨ C.ph ≠ .sd → offersAt a c true = []) := by
  have run : ∀ o : Goroutine, o.status = .running → ∀ b, offersAt o c b = [] := fun o ho b => offersAt_of_not_blocked (by rw [ho]; simp) c b
  rcases h with ⟨h, hs, ha⟩ | ⟨hp, hm0, hwm, h, ha, ho, hr, rfl⟩ | ⟨hp, hm0, R, K, Q, rfl⟩
  · have := sil_running hs (atC_running ha)
    exact ⟨run a this _, fun _ => run a this _⟩
  · have e : ∀ b, offersAt ({ h with status := .blocked } : Goroutine) c b = [] := by
      intro b
      unfold offersAt
      simp only [ho]
    exact ⟨e _, fun _ => e _⟩
  · refine ⟨offersAt_parked_send' _ _ _ _ _ _, fun h => ?_⟩
    rcases h with h | h
    · exact absurd rfl h
    · exact absurd hp h
/-- Who stands at the place p. -/
theorem I1.who (I : I1 x n B cs u W0 sa sl sc L gs w j D C s k fu dw f0 lo Wc t) {p : Nat} {g : Goroutine} (h : gs[p]? = some g) : (p = 0 ∧ CS x n cs C j s f0 g) ∨ ∃ i, i < j ∧ p = i + 1 ∧ WS x n B u sa sl sc L k (D i) s (fu i) (dw i) lo Wc g w := by
  cases p with
  | zero =>
    obtain ⟨a, ha, hc⟩ := I.g0
    rw [ha] at h
    cases h
    exact .inl ⟨rfl, hc⟩
  | succ i =>
    have hi : i < j := by
      have := I.size
      rcases Nat.lt_or_ge i j with h1 | h1
      · exact h1
      · rw [Array.getElem?_eq_none (by omega)] at h; cases h
    obtain ⟨o, ho, hw⟩ := I.gw i hi
    rw [ho] at h
    cases h
    exact .inr ⟨i, hi, rfl, hw⟩
theorem WS.tick {T : TD} {m d : Nat} {g : Goroutine} (h : WS x n B u sa sl sc L k T s m d lo Wc g w) (h1 : s'.ms = s.ms) (h2 : s'.shut = s.shut) (h3 : T.ph = .mk → Moves x w w') (hD : Dist x B) (hw : Wd x n (CanOk x u) u B W0 k s w) (hw' : Wd x n (CanOk x u) u B W0 k s' w') :
    WS x n B u sa sl sc L k T s' m d lo Wc g w' := by
  rcases h with ⟨n1, n2, hd, h⟩ | ⟨hp, hd, J, l, hl, hs, hy, sim, hB, hch⟩ | h
  · refine .inl ⟨n1, n2, hd, ?_⟩
    rw [h1, h2]
    exact h
  · exact .inr (.inl ⟨hp, hd, J, l, hl, hs, hy, sim_moves hw hw' (h3 hp) hB hD hch sim, hB, hch⟩)
  · exact .inr (.inr h)
/-- One goroutine's record is laid anew; nobody else turns. -/
theorem lay1 (H : Hyp x n B u W0 sa sl sc L) (I : I1 x n B cs u W0 sa sl sc L gs w j D C s k fu dw f0 lo Wc t) {q : Nat} (hq : q < j) {g' : Goroutine} {T' : TD} {m' : Nat} {ops : Trace} (ai' : AInv n j (upd D q T') C s) (hs' : WS x n B u sa sl sc L k T' s m' (dw q) lo Wc g' w)
    (hrun : g'.status = .running ∨ ∀ a, gs[0]? = some a → a.status = .blocked → C.ph = .sd → False) (hsp : T'.ph ≠ .stP) (tl' : TL (fam x B) n j (upd D q T') s (t ++ ops)) (rl' : RL (fam x B).Sh (wa x) j (upd D q T') (t ++ ops) dw (dC C.ph)) :
    I1 x n B cs u W0 sa sl sc L (gs.setIfInBounds (q + 1) g') w j (upd D q T') C s k (upd fu q m') dw f0 lo Wc (t ++ ops) := by
  have hsz := I.size
  refine ⟨by simp [hsz], ai', I.wd, I.ba, ?_, fun i hi => ?_, fun a ha hb hc i o hi hr ho => ?_, fun i hi hp => ?_, tl', rl', I.acc, I.fin⟩
  · obtain ⟨a, ha, hca⟩ := I.g0
    exact ⟨a, by rw [Array.getElem?_setIfInBounds_ne (by omega)]; exact ha, hca⟩
  · by_cases e : i = q
    · subst e
      exact ⟨g', by rw [Array.getElem?_setIfInBounds_self_of_lt (by omega)], by rw [upd_same, upd_same]; exact hs'⟩
    · obtain ⟨o, ho, hwo⟩ := I.gw i hi
      exact ⟨o, by rw [Array.getElem?_setIfInBounds_ne (by omega)]; exact ho, by rw [upd_ne _ _ e, upd_ne _ _ e]; exact hwo⟩
  · rw [Array.getElem?_setIfInBounds_ne (by omega)] at ha
    by_cases e : i = q
    · subst e
      rw [Array.getElem?_setIfInBounds_self_of_lt (by omega)] at ho
      cases ho
      rcases hrun with h1 | h1
      · exact h1
      · exact (h1 a ha hb hc).elim
    · rw [Array.getElem?_setIfInBounds_ne (by omega)] at ho
      rw [upd_ne _ _ e] at hr
      exact I.meet a ha hb hc i o hi hr ho
  · by_cases e : i = q
    · subst e; rw [upd_same] at hp; exact absurd hp hsp
    · rw [upd_ne _ _ e] at hp; exact I.st i hi hp
theorem served_of {a b : Goroutine} {c c' : Array CommCase} {sh sh' : CommShape} (h : parked a c sh = parked b c' sh') (v : Value) : Go.Conc.served a v = Go.Conc.served b v ∧ sh = sh' := by
  obtain ⟨f, cl, st, dy, of⟩ := a
  obtain ⟨f', cl', st', dy', of'⟩ := b
  simp only [parked, Goroutine.mk.injEq, Option.some.injEq, Prod.mk.injEq] at h
  obtain ⟨rfl, rfl, _, rfl, _, rfl⟩ := h
  exact ⟨rfl, rfl⟩
/-- The mute entries of a communication. -/
theorem comm_tl {ops : Trace} (hj : ∀ op ∈ ops, op.g ≤ j ∧ op.act.touch? = none ∧ (∀ e, op.act ≠ .access e) ∧ ∀ m, op.act ≠ .mark m) {d0 : Nat} (tl : TL (fam x B) n j D s t) (rl : RL (fam x B).Sh (wa x) j D t dw d0) :
    TL (fam x B) n j D s (t ++ ops) ∧ RL (fam x B).Sh (wa x) j D (t ++ ops) dw d0 :=
  ⟨tl.mute fun op hop => ⟨(hj op hop).1, (hj op hop).2.1, (hj op hop).2.2.1⟩, rl.mute fun op hop => ⟨(hj op hop).2.1, (hj op hop).2.2.2⟩⟩
theorem again_step (P : Program) (main : Bool) (g : Goroutine) (cs : Array CommCase) (sh : CommShape) (w : World) : stepG P main { parked g cs sh with status := .running } w = stepG P main g w := stepG_same rfl rfl rfl w
theorem rcv_on (x : Cx) (J : Nat → Value) : on (mkRcv Tryz.prog x J).frame (mkRcv Tryz.prog x J).callers = mkRcv Tryz.prog x J := by kernel_rfl
theorem se_on (x : Cx) (n i : Int) (cs : List Frame) (R K : Nat → Value) : on (mkSe Tryz.prog x n i cs R K).frame (mkSe Tryz.prog x n i cs R K).callers = mkSe Tryz.prog x n i cs R K := by kernel_rfl
theorem run_sn (x : Cx) (n i : Int) (cs : List Frame) (R K : Nat → Value) : (sSn Tryz.prog x n i cs R K).status = .running := by kernel_rfl
theorem served_end (x : Cx) (J : Nat → Value) : Go.Conc.served (mkRcv Tryz.prog x J) (recvd true (.int .i64 0) false) = sEnd Tryz.prog x J := by kernel_rfl
theorem served_got (x : Cx) (J : Nat → Value) (i : Nat) : Go.Conc.served (mkRcv Tryz.prog x J) (recvd true (.int .i64 i) true) = sGot Tryz.prog x J i := by kernel_rfl
theorem served_sn (x : Cx) (n i : Int) (cs : List Frame) (R K : Nat → Value) : Go.Conc.served (mkSe Tryz.prog x n i cs R K) undef = sSn Tryz.prog x n i cs R K := by kernel_rfl
/-- Where both are laid anew: an item has been handed over. -/
theorem lay2 (H : Hyp x n B u W0 sa sl sc L) (I : I1 x n B cs u W0 sa sl sc L gs w j D C s k fu dw f0 lo Wc t) {q : Nat} (hq : q < j) (hc : C.ph = .sd) (hr : (D q).ph = .rcv) {R K Q J : Nat → Value} {gs2 : Array Goroutine} {ops : Trace}
    (h0 : gs2[0]? = some (sSn Tryz.prog x n s.sent (fr4 Tryz.prog x n Q :: cs) R K)) (h1 : gs2[q + 1]? = some (sGot Tryz.prog x J s.sent)) (hsz : gs2.size = gs.size) (ho : ∀ i, i < j → i ≠ q → gs2[i + 1]? = gs[i + 1]?)
    (hw : w'.heap = w.heap.setIfInBounds x.Ch (.chan 0 #[] false (s.sent + 1) (s.sent + 1) false)) (ht : w'.tape = w.tape) (hos : w'.os = w.os) (hout : w'.output = w.output) (hdw : dw q = 0)
    (hj : ∀ op ∈ ops, op.g ≤ j ∧ op.act.touch? = none ∧ (∀ e, op.act ≠ .access e) ∧ ∀ m, op.act ≠ .mark m) :
    ∃ C2 f2, I1 x n B cs u W0 sa sl sc L gs2 w' j (upd D q { D q with ph := .ld1, item := s.sent }) C2 { s with sent := s.sent + 1 } k (upd fu q 37) dw f2 lo Wc (t ++ ops) ∧
      Low n j (upd D q { D q with ph := .ld1, item := s.sent }) C2 { s with sent := s.sent + 1 } j D C s := by
  have hD := H.dist
  have hsh : s.shut = false := by rw [I.ai.shut, hc]; rfl
  have ai' := I.ai.pass hc hq hr
  have low := I.ai.fallsPass hc hq hr
  have hlt : s.sent < n := I.ai.feed hc
  have h16 := I.ai.n16
  have wd' : Wd x n (CanOk x u) u B W0 k { s with sent := s.sent + 1 } w' := by
    have := I.wd.setCh hD false (s.sent + 1) hw ht hos hout
    rw [← hsh] at this
    exact this
  have hmv : Moves x w w' := ⟨by rw [hw]; simp, fun b hb => by rw [hw, Array.getElem?_setIfInBounds_ne]; rintro rfl; exact hb (.inr (.inr (.inr (.inr (.inl rfl)))))⟩
  obtain ⟨tl1, rl1⟩ := comm_tl hj I.tl I.rl
  have fin : ∀ (pc : Pc), fed n s = { ph := pc } → (∃ f2, CS x n cs { ph := pc } j { s with sent := s.sent + 1 } f2 (sSn Tryz.prog x n s.sent (fr4 Tryz.prog x n Q :: cs) R K)) → dC pc = 0 → pc ≠ .fin →
      ∃ C2 f2, I1 x n B cs u W0 sa sl sc L gs2 w' j (upd D q { D q with ph := .ld1, item := s.sent }) C2 { s with sent := s.sent + 1 } k (upd fu q 37) dw f2 lo Wc (t ++ ops) ∧
        Low n j (upd D q { D q with ph := .ld1, item := s.sent }) C2 { s with sent := s.sent + 1 } j D C s := by
    rintro pc hph ⟨f2, hcs⟩ hd0 hfin
    rw [hph] at ai' low
    refine ⟨{ ph := pc }, f2, ⟨by rw [hsz, I.size], ai', wd', Base.moves hD hmv I.ba, ⟨_, h0, hcs⟩, fun i hi => ?_, fun a ha hb hc' i o hi hr' ho' => ?_, fun i hi hp => ?_, ?_, ?_, I.acc, hfin⟩, low⟩
    · by_cases e : i = q
      · subst e
        refine ⟨_, h1, ?_⟩
        rw [upd_same, upd_same]
        exact .inl ⟨by simp, by simp, by rw [hdw]; rfl, .inl ⟨_, sil_of (got_q x J s.sent) (fun _ _ => And.intro rfl trivial), J, rfl⟩⟩
      · obtain ⟨o, hoo, hwo⟩ := I.gw i hi
        refine ⟨o, by rw [ho i hi e]; exact hoo, ?_⟩
        rw [upd_ne _ _ e, upd_ne _ _ e]
        exact hwo.tick (s' := { s with sent := s.sent + 1 }) rfl rfl (fun _ => hmv) hD I.wd wd'
    · have e := Option.some.inj (h0.symm.trans ha)
      rw [← e] at hb
      exact absurd hb (by rw [run_sn]; simp)
    · by_cases e : i = q
      · subst e; rw [upd_same] at hp; cases hp
      · rw [upd_ne _ _ e] at hp
        obtain ⟨p1, p2, p3, p4⟩ := I.st i hi hp
        exact ⟨p1, by rw [cell_moves hD hmv p1]; exact p2, p3, p4⟩
    · exact (tl1.state (s' := { s with sent := s.sent + 1 }) rfl rfl).move (T' := { D q with ph := .ld1, item := s.sent }) hq rfl (fun _ _ h => h) (fun h => by cases h) (fun _ h => by rw [hr] at h; cases h) (fun h => by cases h)
    · have := rl1.move (T' := { D q with ph := .ld1, item := s.sent }) hq (fun h => by cases h)
      rw [hc] at this
      rw [hd0]
      exact this
  by_cases hl : s.sent + 1 < n
  · refine fin .sd (by unfold fed; rw [if_pos hl]) ?_ rfl (by simp)
    have := silC_of (x := x) (sn_sd x n s.sent (fr4 Tryz.prog x n Q :: cs) R K) (fun _ _ => And.intro (by rw [itv (by omega), ltv]; simpa using hl) trivial)
    rw [itv (by omega)] at this
    exact ⟨24, .inl ⟨_, this, _, K, Q, rfl⟩⟩
  · refine fin .cl (by unfold fed; rw [if_neg hl]) ?_ rfl (by simp)
    have := silC_of (x := x) (sn_cl x n s.sent (fr4 Tryz.prog x n Q :: cs) R K) (fun _ _ => And.intro (by rw [itv (by omega), ltv]; simpa using hl) trivial)
    exact ⟨16, .inl ⟨_, this, _, K, Q, rfl⟩⟩
/-- A WORKER AT THE RECEIVE. -/
theorem nx_rcv (H : Hyp x n B u W0 sa sl sc L) (I : I1 x n B cs u W0 sa sl sc L gs w j D C s k fu dw f0 lo Wc t) {q : Nat} (hq : q < j) {g : Goroutine} (hg : gs[q + 1]? = some g) (hp : (D q).ph = .rcv) (hdw : dw q = dW (D q).ph) (hf : fu q = 0) (hrn : g.status = .running) {J : Nat → Value}
    (hgs : g = mkRcv Tryz.prog x J ∨ (s.shut = true ∧ g = { parked (mkRcv Tryz.prog x J) #[rc x.Ch] (.recv true) with status := .running })) : NX x n B cs u W0 sa sl sc L (q + 1) gs w sl' j D C s fu f0 lo t := by
  have hst : stepG Tryz.prog ((q + 1) == 0) g w = .comm (mkRcv Tryz.prog x J) #[rc x.Ch] true (.recv true) w #[] := by
    have h1 : stepG Tryz.prog false (mkRcv Tryz.prog x J) w = .comm (mkRcv Tryz.prog x J) #[rc x.Ch] true (.recv true) w #[] := by
      have h0 := gcomm_sound (main := false) (w := w) (rcv_comm x J)
      rw [rcv_on] at h0
      exact h0
    have e0 : ((q + 1) == 0) = false := rfl
    rw [e0]
    rcases hgs with rfl | ⟨_, rfl⟩
    · exact h1
    · rw [again_step]
      exact h1
  have hdw0 : dw q = 0 := by rw [hdw, hp]; rfl
  have hsz := I.size
  have hchan := I.wd.ch
  have stand : ∀ (b : Bool), (∀ p g, p ≠ q + 1 → gs[p]? = some g → offersAt g x.Ch b = []) → partners (gs.setIfInBounds (q + 1) ph) x.Ch b = [] := by
    intro b hb
    refine partners_nil fun p o ho => ?_
    rcases getElem?_stand gs (q + 1) p o ho with ⟨_, rfl⟩ | ⟨hne, ho'⟩
    · exact offersAt_ph _ _
    · exact hb p o hne ho'
  by_cases hsh : s.shut = true
  · have hCsd : C.ph ≠ .sd := fun e => by rw [I.ai.shut, e] at hsh; cases hsh
    rw [hsh] at hchan
    have hpn := stand true fun p o _ ho => by
      rcases I.who ho with ⟨_, hc⟩ | ⟨i, _, _, hw⟩
      · exact (off_c hc x.Ch).2 (.inr hCsd)
      · exact (off_w hw x.Ch).1
    have hrun := crowd_recv_closed (sl := sl') (P := Tryz.prog) hg hst hchan hpn
    rw [finishComm_recv] at hrun
    rw [served_end] at hrun
    have hm : (({ D q with ph := .wr } : TD), s) ∈ mv (D q) s := by
      generalize D q = T at hp
      obtain ⟨ph, item, old, aw, sv, it, rest⟩ := T
      simp only at hp
      subst hp
      simp [mv, hsh]
    have ai' := I.ai.stepW hq hm
    have low := I.ai.fallsW hq hm
    have hsil : Sil Tryz.prog false (Live x) 33 (sEnd Tryz.prog x J) (sWr Tryz.prog x) := sil_of (end_q x J) (fun _ hl => And.intro rfl (And.intro rfl (And.intro rfl (And.intro hl.2 (And.intro hl.2 trivial)))))
    have hops : ∀ op ∈ (MemOp.ofEvents (q + 1) g.frame.fn g.frame.place #[] ++ #[{ g := q + 1, fn := (mkRcv Tryz.prog x J).frame.fn, pos := (mkRcv Tryz.prog x J).frame.place, act := .recvClosed x.Ch }] : Trace), op.g ≤ j ∧ op.act.touch? = none ∧ (∀ e, op.act ≠ .access e) ∧ ∀ m, op.act ≠ .mark m := by
      intro op hop
      have hop : op = { g := q + 1, fn := (mkRcv Tryz.prog x J).frame.fn, pos := (mkRcv Tryz.prog x J).frame.place, act := .recvClosed x.Ch } := by
        rcases Array.mem_append.1 hop with h | h
        · simp [MemOp.ofEvents] at h
        · simpa using h
      subst hop
      exact ⟨by simp only; omega, rfl, fun _ => by simp, fun _ => by simp⟩
    obtain ⟨tl1, rl1⟩ := comm_tl hops I.tl I.rl
    have key := lay1 H I hq (T' := { D q with ph := .wr }) (m' := 33) ai' (.inl ⟨by simp, by simp, by rw [hdw0]; rfl, .inl ⟨_, hsil, rfl⟩⟩) (.inl rfl) (by simp)
      (tl1.move hq rfl (fun _ _ h => h) (fun h => by cases h) (fun _ h => by rw [hp] at h; cases h) (fun h => by cases h)) (rl1.move hq (fun h => by cases h))
    exact ⟨_, _, _, _, _, _, _, _, _, _, _, _, _, hrun, key, less_low I.acc (.inr trivial) low⟩
  · have hsh : s.shut = false := by simpa using hsh
    rw [hsh] at hchan
    have hgm : g = mkRcv Tryz.prog x J := by
      rcases hgs with h | ⟨h, _⟩
      · exact h
      · rw [hsh] at h; cases h
    obtain ⟨a, ha, hca⟩ := I.g0
    by_cases hpk : a.status = .blocked ∧ C.ph = .sd
    · obtain ⟨hab, hsd⟩ := hpk
      obtain ⟨R, K, Q, rfl⟩ : ∃ R K Q, a = parked (mkSe Tryz.prog x n s.sent (fr4 Tryz.prog x n Q :: cs) R K) #[scs x.Ch s.sent] .send := by
        rcases hca with ⟨h, hs, hat⟩ | ⟨hp', _⟩ | ⟨_, _, R, K, Q, h⟩
        · rw [sil_running hs (atC_running hat)] at hab; cases hab
        · rw [hsd] at hp'; cases hp'
        · exact ⟨R, K, Q, h⟩
      have hpn : partners (gs.setIfInBounds (q + 1) ph) x.Ch true = [(0, 0)] := by
        rw [partners_one (j := 0) (g := parked (mkSe Tryz.prog x n s.sent (fr4 Tryz.prog x n Q :: cs) R K) #[scs x.Ch s.sent] .send) (by rw [Array.getElem?_setIfInBounds_ne (by omega)]; exact ha) fun p o hne ho => ?_]
        · rw [show offersAt (parked (mkSe Tryz.prog x n s.sent (fr4 Tryz.prog x n Q :: cs) R K) #[scs x.Ch s.sent] .send) x.Ch true = _ from offersAt_parked_send _ _ _ _ _ _]
          simp
        · rcases getElem?_stand gs (q + 1) p o ho with ⟨_, rfl⟩ | ⟨_, ho'⟩
          · exact offersAt_ph _ _
          · rcases I.who ho' with ⟨h0, _⟩ | ⟨i, _, _, hw⟩
            · exact absurd h0 hne
            · exact (off_w hw x.Ch).1
      have hrun := crowd_recv_meets (sl := sl') (P := Tryz.prog) (j := 0) hg hst hchan (by omega) ha hpn
      rw [finishComm_recv, finishComm_send] at hrun
      rw [served_got, served_sn] at hrun
      obtain ⟨ops, hops, hrun⟩ : ∃ ops : Trace, (∀ op ∈ ops, op.g ≤ j ∧ op.act.touch? = none ∧ (∀ e, op.act ≠ .access e) ∧ ∀ m, op.act ≠ .mark m) ∧
          runT Tryz.prog (crowd gs w sl') (q + 1) = (.next (crowd ((gs.setIfInBounds 0 (sSn Tryz.prog x n s.sent (fr4 Tryz.prog x n Q :: cs) R K)).setIfInBounds (q + 1) (sGot Tryz.prog x J s.sent)) (w.setChan x.Ch 0 #[] false (s.sent + 1) (s.sent + 1) false) sl'), ops) := by
        refine ⟨_, fun op hop => ?_, hrun⟩
        rcases Array.mem_append.1 hop with h | h
        · simp [MemOp.ofEvents] at h
        · simp only [List.mem_toArray, List.mem_cons, List.not_mem_nil, or_false] at h
          rcases h with rfl | rfl | rfl | rfl <;> exact ⟨by simp only; omega, rfl, fun _ => by simp, fun _ => by simp⟩
      obtain ⟨C2, f2, I2, low⟩ := lay2 (w' := w.setChan x.Ch 0 #[] false (s.sent + 1) (s.sent + 1) false) (R := R) (K := K) (Q := Q) (J := J) (gs2 := (gs.setIfInBounds 0 (sSn Tryz.prog x n s.sent (fr4 Tryz.prog x n Q :: cs) R K)).setIfInBounds (q + 1) (sGot Tryz.prog x J s.sent)) H I hq hsd hp
        (by rw [Array.getElem?_setIfInBounds_ne (by omega), Array.getElem?_setIfInBounds_self_of_lt (by omega)]) (by rw [Array.getElem?_setIfInBounds_self_of_lt (by simp; omega)]) (by simp)
        (fun i hi hne => by rw [Array.getElem?_setIfInBounds_ne (by omega), Array.getElem?_setIfInBounds_ne (by omega)]) rfl rfl rfl rfl hdw0 hops
      exact ⟨_, _, _, _, _, _, _, _, _, _, _, _, _, hrun, I2, less_low I.acc (.inr trivial) low⟩
    · have hpn := stand true fun p o _ ho => by
        rcases I.who ho with ⟨h0, hc⟩ | ⟨i, _, _, hw⟩
        · subst h0
          rw [ha] at ho
          cases ho
          refine (off_c hc x.Ch).2 ?_
          by_cases hb : a.status = .blocked
          · exact .inr fun e => hpk ⟨hb, e⟩
          · exact .inl hb
        · exact (off_w hw x.Ch).1
      have hrun := crowd_waits (sl := sl') (P := Tryz.prog) hg hst (fun cc hcc => by
        simp only [List.mem_toArray, List.mem_singleton] at hcc
        subst hcc
        exact ways_recv_none hchan hpn)
      rw [show MemOp.ofEvents (q + 1) g.frame.fn g.frame.place #[] = #[] from rfl] at hrun
      have key := lay1 (ops := #[]) (g' := parked (mkRcv Tryz.prog x J) #[rc x.Ch] (.recv true)) H I hq (T' := D q) (m' := 0) (by rw [upd_self]; exact I.ai) (.inl ⟨by rw [hp]; simp, by rw [hp]; simp, hdw, .inr (.inr ⟨hp, rfl, J, .inl ⟨hsh, rfl⟩⟩)⟩)
        (.inr fun a' ha' hb hc => by rw [ha] at ha'; cases ha'; exact hpk ⟨hb, hc⟩) (by rw [hp]; simp) (by rw [upd_self]; simpa using I.tl) (by rw [upd_self]; simpa using I.rl)
      rw [upd_self] at key
      refine ⟨_, _, _, _, _, _, _, _, _, _, _, _, _, hrun, key, less_awk I.acc (by have := sum_fuel (fu := fu) hq 0; omega) ?_⟩
      have := awk_set (g' := parked (mkRcv Tryz.prog x J) #[rc x.Ch] (.recv true)) I.size hg
      have e1 : act g = 1 := if_pos hrn
      have e2 : act (parked (mkRcv Tryz.prog x J) #[rc x.Ch] (.recv true)) = 0 := rfl
      omega
end
end Go.Proofs.YthjofgmiabcifabGreatDoor.Ma
namespace Go.Proofs.YthjofgmiabcifabGreatDoor.Ma
open Go Go.Conc
open Go.ConcN (PermW upd upd_same upd_ne sumTo sumTo_upd sumTo_congr sumTo_le sumTo_upd_out)
open Go.ConcR (g_of_ofEvents ofEvent_cell ofEvent_loc_mark)
open Go.ConcM (OsLater)
open Go.Proofs.YthjofgmiabcifabGreatDoor.Ev Go.Proofs.YthjofgmiabcifabGreatDoor.Co Go.Proofs.YthjofgmiabcifabGreatDoor.Ab Go.Proofs.YthjofgmiabcifabGreatDoor.Mc Go.Proofs.YthjofgmiabcifabGreatDoor.Tr
open Go.Proofs.YthjofgmiabcifabGreatDoor.Lift (LSt Sim Further Fin)
theorem mvC_fin {C C' : CD} {s s' : Sh} (hm : (C', s') ∈ mvC C s) (h : C'.ph = .fin) : C.ph = .aq := by
  obtain ⟨ph, old⟩ := C
  cases ph
  case aq => rfl
  all_goals
    simp only [mvC] at hm
    (repeat' (split at hm))
    all_goals simp only [List.mem_cons, List.mem_singleton, List.not_mem_nil, or_false, Prod.mk.injEq] at hm
    all_goals (obtain ⟨rfl, rfl⟩ := hm; cases h)
section
variable {x : Cx} {n B : Nat} {cs : List Frame} {u : Int} {W0 : World} {sa : Option Addr} {sl sc : Nat} {L : List FuncId}
variable {gs : Array Goroutine} {w w' : World} {sl' : Option (Nat × Nat)} {j : Nat} {D : Nat → TD} {C : CD} {s s' : Sh} {k k' : Parts} {fu dw : Nat → Nat} {f0 : Nat} {lo lo' : Option LSt} {Wc Wc' : World} {t : Trace}
variable (x n B cs u W0 sa sl sc) in
/-- Behind the wait: all have left or are leaving; all is handed over. -/
def FinAt (gs : Array Goroutine) (w : World) (t : Trace) : Prop :=
  ∃ (s : Sh) (k : Parts) (fu dw : Nat → Nat) (m : Nat) (K : Nat → Value) (a : Goroutine), gs.size = n + 1 ∧ gs[0]? = some a ∧ Sil Tryz.prog true (Live x) m a (mkFin Tryz.prog x n cs K) ∧
    (∀ i, i < n → ∃ g, gs[i + 1]? = some g ∧ QuitsD Tryz.prog (fu i) (dw i) g) ∧ Wd x n (CanOk x u) u B W0 k s w ∧ Base x n (.slice sa sl sc) w ∧ (∀ i, i < n → s.fill i = true) ∧ s.made = 1 ∧ S2 (fam x B).Sh (wa x) n t dw
/-- A QUIET STEP OF THE STARTER's. -/
theorem c_quiet (H : Hyp x n B u W0 sa sl sc L) (I : I1 x n B cs u W0 sa sl sc L gs w j D C s k fu dw f0 lo Wc t) {m : Nat} {a h : Goroutine} (ha : gs[0]? = some a) (hf : f0 = m + 1) (hs : Sil Tryz.prog true (Live x) (m + 1) a h) (hat : AtC x n cs C j s.sent h) :
    NX x n B cs u W0 sa sl sc L 0 gs w sl' j D C s fu f0 lo t := by
  obtain ⟨_, a', hst, hs'⟩ := hs
  have key := goC (sl' := sl') (C' := C) (m' := m) I ha (hst w I.wd.live) I.ai I.wd I.ba (.inl ⟨h, hs', hat⟩)
    (fun i hi o hwo => hwo.others H.dist I.wd I.wd (fun _ => .refl x w) (fun h0 => .inl h0) (.inl rfl)) (.inl (sil_running hs' (atC_running hat))) I.st (by rw [es_nil]; exact I.tl) (by rw [es_nil]; exact I.rl) I.fin
  exact ⟨_, _, _, _, _, _, _, _, _, _, _, _, _, key.1, key.2, less_fuel I.acc I.ai.jn (by omega)⟩
/-- THE STARTER's STOP. -/
theorem c_stop (H : Hyp x n B u W0 sa sl sc L) (I : I1 x n B cs u W0 sa sl sc L gs w j D C s k fu dw f0 lo Wc t) {a : Goroutine} (ha : gs[0]? = some a) (hat : AtC x n cs C j s.sent a) (h1 : C.ph ≠ .gg) (h2 : C.ph ≠ .sd) (h3 : ¬ (C.ph = .w3 ∧ s.wm = 0)) :
    NX x n B cs u W0 sa sl sc L 0 gs w sl' j D C s fu f0 lo t ∨ ∃ gs2 w2 ops, runT Tryz.prog (crowd gs w sl') 0 = (.next (crowd gs2 w2 sl'), ops) ∧ FinAt x n B cs u W0 sa sl sc gs2 w2 (t ++ ops) := by
  have hD := H.dist
  obtain ⟨C', s', a', w', hm, hst, wd', ⟨m, h, hs, hat'⟩, hmv⟩ := cstep hD ⟨_, I.ba⟩ I.ai.cfacts I.wd hat h1 h2 h3 I.fin
  have hrun := sil_running hs (atC_running hat')
  obtain ⟨e1, e2, e3, e4⟩ := mvC_ms hm
  have hwk : C.ph = .cl → mayWake Tryz.prog a = true := by
    intro e
    obtain ⟨ph, old⟩ := C
    simp only at e
    subst e
    obtain ⟨R, K, Q, hat⟩ := hat
    rw [hat]
    exact wake_cl ..
  have ai' := I.ai.stepC hm
  have low : Low n j D C' s' j D C s := AInv.fallsC hm
  by_cases hfin : C'.ph = .fin
  · right
    have haq := mvC_fin hm hfin
    obtain ⟨hj, hq, hfill, _, _, hmade⟩ := ai'.fin hfin
    subst hj
    have hes : esC x C s = #[mkE (.acquire (wa x))] := by simp only [esC, haq]
    refine ⟨_, _, _, runT_crowd_go (i := 0) ha (by simpa using hst), s', k, fu, dw, m, ?_⟩
    obtain ⟨K, rfl⟩ : ∃ K, h = mkFin Tryz.prog x j cs K := by
      obtain ⟨ph, old⟩ := C'
      simp only at hfin
      subst hfin
      exact hat'
    refine ⟨K, a', by simp [I.size], get_map_set_same _ _ _ (by rw [I.size]; omega), hs, fun i hi => ?_, wd', Base.moves hD hmv I.ba, hfill, hmade, ?_⟩
    · obtain ⟨o, ho, hwo⟩ := I.gw i hi
      refine ⟨_, by rw [get_map_set _ _ _ _ (by omega), ho]; rfl, ?_⟩
      rcases hwo with ⟨_, hnq, _⟩ | ⟨hp, _⟩ | ⟨_, hqq⟩
      · exact absurd (hq i hi) hnq
      · rw [hq i hi] at hp; cases hp
      · rw [woken_quitsD hqq]; exact hqq
    · rw [hes, ofEvents_eq]
      have e : (#[mkE (.acquire (wa x))].map fun e => ({ g := 0, fn := a.frame.fn, pos := a.frame.place, act := .ofEvent e } : MemOp)) = #[⟨0, a.frame.fn, a.frame.place, .mark (.acquire (wa x))⟩] := by simp [mkE, MemAct.ofEvent]
      rw [e]
      have rl := I.rl
      rw [haq] at rl
      exact S2.begin I.tl rl (fun i hi => by rw [hq i hi]; rfl) rfl rfl
  · left
    have key := goC (sl' := sl') (C' := C') (m' := m) I ha hst ai' wd' (Base.moves hD hmv I.ba) (.inl ⟨h, hs, hat'⟩)
      (fun i hi o hwo => hwo.others hD I.wd wd' (fun _ => hmv) (fun h0 => .inl (e1.trans h0)) (e2.imp id fun ⟨a1, a2⟩ => ⟨a1, hwk a2, by rw [hrun]; simp, by rw [hrun]; simp⟩)) (.inl hrun)
      (fun i hi hp => by
        obtain ⟨p1, p2, p3, p4⟩ := I.st i hi hp
        exact ⟨p1, by rw [cell_moves hD hmv p1]; exact p2, p3, p4⟩) (tlC_step hD I.ai hm I.tl _ _) (rlC_step hm I.rl rfl _ _) hfin
    exact ⟨_, _, _, _, _, _, _, _, _, _, _, _, _, key.1, key.2, less_low I.acc (.inr trivial) low⟩
/-- IT WAITS AT THE GROUP. -/
theorem c_block (I : I1 x n B cs u W0 sa sl sc L gs w j D C s k fu dw f0 lo Wc t) {a : Goroutine} (ha : gs[0]? = some a) (hat : AtC x n cs C j s.sent a) (hf : f0 = 0) (hp : C.ph = .w3) (h0 : s.wm = 0) : NX x n B cs u W0 sa sl sc L 0 gs w sl' j D C s fu f0 lo t := by
  obtain ⟨hst, hof⟩ := cblock I.wd hat hp h0
  have hid : woken Tryz.prog a { a with status := .blocked } w = id := woken_blocked rfl
  have key := goC (sl' := sl') (C' := C) (m' := 0) I ha hst I.ai I.wd I.ba (.inr (.inl ⟨hp, rfl, h0, a, hat, hof, atC_running hat, rfl⟩))
    (fun i hi o hwo => by rw [hid]; exact hwo) (.inr (by rw [hp]; simp)) I.st (by rw [es_nil]; exact I.tl) (by rw [es_nil]; exact I.rl) I.fin
  refine ⟨_, _, _, _, _, _, _, _, _, _, _, _, _, key.1, key.2, less_awk I.acc (by omega) ?_⟩
  rw [hid, Array.map_id]
  have := awk_set (g' := ({ a with status := .blocked } : Goroutine)) I.size ha
  have e1 : act a = 1 := if_pos (atC_running hat)
  have e2 : act ({ a with status := .blocked } : Goroutine) = 0 := rfl
  omega
/-- A go STATEMENT. -/
theorem c_spawn (H : Hyp x n B u W0 sa sl sc L) (I : I1 x n B cs u W0 sa sl sc L gs w j D C s k fu dw f0 lo Wc t) {a : Goroutine} (ha : gs[0]? = some a) (hat : AtC x n cs C j s.sent a) (hp : C.ph = .gg) : NX x n B cs u W0 sa sl sc L 0 gs w sl' j D C s fu f0 lo t := by
  obtain ⟨a', hst, ⟨m, h, hs, hat'⟩, m2, h2, hs2, hh2⟩ := cspawn I.ai.cfacts hat hp w
  have hsz := I.size
  have ai' := I.ai.spawn hp
  have low := I.ai.fallsSpawn hp
  have hrun := runT_crowd_spawn (P := Tryz.prog) (sl := sl') (i := 0) ha (by simpa using hst)
  have hsp : (spawned n j).ph ≠ .sd ∧ (spawned n j).ph ≠ .fin ∧ dC (spawned n j).ph = 0 := by unfold spawned; split <;> simp [dC]
  have hops : ((MemOp.ofEvents 0 a.frame.fn a.frame.place #[]).push { g := 0, fn := a.frame.fn, pos := a.frame.place, act := .go gs.size } |>.push { g := gs.size, fn := (sBorn Tryz.prog x).frame.fn, pos := a.frame.place, act := .start } : Trace) =
      #[{ g := 0, fn := a.frame.fn, pos := a.frame.place, act := .go (j + 1) }, { g := j + 1, fn := (sBorn Tryz.prog x).frame.fn, pos := a.frame.place, act := .start }] := by
    rw [hsz]; rfl
  rw [hops] at hrun
  have hd0 : Deaf t 0 = 0 := by rw [I.rl.deaf0, hp]; rfl
  have old : ∀ p, p < j + 1 → p ≠ 0 → ((gs.setIfInBounds 0 a').push (sBorn Tryz.prog x))[p]? = gs[p]? := by
    intro p hp1 hp0
    rw [Array.getElem?_push, if_neg (by simp; omega), Array.getElem?_setIfInBounds_ne (by omega)]
  refine ⟨_, _, j + 1, upd D j { ph := .ldN }, spawned n j, s, k, upd fu j m2, upd dw j 0, m, lo, Wc, _, hrun, ⟨by simp [hsz], ai', I.wd, I.ba, ⟨a', ?_, .inl ⟨h, hs, hat'⟩⟩, fun i hi => ?_, fun b hb hbb hc => absurd hc hsp.1, fun i hi hpi => ?_, ?_, ?_, I.acc, hsp.2.1⟩, less_low I.acc (.inr trivial) low⟩
  · rw [Array.getElem?_push, if_neg (by simp; omega), Array.getElem?_setIfInBounds_self_of_lt (by omega)]
  · by_cases e : i = j
    · subst e
      refine ⟨sBorn Tryz.prog x, ?_, ?_⟩
      · rw [Array.getElem?_push, if_pos (by simp [hsz])]
      · rw [upd_same, upd_same, upd_same]
        exact .inl ⟨by simp, by simp, rfl, .inl ⟨_, hs2, hh2⟩⟩
    · obtain ⟨o, ho, hwo⟩ := I.gw i (by omega)
      refine ⟨o, by rw [old _ (by omega) (by omega)]; exact ho, ?_⟩
      rw [upd_ne _ _ e, upd_ne _ _ e, upd_ne _ _ e]
      exact hwo
  · by_cases e : i = j
    · subst e; rw [upd_same] at hpi; cases hpi
    · rw [upd_ne _ _ e] at hpi; exact I.st i (by omega) hpi
  · exact I.tl.fork ⟨rfl, rfl⟩ ⟨rfl, rfl⟩ hd0 rfl rfl
  · have := I.rl.fork (T := { ph := .ldN }) (x := { g := 0, fn := a.frame.fn, pos := a.frame.place, act := .go (j + 1) }) (y := { g := j + 1, fn := (sBorn Tryz.prog x).frame.fn, pos := a.frame.place, act := .start }) ⟨rfl, rfl⟩ ⟨rfl, rfl⟩ I.tl.gs rfl
    rw [hp] at this
    rw [hsp.2.2]
    exact this
/-- THE STARTER AT THE SEND. -/
theorem c_send (H : Hyp x n B u W0 sa sl sc L) (I : I1 x n B cs u W0 sa sl sc L gs w j D C s k fu dw f0 lo Wc t) {a : Goroutine} (ha : gs[0]? = some a) (hat : AtC x n cs C j s.sent a) (hf : f0 = 0) (hp : C.ph = .sd) : NX x n B cs u W0 sa sl sc L 0 gs w sl' j D C s fu f0 lo t := by
  obtain ⟨R, K, Q, rfl⟩ : ∃ R K Q, a = mkSe Tryz.prog x n s.sent (fr4 Tryz.prog x n Q :: cs) R K := by
    obtain ⟨ph, old⟩ := C
    simp only at hp
    subst hp
    exact hat
  have hsz := I.size
  have hst : stepG Tryz.prog (0 == 0) (mkSe Tryz.prog x n s.sent (fr4 Tryz.prog x n Q :: cs) R K) w = .comm (mkSe Tryz.prog x n s.sent (fr4 Tryz.prog x n Q :: cs) R K) #[scs x.Ch s.sent] true .send w #[] := by
    have h0 := gcomm_sound (main := true) (w := w) (sd_comm x n s.sent (fr4 Tryz.prog x n Q :: cs) R K)
    rw [se_on] at h0
    exact h0
  have hsh : s.shut = false := by rw [I.ai.shut, hp]; rfl
  have hchan := I.wd.ch
  rw [hsh] at hchan
  have park : ∀ {i : Nat} {g : Goroutine}, WS x n B u sa sl sc L k (D i) s (fu i) (dw i) lo Wc g w → g.status = .blocked → (D i).ph = .rcv → ∃ J, g = parked (mkRcv Tryz.prog x J) #[rc x.Ch] (.recv true) := by
    intro i g hw hb hr
    rcases hw with ⟨n1, n2, hd, h⟩ | ⟨hp', _⟩ | ⟨hp', _⟩
    · rcases h with ⟨h, hs, hh⟩ | ⟨hp', _⟩ | ⟨_, _, J, ⟨_, rfl⟩ | ⟨_, rfl⟩⟩
      · rw [sil_running hs hh.running] at hb; cases hb
      · rw [hr] at hp'; cases hp'
      · exact ⟨J, rfl⟩
      · cases hb
    · rw [hr] at hp'; cases hp'
    · rw [hr] at hp'; cases hp'
  by_cases hex : ∃ i g, i < j ∧ gs[i + 1]? = some g ∧ (D i).ph = .rcv ∧ g.status = .blocked
  · obtain ⟨i0, g0, hi0, hg0, hr0, hb0⟩ := hex
    have hne : partners (gs.setIfInBounds 0 ph) x.Ch false ≠ [] := by
      intro e
      have : (i0 + 1, 0) ∈ partners (gs.setIfInBounds 0 ph) x.Ch false := by
        obtain ⟨o, ho, hwo⟩ := I.gw i0 hi0
        rw [hg0] at ho
        cases ho
        obtain ⟨J, rfl⟩ := park hwo hb0 hr0
        refine mem_partners.2 ⟨_, by rw [Array.getElem?_setIfInBounds_ne (by omega)]; exact hg0, ?_⟩
        rw [show offersAt (parked (mkRcv Tryz.prog x J) #[rc x.Ch] (.recv true)) x.Ch false = _ from offersAt_parked_recv _ _ _ _ _]
        simp
      rw [e] at this
      cases this
    have hall0 : ∀ p q, (p, q) ∈ partners (gs.setIfInBounds 0 ph) x.Ch false → q = 0 ∧ ∃ i J, p = i + 1 ∧ i < j ∧ (D i).ph = .rcv ∧ gs[p]? = some (parked (mkRcv Tryz.prog x J) #[rc x.Ch] (.recv true)) := by
      intro p q hpq
      obtain ⟨o, ho, hoff⟩ := mem_partners.1 hpq
      rcases getElem?_stand gs 0 p o ho with ⟨_, rfl⟩ | ⟨hp0, ho'⟩
      · rw [offersAt_ph] at hoff; cases hoff
      · rcases I.who ho' with ⟨h0, _⟩ | ⟨i, hi, rfl, hw⟩
        · exact absurd h0 hp0
        · have hb : o.status = .blocked ∧ (D i).ph = .rcv := by
            refine ⟨?_, ?_⟩
            · rcases Decidable.em (o.status = .blocked) with h | h
              · exact h
              · rw [(off_w hw x.Ch).2 (.inl h)] at hoff; cases hoff
            · rcases Decidable.em ((D i).ph = .rcv) with h | h
              · exact h
              · rw [(off_w hw x.Ch).2 (.inr h)] at hoff; cases hoff
          obtain ⟨J, rfl⟩ := park hw hb.1 hb.2
          rw [show offersAt (parked (mkRcv Tryz.prog x J) #[rc x.Ch] (.recv true)) x.Ch false = _ from offersAt_parked_recv _ _ _ _ _] at hoff
          simp only [if_true, List.mem_singleton] at hoff
          exact ⟨hoff, i, J, rfl, hi, hb.2, ho'⟩
    obtain ⟨p, gj, zj, shj, d, hp0, hgj, hrun⟩ := crowd_send_meets_some (sl := sl') (P := Tryz.prog) ha hst hchan hne (fun p q hpq => by
      obtain ⟨h1, i, J, h2, h3, h4, h5⟩ := hall0 p q hpq
      exact ⟨h1, by omega, _, _, _, h5⟩)
    obtain ⟨i, hi, rfl, hw⟩ : ∃ i, i < j ∧ p = i + 1 ∧ WS x n B u sa sl sc L k (D i) s (fu i) (dw i) lo Wc (parked gj #[rcase x.Ch zj] shj) w := by
      rcases I.who hgj with ⟨h0, _⟩ | ⟨i, hi, rfl, hw⟩
      · exact absurd h0 hp0
      · exact ⟨i, hi, rfl, hw⟩
    have hr : (D i).ph = .rcv := by
      rcases Decidable.em ((D i).ph = .rcv) with h | h
      · exact h
      · have := (off_w hw x.Ch).2 (.inr h)
        rw [offersAt_parked_recv] at this
        simp at this
    obtain ⟨J, hJ⟩ := park hw rfl hr
    have hsv := fun v => (served_of hJ v).1
    have hshj := (served_of hJ undef).2
    subst hshj
    rw [finishComm_recv, finishComm_send, hsv, served_got, served_sn] at hrun
    have hdw : dw i = 0 := by
      rcases hw with ⟨_, _, hd, _⟩ | ⟨hp', _⟩ | ⟨hp', _⟩
      · rw [hd, hr]; rfl
      · rw [hr] at hp'; cases hp'
      · rw [hr] at hp'; cases hp'
    obtain ⟨ops, hops, hrun⟩ : ∃ ops : Trace, (∀ op ∈ ops, op.g ≤ j ∧ op.act.touch? = none ∧ (∀ e, op.act ≠ .access e) ∧ ∀ m, op.act ≠ .mark m) ∧
        runT Tryz.prog (crowd gs w sl') 0 = (.next (crowd ((gs.setIfInBounds (i + 1) (sGot Tryz.prog x J s.sent)).setIfInBounds 0 (sSn Tryz.prog x n s.sent (fr4 Tryz.prog x n Q :: cs) R K)) ((w.at d).setChan x.Ch 0 #[] false (s.sent + 1) (s.sent + 1) false) sl'), ops) := by
      refine ⟨_, fun op hop => ?_, hrun⟩
      rcases Array.mem_append.1 hop with h | h
      · simp [MemOp.ofEvents] at h
      · simp only [List.mem_toArray, List.mem_cons, List.not_mem_nil, or_false] at h
        rcases h with rfl | rfl | rfl | rfl <;> exact ⟨by simp only; omega, rfl, fun _ => by simp, fun _ => by simp⟩
    obtain ⟨C2, f2, I2, low⟩ := lay2 (w' := (w.at d).setChan x.Ch 0 #[] false (s.sent + 1) (s.sent + 1) false) (R := R) (K := K) (Q := Q) (J := J) (gs2 := (gs.setIfInBounds (i + 1) (sGot Tryz.prog x J s.sent)).setIfInBounds 0 (sSn Tryz.prog x n s.sent (fr4 Tryz.prog x n Q :: cs) R K)) H I hi hp hr
      (by rw [Array.getElem?_setIfInBounds_self_of_lt (by simp; omega)]) (by rw [Array.getElem?_setIfInBounds_ne (by omega), Array.getElem?_setIfInBounds_self_of_lt (by omega)]) (by simp)
      (fun i' hi' hne' => by rw [Array.getElem?_setIfInBounds_ne (by omega), Array.getElem?_setIfInBounds_ne (by omega)]) rfl rfl rfl rfl hdw hops
    exact ⟨_, _, _, _, _, _, _, _, _, _, _, _, _, hrun, I2, less_low I.acc (.inr trivial) low⟩
  · have hpn : partners (gs.setIfInBounds 0 ph) x.Ch false = [] := by
      refine partners_nil fun p o ho => ?_
      rcases getElem?_stand gs 0 p o ho with ⟨_, rfl⟩ | ⟨hp0, ho'⟩
      · exact offersAt_ph _ _
      · rcases I.who ho' with ⟨h0, _⟩ | ⟨i, hi, rfl, hw⟩
        · exact absurd h0 hp0
        · refine (off_w hw x.Ch).2 ?_
          by_cases hb : o.status = .blocked
          · exact .inr fun e => hex ⟨i, o, hi, ho', e, hb⟩
          · exact .inl hb
    have hrun := crowd_waits (sl := sl') (P := Tryz.prog) ha hst (fun cc hcc => by
      simp only [List.mem_toArray, List.mem_singleton] at hcc
      subst hcc
      exact ways_send_none hchan (Nat.zero_le _) hpn)
    rw [show MemOp.ofEvents 0 (mkSe Tryz.prog x n s.sent (fr4 Tryz.prog x n Q :: cs) R K).frame.fn (mkSe Tryz.prog x n s.sent (fr4 Tryz.prog x n Q :: cs) R K).frame.place #[] = #[] from rfl] at hrun
    refine ⟨_, _, j, D, C, s, k, fu, dw, 0, lo, Wc, #[], hrun, ⟨by simp [hsz], I.ai, I.wd, I.ba, ⟨_, Array.getElem?_setIfInBounds_self_of_lt (by omega), .inr (.inr ⟨hp, rfl, R, K, Q, rfl⟩)⟩, fun i hi => ?_, fun b hb hbb hc i o hi hr ho => ?_, I.st, by simpa using I.tl, by simpa using I.rl, I.acc, I.fin⟩, less_awk I.acc (by omega) ?_⟩
    · obtain ⟨o, ho, hwo⟩ := I.gw i hi
      exact ⟨o, by rw [Array.getElem?_setIfInBounds_ne (by omega)]; exact ho, hwo⟩
    · rw [Array.getElem?_setIfInBounds_ne (by omega)] at ho
      obtain ⟨o1, ho1, hwo⟩ := I.gw i hi
      rw [ho1] at ho
      cases ho
      rcases hwo with ⟨n1, n2, hd, h⟩ | ⟨hp', _⟩ | ⟨hp', _⟩
      · rcases h with ⟨h, hs, hh⟩ | ⟨hp', _⟩ | ⟨_, _, J, ⟨_, rfl⟩ | ⟨_, rfl⟩⟩
        · exact sil_running hs hh.running
        · rw [hr] at hp'; cases hp'
        · exact absurd ⟨i, _, hi, ho1, hr, rfl⟩ hex
        · rfl
      · rw [hr] at hp'; cases hp'
      · rw [hr] at hp'; cases hp'
    · have := awk_set (g' := parked (mkSe Tryz.prog x n s.sent (fr4 Tryz.prog x n Q :: cs) R K) #[scs x.Ch s.sent] .send) I.size ha
      have e1 : act (mkSe Tryz.prog x n s.sent (fr4 Tryz.prog x n Q :: cs) R K) = 1 := if_pos (atC_running hat)
      have e2 : act (parked (mkSe Tryz.prog x n s.sent (fr4 Tryz.prog x n Q :: cs) R K) #[scs x.Ch s.sent] .send) = 0 := rfl
      omega
theorem I1.goes (I : I1 x n B cs u W0 sa sl sc L gs w j D C s k fu dw f0 lo Wc t) : ∃ (p : Nat) (g : Goroutine), gs[p]? = some g ∧ g.status = .running := by
  rcases Classical.em (∃ (p : Nat) (g : Goroutine), gs[p]? = some g ∧ g.status = .running) with h | hno
  · exact h
  · exfalso
    have hn : ∀ (p : Nat) (g : Goroutine), gs[p]? = some g → g.status ≠ .running := fun p g hg hr => hno ⟨p, g, hg, hr⟩
    have hw : ∀ i, i < j → ((D i).ph = .s1 ∧ s.ms = 0) ∨ ((D i).ph = .rcv ∧ s.shut = false) ∨ (D i).ph = .quit := by
      intro i hi
      obtain ⟨g, hg, hwg⟩ := I.gw i hi
      have hnr := hn _ g hg
      rcases hwg with ⟨n1, n2, hd, h⟩ | ⟨hp', _, J, l, _, hs, _⟩ | ⟨hp', _⟩
      · rcases h with ⟨h, hs, hh⟩ | ⟨hp', _, hms, _⟩ | ⟨hp', _, J, ⟨hsh, rfl⟩ | ⟨_, rfl⟩⟩
        · exact absurd (sil_running hs hh.running) hnr
        · exact .inl ⟨hp', hms⟩
        · exact .inr (.inl ⟨hp', hsh⟩)
        · exact absurd rfl hnr
      · exact absurd (sil_running hs rfl) hnr
      · exact .inr (.inr hp')
    obtain ⟨a, ha, hca⟩ := I.g0
    have hnr := hn 0 a ha
    refine I.ai.goes hw ?_
    rcases hca with ⟨h, hs, hat⟩ | ⟨hp, _, hwm, _⟩ | ⟨hp, _, R, K, Q, rfl⟩
    · exact absurd (sil_running hs (atC_running hat)) hnr
    · exact .inr ⟨hp, hwm⟩
    · refine .inl ⟨hp, fun i hi hr => ?_⟩
      obtain ⟨g, hg, _⟩ := I.gw i hi
      exact hn _ g hg (I.meet _ ha rfl hp i g hi hr hg)
theorem I1.awake (I : I1 x n B cs u W0 sa sl sc L gs w j D C s k fu dw f0 lo Wc t) : ∀ g ∈ gs, awake g := by
  intro g hg t' e
  obtain ⟨p, hp⟩ := Array.getElem?_of_mem hg
  rcases I.who hp with ⟨_, hc⟩ | ⟨i, hi, _, hw⟩
  · rcases hc with ⟨h, hs, hat⟩ | ⟨_, _, _, h, _, _, _, rfl⟩ | ⟨_, _, R, K, Q, rfl⟩
    · rw [sil_running hs (atC_running hat)] at e; cases e
    · cases e
    · cases e
  · rcases hw with ⟨n1, n2, hd, h⟩ | ⟨hp', _, J, l, _, hs, _⟩ | ⟨hp', hq⟩
    · rcases h with ⟨h, hs, hh⟩ | ⟨hp', _, hms, h, _, _, rfl⟩ | ⟨hp', _, J, ⟨hsh, rfl⟩ | ⟨_, rfl⟩⟩
      · rw [sil_running hs hh.running] at e; cases e
      · cases e
      · cases e
      · cases e
    · rw [sil_running hs rfl] at e; cases e
    · rcases hq.status with h | h <;> rw [h] at e <;> cases e
/-- WHOEVER MOVES. -/
theorem I1.moves (H : Hyp x n B u W0 sa sl sc L) (I : I1 x n B cs u W0 sa sl sc L gs w j D C s k fu dw f0 lo Wc t) {p : Nat} {g : Goroutine} (hg : gs[p]? = some g) (hr : g.status = .running) :
    NX x n B cs u W0 sa sl sc L p gs w sl' j D C s fu f0 lo t ∨ ∃ gs2 w2 ops, runT Tryz.prog (crowd gs w sl') p = (.next (crowd gs2 w2 sl'), ops) ∧ FinAt x n B cs u W0 sa sl sc gs2 w2 (t ++ ops) := by
  rcases I.who hg with ⟨rfl, hc⟩ | ⟨i, hi, rfl, hw⟩
  · rcases hc with ⟨h, hs, hat⟩ | ⟨_, _, _, h, _, _, _, rfl⟩ | ⟨_, _, R, K, Q, rfl⟩
    · cases f0 with
      | succ m => exact .inl (c_quiet H I hg rfl hs hat)
      | zero =>
        have hs : g = h := hs
        subst hs
        by_cases h1 : C.ph = .gg
        · exact .inl (c_spawn H I hg hat h1)
        · by_cases h2 : C.ph = .sd
          · exact .inl (c_send H I hg hat rfl h2)
          · by_cases h3 : C.ph = .w3 ∧ s.wm = 0
            · exact .inl (c_block I hg hat rfl h3.1 h3.2)
            · exact c_stop H I hg hat h1 h2 h3
    · cases hr
    · cases hr
  · left
    rcases hw with ⟨n1, n2, hd, h⟩ | ⟨hp', hd, J, l, hl, hs, way, sim, hB, hch⟩ | ⟨hp', hq⟩
    · rcases h with ⟨h, hs, hat⟩ | ⟨hp', _, hms, h, _, _, rfl⟩ | ⟨hp', hm0, J, ⟨hsh, rfl⟩ | ⟨hsh, rfl⟩⟩
      · cases hm : fu i with
        | succ m =>
          rw [hm] at hs
          obtain ⟨_, g', hst, hs'⟩ := hs
          exact nx_quiet H I hi hg (hst w I.wd.live) hm (.inl ⟨n1, n2, hd, .inl ⟨h, hs', hat⟩⟩) (sil_running hs' hat.running)
        | zero =>
          rw [hm] at hs
          have hs : g = h := hs
          subst hs
          by_cases h1 : (D i).ph = .rcv
          · obtain ⟨J, hJ⟩ : ∃ J, g = mkRcv Tryz.prog x J := by
              generalize hT : D i = T at hat h1
              obtain ⟨ph, item, old, aw, sv, it, rest⟩ := T
              simp only at h1
              subst h1
              exact hat
            exact nx_rcv H I hi hg h1 hd hm hr (.inl hJ)
          · by_cases h2 : (D i).ph = .dr2
            · exact nx_draw H I hi hg hat hd h2
            · by_cases h3 : (D i).ph = .s1 ∧ s.ms = 0
              · exact nx_block I hi hg hat hd hm h3.1 h3.2
              · exact nx_stop H I hi hg hat hd h1 h2 h3
      · cases hr
      · cases hr
      · exact nx_rcv H I hi hg hp' hd hm0 hr (.inr ⟨hsh, rfl⟩)
    · cases hm : fu i with
      | succ m =>
        rw [hm] at hs
        obtain ⟨_, g', hst, hs'⟩ := hs
        exact nx_quiet H I hi hg (hst w I.wd.live) hm (.inr (.inl ⟨hp', hd, J, l, hl, hs', way, sim, hB, hch⟩)) (sil_running hs' rfl)
      | zero =>
        rw [hm] at hs
        exact nx_way H I hi hg hp' hd hl hs way sim hB hch
    · exact nx_leave H I hi hg hp' rfl hq hr
/-- THE CROWD COMES TO ITS END. -/
theorem crowd_runs (H : Hyp x n B u W0 sa sl sc L) {Q : Machine → Outcome → World → Trace → Prop} (hfin : ∀ gs w sl' t, FinAt x n B cs u W0 sa sl sc gs w t → Runs Tryz.prog Q (crowd gs w sl') t) :
    ∀ (μ : Mu) gs w sl' j D C s k fu dw f0 lo Wc t, mu n gs j D C s fu f0 lo = μ → I1 x n B cs u W0 sa sl sc L gs w j D C s k fu dw f0 lo Wc t → Runs Tryz.prog Q (crowd gs w sl') t := by
  intro μ
  induction μ using (less_wf (Further (Cl Tryz.prog x L W0).bare (Rm x B u))).induction with
  | _ μ ih =>
    intro gs w sl' j D C s k fu dw f0 lo Wc t hμ I
    obtain ⟨p, g, d, sl2, hg, hr, hs⟩ := crowd_pick (P := Tryz.prog) (w := w) (sl := sl') I.awake I.goes
    rcases (I.at d).moves (sl' := sl2) H hg hr with ⟨gs2, w2, j2, D2, C2, s2, k2, fu2, dw2, f2, lo2, Wc2, ops, hrun, I2, hless⟩ | ⟨gs2, w2, ops, hrun, hf⟩
    · refine .next (hs.trans hrun) (ih _ ?_ gs2 w2 sl2 j2 D2 C2 s2 k2 fu2 dw2 f2 lo2 Wc2 _ rfl I2)
      rw [← hμ]
      exact hless
    · exact .next (hs.trans hrun) (hfin _ _ _ _ hf)
end
end Go.Proofs.YthjofgmiabcifabGreatDoor.Ma
