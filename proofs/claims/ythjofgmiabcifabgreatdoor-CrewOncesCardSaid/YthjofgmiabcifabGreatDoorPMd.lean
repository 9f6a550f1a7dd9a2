/-
  A worker takes its steps.
  Conditions: as each theorem says.
-/
import Derived.Test.YthjofgmiabcifabGreatDoorPMc
set_option linter.unusedVariables false
set_option linter.unusedSimpArgs false
namespace Go.Proofs.YthjofgmiabcifabGreatDoor.Mc
open Go Go.Conc
open Go.ConcM (OsLater)
open Go.Proofs.YthjofgmiabcifabGreatDoor.Ev Go.Proofs.YthjofgmiabcifabGreatDoor.Co Go.Proofs.YthjofgmiabcifabGreatDoor.Ab
section
variable {x : Cx} {n B : Nat} {u : Int} {W0 w : World} {k : Parts} {s : Sh} {sv : Value}
variable {item : Nat} {old : MW} {aw svb : Bool} {it : Nat} {rest : List Nat} {J K K' : Nat → Value} {wt : Int} {V : Array Value} {td : List Item}
theorem w_ldN (hB : Base x n sv w) (hW : Wd x n (CanOk x u) u B W0 k s w) : WGo x n u B W0 k sv ⟨.ldN, item, old, aw, svb, it, rest⟩ s (sLdN Tryz.prog x) w := by
  obtain ⟨g', h1, h2⟩ := step_of (ldN_s x) (fun _ _ => trivial) (ldN_s_es x) (w := w) (And.intro (cell_of hB.nb rfl) trivial)
  exact wgo_at (T' := ⟨.ldF, item, old, aw, svb, it, rest⟩) (by simp [mv]) h1 hW h2 rfl
theorem w_ldF (hB : Base x n sv w) (hW : Wd x n (CanOk x u) u B W0 k s w) : WGo x n u B W0 k sv ⟨.ldF, item, old, aw, svb, it, rest⟩ s (sLdF Tryz.prog x) w := by
  obtain ⟨g', h1, h2⟩ := step_of (ldF_s x) (fun _ _ => trivial) (ldF_s_es x) (w := w) (And.intro (cell_of hB.fb rfl) trivial)
  exact wgo_at (T' := ⟨.rcv, item, old, aw, svb, it, rest⟩) (by simp [mv]) h1 hW h2 ⟨_, rfl⟩
theorem w_ld1 (hW : Wd x n (CanOk x u) u B W0 k s w) : WGo x n u B W0 k sv ⟨.ld1, item, old, aw, svb, it, rest⟩ s (sLd1 Tryz.prog x J item) w := by
  have c := hW.cDone
  cases hd : s.done with
  | true =>
    rw [hd] at c
    obtain ⟨g', h1, h2⟩ := step_of (ld1_past x J item) (fun _ _ => And.intro rfl trivial) (ld1_past_es x J item) (w := w) (And.intro c trivial)
    exact wgo_at (T' := ⟨.ldP, item, old, aw, svb, it, rest⟩) (by simp [mv, hd]) h1 hW h2 ⟨J, rfl⟩
  | false =>
    rw [hd] at c
    obtain ⟨g', h1, h2⟩ := step_of (ld1_new x J item) (fun _ _ => And.intro rfl trivial) (ld1_new_es x J item) (w := w) (And.intro c trivial)
    exact wgo_at (T' := ⟨.kd, item, old, aw, svb, it, rest⟩) (by simp [mv, hd]) h1 hW h2 ⟨J, rfl⟩
theorem w_kd (hW : Wd x n (CanOk x u) u B W0 k s w) : WGo x n u B W0 k sv ⟨.kd, item, old, aw, svb, it, rest⟩ s (sKd Tryz.prog x J item) w := by
  obtain ⟨g', h1, h2⟩ := step_of (kd_s x J item) (fun _ _ => trivial) (kd_s_es x J item) (w := w) trivial
  exact wgo_at (T' := ⟨.l0, item, old, aw, svb, it, rest⟩) (by simp [mv]) h1 hW h2 ⟨J, rfl⟩
theorem w_ld2 (hW : Wd x n (CanOk x u) u B W0 k s w) : WGo x n u B W0 k sv ⟨.ld2, item, old, aw, svb, it, rest⟩ s (sLd2 Tryz.prog x J item) w := by
  have c := hW.cDone
  cases hd : s.done with
  | true =>
    rw [hd] at c
    obtain ⟨g', h1, h2⟩ := step_of (ld2_past x J item) (fun _ _ => And.intro rfl trivial) (ld2_past_es x J item) (w := w) (And.intro c trivial)
    have h3 := sil_of (x := x) (ret_q x J item (sLd2r Tryz.prog x J item).frame.tmps (sLd2r Tryz.prog x J item).frame.todo) (fun _ _ => And.intro rfl trivial)
    exact wgo_at (T' := ⟨.uL, item, old, aw, svb, it, rest⟩) (by simp [mv, hd]) h1 hW (sil_trans h2 h3) ⟨J, _, _, _, rfl⟩
  | false =>
    rw [hd] at c
    obtain ⟨g', h1, h2⟩ := step_of (ld2_new x J item) (fun _ _ => And.intro rfl trivial) (ld2_new_es x J item) (w := w) (And.intro c trivial)
    exact wgo_at (T' := ⟨.ldS, item, old, aw, svb, it, rest⟩) (by simp [mv, hd]) h1 hW h2 ⟨J, rfl⟩
theorem w_ldS {sa : Option Addr} {sl sc : Nat} (hB : Base x n (.slice sa sl sc) w) (hW : Wd x n (CanOk x u) u B W0 k s w) : WGo x n u B W0 k (.slice sa sl sc) ⟨.ldS, item, old, aw, svb, it, rest⟩ s (sLdS Tryz.prog x J item) w := by
  obtain ⟨g', h1, h2⟩ := step_of (ldS_s x J item sa sl sc) (fun _ _ => trivial) (ldS_s_es x J item sa sl sc) (w := w) (And.intro (cell_of hB.sb rfl) trivial)
  exact ⟨⟨.mk, item, old, aw, svb, it, rest⟩, s, g', w, by simp [mv], h1, hW, .inr (.inl ⟨rfl, _, J, sa, sl, sc, rfl, h2⟩), .refl x w⟩
theorem w_stP {sa : Option Addr} {sl sc : Nat} (hD : Dist x B) (hW : Wd x n (CanOk x u) u B W0 k s w) (hp : B ≤ k.pa.block ∧ w.cell? k.pa = some (.iface k.t k.v) ∧ 0 < k.pl ∧ CanOk x u k.t) :
    WGo x n u B W0 k sv ⟨.stP, item, old, aw, svb, it, rest⟩ s (sStP Tryz.prog x J item sa sl sc k.pa k.pl k.pc) w := by
  obtain ⟨g', h1, h2⟩ := step_of (stP_s x J item sa sl sc k.pa k.pl k.pc) (fun _ _ => trivial) (stP_s_es x J item sa sl sc k.pa k.pl k.pc) (w := w) (And.intro ⟨_, cell_of hW.pa rfl⟩ (And.intro (frz_of hW.pa) trivial))
  exact wgo_set (T' := ⟨.am, item, old, aw, svb, it, rest⟩) (s' := { s with pts := true }) (by simp [mv]) h1 tPa (hW.setPts hD hp) h2 ⟨J, sa, sl, sc, rfl⟩
theorem w_am {sa : Option Addr} {sl sc : Nat} (hD : Dist x B) (hW : Wd x n (CanOk x u) u B W0 k s w) (hm : s.made = 0) :
    WGo x n u B W0 k sv ⟨.am, item, old, aw, svb, it, rest⟩ s (sAm Tryz.prog x J item sa sl sc k.pa k.pl k.pc) w := by
  have c : w.cell? ⟨x.Md, 0, none⟩ = some (.int .i64 s.made) := cell_of hW.md rfl
  rw [hm] at c
  obtain ⟨g', h1, h2⟩ := step_of (am_s x J item sa sl sc k.pa k.pl k.pc) (fun _ _ => trivial) (am_s_es x J item sa sl sc k.pa k.pl k.pc) (w := w) (And.intro c (And.intro ⟨_, c⟩ (And.intro (frz_of hW.md) trivial)))
  exact wgo_set (T' := ⟨.drS, item, old, aw, svb, it, rest⟩) (s' := { s with made := 1 }) (by simp [mv, hm]) h1 tMd (hW.setMade hD 1) h2 ⟨J, sa, sl, sc, rfl⟩
theorem w_drS {sa : Option Addr} {sl sc : Nat} (hW : Wd x n (CanOk x u) u B W0 k s w) :
    WGo x n u B W0 k sv ⟨.drS, item, old, aw, svb, it, rest⟩ s (sDrS Tryz.prog x J item sa sl sc k.pa k.pl k.pc) w := by
  let t := w.tape w.drawn (.order 63 0)
  obtain ⟨g', h1, h2⟩ := step_of (drS_s x J item sa sl sc k.pa k.pl k.pc t) (fun _ _ => trivial) (drS_s_es x J item sa sl sc k.pa k.pl k.pc t) (w := w) (And.intro rfl (And.intro rfl trivial))
  have hm := sched_mem (ops63 Tryz.prog) t mixed
  rw [all63] at hm
  have h3 : Sil Tryz.prog false (Live x) 21 (mkSt Tryz.prog x J item sa sl sc k.pa k.pl k.pc (Region.schedule (Tryz.prog.follows .mixedOrders) (ops63 Tryz.prog) t)) (sStD Tryz.prog x J item sa sl sc k.pa k.pl k.pc) := by
    generalize Region.schedule (Tryz.prog.follows .mixedOrders) (ops63 Tryz.prog) t = r at hm
    simp only [lin63, List.mem_cons, List.not_mem_nil, or_false] at hm
    rcases hm with rfl | rfl | rfl | rfl | rfl | rfl | rfl | rfl | rfl | rfl
    · exact sil_of (drS_q0 ..) (fun _ _ => And.intro rfl trivial)
    · exact sil_of (drS_q1 ..) (fun _ _ => And.intro rfl trivial)
    · exact sil_of (drS_q2 ..) (fun _ _ => And.intro rfl trivial)
    · exact sil_of (drS_q3 ..) (fun _ _ => And.intro rfl trivial)
    · exact sil_of (drS_q4 ..) (fun _ _ => And.intro rfl trivial)
    · exact sil_of (drS_q5 ..) (fun _ _ => And.intro rfl trivial)
    · exact sil_of (drS_q6 ..) (fun _ _ => And.intro rfl trivial)
    · exact sil_of (drS_q7 ..) (fun _ _ => And.intro rfl trivial)
    · exact sil_of (drS_q8 ..) (fun _ _ => And.intro rfl trivial)
    · exact sil_of (drS_q9 ..) (fun _ _ => And.intro rfl trivial)
  exact ⟨⟨.stD, item, old, aw, svb, it, rest⟩, s, g', _, by simp [mv], h1, hW.tick rfl rfl (.refl _) rfl, .inr (.inr ⟨_, _, sil_trans h2 h3, J, sa, sl, sc, rfl⟩), .of_heap rfl⟩
theorem w_stD {sa : Option Addr} {sl sc : Nat} (hD : Dist x B) (hW : Wd x n (CanOk x u) u B W0 k s w) :
    WGo x n u B W0 k sv ⟨.stD, item, old, aw, svb, it, rest⟩ s (sStD Tryz.prog x J item sa sl sc k.pa k.pl k.pc) w := by
  obtain ⟨g', h1, h2⟩ := step_of (stD_s x J item sa sl sc k.pa k.pl k.pc) (fun _ _ => trivial) (stD_s_es x J item sa sl sc k.pa k.pl k.pc) (w := w) (And.intro ⟨_, hW.cDone⟩ (And.intro (hW.fOn 0) trivial))
  have h3 := sil_of (x := x) (ret_q x J item (sStDr Tryz.prog x J item sa sl sc k.pa k.pl k.pc).frame.tmps (sStDr Tryz.prog x J item sa sl sc k.pa k.pl k.pc).frame.todo) (fun _ _ => And.intro rfl trivial)
  exact wgo_set (T' := ⟨.uL, item, old, aw, svb, it, rest⟩) (s' := { s with done := true }) (by simp [mv]) h1 tOn (hW.done hD) (sil_trans h2 h3) ⟨J, _, _, _, rfl⟩
theorem w_ldP (hW : Wd x n (CanOk x u) u B W0 k s w) (hp : s.pts = true) : WGo x n u B W0 k sv ⟨.ldP, item, old, aw, svb, it, rest⟩ s (sLdP Tryz.prog x J item) w := by
  have c : w.cell? ⟨x.Pa, 0, none⟩ = some (if s.pts then k.sl else .slice none 0 0) := cell_of hW.pa rfl
  rw [if_pos hp] at c
  have hl := (hW.part hp).2.2.1
  obtain ⟨g', h1, h2⟩ := step_of (ldP_s x J item k.pa k.pl k.pc) (fun _ _ => And.intro (by rw [gtv]; simpa using hl) trivial) (ldP_s_es x J item k.pa k.pl k.pc) (w := w) (And.intro c trivial)
  exact wgo_at (T' := ⟨.dr2, item, old, aw, svb, it, rest⟩) (by simp [mv]) h1 hW h2 ⟨J, _, rfl⟩
theorem w_wr (hW : Wd x n (CanOk x u) u B W0 k s w) : WGo x n u B W0 k sv ⟨.wr, item, old, aw, svb, it, rest⟩ s (sWr Tryz.prog x) w := by
  obtain ⟨g', h1, h2⟩ := step_of (wr_s x) (fun _ _ => trivial) (wr_s_es x) (w := w) trivial
  exact wgo_at (T' := ⟨.wk, item, old, aw, svb, it, rest⟩) (by simp [mv]) h1 hW h2 rfl
theorem w_wk (hW : Wd x n (CanOk x u) u B W0 k s w) : WGo x n u B W0 k sv ⟨.wk, item, old, aw, svb, it, rest⟩ s (sWk Tryz.prog x) w := by
  obtain ⟨g', h1, h2⟩ := step_of (wk_s x) (fun _ _ => And.intro rfl trivial) (wk_s_es x) (w := w) trivial
  exact wgo_at (T' := ⟨.d1, item, old, aw, svb, it, rest⟩) (by simp [mv]) h1 hW h2 rfl
theorem w_d2 (hW : Wd x n (CanOk x u) u B W0 k s w) (hv : s.wv = 0 ∧ s.ww = 1) : WGo x n u B W0 k sv ⟨.d2, item, old, aw, svb, it, rest⟩ s (sD2 Tryz.prog x) w := by
  have c := hW.cWg
  rw [hv.1, hv.2] at c
  obtain ⟨g', h1, h2⟩ := step_of (d2_s x) (fun _ _ => And.intro rfl trivial) (d2_s_es x) (w := w) (And.intro c trivial)
  exact wgo_at (T' := ⟨.d3, item, old, aw, svb, it, rest⟩) (by simp [mv]) h1 hW h2 rfl
theorem w_d3 (hD : Dist x B) (hW : Wd x n (CanOk x u) u B W0 k s w) (hv : s.wv = 0 ∧ s.ww = 1) : WGo x n u B W0 k sv ⟨.d3, item, old, aw, svb, it, rest⟩ s (sD3 Tryz.prog x) w := by
  obtain ⟨g', h1, h2⟩ := step_of (d3_s x) (fun _ _ => And.intro rfl (And.intro rfl trivial)) (d3_s_es x) (w := w) (And.intro ⟨_, hW.cWg⟩ (And.intro (hW.fWg 0) trivial))
  have hW' := hW.setWg hD s.wv 0
  rw [hv.1] at hW'
  refine wgo_set (T' := ⟨.d4, item, old, aw, svb, it, rest⟩) (s' := { s with ww := 0 }) (by simp [mv]) h1 tWg ?_ h2 rfl
  have e : ({ s with ww := 0 } : Sh) = { s with wv := 0, ww := 0 } := by rw [← hv.1]
  rw [e]
  exact hW'
theorem w_d4 (hD : Dist x B) (hW : Wd x n (CanOk x u) u B W0 k s w) (hv : s.wm = 0) : WGo x n u B W0 k sv ⟨.d4, item, old, aw, svb, it, rest⟩ s (sD4 Tryz.prog x) w := by
  have c := hW.cWm
  rw [hv] at c
  obtain ⟨g', h1, h2⟩ := step_of (x := x) (d4_s x) (fun _ _ => trivial) (d4_s_es x) (w := w) (And.intro c (And.intro ⟨_, c⟩ (And.intro (hW.fWg 1) trivial)))
  have h2 : g' = sQ2 Tryz.prog x := h2
  have hq : QuitsD Tryz.prog 24 1 g' := by
    rw [h2]
    exact gquit_sound ccOk (d4_q x) (w := w) (And.intro rfl trivial)
  exact ⟨⟨.quit, item, old, aw, svb, it, rest⟩, { s with wm := 1 }, g', _, by simp [mv, hv], h1, hW.setWm hD 1, .inl ⟨rfl, _, hq⟩, .set tWg⟩
theorem w_cn {R : Nat → Value} {g : Goroutine} (hW : Wd x n (CanOk x u) u B W0 k s w) (hg : Sil Tryz.prog false (Live x) 1 g (mkRg Tryz.prog x J item (put R 17 (.int .u16 u)) rest.tail)) (hr : RgOk x n u k item (put R 17 (.int .u16 u)) rest.tail) :
    WGo x n u B W0 k sv ⟨.cn, item, old, aw, svb, it, rest⟩ s g w := by
  obtain ⟨_, g', h1, h2⟩ := hg
  exact wgo_at (T' := ⟨.rg, item, old, aw, svb, it, rest.tail⟩) (j := 0) (by simp [mv]) (h1 w hW.live) hW h2 ⟨J, _, rfl, hr⟩
/-- An order is drawn. -/
theorem w_dr2 {R : Nat → Value} (hW : Wd x n (CanOk x u) u B W0 k s w) : ∃ r g' w', r.getLast? = some 7 ∧ r.length = 8 ∧ stepG Tryz.prog false (mkDr2 Tryz.prog x J item R) w = .go g' w' #[] ∧
    Wd x n (CanOk x u) u B W0 k s w' ∧ AtW x n u k ⟨.rg, item, old, aw, svb, it, r⟩ g' ∧ Moves x w w' := by
  let t := w.tape w.drawn (.order 9 2)
  obtain ⟨g', h1, h2⟩ := step_of (x := x) (dr2_s x J item R t) (fun _ _ => trivial) (dr2_s_es x J item R t) (w := w) (And.intro rfl (And.intro rfl trivial))
  have hm := sched_mem (ops92 Tryz.prog) t mixed
  have ha := List.all_eq_true.1 all92 _ hm
  generalize Region.schedule (Tryz.prog.follows .mixedOrders) (ops92 Tryz.prog) t = r at hm ha h1 h2
  simp only [Bool.and_eq_true, beq_iff_eq] at ha
  have h2 : g' = mkRg Tryz.prog x J item R r := h2
  subst h2
  have hall : (allLin .any (ops92 Tryz.prog) (ops92 Tryz.prog).size (Array.replicate (ops92 Tryz.prog).size false) []).all (fun r => decide (0 ∈ r ∧ 1 ∈ r ∧ 2 ∈ r ∧ 3 ∈ r ∧ 4 ∈ r ∧ 5 ∈ r ∧ 6 ∈ r)) = true := by kernel_rfl
  have hc := of_decide_eq_true (List.all_eq_true.1 hall _ hm)
  exact ⟨r, _, _, ha.2, ha.1.2, h1, hW.tick rfl rfl (.refl _) rfl, ⟨J, R, rfl, ha.1.1, ha.2, fun h => absurd hc.1 h, fun h => absurd hc.2.1 h, fun h => absurd hc.2.2.1 h, fun h => absurd hc.2.2.2.1 h, fun h => absurd hc.2.2.2.2.1 h, fun h => absurd hc.2.2.2.2.2.1 h, fun h => absurd hc.2.2.2.2.2.2 h⟩, .of_heap rfl⟩
end
end Go.Proofs.YthjofgmiabcifabGreatDoor.Mc
namespace Go.Proofs.YthjofgmiabcifabGreatDoor.Mc
open Go Go.Conc
open Go.ConcM (OsLater)
open Go.Proofs.YthjofgmiabcifabGreatDoor.Ev Go.Proofs.YthjofgmiabcifabGreatDoor.Co Go.Proofs.YthjofgmiabcifabGreatDoor.Ab
/-- What the automaton's laws say of one worker. -/
structure Facts (n : Nat) (T : TD) (s : Sh) : Prop where
  wi : WInv n T s
  self : ∀ T' s', (T', s') ∈ mv T s → WInv n T' s'
  n16 : n ≤ 16
  mw : s.mu.W ≤ n
  ms1 : s.ms ≤ 1
  us : T.ph = .us → s.ms = 0
  u0 : T.ph = .u0 → s.mu.L = true
  a1 : T.ph = .a1 → s.mu.L = false
  r2 : T.ph = .r2 → s.mu.S = true → s.mu.K = false ∧ s.mu.L = false ∧ 1 ≤ s.mu.W
  am : T.ph = .am → s.made = 0
  pts : past T.ph = true → s.pts = true
  d1 : T.ph = .d1 → 1 ≤ s.wv ∧ s.wv ≤ 17 ∧ s.ww ≤ 1
  d23 : (T.ph = .d2 ∨ T.ph = .d3) → s.wv = 0 ∧ s.ww = 1
  d4 : T.ph = .d4 → s.wm = 0
theorem hd_snap {n : Nat} {T : TD} {s : Sh} (h : WInv n (hd T) s) : T.aw = true → T.old.K = true ∧ T.old.S = false := by
  rcases hd_cases T with ⟨e, _⟩ | ⟨e, _⟩ <;> rw [e] at h
  · exact h.snap (.inl rfl)
  · exact h.snap (.inr (.inr rfl))
section
variable {x : Cx} {n B : Nat} {u : Int} {W0 w : World} {k : Parts} {s : Sh} {sv : Value}
variable {item : Nat} {old : MW} {aw svb : Bool} {it : Nat} {rest : List Nat} {J K K' : Nat → Value} {wt : Int} {V : Array Value} {td : List Item}
theorem w_l0 (hD : Dist x B) (hf : Facts n ⟨.l0, item, old, aw, svb, it, rest⟩ s) (hW : Wd x n (CanOk x u) u B W0 k s w) : WGo x n u B W0 k sv ⟨.l0, item, old, aw, svb, it, rest⟩ s (sL0 Tryz.prog x J item) w := by
  have h17 : s.mu.W ≤ 17 := by have := hf.mw; have := hf.n16; omega
  have c := hW.cMu
  by_cases hz : s.mu = .zero
  · have he : esW x k ⟨.l0, item, old, aw, svb, it, rest⟩ s = #[rdA x.On 1, wrA x.On 1] := by simp [esW, hz]
    rw [(val0 h17).2 hz] at c
    obtain ⟨g', h1, h2⟩ := step_of (l0_hit x J item) (fun _ _ => And.intro rfl (And.intro rfl trivial)) ((l0_hit_es x J item).trans he.symm) (w := w) (And.intro c (And.intro (hW.fOn 1) trivial))
    exact wgo_set (T' := ⟨.le, item, old, aw, svb, it, rest⟩) (s' := { s with mu := ⟨0, false, false, true⟩ }) (by simp [mv, hz]) h1 tOn (hW.setMu hD ⟨0, false, false, true⟩) h2 (.inl ⟨J, rfl⟩)
  · have he : esW x k ⟨.l0, item, old, aw, svb, it, rest⟩ s = #[rdA x.On 1] := by simp [esW, hz]
    obtain ⟨g', h1, h2⟩ := step_of (l0_miss x J item s.mu.val) (fun _ _ => And.intro rfl trivial) ((l0_miss_es x J item s.mu.val).trans he.symm) (w := w) (And.intro c (And.intro (hW.fOn 1) (And.intro (fun e => hz ((val0 h17).1 e)) trivial)))
    refine wgo_at (T' := ⟨.r0, item, old, aw, svb, it, rest⟩) (by simp [mv, hz]) h1 hW h2 ⟨J, _, r0_is x J item⟩
theorem w_r0 (hf : Facts n ⟨.r0, item, old, aw, svb, it, rest⟩ s) (hW : Wd x n (CanOk x u) u B W0 k s w) : WGo x n u B W0 k sv ⟨.r0, item, old, aw, svb, it, rest⟩ s (mkR0 Tryz.prog x.On (cs84 Tryz.prog x J item) K) w := by
  have h16 : s.mu.W ≤ 16 := by have := hf.mw; have := hf.n16; omega
  obtain ⟨g', h1, h2⟩ := step_of (r0_s x.On (cs84 Tryz.prog x J item) K s.mu.val) (fun _ _ => trivial) (r0_s_es ..) (w := w) (And.intro hW.cMu trivial)
  obtain ⟨j, h, h3, h4⟩ := hd_sil' (x := x) (n := n) (u := u) (k := k) (J := J) (K := junk (st Tryz.prog false 8 (mkR0 Tryz.prog x.On (cs84 Tryz.prog x J item) K) [.val (.int .i32 s.mu.val)] [])) (wt := 0) (T := ⟨.r0, item, s.mu, false, false, 0, rest⟩) h16 (Nat.zero_le 4) (fun e => by cases e) (fun e => by cases e)
  exact wgo_at (T' := hd ⟨.r0, item, s.mu, false, false, 0, rest⟩) (by simp [mv]) h1 hW (sil_trans h2 h3) h4
theorem w_r1 (hf : Facts n ⟨.r1, item, old, aw, svb, it, rest⟩ s) (hW : Wd x n (CanOk x u) u B W0 k s w) : WGo x n u B W0 k sv ⟨.r1, item, old, aw, svb, it, rest⟩ s (mkR1 Tryz.prog x.On (cs84 Tryz.prog x J item) wt svb aw (it + 1 : Nat) old.val K) w := by
  have h16 : s.mu.W ≤ 16 := by have := hf.mw; have := hf.n16; omega
  have hlt : it < 4 := hf.wi.sq (.inr (.inr rfl))
  obtain ⟨g', h1, h2⟩ := step_of (r1_s x.On (cs84 Tryz.prog x J item) wt svb aw (it + 1 : Nat) old.val K s.mu.val) (fun _ _ => trivial) (r1_s_es ..) (w := w) (And.intro hW.cMu trivial)
  obtain ⟨j, h, h3, h4⟩ := hd_sil' (x := x) (n := n) (u := u) (k := k) (J := J) (K := junk (st Tryz.prog false 7 (mkR1 Tryz.prog x.On (cs84 Tryz.prog x J item) wt svb aw (it + 1 : Nat) old.val K) [.val (.int .i32 s.mu.val)] [])) (wt := wt) (T := ⟨.r1, item, s.mu, aw, svb, it + 1, rest⟩) h16 (by simp only; omega) (hf.wi.sv rfl) (hd_snap (hf.self (hd ⟨.r1, item, s.mu, aw, svb, it + 1, rest⟩) s (by simp [mv])))
  exact wgo_at (T' := hd ⟨.r1, item, s.mu, aw, svb, it + 1, rest⟩) (by simp [mv]) h1 hW (sil_trans h2 h3) h4
theorem w_r3 (hf : Facts n ⟨.r3, item, old, aw, svb, it, rest⟩ s) (hW : Wd x n (CanOk x u) u B W0 k s w) : WGo x n u B W0 k sv ⟨.r3, item, old, aw, svb, it, rest⟩ s (mkR3 Tryz.prog x.On (cs84 Tryz.prog x J item) wt svb aw it old.val K) w := by
  have h16 : s.mu.W ≤ 16 := by have := hf.mw; have := hf.n16; omega
  obtain ⟨g', h1, h2⟩ := step_of (r3_s x.On (cs84 Tryz.prog x J item) wt svb aw it old.val K s.mu.val) (fun _ _ => trivial) (r3_s_es ..) (w := w) (And.intro hW.cMu trivial)
  obtain ⟨j, h, h3, h4⟩ := hd_sil' (x := x) (n := n) (u := u) (k := k) (J := J) (K := junk (st Tryz.prog false 7 (mkR3 Tryz.prog x.On (cs84 Tryz.prog x J item) wt svb aw it old.val K) [.val (.int .i32 s.mu.val)] [])) (wt := wt) (T := ⟨.r3, item, s.mu, aw, svb, it, rest⟩) h16 hf.wi.it (hf.wi.sv rfl) (hd_snap (hf.self (hd ⟨.r3, item, s.mu, aw, svb, it, rest⟩) s (by simp [mv])))
  exact wgo_at (T' := hd ⟨.r3, item, s.mu, aw, svb, it, rest⟩) (by simp [mv]) h1 hW (sil_trans h2 h3) h4
theorem sp_any {cs : List Frame} (hit : it < 4) {o : Int} (h : E1 o = true) (w : World) : ∃ g' kb K', stepG Tryz.prog false (mkSp Tryz.prog x.On cs wt svb aw it o K) w = .go g' { w with drawn := w.drawn + 1 } #[] ∧
    Sil Tryz.prog false (Live x) 0 g' (mkSd Tryz.prog x.On cs wt svb aw it o kb K') := by
  have hc : (Question.extern "runtime_canSpin" 2).cut (w.tape w.drawn (.extern "runtime_canSpin" 2)) = 0 ∨ (Question.extern "runtime_canSpin" 2).cut (w.tape w.drawn (.extern "runtime_canSpin" 2)) = 1 := by
    simp only [Question.cut]
    rw [if_neg (by decide)]
    omega
  rcases hc with hc | hc
  · obtain rfl | rfl | rfl | rfl : it = 0 ∨ it = 1 ∨ it = 2 ∨ it = 3 := by omega
    · obtain ⟨g', h1, h2⟩ := step_of (x := x) (sp_0_0 x.On cs wt svb aw o K) (fun _ _ => trivial) (sp_0_0_es ..) (w := w) (And.intro h (And.intro rfl (And.intro hc.symm trivial)))
      exact ⟨g', _, _, h1, h2⟩
    · obtain ⟨g', h1, h2⟩ := step_of (x := x) (sp_1_0 x.On cs wt svb aw o K) (fun _ _ => trivial) (sp_1_0_es ..) (w := w) (And.intro h (And.intro rfl (And.intro hc.symm trivial)))
      exact ⟨g', _, _, h1, h2⟩
    · obtain ⟨g', h1, h2⟩ := step_of (x := x) (sp_2_0 x.On cs wt svb aw o K) (fun _ _ => trivial) (sp_2_0_es ..) (w := w) (And.intro h (And.intro rfl (And.intro hc.symm trivial)))
      exact ⟨g', _, _, h1, h2⟩
    · obtain ⟨g', h1, h2⟩ := step_of (x := x) (sp_3_0 x.On cs wt svb aw o K) (fun _ _ => trivial) (sp_3_0_es ..) (w := w) (And.intro h (And.intro rfl (And.intro hc.symm trivial)))
      exact ⟨g', _, _, h1, h2⟩
  · obtain rfl | rfl | rfl | rfl : it = 0 ∨ it = 1 ∨ it = 2 ∨ it = 3 := by omega
    · obtain ⟨g', h1, h2⟩ := step_of (x := x) (sp_0_1 x.On cs wt svb aw o K) (fun _ _ => trivial) (sp_0_1_es ..) (w := w) (And.intro h (And.intro rfl (And.intro hc.symm trivial)))
      exact ⟨g', _, _, h1, h2⟩
    · obtain ⟨g', h1, h2⟩ := step_of (x := x) (sp_1_1 x.On cs wt svb aw o K) (fun _ _ => trivial) (sp_1_1_es ..) (w := w) (And.intro h (And.intro rfl (And.intro hc.symm trivial)))
      exact ⟨g', _, _, h1, h2⟩
    · obtain ⟨g', h1, h2⟩ := step_of (x := x) (sp_2_1 x.On cs wt svb aw o K) (fun _ _ => trivial) (sp_2_1_es ..) (w := w) (And.intro h (And.intro rfl (And.intro hc.symm trivial)))
      exact ⟨g', _, _, h1, h2⟩
    · obtain ⟨g', h1, h2⟩ := step_of (x := x) (sp_3_1 x.On cs wt svb aw o K) (fun _ _ => trivial) (sp_3_1_es ..) (w := w) (And.intro h (And.intro rfl (And.intro hc.symm trivial)))
      exact ⟨g', _, _, h1, h2⟩
theorem w_sq (hf : Facts n ⟨.sq, item, old, aw, svb, it, rest⟩ s) (hW : Wd x n (CanOk x u) u B W0 k s w) : WGo x n u B W0 k sv ⟨.sq, item, old, aw, svb, it, rest⟩ s (mkSp Tryz.prog x.On (cs84 Tryz.prog x J item) wt svb aw it old.val K) w := by
  have h16 : old.W ≤ 16 := by have := hf.wi.wide (.inl rfl); have := hf.n16; simp only at *; omega
  have h17 : old.W ≤ 17 := by omega
  have hlt : it < 4 := hf.wi.sq (.inl rfl)
  have ho := hf.wi.sqo rfl
  have r1 : E1 old.val = true := by rw [e1 h17]; simp only at ho; simp [ho.1, ho.2]
  obtain ⟨g', kb, K', h1, h2⟩ := sp_any (x := x) (wt := wt) (svb := svb) (aw := aw) (K := K) (cs := cs84 Tryz.prog x J item) hlt r1 w
  have hW' : Wd x n (CanOk x u) u B W0 k s { w with drawn := w.drawn + 1 } := hW.tick rfl rfl (.refl _) rfl
  have fin : ∀ {T' : TD} {j : Nat} {h' : Goroutine}, (T', s) ∈ mv ⟨.sq, item, old, aw, svb, it, rest⟩ s → Sil Tryz.prog false (Live x) j (mkSd Tryz.prog x.On (cs84 Tryz.prog x J item) wt svb aw it old.val kb K') h' → AtW x n u k T' h' → WGo x n u B W0 k sv ⟨.sq, item, old, aw, svb, it, rest⟩ s (mkSp Tryz.prog x.On (cs84 Tryz.prog x J item) wt svb aw it old.val K) w :=
    fun hm hq ha => ⟨_, s, g', _, hm, h1, hW', .inr (.inr ⟨_, _, sil_trans h2 hq, ha⟩), .of_heap rfl⟩
  have hi : ar .add .i64 (it : Int) 1 = ((it + 1 : Nat) : Int) := itv (by omega)
  cases kb with
  | false =>
    have h3 := sil_of (x := x) (sd_no x.On (cs84 Tryz.prog x J item) wt svb aw it old.val K') (fun _ _ => And.intro r1 (And.intro rfl trivial))
    obtain ⟨j4, K4, h4⟩ := nw_sil (x := x) (b := x.On) (cs := cs84 Tryz.prog x J item) (wt := wt) (svb := svb) (aw := aw) (it := (it : Int)) (old := old) (J := junk (qt Tryz.prog false 5 (mkSd Tryz.prog x.On (cs84 Tryz.prog x J item) wt svb aw it old.val false K') [.bool true, .bool false])) h16 (hf.wi.sv rfl) (hf.wi.snap (.inl rfl))
    exact fin (T' := ⟨.c2, item, old, aw, svb, it, rest⟩) (by simp [mv]) (sil_trans h3 h4) ⟨J, K4, wt, rfl⟩
  | true =>
    cases aw with
    | true =>
      have h3 := sil_of (x := x) (sd_aw x.On (cs84 Tryz.prog x J item) wt svb it old.val K') (fun _ _ => by simp [okOf, r1])
      rw [hi] at h3
      exact fin (T' := ⟨.r1, item, old, true, svb, it, rest⟩) (by simp [mv]) h3 ⟨J, _, wt, rfl⟩
    | false =>
      have r5 := e5 h17
      have r7 := e7 h17
      cases hK : old.K with
      | true =>
        rw [hK] at r5
        have h3 := sil_of (x := x) (sd_K x.On (cs84 Tryz.prog x J item) wt svb it old.val K') (fun _ _ => by simp [okOf, r1, r5])
        rw [hi] at h3
        exact fin (T' := ⟨.r1, item, old, false, svb, it, rest⟩) (by simp [mv, hK]) h3 ⟨J, _, wt, rfl⟩
      | false =>
        rw [hK] at r5
        by_cases hw : old.W = 0
        · have h3 := sil_of (x := x) (sd_W x.On (cs84 Tryz.prog x J item) wt svb it old.val K') (fun _ _ => by simp [okOf, r1, r5, r7, hw])
          rw [hi] at h3
          exact fin (T' := ⟨.r1, item, old, false, svb, it, rest⟩) (by simp [mv, hK, hw]) h3 ⟨J, _, wt, rfl⟩
        · have h3 := sil_of (x := x) (sd_c1 x.On (cs84 Tryz.prog x J item) wt svb it old.val K') (fun _ _ => by simp [okOf, r1, r5, r7, hw])
          exact fin (T' := ⟨.c1, item, old, false, svb, it, rest⟩) (by simp [mv, hK, hw]) h3 ⟨J, _, wt, rfl⟩
theorem w_c1 (hD : Dist x B) (hf : Facts n ⟨.c1, item, old, aw, svb, it, rest⟩ s) (hW : Wd x n (CanOk x u) u B W0 k s w) : WGo x n u B W0 k sv ⟨.c1, item, old, aw, svb, it, rest⟩ s (mkC1 Tryz.prog x.On (cs84 Tryz.prog x J item) wt svb aw it old.val K) w := by
  have h17 : old.W ≤ 17 := by have := hf.wi.wide (.inr (.inl rfl)); have := hf.n16; simp only at *; omega
  have hs17 : s.mu.W ≤ 17 := by have := hf.mw; have := hf.n16; omega
  have hc := hf.wi.c1 rfl
  simp only at hc
  have r7 : E7 old.val = true := by rw [e7 h17]; simp [hc.2.2.2.2]
  have hlt : it < 4 := hf.wi.sq (.inr (.inl rfl))
  have hi : ar .add .i64 (it : Int) 1 = ((it + 1 : Nat) : Int) := itv (by omega)
  have c := hW.cMu
  by_cases hz : s.mu = old
  · have he : esW x k ⟨.c1, item, old, aw, svb, it, rest⟩ s = #[rdA x.On 1, wrA x.On 1] := by simp [esW, hz]
    rw [hz] at c
    obtain ⟨g', h1, h2⟩ := step_of (x := x) (c1_hit x.On (cs84 Tryz.prog x J item) wt svb aw it old.val K) (fun _ _ => by simp [okOf, r7]) ((c1_hit_es ..).trans he.symm) (w := w) (And.intro r7 (And.intro c (And.intro (hW.fOn 1) trivial)))
    rw [hi] at h2
    have hW' := hW.setMu hD { s.mu with K := true }
    refine wgo_set (T' := ⟨.r1, item, old, true, svb, it, rest⟩) (s' := { s with mu := { s.mu with K := true } }) (by simp [mv, hz]) (h1.trans ?_) tOn hW' h2 ⟨J, _, wt, rfl⟩
    show GStep.go g' (w.setCell ⟨x.On, 1, none⟩ (.int .i32 (bi .or old.val 2))) _ = _
    rw [or2 h17, hz]
  · have he : esW x k ⟨.c1, item, old, aw, svb, it, rest⟩ s = #[rdA x.On 1] := by simp [esW, hz]
    obtain ⟨g', h1, h2⟩ := step_of (x := x) (c1_miss x.On (cs84 Tryz.prog x J item) wt svb aw it old.val K s.mu.val) (fun _ _ => by simp [okOf, r7]) ((c1_miss_es ..).trans he.symm) (w := w) (And.intro r7 (And.intro c (And.intro (hW.fOn 1) (And.intro (fun e => hz ((val_inj hs17 h17).1 e)) trivial))))
    rw [hi] at h2
    exact wgo_at (T' := ⟨.r1, item, old, aw, svb, it, rest⟩) (by simp [mv, hz]) h1 hW h2 ⟨J, _, wt, rfl⟩
theorem w_c2 (hD : Dist x B) (hf : Facts n ⟨.c2, item, old, aw, svb, it, rest⟩ s) (hW : Wd x n (CanOk x u) u B W0 k s w) : WGo x n u B W0 k sv ⟨.c2, item, old, aw, svb, it, rest⟩ s (mkC2 Tryz.prog x.On (cs84 Tryz.prog x J item) wt svb aw it old.val (nwOf old aw svb).val K) w := by
  have h17 : old.W ≤ 17 := by have := hf.wi.wide (.inr (.inr (.inl rfl))); have := hf.n16; simp only at *; omega
  have hs17 : s.mu.W ≤ 17 := by have := hf.mw; have := hf.n16; omega
  have r8 := e8 h17
  have c := hW.cMu
  by_cases hz : s.mu = old
  · have he : esW x k ⟨.c2, item, old, aw, svb, it, rest⟩ s = #[rdA x.On 1, wrA x.On 1] := by simp [esW, hz]
    rw [hz] at c
    have hW' := hW.setMu hD (nwOf old aw svb)
    cases hLS : (old.L || old.S) with
    | false =>
      rw [hLS] at r8
      obtain ⟨g', h1, h2⟩ := step_of (x := x) (c2_free x.On (cs84 Tryz.prog x J item) wt svb aw it old.val (nwOf old aw svb).val K) (fun _ _ => by simp [okOf, r8]) ((c2_free_es ..).trans he.symm) (w := w) (And.intro c (And.intro (hW.fOn 1) trivial))
      exact wgo_set (T' := ⟨.le, item, old, aw, svb, it, rest⟩) (by simp [mv, hz, hLS]) h1 tOn hW' h2 (.inr ⟨J, _, wt, svb, aw, it, old.val, rfl⟩)
    | true =>
      rw [hLS] at r8
      have hLS' : old.L = true ∨ old.S = true := by simpa using hLS
      by_cases hwt : wt = 0
      · obtain ⟨g', h1, h2⟩ := step_of (x := x) (c2_t1 x.On (cs84 Tryz.prog x J item) wt svb aw it old.val (nwOf old aw svb).val K) (fun _ _ => by simp [okOf, r8, hwt]) ((c2_t1_es ..).trans he.symm) (w := w) (And.intro c (And.intro (hW.fOn 1) trivial))
        exact wgo_set (T' := ⟨.t1, item, old, aw, svb, it, rest⟩) (by simp [mv, hz]; rw [if_pos hLS']; simp) h1 tOn hW' h2 ⟨J, _, wt, rfl⟩
      · obtain ⟨g', h1, h2⟩ := step_of (x := x) (c2_s1 x.On (cs84 Tryz.prog x J item) wt svb aw it old.val (nwOf old aw svb).val K) (fun _ _ => by simp [okOf, r8, hwt]) ((c2_s1_es ..).trans he.symm) (w := w) (And.intro c (And.intro (hW.fOn 1) trivial))
        exact wgo_set (T' := ⟨.s1, item, old, aw, svb, it, rest⟩) (by simp [mv, hz]; rw [if_pos hLS']; simp) h1 tOn hW' h2 ⟨J, _, wt, rfl⟩
  · have he : esW x k ⟨.c2, item, old, aw, svb, it, rest⟩ s = #[rdA x.On 1] := by simp [esW, hz]
    obtain ⟨g', h1, h2⟩ := step_of (x := x) (c2_miss x.On (cs84 Tryz.prog x J item) wt svb aw it old.val (nwOf old aw svb).val K s.mu.val) (fun _ _ => by simp [okOf]) ((c2_miss_es ..).trans he.symm) (w := w) (And.intro c (And.intro (hW.fOn 1) (And.intro (fun e => hz ((val_inj hs17 h17).1 e)) trivial)))
    exact wgo_at (T' := ⟨.r3, item, old, aw, svb, it, rest⟩) (by simp [mv, hz]) h1 hW h2 ⟨J, _, wt, rfl⟩
theorem later_at (hW : Wd x n (CanOk x u) u B W0 k s w) : Wd x n (CanOk x u) u B W0 k s w.later := hW.tick rfl rfl ⟨w.tick, rfl⟩ rfl
theorem w_t1 (hW : Wd x n (CanOk x u) u B W0 k s w) : WGo x n u B W0 k sv ⟨.t1, item, old, aw, svb, it, rest⟩ s (mkT1 Tryz.prog x.On (cs84 Tryz.prog x J item) wt svb aw it old.val K) w := by
  obtain ⟨g', h1, h2⟩ := step_of (x := x) (t1_s x.On (cs84 Tryz.prog x J item) wt svb aw it old.val K ((w.os.mono + w.tick : Nat) : Int)) (fun _ _ => trivial) (t1_s_es ..) (w := w) (And.intro (by rw [sys_clock1]) trivial)
  have h1 : stepG Tryz.prog false (mkT1 Tryz.prog x.On (cs84 Tryz.prog x J item) wt svb aw it old.val K) w = .go g' w.later #[] := h1
  exact ⟨⟨.s1, item, old, aw, svb, it, rest⟩, s, g', _, by simp [mv], h1, later_at hW, .inr (.inr ⟨_, _, h2, J, _, _, rfl⟩), .of_heap rfl⟩
theorem w_t2 (hsv : svb = false) (hW : Wd x n (CanOk x u) u B W0 k s w) : WGo x n u B W0 k sv ⟨.t2, item, old, aw, svb, it, rest⟩ s (mkT2 Tryz.prog x.On (cs84 Tryz.prog x J item) wt svb aw it old.val K) w := by
  subst hsv
  obtain ⟨g', h1, h2⟩ := step_of (x := x) (t2_s x.On (cs84 Tryz.prog x J item) wt aw it old.val K ((w.os.mono + w.tick : Nat) : Int)) (fun _ _ => by simp [okOf]) (t2_s_es ..) (w := w) (And.intro rfl (And.intro (by rw [sys_clock1]) trivial))
  have h1 : stepG Tryz.prog false (mkT2 Tryz.prog x.On (cs84 Tryz.prog x J item) wt false aw it old.val K) w = .go g' w.later #[] := h1
  cases hg : gt (ar .sub .i64 ((w.os.mono + w.tick : Nat) : Int) wt) 1000000 with
  | false =>
    rw [hg] at h2
    exact ⟨⟨.r2, item, old, aw, false, it, rest⟩, s, g', _, by simp [mv], h1, later_at hW, .inr (.inr ⟨_, _, h2, J, _, _, rfl⟩), .of_heap rfl⟩
  | true =>
    rw [hg] at h2
    exact ⟨⟨.r2, item, old, aw, true, it, rest⟩, s, g', _, by simp [mv], h1, later_at hW, .inr (.inr ⟨_, _, h2, J, _, _, rfl⟩), .of_heap rfl⟩
theorem w_s1 (hD : Dist x B) (hf : Facts n ⟨.s1, item, old, aw, svb, it, rest⟩ s) (hms : s.ms ≠ 0) (hW : Wd x n (CanOk x u) u B W0 k s w) : WGo x n u B W0 k sv ⟨.s1, item, old, aw, svb, it, rest⟩ s (mkS1 Tryz.prog x.On (cs84 Tryz.prog x J item) wt svb aw it old.val K) w := by
  have h1 : s.ms = 1 := by have := hf.ms1; omega
  have c := hW.cMs
  rw [h1] at c
  have hW' := hW.setMs hD 0
  cases svb with
  | false =>
    obtain ⟨g', h2, h3⟩ := step_of (x := x) (s1_f x.On (cs84 Tryz.prog x J item) wt aw it old.val K) (fun _ _ => trivial) (s1_f_es ..) (w := w) (And.intro c (And.intro ⟨_, c⟩ (And.intro (hW.fOn 2) trivial)))
    exact wgo_set (T' := ⟨.t2, item, old, aw, false, it, rest⟩) (s' := { s with ms := 0 }) (by simp [mv, h1]) h2 tOn hW' h3 ⟨rfl, J, _, wt, rfl⟩
  | true =>
    obtain ⟨g', h2, h3⟩ := step_of (x := x) (s1_t x.On (cs84 Tryz.prog x J item) wt aw it old.val K) (fun _ _ => by simp [okOf]) (s1_t_es ..) (w := w) (And.intro c (And.intro ⟨_, c⟩ (And.intro (hW.fOn 2) trivial)))
    exact wgo_set (T' := ⟨.r2, item, old, aw, true, it, rest⟩) (s' := { s with ms := 0 }) (by simp [mv, h1]) h2 tOn hW' h3 ⟨J, _, wt, rfl⟩
theorem w_r2 (hf : Facts n ⟨.r2, item, old, aw, svb, it, rest⟩ s) (hW : Wd x n (CanOk x u) u B W0 k s w) : WGo x n u B W0 k sv ⟨.r2, item, old, aw, svb, it, rest⟩ s (mkR2 Tryz.prog x.On (cs84 Tryz.prog x J item) wt svb aw it old.val K) w := by
  have h16 : s.mu.W ≤ 16 := by have := hf.mw; have := hf.n16; omega
  have h17 : s.mu.W ≤ 17 := by omega
  have r6 := e6 h17
  cases hS : s.mu.S with
  | false =>
    rw [hS] at r6
    obtain ⟨g', h1, h2⟩ := step_of (x := x) (r2_go x.On (cs84 Tryz.prog x J item) wt svb aw it old.val K s.mu.val) (fun _ _ => And.intro r6 trivial) (r2_go_es ..) (w := w) (And.intro hW.cMu trivial)
    obtain ⟨j, h, h3, h4⟩ := hd_sil' (x := x) (n := n) (u := u) (k := k) (J := J) (K := junk (st Tryz.prog false 23 (mkR2 Tryz.prog x.On (cs84 Tryz.prog x J item) wt svb aw it old.val K) [.val (.int .i32 s.mu.val)] [.bool false])) (wt := wt) (T := ⟨.r2, item, s.mu, true, svb, 0, rest⟩) h16 (Nat.zero_le 4) (fun _ => rfl) (hd_snap (hf.self (hd ⟨.r2, item, s.mu, true, svb, 0, rest⟩) s (by simp [mv, hS])))
    exact wgo_at (T' := hd ⟨.r2, item, s.mu, true, svb, 0, rest⟩) (by simp [mv, hS]) h1 hW (sil_trans h2 h3) h4
  | true =>
    rw [hS] at r6
    obtain ⟨hK, hL, hw⟩ := hf.r2 rfl hS
    have r9 : E9 s.mu.val = false := by rw [e9 h17]; simp [hK, hL]
    have r10 : E10 s.mu.val = false := by rw [e10 h17]; simp; omega
    have r11 := e11 h17
    cases svb with
    | false =>
      obtain ⟨g', h1, h2⟩ := step_of (x := x) (r2_a x.On (cs84 Tryz.prog x J item) wt aw it old.val K s.mu.val) (fun _ _ => by simp [okOf, r6, r9, r10]) (r2_a_es ..) (w := w) (And.intro hW.cMu trivial)
      exact wgo_at (T' := ⟨.a1, item, s.mu, aw, false, it, rest⟩) (by simp [mv, hS]) h1 hW h2 ⟨J, _, wt, rfl⟩
    | true =>
      by_cases hw1 : s.mu.W = 1
      · have hd : (if (true && decide (s.mu.W ≠ 1)) = true then (-7 : Int) else ar .sub .i32 (-7) 4) = ar .sub .i32 (-7) 4 := if_neg (by simp [hw1])
        obtain ⟨g', h1, h2⟩ := step_of (x := x) (r2_b x.On (cs84 Tryz.prog x J item) wt aw it old.val K s.mu.val) (fun _ _ => by simp [okOf, r6, r9, r10, r11, hw1]) (r2_b_es ..) (w := w) (And.intro hW.cMu trivial)
        rw [← hd] at h2
        exact wgo_at (T' := ⟨.a1, item, s.mu, aw, true, it, rest⟩) (by simp [mv, hS]) h1 hW h2 ⟨J, _, wt, rfl⟩
      · have hd : (if (true && decide (s.mu.W ≠ 1)) = true then (-7 : Int) else ar .sub .i32 (-7) 4) = -7 := if_pos (by simp [hw1])
        obtain ⟨g', h1, h2⟩ := step_of (x := x) (r2_c x.On (cs84 Tryz.prog x J item) wt aw it old.val K s.mu.val) (fun _ _ => by simp [okOf, r6, r9, r10, r11, hw1]) (r2_c_es ..) (w := w) (And.intro hW.cMu trivial)
        rw [← hd] at h2
        exact wgo_at (T' := ⟨.a1, item, s.mu, aw, true, it, rest⟩) (by simp [mv, hS]) h1 hW h2 ⟨J, _, wt, rfl⟩
theorem w_a1 (hD : Dist x B) (hf : Facts n ⟨.a1, item, old, aw, svb, it, rest⟩ s) (hW : Wd x n (CanOk x u) u B W0 k s w) : WGo x n u B W0 k sv ⟨.a1, item, old, aw, svb, it, rest⟩ s (mkA1 Tryz.prog x.On (cs84 Tryz.prog x J item) wt svb aw it old.val (if svb && decide (old.W ≠ 1) then -7 else ar .sub .i32 (-7) 4) K) w := by
  have h17 : s.mu.W ≤ 17 := by have := hf.mw; have := hf.n16; omega
  obtain ⟨_, _, _, ho, hle, hS⟩ := hf.wi.a1 rfl
  simp only at ho hle
  have hw : s.mu.W ≠ 0 := by omega
  have hL := hf.a1 rfl
  have c := hW.cMu
  obtain ⟨g', h1, h2⟩ := step_of (x := x) (a1_s x.On (cs84 Tryz.prog x J item) wt svb aw it old.val (if svb && decide (old.W ≠ 1) then -7 else ar .sub .i32 (-7) 4) K s.mu.val) (fun _ _ => And.intro rfl trivial) (a1_s_es ..) (w := w) (And.intro c (And.intro ⟨_, c⟩ (And.intro (hW.fOn 1) trivial)))
  have hv : ar .add .i32 s.mu.val (if svb && decide (old.W ≠ 1) then -7 else ar .sub .i32 (-7) 4) = MW.val ⟨s.mu.W - 1, s.mu.S && (svb && decide (old.W ≠ 1)), s.mu.K, true⟩ := by
    cases hb : (svb && decide (old.W ≠ 1)) with
    | true => rw [if_pos rfl, fixB h17 hw hL]; simp
    | false => rw [if_neg (by simp), fixA h17 hw hS hL]; simp
  have hW' := hW.setMu hD ⟨s.mu.W - 1, s.mu.S && (svb && decide (old.W ≠ 1)), s.mu.K, true⟩
  refine wgo_set (T' := ⟨.le, item, old, aw, svb, it, rest⟩) (s' := { s with mu := ⟨s.mu.W - 1, s.mu.S && (svb && decide (old.W ≠ 1)), s.mu.K, true⟩ }) (by simp [mv]) (h1.trans ?_) tOn hW' h2 (.inr ⟨J, _, wt, svb, aw, it, old.val, rfl⟩)
  show GStep.go g' (w.setCell ⟨x.On, 1, none⟩ (.int .i32 (ar .add .i32 s.mu.val (if svb && decide (old.W ≠ 1) then -7 else ar .sub .i32 (-7) 4)))) _ = _
  rw [hv]
  rfl
theorem w_leF (hW : Wd x n (CanOk x u) u B W0 k s w) : WGo x n u B W0 k sv ⟨.le, item, old, aw, svb, it, rest⟩ s (sLeF Tryz.prog x J item) w := by
  obtain ⟨g', h1, h2⟩ := step_of (x := x) (leF_s x J item) (fun _ hl => And.intro hl.1 (And.intro hl.1 trivial)) (leF_s_es x J item) (w := w) trivial
  exact wgo_at (T' := ⟨.la, item, old, aw, svb, it, rest⟩) (by simp [mv]) h1 hW h2 (.inl ⟨J, rfl⟩)
theorem w_le {wt' : Int} {sv' aw' : Bool} {it' old' : Int} (hW : Wd x n (CanOk x u) u B W0 k s w) : WGo x n u B W0 k sv ⟨.le, item, old, aw, svb, it, rest⟩ s (mkLe Tryz.prog x.On (cs84 Tryz.prog x J item) wt' sv' aw' it' old' K) w := by
  obtain ⟨g', h1, h2⟩ := step_of (x := x) (le_s x.On (cs84 Tryz.prog x J item) wt' sv' aw' it' old' K) (fun _ hl => And.intro hl.1 (And.intro hl.1 trivial)) (le_s_es ..) (w := w) trivial
  exact wgo_at (T' := ⟨.la, item, old, aw, svb, it, rest⟩) (by simp [mv]) h1 hW h2 (.inr ⟨J, _, wt', sv', aw', it', old', rfl⟩)
theorem w_laF (hW : Wd x n (CanOk x u) u B W0 k s w) : WGo x n u B W0 k sv ⟨.la, item, old, aw, svb, it, rest⟩ s (sLaF Tryz.prog x J item) w := by
  obtain ⟨g', h1, h2⟩ := step_of (x := x) (laF_s x J item) (fun _ _ => trivial) (laF_s_es x J item) (w := w) trivial
  exact wgo_at (T' := ⟨.ld2, item, old, aw, svb, it, rest⟩) (by simp [mv]) h1 hW h2 ⟨J, rfl⟩
theorem w_la {wt' : Int} {sv' aw' : Bool} {it' old' : Int} (hW : Wd x n (CanOk x u) u B W0 k s w) : WGo x n u B W0 k sv ⟨.la, item, old, aw, svb, it, rest⟩ s (mkLa Tryz.prog x.On (cs84 Tryz.prog x J item) wt' sv' aw' it' old' K) w := by
  obtain ⟨g', h1, h2⟩ := step_of (x := x) (la_s x J item wt' sv' aw' it' old' K) (fun _ _ => trivial) (la_s_es ..) (w := w) trivial
  exact wgo_at (T' := ⟨.ld2, item, old, aw, svb, it, rest⟩) (by simp [mv]) h1 hW h2 ⟨J, rfl⟩
theorem w_uL (hW : Wd x n (CanOk x u) u B W0 k s w) : WGo x n u B W0 k sv ⟨.uL, item, old, aw, svb, it, rest⟩ s (mkUL Tryz.prog x.On (csU Tryz.prog x J item V td) K) w := by
  obtain ⟨g', h1, h2⟩ := step_of (x := x) (uL_s x.On (csU Tryz.prog x J item V td) K s.mu.val) (fun _ hl => And.intro hl.1 (And.intro hl.1 trivial)) (uL_s_es ..) (w := w) (And.intro hW.cMu trivial)
  exact wgo_at (T' := ⟨.ur, item, old, aw, svb, it, rest⟩) (by simp [mv]) h1 hW h2 ⟨J, V, td, _, rfl⟩
theorem w_ur (hW : Wd x n (CanOk x u) u B W0 k s w) : WGo x n u B W0 k sv ⟨.ur, item, old, aw, svb, it, rest⟩ s (mkUr Tryz.prog x.On (csU Tryz.prog x J item V td) K) w := by
  obtain ⟨g', h1, h2⟩ := step_of (x := x) (ur_s x.On (csU Tryz.prog x J item V td) K) (fun _ _ => trivial) (ur_s_es ..) (w := w) trivial
  exact wgo_at (T' := ⟨.ud, item, old, aw, svb, it, rest⟩) (by simp [mv]) h1 hW h2 ⟨J, V, td, _, rfl⟩
theorem w_ud (hW : Wd x n (CanOk x u) u B W0 k s w) : WGo x n u B W0 k sv ⟨.ud, item, old, aw, svb, it, rest⟩ s (mkUd Tryz.prog x.On (csU Tryz.prog x J item V td) K) w := by
  obtain ⟨g', h1, h2⟩ := step_of (x := x) (ud_s x.On (csU Tryz.prog x J item V td) K) (fun _ _ => trivial) (ud_s_es ..) (w := w) trivial
  exact wgo_at (T' := ⟨.u0, item, old, aw, svb, it, rest⟩) (by simp [mv]) h1 hW h2 ⟨J, V, td, _, rfl⟩
theorem add1 {m : MW} (h : m.W ≤ 17) (hl : m.L = false) : (bi .and (ar .add .i32 m.val 1) 1 == 0) = false := mw_all h (fun W S K L => L = false → (bi .and (ar .add .i32 (MW.val ⟨W, S, K, L⟩) 1) 1 == 0) = false) (by decide +kernel) hl
theorem w_u0 (hD : Dist x B) (hf : Facts n ⟨.u0, item, old, aw, svb, it, rest⟩ s) (hW : Wd x n (CanOk x u) u B W0 k s w) : WGo x n u B W0 k sv ⟨.u0, item, old, aw, svb, it, rest⟩ s (mkU0 Tryz.prog x.On (csU Tryz.prog x J item V td) K) w := by
  have h17 : s.mu.W ≤ 17 := by have := hf.mw; have := hf.n16; omega
  have hL := hf.u0 rfl
  have c := hW.cMu
  have hsub := sub1 h17 hL
  have hW' := hW.setMu hD { s.mu with L := false }
  have ok : okOf [.mark (.extern 102), .load .atomic ⟨x.On, 1, none⟩ (.int .i32 s.mu.val), .store .atomic ⟨x.On, 1, none⟩ (.int .i32 (ar .add .i32 s.mu.val (-1)))] w := And.intro c (And.intro ⟨_, c⟩ (And.intro (hW.fOn 1) trivial))
  have conv : ∀ {g' : Goroutine} {e : Array Event}, GStep.go g' (wOf [.mark (.extern 102), .load .atomic ⟨x.On, 1, none⟩ (.int .i32 s.mu.val), .store .atomic ⟨x.On, 1, none⟩ (.int .i32 (ar .add .i32 s.mu.val (-1)))] w) e = .go g' (w.setCell ⟨x.On, 1, none⟩ (.int .i32 (MW.val { s.mu with L := false }))) e := by
    intro g' e
    show GStep.go g' (w.setCell ⟨x.On, 1, none⟩ (.int .i32 (ar .add .i32 s.mu.val (-1)))) e = _
    rw [hsub]
  have hm17 : ({ s.mu with L := false } : MW).W ≤ 17 := h17
  have r0 : ar .add .i32 s.mu.val (-1) = MW.val { s.mu with L := false } := hsub
  generalize hm : ({ s.mu with L := false } : MW) = m at *
  have hmS : m.S = s.mu.S := by rw [← hm]
  have hmL : m.L = false := by rw [← hm]
  have hmv : ∀ {T'}, (T', ({ s with mu := m } : Sh)) ∈ (if m.S then [((⟨.us, item, old, aw, svb, it, rest⟩ : TD), { s with mu := m })] else [(hdU ⟨.u0, item, old, aw, svb, it, rest⟩ m, { s with mu := m })]) → (T', ({ s with mu := m } : Sh)) ∈ mv ⟨.u0, item, old, aw, svb, it, rest⟩ s := by
    intro T' h
    simp only [mv]
    rw [hm, ← hmS]
    exact h
  have q1 := add1 hm17 hmL
  have q2 := e2 hm17
  have q10 := e10 hm17
  have q12 := e12 hm17
  cases hS : m.S with
  | true =>
    have hnz : (m.val != 0) = true := by
      have : m.val ≠ 0 := fun e => by have := (val0 hm17).1 e; rw [this] at hS; cases hS
      simpa using this
    rw [hS] at q2
    obtain ⟨g', h1, h2⟩ := step_of (x := x) (u0_us x.On (csU Tryz.prog x J item V td) K s.mu.val) (fun _ _ => by rw [r0]; simp only [okOf, hnz, q1, q2]; simp) (u0_us_es ..) (w := w) ok
    exact wgo_set (T' := ⟨.us, item, old, aw, svb, it, rest⟩) (s' := { s with mu := m }) (hmv (by simp [hS])) (h1.trans conv) tOn hW' h2 (.inr ⟨J, V, td, _, _, rfl⟩)
  | false =>
    rw [hS] at q2
    have hmv2 : (hdU ⟨.u0, item, old, aw, svb, it, rest⟩ m, ({ s with mu := m } : Sh)) ∈ mv ⟨.u0, item, old, aw, svb, it, rest⟩ s := hmv (by simp [hS])
    rcases hdU_cases ⟨.u0, item, old, aw, svb, it, rest⟩ m with ⟨e, hor⟩ | ⟨e, hw, _, hK, _⟩
    · rw [e] at hmv2
      by_cases hz : m.val = 0
      · obtain ⟨g', h1, h2⟩ := step_of (x := x) (u0_ue x.On (csU Tryz.prog x J item V td) K s.mu.val) (fun _ _ => by rw [r0]; simp [okOf, hz]) (u0_ue_es ..) (w := w) ok
        exact wgo_set hmv2 (h1.trans conv) tOn hW' h2 ⟨J, V, td, _, rfl⟩
      · have hnz : (m.val != 0) = true := by simpa using hz
        by_cases hw : m.W = 0
        · rw [hw] at q10
          simp only [decide_true] at q10
          obtain ⟨g', h1, h2⟩ := step_of (x := x) (u0_ue2 x.On (csU Tryz.prog x J item V td) K s.mu.val) (fun _ _ => by rw [r0]; simp only [okOf, hnz, q1, q2, q10]; simp) (u0_ue2_es ..) (w := w) ok
          exact wgo_set hmv2 (h1.trans conv) tOn hW' h2 ⟨J, V, td, _, rfl⟩
        · have q10 : E10 m.val = false := by rw [q10]; simpa using hw
          have hK : m.K = true := by
            rcases hor with h | h | h | h
            · exact absurd h hw
            · rw [hmL] at h; cases h
            · exact h
            · rw [hS] at h; cases h
          have q12 : E12 m.val = true := by rw [q12, hK]; simp
          obtain ⟨g', h1, h2⟩ := step_of (x := x) (u0_ue1 x.On (csU Tryz.prog x J item V td) K s.mu.val) (fun _ _ => by rw [r0]; simp only [okOf, hnz, q1, q2, q10, q12]; simp) (u0_ue1_es ..) (w := w) ok
          exact wgo_set hmv2 (h1.trans conv) tOn hW' h2 ⟨J, V, td, _, rfl⟩
    · rw [e] at hmv2
      have q10 : E10 m.val = false := by rw [q10]; simpa using hw
      have q12 : E12 m.val = false := by rw [q12, hK, hS, hmL]; rfl
      have hnz : (m.val != 0) = true := by
        have : m.val ≠ 0 := fun e => by have := (val0 hm17).1 e; rw [this] at hw; exact hw rfl
        simpa using this
      obtain ⟨g', h1, h2⟩ := step_of (x := x) (u0_uc x.On (csU Tryz.prog x J item V td) K s.mu.val) (fun _ _ => by rw [r0]; simp only [okOf, hnz, q1, q2, q10, q12]; simp) (u0_uc_es ..) (w := w) ok
      obtain ⟨K1, K2, h2⟩ : ∃ K1 K2, Sil Tryz.prog false (Live x) 67 g' (mkUc Tryz.prog x.On (csU Tryz.prog x J item V td) (ar .add .i32 s.mu.val (-1)) K1 K2) := ⟨_, _, h2⟩
      rw [r0] at h2
      exact wgo_set hmv2 (h1.trans conv) tOn hW' h2 ⟨J, V, td, K1, K2, rfl⟩
theorem w_uc (hD : Dist x B) (hf : Facts n ⟨.uc, item, old, aw, svb, it, rest⟩ s) (hW : Wd x n (CanOk x u) u B W0 k s w) : WGo x n u B W0 k sv ⟨.uc, item, old, aw, svb, it, rest⟩ s (mkUc Tryz.prog x.On (csU Tryz.prog x J item V td) old.val K K') w := by
  have h17 : old.W ≤ 17 := by have := hf.wi.wide (.inr (.inr (.inr (.inl rfl)))); have := hf.n16; simp only at *; omega
  have hs17 : s.mu.W ≤ 17 := by have := hf.mw; have := hf.n16; omega
  obtain ⟨hw, hL, hK, hS⟩ := hf.wi.uc rfl
  simp only at hw hL hK hS
  have c := hW.cMu
  by_cases hz : s.mu = old
  · have he : esW x k ⟨.uc, item, old, aw, svb, it, rest⟩ s = #[rdA x.On 1, wrA x.On 1] := by simp [esW, hz]
    rw [hz] at c
    obtain ⟨g', h1, h2⟩ := step_of (x := x) (uc_hit x.On (csU Tryz.prog x J item V td) old.val K K') (fun _ _ => And.intro rfl trivial) ((uc_hit_es ..).trans he.symm) (w := w) (And.intro c (And.intro (hW.fOn 1) trivial))
    have hW' := hW.setMu hD ⟨s.mu.W - 1, false, true, false⟩
    refine wgo_set (T' := ⟨.us, item, old, aw, svb, it, rest⟩) (s' := { s with mu := ⟨s.mu.W - 1, false, true, false⟩ }) (by simp [mv, hz]) (h1.trans ?_) tOn hW' h2 (.inl ⟨J, V, td, _, _, rfl⟩)
    show GStep.go g' (w.setCell ⟨x.On, 1, none⟩ (.int .i32 (bi .or (ar .sub .i32 old.val 8) 2))) _ = _
    rw [sub8 h17 hw, or2 (m := { old with W := old.W - 1 }) (by simp only; omega), hz]
    simp only [hS, hL]
  · have he : esW x k ⟨.uc, item, old, aw, svb, it, rest⟩ s = #[rdA x.On 1] := by simp [esW, hz]
    obtain ⟨g', h1, h2⟩ := step_of (x := x) (uc_miss x.On (csU Tryz.prog x J item V td) old.val K K' s.mu.val) (fun _ _ => And.intro rfl trivial) ((uc_miss_es ..).trans he.symm) (w := w) (And.intro c (And.intro (hW.fOn 1) (And.intro (fun e => hz ((val_inj hs17 h17).1 e)) trivial)))
    exact wgo_at (T' := ⟨.ux, item, old, aw, svb, it, rest⟩) (by simp [mv, hz]) h1 hW h2 ⟨J, V, td, _, _, rfl⟩
theorem w_ux (hf : Facts n ⟨.ux, item, old, aw, svb, it, rest⟩ s) (hW : Wd x n (CanOk x u) u B W0 k s w) : WGo x n u B W0 k sv ⟨.ux, item, old, aw, svb, it, rest⟩ s (mkUx Tryz.prog x.On (csU Tryz.prog x J item V td) K K') w := by
  have h17 : s.mu.W ≤ 17 := by have := hf.mw; have := hf.n16; omega
  have c := hW.cMu
  have q10 := e10 h17
  have q12 := e12 h17
  have hmv2 : (hdU ⟨.ux, item, old, aw, svb, it, rest⟩ s.mu, s) ∈ mv ⟨.ux, item, old, aw, svb, it, rest⟩ s := by simp [mv]
  rcases hdU_cases ⟨.ux, item, old, aw, svb, it, rest⟩ s.mu with ⟨e, hor⟩ | ⟨e, hw, hL, hK, hS⟩
  · rw [e] at hmv2
    by_cases hw : s.mu.W = 0
    · rw [hw] at q10
      simp only [decide_true] at q10
      obtain ⟨g', h1, h2⟩ := step_of (x := x) (ux_ue2 x.On (csU Tryz.prog x J item V td) K K' s.mu.val) (fun _ _ => by simp only [okOf, q10]; simp) (ux_ue2_es ..) (w := w) (And.intro c trivial)
      exact wgo_at hmv2 h1 hW h2 ⟨J, V, td, _, rfl⟩
    · have q10 : E10 s.mu.val = false := by rw [q10]; simpa using hw
      have q12 : E12 s.mu.val = true := by
        rw [q12]
        rcases hor with h | h | h | h
        · exact absurd h hw
        · simp [h]
        · simp [h]
        · simp [h]
      obtain ⟨g', h1, h2⟩ := step_of (x := x) (ux_ue1 x.On (csU Tryz.prog x J item V td) K K' s.mu.val) (fun _ _ => by simp only [okOf, q10, q12]; simp) (ux_ue1_es ..) (w := w) (And.intro c trivial)
      exact wgo_at hmv2 h1 hW h2 ⟨J, V, td, _, rfl⟩
  · rw [e] at hmv2
    have q10 : E10 s.mu.val = false := by rw [q10]; simpa using hw
    have q12 : E12 s.mu.val = false := by rw [q12, hK, hS, hL]; rfl
    obtain ⟨g', h1, h2⟩ := step_of (x := x) (ux_uc x.On (csU Tryz.prog x J item V td) K K' s.mu.val) (fun _ _ => by simp only [okOf, q10, q12]; simp) (ux_uc_es ..) (w := w) (And.intro c trivial)
    exact wgo_at hmv2 h1 hW h2 ⟨J, V, td, _, _, rfl⟩
theorem w_us (hD : Dist x B) (hf : Facts n ⟨.us, item, old, aw, svb, it, rest⟩ s) (hW : Wd x n (CanOk x u) u B W0 k s w) : WGo x n u B W0 k sv ⟨.us, item, old, aw, svb, it, rest⟩ s (mkUs Tryz.prog x.On (csU Tryz.prog x J item V td) K K') w := by
  have h0 := hf.us rfl
  have c := hW.cMs
  rw [h0] at c
  obtain ⟨g', h1, h2⟩ := step_of (x := x) (us_s x.On (csU Tryz.prog x J item V td) K K') (fun _ _ => trivial) (us_s_es ..) (w := w) (And.intro c (And.intro ⟨_, c⟩ (And.intro (hW.fOn 2) trivial)))
  exact wgo_set (T' := ⟨.ue, item, old, aw, svb, it, rest⟩) (s' := { s with ms := 1 }) (by simp [mv, h0]) h1 tOn (hW.setMs hD 1) h2 ⟨J, V, td, _, rfl⟩
theorem w_ush (hD : Dist x B) (hf : Facts n ⟨.us, item, old, aw, svb, it, rest⟩ s) (hW : Wd x n (CanOk x u) u B W0 k s w) : WGo x n u B W0 k sv ⟨.us, item, old, aw, svb, it, rest⟩ s (mkUsh Tryz.prog x.On (csU Tryz.prog x J item V td) K K') w := by
  have h0 := hf.us rfl
  have c := hW.cMs
  rw [h0] at c
  obtain ⟨g', h1, h2⟩ := step_of (x := x) (us_h x.On (csU Tryz.prog x J item V td) K K') (fun _ _ => trivial) (us_h_es ..) (w := w) (And.intro c (And.intro ⟨_, c⟩ (And.intro (hW.fOn 2) trivial)))
  exact wgo_set (T' := ⟨.ue, item, old, aw, svb, it, rest⟩) (s' := { s with ms := 1 }) (by simp [mv, h0]) h1 tOn (hW.setMs hD 1) h2 ⟨J, V, td, _, rfl⟩
theorem w_ue (hW : Wd x n (CanOk x u) u B W0 k s w) : WGo x n u B W0 k sv ⟨.ue, item, old, aw, svb, it, rest⟩ s (mkUe Tryz.prog x.On (csU Tryz.prog x J item V td) K) w := by
  obtain ⟨g', h1, h2⟩ := step_of (x := x) (ue_s x J item V td K) (fun _ _ => trivial) (ue_s_es x J item V td K) (w := w) trivial
  exact wgo_at (T' := ⟨.ldP, item, old, aw, svb, it, rest⟩) (by simp [mv]) h1 hW h2 ⟨J, rfl⟩
end
end Go.Proofs.YthjofgmiabcifabGreatDoor.Mc
