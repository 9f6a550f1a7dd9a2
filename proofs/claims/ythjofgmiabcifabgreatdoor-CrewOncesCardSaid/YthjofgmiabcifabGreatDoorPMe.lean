/-
  A worker and the starter take their steps.
  Conditions: as each theorem says.
-/
import Derived.Test.YthjofgmiabcifabGreatDoorPMd
set_option linter.unusedVariables false
set_option linter.unusedSimpArgs false
namespace Go.Proofs.YthjofgmiabcifabGreatDoor.Mc
open Go Go.Conc
open Go.ConcM (OsLater)
open Go.Proofs.YthjofgmiabcifabGreatDoor.Ev Go.Proofs.YthjofgmiabcifabGreatDoor.Co Go.Proofs.YthjofgmiabcifabGreatDoor.Ab
theorem d1_qc (x : Cx) (s : Int) : gquit Tryz.prog CC 94 1 (sQ1 Tryz.prog x s) [.bool false, .bool false, .bool false, .bool false, .bool true, .bool true, .bool true, .bool false, .bool false, .bool false, .bool false, .bool false, .bool false, .bool false, .bool false, .bool false, .bool false, .bool false, .bool false, .bool false, .bool false, .bool false, .bool false, .bool false, .bool false, .bool false, .bool true] = some [.test (G1 (dec s)) false, .test (G1 (dec s)) false, .test (G1 (dec s)) false, .test (false) false, .test (true) true, .test (true) true, .test (true) true, .test (false) false, .test (false) false, .test (false) false, .test (false) false, .test (false) false, .test (false) false, .test (cm .lss (Vof (dec s)) 0) false, .test (Wof (dec s) != 0) false, .test (Wof (dec s) != 0) false, .test (Wof (dec s) != 0) false, .test (false) false, .test (false) false, .test (false) false, .test (false) false, .test (false) false, .test (false) false, .test (cm .gtr (Vof (dec s)) 0) false, .test (cm .gtr (Vof (dec s)) 0) false, .test (cm .gtr (Vof (dec s)) 0) false, .test (Wof (dec s) == 0) true, .mark (.extern 44), .mark .enable] := by kernel_rfl
theorem put_same {R : Nat → Value} {j : Nat} {v : Value} : put R j v j = v := by simp [put]
theorem put_ne {R : Nat → Value} {i j : Nat} {v : Value} (h : i ≠ j) : put R j v i = R i := by simp [put, h]
section
variable {x : Cx} {n B : Nat} {u : Int} {W0 w : World} {k : Parts} {s : Sh} {sv : Value}
variable {item : Nat} {old : MW} {aw svb : Bool} {it : Nat} {rest : List Nat} {J K K' : Nat → Value} {wt : Int} {V : Array Value} {td : List Item}
/-- Where an operation's value lies. -/
def slot (c : Nat) : Nat := 12 + c
theorem RgOk.next {i c : Nat} {R : Nat → Value} {r : List Nat} {v : Value} (h : RgOk x n u k i R (c :: r)) (hr : r ≠ []) (hc : c < 7)
    (hv : (c = 0 → v = .slice (some ⟨x.Oa, 0, none⟩) n n) ∧ (c = 1 → v = .int .i64 i) ∧ (c = 2 → v = k.sl) ∧ (c = 3 → v = .pointer (some k.pa)) ∧ (c = 4 → v = .iface k.t k.v) ∧ (c = 5 → v = .int .u16 u) ∧ (c = 6 → v = .pointer (some ⟨x.Oa, i, none⟩))) :
    RgOk x n u k i (put R (slot c) v) r := by
  have go : ∀ {j : Nat} {z : Value}, (j ∉ c :: r → R (12 + j) = z) → (c = j → v = z) → j ∉ r → put R (slot c) v (12 + j) = z := by
    intro j z h1 h2 hj
    by_cases e : c = j
    · rw [e]; show put R (12 + j) v (12 + j) = z; rw [put_same]; exact h2 e
    · rw [put_ne (by unfold slot; omega)]
      exact h1 (by simp only [List.mem_cons, not_or]; exact ⟨fun e' => e e'.symm, hj⟩)
  have hf := h.fine
  simp only [Co.fine, Bool.and_eq_true] at hf
  refine ⟨hf.2, ?_, go h.r0 hv.1, go h.r1 hv.2.1, go h.r2 hv.2.2.1, go h.r3 hv.2.2.2.1, go h.r4 hv.2.2.2.2.1, go h.r5 hv.2.2.2.2.2.1, go h.r6 hv.2.2.2.2.2.2⟩
  have := h.last
  cases r with
  | nil => exact absurd rfl hr
  | cons a r => rwa [List.getLast?_cons_cons] at this
theorem RgOk.head {i c : Nat} {R : Nat → Value} {r : List Nat} (h : RgOk x n u k i R (c :: r)) : c < 8 ∧ (r = [] ↔ c = 7) ∧ (∀ j, j ∈ Co.ahead c → j ∉ c :: r) := by
  have hf := h.fine
  simp only [Co.fine, Bool.and_eq_true, decide_eq_true_eq, Bool.not_eq_true'] at hf
  obtain ⟨⟨⟨h1, h2⟩, h3⟩, h4⟩ := hf
  refine ⟨h2, ⟨fun e => ?_, fun e => ?_⟩, fun j hj hm => ?_⟩
  · subst e
    have := h.last
    simpa using this
  · subst e
    cases r with
    | nil => rfl
    | cons a r =>
      have hl := h.last
      rw [List.getLast?_cons_cons] at hl
      have := List.mem_of_getLast? hl
      simp [List.contains_iff_mem, this] at h3
  · have := List.all_eq_true.1 h1 j hj
    simp only [Bool.not_eq_true', List.contains_eq_mem, decide_eq_false_iff_not] at this
    exact this hm
theorem w_rg {R : Nat → Value} (hD : Dist x B) (hB : Base x n sv w) (hf : Facts n ⟨.rg, item, old, aw, svb, it, rest⟩ s) (hW : Wd x n (CanOk x u) u B W0 k s w) (hr : RgOk x n u k item R rest) :
    WGo x n u B W0 k sv ⟨.rg, item, old, aw, svb, it, rest⟩ s (mkRg Tryz.prog x J item R rest) w := by
  have hp : s.pts = true := hf.pts rfl
  obtain ⟨p1, p2, p3, p4⟩ := hW.part hp
  have hitem : item < n := hf.wi.item rfl
  cases rest with
  | nil => have := hr.last; cases this
  | cons c r =>
    obtain ⟨hc8, hnil, hah⟩ := hr.head
    by_cases h7 : c = 7
    · subst h7
      have hr0 := hnil.2 rfl
      subst hr0
      have e7 : R = put (put R 17 (.int .u16 u)) 18 (.pointer (some ⟨x.Oa, item, none⟩)) := by
        rw [← put_of (hr.r5 (by simp)), ← put_of (hr.r6 (by simp))]
      obtain ⟨c, c1, c2, c3⟩ := hW.oa
      have hcell : ∃ y, w.cell? ⟨x.Oa, item, none⟩ = some y := ⟨c[item]'(by omega), cell_of c1 (Array.getElem?_eq_getElem (by omega))⟩
      obtain ⟨g', h1, h2⟩ := step_of (x := x) (rg7 x J item R ⟨x.Oa, item, none⟩ u) (fun _ _ => trivial) (rg7_es x J item R ⟨x.Oa, item, none⟩ u) (w := w) (And.intro hcell (And.intro (frz_of c1) trivial))
      rw [← e7] at h1
      refine wgo_set (T' := ⟨.rcv, item, old, aw, svb, it, []⟩) (s' := { s with fill := fun i => if i = item then true else s.fill i }) (by simp [mv]) h1 tOa (hW.setFill hD item) h2 ⟨_, rfl⟩
    · have hrne : r ≠ [] := fun e => h7 (hnil.1 e)
      obtain ⟨y, r, rfl⟩ := List.exists_cons_of_ne_nil hrne
      obtain rfl | rfl | rfl | rfl | rfl | rfl | rfl : c = 0 ∨ c = 1 ∨ c = 2 ∨ c = 3 ∨ c = 4 ∨ c = 5 ∨ c = 6 := by omega
      · obtain ⟨g', h1, h2⟩ := step_of (x := x) (rg0 x J item R (y :: r) n n) (fun _ _ => trivial) (rg0_es x J item R (y :: r) n n) (w := w) (And.intro (cell_of hB.ob rfl) trivial)
        exact wgo_at (T' := ⟨.rg, item, old, aw, svb, it, y :: r⟩) (by simp [mv]) h1 hW h2 ⟨J, _, rfl, hr.next hrne (by decide) (by simp)⟩
      · obtain ⟨g', h1, h2⟩ := step_of (x := x) (rg1 x J item R (y :: r)) (fun _ _ => trivial) (rg1_es x J item R (y :: r)) (w := w) trivial
        exact wgo_at (T' := ⟨.rg, item, old, aw, svb, it, y :: r⟩) (by simp [mv]) h1 hW h2 ⟨J, _, rfl, hr.next hrne (by decide) (by simp)⟩
      · have cP : w.cell? ⟨x.Pa, 0, none⟩ = some k.sl := by have : w.cell? ⟨x.Pa, 0, none⟩ = some (if s.pts then k.sl else .slice none 0 0) := cell_of hW.pa rfl; rwa [if_pos hp] at this
        obtain ⟨g', h1, h2⟩ := step_of (x := x) (rg2 x J item R (y :: r) k.pa k.pl k.pc) (fun _ _ => trivial) (rg2_es x J item R (y :: r) k.pa k.pl k.pc) (w := w) (And.intro cP trivial)
        exact wgo_at (T' := ⟨.rg, item, old, aw, svb, it, y :: r⟩) (by simp [mv]) h1 hW h2 ⟨J, _, rfl, hr.next hrne (by decide) (by simp [Parts.sl])⟩
      · have e3 : R = put R 14 (.slice (some k.pa) k.pl k.pc) := put_of (hr.r2 (hah 2 (by simp [Co.ahead])))
        obtain ⟨g', h1, h2⟩ := step_of (x := x) (rg3 x J item R (y :: r) k.pa k.pl k.pc) (fun _ _ => trivial) (rg3_es x J item R (y :: r) k.pa k.pl k.pc) (w := w) (And.intro (by simpa using p3) trivial)
        rw [← e3] at h1 h2
        refine wgo_at (T' := ⟨.rg, item, old, aw, svb, it, y :: r⟩) (by simp [mv]) h1 hW h2 ⟨J, _, rfl, hr.next hrne (by decide) ?_⟩
        simp [Addr.add]
      · have e4 : R = put R 15 (.pointer (some k.pa)) := put_of (hr.r3 (hah 3 (by simp [Co.ahead])))
        obtain ⟨g', h1, h2⟩ := step_of (x := x) (rg4 x J item R (y :: r) k.pa (.iface k.t k.v)) (fun _ _ => trivial) (rg4_es x J item R (y :: r) k.pa (.iface k.t k.v)) (w := w) (And.intro p2 trivial)
        rw [← e4] at h1 h2
        exact wgo_at (T' := ⟨.rg, item, old, aw, svb, it, y :: r⟩) (by simp [mv]) h1 hW h2 ⟨J, _, rfl, hr.next hrne (by decide) (by simp)⟩
      · have e5 : R = put R 16 (.iface k.t k.v) := put_of (hr.r4 (hah 4 (by simp [Co.ahead])))
        obtain ⟨g', h1, h2⟩ := step_of (x := x) (rg5 x J item R (y :: r) (.iface k.t k.v)) (fun _ _ => trivial) (rg5_es x J item R (y :: r) (.iface k.t k.v)) (w := w) trivial
        obtain ⟨j, hc⟩ := p4 k.v J item R (y :: r)
        obtain ⟨h, h3, h4⟩ := sil_split hc
        rw [← e5] at h1 h4
        exact wgo_at (T' := ⟨.cn, item, old, aw, svb, it, 5 :: y :: r⟩) (by simp [mv]) h1 hW (sil_trans h2 h3) ⟨J, R, h4, hr.next hrne (by decide) (by simp)⟩
      · have e6 : R = put (put R 12 (.slice (some ⟨x.Oa, 0, none⟩) n n)) 13 (.int .i64 item) := by
          rw [← put_of (hr.r0 (hah 0 (by simp [Co.ahead]))), ← put_of (hr.r1 (hah 1 (by simp [Co.ahead])))]
        obtain ⟨g', h1, h2⟩ := step_of (x := x) (rg6 x J item R (y :: r) n n) (fun _ _ => trivial) (rg6_es x J item R (y :: r) n n) (w := w) (And.intro (by simp; omega) trivial)
        rw [← e6] at h1 h2
        refine wgo_at (T' := ⟨.rg, item, old, aw, svb, it, y :: r⟩) (by simp [mv]) h1 hW h2 ⟨J, _, rfl, hr.next hrne (by decide) ?_⟩
        simp [Addr.add]
        exact fun e => e.symm
theorem w_d1 (hD : Dist x B) (hf : Facts n ⟨.d1, item, old, aw, svb, it, rest⟩ s) (hW : Wd x n (CanOk x u) u B W0 k s w) : WGo x n u B W0 k sv ⟨.d1, item, old, aw, svb, it, rest⟩ s (sD1 Tryz.prog x) w := by
  obtain ⟨h1, h17, hw⟩ := hf.d1 rfl
  have c := hW.cWg
  have hdec : dec (wgv s.wv s.ww) = wgv (s.wv - 1) s.ww := decv h17 hw (by omega)
  obtain ⟨g', h2, h3⟩ := step_of (x := x) (d1_s x (wgv s.wv s.ww)) (fun _ _ => trivial) (d1_s_es x (wgv s.wv s.ww)) (w := w) (And.intro c (And.intro ⟨_, c⟩ (And.intro (hW.fWg 0) trivial)))
  have h3 : g' = sQ1 Tryz.prog x (wgv s.wv s.ww) := h3
  have conv : ∀ {g' : Goroutine} {e : Array Event}, GStep.go g' (wOf [.mark (.extern 80), .load .atomic ⟨x.Wg, 0, none⟩ (.int .u64 (wgv s.wv s.ww)), .store .atomic ⟨x.Wg, 0, none⟩ (.int .u64 (dec (wgv s.wv s.ww)))] w) e = .go g' (w.setCell ⟨x.Wg, 0, none⟩ (.int .u64 (wgv (s.wv - 1) s.ww))) e := by
    intro g' e
    show GStep.go g' (w.setCell ⟨x.Wg, 0, none⟩ (.int .u64 (dec (wgv s.wv s.ww)))) e = _
    rw [hdec]
  have hv17 : s.wv - 1 ≤ 17 := by omega
  have qg := g1v hv17 hw
  have qv := vofv hv17 hw
  have qw := wofv hv17 hw
  have hW' := hW.setWg hD (s.wv - 1) s.ww
  by_cases hlast : s.wv = 1 ∧ s.ww = 1
  · have hs : wgv s.wv s.ww = 4294967297 := by rw [hlast.1, hlast.2]; rfl
    rw [hlast.1, hlast.2] at hW'
    have hq := sil_of (x := x) (d1_d x) (fun _ _ => by simp [okOf])
    rw [← hs, ← h3] at hq
    refine wgo_set (T' := ⟨.d2, item, old, aw, svb, it, rest⟩) (s' := { s with wv := 0 }) (by simp [mv, hlast]) (h2.trans conv) tWg ?_ hq rfl
    rw [hlast.1, hlast.2]
    exact hW'
  · have quits : ∃ N, QuitsD Tryz.prog N 1 g' := by
      rw [h3]
      by_cases hv0 : s.wv - 1 = 0
      · have hw0 : s.ww = 0 := by omega
        rw [hv0, hw0] at qg qv qw
        refine ⟨_, gquit_sound ccOk (d1_qc x (wgv s.wv s.ww)) (w := w) ?_⟩
        rw [hdec, hv0, hw0]
        simp only [okOf, qg, qv, qw]
        simp [ltz, gtv]
      · have hgt : cm .gtr (Vof (wgv (s.wv - 1) s.ww)) 0 = true := by rw [qv, gtv]; simp; omega
        have hlt : cm .lss (Vof (wgv (s.wv - 1) s.ww)) 0 = false := by rw [qv, ltz]; simp
        by_cases hw0 : s.ww = 0
        · refine ⟨_, gquit_sound ccOk (d1_qa x (wgv s.wv s.ww)) (w := w) ?_⟩
          rw [hdec]
          rw [hw0] at qg qw hgt hlt ⊢
          simp only [okOf, qg, qw, hgt, hlt]
          simp
        · have hw1 : s.ww = 1 := by omega
          refine ⟨_, gquit_sound ccOk (d1_qb x (wgv s.wv s.ww)) (w := w) ?_⟩
          rw [hdec]
          rw [hw1] at qg qw hgt hlt ⊢
          simp only [okOf, qg, qw, hgt, hlt]
          simp
    refine ⟨⟨.quit, item, old, aw, svb, it, rest⟩, { s with wv := s.wv - 1 }, _, _, by simp [mv, hlast], h2.trans conv, hW', .inl ⟨rfl, quits⟩, .set tWg⟩
/-- ALL A WORKER's OWN STEPS. -/
theorem wstep {T : TD} {g : Goroutine} {sa : Option Addr} {sl sc : Nat} (hD : Dist x B) (hB : Base x n (.slice sa sl sc) w) (hf : Facts n T s)
    (hst : T.ph = .stP → B ≤ k.pa.block ∧ w.cell? k.pa = some (.iface k.t k.v) ∧ 0 < k.pl ∧ CanOk x u k.t) (hW : Wd x n (CanOk x u) u B W0 k s w) (ha : AtW x n u k T g)
    (hr : T.ph ≠ .rcv) (hd : T.ph ≠ .dr2) (hs : ¬ (T.ph = .s1 ∧ s.ms = 0)) : WGo x n u B W0 k (.slice sa sl sc) T s g w := by
  obtain ⟨ph, item, old, aw, svb, it, rest⟩ := T
  cases ph
  case ldN => have ha : g = _ := ha; rw [ha]; exact w_ldN hB hW
  case ldF => have ha : g = _ := ha; rw [ha]; exact w_ldF hB hW
  case rcv => exact absurd rfl hr
  case ld1 => obtain ⟨J, ha⟩ := ha; rw [ha]; exact w_ld1 hW
  case kd => obtain ⟨J, ha⟩ := ha; rw [ha]; exact w_kd hW
  case l0 => obtain ⟨J, ha⟩ := ha; rw [ha]; exact w_l0 hD hf hW
  case r0 => obtain ⟨J, K, rfl⟩ := ha; exact w_r0 hf hW
  case sq => obtain ⟨J, K, wt, rfl⟩ := ha; exact w_sq hf hW
  case c1 => obtain ⟨J, K, wt, rfl⟩ := ha; exact w_c1 hD hf hW
  case r1 => obtain ⟨J, K, wt, rfl⟩ := ha; exact w_r1 hf hW
  case c2 => obtain ⟨J, K, wt, rfl⟩ := ha; exact w_c2 hD hf hW
  case r3 => obtain ⟨J, K, wt, rfl⟩ := ha; exact w_r3 hf hW
  case t1 => obtain ⟨J, K, wt, rfl⟩ := ha; exact w_t1 hW
  case s1 => obtain ⟨J, K, wt, rfl⟩ := ha; exact w_s1 hD hf (fun h => hs ⟨rfl, h⟩) hW
  case t2 => obtain ⟨hsv, J, K, wt, rfl⟩ := ha; exact w_t2 hsv hW
  case r2 => obtain ⟨J, K, wt, rfl⟩ := ha; exact w_r2 hf hW
  case a1 => obtain ⟨J, K, wt, rfl⟩ := ha; exact w_a1 hD hf hW
  case le =>
    rcases ha with ⟨J, ha⟩ | ⟨J, K, wt, sv', aw', it', old', rfl⟩
    · rw [ha]; exact w_leF hW
    · exact w_le hW
  case la =>
    rcases ha with ⟨J, ha⟩ | ⟨J, K, wt, sv', aw', it', old', rfl⟩
    · rw [ha]; exact w_laF hW
    · exact w_la hW
  case ld2 => obtain ⟨J, ha⟩ := ha; rw [ha]; exact w_ld2 hW
  case ldS => obtain ⟨J, ha⟩ := ha; rw [ha]; exact w_ldS hB hW
  case mk => exact absurd ha id
  case stP => obtain ⟨J, _, _, _, ha⟩ := ha; rw [ha]; exact w_stP hD hW (hst rfl)
  case am => obtain ⟨J, _, _, _, ha⟩ := ha; rw [ha]; exact w_am hD hW (hf.am rfl)
  case drS => obtain ⟨J, _, _, _, ha⟩ := ha; rw [ha]; exact w_drS hW
  case stD => obtain ⟨J, _, _, _, ha⟩ := ha; rw [ha]; exact w_stD hD hW
  case uL => obtain ⟨J, V, td, K, rfl⟩ := ha; exact w_uL hW
  case ur => obtain ⟨J, V, td, K, rfl⟩ := ha; exact w_ur hW
  case ud => obtain ⟨J, V, td, K, rfl⟩ := ha; exact w_ud hW
  case u0 => obtain ⟨J, V, td, K, rfl⟩ := ha; exact w_u0 hD hf hW
  case uc => obtain ⟨J, V, td, K, K', rfl⟩ := ha; exact w_uc hD hf hW
  case ux => obtain ⟨J, V, td, K, K', rfl⟩ := ha; exact w_ux hf hW
  case us =>
    rcases ha with ⟨J, V, td, K, K', rfl⟩ | ⟨J, V, td, K, K', rfl⟩
    · exact w_us hD hf hW
    · exact w_ush hD hf hW
  case ue => obtain ⟨J, V, td, K, rfl⟩ := ha; exact w_ue hW
  case ldP => obtain ⟨J, ha⟩ := ha; rw [ha]; exact w_ldP hW (hf.pts rfl)
  case dr2 => exact absurd rfl hd
  case rg => obtain ⟨J, R, rfl, hr⟩ := ha; exact w_rg hD hB hf hW hr
  case cn => obtain ⟨J, R, hg, hr⟩ := ha; exact w_cn hW hg hr
  case wr => have ha : g = _ := ha; rw [ha]; exact w_wr hW
  case wk => have ha : g = _ := ha; rw [ha]; exact w_wk hW
  case d1 => have ha : g = _ := ha; rw [ha]; exact w_d1 hD hf hW
  case d2 => have ha : g = _ := ha; rw [ha]; exact w_d2 hW (hf.d23 (.inl rfl))
  case d3 => have ha : g = _ := ha; rw [ha]; exact w_d3 hD hW (hf.d23 (.inr rfl))
  case d4 => have ha : g = _ := ha; rw [ha]; exact w_d4 hD hW (hf.d4 rfl)
  case quit => exact absurd ha id
theorem s1_b (b : Nat) (cs : List Frame) (wt : Int) (sv aw : Bool) (it old : Int) (J : Nat → Value) : gblock Tryz.prog (mkS1 Tryz.prog b cs wt sv aw it old J) [.val (.int .u32 0)] = some [.mark (.extern 119), .mark .disable, .load .atomic ⟨b, 2, none⟩ (.int .u32 0)] := by kernel_rfl
theorem s1_on (b : Nat) (cs : List Frame) (wt : Int) (sv aw : Bool) (it old : Int) (J : Nat → Value) : on (mkS1 Tryz.prog b cs wt sv aw it old J).frame (mkS1 Tryz.prog b cs wt sv aw it old J).callers = mkS1 Tryz.prog b cs wt sv aw it old J := by kernel_rfl
theorem s1_of (b : Nat) (cs : List Frame) (wt : Int) (sv aw : Bool) (it old : Int) (J : Nat → Value) : (mkS1 Tryz.prog b cs wt sv aw it old J).offers = none := by kernel_rfl
/-- It waits at the semaphore. -/
theorem wblock {T : TD} {g : Goroutine} (hW : Wd x n (CanOk x u) u B W0 k s w) (ha : AtW x n u k T g) (hp : T.ph = .s1) (h0 : s.ms = 0) :
    stepG Tryz.prog false g w = .go { g with status := .blocked } w #[] ∧ g.offers = none := by
  obtain ⟨ph, item, old, aw, svb, it, rest⟩ := T
  cases hp
  obtain ⟨J, K, wt, rfl⟩ := ha
  have c := hW.cMs
  rw [h0] at c
  have h := gblock_sound (main := false) (w := w) (s1_b x.On (cs84 Tryz.prog x J item) wt svb aw it old.val K) (And.intro c trivial)
  rw [s1_on] at h
  exact ⟨h, s1_of ..⟩
/-- The automaton's laws of one worker. -/
theorem _root_.Go.Proofs.YthjofgmiabcifabGreatDoor.Ab.AInv.facts {j kk : Nat} {D : Nat → TD} {C : CD} (h : AInv n j D C s) (hk : kk < j) : Facts n (D kk) s := by
  have a1 := le_sum hk D fU
  have a2 := le_sum hk D fK
  have a3 := le_sum hk D fN
  have a4 := le_sum hk D fV
  have a5 := le_sum hk D f23
  have a6 := le_sum hk D f4
  have a7 := le_sum hk D fE2
  have hl := h.lock
  have hV : Sum j D fV ≤ j := sum_le_n fun T => by unfold fV; cases T.ph <;> simp
  have hj := h.jn
  have hn := h.n16
  have hms : s.ms + Sum j D fU + Sum j D fK ≤ 1 := by
    cases hS : s.mu.S with
    | false => have := (h.free hS).1; split at this <;> omega
    | true => have := (h.starve hS).2.2.1; omega
  refine ⟨h.wk kk hk, fun T' s' hm => h.self hk hm, hn, h.wide, by omega, fun e => ?_, fun e => ?_, fun e => ?_, fun e hS => ?_, fun e => ?_, fun e => ?_, fun e => ?_, fun e => ?_, fun e => ?_⟩
  · simp only [fU, e] at a1; omega
  · simp only [fN, e] at a3
    cases hL : s.mu.L with
    | true => rfl
    | false => rw [hL] at hl; simp at hl; omega
  · have hS := ((h.wk kk hk).a1 e).2.2.2.2.2
    have := (h.starve hS).2.2.1
    simp only [fK, e] at a2
    cases hL : s.mu.L with
    | false => rfl
    | true => rw [hL] at this; simp at this; omega
  · obtain ⟨b1, b2, b3, b4, b5⟩ := h.starve hS
    simp only [fK, e] at a2
    refine ⟨b1, ?_, b5⟩
    cases hL : s.mu.L with
    | false => rfl
    | true => rw [hL] at b3; simp at b3; omega
  · simp only [fE2, e] at a7
    have hd : s.done = false := by
      cases hd : s.done with
      | false => rfl
      | true => have := (h.once1 hd).2.1; omega
    have := (h.once2 hd).2
    rw [this]
    split at hl <;> omega
  · exact (h.once1 ((h.wk kk hk).past e)).2.2.2.1
  · simp only [fV, e] at a4
    have hp : pend C.ph ≤ 1 := by unfold pend; split <;> omega
    have hc := h.count
    refine ⟨by omega, by omega, ?_⟩
    cases hw : waits C.ph with
    | false => have := (h.quiet hw).1; omega
    | true => have := ((h.busy hw).1 (by omega)).1; omega
  · have h1 : 1 ≤ Sum j D f23 := by rcases e with e | e <;> simp only [f23, e] at a5 <;> omega
    cases hw : waits C.ph with
    | false => have := (h.quiet hw).2.2.1; omega
    | true =>
      have hz : Sum j D fV = 0 := by
        rcases Nat.eq_zero_or_pos (Sum j D fV) with hz | hz
        · exact hz
        · have := ((h.busy hw).1 hz).2.2.1; omega
      have hb := (h.busy hw).2 hz
      have hc := h.count
      have hp : pend C.ph = 0 := by cases hp : C.ph <;> simp [hp, waits, pend] at hw ⊢
      omega
  · have h1 : 1 ≤ Sum j D f4 := by simp only [f4, e] at a6; omega
    cases hw : waits C.ph with
    | false => have := (h.quiet hw).2.1; omega
    | true =>
      have hz : Sum j D fV = 0 := by
        rcases Nat.eq_zero_or_pos (Sum j D fV) with hz | hz
        · exact hz
        · have := ((h.busy hw).1 hz).2.2.2; omega
      have hb := (h.busy hw).2 hz
      omega
end
end Go.Proofs.YthjofgmiabcifabGreatDoor.Mc
namespace Go.Proofs.YthjofgmiabcifabGreatDoor.Mc
open Go Go.Conc
open Go.ConcM (OsLater)
open Go.Proofs.YthjofgmiabcifabGreatDoor.Ev Go.Proofs.YthjofgmiabcifabGreatDoor.Co Go.Proofs.YthjofgmiabcifabGreatDoor.Ab
section
variable (x : Cx) (n : Nat) (cs : List Frame)
/-- Where the starter stands: j are started, so many items are sent. -/
def AtC (C : CD) (j sent : Nat) (g : Goroutine) : Prop :=
  match C.ph with
  | .ga => ∃ J Q, g = sGa Tryz.prog x n j (fr4 Tryz.prog x n Q :: cs) J
  | .gb => ∃ J Q, g = sGb Tryz.prog x n j (fr4 Tryz.prog x n Q :: cs) J
  | .gr => ∃ J Q, g = sGr Tryz.prog x n j (fr4 Tryz.prog x n Q :: cs) J
  | .ge => ∃ J Q V td, g = mkGe Tryz.prog x n j (fr4 Tryz.prog x n Q :: cs) J V td
  | .gg => ∃ J Q, g = mkGg Tryz.prog x n j (fr4 Tryz.prog x n Q :: cs) J
  | .gl => ∃ J Q, g = mkGl Tryz.prog x n j (fr4 Tryz.prog x n Q :: cs) J
  | .sd => ∃ R K Q, g = mkSe Tryz.prog x n sent (fr4 Tryz.prog x n Q :: cs) R K
  | .cl => ∃ R K Q, g = mkCl Tryz.prog x n (fr4 Tryz.prog x n Q :: cs) R K
  | .kw => ∃ K Q, g = sKw Tryz.prog x n (fr4 Tryz.prog x n Q :: cs) K
  | .w1 => ∃ K R Q, g = sW1 Tryz.prog x n (fr4 Tryz.prog x n Q :: cs) K R
  | .w2 => ∃ K R Q, g = sW2 Tryz.prog x n (fr4 Tryz.prog x n Q :: cs) K R (wgv C.old 0)
  | .ww => ∃ K R Q v, v ≤ 17 ∧ g = sWw Tryz.prog x n (fr4 Tryz.prog x n Q :: cs) K R (wgv v 0)
  | .w3 => ∃ K R Q, ∃ v : Int, g = sW3 Tryz.prog x n (fr4 Tryz.prog x n Q :: cs) K R v
  | .w4 => ∃ K R Q, ∃ v : Int, g = sW4 Tryz.prog x n (fr4 Tryz.prog x n Q :: cs) K R v
  | .ke => (∃ K R Q, g = sKe1 Tryz.prog x n (fr4 Tryz.prog x n Q :: cs) K R) ∨ ∃ K R Q, ∃ v : Int, g = sKe2 Tryz.prog x n (fr4 Tryz.prog x n Q :: cs) K R v
  | .aq => (∃ K R Q, g = sAq1 Tryz.prog x n (fr4 Tryz.prog x n Q :: cs) K R) ∨ ∃ K R Q, ∃ v : Int, g = sAq2 Tryz.prog x n (fr4 Tryz.prog x n Q :: cs) K R v
  | .fin => ∃ K, g = mkFin Tryz.prog x n cs K
/-- What the starter's step lists. -/
def esC (C : CD) (s : Sh) : Array Event :=
  match C.ph with
  | .ga | .kw => #[mkE .disable]
  | .gb => #[rdA x.Wg 0, wrA x.Wg 0]
  | .gr => #[mkE (.read ⟨x.Wg, 1, none⟩)]
  | .ge | .ke => #[mkE .enable]
  | .gl => #[⟨.cell ⟨x.Nb, 0, none⟩, false, false⟩]
  | .cl => #[⟨.obj x.Ch, false, true⟩, ⟨.obj x.Ch, true, true⟩]
  | .w1 | .w4 => #[rdA x.Wg 0]
  | .w2 => if s.wv = C.old then #[rdA x.Wg 0, wrA x.Wg 0] else #[rdA x.Wg 0]
  | .ww => #[mkE (.write ⟨x.Wg, 1, none⟩)]
  | .w3 => #[mkE .disable, rdA x.Wg 1, wrA x.Wg 1, mkE .enable]
  | .aq => #[mkE (.acquire ⟨x.Wg, 0, none⟩)]
  | _ => #[]
end
/-- The starter's step. -/
def CGo (x : Cx) (n : Nat) (cs : List Frame) (u : Int) (B : Nat) (W0 : World) (k : Parts) (j : Nat) (C : CD) (s : Sh) (g : Goroutine) (w : World) : Prop :=
  ∃ C' s' g' w', (C', s') ∈ mvC C s ∧ stepG Tryz.prog true g w = .go g' w' (esC x C s) ∧ Wd x n (CanOk x u) u B W0 k s' w' ∧ (∃ m h, Sil Tryz.prog true (Live x) m g' h ∧ AtC x n cs C' j s'.sent h) ∧ Moves x w w'
section
variable {x : Cx} {n B : Nat} {cs : List Frame} {u : Int} {W0 w : World} {k : Parts} {s : Sh} {C : CD} {j : Nat} {g : Goroutine}
theorem stepC_of {l l' : List Fx} {h h' : Goroutine} {m : Nat} {ans ans' : List Ans} {es : Array Event} (hs : gseg Tryz.prog CC true m h ans ans' = some (l, h', l')) (hl : ∀ w, Live x w → okOf l' w)
    (he : seen Tryz.prog h.frame.fn (esOf l).toArray = es) (hok : okOf l w) : ∃ g', stepG Tryz.prog true h w = .go g' (wOf l w) es ∧ Sil Tryz.prog true (Live x) m g' h' := by
  obtain ⟨g', h1, h2⟩ := gseg_sound ccOk hs hl
  exact ⟨g', by rw [h1 w hok, he], h2⟩
theorem silC_of {l' : List Fx} {h h' : Goroutine} {m : Nat} {ans' : List Ans} (hs : grun Tryz.prog CC true m h ans' = some (h', l')) (hl : ∀ w, Live x w → okOf l' w) : Sil Tryz.prog true (Live x) m h h' :=
  grun_sound ccOk hs hl
theorem cgo_at {C' : CD} {g' h' : Goroutine} {m : Nat} (hm : (C', s) ∈ mvC C s) (hs : stepG Tryz.prog true g w = .go g' w (esC x C s)) (hW : Wd x n (CanOk x u) u B W0 k s w)
    (hq : Sil Tryz.prog true (Live x) m g' h') (ha : AtC x n cs C' j s.sent h') : CGo x n cs u B W0 k j C s g w := ⟨C', s, g', w, hm, hs, hW, ⟨m, h', hq, ha⟩, .refl x w⟩
theorem cgo_set {C' : CD} {s' : Sh} {g' h' : Goroutine} {m b o : Nat} {v : Value} (hm : (C', s') ∈ mvC C s) (hs : stepG Tryz.prog true g w = .go g' (w.setCell ⟨b, o, none⟩ v) (esC x C s))
    (hb : Turned x b) (hW : Wd x n (CanOk x u) u B W0 k s' (w.setCell ⟨b, o, none⟩ v)) (hq : Sil Tryz.prog true (Live x) m g' h') (ha : AtC x n cs C' j s'.sent h') : CGo x n cs u B W0 k j C s g w :=
  ⟨C', s', g', _, hm, hs, hW, ⟨m, h', hq, ha⟩, .set hb⟩
/-- What the automaton's laws say of the starter. -/
structure CFacts (n j : Nat) (C : CD) (s : Sh) : Prop where
  n1 : 1 ≤ n
  n16 : n ≤ 16
  jn : j ≤ n
  more : spawning C.ph = true → j < n
  wv : s.wv ≤ 17
  wv16 : C.ph = .gb → s.wv ≤ 16
  ww : waits C.ph = false → s.ww = 0
  w2 : C.ph = .w2 → 1 ≤ C.old ∧ C.old ≤ n
  wm : s.wm ≤ 1
  w3 : C.ph = .w3 → s.wm = 1 → s.wv = 0
  w4 : C.ph = .w4 → s.wv = 0 ∧ s.ww = 0
  gl : C.ph = .gl → s.sent = 0
  cl : C.ph = .cl → s.shut = false
  sd : C.ph = .sd → s.sent < n
  sent : s.sent ≤ n
theorem c_ga {J Q : Nat → Value} {old : Nat} (hW : Wd x n (CanOk x u) u B W0 k s w) : CGo x n cs u B W0 k j ⟨.ga, old⟩ s (sGa Tryz.prog x n j (fr4 Tryz.prog x n Q :: cs) J) w := by
  obtain ⟨g', h1, h2⟩ := stepC_of (x := x) (ga_s x n j (fr4 Tryz.prog x n Q :: cs) J) (fun _ _ => And.intro rfl trivial) (ga_s_es ..) (w := w) trivial
  exact cgo_at (C' := ⟨.gb, old⟩) (by simp [mvC]) h1 hW h2 ⟨J, Q, rfl⟩
theorem c_gb {J Q : Nat → Value} {old : Nat} (hD : Dist x B) (hf : CFacts n j ⟨.gb, old⟩ s) (hW : Wd x n (CanOk x u) u B W0 k s w) : CGo x n cs u B W0 k j ⟨.gb, old⟩ s (sGb Tryz.prog x n j (fr4 Tryz.prog x n Q :: cs) J) w := by
  have c := hW.cWg
  have hww := hf.ww rfl
  have h17 : s.wv + 1 ≤ 17 ∨ s.wv = 17 := by have := hf.wv; omega
  by_cases h0 : s.wv = 0
  · have hW' := hW.setWg hD 1 0
    rw [h0, hww] at c
    obtain ⟨g', h1, h2⟩ := stepC_of (x := x) (gb_0 x n j (fr4 Tryz.prog x n Q :: cs) J) (fun _ hl => by simp only [okOf, hl.2]; simp) (gb_0_es ..) (w := w) (And.intro c (And.intro ⟨_, c⟩ (And.intro (hW.fWg 0) trivial)))
    refine cgo_set (C' := ⟨.gr, old⟩) (s' := { s with wv := 1 }) (by simp [mvC, h0]) h1 tWg ?_ h2 ⟨J, Q, rfl⟩
    have e : ({ s with wv := 1 } : Sh) = { s with wv := 1, ww := 0 } := by rw [← hww]
    rw [e]
    exact hW'
  · have hW' := hW.setWg hD (s.wv + 1) 0
    rw [hww] at c
    have hv16 : s.wv ≤ 16 := by have := hf.wv16 rfl; omega
    have hinc : inc (wgv s.wv 0) = wgv (s.wv + 1) 0 := incv (by omega) (by omega)
    have qg := g1v (v := s.wv + 1) (w := 0) (by omega) (by omega)
    have qv := vofv (v := s.wv + 1) (w := 0) (by omega) (by omega)
    have qw := wofv (v := s.wv + 1) (w := 0) (by omega) (by omega)
    have q1 : (Vof (wgv (s.wv + 1) 0) == 1) = false := by rw [qv]; simp <;> omega
    have q2 : cm .lss (Vof (wgv (s.wv + 1) 0)) 0 = false := by rw [qv, ltz]; simp <;> omega
    have q3 : cm .gtr (Vof (wgv (s.wv + 1) 0)) 0 = true := by rw [qv, gtv]; simp <;> omega
    obtain ⟨g', h1, h2⟩ := stepC_of (x := x) (gb_s x n j (fr4 Tryz.prog x n Q :: cs) J (wgv s.wv 0)) (fun _ hl => by rw [hinc]; simp only [okOf, qg, qw, q1, q2, q3]; simp) (gb_s_es ..) (w := w) (And.intro c (And.intro ⟨_, c⟩ (And.intro (hW.fWg 0) trivial)))
    refine cgo_set (C' := ⟨.ge, old⟩) (s' := { s with wv := s.wv + 1 }) (b := x.Wg) (o := 0) (v := .int .u64 (wgv (s.wv + 1) 0)) (by simp [mvC, h0]) (h1.trans ?_) tWg ?_ h2 ⟨_, Q, _, _, rfl⟩
    · show GStep.go g' (w.setCell ⟨x.Wg, 0, none⟩ (.int .u64 (inc (wgv s.wv 0)))) _ = _
      rw [hinc]
      rfl
    · have e : ({ s with wv := s.wv + 1 } : Sh) = { s with wv := s.wv + 1, ww := 0 } := by rw [← hww]
      rw [e]
      exact hW'
theorem c_gr {J Q : Nat → Value} {old : Nat} (hW : Wd x n (CanOk x u) u B W0 k s w) : CGo x n cs u B W0 k j ⟨.gr, old⟩ s (sGr Tryz.prog x n j (fr4 Tryz.prog x n Q :: cs) J) w := by
  obtain ⟨g', h1, h2⟩ := stepC_of (x := x) (gr_s x n j (fr4 Tryz.prog x n Q :: cs) J) (fun _ _ => by simp [okOf]) (gr_s_es ..) (w := w) trivial
  exact cgo_at (C' := ⟨.ge, old⟩) (by simp [mvC]) h1 hW h2 ⟨_, Q, _, _, rfl⟩
theorem c_ge {J Q : Nat → Value} {V : Array Value} {td : List Item} {old : Nat} (hW : Wd x n (CanOk x u) u B W0 k s w) : CGo x n cs u B W0 k j ⟨.ge, old⟩ s (mkGe Tryz.prog x n j (fr4 Tryz.prog x n Q :: cs) J V td) w := by
  obtain ⟨g', h1, h2⟩ := stepC_of (x := x) (ge_s x n j (fr4 Tryz.prog x n Q :: cs) J V td) (fun _ _ => trivial) (ge_s_es ..) (w := w) trivial
  exact cgo_at (C' := ⟨.gg, old⟩) (by simp [mvC]) h1 hW h2 ⟨_, Q, rfl⟩
theorem c_gl {J Q : Nat → Value} {old : Nat} (hB : ∃ sv, Base x n sv w) (hf : CFacts n j ⟨.gl, old⟩ s) (hW : Wd x n (CanOk x u) u B W0 k s w) : CGo x n cs u B W0 k j ⟨.gl, old⟩ s (mkGl Tryz.prog x n j (fr4 Tryz.prog x n Q :: cs) J) w := by
  obtain ⟨sv, hB⟩ := hB
  obtain ⟨g', h1, h2⟩ := stepC_of (x := x) (gl_s x n j (fr4 Tryz.prog x n Q :: cs) J) (fun _ _ => And.intro (by rw [ltz]; have := hf.n1; simp; omega) trivial) (gl_s_es ..) (w := w) (And.intro (cell_of hB.nb rfl) trivial)
  have h0 := hf.gl rfl
  refine cgo_at (C' := ⟨.sd, old⟩) (by simp [mvC]) h1 hW h2 ?_
  rw [h0]
  exact ⟨_, _, Q, rfl⟩
theorem c_cl {R K Q : Nat → Value} {old : Nat} (hD : Dist x B) (hf : CFacts n j ⟨.cl, old⟩ s) (hW : Wd x n (CanOk x u) u B W0 k s w) : CGo x n cs u B W0 k j ⟨.cl, old⟩ s (mkCl Tryz.prog x n (fr4 Tryz.prog x n Q :: cs) R K) w := by
  have hs := hf.cl rfl
  have hc := hW.ch
  rw [hs] at hc
  obtain ⟨g', h1, h2⟩ := stepC_of (x := x) (cl_s x n (fr4 Tryz.prog x n Q :: cs) R K s.sent s.sent) (fun _ _ => And.intro rfl trivial) (cl_s_es ..) (w := w) (And.intro hc (And.intro trivial (And.intro (by rw [hc]; trivial) trivial)))
  refine ⟨⟨.kw, old⟩, { s with shut := true }, g', _, by simp [mvC], h1, hW.setCh hD true s.sent rfl rfl rfl rfl, ⟨_, _, h2, K, Q, rfl⟩, ⟨by simp [wOf], fun b hb => ?_⟩⟩
  show (w.heap.setIfInBounds x.Ch _)[b]? = _
  rw [Array.getElem?_setIfInBounds_ne]
  rintro rfl
  exact hb (.inr (.inr (.inr (.inr (.inl rfl)))))
theorem c_kw {K Q : Nat → Value} {old : Nat} (hW : Wd x n (CanOk x u) u B W0 k s w) : CGo x n cs u B W0 k j ⟨.kw, old⟩ s (sKw Tryz.prog x n (fr4 Tryz.prog x n Q :: cs) K) w := by
  obtain ⟨g', h1, h2⟩ := stepC_of (x := x) (kw_s x n (fr4 Tryz.prog x n Q :: cs) K) (fun _ _ => trivial) (kw_s_es ..) (w := w) trivial
  obtain ⟨K1, K2, h2⟩ : ∃ K1 K2, Sil Tryz.prog true (Live x) 5 g' (mkWl Tryz.prog x n (fr4 Tryz.prog x n Q :: cs) K1 K2) := ⟨_, _, h2⟩
  exact cgo_at (C' := ⟨.w1, old⟩) (by simp [mvC]) h1 hW (sil_trans h2 (silC_of (wl_q x n (fr4 Tryz.prog x n Q :: cs) K1 K2) fun _ _ => trivial)) ⟨_, _, Q, rfl⟩
theorem c_w1 {K R Q : Nat → Value} {old : Nat} (hf : CFacts n j ⟨.w1, old⟩ s) (hW : Wd x n (CanOk x u) u B W0 k s w) : CGo x n cs u B W0 k j ⟨.w1, old⟩ s (sW1 Tryz.prog x n (fr4 Tryz.prog x n Q :: cs) K R) w := by
  have c := hW.cWg
  have hww := hf.ww rfl
  rw [hww] at c
  by_cases h0 : s.wv = 0
  · rw [h0] at c
    obtain ⟨g', h1, h2⟩ := stepC_of (x := x) (w1_0 x n (fr4 Tryz.prog x n Q :: cs) K R) (fun _ _ => And.intro rfl (And.intro rfl trivial)) (w1_0_es ..) (w := w) (And.intro c trivial)
    exact cgo_at (C' := ⟨.ke, old⟩) (by simp [mvC, h0]) h1 hW h2 (.inl ⟨K, R, Q, rfl⟩)
  · have qv := vofv (v := s.wv) (w := 0) hf.wv (by omega)
    obtain ⟨g', h1, h2⟩ := stepC_of (x := x) (w1_s x n (fr4 Tryz.prog x n Q :: cs) K R (wgv s.wv 0)) (fun _ _ => And.intro (by rw [qv]; simp; omega) trivial) (w1_s_es ..) (w := w) (And.intro c trivial)
    exact cgo_at (C' := ⟨.w2, s.wv⟩) (by simp [mvC, h0]) h1 hW h2 ⟨K, R, Q, rfl⟩
theorem c_w2 {K R Q : Nat → Value} {old : Nat} (hD : Dist x B) (hf : CFacts n j ⟨.w2, old⟩ s) (hW : Wd x n (CanOk x u) u B W0 k s w) : CGo x n cs u B W0 k j ⟨.w2, old⟩ s (sW2 Tryz.prog x n (fr4 Tryz.prog x n Q :: cs) K R (wgv old 0)) w := by
  have c := hW.cWg
  have hww := hf.ww rfl
  rw [hww] at c
  have ho : old ≤ 17 := by have := (hf.w2 rfl).2; have := hf.n16; simp only at *; omega
  by_cases h0 : s.wv = old
  · have he : esC x ⟨.w2, old⟩ s = #[rdA x.Wg 0, wrA x.Wg 0] := by simp [esC, h0]
    rw [h0] at c
    have hW' := hW.setWg hD old 1
    have qw := wofv (v := old) (w := 0) ho (by omega)
    obtain ⟨g', h1, h2⟩ := stepC_of (x := x) (w2_hit x n (fr4 Tryz.prog x n Q :: cs) K R (wgv old 0)) (fun _ hl => by simp only [okOf, qw, hl.2]; simp) ((w2_hit_es ..).trans he.symm) (w := w) (And.intro c (And.intro (hW.fWg 0) trivial))
    refine cgo_set (C' := ⟨.ww, old⟩) (s' := { s with ww := 1 }) (b := x.Wg) (o := 0) (v := .int .u64 (wgv old 1)) (by simp [mvC, h0]) (h1.trans ?_) tWg ?_ h2 ⟨K, R, Q, old, ho, rfl⟩
    · show GStep.go g' (w.setCell ⟨x.Wg, 0, none⟩ (.int .u64 (ar .add .u64 (wgv old 0) 1))) _ = _
      rw [wgv_one ho]
    · have e : ({ s with ww := 1 } : Sh) = { s with wv := old, ww := 1 } := by rw [← h0]
      rw [e]
      exact hW'
  · have he : esC x ⟨.w2, old⟩ s = #[rdA x.Wg 0] := by simp [esC, h0]
    obtain ⟨g', h1, h2⟩ := stepC_of (x := x) (w2_miss x n (fr4 Tryz.prog x n Q :: cs) K R (wgv old 0) (wgv s.wv 0)) (fun _ _ => And.intro rfl trivial) ((w2_miss_es ..).trans he.symm) (w := w) (And.intro c (And.intro (hW.fWg 0) (And.intro (fun e => h0 ((wgv_inj (by omega) (by omega)).1 e).1) trivial)))
    obtain ⟨K2, h2⟩ : ∃ K2, Sil Tryz.prog true (Live x) 11 g' (mkWl Tryz.prog x n (fr4 Tryz.prog x n Q :: cs) K K2) := ⟨_, h2⟩
    exact cgo_at (C' := ⟨.w1, old⟩) (by simp [mvC, h0]) h1 hW (sil_trans h2 (silC_of (wl_q x n (fr4 Tryz.prog x n Q :: cs) K K2) fun _ _ => trivial)) ⟨K, _, Q, rfl⟩
theorem c_ww {K R Q : Nat → Value} {old v : Nat} (hv : v ≤ 17) (hW : Wd x n (CanOk x u) u B W0 k s w) : CGo x n cs u B W0 k j ⟨.ww, old⟩ s (sWw Tryz.prog x n (fr4 Tryz.prog x n Q :: cs) K R (wgv v 0)) w := by
  have qg := g1v (v := v) (w := 0) hv (by omega)
  obtain ⟨g', h1, h2⟩ := stepC_of (x := x) (ww_s x n (fr4 Tryz.prog x n Q :: cs) K R (wgv v 0)) (fun _ _ => by simp only [okOf, qg]; simp) (ww_s_es ..) (w := w) trivial
  exact cgo_at (C' := ⟨.w3, old⟩) (by simp [mvC]) h1 hW h2 ⟨K, R, Q, _, rfl⟩
theorem c_w3 {K R Q : Nat → Value} {old : Nat} {v : Int} (hD : Dist x B) (hf : CFacts n j ⟨.w3, old⟩ s) (hm : s.wm ≠ 0) (hW : Wd x n (CanOk x u) u B W0 k s w) : CGo x n cs u B W0 k j ⟨.w3, old⟩ s (sW3 Tryz.prog x n (fr4 Tryz.prog x n Q :: cs) K R v) w := by
  have h1 : s.wm = 1 := by have := hf.wm; omega
  have c := hW.cWm
  rw [h1] at c
  obtain ⟨g', h2, h3⟩ := stepC_of (x := x) (w3_s x n (fr4 Tryz.prog x n Q :: cs) K R v) (fun _ _ => trivial) (w3_s_es ..) (w := w) (And.intro c (And.intro ⟨_, c⟩ (And.intro (hW.fWg 1) trivial)))
  exact cgo_set (C' := ⟨.w4, old⟩) (s' := { s with wm := 0 }) (by simp [mvC, h1]) h2 tWg (hW.setWm hD 0) h3 ⟨K, R, Q, v, rfl⟩
theorem c_w4 {K R Q : Nat → Value} {old : Nat} {v : Int} (hf : CFacts n j ⟨.w4, old⟩ s) (hW : Wd x n (CanOk x u) u B W0 k s w) : CGo x n cs u B W0 k j ⟨.w4, old⟩ s (sW4 Tryz.prog x n (fr4 Tryz.prog x n Q :: cs) K R v) w := by
  have c := hW.cWg
  obtain ⟨a, b⟩ := hf.w4 rfl
  rw [a, b] at c
  obtain ⟨g', h2, h3⟩ := stepC_of (x := x) (w4_s x n (fr4 Tryz.prog x n Q :: cs) K R v) (fun _ _ => And.intro rfl trivial) (w4_s_es ..) (w := w) (And.intro c trivial)
  exact cgo_at (C' := ⟨.ke, old⟩) (by simp [mvC]) h2 hW h3 (.inr ⟨K, R, Q, v, rfl⟩)
theorem c_ke1 {K R Q : Nat → Value} {old : Nat} (hW : Wd x n (CanOk x u) u B W0 k s w) : CGo x n cs u B W0 k j ⟨.ke, old⟩ s (sKe1 Tryz.prog x n (fr4 Tryz.prog x n Q :: cs) K R) w := by
  obtain ⟨g', h2, h3⟩ := stepC_of (x := x) (ke1_s x n (fr4 Tryz.prog x n Q :: cs) K R) (fun _ hl => And.intro hl.2 (And.intro hl.2 trivial)) (ke1_s_es ..) (w := w) trivial
  exact cgo_at (C' := ⟨.aq, old⟩) (by simp [mvC]) h2 hW h3 (.inl ⟨K, R, Q, rfl⟩)
theorem c_ke2 {K R Q : Nat → Value} {old : Nat} {v : Int} (hW : Wd x n (CanOk x u) u B W0 k s w) : CGo x n cs u B W0 k j ⟨.ke, old⟩ s (sKe2 Tryz.prog x n (fr4 Tryz.prog x n Q :: cs) K R v) w := by
  obtain ⟨g', h2, h3⟩ := stepC_of (x := x) (ke2_s x n (fr4 Tryz.prog x n Q :: cs) K R v) (fun _ hl => And.intro hl.2 (And.intro hl.2 trivial)) (ke2_s_es ..) (w := w) trivial
  exact cgo_at (C' := ⟨.aq, old⟩) (by simp [mvC]) h2 hW h3 (.inr ⟨K, R, Q, v, rfl⟩)
theorem c_aq1 {K R Q : Nat → Value} {old : Nat} (hW : Wd x n (CanOk x u) u B W0 k s w) : CGo x n cs u B W0 k j ⟨.aq, old⟩ s (sAq1 Tryz.prog x n (fr4 Tryz.prog x n Q :: cs) K R) w := by
  obtain ⟨g', h2, h3⟩ := stepC_of (x := x) (aq1_s x n cs K R Q) (fun _ _ => by simp [okOf]) (aq1_s_es ..) (w := w) trivial
  exact cgo_at (C' := ⟨.fin, old⟩) (by simp [mvC]) h2 hW h3 ⟨_, rfl⟩
theorem c_aq2 {K R Q : Nat → Value} {old : Nat} {v : Int} (hW : Wd x n (CanOk x u) u B W0 k s w) : CGo x n cs u B W0 k j ⟨.aq, old⟩ s (sAq2 Tryz.prog x n (fr4 Tryz.prog x n Q :: cs) K R v) w := by
  obtain ⟨g', h2, h3⟩ := stepC_of (x := x) (aq2_s x n cs K R Q v) (fun _ _ => by simp [okOf]) (aq2_s_es ..) (w := w) trivial
  exact cgo_at (C' := ⟨.fin, old⟩) (by simp [mvC]) h2 hW h3 ⟨_, rfl⟩
/-- ALL THE STARTER's OWN STEPS. -/
theorem cstep (hD : Dist x B) (hB : ∃ sv, Base x n sv w) (hf : CFacts n j C s) (hW : Wd x n (CanOk x u) u B W0 k s w) (ha : AtC x n cs C j s.sent g)
    (h1 : C.ph ≠ .gg) (h2 : C.ph ≠ .sd) (h3 : ¬ (C.ph = .w3 ∧ s.wm = 0)) (h4 : C.ph ≠ .fin) : CGo x n cs u B W0 k j C s g w := by
  obtain ⟨ph, old⟩ := C
  cases ph
  case ga => obtain ⟨J, Q, ha⟩ := ha; rw [ha]; exact c_ga hW
  case gb => obtain ⟨J, Q, ha⟩ := ha; rw [ha]; exact c_gb hD hf hW
  case gr => obtain ⟨J, Q, ha⟩ := ha; rw [ha]; exact c_gr hW
  case ge => obtain ⟨J, Q, V, td, ha⟩ := ha; rw [ha]; exact c_ge hW
  case gg => exact absurd rfl h1
  case gl => obtain ⟨J, Q, ha⟩ := ha; rw [ha]; exact c_gl hB hf hW
  case sd => exact absurd rfl h2
  case cl => obtain ⟨R, K, Q, ha⟩ := ha; rw [ha]; exact c_cl hD hf hW
  case kw => obtain ⟨K, Q, ha⟩ := ha; rw [ha]; exact c_kw hW
  case w1 => obtain ⟨K, R, Q, ha⟩ := ha; rw [ha]; exact c_w1 hf hW
  case w2 => obtain ⟨K, R, Q, ha⟩ := ha; rw [ha]; exact c_w2 hD hf hW
  case ww => obtain ⟨K, R, Q, v, hv, ha⟩ := ha; rw [ha]; exact c_ww hv hW
  case w3 => obtain ⟨K, R, Q, v, ha⟩ := ha; rw [ha]; exact c_w3 hD hf (fun e => h3 ⟨rfl, e⟩) hW
  case w4 => obtain ⟨K, R, Q, v, ha⟩ := ha; rw [ha]; exact c_w4 hf hW
  case ke =>
    rcases ha with ⟨K, R, Q, ha⟩ | ⟨K, R, Q, v, ha⟩
    · rw [ha]; exact c_ke1 hW
    · rw [ha]; exact c_ke2 hW
  case aq =>
    rcases ha with ⟨K, R, Q, ha⟩ | ⟨K, R, Q, v, ha⟩
    · rw [ha]; exact c_aq1 hW
    · rw [ha]; exact c_aq2 hW
  case fin => exact absurd rfl h4
theorem w3_on (x : Cx) (n : Int) (cs : List Frame) (K R : Nat → Value) (s : Int) : on (sW3 Tryz.prog x n cs K R s).frame (sW3 Tryz.prog x n cs K R s).callers = sW3 Tryz.prog x n cs K R s := by kernel_rfl
theorem w3_of (x : Cx) (n : Int) (cs : List Frame) (K R : Nat → Value) (s : Int) : (sW3 Tryz.prog x n cs K R s).offers = none := by kernel_rfl
/-- The starter waits at the group's semaphore. -/
theorem cblock (hW : Wd x n (CanOk x u) u B W0 k s w) (ha : AtC x n cs C j s.sent g) (hp : C.ph = .w3) (h0 : s.wm = 0) : stepG Tryz.prog true g w = .go { g with status := .blocked } w #[] ∧ g.offers = none := by
  obtain ⟨ph, old⟩ := C
  cases hp
  obtain ⟨K, R, Q, v, ha⟩ := ha
  have c := hW.cWm
  rw [h0] at c
  have h := gblock_sound (main := true) (w := w) (w3_b x n (fr4 Tryz.prog x n Q :: cs) K R v) (And.intro c trivial)
  rw [w3_on] at h
  rw [ha]
  exact ⟨h, w3_of ..⟩
/-- A go statement. -/
theorem cspawn (hf : CFacts n j C s) (ha : AtC x n cs C j s.sent g) (hp : C.ph = .gg) (w : World) :
    ∃ g', stepG Tryz.prog true g w = .spawn g' (sBorn Tryz.prog x) w #[] ∧ (∃ m h, Sil Tryz.prog true (Live x) m g' h ∧ AtC x n cs (spawned n j) (j + 1) s.sent h) ∧ ∃ m h, Sil Tryz.prog false (Live x) m (sBorn Tryz.prog x) h ∧ h = sLdN Tryz.prog x := by
  obtain ⟨ph, old⟩ := C
  cases hp
  obtain ⟨J, Q, ha⟩ := ha
  have hj := hf.more rfl
  have h16 := hf.n16
  have h1 := gspawn_sound (main := true) (w := w) (gg_sp x n j (fr4 Tryz.prog x n Q :: cs) J)
  refine ⟨sGn Tryz.prog x n j (fr4 Tryz.prog x n Q :: cs) J, by rw [ha]; exact h1, ?_, 6, _, sil_of (born_q x) (fun _ _ => trivial), rfl⟩
  have h2 := silC_of (x := x) (gn_q x n j (fr4 Tryz.prog x n Q :: cs) J) (fun _ _ => trivial)
  rw [itv (by omega : j ≤ 17)] at h2
  obtain ⟨J', h2⟩ : ∃ J', Sil Tryz.prog true (Live x) 8 (sGn Tryz.prog x n j (fr4 Tryz.prog x n Q :: cs) J) (mkLp Tryz.prog x n (j + 1 : Nat) (fr4 Tryz.prog x n Q :: cs) J') := ⟨_, h2⟩
  unfold spawned
  by_cases hlt : j + 1 < n
  · have h3 := silC_of (x := x) (lp_ga x n (j + 1 : Nat) (fr4 Tryz.prog x n Q :: cs) J') (fun _ _ => by simp only [okOf, ltv]; simp [hlt])
    exact ⟨_, _, sil_trans h2 h3, by rw [if_pos hlt]; exact ⟨J', Q, rfl⟩⟩
  · have h3 := silC_of (x := x) (lp_gl x n (j + 1 : Nat) (fr4 Tryz.prog x n Q :: cs) J') (fun _ _ => by simp only [okOf, ltv]; simp [hlt])
    exact ⟨_, _, sil_trans h2 h3, by rw [if_neg hlt]; exact ⟨_, Q, rfl⟩⟩
theorem _root_.Go.Proofs.YthjofgmiabcifabGreatDoor.Ab.AInv.cfacts {D : Nat → TD} (h : AInv n j D C s) : CFacts n j C s := by
  have hV : Sum j D fV ≤ j := sum_le_n fun T => by unfold fV; cases T.ph <;> simp
  have hp : pend C.ph ≤ 1 := by unfold pend; split <;> omega
  have hj := h.jn
  have h16 := h.n16
  have hc := h.count
  have hwm : s.wm ≤ 1 := by
    cases hw : waits C.ph with
    | false => have := (h.quiet hw).2.1; omega
    | true =>
      rcases Nat.eq_zero_or_pos (Sum j D fV) with hz | hz
      · have := ((h.busy hw).2 hz).1; omega
      · have := ((h.busy hw).1 hz).2.1; omega
  have h16' : C.ph = .gb → s.wv ≤ 16 := by
    intro e
    have : pend C.ph = 0 := by rw [e]; rfl
    omega
  refine ⟨h.n1, h.n16, h.jn, h.more, by omega, h16', fun hw => (h.quiet hw).1, h.w2, hwm, fun e h1 => ?_, fun e => ?_, fun e => h.feed0 (.inr e), fun e => by rw [h.shut, e]; rfl, h.feed, h.sent⟩
  · have hw : waits C.ph = true := by rw [e]; rfl
    rcases Nat.eq_zero_or_pos (Sum j D fV) with hz | hz
    · have : pend C.ph = 0 := by rw [e]; rfl
      omega
    · have := ((h.busy hw).1 hz).2.1; omega
  · have hz := h.thr (by rw [e]; rfl)
    have hq := (h.quiet (by rw [e]; rfl)).1
    have : pend C.ph = 0 := by rw [e]; rfl
    exact ⟨by omega, hq⟩
end
end Go.Proofs.YthjofgmiabcifabGreatDoor.Mc
