/-
  The run of CrewOnces from its entry to its end.
  Conditions: as each theorem says.
-/
import Derived.Test.YthjofgmiabcifabGreatDoorPVc
set_option linter.unusedVariables false
set_option linter.unusedSimpArgs false
namespace Go.Proofs.YthjofgmiabcifabGreatDoor.So
open Go Go.Conc Go.RowKit
open Go.ConcN (PermW upd)
open Go.ConcM (OsLater)
open Go.Proofs.YthjofgmiabcifabGreatDoor.Ev Go.Proofs.YthjofgmiabcifabGreatDoor.Co Go.Proofs.YthjofgmiabcifabGreatDoor.Ab Go.Proofs.YthjofgmiabcifabGreatDoor.Mc Go.Proofs.YthjofgmiabcifabGreatDoor.Ma Go.Proofs.YthjofgmiabcifabGreatDoor.Tr
open Go.Proofs.YthjofgmiabcifabGreatDoor.Lift (LSt Sim EvOk Kept)
open Go.Proofs.YthjofgmiabcifabGreatDoor.Sq (NodesAt NodeX treeB ableI OncePost workB)
section
variable {x : Cx} {B n : Nat}
/-- A step behind the crowd. -/
def E2 (x : Cx) (B : Nat) (g : Goroutine) (w w' : World) (es : Array Event) : Prop := ∀ e ∈ es, EvFine e ∧ ∀ y, (MemAct.ofEvent e).touch? = some y → (fam x B).Sh y.loc → y.kind ≠ .plain
theorem E2.s2 {g : Goroutine} {w w' : World} {es : Array Event} {t : Trace} {dw : Nat → Nat} {fn : FuncId} {pos : String} (h : E2 x B g w w' es) (ht : S2 (fam x B).Sh (wa x) n t dw) : S2 (fam x B).Sh (wa x) n (t ++ MemOp.ofEvents 0 fn pos es) dw :=
  ht.app0 fun e he => ⟨(h e he).1.quiet.1 _, (h e he).1.quiet.2.1, (h e he).1.quiet.2.2, (h e he).2⟩
/-- What it lists. -/
def okL2 (x : Cx) (B : Nat) (l : List Fx) : Prop := ∀ e ∈ esOf l, EvFine e ∧ ∀ y, (MemAct.ofEvent e).touch? = some y → (fam x B).Sh y.loc → y.kind ≠ .plain
theorem okL2_ask {q : Question} {t : Nat} : okL2 x B [.ask q t] := fun e he => by cases he
theorem okL2_load {a : Addr} {v : Value} (ha : a.block ≠ x.On ∧ a.block ≠ x.Md ∧ a.block ≠ x.Wg) : okL2 x B [.load .plain a v] := fun e he => by
  simp [esOf] at he
  subst he
  refine ⟨.inl ⟨_, rfl⟩, fun y hy hs => ?_⟩
  have := touch_cell hy
  subst this
  rcases hs with ⟨b, e, hb⟩ | e
  · cases e; exact absurd hb (by rintro (h | h | h); exact ha.1 h; exact ha.2.1 h; exact ha.2.2 h)
  · cases e
theorem go2 {Z : Goroutine → World → Prop} {g h : Goroutine} {w : World} {m : Nat} {ans ans' : List Ans} {l l' : List Fx} (hs : gseg Tryz.prog CC true m g ans ans' = some (l, h, l')) (hr : g.status = .running) (hf : okL2 x B l) (h1 : ∀ d, okOf l (w.at d))
    (h2 : ∀ w, okOf l' w) (h5 : ∀ d, Solo Tryz.prog (E2 x B) Z h (wOf l (w.at d))) : Solo Tryz.prog (E2 x B) Z g w :=
  Solo.seg ccOk hs (Lv := fun _ => True) (fun g w e he => by simp at he) hr h1 (fun w _ => h2 w) (fun _ _ => trivial) (fun d g' _ e he => hf e (by simpa using Lift.mem_seen he)) h5
theorem sil2 {Z : Goroutine → World → Prop} {g h : Goroutine} {w : World} {m : Nat} {ans : List Ans} {l : List Fx} (hs : grun Tryz.prog CC true m g ans = some (h, l)) (h2 : ∀ w, okOf l w) (h5 : Solo Tryz.prog (E2 x B) Z h w) : Solo Tryz.prog (E2 x B) Z g w :=
  Solo.sil (Lv := fun _ => True) (fun g w e he => by simp at he) (fun _ => trivial) (at_self w) (grun_sound ccOk hs fun w _ => h2 w) h5
/-- A draw. -/
theorem ask2 {Z : Goroutine → World → Prop} {g : Goroutine} {h : Nat → Goroutine} {w : World} {f id : Nat} (hs : ∀ t, gseg Tryz.prog CC true 0 g [.num t] [] = some ([.ask (.order f id) t], h t, [])) (hr : g.status = .running)
    (h5 : ∀ t d, Solo Tryz.prog (E2 x B) Z (h t) (w.at d)) : Solo Tryz.prog (E2 x B) Z g w :=
  .segs ccOk (Lv := fun _ => True) (fun g w e he => by simp at he) hr fun d => ⟨0, _, _, _, _, _, hs ((w.at d).tape (w.at d).drawn (.order f id)), And.intro rfl (And.intro rfl trivial), fun _ _ => trivial, fun _ => trivial, fun g' _ e he => okL2_ask e (by simpa using Lift.mem_seen he), h5 _ _⟩
/-- The world as it was, but for the draws. -/
structure SameW (w0 w : World) : Prop where
  heap : w.heap = w0.heap
  os : w.os = w0.os
  tape : w.tape = w0.tape
  output : w.output = w0.output
theorem SameW.refl (w : World) : SameW w w := ⟨rfl, rfl, rfl, rfl⟩
theorem SameW.at {w0 w : World} (h : SameW w0 w) (d : Nat) : SameW w0 (w.at d) := ⟨h.heap, h.os, h.tape, h.output⟩
theorem SameW.cell {w0 w : World} (h : SameW w0 w) {a : Addr} {v : Value} (hc : w0.cell? a = some v) : w.cell? a = some v := by unfold World.cell? at *; rw [h.heap]; exact hc
theorem put_same' (R : Nat → Value) (k : Nat) (v : Value) : Co.put R k v k = v := if_pos rfl
theorem put_ne' (R : Nat → Value) {k j : Nat} (v : Value) (h : j ≠ k) : Co.put R k v j = R j := if_neg h
theorem r11_walk {Z : Goroutine → World → Prop} {w0 : World} {cs : List Frame} {K : Nat → Value} {out : Value} (hOb : w0.cell? ⟨x.Ob, 0, none⟩ = some out) (hMd : w0.cell? ⟨x.Md, 0, none⟩ = some (.int .i64 1)) (hb : x.Ob ≠ x.On ∧ x.Ob ≠ x.Md ∧ x.Ob ≠ x.Wg)
    (hk : ∀ R w, R 4 = out → R 5 = .int .i64 1 → R 6 = .int .i64 0 → SameW w0 w → Solo Tryz.prog (E2 x B) Z (mkR11 Tryz.prog x n cs K R []) w) :
    ∀ (r : List Nat) (R : Nat → Value) (w : World), fine11 r = true → (0 ∉ r → R 26 = out) → (1 ∉ r → R 27 = .int .i64 1) → (2 ∉ r → R 4 = out) → (3 ∉ r → R 5 = .int .i64 1) → (4 ∉ r → R 6 = .int .i64 0) → SameW w0 w → Solo Tryz.prog (E2 x B) Z (mkR11 Tryz.prog x n cs K R r) w := by
  intro r
  induction r with
  | nil => intro R w _ h0 h1 h2 h3 h4 hw; exact hk R w (h2 (by simp)) (h3 (by simp)) (h4 (by simp)) hw
  | cons k r ih =>
    intro R w hf h0 h1 h2 h3 h4 hw
    simp only [fine11, Bool.and_eq_true, decide_eq_true_eq, Bool.not_eq_true', List.all_eq_true] at hf
    obtain ⟨⟨⟨ha, hk5⟩, hkr⟩, hfr⟩ := hf
    have nk : k ∉ r := by simpa using hkr
    have no : ∀ {j}, j ≠ k → (j ∉ k :: r ↔ j ∉ r) := fun {j} hj => by simp [hj]
    match k, hk5 with
    | 0, _ =>
      refine go2 (r11_0 x n cs K R r out) rfl (okL2_load hb) (fun d => And.intro ((hw.at d).cell hOb) trivial) (fun _ => trivial) fun d => ?_
      refine ih _ _ hfr (fun _ => put_same' ..) (fun h => ?_) (fun h => ?_) (fun h => ?_) (fun h => ?_) (hw.at d) <;> rw [put_ne' _ _ (by decide)]
      · exact h1 ((no (by decide)).2 h)
      · exact h2 ((no (by decide)).2 h)
      · exact h3 ((no (by decide)).2 h)
      · exact h4 ((no (by decide)).2 h)
    | 1, _ =>
      refine sil2 (r11_1 x n cs K R r) (fun _ => trivial) ?_
      refine go2 (l15_s x n cs K R r 1) (by kernel_rfl) (fun e he => ?_) (fun d => And.intro ((hw.at d).cell hMd) trivial) (fun _ => trivial) fun d => ?_
      · simp [esOf] at he
        rcases he with rfl | rfl
        · exact ⟨.inr (.inr (.inr ⟨_, rfl⟩)), fun y hy => by cases hy⟩
        · exact ⟨.inl ⟨_, rfl⟩, fun y hy hs => by have := touch_cell hy; subst this; simp⟩
      · refine ih _ _ hfr (fun h => ?_) (fun _ => put_same' ..) (fun h => ?_) (fun h => ?_) (fun h => ?_) (hw.at d) <;> rw [put_ne' _ _ (by decide)]
        · exact h0 ((no (by decide)).2 h)
        · exact h2 ((no (by decide)).2 h)
        · exact h3 ((no (by decide)).2 h)
        · exact h4 ((no (by decide)).2 h)
    | 2, _ =>
      have e26 : R 26 = out := h0 (by simpa using ha 0 (by simp [ahead11]))
      refine sil2 (r11_2 x n cs K R r) (fun _ => trivial) ?_
      rw [e26]
      refine ih _ _ hfr (fun h => ?_) (fun h => ?_) (fun _ => put_same' ..) (fun h => ?_) (fun h => ?_) hw <;> rw [put_ne' _ _ (by decide)]
      · exact h0 ((no (by decide)).2 h)
      · exact h1 ((no (by decide)).2 h)
      · exact h3 ((no (by decide)).2 h)
      · exact h4 ((no (by decide)).2 h)
    | 3, _ =>
      have e27 : R 27 = .int .i64 1 := h1 (by simpa using ha 1 (by simp [ahead11]))
      refine sil2 (r11_3 x n cs K R r) (fun _ => trivial) ?_
      rw [e27]
      refine ih _ _ hfr (fun h => ?_) (fun h => ?_) (fun h => ?_) (fun _ => put_same' ..) (fun h => ?_) hw <;> rw [put_ne' _ _ (by decide)]
      · exact h0 ((no (by decide)).2 h)
      · exact h1 ((no (by decide)).2 h)
      · exact h2 ((no (by decide)).2 h)
      · exact h4 ((no (by decide)).2 h)
    | 4, _ =>
      refine sil2 (r11_4 x n cs K R r) (fun _ => trivial) ?_
      refine ih _ _ hfr (fun h => ?_) (fun h => ?_) (fun h => ?_) (fun h => ?_) (fun _ => put_same' ..) hw <;> rw [put_ne' _ _ (by decide)]
      · exact h0 ((no (by decide)).2 h)
      · exact h1 ((no (by decide)).2 h)
      · exact h2 ((no (by decide)).2 h)
      · exact h3 ((no (by decide)).2 h)
    | k + 5, h => exact absurd h (by omega)
theorem r10_walk {Z : Goroutine → World → Prop} {w0 : World} {K : Nat → Value} {A G ca cb j : Nat} {u : Int} {nn : Nat} (hj : j < nn) (hA : w0.cell? ⟨A, j, none⟩ = some (.int .u16 (u : Int))) (hG : w0.cell? ⟨G, j, none⟩ = some (.int .u16 (u : Int)))
    (nA : A ≠ x.On ∧ A ≠ x.Md ∧ A ≠ x.Wg) (nG : G ≠ x.On ∧ G ≠ x.Md ∧ G ≠ x.Wg)
    (hk : ∀ R w, R 66 = .int .u16 (u : Int) → R 70 = .int .u16 (u : Int) → SameW w0 w → Solo Tryz.prog (E2 x B) Z (mkR10 Tryz.prog (.slice (some ⟨A, 0, none⟩) nn ca) (.slice (some ⟨G, 0, none⟩) nn cb) j K R [8]) w) :
    ∀ (r : List Nat) (R : Nat → Value) (w : World), fine10 r = true → r.getLast? = some 8 → (0 ∉ r → R 63 = .slice (some ⟨A, 0, none⟩) nn ca) → (1 ∉ r → R 64 = .int .i64 j) → (2 ∉ r → R 65 = .pointer (some ⟨A, j, none⟩)) → (3 ∉ r → R 66 = .int .u16 (u : Int)) →
      (4 ∉ r → R 67 = .slice (some ⟨G, 0, none⟩) nn cb) → (5 ∉ r → R 68 = .int .i64 j) → (6 ∉ r → R 69 = .pointer (some ⟨G, j, none⟩)) → (7 ∉ r → R 70 = .int .u16 (u : Int)) → SameW w0 w →
      Solo Tryz.prog (E2 x B) Z (mkR10 Tryz.prog (.slice (some ⟨A, 0, none⟩) nn ca) (.slice (some ⟨G, 0, none⟩) nn cb) j K R r) w := by
  have adj : ∀ b : Nat, (Addr.add ⟨b, 0, none⟩ ((j : Int).toNat * 1)) = ⟨b, j, none⟩ := fun b => by rw [Addr.add_lit]; simp
  have tj : (decide ((0 : Int) ≤ (j : Nat) ∧ ((j : Nat) : Int) < (nn : Nat))) = true := by simp; omega
  intro r
  induction r with
  | nil => intro R w _ hl; simp at hl
  | cons k r ih =>
    intro R w hf hl h0 h1 h2 h3 h4 h5 h6 h7 hw
    simp only [fine10, Bool.and_eq_true, decide_eq_true_eq, Bool.not_eq_true', List.all_eq_true] at hf
    obtain ⟨⟨⟨ha, hk9⟩, hkr⟩, hfr⟩ := hf
    have no : ∀ {j}, j ≠ k → (j ∉ k :: r ↔ j ∉ r) := fun {j} hj => by simp [hj]
    have hl' : k ≠ 8 → r.getLast? = some 8 := fun hne => by
      cases r with
      | nil => simp at hl; exact absurd hl hne
      | cons y r => simpa using hl
    match k, hk9 with
    | 0, _ =>
      refine sil2 (r10_0 _ _ j K R r) (fun _ => trivial) ?_
      refine ih _ _ hfr (hl' (by decide)) (fun _ => put_same' ..) (fun h => ?_) (fun h => ?_) (fun h => ?_) (fun h => ?_) (fun h => ?_) (fun h => ?_) (fun h => ?_) hw <;> rw [put_ne' _ _ (by decide)]
      · exact h1 ((no (by decide)).2 h)
      · exact h2 ((no (by decide)).2 h)
      · exact h3 ((no (by decide)).2 h)
      · exact h4 ((no (by decide)).2 h)
      · exact h5 ((no (by decide)).2 h)
      · exact h6 ((no (by decide)).2 h)
      · exact h7 ((no (by decide)).2 h)
    | 1, _ =>
      refine sil2 (r10_1 _ _ j K R r) (fun _ => trivial) ?_
      refine ih _ _ hfr (hl' (by decide)) (fun h => ?_) (fun _ => put_same' ..) (fun h => ?_) (fun h => ?_) (fun h => ?_) (fun h => ?_) (fun h => ?_) (fun h => ?_) hw <;> rw [put_ne' _ _ (by decide)]
      · exact h0 ((no (by decide)).2 h)
      · exact h2 ((no (by decide)).2 h)
      · exact h3 ((no (by decide)).2 h)
      · exact h4 ((no (by decide)).2 h)
      · exact h5 ((no (by decide)).2 h)
      · exact h6 ((no (by decide)).2 h)
      · exact h7 ((no (by decide)).2 h)
    | 2, _ =>
      have e0 : R 63 = _ := h0 (by simpa using ha 0 (by simp [ahead10]))
      have e1 : R 64 = _ := h1 (by simpa using ha 1 (by simp [ahead10]))
      have e : Co.put (Co.put R 63 (.slice (some ⟨A, 0, none⟩) nn ca)) 64 (.int .i64 (j : Nat)) = R := by rw [← e0, put_self, ← e1, put_self]
      have hs := r10_2 (.slice (some ⟨A, 0, none⟩) nn ca) (.slice (some ⟨G, 0, none⟩) nn cb) j j A nn ca K R r
      rw [e, adj] at hs
      refine sil2 hs (fun _ => And.intro tj trivial) ?_
      refine ih _ _ hfr (hl' (by decide)) (fun h => ?_) (fun h => ?_) (fun _ => put_same' ..) (fun h => ?_) (fun h => ?_) (fun h => ?_) (fun h => ?_) (fun h => ?_) hw <;> rw [put_ne' _ _ (by decide)]
      · exact h0 ((no (by decide)).2 h)
      · exact h1 ((no (by decide)).2 h)
      · exact h3 ((no (by decide)).2 h)
      · exact h4 ((no (by decide)).2 h)
      · exact h5 ((no (by decide)).2 h)
      · exact h6 ((no (by decide)).2 h)
      · exact h7 ((no (by decide)).2 h)
    | 3, _ =>
      have e0 : R 65 = _ := h2 (by simpa using ha 2 (by simp [ahead10]))
      have e : Co.put R 65 (.pointer (some ⟨A, j, none⟩)) = R := by rw [← e0, put_self]
      have hs := r10_3 (.slice (some ⟨A, 0, none⟩) nn ca) (.slice (some ⟨G, 0, none⟩) nn cb) j ⟨A, j, none⟩ (.int .u16 (u : Int)) K R r
      rw [e] at hs
      refine go2 hs rfl (okL2_load nA) (fun d => And.intro ((hw.at d).cell hA) trivial) (fun _ => trivial) fun d => ?_
      refine ih _ _ hfr (hl' (by decide)) (fun h => ?_) (fun h => ?_) (fun h => ?_) (fun _ => put_same' ..) (fun h => ?_) (fun h => ?_) (fun h => ?_) (fun h => ?_) (hw.at d) <;> rw [put_ne' _ _ (by decide)]
      · exact h0 ((no (by decide)).2 h)
      · exact h1 ((no (by decide)).2 h)
      · exact h2 ((no (by decide)).2 h)
      · exact h4 ((no (by decide)).2 h)
      · exact h5 ((no (by decide)).2 h)
      · exact h6 ((no (by decide)).2 h)
      · exact h7 ((no (by decide)).2 h)
    | 4, _ =>
      refine sil2 (r10_4 _ _ j K R r) (fun _ => trivial) ?_
      refine ih _ _ hfr (hl' (by decide)) (fun h => ?_) (fun h => ?_) (fun h => ?_) (fun h => ?_) (fun _ => put_same' ..) (fun h => ?_) (fun h => ?_) (fun h => ?_) hw <;> rw [put_ne' _ _ (by decide)]
      · exact h0 ((no (by decide)).2 h)
      · exact h1 ((no (by decide)).2 h)
      · exact h2 ((no (by decide)).2 h)
      · exact h3 ((no (by decide)).2 h)
      · exact h5 ((no (by decide)).2 h)
      · exact h6 ((no (by decide)).2 h)
      · exact h7 ((no (by decide)).2 h)
    | 5, _ =>
      refine sil2 (r10_5 _ _ j K R r) (fun _ => trivial) ?_
      refine ih _ _ hfr (hl' (by decide)) (fun h => ?_) (fun h => ?_) (fun h => ?_) (fun h => ?_) (fun h => ?_) (fun _ => put_same' ..) (fun h => ?_) (fun h => ?_) hw <;> rw [put_ne' _ _ (by decide)]
      · exact h0 ((no (by decide)).2 h)
      · exact h1 ((no (by decide)).2 h)
      · exact h2 ((no (by decide)).2 h)
      · exact h3 ((no (by decide)).2 h)
      · exact h4 ((no (by decide)).2 h)
      · exact h6 ((no (by decide)).2 h)
      · exact h7 ((no (by decide)).2 h)
    | 6, _ =>
      have e0 : R 67 = _ := h4 (by simpa using ha 4 (by simp [ahead10]))
      have e1 : R 68 = _ := h5 (by simpa using ha 5 (by simp [ahead10]))
      have e : Co.put (Co.put R 67 (.slice (some ⟨G, 0, none⟩) nn cb)) 68 (.int .i64 (j : Nat)) = R := by rw [← e0, put_self, ← e1, put_self]
      have hs := r10_6 (.slice (some ⟨A, 0, none⟩) nn ca) (.slice (some ⟨G, 0, none⟩) nn cb) j j G nn cb K R r
      rw [e, adj] at hs
      refine sil2 hs (fun _ => And.intro tj trivial) ?_
      refine ih _ _ hfr (hl' (by decide)) (fun h => ?_) (fun h => ?_) (fun h => ?_) (fun h => ?_) (fun h => ?_) (fun h => ?_) (fun _ => put_same' ..) (fun h => ?_) hw <;> rw [put_ne' _ _ (by decide)]
      · exact h0 ((no (by decide)).2 h)
      · exact h1 ((no (by decide)).2 h)
      · exact h2 ((no (by decide)).2 h)
      · exact h3 ((no (by decide)).2 h)
      · exact h4 ((no (by decide)).2 h)
      · exact h5 ((no (by decide)).2 h)
      · exact h7 ((no (by decide)).2 h)
    | 7, _ =>
      have e0 : R 69 = _ := h6 (by simpa using ha 6 (by simp [ahead10]))
      have e : Co.put R 69 (.pointer (some ⟨G, j, none⟩)) = R := by rw [← e0, put_self]
      have hs := r10_7 (.slice (some ⟨A, 0, none⟩) nn ca) (.slice (some ⟨G, 0, none⟩) nn cb) j ⟨G, j, none⟩ (.int .u16 (u : Int)) K R r
      rw [e] at hs
      refine go2 hs rfl (okL2_load nG) (fun d => And.intro ((hw.at d).cell hG) trivial) (fun _ => trivial) fun d => ?_
      refine ih _ _ hfr (hl' (by decide)) (fun h => ?_) (fun h => ?_) (fun h => ?_) (fun h => ?_) (fun h => ?_) (fun h => ?_) (fun h => ?_) (fun _ => put_same' ..) (hw.at d) <;> rw [put_ne' _ _ (by decide)]
      · exact h0 ((no (by decide)).2 h)
      · exact h1 ((no (by decide)).2 h)
      · exact h2 ((no (by decide)).2 h)
      · exact h3 ((no (by decide)).2 h)
      · exact h4 ((no (by decide)).2 h)
      · exact h5 ((no (by decide)).2 h)
      · exact h6 ((no (by decide)).2 h)
    | 8, _ =>
      have n3 : 3 ∉ 8 :: r := by simpa using ha 3 (by simp [ahead10])
      have n7 : 7 ∉ 8 :: r := by simpa using ha 7 (by simp [ahead10])
      have e3 := h3 n3
      have e7 := h7 n7
      have hr : r = [] := by
        cases r with
        | nil => rfl
        | cons y r =>
          have h8 : (y :: r).getLast? = some 8 := by simpa using hl
          exact absurd (List.mem_of_getLast? h8) (by simpa using hkr)
      subst hr
      exact hk R w e3 e7 hw
    | k + 9, h => exact absurd h (by omega)
/-- The comparison's loop. -/
theorem cmp_walk {Z : Goroutine → World → Prop} {w0 : World} {A G ca cb nn : Nat} {u : Int} (hA : ∀ j, j < nn → w0.cell? ⟨A, j, none⟩ = some (.int .u16 (u : Int))) (hG : ∀ j, j < nn → w0.cell? ⟨G, j, none⟩ = some (.int .u16 (u : Int)))
    (nA : A ≠ x.On ∧ A ≠ x.Md ∧ A ≠ x.Wg) (nG : G ≠ x.On ∧ G ≠ x.Md ∧ G ≠ x.Wg) (h16 : nn ≤ 16)
    (hk : ∀ T td w, T.getD 4 undef = .bool true → SameW w0 w → Solo Tryz.prog (E2 x B) Z (mkE T td) w) :
    ∀ (q j : Nat) (K : Nat → Value) (w : World), j + q + 1 = nn → SameW w0 w → Solo Tryz.prog (E2 x B) Z (mkL Tryz.prog (.slice (some ⟨A, 0, none⟩) nn ca) (.slice (some ⟨G, 0, none⟩) nn cb) j K) w := by
  intro q
  induction q with
  | zero =>
    intro j K w hj hw
    refine ask2 (fun t => l_s _ _ _ K t) rfl fun t d => ?_
    have hm := sched_mem (ops10 Tryz.prog) t mixed
    have ha := List.all_eq_true.1 all10 _ hm
    simp only [Bool.and_eq_true, beq_iff_eq, decide_eq_true_eq] at ha
    obtain ⟨⟨a1, a2⟩, b0, b1, b2, b3, b4, b5, b6, b7⟩ := ha
    refine r10_walk (by omega) (hA j (by omega)) (hG j (by omega)) nA nG (fun R w h1 h2 hw => ?_) _ K _ a1 a2 (fun h => absurd b0 h) (fun h => absurd b1 h) (fun h => absurd b2 h) (fun h => absurd b3 h) (fun h => absurd b4 h) (fun h => absurd b5 h) (fun h => absurd b6 h) (fun h => absurd b7 h) (hw.at d)
    have e : Co.put (Co.put R 66 (.int .u16 (u : Int))) 70 (.int .u16 (u : Int)) = R := by rw [← h1, put_self, h1, ← h2, put_self]
    have hs := r10_e (some ⟨A, 0, none⟩) (some ⟨G, 0, none⟩) nn ca nn cb j u u K R
    have h4 := r10_e4 (some ⟨A, 0, none⟩) (some ⟨G, 0, none⟩) nn ca nn cb j u u K R
    rw [e] at hs h4
    refine sil2 hs (fun _ => ?_) (hk _ _ w h4 hw)
    have e1 : cm .neq (u : Int) u = false := by rw [neb]; simp
    have e2 : cm .lss (ar .add .i64 (j : Int) 1) (nn : Nat) = false := by rw [itv (by omega), ltb]; simp; omega
    exact And.intro e1 (And.intro e2 trivial)
  | succ q ih =>
    intro j K w hj hw
    refine ask2 (fun t => l_s _ _ _ K t) rfl fun t d => ?_
    have hm := sched_mem (ops10 Tryz.prog) t mixed
    have ha := List.all_eq_true.1 all10 _ hm
    simp only [Bool.and_eq_true, beq_iff_eq, decide_eq_true_eq] at ha
    obtain ⟨⟨a1, a2⟩, b0, b1, b2, b3, b4, b5, b6, b7⟩ := ha
    refine r10_walk (by omega) (hA j (by omega)) (hG j (by omega)) nA nG (fun R w h1 h2 hw => ?_) _ K _ a1 a2 (fun h => absurd b0 h) (fun h => absurd b1 h) (fun h => absurd b2 h) (fun h => absurd b3 h) (fun h => absurd b4 h) (fun h => absurd b5 h) (fun h => absurd b6 h) (fun h => absurd b7 h) (hw.at d)
    have e : Co.put (Co.put R 66 (.int .u16 (u : Int))) 70 (.int .u16 (u : Int)) = R := by rw [← h1, put_self, h1, ← h2, put_self]
    have hs := r10_8 (some ⟨A, 0, none⟩) (some ⟨G, 0, none⟩) nn ca nn cb j u u K R
    rw [e, itv (by omega)] at hs
    refine sil2 hs (fun _ => ?_) (ih (j + 1) _ w (by omega) hw)
    have e1 : cm .neq (u : Int) u = false := by rw [neb]; simp
    have e2 : cm .lss ((j + 1 : Nat) : Int) (nn : Nat) = true := by rw [ltb]; simp; omega
    exact And.intro e1 (And.intro e2 trivial)
end
end Go.Proofs.YthjofgmiabcifabGreatDoor.So
namespace Go.Proofs.YthjofgmiabcifabGreatDoor.So
open Go Go.Conc Go.RowKit
open Go.ConcN (PermW upd)
open Go.ConcM (OsLater)
open Go.Proofs.YthjofgmiabcifabGreatDoor.Ev Go.Proofs.YthjofgmiabcifabGreatDoor.Co Go.Proofs.YthjofgmiabcifabGreatDoor.Ab Go.Proofs.YthjofgmiabcifabGreatDoor.Mc Go.Proofs.YthjofgmiabcifabGreatDoor.Ma Go.Proofs.YthjofgmiabcifabGreatDoor.Tr
open Go.Proofs.YthjofgmiabcifabGreatDoor.Lift (LSt Sim EvOk Kept)
open Go.Proofs.YthjofgmiabcifabGreatDoor.Sq (NodesAt NodeX treeB ableI OncePost workB)
/-- What is promised of the world at the end. -/
def FinW (W w : World) : Prop := Below W.heap.size W { w with os := W.os } ∧ OsLater W.os w.os
/-- How all ends. -/
def Z2 (W : World) (g : Goroutine) (w : World) : Prop := ∃ T td, g = mkE T td ∧ T.getD 4 undef = .bool true ∧ FinW W w
section
variable {x : Cx} {B n : Nat} {sp : Option Addr} {m c : Nat} {W w1 : World} {xs : List NodeX} {s : Ab.Sh} {k : Parts} {u : Int}
/-- What a lone walk beside the crowd lists. -/
theorem evOk_e2 {w : World} {L : List FuncId} (hD : Dist x B) (hB : B ≤ w.heap.size) (hch : ∃ c d e f g h, w.heap[x.Ch]? = some (.chan c d e f g h)) {e : Event} (he : EvOk (Cl Tryz.prog x L w) e) :
    EvFine e ∧ ∀ y, (MemAct.ofEvent e).touch? = some y → (fam x B).Sh y.loc → y.kind ≠ .plain := by
  refine ⟨evOk_fine he, fun y hy hs => ?_⟩
  obtain ⟨d1, d2, d3, d4, d5, d6, d7, d8, d9, d10⟩ := hD
  rcases he with ⟨a, wr, rfl, ha⟩ | ⟨r, wr, rfl, hr⟩ | ⟨r, rfl⟩ | ⟨r, rfl, hr, hc⟩ | rfl
  · have := touch_cell hy
    subst this
    exfalso
    rcases hs with ⟨b, e, hb⟩ | e
    · cases e
      by_cases hlt : a.block < w.heap.size
      · have h1 := (ha hlt).1
        exact h1 (.inl (by rcases hb with h | h | h; exact .inl h; exact .inr (.inr (.inl h)); exact .inr (.inr (.inr (.inr (.inr h))))))
      · omega
    · cases e
  · exfalso
    have hy : y.loc = .obj r := by cases wr <;> (simp [MemAct.ofEvent, MemAct.touch?] at hy; rw [← hy])
    have hr : w.heap.size ≤ r := hr
    rw [hy] at hs
    rcases hs with ⟨b, e, _⟩ | e
    · cases e
    · cases e; omega
  · have : y = ⟨.obj r, false, .atomic⟩ := by simpa [MemAct.ofEvent, MemAct.touch?] using hy.symm
    subst this
    simp
  · exfalso
    have : y = ⟨.obj r, false, .plain⟩ := by simpa [MemAct.ofEvent, MemAct.touch?] using hy.symm
    subst this
    rcases hs with ⟨b, e, _⟩ | e
    · cases e
    · cases e; exact hc hch
  · cases hy
/-- THE STAGE BEHIND THE CROWD. -/
theorem stage2 (hS : Start sp m c (n : Int) W xs) (hG : treeB (xs.map NodeX.row) = true) (h0 : 0 < xs.length) (hu : ableI (xs[0]'h0).n (xs[0]'h0).ws = u) (h1 : 1 ≤ n) (h16 : n ≤ 16) (hD : Dist x B) (hH : W.heap.size < x.Sb) (hW1 : Below W.heap.size W w1) (hbox : w1.cell? ⟨W.heap.size, 0, none⟩ = some (.slice sp m c))
    {w : World} (hw : Wd x n (CanOk x u) u B w1 k s w) (hb : Base x n (.slice sp m c) w) (hf : ∀ i, i < n → s.fill i = true) (hm : s.made = 1) {K K' : Nat → Value} :
    Solo Tryz.prog (E2 x B) (Z2 W) (mkFin Tryz.prog x n [fr3c Tryz.prog n W.heap.size K'] K) w := by
  obtain ⟨d1, d2, d3, d4, d5, d6, d7, d8, d9, d10⟩ := id hD
  have cOb : w.cell? ⟨x.Ob, 0, none⟩ = some (.slice (some ⟨x.Oa, 0, none⟩) n n) := cell_of hb.ob rfl
  have cMd : w.cell? ⟨x.Md, 0, none⟩ = some (.int .i64 1) := by have := cell_of (o := 0) hw.md rfl; rwa [hm] at this
  have nT : ∀ b, b ≤ W.heap.size → ¬ Turned x b := fun b hb => by simp only [Turned]; omega
  have oldW : ∀ a v, w1.cell? a = some v → a.block ≤ W.heap.size → w.cell? a = some v := fun a v hv ha => (World.cell?_of_block (w := w1) (hw.old a.block (by omega) (nT _ ha))).trans hv
  have cBox := oldW _ _ hbox (Nat.le_refl _)
  refine ask2 (fun t => fin_s x n _ K t) rfl fun t d => ?_
  have hsm := sched_mem (ops11 Tryz.prog) t mixed
  have ha := List.all_eq_true.1 all11 _ hsm
  simp only [Bool.and_eq_true, decide_eq_true_eq] at ha
  obtain ⟨a1, b0, b1, b2, b3, b4⟩ := ha
  refine r11_walk cOb cMd ⟨by omega, by omega, by omega⟩ (fun R w2 e4 e5 e6 hw2 => ?_) _ K _ a1 (fun h => absurd b0 h) (fun h => absurd b1 h) (fun h => absurd b2 h) (fun h => absurd b3 h) (fun h => absurd b4 h) ((SameW.refl w).at d)
  have hre := r11_e x n n W.heap.size K K' R
  rw [e4, e5, e6] at hre
  refine sil2 hre (fun _ => trivial) ?_
  refine go2 (mkB_s sp m c n W.heap.size _ _ _ _) rfl (okL2_load ⟨by simp only; omega, by simp only; omega, by simp only; omega⟩) (fun d => And.intro ((hw2.at d).cell cBox) trivial) (fun _ => trivial) fun d2 => ?_
  change Solo _ _ _ _ (w2.at d2)
  have hw3 := hw2.at d2
  generalize w2.at d2 = w3 at hw3 ⊢
  have tcell : ∀ b, Turned x b → (∃ c t f, w3.heap[b]? = some (.cells c t f)) ∨ (∃ c d e f g h, w3.heap[b]? = some (.chan c d e f g h)) ∨ w3.heap[b]? = none := by
    intro b hT
    rw [hw3.heap]
    rcases hT with rfl | rfl | rfl | rfl | rfl | rfl
    · exact .inl ⟨_, _, _, hw.on⟩
    · exact .inl ⟨_, _, _, hw.pa⟩
    · exact .inl ⟨_, _, _, hw.md⟩
    · obtain ⟨c, e, _⟩ := hw.oa; exact .inl ⟨_, _, _, e⟩
    · exact .inr (.inl ⟨_, _, _, _, _, _, hw.ch⟩)
    · exact .inl ⟨_, _, _, hw.wg⟩
  have hBs : B ≤ w3.heap.size := by rw [hw3.heap]; exact hw.size
  have hch : ∃ c d e f g h, w3.heap[x.Ch]? = some (.chan c d e f g h) := by rw [hw3.heap]; exact ⟨_, _, _, _, _, _, hw.ch⟩
  have hkw : workB (n : Int) = true := by unfold workB; rw [Bool.and_eq_true, decide_eq_true_eq, decide_eq_true_eq]; omega
  obtain ⟨w0, _, sim, way⟩ := enter_way (x := x) (w := w3) list_ok list_inits (f := 5) (by decide) (args := #[spv sp m c, .int .i64 n]) (R := OncePost true (n : Int) u w3) (fun _ _ _ h => h) (fun w' h => by
      unfold OncePost at h
      rw [if_neg (by decide), hkw, if_neg (by decide)] at h
      obtain ⟨_, _, e, _⟩ := h
      cases e) tcell (fun w0 ht => by
    have hc : ∀ a v, W.cell? a = some v → w0.cell? a = some v := fun a v hv => by
      have hlt := World.block_lt_of_cell? W a hv
      exact ht.cell (nT _ (by omega)) (hw3.cell (oldW a v ((hW1.cell hlt).trans hv) (by omega)))
    have := Sq.refonce_in valid sp m c xs n w0 (nodes_of hS.nodes hc) (hS.tabs.of_cells hc) hS.num
    rw [hG, dif_pos h0, hu] at this
    refine CallsIn.mono this fun e w' h => ?_
    unfold OncePost at h ⊢
    rw [ht.1]
    exact h)
  refine Solo.way (C := Cl Tryz.prog x Sq.LS w3) (s := ⟨Frame.enter Tryz.prog 5 #[spv sp m c, .int .i64 n] .normal, [], w0⟩) list_ok (fun fr cs w g' w' es hst he e hee => evOk_e2 hD hBs hch (he e hee)) (fun e w' h => ?_) way sim (fun v w0' w4 hv hsim hkept => ?_)
  · unfold OncePost at h
    rw [if_neg (by decide), hkw, if_neg (by decide)] at h
    obtain ⟨_, _, e, _⟩ := h
    exact ⟨_, e⟩
  · unfold OncePost at hv
    rw [if_neg (by decide), hkw, if_neg (by decide)] at hv
    obtain ⟨g, cap, e, hg, hcells⟩ := hv
    injection e with e
    subst e
    rw [Int.toNat_natCast] at hcells ⊢
    have hold : ∀ b, b < w3.heap.size → w4.heap[b]? = w3.heap[b]? := fun b hb => by
      by_cases hT : Turned x b
      · exact hkept.old b hb (.inl (.inl hT))
      · exact hkept.old b hb (.inr hT)
    have hfin : FinW W w4 := by
      refine ⟨⟨rfl, ?_, ?_, ?_, fun b hb => ?_⟩, ?_⟩
      · exact hkept.tape.trans (hw3.tape.trans (hw.tape.trans hW1.tape))
      · exact hkept.output.trans (hw3.output.trans (hw.output.trans hW1.output))
      · have e1 := hsim.size
        have e2 : w3.heap.size ≤ w0'.heap.size := hsim.le
        show W.heap.size ≤ w4.heap.size
        omega
      · exact (hold b (by omega)).trans ((congrArg (·[b]?) hw3.heap).trans ((hw.old b (by omega) (nT _ (by omega))).trans (hW1.block b hb)))
      · rw [hkept.os, hw3.os, ← hW1.os]; exact hw.os
    have cA : ∀ j, j < n → w4.cell? ⟨x.Oa, j, none⟩ = some (.int .u16 u) := fun j hj => by
      obtain ⟨cc, e1, e2, e3⟩ := hw.oa
      have e4 : w4.heap[x.Oa]? = some (.cells cc 29) := (hold _ (by omega)).trans ((congrArg (·[x.Oa]?) hw3.heap).trans e1)
      exact cell_of e4 (e3 j hj (hf j hj))
    have cG : ∀ j, j < n → w4.cell? ⟨g, j, none⟩ = some (.int .u16 u) := fun j hj => by
      have e1 := hcells j hj
      have e2 := (hsim.new g hg).1
      exact (World.cell?_of_block (w := w0') e2.symm).trans e1
    refine sil2 (d1_l n W.heap.size (some ⟨x.Oa, 0, none⟩) (some ⟨g, 0, none⟩) n n n cap 1 1 0 0 _) (fun _ => ?_) (cmp_walk cA cG ⟨by omega, by omega, by omega⟩ ⟨by omega, by omega, by omega⟩ h16 (fun T td w5 hT hw5 => ?_) (n - 1) 0 _ w4 (by omega) (SameW.refl _))
    · have e1 : cm .neq (n : Int) n = false := by rw [neb]; simp
      have e2 : cm .lss 0 (n : Int) = true := by rw [ltb]; simp; omega
      exact And.intro rfl (And.intro rfl (And.intro rfl (And.intro rfl (And.intro rfl (And.intro rfl (And.intro rfl (And.intro rfl (And.intro rfl (And.intro rfl (And.intro e1 (And.intro e2 trivial)))))))))))
    · refine .stop fun d => ⟨T, td, rfl, hT, ?_⟩
      obtain ⟨⟨_, f2, f3, f4, f5⟩, f6⟩ := hfin
      exact ⟨⟨rfl, (hw5.tape.trans f2), (hw5.output.trans f3), by show W.heap.size ≤ w5.heap.size; rw [hw5.heap]; exact f4, fun b hb => by show w5.heap[b]? = _; rw [hw5.heap]; exact f5 b hb⟩, by show OsLater W.os w5.os; rw [hw5.os]; exact f6⟩
end
end Go.Proofs.YthjofgmiabcifabGreatDoor.So
namespace Go.Proofs.YthjofgmiabcifabGreatDoor.So
open Go Go.Conc Go.RowKit
open Go.ConcN (PermW upd sumTo)
open Go.ConcM (OsLater)
open Go.Proofs.YthjofgmiabcifabGreatDoor.Ev Go.Proofs.YthjofgmiabcifabGreatDoor.Co Go.Proofs.YthjofgmiabcifabGreatDoor.Ab Go.Proofs.YthjofgmiabcifabGreatDoor.Mc Go.Proofs.YthjofgmiabcifabGreatDoor.Ma Go.Proofs.YthjofgmiabcifabGreatDoor.Tr
open Go.Proofs.YthjofgmiabcifabGreatDoor.Sq (NodesAt NodeX treeB ableI workB)
/-- What is said of the end. -/
abbrev QF (W : World) : Machine → Outcome → World → Trace → Prop := Conc.Good Tryz.prog fun v w' => v = .bool true ∧ FinW W w'
/-- The last step. -/
theorem end_step {T : Array Value} {td : List Item} (hT : T.getD 4 undef = .bool true) (w : World) : stepG Tryz.prog true (mkE T td) w = .ended (.done (.bool true)) w #[] := by
  have hr : results Tryz.f3 T = .pure (.bool true) := by
    have e : Tryz.f3.results = #[.tmp 4] := by kernel_rfl
    have hT' : T[4]?.getD undef = .bool true := by rw [← hT, Array.getD_eq_getD_getElem?]
    unfold results
    rw [e]
    simp [hT']
    rfl
  have hi : Tryz.prog.inits.idxOf? 3 = none := by kernel_rfl
  unfold mkE stepG unwind
  dsimp only
  rw [Tryz.func3]
  dsimp only
  rw [hr]
  unfold doReturn
  simp [Sem.runT, hi, seen_none, GStep.after]
theorem S0.mono {Ok Ok' : Loc → Prop} {t : Trace} (h : S0 Ok t) (hm : ∀ l, Ok l → Ok' l) : S0 Ok' t := ⟨h.gs, h.norel, h.deaf0, fun i x hx => hm _ (h.tch i x hx)⟩
section
variable {n : Nat} {gs : Array Goroutine} {fu dw : Nat → Nat} {W w : World} {g : Goroutine} {sl : Option (Nat × Nat)} {t : Trace}
theorem leave_only (h : Leave Tryz.prog n gs fu dw) : (crowd gs w sl).OnlyLeaving Tryz.prog := by
  refine ⟨fun g hg => ?_, rfl⟩
  obtain ⟨i, hi⟩ := List.getElem?_of_mem hg
  rw [List.getElem?_drop] at hi
  have hi : gs[1 + i]? = some g := by simpa [crowd] using hi
  have hlt : 1 + i < gs.size := (Array.getElem?_eq_some_iff.1 hi).1
  obtain ⟨g', hg', hq⟩ := h.2 i (by have := h.1; omega)
  rw [show i + 1 = 1 + i by omega, hi] at hg'
  cases hg'
  exact ⟨_, hq.leaves⟩
theorem leave_hear (h : Leave Tryz.prog n gs fu dw) (hd : ∀ k, k < n → Deaf t (k + 1) = dw k) : (crowd gs w sl).EndHearing Tryz.prog t := by
  intro i g hg hi
  have hg : gs[i]? = some g := hg
  obtain ⟨k, rfl⟩ : ∃ k, i = k + 1 := ⟨i - 1, by omega⟩
  have hlt : k + 1 < gs.size := (Array.getElem?_eq_some_iff.1 hg).1
  have hk : k < n := by have := h.1; omega
  obtain ⟨g', hg', hq⟩ := h.2 k hk
  rw [hg] at hg'
  cases hg'
  have := hq.hears (crowd gs w sl).world
  rw [← hd k hk] at this
  exact ⟨_, this⟩
/-- The end of the stage ahead of the crowd. -/
theorem end_first {T : Array Value} {td : List Item} (hT : T.getD 4 undef = .bool true) (hF : FinW W w) (hg : gs[0]? = some (mkE T td)) (hL : Leave Tryz.prog 0 gs fu dw) (ht : S0 (Bl w.heap.size) t) : Runs Tryz.prog (QF W) (crowd gs w sl) t := by
  have := end_runs (P := Tryz.prog) (n := 0) (J := fun w _ t => S0 (Bl w.heap.size) t) (Q := QF W) (fun w dw t d h => h) (fun w dw t k fn pos es hk => absurd hk (by omega)) (g := mkE T td) (w := w) rfl
    (fun d => ⟨_, _, _, end_step hT _, fun gs fu dw t sl w1 hg hL hJ => by
      rw [es_nil]
      refine ⟨_, rfl, ⟨rfl, ?_⟩, fun said => hJ.race said, fun i g hgi h0 => ?_, leave_only hL, leave_hear hL fun k hk => absurd hk (by omega)⟩
      · exact ⟨⟨hF.1.os, hF.1.tape, hF.1.output, hF.1.size, hF.1.block⟩, hF.2⟩
      · obtain ⟨op, ho, hog⟩ := Option.map_eq_some_iff.1 hgi
        exact absurd (hog.symm.trans (hJ.gs i op ho)) h0⟩) _ w.drawn gs fu dw t sl rfl hg hL ht
  exact this
/-- The end of the stage behind it. -/
theorem end_second {Sh : Loc → Prop} {a : Addr} (hz : Z2 W g w) (hg : gs[0]? = some g) (hL : Leave Tryz.prog n gs fu dw) (ht : S2 Sh a n t dw) : Runs Tryz.prog (QF W) (crowd gs w sl) t := by
  obtain ⟨T, td, rfl, hT, hF⟩ := hz
  have := end_runs (P := Tryz.prog) (n := n) (J := fun _ dw t => S2 Sh a n t dw) (Q := QF W) (fun w dw t d h => h) (fun w dw t k fn pos es hk he h => h.leave hk he) (g := mkE T td) (w := w) rfl
    (fun d => ⟨_, _, _, end_step hT _, fun gs fu dw t sl w1 hg hL hJ => by
      rw [es_nil]
      exact ⟨_, rfl, ⟨rfl, ⟨hF.1.os, hF.1.tape, hF.1.output, hF.1.size, hF.1.block⟩, hF.2⟩, fun said => hJ.nr said, hJ.handed, leave_only hL, leave_hear hL hJ.deafW⟩⟩) _ w.drawn gs fu dw t sl rfl hg hL ht
  exact this
end
/-- THE RUN. -/
theorem all_runs {sp : Option Addr} {m c : Nat} {k : Int} {W : World} {xs : List NodeX} (hS : Start sp m c k W xs) : Runs Tryz.prog (QF W) (solo (e3 Tryz.prog sp m c k) W) #[] := by
  have hg0 : (#[e3 Tryz.prog sp m c k] : Array Goroutine)[0]? = some (e3 Tryz.prog sp m c k) := by simp
  have first : Runs Tryz.prog (QF W) (crowd #[e3 Tryz.prog sp m c k] (W.at W.drawn) none) #[] := solo_runs (P := Tryz.prog) (n := 0) (J := fun w _ t => S0 (Bl w.heap.size) t) (Q := QF W) (fun w dw t d h => h) (fun g g' w w' es dw t _ he h => he.step h) (fun w dw t k fn pos es hk => absurd hk (by omega)) (fun g w gs fu dw t sl hz hg hL hJ => ?_) (stage0 hS) _ W.drawn #[e3 Tryz.prog sp m c k] (fun _ => 0) (fun _ => 0) #[] none rfl hg0 (leave0 (by simp)) (S0.nil _)
  · exact first
  rcases hz with ⟨T, td, hgz, hT, hb⟩ | ⟨Sb, K, K', hgz, hG, hk, hB, hSb, hcS, hoS⟩
  all_goals rw [hgz] at hg
  · exact end_first hT ⟨⟨rfl, hb.tape, hb.output, hb.size, hb.block⟩, by rw [hb.os]; exact .refl _⟩ hg hL hJ
  · have hk' : (decide (1 ≤ k) && decide (k ≤ 16)) = true := hk
    rw [Bool.and_eq_true, decide_eq_true_eq, decide_eq_true_eq] at hk'
    obtain ⟨n, rfl⟩ : ∃ n : Nat, k = (n : Int) := ⟨k.toNat, by omega⟩
    have h1 : 1 ≤ n := by omega
    have h16 : n ≤ 16 := by omega
    have h0 : 0 < xs.length := (Sq.tree_tells hG).1
    have hSlt : Sb < w.heap.size := (Array.getElem?_eq_some_iff.1 hoS).1
    have second := solo_runs (P := Tryz.prog) (n := 0) (J := fun _ _ t => S0 (Ok1 (xof w.heap.size Sb)) t) (Q := QF W) (fun w dw t d h => h) (fun g g' w w' es dw t _ he h => he.step h) (fun w dw t k fn pos es hk => absurd hk (by omega)) (fun g w1 gs fu dw t sl hz hg hL hJ => ?_) (stage1 w Sb n h1 h16 K [fr3c Tryz.prog n W.heap.size K']) _ w.drawn gs fu dw t sl rfl hg hL (hJ.mono fun l hl => .inl hl)
    · exact second
    have hgs : gs = #[g] := by
      have hs := hL.1
      apply Array.ext_getElem?
      intro i
      cases i with
      | zero => rw [hg]; rfl
      | succ i => rw [Array.getElem?_eq_none (by omega)]; rfl
    subst hgs
    obtain ⟨hgo, hGr⟩ := id hz
    have hW1 : Below W.heap.size W w1 := hB.below.trans (hGr.below.mono hB.below.size)
    have hbox : w1.cell? ⟨W.heap.size, 0, none⟩ = some (.slice sp m c) := (hGr.below.cell (show W.heap.size < w.heap.size from hB.big)).trans hB.box
    refine crowd_runs (start_hyp (n := n) hS hG h0 hB.below hSlt hSb hGr.below) (fun gs w2 sl t hfin => ?_) _ _ _ _ _ _ _ _ _ _ _ _ _ _ _ rfl (start_i1 hz h1 h16 hSlt hoS hJ)
    obtain ⟨s, kk, fu, dw, mm, Kf, a, hsz, ha, hsil, hq, hwd, hba, hfill, hmade, hs2⟩ := hfin
    have hwalk : Solo Tryz.prog (E2 (xof w.heap.size Sb) (w.heap.size + 9)) (Z2 W) a w2 := Solo.sil (Lv := Live (xof w.heap.size Sb)) (fun g w e he => by simp at he) (fun d => hwd.live) (at_self w2) hsil (stage2 hS hG h0 rfl h1 h16 (xof_dist hSlt) hSb hW1 hbox hwd hba hfill hmade)
    exact solo_runs (P := Tryz.prog) (n := n) (J := fun _ dw t => S2 (fam (xof w.heap.size Sb) (w.heap.size + 9)).Sh (wa (xof w.heap.size Sb)) n t dw) (Q := QF W) (fun w dw t d h => h) (fun g g' w w' es dw t _ he h => he.s2 h) (fun w dw t k fn pos es hk he h => h.leave hk he) (fun g w gs fu dw t sl hz hg hL hJ => end_second hz hg hL hJ) hwalk _ w2.drawn gs fu dw t sl rfl ha ⟨hsz, hq⟩ hs2
end Go.Proofs.YthjofgmiabcifabGreatDoor.So
