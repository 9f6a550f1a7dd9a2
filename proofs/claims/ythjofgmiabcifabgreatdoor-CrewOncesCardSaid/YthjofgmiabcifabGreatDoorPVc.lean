/-
  The crowd is started.
  Conditions: as each theorem says.
-/
import Derived.Test.YthjofgmiabcifabGreatDoorPRc
import Derived.Test.YthjofgmiabcifabGreatDoorPVb
set_option linter.unusedVariables false
set_option linter.unusedSimpArgs false
namespace Go.Proofs.YthjofgmiabcifabGreatDoor.So
open Go Go.Conc Go.RowKit
open Go.ConcN (PermW upd)
open Go.ConcM (OsLater)
open Go.Proofs.YthjofgmiabcifabGreatDoor.Ev Go.Proofs.YthjofgmiabcifabGreatDoor.Co Go.Proofs.YthjofgmiabcifabGreatDoor.Ab Go.Proofs.YthjofgmiabcifabGreatDoor.Mc Go.Proofs.YthjofgmiabcifabGreatDoor.Ma Go.Proofs.YthjofgmiabcifabGreatDoor.Tr
open Go.Proofs.YthjofgmiabcifabGreatDoor.Lift (LSt)
/-- crew.Once's blocks. -/
def xof (h Sb : Nat) : Cx := ⟨h, Sb, h + 1, h + 2, h + 3, h + 4, h + 5, h + 6, h + 7, h + 8⟩
theorem xof_dist {h Sb : Nat} (hs : Sb < h) : Dist (xof h Sb) (h + 9) := by
  constructor <;> simp only [xof] <;> omega
/-- The world with new objects. -/
structure Grow (w0 w : World) (l : List Obj) : Prop where
  heap : w.heap = w0.heap ++ l.toArray
  os : w.os = w0.os
  tape : w.tape = w0.tape
  output : w.output = w0.output
theorem Grow.refl (w : World) : Grow w w [] := ⟨by simp, rfl, rfl, rfl⟩
theorem Grow.cast {w0 w : World} {l l' : List Obj} (h : Grow w0 w l) (e : l = l') : Grow w0 w l' := e ▸ h
theorem Grow.at {w0 w : World} {l : List Obj} (h : Grow w0 w l) (d : Nat) : Grow w0 (w.at d) l := ⟨h.heap, h.os, h.tape, h.output⟩
theorem Grow.size {w0 w : World} {l : List Obj} (h : Grow w0 w l) : w.heap.size = w0.heap.size + l.length := by rw [h.heap]; simp
theorem Grow.push {w0 w : World} {l : List Obj} (h : Grow w0 w l) (o : Obj) : Grow w0 { w with heap := w.heap.push o } (l ++ [o]) := ⟨by show w.heap.push o = _; rw [h.heap]; apply Array.ext'; simp, h.os, h.tape, h.output⟩
theorem Grow.get {w0 w : World} {l : List Obj} (h : Grow w0 w l) (i : Nat) : w.heap[w0.heap.size + i]? = l[i]? := by rw [h.heap, Array.getElem?_append_right (by omega)]; simp
theorem Grow.old {w0 w : World} {l : List Obj} (h : Grow w0 w l) {b : Nat} (hb : b < w0.heap.size) : w.heap[b]? = w0.heap[b]? := by rw [h.heap, Array.getElem?_append_left hb]
theorem Grow.set {w0 w : World} {l : List Obj} (h : Grow w0 w l) (i : Nat) {u v : Value} {t : TypeId} {f : Nat × Nat} (hi : l[i]? = some (.cells #[u] t f)) : Grow w0 (w.setCell ⟨w0.heap.size + i, 0, none⟩ v) (l.set i (.cells #[v] t f)) := by
  have hs := h.size
  have hl : i < l.length := (List.getElem?_eq_some_iff.1 hi).1
  refine ⟨?_, h.os, h.tape, h.output⟩
  apply Array.ext_getElem?
  intro b
  by_cases e : b = w0.heap.size + i
  · subst e
    rw [heap_set_same ((h.get i).trans hi), Array.getElem?_append_right (by omega)]
    simp [hl]
  · rw [heap_set_ne e, h.heap]
    by_cases hb : b < w0.heap.size
    · rw [Array.getElem?_append_left hb, Array.getElem?_append_left hb]
    · rw [Array.getElem?_append_right (by omega), Array.getElem?_append_right (by omega)]
      simp only [List.getElem?_toArray]
      rw [List.getElem?_set_ne (by omega)]
theorem Grow.below {w0 w : World} {l : List Obj} (h : Grow w0 w l) : Below w0.heap.size w0 w := ⟨h.os, h.tape, h.output, by rw [h.size]; omega, fun b hb => h.old hb⟩
/-- A step that lays crew.Once's blocks. -/
def E1 (x : Cx) (g : Goroutine) (w w' : World) (es : Array Event) : Prop := ∀ e ∈ es, ∃ a wr, e = ⟨.cell a, wr, false⟩ ∧ (a.block = x.Ob ∨ a.block = x.Nb)
def Ok1 (x : Cx) (l : Loc) : Prop := Bl x.On l ∨ ∃ a, l = .cell a ∧ (a.block = x.Ob ∨ a.block = x.Nb)
theorem E1.step {x : Cx} {g : Goroutine} {w w' : World} {es : Array Event} {t : Trace} {fn : FuncId} {pos : String} (h : E1 x g w w' es) (ht : S0 (Ok1 x) t) : S0 (Ok1 x) (t ++ MemOp.ofEvents 0 fn pos es) :=
  ht.app (fun l hl => hl) fun e he => by
    obtain ⟨a, wr, rfl, ha⟩ := h e he
    refine ⟨.inl ⟨a, rfl⟩, fun y hy => .inr ⟨a, ?_, ha⟩⟩
    have := touch_cell hy
    subst this
    rfl
/-- What it lists. -/
def okL1 (x : Cx) (l : List Fx) : Prop := ∀ e ∈ esOf l, ∃ a wr, e = ⟨.cell a, wr, false⟩ ∧ (a.block = x.Ob ∨ a.block = x.Nb)
theorem go1 {x : Cx} {Z : Goroutine → World → Prop} {g h : Goroutine} {w : World} {n : Nat} {ans ans' : List Ans} {l l' : List Fx} (hs : gseg Tryz.prog CC true n g ans ans' = some (l, h, l')) (hr : g.status = .running) (hf : okL1 x l) (h1 : ∀ d, okOf l (w.at d))
    (h2 : ∀ w, okOf l' w) (h5 : ∀ d, Solo Tryz.prog (E1 x) Z h (wOf l (w.at d))) : Solo Tryz.prog (E1 x) Z g w :=
  Solo.seg ccOk hs (Lv := fun _ => True) (fun g w e he => by simp at he) hr h1 (fun w _ => h2 w) (fun _ _ => trivial) (fun d g' _ e he => hf e (by simpa using Lift.mem_seen he)) h5
theorem new1 {x : Cx} {o : Obj} {n : Nat} : okL1 x [.new o n] := fun e he => by cases he
theorem sil1 {x : Cx} {Z : Goroutine → World → Prop} {g h : Goroutine} {w : World} {n : Nat} {ans : List Ans} {l : List Fx} (hs : grun Tryz.prog CC true n g ans = some (h, l)) (h2 : ∀ w, okOf l w) (h5 : Solo Tryz.prog (E1 x) Z h w) : Solo Tryz.prog (E1 x) Z g w :=
  Solo.sil (Lv := fun _ => True) (fun g w e he => by simp at he) (fun _ => trivial) (at_self w) (grun_sound ccOk hs fun w _ => h2 w) h5
/-- What lies there. -/
def objs (x : Cx) (n : Nat) : List Obj := [.cells #[.int .u32 0, .int .i32 0, .int .u32 0] 44, .cells #[.slice none 0 0] 45, .cells #[.int .i64 0] 48, .cells (Array.replicate n (.int .u16 0)) 29, .cells #[.slice (some ⟨x.Oa, 0, none⟩) n n] 25,
  .cells #[dof x] 57, .chan 0 #[] false 0 0 false, .cells #[.chan (some x.Ch)] 74, .cells #[.int .u64 0, .int .u32 0] 79]
/-- How it ends. -/
def Z1 (w0 : World) (Sb n : Nat) (cs : List Frame) (g : Goroutine) (w : World) : Prop :=
  (∃ J Q, g = sGa Tryz.prog (xof w0.heap.size Sb) n 0 (fr4 Tryz.prog (xof w0.heap.size Sb) n Q :: cs) J) ∧ Grow w0 w (objs (xof w0.heap.size Sb) n)
set_option maxHeartbeats 4000000 in
theorem stage1 (w0 : World) (Sb n : Nat) (h1 : 1 ≤ n) (h16 : n ≤ 16) (K : Nat → Value) (cs : List Frame) : Solo Tryz.prog (E1 (xof w0.heap.size Sb)) (Z1 w0 Sb n cs) (c1 Tryz.prog n Sb K cs) w0 := by
  obtain ⟨x, hx⟩ : ∃ x, xof w0.heap.size Sb = x := ⟨_, rfl⟩
  have eOn : x.On = w0.heap.size := by rw [← hx]; rfl
  have eSb : x.Sb = Sb := by rw [← hx]; rfl
  have ePa : x.Pa = w0.heap.size + 1 := by rw [← hx]; rfl
  have eMd : x.Md = w0.heap.size + 2 := by rw [← hx]; rfl
  have eOa : x.Oa = w0.heap.size + 3 := by rw [← hx]; rfl
  have eOb : x.Ob = w0.heap.size + 4 := by rw [← hx]; rfl
  have eFb : x.Fb = w0.heap.size + 5 := by rw [← hx]; rfl
  have eCh : x.Ch = w0.heap.size + 6 := by rw [← hx]; rfl
  have eNb : x.Nb = w0.heap.size + 7 := by rw [← hx]; rfl
  have eWg : x.Wg = w0.heap.size + 8 := by rw [← hx]; rfl
  have fin : ∀ {g w}, (∃ J Q, g = sGa Tryz.prog x n 0 (fr4 Tryz.prog x n Q :: cs) J) → Grow w0 w (objs x n) → Solo Tryz.prog (E1 x) (Z1 w0 x.Sb n cs) g w := fun h1 h2 => .stop fun d => by unfold Z1; rw [eSb, hx]; exact ⟨h1, h2.at d⟩
  rw [hx]
  clear hx
  rw [← eSb]
  have st : ∀ {w : World} {l : List Obj} (h : Grow w0 w l) (b : Nat) (e : b = w0.heap.size + l.length) (o : Obj) (d : Nat), okOf [.new o b] (w.at d) := fun h b e o d => And.intro (by show _ = b; rw [e]; exact h.size) trivial
  have g0 := Grow.refl w0
  refine go1 (c1_s n x.Sb K cs x.On) (by kernel_rfl) new1 (fun d => st g0 _ eOn _ d) (fun _ => trivial) fun d => ?_
  have g1 := (g0.at d).push (.cells #[.int .u32 0, .int .i32 0, .int .u32 0] 44)
  change Solo _ _ _ _ ({ w0.at d with heap := _ } : World)
  generalize ({ w0.at d with heap := (w0.at d).heap.push (.cells #[.int .u32 0, .int .i32 0, .int .u32 0] 44) } : World) = w1 at g1 ⊢
  refine go1 (c2_s n x.Sb K cs x.On x.Pa) (by kernel_rfl) new1 (fun d => st g1 _ ePa _ d) (fun _ => trivial) fun d => ?_
  have g2 := (g1.at d).push (.cells #[.slice none 0 0] 45)
  change Solo _ _ _ _ ({ w1.at d with heap := _ } : World)
  generalize ({ w1.at d with heap := (w1.at d).heap.push (.cells #[.slice none 0 0] 45) } : World) = w2 at g2 ⊢
  refine go1 (c3_s n x.Sb K cs x.On x.Pa x.Md) (by kernel_rfl) new1 (fun d => st g2 _ eMd _ d) (fun _ => trivial) fun d => ?_
  have g3 := (g2.at d).push (.cells #[.int .i64 0] 48)
  change Solo _ _ _ _ ({ w2.at d with heap := _ } : World)
  generalize ({ w2.at d with heap := (w2.at d).heap.push (.cells #[.int .i64 0] 48) } : World) = w3 at g3 ⊢
  refine go1 (c4_s x n K cs h1 h16) (by kernel_rfl) new1 (fun d => st g3 _ eOa _ d) (fun _ => trivial) fun d => ?_
  have g4 := (g3.at d).push (.cells (Array.replicate n (.int .u16 0)) 29)
  change Solo _ _ _ _ ({ w3.at d with heap := _ } : World)
  generalize ({ w3.at d with heap := (w3.at d).heap.push (.cells (Array.replicate n (.int .u16 0)) 29) } : World) = w4 at g4 ⊢
  generalize (junk (c4 Tryz.prog n x.Sb K cs x.On x.Pa x.Md)) = K5
  refine go1 (mk5_s x n cs K5) (by kernel_rfl) new1 (fun d => st g4 _ eOb _ d) (fun _ => trivial) fun d => ?_
  have g5 := (g4.at d).push (.cells #[.slice none 0 0] 25)
  change Solo _ _ _ _ ({ w4.at d with heap := _ } : World)
  generalize ({ w4.at d with heap := (w4.at d).heap.push (.cells #[.slice none 0 0] 25) } : World) = w5 at g5 ⊢
  have o5 : w5.heap[x.Ob]? = some (.cells #[.slice none 0 0] 25) := by rw [eOb, g5.get]; rfl
  refine go1 (c6_s x n cs K5) (by kernel_rfl) (fun e he => by simp [esOf] at he; subst he; exact ⟨_, _, rfl, .inl rfl⟩) (fun d => And.intro ⟨_, cell_of (w := w5.at d) o5 rfl⟩ (And.intro (frz_of (w := w5.at d) o5) trivial)) (fun _ => trivial) fun d => ?_
  have g6 := (g5.at d).set (v := .slice (some ⟨x.Oa, 0, none⟩) n n) 4 (hi := rfl)
  rw [← eOb] at g6
  have g6 := g6.cast (l' := [.cells #[.int .u32 0, .int .i32 0, .int .u32 0] 44, .cells #[.slice none 0 0] 45, .cells #[.int .i64 0] 48, .cells (Array.replicate n (.int .u16 0)) 29, .cells #[.slice (some ⟨x.Oa, 0, none⟩) n n] 25]) rfl
  change Solo _ _ _ _ ((w5.at d).setCell _ _)
  generalize (w5.at d).setCell ⟨x.Ob, 0, none⟩ (.slice (some ⟨x.Oa, 0, none⟩) n n) = w6 at g6 ⊢
  generalize (fun i => ((Co.st Tryz.prog true 7 (c6 Tryz.prog x n cs K5) [] []).callers.headD default).tmps.getD i undef) = Q
  refine sil1 (e8_q x n _) (fun _ => trivial) ?_
  refine go1 (bx_s x n _) (by kernel_rfl) new1 (fun d => st g6 _ eFb _ d) (fun _ => trivial) fun d => ?_
  have g7 := (g6.at d).push (.cells #[dof x] 57)
  change Solo _ _ _ _ ({ w6.at d with heap := _ } : World)
  generalize ({ w6.at d with heap := (w6.at d).heap.push (.cells #[dof x] 57) } : World) = w7 at g7 ⊢
  refine go1 (mc_s x n _) (by kernel_rfl) new1 (fun d => st g7 _ eCh _ d) (fun _ => trivial) fun d => ?_
  have g8 := (g7.at d).push (.chan 0 #[] false 0 0 false)
  change Solo _ _ _ _ ({ w7.at d with heap := _ } : World)
  generalize ({ w7.at d with heap := (w7.at d).heap.push (.chan 0 #[] false 0 0 false) } : World) = w8 at g8 ⊢
  refine go1 (al_s x n _) (by kernel_rfl) new1 (fun d => st g8 _ eNb _ d) (fun _ => trivial) fun d => ?_
  have g9 := (g8.at d).push (.cells #[.chan none] 74)
  change Solo _ _ _ _ ({ w8.at d with heap := _ } : World)
  generalize ({ w8.at d with heap := (w8.at d).heap.push (.cells #[.chan none] 74) } : World) = w9 at g9 ⊢
  have o9 : w9.heap[x.Nb]? = some (.cells #[.chan none] 74) := by rw [eNb, g9.get]; rfl
  refine go1 (stn_s x n _) (by kernel_rfl) (fun e he => by simp [esOf] at he; subst he; exact ⟨_, _, rfl, .inr rfl⟩) (fun d => And.intro ⟨_, cell_of (w := w9.at d) o9 rfl⟩ (And.intro (frz_of (w := w9.at d) o9) trivial)) (fun _ => trivial) fun d => ?_
  have g10 := (g9.at d).set (v := .chan (some x.Ch)) 7 (hi := rfl)
  rw [← eNb] at g10
  have g10 := g10.cast (l' := [.cells #[.int .u32 0, .int .i32 0, .int .u32 0] 44, .cells #[.slice none 0 0] 45, .cells #[.int .i64 0] 48, .cells (Array.replicate n (.int .u16 0)) 29, .cells #[.slice (some ⟨x.Oa, 0, none⟩) n n] 25, .cells #[dof x] 57, .chan 0 #[] false 0 0 false, .cells #[.chan (some x.Ch)] 74]) rfl
  change Solo _ _ _ _ ((w9.at d).setCell _ _)
  generalize (w9.at d).setCell ⟨x.Nb, 0, none⟩ (.chan (some x.Ch)) = w10 at g10 ⊢
  have s10 : w10.heap.size = w0.heap.size + 8 := by have := g10.size; simpa using this
  have hs := aw_s2 x n (fr4 Tryz.prog x n Q :: cs)
  refine go1 hs ?_ new1 ?_ ?_ ?_
  · kernel_rfl
  · exact fun d => And.intro (s10.trans eWg.symm) trivial
  · exact fun _ => trivial
  intro d
  have g11 := (g10.at d).push (.cells #[.int .u64 0, .int .u32 0] 79)
  change Solo _ _ _ _ ({ w10.at d with heap := _ } : World)
  generalize ({ w10.at d with heap := (w10.at d).heap.push (.cells #[.int .u64 0, .int .u32 0] 79) } : World) = w11 at g11 ⊢
  rw [lp0_is]
  have e1 : cm .lss 0 n = true := by rw [ltb]; simp; omega
  have gF : Grow w0 w11 (objs x n) := by unfold objs; exact g11
  refine sil1 (lp_ga x n 0 (fr4 Tryz.prog x n Q :: cs) (junk (sLp0 Tryz.prog x n (fr4 Tryz.prog x n Q :: cs)))) ?_ ?_
  · intro w
    exact And.intro e1 (And.intro rfl (And.intro rfl trivial))
  · generalize (junk (sLp0 Tryz.prog x n (fr4 Tryz.prog x n Q :: cs))) = JJ
    have hg : ∃ J Q', sGa Tryz.prog x n 0 (fr4 Tryz.prog x n Q :: cs) JJ = sGa Tryz.prog x n 0 (fr4 Tryz.prog x n Q' :: cs) J := ⟨JJ, Q, rfl⟩
    exact fin hg gF
end Go.Proofs.YthjofgmiabcifabGreatDoor.So
namespace Go.Proofs.YthjofgmiabcifabGreatDoor.So
open Go Go.Conc Go.RowKit
open Go.ConcN (PermW upd)
open Go.ConcM (OsLater)
open Go.Proofs.YthjofgmiabcifabGreatDoor.Ev Go.Proofs.YthjofgmiabcifabGreatDoor.Co Go.Proofs.YthjofgmiabcifabGreatDoor.Ab Go.Proofs.YthjofgmiabcifabGreatDoor.Mc Go.Proofs.YthjofgmiabcifabGreatDoor.Ma Go.Proofs.YthjofgmiabcifabGreatDoor.Tr
open Go.Proofs.YthjofgmiabcifabGreatDoor.Lift (LSt)
open Go.Proofs.YthjofgmiabcifabGreatDoor.Sq (NodesAt NodeX treeB ableI)
theorem S0.race {Ok : Loc → Prop} {t : Trace} (h : S0 Ok t) (said : Bool) : ¬ Race said t := by
  have h0 : ¬ Race said (#[] : Trace) := by
    rintro ⟨i, j, _, ⟨a, b, ha, _⟩, _⟩
    simp [touchAt, Trace.act?] at ha
  have := noRace_append (g := 0) (u := t) h0 (fun op hop => by
    obtain ⟨i, hi⟩ := Array.getElem?_of_mem hop
    exact h.gs i op hi) (fun i a ha => by simp [touchAt, Trace.act?] at ha)
  simpa using this
theorem ok1_no {h Sb : Nat} {l : Loc} (hok : Ok1 (xof h Sb) l) : ¬ (fam (xof h Sb) (h + 9)).Sh l := by
  rintro (⟨a, rfl, ha⟩ | rfl)
  · rcases hok with hb | ⟨b, e, hb⟩
    · have hb : a.block < h := hb
      simp only [xof] at ha
      omega
    · cases e
      simp only [xof] at ha hb
      omega
  · rcases hok with hb | ⟨b, e, hb⟩
    · have hb : h + 6 < h := hb
      omega
    · cases e
def s0 : Ab.Sh := ⟨false, .zero, 0, false, 0, 0, false, fun _ => false, 0, 0, 0⟩
def k0 : Parts := ⟨⟨0, 0, none⟩, 0, 0, 0, undef⟩
def D0 : Nat → TD := fun _ => { ph := .ldN }
theorem start_tl {h Sb n : Nat} {t : Trace} (ht : S0 (Ok1 (xof h Sb)) t) : TL (fam (xof h Sb) (h + 9)) n 0 D0 s0 t := by
  refine ⟨fun i op x hi hx hs => ?_, ht.race, fun i op hi => by rw [ht.gs i op hi]; exact Nat.le_refl _, fun g hg l _ i a ha _ _ => ?_, fun i _ _ g hg i a ha _ => ?_, fun _ _ g hg l _ i a ha _ => ?_, fun _ k hk => absurd hk (by omega), fun h => (by cases h)⟩
  · exact absurd hs (ok1_no (ht.tch i x (by rw [touchAt_of hi]; exact hx)))
  all_goals
    obtain rfl : g = 0 := by omega
    exact ht.knows ha
theorem start_rl {h Sb : Nat} {t : Trace} (ht : S0 (Ok1 (xof h Sb)) t) : RL (fam (xof h Sb) (h + 9)).Sh (wa (xof h Sb)) 0 D0 t (fun _ => 0) (dC .ga) :=
  ⟨ht.norel _, ht.deaf0, fun k hk => absurd hk (by omega), fun k hk => absurd hk (by omega)⟩
/-- THE CROWD's INVARIANT AT ITS START. -/
theorem start_i1 {w0 w : World} {Sb n : Nat} {cs : List Frame} {g : Goroutine} {sp : Option Addr} {m c : Nat} {u : Int} {L : List FuncId} {t : Trace} (hz : Z1 w0 Sb n cs g w) (h1 : 1 ≤ n) (h16 : n ≤ 16) (hSb : Sb < w0.heap.size) (hsv : w0.heap[Sb]? = some (.cells #[.slice sp m c] 24))
    (ht : S0 (Ok1 (xof w0.heap.size Sb)) t) : I1 (xof w0.heap.size Sb) n (w0.heap.size + 9) cs u w sp m c L #[g] w 0 D0 { ph := .ga } s0 k0 (fun _ => 0) (fun _ => 0) 0 none w t := by
  obtain ⟨hg, hG⟩ := hz
  have get : ∀ i o, (objs (xof w0.heap.size Sb) n)[i]? = some o → w.heap[w0.heap.size + i]? = some o := fun i o h => (hG.get i).trans h
  have hs := hG.size
  have hs : w.heap.size = w0.heap.size + 9 := hs
  refine ⟨rfl, AInv.init n h1 h16 _, ⟨get 0 _ rfl, get 1 _ rfl, get 2 _ rfl, ⟨_, get 3 _ rfl, by simp, fun i _ h => (by cases h)⟩, get 6 _ rfl, get 8 _ rfl, fun h => (by cases h), fun _ _ _ => rfl, by omega, rfl, .refl _, rfl⟩,
    ⟨get 4 _ rfl, get 5 _ rfl, get 7 _ rfl, (hG.old hSb).trans hsv⟩, ⟨g, rfl, .inl ⟨g, rfl, hg⟩⟩, fun i hi => absurd hi (by omega), fun a _ _ _ i _ hi => absurd hi (by omega), fun i hi => absurd hi (by omega), start_tl ht, start_rl ht, fun l e => (by cases e), fun h => (by cases h)⟩
/-- WHAT THE CROWD's LAW ASKS. -/
theorem start_hyp {W w0 w : World} {Sb n : Nat} {sp : Option Addr} {m c : Nat} {k : Int} {xs : List NodeX} (hS : Start sp m c k W xs) (hG : treeB (xs.map NodeX.row) = true) (h0 : 0 < xs.length) (hB : Below W.heap.size W w0) (hSb : Sb < w0.heap.size) (hW : W.heap.size < Sb)
    (hg : Below w0.heap.size w0 w) : Hyp (xof w0.heap.size Sb) n (w0.heap.size + 9) (ableI (xs[0]'h0).n (xs[0]'h0).ws) w sp m c Sq.LS := by
  refine ⟨xof_dist hSb, list_ok, list_inits, by decide, fun Wc z hz hold => ?_⟩
  refine Lift.ends_of_calls (n := 0) (fun w' ⟨_, _, _, _, _, e, _⟩ => by cases e) fun T _ => ?_
  have hc : ∀ a v, W.cell? a = some v → ({ z with tape := T } : World).cell? a = some v := fun a v hv => by
    have hlt := World.block_lt_of_cell? W a hv
    have e1 : w.heap[a.block]? = W.heap[a.block]? := (hg.block _ (by omega)).trans (hB.block _ hlt)
    cases hb : W.heap[a.block]? with
    | none => unfold World.cell? at hv; rw [hb] at hv; cases hv
    | some o =>
      cases o with
      | cells cc tt f =>
        obtain ⟨f', e2⟩ := hold a.block cc tt f (by omega) (by simp only [Turned, xof]; omega) (e1.trans hb)
        unfold World.cell? at hv ⊢
        rw [hb] at hv
        rw [show ({ z with tape := T } : World).heap[a.block]? = _ from e2]
        exact hv
      | _ => unfold World.cell? at hv; rw [hb] at hv; cases hv
  refine CallsIn.mono (Sq.treemade_in valid sp m c xs _ (nodes_of hS.nodes hc) (hS.tabs.of_cells hc) hG h0) fun e w' ⟨pa, pl, pc, t, v, h1, h2, h3, h4, h5⟩ => ?_
  exact ⟨pa, pl, pc, t, v, h1, h2, h3, Nat.le_trans hz h4, canOk_of h5⟩
end Go.Proofs.YthjofgmiabcifabGreatDoor.So
