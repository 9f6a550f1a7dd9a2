/-
  Tree.Made, by the plain law.
  Conditions: as each theorem says.
-/
import Derived.Test.YthjofgmiabcifabGreatDoorPSi
import Derived.Test.YthjofgmiabcifabGreatDoorPRb
import Derived.Maps.AppendAt
set_option linter.unusedVariables false
set_option linter.unusedSimpArgs false
namespace Go.Proofs.YthjofgmiabcifabGreatDoor.Sq
open Go Go.RowKit
/-- What tree.Made hands back: parts, the first of which can so much. -/
def TreePost (c : Int) (w : World) (e : Ending) (w' : World) : Prop := ∃ pa pl pc t v, e = .returned (.tuple #[.slice (some pa) pl pc, .int .i64 0]) ∧ w'.cell? pa = some (.iface t v) ∧ 0 < pl ∧ w.heap.size ≤ pa.block ∧ TyCan t c
/-- A part or none. -/
def IsP (u : Value) : Prop := u = .nilIface ∨ ∃ t v, u = .iface t v
theorem IsP.one {u : Value} (h : IsP u) : u.oneCell' = true := by
  rcases h with rfl | ⟨t, v, rfl⟩ <;> rfl
/-- A row of parts. -/
def RowP (w : World) (b n : Nat) : Prop := ∀ i, i < n → (∃ u, w.cell? ⟨b, i, none⟩ = some u ∧ IsP u) ∧ w.frozen? ⟨b, i, none⟩ = false
theorem rowP_made (w : World) (n : Nat) (t : TypeId) : RowP (w.alloc (.cells (madeCells #[.nilIface] n) t)) w.heap.size n := fun i hi =>
  ⟨⟨.nilIface, by rw [cell_new, madeCells_get _ _ _ hi]; simp [Nat.mod_one], .inl rfl⟩, World.frozen?_alloc_new w _ t _⟩
theorem RowP.below {w w' : World} {b n : Nat} (h : RowP w b n) (hb : Below w.heap.size w w') : RowP w' b n := fun i hi => by
  obtain ⟨⟨u, h1, h2⟩, h3⟩ := h i hi
  exact ⟨⟨u, (hb.cell (cell_lt h1)).trans h1, h2⟩, (hb.frozen (p := ⟨b, i, none⟩) (cell_lt h1)).trans h3⟩
theorem RowP.kept {w w' : World} {b n : Nat} {row : Option Nat} (h : RowP w b n) (hg : w.grownBy w' row) (hr : ∀ r, row = some r → ∃ o : Obj, w.heap[r]? = some o ∧ o.isCells = false) : RowP w' b n := fun i hi => by
  obtain ⟨⟨u, h1, h2⟩, h3⟩ := h i hi
  exact ⟨⟨u, cell_kept h1 hg hr, h2⟩, (frozen_kept h1 hg hr).trans h3⟩
theorem RowP.set {w : World} {b n k : Nat} (h : RowP w b n) (hk : k < n) {u : Value} (hu : IsP u) : RowP (w.setCell ⟨b, k, none⟩ u) b n := fun i hi => by
  obtain ⟨⟨u1, h1, h2⟩, h3⟩ := h i hi
  refine ⟨?_, by rw [World.frozen?_setCell]; exact h3⟩
  by_cases e : i = k
  · subst e; exact ⟨u, World.cell?_setCell_same _ _ _ h1, hu⟩
  · exact ⟨u1, (World.cell?_setCell_other _ _ _ _ (by intro e2; cases e2; exact e rfl)).trans h1, h2⟩
theorem owns_parts {w : World} {base : Nat} {v : Value} {n : Nat} {us : List Value} (h : w.ownsRow base 56 1 v n us) (hu : ∀ u ∈ us, u.oneCell' = true) : PartsAt w v n := by
  rcases h.2 with ⟨h1, h2⟩ | ⟨g, cap, cur, h1, _, h2, h3, _, h4, h5⟩
  · exact .inl ⟨h1, h2⟩
  · refine .inr ⟨g, cap, h1, fun j hj => ?_⟩
    rw [Nat.mul_one] at h4 h5
    have hj2 : j < cur.size := by omega
    refine ⟨cur[j], by simp [World.cell?, h2, hj2], hu _ ?_⟩
    rw [← h5]
    exact List.mem_take_iff_getElem.2 ⟨j, by simp; omega, by simp⟩
theorem kin_kids {n : Nat} : ∀ (l : List NodeX) (i : Nat) {P Pf : Nat → Int}, refAll n (l.map NodeX.kids) i P = some Pf → ∀ j (h : j < l.length), ∀ v ∈ l[j].kids, 0 ≤ v ∧ v < n := by
  have kk : ∀ (i : Nat) (ks : List Int) {P P' : Nat → Int}, refKids n i ks P = some P' → ∀ v ∈ ks, 0 ≤ v ∧ v < n := by
    intro i ks
    induction ks with
    | nil => intro P P' _ v hv; cases hv
    | cons k ks ih =>
      intro P P' h v hv
      unfold refKids at h
      split at h
      · cases h
      · rename_i hc
        rcases List.mem_cons.1 hv with rfl | hv
        · exact ⟨by omega, by omega⟩
        · exact ih h v hv
  intro l
  induction l with
  | nil => intro i P Pf _ j h; cases h
  | cons x l ih =>
    intro i P Pf h j hj v hv
    simp only [List.map_cons, refAll] at h
    cases hk : refKids n i x.kids P with
    | none => rw [hk] at h; cases h
    | some P' =>
      rw [hk] at h
      cases j with
      | zero => exact kk i x.kids hk v hv
      | succ j => exact ih (i + 1) h j (by simpa using hj) v hv
theorem others_of {W W' : World} (h : Below W.heap.size W W') : KeepsOthers W W' := ⟨h.size, fun k o hk _ => (h.block k (Array.getElem?_eq_some_iff.1 hk).1).trans hk⟩
theorem results_cell2 {fn : Func} {tmps : Array Value} {w : World} {p u : Tmp} {t1 t2 : TypeId} {a1 a2 : Addr} {v1 v2 : Value} (h : fn.results = #[.cell p t1, .cell u t2]) (hp : tmps.getD p undef = .pointer (some a1)) (hu : tmps.getD u undef = .pointer (some a2))
    (h1 : (loadVar t1 a1).run Tryz.prog w = .ok v1 w) (h2 : (loadVar t2 a2).run Tryz.prog w = .ok v2 w) : (results fn tmps).run Tryz.prog w = .ok (.tuple #[v1, v2]) w := by
  rw [Array.getD_eq_getD_getElem?] at hp hu
  simp [results, h, hp, hu, asAddr, Sem.run_bind, Result.andThen, h1, h2]
theorem heap_setCell_ne {w : World} {a : Addr} {v : Value} {k : Nat} (h : k ≠ a.block) : (w.setCell a v).heap[k]? = w.heap[k]? := Below.heap_setCell w a v k h
theorem adr_ne {p q : Addr} (h : p.block ≠ q.block) : p ≠ q := fun e => h (by rw [e])
theorem load45 {a : Addr} {v : Value} {w : World} (hc : w.cell? a = some v) : (loadVar 45 a).run Tryz.prog w = .ok v w := by go_simp
theorem load26 {a : Addr} {v : Value} {w : World} (hc : w.cell? a = some v) : (loadVar 26 a).run Tryz.prog w = .ok v w := by go_simp
/-- Between two rounds. -/
structure MI (w : World) (bl b5 r2 r3 n s0 : Nat) (Ai : Int) (pre : List Nat) (W : World) : Prop where
  below : Below w.heap.size w W
  big : s0 ≤ W.heap.size
  row : RowP W bl n
  box : W.cell? ⟨b5, 0, none⟩ = some (.slice (some ⟨bl, 0, none⟩) n n)
  c2 : W.cell? ⟨r2, 0, none⟩ = some (.slice none 0 0)
  f2 : W.frozen? ⟨r2, 0, none⟩ = false
  c3 : W.cell? ⟨r3, 0, none⟩ = some (.int .i64 0)
  f3 : W.frozen? ⟨r3, 0, none⟩ = false
  root : 0 ∈ pre → ∃ t v, W.cell? ⟨bl, 0, none⟩ = some (.iface t v) ∧ TyCan t Ai
theorem MI.on {w : World} {bl b5 r2 r3 n s0 : Nat} {Ai : Int} {pre : List Nat} {W W' : World} (h : MI w bl b5 r2 r3 n s0 Ai pre W) (hb : Below W.heap.size W W') : MI w bl b5 r2 r3 n s0 Ai pre W' :=
  ⟨h.below.trans (hb.mono h.below.size), Nat.le_trans h.big hb.size, h.row.below hb, (hb.cell (cell_lt h.box)).trans h.box, (hb.cell (cell_lt h.c2)).trans h.c2, (hb.frozen (p := ⟨r2, 0, none⟩) (cell_lt h.c2)).trans h.f2,
    (hb.cell (cell_lt h.c3)).trans h.c3, (hb.frozen (p := ⟨r3, 0, none⟩) (cell_lt h.c3)).trans h.f3, fun h0 => by
      obtain ⟨t, v, h1, h2⟩ := h.root h0
      exact ⟨t, v, (hb.cell (cell_lt h1)).trans h1, h2⟩⟩
theorem MI.kept {w : World} {bl b5 r2 r3 n s0 : Nat} {Ai : Int} {pre : List Nat} {W W' : World} {row : Option Nat} (h : MI w bl b5 r2 r3 n s0 Ai pre W) (hB : w.heap.size ≤ s0) (hg : W.grownBy W' row) (hr : ∀ r, row = some r → s0 ≤ r ∧ ∃ o : Obj, W.heap[r]? = some o ∧ o.isCells = false) : MI w bl b5 r2 r3 n s0 Ai pre W' :=
  have hr' := fun r e => (hr r e).2
  ⟨h.below.grown hg h.below.size (fun k e => Nat.le_trans hB (hr k e).1), Nat.le_trans h.big hg.size, h.row.kept hg hr', cell_kept h.box hg hr', cell_kept h.c2 hg hr', (frozen_kept h.c2 hg hr').trans h.f2, cell_kept h.c3 hg hr', (frozen_kept h.c3 hg hr').trans h.f3, fun h0 => by
    obtain ⟨t, v, h1, h2⟩ := h.root h0
    exact ⟨t, v, cell_kept h1 hg hr', h2⟩⟩
set_option maxRecDepth 100000 in
set_option maxHeartbeats 8000000 in
theorem treemade_in {T : World → Prop} (V : ValidIn T) (sp : Option Addr) (m c : Nat) (xs : List NodeX) (w : World) (hn : NodesAt w (.slice sp m c) xs) (hT : T w) (hG : treeB (xs.map NodeX.row) = true) (h0 : 0 < xs.length) :
    CallsIn FF 0 Tryz.prog 12 #[.agg #[.slice sp m c]] w (TreePost (ableI (xs[0]'h0).n (xs[0]'h0).ws) w) := by
  obtain ⟨i0, hi0, hz1, hz2, hz3⟩ := info_parts info56
  obtain ⟨t1, t2, t3, Pf, hPf, _⟩ := tree_tells hG
  have hkids : ∀ j (h : j < xs.length), ∀ v ∈ xs[j].kids, 0 ≤ v ∧ v < (xs.length : Nat) := kin_kids xs 0 hPf.1
  have HKd := Lib.hid hkids
  clear hkids hPf
  have c6 := fun (w' : World) (h : Below w.heap.size w w') => tcheck_in V sp m c xs w' (hn.below h) (V.below _ _ hT h)
  rw [hG] at c6
  rcases hn with ⟨_, rfl⟩ | ⟨b, o, cap, e, hlm, hx⟩
  · cases h0
  obtain ⟨rfl, rfl, rfl⟩ : sp = some ⟨b, o, none⟩ ∧ m = xs.length ∧ c = cap := by cases e; exact ⟨rfl, rfl, rfl⟩
  clear e hlm hG
  obtain ⟨A, hA⟩ : ∃ A, ableI (xs[0]'h0).n (xs[0]'h0).ws = A := ⟨_, rfl⟩
  rw [hA]
  have HA := Lib.hid hA
  have HX := Lib.hid hx
  have HM := Lib.hid t3
  have hxl : xs.length ≤ 1024 := t2
  clear hA hx t3 t1 t2
  have hmake : ∀ wz : World, Sem.run Tryz.prog (Instr.makeSlice 45 (.int .i64 (xs.length : Nat)) (.int .i64 (xs.length : Nat))) wz = .ok (.slice (some ⟨wz.heap.size, 0, none⟩) xs.length xs.length) (wz.alloc (.cells (madeCells #[.nilIface] xs.length) 56)) := fun wz => by
    have := run_make (P := Tryz.prog) wz 45 56 i0 _ Tryz.underlying45 hi0 hz1 .i64 .i64 xs.length xs.length (by omega) (Int.le_refl _) (by rw [hz3]; omega) (by omega)
    rw [hz2] at this
    simp only [Int.toNat_natCast, Nat.mul_one] at this
    exact this
  refine calls_any (n := 3) ?_
  refine callsIn_of_wp_marks Tryz.func12 rfl (by simp [Fence.list]) ?_ rfl
  simp only [Tryz.ntmps12, List.size_toArray, List.length_cons, List.length_nil, Nat.reduceAdd, Nat.reduceSub, Array.replicate_succ, Array.replicate_zero, List.push_toArray, List.append_toArray, List.nil_append, List.cons_append]
  obtain ⟨w1, hw1⟩ : ∃ w1, ((w.alloc (.cells #[.slice (some ⟨b, o, none⟩) xs.length c] 24)).alloc (.cells #[.slice none 0 0] 45)).alloc (.cells #[.int .i64 0] 26) = w1 := ⟨_, rfl⟩
  have hb1 : Below w.heap.size w w1 := by rw [← hw1]; exact (((Below.refl _ _).alloc (Nat.le_refl _) _).alloc (by simp) _).alloc (by simp; omega) _
  have hs1 : w1.heap.size = w.heap.size + 3 := by rw [← hw1]; simp
  have c61 := c6 w1 hb1
  clear c6
  rw [show eSpec true = 0 from rfl] at c61
  have kk1 : w1.cell? ⟨w.heap.size, 0, none⟩ = some (.slice (some ⟨b, o, none⟩) xs.length c) := by
    rw [← hw1, World.cell?_alloc_lt _ _ _ (by simp; omega), World.cell?_alloc_lt _ _ _ (by simp), cell_new]; rfl
  have kk2 : w1.cell? ⟨w.heap.size + 1, 0, none⟩ = some (.slice none 0 0) := by
    rw [← hw1, World.cell?_alloc_lt _ _ _ (by simp)]
    have := cell_new (w.alloc (.cells #[.slice (some ⟨b, o, none⟩) xs.length c] 24)) #[.slice none 0 0] 45 0
    rw [World.size_alloc] at this
    exact this
  have kk3 : w1.cell? ⟨w.heap.size + 1 + 1, 0, none⟩ = some (.int .i64 0) := by
    rw [← hw1]
    have := cell_new ((w.alloc (.cells #[.slice (some ⟨b, o, none⟩) xs.length c] 24)).alloc (.cells #[.slice none 0 0] 45)) #[.int .i64 0] 26 0
    rw [World.size_alloc, World.size_alloc] at this
    exact this
  have ff2 : w1.frozen? ⟨w.heap.size + 1, 0, none⟩ = false := by
    rw [← hw1, World.frozen?_alloc_old _ _ _ (by simp)]
    have := World.frozen?_alloc_new (w.alloc (.cells #[.slice (some ⟨b, o, none⟩) xs.length c] 24)) #[.slice none 0 0] 45 0
    rw [World.size_alloc] at this
    exact this
  have ff3 : w1.frozen? ⟨w.heap.size + 1 + 1, 0, none⟩ = false := by
    rw [← hw1]
    have := World.frozen?_alloc_new ((w.alloc (.cells #[.slice (some ⟨b, o, none⟩) xs.length c] 24)).alloc (.cells #[.slice none 0 0] 45)) #[.int .i64 0] 26 0
    rw [World.size_alloc, World.size_alloc] at this
    exact this
  have HW1 := Lib.hid (And.intro hb1 hs1)
  clear hb1 hs1
  subst hw1
  gi_wp2_with (first
    | (gi_at_call 6; refine CallsIn.mono (calls_any c61) ?_; rintro e w' ⟨rfl, hb⟩
       have k1 := (hb.cell (cell_lt kk1)).trans kk1
       have k2 := (hb.cell (cell_lt kk2)).trans kk2
       have k3 := (hb.cell (cell_lt kk3)).trans kk3
       have f2 := (hb.frozen (p := ⟨w.heap.size + 1, 0, none⟩) (cell_lt kk2)).trans ff2
       have f3 := (hb.frozen (p := ⟨w.heap.size + 1 + 1, 0, none⟩) (cell_lt kk3)).trans ff3
       have hbb : Below w'.heap.size w' ((w'.alloc (.cells (madeCells #[.nilIface] xs.length) 56)).alloc (.cells #[.slice (some ⟨w'.heap.size, 0, none⟩) xs.length xs.length] 45)) := ((Below.refl _ _).alloc (Nat.le_refl _) _).alloc (by simp) _
       have k1b := (hbb.cell (cell_lt k1)).trans k1)
    | (gi_at_call 29; refine CallsIn.mono (calls_any (back_in _ _ _ _)) ?_; rintro e w'' ⟨rfl, rfl⟩))
  obtain ⟨W0, hW0⟩ : ∃ W0, ((w'.alloc (.cells (madeCells #[.nilIface] xs.length) 56)).alloc (.cells #[.slice (some ⟨w'.heap.size, 0, none⟩) xs.length xs.length] 45)).alloc (.cells #[.slice (some ⟨b, o, none⟩) xs.length c] 22) = W0 := ⟨_, rfl⟩
  have hb2 : Below w'.heap.size w' W0 := by rw [← hW0]; exact hbb.alloc (by simp; omega) _
  have hs2 : W0.heap.size = w'.heap.size + 3 := by rw [← hW0]; simp
  have hrow : RowP W0 w'.heap.size xs.length := by
    rw [← hW0]
    exact (rowP_made w' xs.length 56).below (((Below.refl _ _).alloc (Nat.le_refl _) _).alloc (by simp) _)
  have hbx5 : W0.cell? ⟨w'.heap.size + 1, 0, none⟩ = some (.slice (some ⟨w'.heap.size, 0, none⟩) xs.length xs.length) := by
    rw [← hW0, World.cell?_alloc_lt _ _ _ (by simp)]
    have := cell_new (w'.alloc (.cells (madeCells #[.nilIface] xs.length) 56)) #[.slice (some ⟨w'.heap.size, 0, none⟩) xs.length xs.length] 45 0
    rw [World.size_alloc] at this
    exact this
  have hbs : W0.cell? ⟨w'.heap.size + 1 + 1, 0, none⟩ = some (.slice (some ⟨b, o, none⟩) xs.length c) := by
    rw [← hW0]
    have := cell_new ((w'.alloc (.cells (madeCells #[.nilIface] xs.length) 56)).alloc (.cells #[.slice (some ⟨w'.heap.size, 0, none⟩) xs.length xs.length] 45)) #[.slice (some ⟨b, o, none⟩) xs.length c] 22 0
    rw [World.size_alloc, World.size_alloc] at this
    exact this
  obtain ⟨hb1, hs1⟩ := HW1.out
  have hbw : Below w.heap.size w w' := hb1.trans (hb.mono hb1.size)
  have hw'3 : w.heap.size + 3 ≤ w'.heap.size := by have := hb.size; omega
  have hMI : MI w w'.heap.size (w'.heap.size + 1) (w.heap.size + 1) (w.heap.size + 1 + 1) xs.length W0.heap.size A [] W0 :=
    ⟨hbw.trans (hb2.mono hbw.size), Nat.le_refl _, hrow, hbx5, (hb2.cell (cell_lt k2)).trans k2, (hb2.frozen (p := ⟨w.heap.size + 1, 0, none⟩) (cell_lt k2)).trans f2, (hb2.cell (cell_lt k3)).trans k3, (hb2.frozen (p := ⟨w.heap.size + 1 + 1, 0, none⟩) (cell_lt k3)).trans f3, fun h => (by cases h)⟩
  rw [hW0]
  clear hW0 hbb k1b k1 k2 k3 f2 f3 hrow hbx5 hb HW1 hmake c61 kk1 kk2 kk3 ff2 ff3 hb1 hs1
  have HMI := Lib.hid hMI
  have hwW0 : Below w.heap.size w W0 := hMI.below
  clear hMI
  have e64 : ∀ args w, (callFunc 64 args).run Tryz.prog w = .ok (.enter 64 args) w := enters_of Tryz.func64 (by kernel_rfl) rfl
  refine wpIn_rangeFunc_ownH rfl (by decide) (gf := 64) (lb := #[.pointer (some ⟨w'.heap.size + 1 + 1, 0, none⟩)]) rfl (by simp [Fence.list]) e64
    (back_stops (3 - 1) (w'.heap.size + 1 + 1) w.heap.size b o c xs w W0 HX.out (Nat.le_refl _) hxl hwW0 (by omega) (by omega) hbs)
    (fun h k => ⟨h.1.trans k.1, k.2.trans h.2⟩)
    (fun W l o1 o' hl ho hc hw => ⟨belowK_b (w := W0) (by omega) W l o1 o' hl ho hc hw, World.putObj_heap_other (by omega)⟩)
    (Below.refl _ _) (fun _ => rfl)
    (fun (pre : List (Fin xs.length)) W => MI w w'.heap.size (w'.heap.size + 1) (w.heap.size + 1) (w.heap.size + 1 + 1) xs.length W0.heap.size A (pre.map Fin.val) W)
    (fun _ _ _ => False)
    (fun s W W' row h hg hr => h.kept (by omega) hg hr)
    (fun _ _ _ _ _ h _ _ => h)
    HMI.out
    (fun x a' W => ∃ Bx, W.rangeAt Bx 0 xs[x.val].n.cells ∧ a' = { tmps := #[Value.agg #[Value.slice (some { block := b, off := o }) xs.length c], Value.pointer (some { block := w.heap.size, off := 0 }), Value.pointer (some { block := w.heap.size + 1, off := 0 }), Value.pointer (some { block := w.heap.size + 1 + 1, off := 0 }), Value.int IntKind.i64 0,
      Value.pointer (some { block := w'.heap.size + 1, off := 0 }), .int .i64 (x.val : Nat), .pointer (some ⟨Bx, 0, none⟩), undef, undef, undef, undef, undef, Value.agg #[Value.slice (some { block := b, off := o }) xs.length c], Value.int IntKind.i64 0, Value.int IntKind.i64 0, Value.bool false, undef, Value.pointer (some { block := w.heap.size, off := 0 }),
      Value.slice (some { block := b, off := o }) xs.length c, Value.int IntKind.i64 xs.length, Value.slice (some { block := w'.heap.size, off := 0 }) xs.length xs.length, Value.pointer (some { block := w.heap.size, off := 0 }), Value.slice (some { block := b, off := o }) xs.length c, Value.func (Fn.func 64) #[] #[Value.pointer (some { block := w'.heap.size + 1 + 1, off := 0 })],
      .int .i64 (x.val : Nat), xs[x.val].n.val, undef, undef, undef, undef, undef, undef, undef, undef, undef, undef, undef, undef, undef, undef, undef, undef, undef, undef, undef, undef, undef, undef, undef, undef, undef, undef, undef, undef, undef], defers := [] })
    (fun x a' s W W' row h hg hr => by
      obtain ⟨Bx, h1, h2⟩ := h
      exact ⟨Bx, fun i v hi => cell_kept (h1 i v hi) hg (fun r e => (hr r e).2), h2⟩)
    ?assign ?body ?done ?stop
  case assign =>
    rintro l pre x W K hI hK
    unfold encN
    have hsem : ∀ (l : Nat) (ρ : Operand → Value) (o : Oper), (∀ c, o.op ≠ .defer c) → Oper.semAt (some l) ρ o = execOp ρ o := Oper.semAt_some
    gi_wp2_with (refine wpListIn_store_new rfl (by rfl) 68 _ _ rfl rfl xs[x.val].n.cells xs[x.val].n.val rfl rfl rfl (by kernel_rfl) rfl ?_)
    have hbn : Below W.heap.size W (W.alloc (.cells xs[x.val].n.cells.toArray 68)) := (Below.refl _ _).alloc (Nat.le_refl _) _
    refine hK _ _ ((others_of hbn).from _) ⟨hbn.mono (by have := hI.below.size; omega), hbn.block _ (by have := hI.big; omega)⟩ (hI.on hbn) ⟨W.heap.size, range_new _ _ _, rfl⟩
  case body =>
    rintro l pre x a' W hl ⟨r, hr⟩ hI ⟨Bx, hrx, rfl⟩ hlt
    have hsem : ∀ (l : Nat) (ρ : Operand → Value) (o : Oper), (∀ c, o.op ≠ .defer c) → Oper.semAt (some l) ρ o = execOp ρ o := Oper.semAt_some
    have hX : NodeXAt w b (o + x.val * 19) xs[x.val] := HX.out x.val x.isLt
    have hmay := HM.out x.val x.isLt
    have hkd := HKd.out x.val x.isLt
    have hroot : x.val = 0 → ableI xs[x.val].n xs[x.val].ws = A := fun e => by
      have := HA.out
      simp only [e]
      exact this
    obtain ⟨nx, hnx⟩ : ∃ nx, xs[x.val] = nx := ⟨_, rfl⟩
    simp only [Fin.getElem_fin, hnx] at *
    have HR := Lib.hid hroot
    have HKK := Lib.hid hkd
    have hkl := hX.kids.len
    have hkl2 : nx.kids.length ≤ maxLen := by rw [hkl]; exact hX.fits.kids
    have hk1024 : nx.n.kidsN ≤ 1024 := by
      have := hmay
      rw [nodeB_may, Bool.and_eq_true, decide_eq_true_eq] at this
      have h2 := this.2
      unfold roomI at h2
      split at h2
      · omega
      · split at h2 <;> omega
    have c18 : W.cell? ⟨Bx, 18, none⟩ = some (.slice nx.n.kidsP nx.n.kidsN nx.n.kidsC) := by have := hrx 18 _ rfl; rwa [Nat.zero_add] at this
    have HK : IntsAt w (.slice nx.n.kidsP nx.n.kidsN nx.n.kidsC) nx.kids := hX.kids
    obtain ⟨kp, hkp⟩ : ∃ kp, nx.n.kidsP = kp := ⟨_, rfl⟩
    obtain ⟨kc, hkc⟩ : ∃ kc, nx.n.kidsC = kc := ⟨_, rfl⟩
    rw [← hkl, hkp, hkc] at c18 HK
    have HXX := Lib.hid (And.intro hX hmay)
    have HI := Lib.hid hI
    clear hX hmay hkd hroot hkp hkc hI HM HKd HX HA
    gi_wp2
    gi_loopw [8, 30] (fun s8 i wx => ∃ (q : Nat) (us : List Value), q ≤ nx.kids.length ∧ i = .int .i64 q ∧ Below W.heap.size W wx ∧ wx.ownsRow W.heap.size 56 1 s8 q us ∧ ∀ u ∈ us, u.oneCell' = true) (fun _ i _ => nx.kids.length - (intOf i).toNat)
    case atStart => exact ⟨0, [], Nat.zero_le _, rfl, Below.refl _ _, World.ownsRow_nil _ _ _ _, fun u hu => (by cases hu)⟩
    case round =>
      obtain ⟨q, us, hq, rfl, hbW, hown, hus⟩ := hrel
      by_cases hlq : q < nx.kids.length
      · obtain ⟨kb, ko, rfl, hkv⟩ : ∃ kb ko, kp = some ⟨kb, ko, none⟩ ∧ w.cell? ⟨kb, ko + q, none⟩ = some (.int .i64 nx.kids[q]) := by
          rcases HK with ⟨_, e, h0⟩ | ⟨kb, ko, cap, e, hl, hc⟩
          · rw [h0] at hlq; cases hlq
          · cases e; exact ⟨kb, ko, rfl, hc q hlq⟩
        obtain ⟨v0, v1⟩ := HKK.out _ (List.getElem_mem hlq)
        obtain ⟨p, hp⟩ : ∃ p : Nat, nx.kids[q] = (p : Int) := ⟨nx.kids[q].toNat, by omega⟩
        rw [hp] at hkv v0 v1
        have hpn : p < xs.length := by omega
        have hIr := HI.out.on hbW
        have hkw := (hIr.below.cell (cell_lt hkv)).trans hkv
        have hb5 := hIr.box
        obtain ⟨⟨u, hu1, hu2⟩, _⟩ := hIr.row p hpn
        have HO := Lib.hid (And.intro hown hus)
        have HB := Lib.hid hbW
        have hWs : W.heap.size ≤ wr.heap.size := hbW.size
        have hq1024 : q + 1 ≤ 1024 := by omega
        clear hIr hkv v0 v1 hp HK hown hus hbW c18
        have hu3 := hu2.one
        rcases hu2 with rfl | ⟨ut, uv, rfl⟩
        · gi_wp2_with (gi_at_builtin; refine wpListIn_append_own _ rfl _ _ 45 rfl W.heap.size 56 i0 .nilIface 1 16 Tryz.underlying45 hi0 hz1 hz2 hz3 rfl (by decide) _ q us rfl (HO.out.1.alloc _) ⟨wr.heap.size, 0, none⟩ 1 1 [.nilIface] rfl rfl (cell_one_new _ _ _) (by simp [Value.oneCell']) (by unfold maxLen; omega) (by omega) (by simp; omega) ?_; intro v' w2 hown' hgrow _)
          have hb2' : Below W.heap.size W w2 := (HB.out.alloc hWs _).grown hgrow (by simp; omega) (fun k hk => (HO.out.1.lt k hk).1)
          refine ⟨⟨q + 1, us ++ [.nilIface], by omega, by go_num, hb2', hown', fun u hu => ?_⟩, by simp [intOf]; omega⟩
          rcases List.mem_append.1 hu with hu | hu
          · exact HO.out.2 u hu
          · rw [List.mem_singleton.1 hu]; exact hu3
        · gi_wp2_with (gi_at_builtin; refine wpListIn_append_own _ rfl _ _ 45 rfl W.heap.size 56 i0 .nilIface 1 16 Tryz.underlying45 hi0 hz1 hz2 hz3 rfl (by decide) _ q us rfl (HO.out.1.alloc _) ⟨wr.heap.size, 0, none⟩ 1 1 [.iface ut uv] rfl rfl (cell_one_new _ _ _) (by simp [Value.oneCell']) (by unfold maxLen; omega) (by omega) (by simp; omega) ?_; intro v' w2 hown' hgrow _)
          have hb2' : Below W.heap.size W w2 := (HB.out.alloc hWs _).grown hgrow (by simp; omega) (fun k hk => (HO.out.1.lt k hk).1)
          refine ⟨⟨q + 1, us ++ [.iface ut uv], by omega, by go_num, hb2', hown', fun u hu => ?_⟩, by simp [intOf]; omega⟩
          rcases List.mem_append.1 hu with hu | hu
          · exact HO.out.2 u hu
          · rw [List.mem_singleton.1 hu]; exact hu3
      · obtain rfl : q = nx.kids.length := by omega
        have hparts := owns_parts hown hus
        obtain ⟨p8, n8, c8, rfl⟩ := owns_slice hown
        have hIr := HI.out.on hbW
        have hrx2 := range_below hrx hbW
        have hXr := HXX.out.1.below hIr.below
        have hmay := HXX.out.2
        rw [hkl] at hparts
        have c30 := made_in V nx.n nx.ws (.slice p8 n8 c8) wr hXr.fits hmay hXr.wraps hXr.masks hparts (V.below _ _ hT hIr.below)
        have HII := Lib.hid hIr
        have HB := Lib.hid hbW
        clear hIr hXr hmay hparts hown hus hbW HXX HKK HK c18
        gi_wp2_with (first
          | (refine wpListIn_load_row (by rfl) 68 _ rfl Bx 0 rfl nx.n.cells hrx2 _ Tryz.underlying68 rfl (by kernel_rfl) nx.n.val rfl ?_)
          | (gi_at_call 30; refine CallsIn.mono (CallsIn.inRound l (calls_any c30)) ?_; rintro e w3 ⟨t3, v3, j3, rfl, hb3, hch3, hj3, hcan3⟩
             have hI3 := HII.out.on hb3
             have b5 := hI3.box
             obtain ⟨⟨u5, u51, _⟩, uf⟩ := hI3.row x.val x.isLt))
        have hbW3 : Below W.heap.size W w3 := HB.out.trans (hb3.mono HB.out.size)
        have hsW := HI.out.big
        have hset : Below w.heap.size W (w3.setCell ⟨w'.heap.size, x.val, none⟩ (.iface t3 v3)) := (hbW3.mono (by omega)).setCell (by simp only; omega) _
        have ho : ∀ (y : Nat), y ≠ w'.heap.size → ∀ (o1 : Nat), (w3.setCell ⟨w'.heap.size, x.val, none⟩ (.iface t3 v3)).cell? ⟨y, o1, none⟩ = w3.cell? ⟨y, o1, none⟩ := fun y hy o1 => World.cell?_setCell_other _ _ _ _ (adr_ne (by simp only; omega))
        refine ⟨((others_of hbW3).trans (KeepsOthers.setCell _ _ _)).from _, ⟨hset, (heap_setCell_ne (by simp only; omega)).trans (hbW3.block _ (by omega))⟩, ?_⟩
        refine ⟨hI3.below.setCell (by simp only; omega) _, by rw [World.size_setCell]; exact hI3.big, hI3.row.set x.isLt (.inr ⟨_, _, rfl⟩), (ho _ (by omega) 0).trans hI3.box, (ho _ (by omega) 0).trans hI3.c2, by rw [World.frozen?_setCell]; exact hI3.f2, (ho _ (by omega) 0).trans hI3.c3, by rw [World.frozen?_setCell]; exact hI3.f3, fun h0' => ?_⟩
        by_cases e : x.val = 0
        · refine ⟨t3, v3, ?_, ?_⟩
          · have := World.cell?_setCell_same w3 ⟨w'.heap.size, x.val, none⟩ (.iface t3 v3) u51
            rw [e] at this ⊢
            exact this
          · rw [← HR.out e]; exact hcan3
        · rw [List.map_append, List.mem_append] at h0'
          rcases h0' with h0' | h0'
          · obtain ⟨t4, v4, h1, h2⟩ := hI3.root h0'
            exact ⟨t4, v4, (World.cell?_setCell_other _ _ _ _ (fun e2 => e (congrArg Addr.off e2))).trans h1, h2⟩
          · simp at h0'
            exact absurd h0'.symm e
  case done =>
    rintro D ys W hD hall hI hK
    have c5 := hI.box
    have c2 := hI.c2
    have f2 := hI.f2
    have c3 : (W.setCell ⟨w.heap.size + 1, 0, none⟩ (.slice (some ⟨w'.heap.size, 0, none⟩) xs.length xs.length)).cell? ⟨w.heap.size + 1 + 1, 0, none⟩ = some (.int .i64 0) := by
      rw [World.cell?_setCell_other _ _ _ _ (adr_ne (by simp only; omega))]; exact hI.c3
    have f3 := hI.f3
    obtain ⟨t, v, hc, hcan⟩ := hI.root (List.mem_map.2 ⟨⟨0, h0⟩, hall _, rfl⟩)
    have HI := Lib.hid hI
    have HC := Lib.hid (And.intro hc hcan)
    clear hI hc hcan
    gi_wp2
    have hK2 := ((KeepsOthers.setCell W ⟨w.heap.size + 1, 0, none⟩ (.slice (some ⟨w'.heap.size, 0, none⟩) xs.length xs.length)).trans (KeepsOthers.setCell _ ⟨w.heap.size + 1 + 1, 0, none⟩ (.int .i64 0))).same D _ hK rfl
    refine ⟨by simp, .inl ⟨_, _, rfl, run_takeDeferred hK2, ?_⟩⟩
    have hpo := fun {a : Addr} {u : Value} (h : ((W.setCell ⟨w.heap.size + 1, 0, none⟩ (.slice (some ⟨w'.heap.size, 0, none⟩) xs.length xs.length)).setCell ⟨w.heap.size + 1 + 1, 0, none⟩ (.int .i64 0)).cell? a = some u) => cell_kept h (grownBy_putObj' _ D (.deferred none)) (fun r e => by cases e; exact ⟨_, hK2, rfl⟩)
    have g2 := hpo (a := ⟨w.heap.size + 1, 0, none⟩) ((World.cell?_setCell_other _ _ _ _ (adr_ne (by simp only; omega))).trans (World.cell?_setCell_same _ _ _ HI.out.c2))
    have g3 := hpo (a := ⟨w.heap.size + 1 + 1, 0, none⟩) (World.cell?_setCell_same _ _ _ c3)
    have g1 := hpo (a := ⟨w'.heap.size, 0, none⟩) ((World.cell?_setCell_other _ _ _ _ (adr_ne (by simp only; omega))).trans ((World.cell?_setCell_other _ _ _ _ (adr_ne (by simp only; omega))).trans HC.out.1))
    refine ⟨_, results_cell2 rfl rfl rfl (load45 g2) (load26 g3), ?_⟩
    exact ⟨_, _, _, t, v, rfl, g1, h0, by simp only; omega, HC.out.2⟩
  case stop =>
    rintro D cc pre W hD _ h _
    exact h.elim
end Go.Proofs.YthjofgmiabcifabGreatDoor.Sq
