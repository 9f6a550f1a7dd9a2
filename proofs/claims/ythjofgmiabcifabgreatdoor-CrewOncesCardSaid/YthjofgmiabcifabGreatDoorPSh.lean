/-
  Tree.parents and tree.Check, by the plain law.
  Conditions: as each theorem says.
-/
import Derived.Test.YthjofgmiabcifabGreatDoorPSd
import Derived.Test.YthjofgmiabcifabGreatDoorPSf
set_option linter.unusedVariables false
set_option linter.unusedSimpArgs false
namespace Go.Proofs.YthjofgmiabcifabGreatDoor.Sq
open Go Go.RowKit
theorem madeCells_get (z : Array Value) (n j : Nat) (h : j < n) : (madeCells z n)[j]? = some (z[j % z.size]!) := by
  simp [madeCells, h]
/-- A slice of numbers. -/
def IntsAt (w : World) (v : Value) (xs : List Int) : Prop :=
  (∃ p, v = .slice p 0 0 ∧ xs = []) ∨ ∃ b o cap, v = .slice (some ⟨b, o, none⟩) xs.length cap ∧ xs.length ≤ maxLen ∧ ∀ i (h : i < xs.length), w.cell? ⟨b, o + i, none⟩ = some (.int .i64 xs[i])
theorem IntsAt.below {w w' : World} {v : Value} {xs : List Int} (h : IntsAt w v xs) (hb : Below w.heap.size w w') : IntsAt w' v xs := by
  rcases h with h | ⟨b, o, cap, h1, h2, h3⟩
  · exact .inl h
  · exact .inr ⟨b, o, cap, h1, h2, fun i hi => (hb.cell (cell_lt (h3 i hi))).trans (h3 i hi)⟩
theorem IntsAt.len {w : World} {p : Option Addr} {n c : Nat} {xs : List Int} (h : IntsAt w (.slice p n c) xs) : xs.length = n := by
  rcases h with ⟨_, h, rfl⟩ | ⟨b, o, cap, h, _⟩
  · cases h; rfl
  · cases h; rfl
/-- A node with what hangs on it. -/
structure NodeX where
  n : NodeS
  ws : List WrapS
  kids : List Int
structure NodeXAt (w : World) (b o : Nat) (x : NodeX) : Prop where
  node : w.rangeAt b o x.n.cells
  fits : x.n.fits
  wraps : WrapsAt w (.slice x.n.wrapsP x.n.wrapsN x.n.wrapsC) x.ws
  masks : ∀ y ∈ x.ws, 0 ≤ y.mask ∧ y.mask < 65536
  kids : IntsAt w (.slice x.n.kidsP x.n.kidsN x.n.kidsC) x.kids
theorem range_below {w w' : World} {b o : Nat} {cs : List Value} (h : w.rangeAt b o cs) (hb : Below w.heap.size w w') : w'.rangeAt b o cs := fun i v hi => (hb.cell (cell_lt (h i v hi))).trans (h i v hi)
theorem NodeXAt.below {w w' : World} {b o : Nat} {x : NodeX} (h : NodeXAt w b o x) (hb : Below w.heap.size w w') : NodeXAt w' b o x :=
  ⟨range_below h.node hb, h.fits, h.wraps.below hb, h.masks, h.kids.below hb⟩
/-- A slice of nodes. -/
def NodesAt (w : World) (v : Value) (xs : List NodeX) : Prop :=
  (v = .slice none 0 0 ∧ xs = []) ∨ ∃ b o cap, v = .slice (some ⟨b, o, none⟩) xs.length cap ∧ xs.length ≤ maxLen ∧ ∀ i (h : i < xs.length), NodeXAt w b (o + i * 19) xs[i]
theorem NodesAt.below {w w' : World} {v : Value} {xs : List NodeX} (h : NodesAt w v xs) (hb : Below w.heap.size w w') : NodesAt w' v xs := by
  rcases h with h | ⟨b, o, cap, h1, h2, h3⟩
  · exact .inl h
  · exact .inr ⟨b, o, cap, h1, h2, fun i hi => (h3 i hi).below hb⟩
theorem NodesAt.len {w : World} {p : Option Addr} {n c : Nat} {xs : List NodeX} (h : NodesAt w (.slice p n c) xs) : xs.length = n := by
  rcases h with ⟨h, rfl⟩ | ⟨b, o, cap, h, _⟩
  · cases h; rfl
  · cases h; rfl
def NodeX.row (x : NodeX) : Bool × List Int := (mayB x.n x.ws, x.kids)
/-- A row of n numbers, all its own. -/
structure RowI (w : World) (b n : Nat) (f : Nat → Int) : Prop where
  cell : ∀ i, i < n → w.cell? ⟨b, i, none⟩ = some (.int .i64 (f i))
  froz : ∀ i, i < n → w.frozen? ⟨b, i, none⟩ = false
theorem RowI.below {w w' : World} {b n : Nat} {f : Nat → Int} (h : RowI w b n f) (hb : Below w.heap.size w w') : RowI w' b n f :=
  ⟨fun i hi => (hb.cell (cell_lt (h.cell i hi))).trans (h.cell i hi), fun i hi => (hb.frozen (p := ⟨b, i, none⟩) (cell_lt (h.cell i hi))).trans (h.froz i hi)⟩
theorem RowI.set {w : World} {b n : Nat} {f : Nat → Int} (h : RowI w b n f) {k : Nat} (v : Int) (hk : k < n) : RowI (w.setCell ⟨b, k, none⟩ (.int .i64 v)) b n (put f k v) := by
  refine ⟨fun i hi => ?_, fun i hi => by rw [World.frozen?_setCell]; exact h.froz i hi⟩
  by_cases e : i = k
  · subst e
    rw [put_same]
    exact World.cell?_setCell_same _ _ _ (h.cell i hi)
  · rw [put_ne _ _ e, World.cell?_setCell_other _ _ _ _ (by intro e2; cases e2; exact e rfl)]
    exact h.cell i hi
theorem RowI.far {w : World} {b n : Nat} {f : Nat → Int} (h : RowI w b n f) (p : Addr) (v : Value) (hb : p.block ≠ b) : RowI (w.setCell p v) b n f :=
  ⟨fun i hi => by rw [World.cell?_setCell_other _ _ _ _ (by intro e; cases e; exact hb rfl)]; exact h.cell i hi, fun i hi => by rw [World.frozen?_setCell]; exact h.froz i hi⟩
theorem RowI.same {w : World} {b n : Nat} {f g : Nat → Int} (h : RowI w b n f) (e : ∀ i, i < n → g i = f i) : RowI w b n g :=
  ⟨fun i hi => by rw [e i hi]; exact h.cell i hi, h.froz⟩
theorem RowI.made (w : World) (n : Nat) (t : TypeId) : RowI (w.alloc (.cells (madeCells #[.int .i64 0] n) t)) w.heap.size n fun _ => 0 :=
  ⟨fun i hi => by rw [cell_new, madeCells_get _ _ _ hi]; simp [Nat.mod_one], fun i hi => World.frozen?_alloc_new w _ t _⟩
theorem put_cast (D : Nat → Nat) (k v : Nat) : (fun i => ((put D k v i : Nat) : Int)) = put (fun i => ((D i : Nat) : Int)) k (v : Int) := by
  funext i
  unfold put
  split <;> rfl
end Go.Proofs.YthjofgmiabcifabGreatDoor.Sq
namespace Go.Proofs.YthjofgmiabcifabGreatDoor.Sq
open Go Go.RowKit
theorem goT_drop {n k : Nat} {xs : List NodeX} {D : Nat → Nat} (h : k < xs.length) : goT n ((xs.drop k).map NodeX.row) k D =
    if D k = 0 ∨ 64 < D k ∨ mayB xs[k].n xs[k].ws = false then false else
    match stepKids n k (D k) xs[k].kids D with
    | none => false
    | some D' => goT n ((xs.drop (k + 1)).map NodeX.row) (k + 1) D' := by
  rw [List.drop_eq_getElem_cons h]
  rfl
theorem stepKids_drop {n i d j : Nat} {ks : List Int} {D : Nat → Nat} (h : j < ks.length) : stepKids n i d (ks.drop j) D =
    if ks[j] ≤ (i : Int) ∨ (n : Int) ≤ ks[j] ∨ D ks[j].toNat ≠ 0 then none else stepKids n i d (ks.drop (j + 1)) (put D ks[j].toNat (d + 1)) := by
  rw [List.drop_eq_getElem_cons h]
  rfl
theorem range_new (w : World) (cs : List Value) (t : TypeId) : (w.alloc (.cells cs.toArray t)).rangeAt w.heap.size 0 cs := fun i v hi => by
  rw [Nat.zero_add, cell_new]
  simpa using hi
def PPost (G : Bool) (w : World) (e : Ending) (w' : World) : Prop := ∃ a b, e = .returned (.tuple #[a, b, .bool G]) ∧ Below w.heap.size w w'
theorem treeB_no {xs : List NodeX} (h : xs.length < 1 ∨ 1024 < xs.length) : treeB (xs.map NodeX.row) = false := by
  unfold treeB
  rcases h with h | h
  · simp; omega
  · simp; omega
theorem treeB_yes {xs : List NodeX} (h1 : 1 ≤ xs.length) (h2 : xs.length ≤ 1024) : treeB (xs.map NodeX.row) = goT xs.length ((xs.drop 0).map NodeX.row) 0 D0 := by
  unfold treeB
  simp [h1, h2]
theorem info3 : (Tryz.prog.info? 3).map (fun i => (i.zero, i.size, i.bytes)) = some (some (.int .i64 0), 1, 8) := by kernel_rfl
structure RowsW (w : World) (n bu bd : Nat) (U : Nat → Int) (D : Nat → Nat) (wx : World) : Prop where
  below : Below w.heap.size w wx
  ne : bu ≠ bd
  up : w.heap.size ≤ bu
  dp : w.heap.size ≤ bd
  u : RowI wx bu n U
  d : RowI wx bd n fun i => ((D i : Nat) : Int)
theorem RowsW.on {w wx wy : World} {n bu bd : Nat} {U : Nat → Int} {D : Nat → Nat} (h : RowsW w n bu bd U D wx) (hb : Below wx.heap.size wx wy) : RowsW w n bu bd U D wy :=
  ⟨h.below.trans (hb.mono h.below.size), h.ne, h.up, h.dp, h.u.below hb, h.d.below hb⟩
theorem RowsW.turn {w wx : World} {n bu bd : Nat} {U : Nat → Int} {D : Nat → Nat} (h : RowsW w n bu bd U D wx) {k : Nat} (hk : k < n) (x : Int) (y : Nat) :
    RowsW w n bu bd (put U k x) (put D k y) ((wx.setCell ⟨bu, k, none⟩ (.int .i64 x)).setCell ⟨bd, k, none⟩ (.int .i64 (y : Int))) :=
  ⟨(h.below.setCell h.up _).setCell h.dp _, h.ne, h.up, h.dp, (h.u.set x hk).far _ _ (Ne.symm h.ne), by rw [put_cast]; exact (h.d.far _ _ h.ne).set _ hk⟩
theorem rows_made (w : World) (x : Value) (m : Nat) {wz : World} (hw : wz = (((w.alloc (.cells #[x] 24)).alloc (.cells (madeCells #[.int .i64 0] m) 3)).alloc (.cells (madeCells #[.int .i64 0] m) 3)).drew) :
    Below w.heap.size w wz ∧ RowI wz (w.heap.size + 1) m (fun _ => 0) ∧ RowI wz (w.heap.size + 1 + 1) m (fun _ => 0) ∧ wz.cell? ⟨w.heap.size, 0, none⟩ = some x := by
  subst hw
  obtain ⟨w1, h1⟩ : ∃ w1, w.alloc (.cells #[x] 24) = w1 := ⟨_, rfl⟩
  have s1 : w1.heap.size = w.heap.size + 1 := by rw [← h1]; simp
  have b1 : Below w.heap.size w w1 := by rw [← h1]; exact (Below.refl _ _).alloc (Nat.le_refl _) _
  have c1 : w1.cell? ⟨w.heap.size, 0, none⟩ = some x := by rw [← h1, cell_new]; rfl
  rw [h1]
  have r2 := RowI.made w1 m 3
  have b2 : Below w1.heap.size w1 (w1.alloc (.cells (madeCells #[.int .i64 0] m) 3)) := (Below.refl _ _).alloc (Nat.le_refl _) _
  have s2 : (w1.alloc (.cells (madeCells #[.int .i64 0] m) 3)).heap.size = w1.heap.size + 1 := by simp
  generalize w1.alloc (.cells (madeCells #[.int .i64 0] m) 3) = w2 at r2 b2 s2 ⊢
  have r3 := RowI.made w2 m 3
  have b3 : Below w2.heap.size w2 (w2.alloc (.cells (madeCells #[.int .i64 0] m) 3)) := (Below.refl _ _).alloc (Nat.le_refl _) _
  have r4 := r2.below b3
  have b4 := b1.trans ((b2.trans (b3.mono b2.size)).mono b1.size)
  have c4 := ((b2.trans (b3.mono b2.size)).cell (p := ⟨w.heap.size, 0, none⟩) (by simp only; omega)).trans c1
  rw [s2, s1] at r3
  rw [s1] at r4
  exact ⟨b4.drew, ⟨r4.cell, r4.froz⟩, ⟨r3.cell, r3.froz⟩, c4⟩
set_option maxRecDepth 100000 in
set_option maxHeartbeats 8000000 in
theorem parents_in {T : World → Prop} (V : ValidIn T) (sp : Option Addr) (m c : Nat) (xs : List NodeX) (w : World) (hn : NodesAt w (.slice sp m c) xs) (hT : T w) : CallsIn FF 0 Tryz.prog 20 #[.agg #[.slice sp m c]] w (PPost (treeB (xs.map NodeX.row)) w) := by
  obtain ⟨i3, hi3, hz1, hz2, hz3⟩ := info_parts info3
  by_cases hbad : xs.length < 1 ∨ 1024 < xs.length
  · have hlen := hn.len
    have hb0 := treeB_no hbad
    rw [hb0]
    clear hn hb0 hz3 hz2 hz1 hi3
    rw [hlen] at hbad
    clear hlen
    rcases hbad with h | h
    · have h' : m = 0 := by omega
      subst h'
      clear h
      gi_enter Tryz.func20, Tryz.ntmps20
      gi_wp2
      go_ret3
      exact ⟨_, _, rfl, (Below.refl _ _).alloc (Nat.le_refl _) _⟩
    · have h1 : (1024 : Int) < m := by omega
      have h2 : ¬ (m : Int) < 1 := by omega
      clear h
      gi_enter Tryz.func20, Tryz.ntmps20
      gi_wp2
      go_ret3
      exact ⟨_, _, rfl, (Below.refl _ _).alloc (Nat.le_refl _) _⟩
  · have hyes := treeB_yes (xs := xs) (by omega) (by omega)
    rcases hn with ⟨_, rfl⟩ | ⟨b, o, cap, e, hlm, hx⟩
    · exact absurd (.inl (by decide)) hbad
    obtain ⟨n, hnx⟩ : ∃ n, xs.length = n := ⟨_, rfl⟩
    rw [hnx] at e hyes hbad
    obtain ⟨rfl, rfl, rfl⟩ : sp = some ⟨b, o, none⟩ ∧ m = n ∧ c = cap := by cases e; exact ⟨rfl, rfl, rfl⟩
    clear e
    obtain ⟨G, hG⟩ : ∃ G, treeB (xs.map NodeX.row) = G := ⟨_, rfl⟩
    rw [hG] at hyes
    rw [hG]
    have HG := Lib.hid hyes
    clear hG hyes
    have HN := Lib.hid hnx
    clear hnx
    have HX := Lib.hid hx
    clear hx hlm
    have hn1 : 1 ≤ m := by omega
    have hn2 : m ≤ 1024 := by omega
    clear hbad
    have a1 : ¬ (m : Int) < 1 := by omega
    have a2 : ¬ (1024 : Int) < m := by omega
    gi_enter Tryz.func20, Tryz.ntmps20
    gi_upto_region 4 with fail
    gi_cut [2, 3] from 6 (fun s2 s3 wc => ∃ bu bd, s2 = .slice (some ⟨bu, 0, none⟩) m m ∧ s3 = .slice (some ⟨bd, 0, none⟩) m m ∧ RowsW w m bu bd (fun _ => 0) (fun _ => 0) wc ∧ w.heap.size ≠ bu ∧ w.heap.size ≠ bd ∧ wc.cell? ⟨w.heap.size, 0, none⟩ = some (.slice (some ⟨b, o, none⟩) m c))
    case first =>
      rename_i J K' hJ hM
      have hmake : ∀ wz : World, Sem.run Tryz.prog (Instr.makeSlice 66 (.int .i64 (m : Nat)) (.int .i64 (m : Nat))) wz = .ok (.slice (some ⟨wz.heap.size, 0, none⟩) m m) (wz.alloc (.cells (madeCells #[.int .i64 0] m) 3)) := fun wz => by
        have := run_make (P := Tryz.prog) wz 66 3 i3 _ Tryz.underlying66 hi3 hz1 .i64 .i64 m m (by omega) (Int.le_refl _) (by rw [hz3]; omega) (by omega)
        rw [hz2] at this
        simp only [Int.toNat_natCast, Nat.mul_one] at this
        exact this
      gi_region
      all_goals
        refine hM _ _ (hJ _ _ ?_)
        (repeat apply Exists.intro)
        refine ⟨?rel, rfl⟩
        case rel =>
          obtain ⟨q1, q2, q3, q4⟩ := rows_made w (.slice (some ⟨b, o, none⟩) m c) m rfl
          first
            | exact ⟨_, _, rfl, rfl, ⟨q1, by omega, by omega, by omega, q2, q3⟩, by omega, by omega, q4⟩
            | exact ⟨_, _, rfl, rfl, ⟨q1, by omega, by omega, by omega, q3, q2⟩, by omega, by omega, q4⟩
    case rest =>
      obtain ⟨bu, bd, rfl, rfl, hR, hnu, hnd, hbox⟩ := hcut
      have hR1 : RowsW w m bu bd (put (fun _ => 0) 0 (-1)) (put (fun _ => 0) 0 1) ((wc.setCell ⟨bu, 0, none⟩ (.int .i64 (-1))).setCell ⟨bd, 0, none⟩ (.int .i64 1)) := hR.turn hn1 (-1) 1
      have c1 := hR.u.cell 0 hn1
      have f1 := hR.u.froz 0 hn1
      have c2 : (wc.setCell ⟨bu, 0, none⟩ (.int .i64 (-1))).cell? ⟨bd, 0, none⟩ = some (.int .i64 0) := (hR.d.far _ _ hR.ne).cell 0 hn1
      have f2 := hR.d.froz 0 hn1
      have c3 : ((wc.setCell ⟨bu, 0, none⟩ (.int .i64 (-1))).setCell ⟨bd, 0, none⟩ (.int .i64 1)).cell? ⟨w.heap.size, 0, none⟩ = some (.slice (some ⟨b, o, none⟩) m c) := by
        rw [World.cell?_setCell_other _ _ _ _ (by intro e; cases e; exact hnd rfl), World.cell?_setCell_other _ _ _ _ (by intro e; cases e; exact hnu rfl)]
        exact hbox
      have HR1 := Lib.hid hR1
      clear hR1 hR hbox hnu hnd
      gi_wp2
      gi_loopw [2, 3, 30] (fun s2 s3 i wx => s2 = .slice (some ⟨bu, 0, none⟩) m m ∧ s3 = .slice (some ⟨bd, 0, none⟩) m m ∧ ∃ (k : Nat) (U : Nat → Int) (D : Nat → Nat), k ≤ m ∧ i = .int .i64 k ∧ RowsW w m bu bd U D wx ∧ goT m ((xs.drop k).map NodeX.row) k D = G) (fun _ _ i _ => m - (intOf i).toNat)
      case atStart => exact ⟨rfl, rfl, 0, _, _, Nat.zero_le _, rfl, HR1.out, HG.out.symm⟩
      case round =>
        clear HR1 c1 c2 c3 f1 f2
        obtain ⟨rfl, rfl, k, U, D, hk, rfl, hRr, hgo⟩ := hrel
        by_cases hlt : k < m
        · have hkx : k < xs.length := by rw [HN.out]; exact hlt
          obtain ⟨x, hx⟩ : ∃ x, xs[k] = x := ⟨_, rfl⟩
          have hX : NodeXAt wr b (o + k * 19) x := by have := (HX.out k hkx).below hRr.below; rwa [hx] at this
          rw [goT_drop hkx, hx] at hgo
          obtain ⟨d, hd⟩ : ∃ d, D k = d := ⟨_, rfl⟩
          have hbn : Below wr.heap.size wr (wr.alloc (.cells x.n.cells.toArray 68)) := (Below.refl _ _).alloc (Nat.le_refl _) _
          have hRn := hRr.on hbn
          have cD : (wr.alloc (.cells x.n.cells.toArray 68)).cell? ⟨bd, k, none⟩ = some (.int .i64 (d : Nat)) := by have := hRn.d.cell k hlt; simp only [hd] at this; exact this
          have cM := may_in V x.n x.ws (wr.alloc (.cells x.n.cells.toArray 68)) hX.fits (hX.wraps.below hbn) (V.below _ _ hT hRn.below)
          obtain ⟨bm, hbm⟩ : ∃ bm, mayB x.n x.ws = bm := ⟨_, rfl⟩
          rw [hbm] at cM hgo
          rw [hd] at hgo
          have rN := range_new wr x.n.cells 68
          have HRn := Lib.hid hRn
          have HK : IntsAt w (.slice x.n.kidsP x.n.kidsN x.n.kidsC) x.kids := by have := (HX.out k hkx).kids; rwa [hx] at this
          have hxn := hX.node
          have HD := Lib.hid hd
          have hbw := hRr.below
          have cK : (wr.alloc (.cells x.n.cells.toArray 68)).cell? ⟨wr.heap.size, 18, none⟩ = some (.slice x.n.kidsP x.n.kidsN x.n.kidsC) := by have := rN 18 _ rfl; rwa [Nat.zero_add] at this
          have HGo := Lib.hid hgo
          clear hX hRn hRr hd hbm hx hgo hz1 hz2 hz3 hi3 hbn
          by_cases hbad : d = 0 ∨ (d ≠ 0 ∧ 64 < d) ∨ (d ≠ 0 ∧ d ≤ 64 ∧ bm = false)
          · have hgf : G = false := by
              rw [← HGo.out, if_pos]
              rcases hbad with h | ⟨_, h⟩ | ⟨_, _, h⟩
              · exact .inl h
              · exact .inr (.inl h)
              · exact .inr (.inr h)
            subst hgf
            clear HGo HG HK cK
            rcases hbad with h | ⟨h1, h2⟩ | ⟨h1, h2, h3⟩
            · subst h
              gi_wp2_with (first
                | (refine wpListIn_load_row (by rfl) 68 _ rfl b _ rfl x.n.cells hxn _ Tryz.underlying68 rfl (by kernel_rfl) x.n.val rfl ?_)
                | (refine wpListIn_store_new rfl (by rfl) 68 _ _ rfl rfl x.n.cells x.n.val rfl rfl rfl (by kernel_rfl) rfl ?_)
                | (refine wpListIn_load_row (by rfl) 68 _ rfl wr.heap.size 0 rfl x.n.cells rN _ Tryz.underlying68 rfl (by kernel_rfl) x.n.val rfl ?_)
                | (gi_at_call 41; with_reducible refine CallsIn.mono cM ?_; rintro e w' ⟨rfl, hb⟩))
              go_ret3
              exact ⟨_, _, rfl, hbw.alloc hbw.size _⟩
            · have q1 : ((d : Int) == 0) = false := by rw [beq_eq_false_iff_ne]; omega
              have q2 : (64 : Int) < d := by omega
              clear h1 h2
              gi_wp2_with (first
                | (refine wpListIn_load_row (by rfl) 68 _ rfl b _ rfl x.n.cells hxn _ Tryz.underlying68 rfl (by kernel_rfl) x.n.val rfl ?_)
                | (refine wpListIn_store_new rfl (by rfl) 68 _ _ rfl rfl x.n.cells x.n.val rfl rfl rfl (by kernel_rfl) rfl ?_)
                | (refine wpListIn_load_row (by rfl) 68 _ rfl wr.heap.size 0 rfl x.n.cells rN _ Tryz.underlying68 rfl (by kernel_rfl) x.n.val rfl ?_)
                | (gi_at_call 41; with_reducible refine CallsIn.mono cM ?_; rintro e w' ⟨rfl, hb⟩))
              go_ret3
              exact ⟨_, _, rfl, hbw.alloc hbw.size _⟩
            · subst h3
              have q1 : ((d : Int) == 0) = false := by rw [beq_eq_false_iff_ne]; omega
              have q2 : ¬ (64 : Int) < d := by omega
              clear h1 h2
              gi_wp2_with (first
                | (refine wpListIn_load_row (by rfl) 68 _ rfl b _ rfl x.n.cells hxn _ Tryz.underlying68 rfl (by kernel_rfl) x.n.val rfl ?_)
                | (refine wpListIn_store_new rfl (by rfl) 68 _ _ rfl rfl x.n.cells x.n.val rfl rfl rfl (by kernel_rfl) rfl ?_)
                | (refine wpListIn_load_row (by rfl) 68 _ rfl wr.heap.size 0 rfl x.n.cells rN _ Tryz.underlying68 rfl (by kernel_rfl) x.n.val rfl ?_)
                | (gi_at_call 41; with_reducible refine CallsIn.mono cM ?_; rintro e w' ⟨rfl, hb⟩))
              go_ret3
              exact ⟨_, _, rfl, (hbw.alloc hbw.size _).trans (hb.mono (by have := hbw.size; simp; omega))⟩
          · have hd0 : d ≠ 0 := fun h => hbad (.inl h)
            have hd64 : d ≤ 64 := by
              rcases Nat.lt_or_ge 64 d with h | h
              · exact absurd (.inr (.inl ⟨hd0, h⟩)) hbad
              · exact h
            have hbt : bm = true := by
              cases bm
              · exact absurd (.inr (.inr ⟨hd0, hd64, rfl⟩)) hbad
              · rfl
            subst hbt
            clear hbad
            obtain ⟨R, hR⟩ : ∃ R, stepKids m k d x.kids D = R := ⟨_, rfl⟩
            have hgo := HGo.out
            rw [if_neg (by simp; omega), hR] at hgo
            clear HGo HG
            have HGo := Lib.hid hgo
            have HR := Lib.hid hR
            clear hgo hR
            have q1 : ((d : Int) == 0) = false := by rw [beq_eq_false_iff_ne]; omega
            have q2 : ¬ (64 : Int) < d := by omega
            obtain ⟨kp, hkp⟩ : ∃ kp, x.n.kidsP = kp := ⟨_, rfl⟩
            obtain ⟨kc, hkc⟩ : ∃ kc, x.n.kidsC = kc := ⟨_, rfl⟩
            have hkn := HK.len
            rw [hkp, hkc, ← hkn] at cK HK
            clear hkp hkc hkn
            have HK := Lib.hid HK
            gi_wp2_with (first
                | (refine wpListIn_load_row (by rfl) 68 _ rfl b _ rfl x.n.cells hxn _ Tryz.underlying68 rfl (by kernel_rfl) x.n.val rfl ?_)
                | (refine wpListIn_store_new rfl (by rfl) 68 _ _ rfl rfl x.n.cells x.n.val rfl rfl rfl (by kernel_rfl) rfl ?_)
                | (refine wpListIn_load_row (by rfl) 68 _ rfl wr.heap.size 0 rfl x.n.cells rN _ Tryz.underlying68 rfl (by kernel_rfl) x.n.val rfl ?_)
                | (gi_at_call 41; with_reducible refine CallsIn.mono cM ?_; rintro e w' ⟨rfl, hb⟩; have k18 := (hb.cell (p := ⟨wr.heap.size, 18, none⟩) (by simp)).trans cK))
            gi_loopw [2, 3, 55] (fun s2 s3 i wx => s2 = .slice (some ⟨bu, 0, none⟩) m m ∧ s3 = .slice (some ⟨bd, 0, none⟩) m m ∧ ∃ (j : Nat) (U' : Nat → Int) (D' : Nat → Nat), j ≤ x.kids.length ∧ i = .int .i64 j ∧ RowsW w m bu bd U' D' wx ∧ D' k = d ∧ stepKids m k d (x.kids.drop j) D' = R) (fun _ _ i _ => x.kids.length - (intOf i).toNat)
            case atStart => exact ⟨rfl, rfl, 0, _, _, Nat.zero_le _, rfl, HRn.out.on hb, HD.out, by simpa using HR.out⟩
            case round =>
              clear HRn HD HR q1 q2 cK k18 hbw hb cM rN hxn cD
              obtain ⟨rfl, rfl, j, U', D', hj, rfl, hRr, hdk, hst⟩ := hrel
              by_cases hj2 : j < x.kids.length
              · obtain ⟨kb, ko, rfl, hkl, hkv⟩ : ∃ kb ko, kp = some ⟨kb, ko, none⟩ ∧ x.kids.length ≤ 9223372036854775807 ∧ w.cell? ⟨kb, ko + j, none⟩ = some (.int .i64 x.kids[j]) := by
                  rcases HK.out with ⟨_, e, h0⟩ | ⟨kb, ko, cap, e, hl, hc⟩
                  · rw [h0] at hj2; cases hj2
                  · cases e; exact ⟨kb, ko, rfl, hl, hc j hj2⟩
                have hkv := (hRr.below.cell (cell_lt hkv)).trans hkv
                rw [stepKids_drop hj2] at hst
                obtain ⟨v, hv⟩ : ∃ v, x.kids[j] = v := ⟨_, rfl⟩
                rw [hv] at hkv hst
                clear hv HX
                have hbw := hRr.below
                by_cases h1 : v ≤ (k : Int) ∨ (m : Int) ≤ v
                · rw [if_pos (h1.imp id .inl)] at hst
                  subst hst
                  have hgf : G = false := HGo.out.symm
                  subst hgf
                  clear HGo HK hRr hdk
                  rcases h1 with h1 | h1
                  · gi_wp2
                    go_ret3
                    exact ⟨_, _, rfl, hbw⟩
                  · have h0 : ¬ v ≤ (k : Int) := by omega
                    gi_wp2
                    go_ret3
                    exact ⟨_, _, rfl, hbw⟩
                · obtain ⟨p, rfl⟩ : ∃ p : Nat, v = (p : Int) := ⟨v.toNat, by omega⟩
                  have g1 : ¬ (p : Int) ≤ (k : Int) := fun h => h1 (.inl h)
                  have g2 : ¬ (m : Int) ≤ (p : Int) := fun h => h1 (.inr h)
                  have hpm : p < m := by omega
                  have hcp := hRr.d.cell p hpm
                  rw [Int.toNat_natCast] at hst
                  obtain ⟨e, he⟩ : ∃ e, D' p = e := ⟨_, rfl⟩
                  simp only [he] at hcp
                  rw [he] at hst
                  clear h1
                  by_cases h3 : e = 0
                  · subst h3
                    rw [if_neg (by omega)] at hst
                    have hcd := hRr.d.cell k hlt
                    simp only [hdk] at hcd
                    have u1 := hRr.u.cell p hpm
                    have f1 := hRr.u.froz p hpm
                    have c2 : (wr.setCell ⟨bu, p, none⟩ (.int .i64 (k : Nat))).cell? ⟨bd, p, none⟩ = some (.int .i64 0) := by
                      have := (hRr.d.far (w := wr) ⟨bu, p, none⟩ (.int .i64 (k : Nat)) hRr.ne).cell p hpm
                      simp only [he] at this
                      exact this
                    have f2 := hRr.d.froz p hpm
                    gi_wp2
                    go_roundw
                    case rel =>
                      refine ⟨rfl, rfl, j + 1, put U' p (k : Int), put D' p (d + 1), by omega, by go_num, ?_, ?_, hst⟩
                      · have := hRr.turn hpm (k : Int) (d + 1)
                        rw [show (((d + 1 : Nat)) : Int) = (d : Int) + 1 by omega] at this
                        exact this
                      · rw [put_ne _ _ (by omega)]; exact hdk
                    case measure => simp [intOf]; omega
                  · rw [if_pos (.inr (.inr h3))] at hst
                    subst hst
                    have hgf : G = false := HGo.out.symm
                    subst hgf
                    have h4 : ((e : Int) == 0) = false := by rw [beq_eq_false_iff_ne]; omega
                    clear HGo HK hRr hdk
                    gi_wp2
                    go_ret3
                    exact ⟨_, _, rfl, hbw⟩
              · obtain rfl : j = x.kids.length := by omega
                rw [List.drop_length] at hst
                have hst : some D' = R := hst
                subst hst
                gi_wp2
                go_roundw
                case rel => exact ⟨rfl, rfl, k + 1, U', D', by omega, by go_num, hRr, HGo.out⟩
                case measure => simp [intOf]; omega
        · obtain rfl : k = m := by omega
          rw [show xs.drop k = [] from List.drop_of_length_le (by rw [HN.out]; exact Nat.le_refl _)] at hgo
          have hgo : true = G := hgo
          subst hgo
          have hbw := hRr.below
          clear HG HX hRr hz1 hz2 hz3 hi3
          gi_wp2
          go_ret3
          exact ⟨_, _, rfl, hbw⟩
end Go.Proofs.YthjofgmiabcifabGreatDoor.Sq
namespace Go.Proofs.YthjofgmiabcifabGreatDoor.Sq
open Go Go.RowKit
def eSpec (G : Bool) : Int := if G then 0 else 6
theorem tcheck_in {T : World → Prop} (V : ValidIn T) (sp : Option Addr) (m c : Nat) (xs : List NodeX) (w : World) (hn : NodesAt w (.slice sp m c) xs) (hT : T w) : Gives 6 #[.agg #[.slice sp m c]] w (.int .i64 (eSpec (treeB (xs.map NodeX.row)))) := by
  have hb1 : Below w.heap.size w (w.alloc (.cells #[.slice sp m c] 24)) := (Below.refl _ _).alloc (Nat.le_refl _) _
  have c1 := parents_in V sp m c xs (w.alloc (.cells #[.slice sp m c] 24)) (hn.below hb1) (V.below _ _ hT hb1)
  clear hn
  generalize treeB (xs.map NodeX.row) = G at c1 ⊢
  cases G
  all_goals
    unfold eSpec
    gi_enter Tryz.func6, Tryz.ntmps6
    gi_wp2_with (gi_at_call 20; (with_reducible refine CallsIn.mono c1 ?_); rintro e w' ⟨a, b, rfl, hb⟩)
    go_ret
    exact ⟨rfl, hb1.trans (hb.mono (by simp))⟩
end Go.Proofs.YthjofgmiabcifabGreatDoor.Sq
