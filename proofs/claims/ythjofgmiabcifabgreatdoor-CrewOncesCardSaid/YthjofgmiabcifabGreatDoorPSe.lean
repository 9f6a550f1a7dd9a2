/-
  The checks of nodes and wrappers, by the plain law.
  Conditions: as each theorem says.
-/
import Derived.Test.YthjofgmiabcifabGreatDoorPSd
set_option linter.unusedVariables false
set_option linter.unusedSimpArgs false
namespace Go.Proofs.YthjofgmiabcifabGreatDoor.Sq
open Go Go.RowKit
/-- It returns v, and the world stands as it was. -/
abbrev GivesS (f : FuncId) (args : Array Value) (w : World) (v : Value) : Prop := CallsIn FF 0 Tryz.prog f args w fun e w' => e = .returned v ∧ w = w'
theorem pfrom_ok (a l h : Int) (w : World) (h1 : l ≤ a) (h2 : a ≤ h) : GivesS 104 #[.int .i64 a, .int .i64 l, .int .i64 h] w (.bool true) := by
  gi_enter Tryz.func104, Tryz.ntmps104
  gi_wp2
  all_goals (go_ret; first | (refine ⟨ret_bool ?_, rfl⟩; simp; omega) | exact ⟨rfl, rfl⟩ | (exfalso; omega))
theorem rwithin_ok (a l h : Int) (w : World) (h1 : l ≤ a) (h2 : a ≤ h) : GivesS 114 #[.int .i64 a, .int .i64 l, .int .i64 h] w (.bool true) := by
  gi_enter Tryz.func114, Tryz.ntmps114
  gi_wp2
  all_goals (go_ret; first | (refine ⟨ret_bool ?_, rfl⟩; simp; omega) | exact ⟨rfl, rfl⟩ | (exfalso; omega))
theorem side_ok (a : Int) (w : World) (h1 : 0 ≤ a) (h2 : a ≤ 16384) : GivesS 113 #[.int .i64 a] w (.bool true) := by
  have c := rwithin_ok a 0 16384 w h1 h2
  gi_enter Tryz.func113, Tryz.ntmps113
  gi_wp2_with (gi_at_call 114; refine CallsIn.mono c ?_; rintro e w' ⟨rfl, rfl⟩)
  go_ret
  exact ⟨rfl, rfl⟩
theorem pmost_ok (a b : Int) (w : World) (h : b = 0 ∨ a ≤ b) : GivesS 107 #[.int .i64 a, .int .i64 b] w (.bool true) := by
  gi_enter Tryz.func107, Tryz.ntmps107
  gi_wp2
  all_goals (go_ret; first | (refine ⟨ret_bool ?_, rfl⟩; simp; omega) | exact ⟨rfl, rfl⟩ | (exfalso; omega))
theorem ptext_ok {T : World → Prop} (V : ValidIn T) (s : ByteArray) (m : Int) (w : World) (hs : s.size ≤ maxLen) (hT : T w) (h : (s.size : Int) ≤ m) (hv : vs s = true) : Gives 105 #[.string s, .int .i64 m] w (.bool true) := by
  have c := V.valid s w hs hT
  rw [hv] at c
  gi_enter Tryz.func105, Tryz.ntmps105
  gi_wp2_with (gi_at_call 93; refine c.mono ?_; rintro e w' ⟨rfl, hb⟩)
  go_ret
  exact ⟨rfl, hb⟩
theorem r6text_ok {T : World → Prop} (V : ValidIn T) (s : ByteArray) (m : Int) (w : World) (hs : s.size ≤ maxLen) (hT : T w) (h : (s.size : Int) ≤ m) (hv : vs s = true) : Gives 112 #[.string s, .int .i64 m] w (.bool true) := by
  have c := V.valid s w hs hT
  rw [hv] at c
  gi_enter Tryz.func112, Tryz.ntmps112
  gi_wp2_with (gi_at_call 93; refine c.mono ?_; rintro e w' ⟨rfl, hb⟩)
  go_ret
  exact ⟨rfl, hb⟩
theorem sides_ok (a : Addr) (xs : List Int) (cap : Nat) (w : World) (hl : xs.length ≤ 1000) (hx : ∀ i (h : i < xs.length), w.cell? (a.add i) = some (.int .i64 xs[i])) (hr : ∀ i (h : i < xs.length), 0 ≤ xs[i] ∧ xs[i] ≤ 16384) :
    GivesS 106 #[.slice (some a) xs.length cap] w (.bool true) := by
  gi_enter Tryz.func106, Tryz.ntmps106
  gi_wp2
  gi_loop [7] (fun i => ∃ k : Nat, k ≤ xs.length ∧ i = .int .i64 k) (fun i => xs.length - (intOf i).toNat)
  case atStart => exact ⟨0, Nat.zero_le _, rfl⟩
  case round =>
    obtain ⟨k, hk, rfl⟩ := hrel
    have HX := Lib.hid hx
    have HR := Lib.hid hr
    clear hx hr
    by_cases hlt : k < xs.length
    · have hc : w.cell? (a.add k) = some (.int .i64 xs[k]) := HX.out k hlt
      have hv := HR.out k hlt
      generalize xs[k] = v at hc hv
      have c := pfrom_ok v 0 16384 w hv.1 hv.2
      clear hv
      gi_wp2_with (gi_at_call 104; refine CallsIn.mono c ?_; rintro e w' ⟨rfl, rfl⟩)
      go_round
      case rel => exact ⟨k + 1, by omega, by go_num⟩
      case measure => simp [intOf]; omega
    · gi_wp2
      go_ret
      exact ⟨rfl, rfl⟩
theorem sides6 (x0 x1 x2 x3 x4 x5 : Int) (t : TypeId) (w : World) (h0 : 0 ≤ x0 ∧ x0 ≤ 16384) (h1 : 0 ≤ x1 ∧ x1 ≤ 16384) (h2 : 0 ≤ x2 ∧ x2 ≤ 16384) (h3 : 0 ≤ x3 ∧ x3 ≤ 16384) (h4 : 0 ≤ x4 ∧ x4 ≤ 16384) (h5 : 0 ≤ x5 ∧ x5 ≤ 16384) :
    GivesS 106 #[.slice (some ⟨w.heap.size, 0, none⟩) 6 6] (w.alloc (.cells #[.int .i64 x0, .int .i64 x1, .int .i64 x2, .int .i64 x3, .int .i64 x4, .int .i64 x5] t)) (.bool true) :=
  sides_ok ⟨w.heap.size, 0, none⟩ [x0, x1, x2, x3, x4, x5] 6 _ (by simp) (by
    intro i hi
    have : i = 0 ∨ i = 1 ∨ i = 2 ∨ i = 3 ∨ i = 4 ∨ i = 5 := by simp at hi; omega
    rcases this with rfl | rfl | rfl | rfl | rfl | rfl <;> exact cell_new _ _ _ _) (by
    intro i hi
    have : i = 0 ∨ i = 1 ∨ i = 2 ∨ i = 3 ∨ i = 4 ∨ i = 5 := by simp at hi; omega
    rcases this with rfl | rfl | rfl | rfl | rfl | rfl <;> assumption)
/-- What a kind can. -/
def canK (k : Int) : Int := if k = 1 ∨ k = 7 then 3 else if k = 2 then 7 else if k = 3 then 23 else if k = 4 ∨ k = 5 ∨ k = 10 then 33 else if k = 6 then 47 else if k = 8 then 2 else if k = 9 then 1 else 0
theorem rcanK_in (k : Int) (w : World) : GivesS 39 #[.int .u8 k] w (.int .u16 (canK k)) := by
  unfold canK
  gi_enter Tryz.func39, Tryz.ntmps39
  gi_wp2
  all_goals (go_ret; simp_all)
theorem rworking_in (k : Int) (w : World) : GivesS 17 #[.int .i64 k] w (.bool (decide (1 ≤ k) && decide (k ≤ 16))) := by
  gi_enter Tryz.func17, Tryz.ntmps17
  gi_wp2
  all_goals (go_ret; refine ⟨ret_bool ?_, rfl⟩; rw [Bool.eq_iff_iff]; simp; omega)
end Go.Proofs.YthjofgmiabcifabGreatDoor.Sq
namespace Go.Proofs.YthjofgmiabcifabGreatDoor.Sq
open Go Go.RowKit
/-- A node's own fields may be. -/
structure NodeOk (n : NodeS) : Prop where
  k1 : 1 ≤ n.kind
  k2 : n.kind ≤ 10
  nm : (n.name.size : Int) ≤ 64
  nv : vs n.name = true
  cl : (n.cls.size : Int) ≤ 64
  cv : vs n.cls = true
  tx : (n.text.size : Int) ≤ 65536
  tv : vs n.text = true
  mw : 0 ≤ n.minW ∧ n.minW ≤ 16384
  mh : 0 ≤ n.minH ∧ n.minH ≤ 16384
  xw : 0 ≤ n.maxW ∧ n.maxW ≤ 16384
  xh : 0 ≤ n.maxH ∧ n.maxH ≤ 16384
  wm : n.maxW = 0 ∨ n.minW ≤ n.maxW
  hm : n.maxH = 0 ∨ n.minH ≤ n.maxH
  gr : 0 ≤ n.grow ∧ n.grow ≤ 16384
  gp : 0 ≤ n.gap ∧ n.gap ≤ 16384
  od : -1 ≤ n.order ∧ n.order ≤ 1048576
  co : 0 ≤ n.columns ∧ n.columns ≤ 64
  sp : 0 ≤ n.span ∧ n.span ≤ 64
  ox : 0 ≤ n.offX ∧ n.offX ≤ 1048576
  oy : 0 ≤ n.offY ∧ n.offY ≤ 1048576
  wr : n.wrapsN ≤ 16
theorem nodeOk_of {n : NodeS} {ws : List WrapS} (h : nodeB n ws = true) : NodeOk n ∧ wrapsB ws = true := by
  simp only [nodeB, may1B, rn1B, rn2B, rn3B, tB, fB, mB, Bool.and_eq_true, Bool.or_eq_true, decide_eq_true_eq] at h
  obtain ⟨⟨a1, a2, ⟨a3, a4⟩, ⟨a5, a6⟩, a7, a8⟩, ⟨b1, b2, b3, b4⟩, ⟨c1, c2⟩, ⟨d1, d2, d3, d4, d5, d6, d7, d8, d9⟩, e⟩ := h
  exact ⟨⟨a1, a2, a3, a4, a5, a6, a7, a8, b1, b2, b3, b4, c1, c2, d1, d6, ⟨d2, d3⟩, d4, d5, d7, d8, by omega⟩, e⟩
theorem alloc_below {w w' : World} (o : Obj) (h : (w.alloc o) = w') : Below w.heap.size w w' := h ▸ (Below.refl _ _).alloc (Nat.le_refl _) _
set_option maxHeartbeats 8000000 in
set_option maxRecDepth 100000 in
theorem check_ok {T : World → Prop} (V : ValidIn T) (n : NodeS) (w : World) (hf : n.fits) (ok : NodeOk n) (hT : T w) : Gives 88 #[n.val] w (.int .i64 0) := by
  have HB := Lib.hid (BoxW.box V n 68 hT)
  obtain ⟨f1, f2, f3, f4, f5⟩ := hf
  obtain ⟨k1, k2, nm, nv, cl, cv, tx, tv, mw, mh, xw, xh, wm, hm, gr, gp, od, co, sp, ox, oy, wr⟩ := ok
  have hB0 := HB.out
  have c0 : ∀ w', GivesS 104 #[.int .i64 n.kind, .int .i64 1, .int .i64 10] w' _ := fun w' => pfrom_ok _ _ _ w' k1 k2
  have c1 : ∀ w', BoxW T w n w' → Gives 105 #[.string n.name, .int .i64 64] w' _ := fun w' h => ptext_ok V n.name 64 w' f1 h.tabs nm nv
  have c2 : ∀ w', BoxW T w n w' → Gives 105 #[.string n.cls, .int .i64 64] w' _ := fun w' h => ptext_ok V n.cls 64 w' f2 h.tabs cl cv
  have c3 : ∀ w', BoxW T w n w' → Gives 105 #[.string n.text, .int .i64 65536] w' _ := fun w' h => ptext_ok V n.text 65536 w' f3 h.tabs tx tv
  have c4 : ∀ w', BoxW T w n w' → CallsIn FF 0 Tryz.prog 106 #[.slice (some ⟨w'.heap.size, 0, none⟩) 6 6] (w'.alloc (.cells #[.int .i64 n.minW, .int .i64 n.minH, .int .i64 n.maxW, .int .i64 n.maxH, .int .i64 n.grow, .int .i64 n.gap] 3)) fun e w'' =>
      e = .returned (.bool true) ∧ BoxW T w n w'' := fun w' h => CallsIn.mono (sides6 _ _ _ _ _ _ 3 w' mw mh xw xh gr gp) fun e w'' ⟨h1, h2⟩ => ⟨h1, h.next V (alloc_below _ h2)⟩
  have c5 : ∀ w', GivesS 107 #[.int .i64 n.minW, .int .i64 n.maxW] w' _ := fun w' => pmost_ok _ _ w' wm
  have c6 : ∀ w', GivesS 107 #[.int .i64 n.minH, .int .i64 n.maxH] w' _ := fun w' => pmost_ok _ _ w' hm
  have c7 : ∀ w', GivesS 104 #[.int .i64 n.order, .int .i64 (-1), .int .i64 1048576] w' _ := fun w' => pfrom_ok _ _ _ w' od.1 od.2
  have c8 : ∀ w', GivesS 104 #[.int .i64 n.columns, .int .i64 0, .int .i64 64] w' _ := fun w' => pfrom_ok _ _ _ w' co.1 co.2
  have c9 : ∀ w', GivesS 104 #[.int .i64 n.span, .int .i64 0, .int .i64 64] w' _ := fun w' => pfrom_ok _ _ _ w' sp.1 sp.2
  have ca : ∀ w', GivesS 104 #[.int .i64 n.offX, .int .i64 0, .int .i64 1048576] w' _ := fun w' => pfrom_ok _ _ _ w' ox.1 ox.2
  have cb : ∀ w', GivesS 104 #[.int .i64 n.offY, .int .i64 0, .int .i64 1048576] w' _ := fun w' => pfrom_ok _ _ _ w' oy.1 oy.2
  clear f1 f2 f3 nm nv cl cv tx tv mw mh xw xh wm hm gr gp od co sp ox oy wr
  have kk : ∀ w', BoxW T w n w' → ∀ i v, n.cells[i]? = some v → w'.cell? ⟨w.heap.size, i, none⟩ = some v := fun w' h i v hi => by have := h.node i v hi; rwa [Nat.zero_add] at this
  have KK := Lib.hid kk
  clear kk
  unfold NodeS.val NodeS.cells
  unfold NodeS.cells at hB0
  gi_enter Tryz.func88, Tryz.ntmps88
  gi_wp2_with (first
    | (gi_at_call 104; (first | (with_reducible refine CallsIn.mono (c0 _) ?_) | (with_reducible refine CallsIn.mono (c7 _) ?_) | (with_reducible refine CallsIn.mono (c8 _) ?_) | (with_reducible refine CallsIn.mono (c9 _) ?_) | (with_reducible refine CallsIn.mono (ca _) ?_) | (with_reducible refine CallsIn.mono (cb _) ?_)); rintro e w' ⟨rfl, rfl⟩)
    | (gi_at_call 105; (first
        | (with_reducible refine CallsIn.mono (c1 _ (by assumption)) ?_)
        | (with_reducible refine CallsIn.mono (c2 _ (by assumption)) ?_)
        | (with_reducible refine CallsIn.mono (c3 _ (by assumption)) ?_)); rintro e w' ⟨rfl, hb⟩; have hB' := BoxW.next V (by assumption) hb
       have q2 := KK.out _ hB' 2 _ rfl; have q3 := KK.out _ hB' 3 _ rfl; have q4 := KK.out _ hB' 4 _ rfl; have q5 := KK.out _ hB' 5 _ rfl; have q6 := KK.out _ hB' 6 _ rfl; have q7 := KK.out _ hB' 7 _ rfl; have q8 := KK.out _ hB' 8 _ rfl; have q13 := KK.out _ hB' 13 _ rfl)
    | (gi_at_call 106; (with_reducible refine CallsIn.mono (c4 _ (by assumption)) ?_); rintro e w' ⟨rfl, hB'⟩
       have q4 := KK.out _ hB' 4 _ rfl; have q5 := KK.out _ hB' 5 _ rfl; have q6 := KK.out _ hB' 6 _ rfl; have q7 := KK.out _ hB' 7 _ rfl; have q9 := KK.out _ hB' 9 _ rfl; have q11 := KK.out _ hB' 11 _ rfl; have q12 := KK.out _ hB' 12 _ rfl; have q14 := KK.out _ hB' 14 _ rfl; have q15 := KK.out _ hB' 15 _ rfl)
    | (gi_at_call 107; (first | (with_reducible refine CallsIn.mono (c5 _) ?_) | (with_reducible refine CallsIn.mono (c6 _) ?_)); rintro e w' ⟨rfl, rfl⟩))
  go_ret
  exact ⟨rfl, BoxW.below (by assumption)⟩
end Go.Proofs.YthjofgmiabcifabGreatDoor.Sq
namespace Go.Proofs.YthjofgmiabcifabGreatDoor.Sq
open Go Go.RowKit
set_option maxHeartbeats 8000000 in
set_option maxRecDepth 100000 in
theorem node6_ok {T : World → Prop} (V : ValidIn T) (n : NodeS) (w : World) (hf : n.fits) (ok : NodeOk n) (hT : T w) : Gives 95 #[n.val] w (.int .i64 0) := by
  have HB := Lib.hid (BoxW.box V n 68 hT)
  obtain ⟨f1, f2, f3, f4, f5⟩ := hf
  obtain ⟨k1, k2, nm, nv, cl, cv, tx, tv, mw, mh, xw, xh, wm, hm, gr, gp, od, co, sp, ox, oy, wr⟩ := ok
  have hB0 := HB.out
  have c1 : ∀ w', BoxW T w n w' → Gives 112 #[.string n.name, .int .i64 64] w' _ := fun w' h => r6text_ok V n.name 64 w' f1 h.tabs nm nv
  have c2 : ∀ w', BoxW T w n w' → Gives 112 #[.string n.cls, .int .i64 64] w' _ := fun w' h => r6text_ok V n.cls 64 w' f2 h.tabs cl cv
  have c3 : ∀ w', BoxW T w n w' → Gives 112 #[.string n.text, .int .i64 65536] w' _ := fun w' h => r6text_ok V n.text 65536 w' f3 h.tabs tx tv
  have d1 : ∀ w', GivesS 113 #[.int .i64 n.minW] w' _ := fun w' => side_ok _ w' mw.1 mw.2
  have d2 : ∀ w', GivesS 113 #[.int .i64 n.minH] w' _ := fun w' => side_ok _ w' mh.1 mh.2
  have d3 : ∀ w', GivesS 113 #[.int .i64 n.maxW] w' _ := fun w' => side_ok _ w' xw.1 xw.2
  have d4 : ∀ w', GivesS 113 #[.int .i64 n.maxH] w' _ := fun w' => side_ok _ w' xh.1 xh.2
  have d5 : ∀ w', GivesS 113 #[.int .i64 n.grow] w' _ := fun w' => side_ok _ w' gr.1 gr.2
  have d6 : ∀ w', GivesS 113 #[.int .i64 n.gap] w' _ := fun w' => side_ok _ w' gp.1 gp.2
  have c7 : ∀ w', GivesS 114 #[.int .i64 n.order, .int .i64 (-1), .int .i64 1048576] w' _ := fun w' => rwithin_ok _ _ _ w' od.1 od.2
  have c8 : ∀ w', GivesS 114 #[.int .i64 n.columns, .int .i64 0, .int .i64 64] w' _ := fun w' => rwithin_ok _ _ _ w' co.1 co.2
  have c9 : ∀ w', GivesS 114 #[.int .i64 n.span, .int .i64 0, .int .i64 64] w' _ := fun w' => rwithin_ok _ _ _ w' sp.1 sp.2
  have ca : ∀ w', GivesS 114 #[.int .i64 n.offX, .int .i64 0, .int .i64 1048576] w' _ := fun w' => rwithin_ok _ _ _ w' ox.1 ox.2
  have cb : ∀ w', GivesS 114 #[.int .i64 n.offY, .int .i64 0, .int .i64 1048576] w' _ := fun w' => rwithin_ok _ _ _ w' oy.1 oy.2
  have WM := Lib.hid wm
  have HM := Lib.hid hm
  have k1' : ¬ n.kind < 1 := by omega
  have k2' : ¬ 10 < n.kind := by omega
  clear f1 f2 f3 k1 k2 nm nv cl cv tx tv mw mh xw xh wm hm gr gp od co sp ox oy wr
  have kk : ∀ w', BoxW T w n w' → ∀ i v, n.cells[i]? = some v → w'.cell? ⟨w.heap.size, i, none⟩ = some v := fun w' h i v hi => by have := h.node i v hi; rwa [Nat.zero_add] at this
  have KK := Lib.hid kk
  clear kk
  unfold NodeS.val NodeS.cells
  unfold NodeS.cells at hB0
  gi_enter Tryz.func95, Tryz.ntmps95
  gi_upto_region 5 with (first
    | (gi_at_call 112; (first
        | (with_reducible refine CallsIn.mono (c1 _ (by assumption)) ?_)
        | (with_reducible refine CallsIn.mono (c2 _ (by assumption)) ?_)
        | (with_reducible refine CallsIn.mono (c3 _ (by assumption)) ?_)); rintro e w' ⟨rfl, hb⟩; have hB' := BoxW.next V (by assumption) hb
       have q2 := KK.out _ hB' 2 _ rfl; have q3 := KK.out _ hB' 3 _ rfl; have q4 := KK.out _ hB' 4 _ rfl; have q5 := KK.out _ hB' 5 _ rfl; have q6 := KK.out _ hB' 6 _ rfl; have q7 := KK.out _ hB' 7 _ rfl)
    | (gi_at_call 113; (first | (with_reducible refine CallsIn.mono (d1 _) ?_) | (with_reducible refine CallsIn.mono (d2 _) ?_) | (with_reducible refine CallsIn.mono (d3 _) ?_) | (with_reducible refine CallsIn.mono (d4 _) ?_)); rintro e w' ⟨rfl, rfl⟩))
  gi_cut [5] from 50 (fun s5 wd => s5 = .bool true ∧ BoxW T w n wd)
  case first =>
    have hwm : ((n.maxW == 0) = true) ∨ ((n.maxW == 0) = false ∧ n.minW ≤ n.maxW) := by
      have := WM.out
      by_cases e : n.maxW = 0
      · exact .inl (by simp [e])
      · exact .inr ⟨by simp [e], by omega⟩
    have hhm : ((n.maxH == 0) = true) ∨ ((n.maxH == 0) = false ∧ n.minH ≤ n.maxH) := by
      have := HM.out
      by_cases e : n.maxH = 0
      · exact .inl (by simp [e])
      · exact .inr ⟨by simp [e], by omega⟩
    rcases hwm with e1 | ⟨e1, e3⟩
    all_goals
      rcases hhm with e2 | ⟨e2, e4⟩
      all_goals
        gi_wp2
        all_goals
          gi_meet
          case rel => exact ⟨by simp [*], by assumption⟩
  case rest =>
    obtain ⟨rfl, hB⟩ := hcut
    have q8 := KK.out _ hB 8 _ rfl; have q9 := KK.out _ hB 9 _ rfl; have q11 := KK.out _ hB 11 _ rfl; have q12 := KK.out _ hB 12 _ rfl; have q13 := KK.out _ hB 13 _ rfl; have q14 := KK.out _ hB 14 _ rfl; have q15 := KK.out _ hB 15 _ rfl
    gi_wp2_with (first
      | (gi_at_call 113; (first | (with_reducible refine CallsIn.mono (d5 _) ?_) | (with_reducible refine CallsIn.mono (d6 _) ?_)); rintro e w' ⟨rfl, rfl⟩)
      | (gi_at_call 114; (first | (with_reducible refine CallsIn.mono (c7 _) ?_) | (with_reducible refine CallsIn.mono (c8 _) ?_) | (with_reducible refine CallsIn.mono (c9 _) ?_) | (with_reducible refine CallsIn.mono (ca _) ?_) | (with_reducible refine CallsIn.mono (cb _) ?_)); rintro e w' ⟨rfl, rfl⟩))
    go_ret
    exact ⟨rfl, hB.below⟩
end Go.Proofs.YthjofgmiabcifabGreatDoor.Sq
namespace Go.Proofs.YthjofgmiabcifabGreatDoor.Sq
open Go Go.RowKit
/-- The wrappers of a list, each of which may be. -/
theorem wrapsB_get {ws : List WrapS} (h : wrapsB ws = true) {i : Nat} (hi : i < ws.length) : wrapP ws[i] := by
  unfold wrapsB at h
  rw [List.all_eq_true] at h
  exact of_decide_eq_true (h _ (List.getElem_mem hi))
set_option maxHeartbeats 1000000 in
theorem checks_ok {T : World → Prop} (V : ValidIn T) {v : Value} {ws : List WrapS} {w : World} (hw : WrapsAt w v ws) (hb : wrapsB ws = true) (hl : ws.length ≤ 16) (hT : T w) : Gives 91 #[v] w (.int .i64 0) := by
  rcases hw with ⟨p0, rfl, rfl⟩ | ⟨b, o, cap, rfl, hmx, hx⟩
  · gi_enter Tryz.func91, Tryz.ntmps91
    gi_wp2
    gi_loopw [11] (fun i wx => wx = w ∧ i = .int .i64 0) (fun _ _ => 0)
    case atStart => exact ⟨rfl, rfl⟩
    case round =>
      obtain ⟨rfl, rfl⟩ := hrel
      gi_wp2
      go_ret
      exact ⟨rfl, Below.refl _ _⟩
  · clear hmx
    have HX := Lib.hid hx
    have HB := Lib.hid hb
    clear hx hb
    gi_enter Tryz.func91, Tryz.ntmps91
    gi_wp2
    gi_loopw [11] (fun i wx => Below w.heap.size w wx ∧ ∃ k : Nat, k ≤ ws.length ∧ i = .int .i64 k) (fun i _ => ws.length - (intOf i).toNat)
    case atStart => exact ⟨Below.refl _ _, 0, Nat.zero_le _, rfl⟩
    case round =>
      obtain ⟨hbw, k, hk, rfl⟩ := hrel
      by_cases hlt : k < ws.length
      · have hat := (HX.out k hlt).below hbw
        have hp := wrapsB_get HB.out hlt
        generalize ws[k] = x at hat hp
        obtain ⟨h0, h1, h2, h3, h4⟩ := hat
        have hwr : Below w.heap.size w (wr.alloc (.cells #[.int .u8 x.kind, .int .u16 x.mask, .int .i64 x.number, .string x.text] 103)) := hbw.alloc hbw.size _
        have c := wcheck_in V x (wr.alloc (.cells #[.int .u8 x.kind, .int .u16 x.mask, .int .i64 x.number, .string x.text] 103)) h4 (V.below _ _ hT hwr)
        rw [rW_of hp] at c
        clear hp
        unfold WrapS.val at c
        gi_wp2_with (gi_at_call 77; with_reducible refine CallsIn.mono c ?_; rintro e w' ⟨rfl, hb⟩)
        go_roundw
        case rel => exact ⟨hwr.trans (hb.mono hwr.size), k + 1, by omega, by go_num⟩
        case measure => simp [intOf]; omega
      · gi_wp2
        go_ret
        exact ⟨rfl, hbw⟩
set_option maxHeartbeats 1000000 in
theorem rchecks_ok {T : World → Prop} (V : ValidIn T) {v : Value} {ws : List WrapS} {w : World} (hw : WrapsAt w v ws) (hb : wrapsB ws = true) (hm : ∀ x ∈ ws, 0 ≤ x.mask ∧ x.mask < 65536) (hl : ws.length ≤ 16) (hT : T w) : Gives 96 #[v] w (.int .i64 0) := by
  rcases hw with ⟨p0, rfl, rfl⟩ | ⟨b, o, cap, rfl, hmx, hx⟩
  · gi_enter Tryz.func96, Tryz.ntmps96
    gi_wp2
    gi_loopw [3] (fun i wx => wx = w ∧ i = .int .i64 0) (fun _ _ => 0)
    case atStart => exact ⟨rfl, rfl⟩
    case round =>
      obtain ⟨rfl, rfl⟩ := hrel
      gi_wp2
      go_ret
      exact ⟨rfl, Below.refl _ _⟩
  · clear hmx
    have HX := Lib.hid hx
    have HB := Lib.hid hb
    have HM := Lib.hid hm
    clear hx hb hm
    gi_enter Tryz.func96, Tryz.ntmps96
    gi_wp2
    gi_loopw [3] (fun i wx => Below w.heap.size w wx ∧ ∃ k : Nat, k ≤ ws.length ∧ i = .int .i64 k) (fun i _ => ws.length - (intOf i).toNat)
    case atStart => exact ⟨Below.refl _ _, 0, Nat.zero_le _, rfl⟩
    case round =>
      obtain ⟨hbw, k, hk, rfl⟩ := hrel
      by_cases hlt : k < ws.length
      · have hat := (HX.out k hlt).below hbw
        have hp := wrapsB_get HB.out hlt
        have hmk := HM.out ws[k] (List.getElem_mem hlt)
        generalize ws[k] = x at hat hp hmk
        obtain ⟨h0, h1, h2, h3, h4⟩ := hat
        have c := rcheck_in V x wr h4 hmk.1 hmk.2 (V.below _ _ hT hbw)
        rw [rW_of hp] at c
        clear hp hmk
        unfold WrapS.val at c
        gi_wp2_with (gi_at_call 69; with_reducible refine CallsIn.mono c ?_; rintro e w' ⟨rfl, hb⟩)
        go_roundw
        case rel => exact ⟨hbw.trans (hb.mono hbw.size), k + 1, by omega, by go_num⟩
        case measure => simp [intOf]; omega
      · gi_wp2
        go_ret
        exact ⟨rfl, hbw⟩
/-- What a part can, within a wrapper. -/
def saysI (c : Int) (x : WrapS) : Int :=
  if x.kind = 1 then bits .andNot .u16 c x.mask else if x.kind = 2 then bits .and .u16 c x.mask else if x.kind = 5 then bits .or .u16 c 4 else if x.kind = 6 then bits .or .u16 c 16 else if x.kind = 7 then 0 else c
/-- Sets of abilities. -/
def Set6 (c : Int) : Prop := 0 ≤ c ∧ c < 64
set_option maxRecDepth 100000 in
theorem bits_tab : ∀ a b : Fin 64, bits .andNot .u16 ((a.val : Nat) : Int) ((b.val : Nat) : Int) = IntKind.u16.wrap (((a.val : Nat) : Int) - bits .and .u16 ((a.val : Nat) : Int) ((b.val : Nat) : Int)) ∧
    0 ≤ bits .andNot .u16 ((a.val : Nat) : Int) ((b.val : Nat) : Int) ∧ bits .andNot .u16 ((a.val : Nat) : Int) ((b.val : Nat) : Int) < 64 ∧ 0 ≤ bits .and .u16 ((a.val : Nat) : Int) ((b.val : Nat) : Int) ∧ bits .and .u16 ((a.val : Nat) : Int) ((b.val : Nat) : Int) < 64 := by decide +kernel
set_option maxRecDepth 100000 in
theorem or_tab : ∀ a : Fin 64, (0 ≤ bits .or .u16 ((a.val : Nat) : Int) 4 ∧ bits .or .u16 ((a.val : Nat) : Int) 4 < 64) ∧ 0 ≤ bits .or .u16 ((a.val : Nat) : Int) 16 ∧ bits .or .u16 ((a.val : Nat) : Int) 16 < 64 := by decide +kernel
theorem fin_of {c : Int} (h : Set6 c) : ∃ a : Fin 64, c = ((a.val : Nat) : Int) := ⟨⟨c.toNat, by have := h.1; have := h.2; omega⟩, by have := h.1; show c = ((c.toNat : Nat) : Int); omega⟩
theorem wrapP_mask {x : WrapS} (h : wrapP x) (h0 : 0 ≤ x.mask) (h1 : x.mask < 65536) : Set6 x.mask := by
  have := (wrapP_iff h0 h1).1 h
  unfold wrapQ at this
  exact ⟨h0, by omega⟩
theorem says_set {c : Int} {x : WrapS} (hc : Set6 c) (hm : Set6 x.mask) : Set6 (saysI c x) := by
  obtain ⟨a, rfl⟩ := fin_of hc
  obtain ⟨b, hb⟩ := fin_of hm
  unfold saysI
  rw [hb]
  have t := bits_tab a b
  have u := or_tab a
  split
  · exact ⟨t.2.1, t.2.2.1⟩
  · split
    · exact ⟨t.2.2.2.1, t.2.2.2.2⟩
    · split
      · exact u.1
      · split
        · exact u.2
        · split
          · exact ⟨Int.le_refl 0, by omega⟩
          · exact hc
theorem says_hide {c m : Int} (hc : Set6 c) (hm : Set6 m) : IntKind.u16.wrap (c - bits .and .u16 c m) = bits .andNot .u16 c m := by
  obtain ⟨a, rfl⟩ := fin_of hc
  obtain ⟨b, rfl⟩ := fin_of hm
  exact (bits_tab a b).1.symm
set_option maxHeartbeats 1000000 in
theorem says_in (c : Int) (x : WrapS) (w : World) : Gives 110 #[.int .u16 c, x.val] w (.int .u16 (saysI c x)) := by
  obtain ⟨k, m, n, t⟩ := x
  unfold WrapS.val saysI
  dsimp only
  gi_enter Tryz.func110, Tryz.ntmps110
  gi_wp2
  all_goals (go_ret; refine ⟨ret_int' ?_, (Below.refl _ _).alloc (Nat.le_refl _) _⟩; simp_all)
set_option maxHeartbeats 1000000 in
theorem rsays_in (c : Int) (x : WrapS) (w : World) (hc : Set6 c) (hm : Set6 x.mask) : Gives 40 #[.int .u16 c, x.val] w (.int .u16 (saysI c x)) := by
  obtain ⟨k, m, n, t⟩ := x
  have hh := says_hide hc hm
  unfold WrapS.val saysI
  dsimp only at hh ⊢
  gi_enter Tryz.func40, Tryz.ntmps40
  gi_wp2
  all_goals (go_ret; refine ⟨ret_int' ?_, (Below.refl _ _).alloc (Nat.le_refl _) _⟩; simp_all)
end Go.Proofs.YthjofgmiabcifabGreatDoor.Sq
namespace Go.Proofs.YthjofgmiabcifabGreatDoor.Sq
open Go Go.RowKit
def orB (c : Int) (b : Bool) (m : Int) : Int := if b then bits .or .u16 c m else c
/-- What an assertion with a comma answers. -/
def Asserts (t : TypeId) (v : Value) (i : TypeId) (b : Bool) : Prop := ∃ x, ∀ w, Sem.run Tryz.prog (Instr.typeAssert (.iface t v) 56 i true) w = .ok (.tuple #[x, .bool b]) w
def canB (b1 b2 b3 b4 b5 b6 : Bool) : Int := orB (orB (orB (orB (orB (orB 0 b1 1) b2 2) b3 4) b4 8) b5 16) b6 32
set_option maxHeartbeats 2000000 in
set_option maxRecDepth 100000 in
theorem can_gen (t : TypeId) (v : Value) (w : World) (b1 b2 b3 b4 b5 b6 : Bool) (h1 : Asserts t v 129 b1) (h2 : Asserts t v 132 b2) (h3 : Asserts t v 135 b3) (h4 : Asserts t v 138 b4) (h5 : Asserts t v 141 b5) (h6 : Asserts t v 143 b6) :
    GivesS 32 #[.iface t v] w (.int .u16 (canB b1 b2 b3 b4 b5 b6)) := by
  obtain ⟨x1, h1⟩ := h1
  obtain ⟨x2, h2⟩ := h2
  obtain ⟨x3, h3⟩ := h3
  obtain ⟨x4, h4⟩ := h4
  obtain ⟨x5, h5⟩ := h5
  obtain ⟨x6, h6⟩ := h6
  gi_enter Tryz.func32, Tryz.ntmps32
  gi_upto_if 21 with fail
  gi_cut [3] from 4 (fun s3 wd => s3 = .int .u16 (orB (0 : Int) b1 1) ∧ w = wd)
  case first =>
    cases b1
    all_goals
      gi_wp2
      gi_meet
      case rel => exact ⟨rfl, rfl⟩
  case rest =>
    obtain ⟨rfl, rfl⟩ := hcut
    clear h1
    generalize hc1 : orB 0 b1 1 = c1
    gi_upto_if 29 with fail
    gi_cut [3] from 4 (fun s3 wd => s3 = .int .u16 (orB c1 b2 2) ∧ w = wd)
    case first =>
      cases b2
      all_goals
        gi_wp2
        gi_meet
        case rel => exact ⟨rfl, rfl⟩
    case rest =>
      obtain ⟨rfl, rfl⟩ := hcut
      clear h2
      generalize hc2 : orB c1 b2 2 = c2
      gi_upto_if 37 with fail
      gi_cut [3] from 4 (fun s3 wd => s3 = .int .u16 (orB c2 b3 4) ∧ w = wd)
      case first =>
        cases b3
        all_goals
          gi_wp2
          gi_meet
          case rel => exact ⟨rfl, rfl⟩
      case rest =>
        obtain ⟨rfl, rfl⟩ := hcut
        clear h3
        generalize hc3 : orB c2 b3 4 = c3
        gi_upto_if 45 with fail
        gi_cut [3] from 4 (fun s3 wd => s3 = .int .u16 (orB c3 b4 8) ∧ w = wd)
        case first =>
          cases b4
          all_goals
            gi_wp2
            gi_meet
            case rel => exact ⟨rfl, rfl⟩
        case rest =>
          obtain ⟨rfl, rfl⟩ := hcut
          clear h4
          generalize hc4 : orB c3 b4 8 = c4
          gi_upto_if 53 with fail
          gi_cut [3] from 4 (fun s3 wd => s3 = .int .u16 (orB c4 b5 16) ∧ w = wd)
          case first =>
            cases b5
            all_goals
              gi_wp2
              gi_meet
              case rel => exact ⟨rfl, rfl⟩
          case rest =>
            obtain ⟨rfl, rfl⟩ := hcut
            clear h5
            generalize hc5 : orB c4 b5 16 = c5
            have E := Lib.hid (show ∀ b6, canB b1 b2 b3 b4 b5 b6 = orB c5 b6 32 from fun b6 => by unfold canB; rw [hc1, hc2, hc3, hc4, hc5])
            clear hc1 hc2 hc3 hc4 hc5
            cases b6
            all_goals
              gi_wp2
              go_ret
              refine ⟨?_, rfl⟩
              rw [E.out]
              rfl
theorem Can_gen (t : TypeId) (v : Value) (c : Int) (w : World) (h : ∀ w, GivesS 32 #[.iface t v] w (.int .u16 c)) : GivesS 14 #[.iface t v] w (.int .u16 c) := by
  gi_enter Tryz.func14, Tryz.ntmps14
  gi_wp2_with (gi_at_call 32; refine CallsIn.mono (h _) ?_; rintro e w' ⟨rfl, rfl⟩)
  go_ret
  exact ⟨rfl, rfl⟩
end Go.Proofs.YthjofgmiabcifabGreatDoor.Sq
