/-
  The wrappers are put about a part, by the plain law.
  Conditions: as each theorem says.
-/
import Derived.Test.YthjofgmiabcifabGreatDoorPSe
import Derived.Test.YthjofgmiabcifabGreatDoorPSf
import Derived.Test.YthjofgmiabcifabGreatDoorPSo
import Derived.Test.YthjofgmiabcifabGreatDoorPRa
import Derived.RangeFuncNested
import Derived.RangeFuncBound
import Derived.RangeFuncCalls
import Derived.RangeFuncLeaves
import Derived.Shelf.RegionOpen
import Derived.TacticsInMore
import Derived.LoopNIn
set_option linter.unusedVariables false
set_option linter.unusedSimpArgs false
namespace Go.Proofs.YthjofgmiabcifabGreatDoor.Sq
open Go Go.RowKit
theorem about_in (a : Addr) (c : Nat) (w : World) (hc : c < 64) : AboutIn 109 a c w := by
  by_cases h : c < 32
  · have k := apart_in a w c h
    have h' : (c : Int) < 32 := by omega
    gi_enter Tryz.func109, Tryz.ntmps109
    gi_wp2_with (gi_at_call 122; (with_reducible refine CallsIn.mono k ?_); rintro e w' ⟨M, rfl, h1, h2⟩)
    go_ret
    exact ⟨M, rfl, h1, h2⟩
  · have k := holding_in a w c (by omega) hc
    have h' : ¬ (c : Int) < 32 := by omega
    gi_enter Tryz.func109, Tryz.ntmps109
    gi_wp2_with (gi_at_call 123; (with_reducible refine CallsIn.mono k ?_); rintro e w' ⟨M, rfl, h1, h2⟩)
    go_ret
    exact ⟨M, rfl, h1, h2⟩
/-- A part with a wrapper about it. -/
def AroundPost (j : Nat) (c : Int) (w : World) (e : Ending) (w' : World) : Prop := ∃ t v j', e = .returned (.tuple #[.iface t v, .int .i64 0]) ∧ Below w.heap.size w w' ∧ Ch w' j' t v ∧ j' ≤ j + 1 ∧ TyCan t c
section
variable {ρ : Operand → Value} {w : World} {d : Option Tmp} {ty : TypeId} {pos : String} {after : Array Edge} {guard : Option (Nat × Bool)} {x y : Operand}
theorem x_load103 {b o : Nat} {u : WrapS} (h : ρ x = .pointer (some ⟨b, o, none⟩)) (hc : WrapAt w b o u) : (execOp ρ ⟨d, .load 103 x, ty, pos, after, guard⟩).run Tryz.prog w = .ok (.value u.val) w := by
  obtain ⟨h0, h1, h2, h3, h4⟩ := hc
  unfold WrapS.val
  go_simp
theorem x_build208 {t : TypeId} {v : Value} {u : WrapS} (h : ρ x = .iface t v) (h2 : ρ y = u.val) : (execOp ρ ⟨d, .build 208 #[(0, x), (1, y)], ty, pos, after, guard⟩).run Tryz.prog w = .ok (.value (.agg #[.iface t v, .int .u8 u.kind, .int .u16 u.mask, .int .i64 u.number, .string u.text])) w := by
  unfold WrapS.val at h2
  go_simp
end
end Go.Proofs.YthjofgmiabcifabGreatDoor.Sq
namespace Go.Proofs.YthjofgmiabcifabGreatDoor.Sq
open Go Go.RowKit
set_option maxRecDepth 100000 in
set_option maxHeartbeats 8000000 in
theorem around_in {T : World → Prop} (V : ValidIn T) (j : Nat) (t : TypeId) (v : Value) (c0 : Int) (x : WrapS) (w : World) (hj : j ≤ 15) (hch : Ch w j t v) (hc : TyCan t c0) (h6 : Set6 c0) (hp : wrapP x) (hm : Set6 x.mask) (hs : x.text.size ≤ maxLen) (hT : T w) :
    CallsIn FF 0 Tryz.prog 92 #[.iface t v, x.val] w (AroundPost j (saysI c0 x) w) := by
  obtain ⟨wz, hwz⟩ : ∃ wz, w.alloc (.cells #[.int .u8 x.kind, .int .u16 x.mask, .int .i64 x.number, .string x.text] 103) = wz := ⟨_, rfl⟩
  have hb0 : Below w.heap.size w wz := by rw [← hwz]; exact (Below.refl _ _).alloc (Nat.le_refl _) _
  have hsz : wz.heap.size = w.heap.size + 1 := by rw [← hwz]; simp
  have hx0 : WrapAt wz w.heap.size 0 x := by
    rw [← hwz]
    exact ⟨by rw [cell_new]; rfl, by rw [cell_new]; rfl, by rw [cell_new]; rfl, by rw [cell_new]; rfl, hs⟩
  have c77 := wcheck_in V x wz hs (V.below _ _ hT hb0)
  rw [rW_of hp] at c77
  have hnil : ∀ w : World, Sem.run Tryz.prog (binOp BinOp.eql 56 (Value.iface t v) Value.nilIface) w = .ok (.bool false) w := fun w => by
    simp [go_sem]
  have e14 : ∀ args w, (callFunc 14 args).run Tryz.prog w = .ok (.enter 14 args) w := enters_of Tryz.func14 (by kernel_rfl) rfl
  have e110 : ∀ args w, (callFunc 110 args).run Tryz.prog w = .ok (.enter 110 args) w := enters_of Tryz.func110 (by kernel_rfl) rfl
  have e109 : ∀ args w, (callFunc 109 args).run Tryz.prog w = .ok (.enter 109 args) w := enters_of Tryz.func109 (by kernel_rfl) rfl
  have hbox : ∀ {wq : World} , wq = w → wq.alloc (.cells #[.int .u8 x.kind, .int .u16 x.mask, .int .i64 x.number, .string x.text] 103) = wz := fun h => by rw [h]; exact hwz
  by_cases h7 : x.kind = 7
  · have hsay : saysI c0 x = 0 := by unfold saysI; simp [h7]
    rw [hsay]
    have HB := Lib.hid hb0
    have hcell := hx0.kind
    clear hch hc h6 hp hx0 e14 e110 e109 hsay hbox hm hs
    obtain ⟨xk, xm, xn, xt⟩ := x
    simp only at h7 hcell hwz
    subst h7
    unfold WrapS.val at c77 ⊢
    simp only at c77 ⊢
    subst hwz
    gi_enter Tryz.func92, Tryz.ntmps92
    gi_wp2_with (gi_at_call 77; (with_reducible refine CallsIn.mono c77 ?_); rintro e w' ⟨rfl, hb⟩
                 have k0 := (hb.cell (cell_lt hcell)).trans hcell)
    go_ret2
    exact ⟨202, _, 0, rfl, HB.out.trans (hb.mono HB.out.size), .half, by omega, can_202⟩
  · have h7b : (x.kind == 7) = false := by rw [beq_eq_false_iff_ne]; exact h7
    obtain ⟨cn, hcn⟩ := fin_of (says_set (c := c0) (x := x) h6 hm)
    have hsy := fun w => says_in c0 x w
    rw [hcn] at hsy ⊢
    have hcl : cn.val < 64 := cn.isLt
    generalize cn.val = cm at hsy hcl ⊢
    have hcan := fun w => hc.can v w
    have HB := Lib.hid hb0
    have HX := Lib.hid hx0
    have HC := Lib.hid hch
    have HT := Lib.hid hT
    have HS := Lib.hid hsy
    have HN := Lib.hid hcan
    have hcell := hx0.kind
    have c108 : ∀ w', Below wz.heap.size wz w' → CallsIn FF 0 Tryz.prog 108 #[.iface t v] w' (InnerPost j w') := fun w' hb => inner_in j t v w' (by omega) ((hch.stay hb0).stay hb)
    have hj16 : ¬ (16 : Int) ≤ (j : Nat) := by omega
    have hxv : x.val = .agg #[.int .u8 x.kind, .int .u16 x.mask, .int .i64 x.number, .string x.text] := rfl
    rw [hxv] at c77 ⊢
    clear hch hc h6 hp hx0 hsy hcan hcn hxv
    subst hwz
    gi_enter Tryz.func92, Tryz.ntmps92
    gi_upto_region 11 with (first
      | (gi_at_call 77; (with_reducible refine CallsIn.mono c77 ?_); rintro e w' ⟨rfl, hb⟩
         have k0 := (hb.cell (cell_lt hcell)).trans hcell
         have c108' := c108 _ hb)
      | (gi_at_call 108; (with_reducible refine CallsIn.mono c108' ?_); rintro e w'' ⟨xx, rfl, rfl⟩))
    have hbw : Below w.heap.size w w' := HB.out.trans (hb.mono HB.out.size)
    have HCw : Ch w' j t v := HC.out.stay hbw
    have HXw : WrapAt w' w.heap.size 0 x := HX.out.below hb
    clear hb k0 c77 c108 c108' hcell hj16
    gi_cut [4, 5] from 36 (fun s4 s5 wc => (∃ M N, s4 = .iface (tyW cm) (.pointer (some ⟨M, 0, none⟩)) ∧ wc.cell? ⟨M, 0, none⟩ = some (.pointer (some ⟨N, 0, none⟩)) ∧ wc.cell? ⟨N, 0, none⟩ = some (.iface t v)) ∧ s5 = .int .i64 0 ∧ Below w'.heap.size w' wc)
    case first =>
      rename_i J K' hJ hM
      refine region_inv [27, 28, 29, 30, 31, 32, 33, 34, 35, 4, 5] (fun L ev wx => Below w'.heap.size w' wx ∧ (L 0 = true → ev 27 = .iface t v) ∧ (L 1 = true → ev 28 = x.val) ∧ (L 2 = true → ev 29 = .agg #[.iface t v, .int .u8 x.kind, .int .u16 x.mask, .int .i64 x.number, .string x.text]) ∧
        (L 3 = true → ∃ N, ev 30 = .pointer (some ⟨N, 0, none⟩) ∧ wx.cell? ⟨N, 0, none⟩ = some (.iface t v)) ∧ (L 4 = true → ev 31 = .iface t v) ∧ (L 5 = true → ev 32 = .int .u16 c0) ∧ (L 6 = true → ev 33 = x.val) ∧ (L 7 = true → ev 34 = .int .u16 (cm : Nat)) ∧
        (L 8 = true → ∃ M N, ev 35 = .iface (tyW cm) (.pointer (some ⟨M, 0, none⟩)) ∧ wx.cell? ⟨M, 0, none⟩ = some (.pointer (some ⟨N, 0, none⟩)) ∧ wx.cell? ⟨N, 0, none⟩ = some (.iface t v)) ∧
        (L 9 = true → ∃ M N, ev 4 = .iface (tyW cm) (.pointer (some ⟨M, 0, none⟩)) ∧ wx.cell? ⟨M, 0, none⟩ = some (.pointer (some ⟨N, 0, none⟩)) ∧ wx.cell? ⟨N, 0, none⟩ = some (.iface t v)) ∧ (L 10 = true → ev 5 = .int .i64 0))
        (by kernel_rfl) (by kernel_rfl) ⟨(Below.refl _ w').drew, fun h => (by cases h), fun h => (by cases h), fun h => (by cases h), fun h => (by cases h), fun h => (by cases h), fun h => (by cases h), fun h => (by cases h), fun h => (by cases h), fun h => (by cases h), fun h => (by cases h), fun h => (by cases h)⟩ ?_ ?_
      · intro i o ho L ev a' wx hev hkeep hdep ⟨hB, i0, i1, i2, i3, i4, i5, i6, i7, i8, i9, i10⟩
        have e0 : a'.eval (.tmp 0) = .iface t v := (hev 0).trans (hkeep 0 (by decide))
        have e3 : a'.eval (.tmp 3) = .pointer (some ⟨w.heap.size, 0, none⟩) := (hev 3).trans (hkeep 3 (by decide))
        have hXx : WrapAt wx w.heap.size 0 x := HXw.below hB
        have st3 : ∀ {wy : World}, Below wx.heap.size wx wy → (L 3 = true → ∃ N, ev 30 = .pointer (some ⟨N, 0, none⟩) ∧ wy.cell? ⟨N, 0, none⟩ = some (.iface t v)) := fun hb h => by
          obtain ⟨N, h1, h2⟩ := i3 h; exact ⟨N, h1, (hb.cell (cell_lt h2)).trans h2⟩
        have st8 : ∀ {wy : World}, Below wx.heap.size wx wy → (L 8 = true → ∃ M N, ev 35 = .iface (tyW cm) (.pointer (some ⟨M, 0, none⟩)) ∧ wy.cell? ⟨M, 0, none⟩ = some (.pointer (some ⟨N, 0, none⟩)) ∧ wy.cell? ⟨N, 0, none⟩ = some (.iface t v)) := fun hb h => by
          obtain ⟨M, N, h1, h2, h3⟩ := i8 h; exact ⟨M, N, h1, (hb.cell (cell_lt h2)).trans h2, (hb.cell (cell_lt h3)).trans h3⟩
        have st9 : ∀ {wy : World}, Below wx.heap.size wx wy → (L 9 = true → ∃ M N, ev 4 = .iface (tyW cm) (.pointer (some ⟨M, 0, none⟩)) ∧ wy.cell? ⟨M, 0, none⟩ = some (.pointer (some ⟨N, 0, none⟩)) ∧ wy.cell? ⟨N, 0, none⟩ = some (.iface t v)) := fun hb h => by
          obtain ⟨M, N, h1, h2, h3⟩ := i9 h; exact ⟨M, N, h1, (hb.cell (cell_lt h2)).trans h2, (hb.cell (cell_lt h3)).trans h3⟩
        match i, ho with
        | 0, ho => cases ho; exact OpStep.val (fun _ h => nomatch h) (fun _ h => nomatch h) x_move ⟨hB, fun _ => e0, i1, i2, i3, i4, i5, i6, i7, i8, i9, i10⟩
        | 1, ho => cases ho; exact OpStep.val (fun _ h => nomatch h) (fun _ h => nomatch h) (x_load103 e3 hXx) ⟨hB, i0, fun _ => rfl, i2, i3, i4, i5, i6, i7, i8, i9, i10⟩
        | 2, ho =>
          cases ho
          exact OpStep.val (fun _ h => nomatch h) (fun _ h => nomatch h) (x_build208 ((hev 27).trans (i0 (hdep 0 (by decide)))) ((hev 28).trans (i1 (hdep 1 (by decide))))) ⟨hB, i0, i1, fun _ => rfl, i3, i4, i5, i6, i7, i8, i9, i10⟩
        | 3, ho =>
          cases ho
          have hb : Below wx.heap.size wx (wx.alloc (.cells #[.iface t v, .int .u8 x.kind, .int .u16 x.mask, .int .i64 x.number, .string x.text] 208)) := (Below.refl _ _).alloc (Nat.le_refl _) _
          exact OpStep.val (fun _ h => nomatch h) (fun _ h => nomatch h) (x_box ((hev 29).trans (i2 (hdep 2 (by decide))))) ⟨hB.trans (hb.mono hB.size), i0, i1, i2, fun _ => ⟨wx.heap.size, rfl, by rw [cell_new]; rfl⟩, i4, i5, i6, i7, st8 hb, st9 hb, i10⟩
        | 4, ho => cases ho; exact OpStep.val (fun _ h => nomatch h) (fun _ h => nomatch h) x_move ⟨hB, i0, i1, i2, i3, fun _ => e0, i5, i6, i7, i8, i9, i10⟩
        | 5, ho =>
          cases ho
          refine OpStep.call (fun _ h => nomatch h) (abF rfl) (x_call1 e14 ((hev 31).trans (i4 (hdep 4 (by decide)))) rfl) ?_
          refine CallsIn.mono (HN.out wx) fun e wy ⟨he, hw⟩ => ?_
          subst hw
          exact ⟨_, he, hB, i0, i1, i2, i3, i4, fun _ => rfl, i6, i7, i8, i9, i10⟩
        | 6, ho => cases ho; exact OpStep.val (fun _ h => nomatch h) (fun _ h => nomatch h) (x_load103 e3 hXx) ⟨hB, i0, i1, i2, i3, i4, i5, fun _ => rfl, i7, i8, i9, i10⟩
        | 7, ho =>
          cases ho
          refine OpStep.call (fun _ h => nomatch h) (abF rfl) (x_call2 e110 ((hev 32).trans (i5 (hdep 5 (by decide)))) ((hev 33).trans (i6 (hdep 6 (by decide)))) rfl) ?_
          refine CallsIn.mono (HS.out wx) fun e wy ⟨he, hb⟩ => ?_
          exact ⟨_, he, hB.trans (hb.mono hB.size), i0, i1, i2, st3 hb, i4, i5, i6, fun _ => rfl, st8 hb, st9 hb, i10⟩
        | 8, ho =>
          cases ho
          obtain ⟨N, h1, h2⟩ := i3 (hdep 3 (by decide))
          refine OpStep.call (fun _ h => nomatch h) (abF rfl) (x_call2 e109 ((hev 30).trans h1) ((hev 34).trans (i7 (hdep 7 (by decide)))) rfl) ?_
          refine CallsIn.mono (about_in ⟨N, 0, none⟩ cm wx hcl) fun e wy ⟨M, he, h3, hb⟩ => ?_
          exact ⟨_, he, hB.trans (hb.mono hB.size), i0, i1, i2, st3 hb, i4, i5, i6, i7, fun _ => ⟨M, N, rfl, h3, (hb.cell (cell_lt h2)).trans h2⟩, st9 hb, i10⟩
        | 9, ho =>
          cases ho
          obtain ⟨M, N, h1, h2, h3⟩ := i8 (hdep 8 (by decide))
          exact OpStep.val (fun _ h => nomatch h) (fun _ h => nomatch h) x_assign ⟨hB, i0, i1, i2, i3, i4, i5, i6, i7, i8, fun _ => ⟨M, N, (hev 35).trans h1, h2, h3⟩, i10⟩
        | 10, ho => cases ho; exact OpStep.val (fun _ h => nomatch h) (fun _ h => nomatch h) x_assign ⟨hB, i0, i1, i2, i3, i4, i5, i6, i7, i8, i9, fun _ => rfl⟩
        | i + 11, ho => exact absurd ho (by simp)
      · intro L ev wx hall ⟨hB, _, _, _, _, _, _, _, _, _, i9, i10⟩
        refine hM _ _ (hJ _ _ ?_)
        simp only [List.foldl_cons, List.foldl_nil, List.setIfInBounds_toArray, List.set_cons_succ, List.set_cons_zero]
        (repeat apply Exists.intro)
        refine ⟨?rel, rfl⟩
        case rel => exact ⟨i9 (hall 9 (by decide)), i10 (hall 10 (by decide)), hB⟩
    case rest =>
      obtain ⟨⟨M, N, rfl, h1, h2⟩, rfl, hB⟩ := hcut
      have HF := Lib.hid (show AroundPost j (cm : Nat) w (.returned (.tuple #[.iface (tyW cm) (.pointer (some ⟨M, 0, none⟩)), .int .i64 0])) wc from
        ⟨_, _, j + 1, rfl, hbw.trans (hB.mono hbw.size), .wrap hcl h1 h2 (HCw.stay hB), Nat.le_refl _, canW cm hcl⟩)
      clear HB HX HC HT HS HN hbw HCw HXw h1 h2 hB
      gi_wp2
      go_ret2
      exact HF.out
end Go.Proofs.YthjofgmiabcifabGreatDoor.Sq
namespace Go.Proofs.YthjofgmiabcifabGreatDoor.Sq
open Go Go.RowKit
/-- A part that can so much, and no error. -/
def PartPost (j : Nat) (c : Int) (w : World) (e : Ending) (w' : World) : Prop := ∃ t v j', e = .returned (.tuple #[.iface t v, .int .i64 0]) ∧ Below w.heap.size w w' ∧ Ch w' j' t v ∧ j' ≤ j ∧ TyCan t c
theorem wrapAt_new (w : World) (x : WrapS) (hs : x.text.size ≤ maxLen) : WrapAt (w.alloc (.cells [Value.int .u8 x.kind, .int .u16 x.mask, .int .i64 x.number, .string x.text].toArray 103)) w.heap.size 0 x :=
  ⟨by rw [cell_new]; rfl, by rw [cell_new]; rfl, by rw [cell_new]; rfl, by rw [cell_new]; rfl, hs⟩
set_option maxRecDepth 100000 in
set_option maxHeartbeats 8000000 in
theorem all_in {T : World → Prop} (V : ValidIn T) (t : TypeId) (v : Value) (c0 : Int) (wp : Option Addr) (wc' : Nat) (m : Nat) (ws : List WrapS) (w : World) (hch : Ch w 0 t v) (hc : TyCan t c0) (h6 : Set6 c0) (hw : WrapsAt w (.slice wp m wc') ws) (hb : wrapsB ws = true) (hmk : ∀ y ∈ ws, 0 ≤ y.mask ∧ y.mask < 65536) (hl : m ≤ 16) (hT : T w) :
    CallsIn FF 0 Tryz.prog 66 #[.iface t v, .slice wp m wc'] w (PartPost ws.length (ws.foldl saysI c0) w) := by
  have hlen : ws.length = m := by
    rcases hw with ⟨_, e, rfl⟩ | ⟨b, o, cap, e, _⟩
    · cases e; rfl
    · cases e; rfl
  subst hlen
  have c91 := checks_ok V hw hb hl hT
  have hnil : ∀ w : World, Sem.run Tryz.prog (binOp BinOp.eql 56 (Value.iface t v) Value.nilIface) w = .ok (.bool false) w := fun w => by
    simp [go_sem]
  obtain ⟨CC, hCC⟩ : ∃ CC, ws.foldl saysI c0 = CC := ⟨_, rfl⟩
  rw [hCC]
  have HC := Lib.hid (show Ch w 0 t v ∧ TyCan t c0 ∧ Set6 c0 ∧ ws.foldl saysI c0 = CC from ⟨hch, hc, h6, hCC⟩)
  have HW := Lib.hid hw
  have HP := Lib.hid (show ∀ i (h : i < ws.length), wrapP ws[i] ∧ Set6 ws[i].mask from fun i h => ⟨wrapsB_get hb h, wrapP_mask (wrapsB_get hb h) (hmk _ (List.getElem_mem h)).1 (hmk _ (List.getElem_mem h)).2⟩)
  clear hch hc h6 hCC hw hb hmk
  gi_enter Tryz.func66, Tryz.ntmps66
  gi_wp2_with (gi_at_call 91; (with_reducible refine CallsIn.mono c91 ?_); rintro e w' ⟨rfl, hb⟩)
  gi_loopw [0, 20] (fun s0 i wx => ∃ (k j' : Nat) (t' : TypeId) (v' : Value) (c' : Int), k ≤ ws.length ∧ i = .int .i64 k ∧ s0 = .iface t' v' ∧ Below w.heap.size w wx ∧ Ch wx j' t' v' ∧ j' ≤ k ∧ TyCan t' c' ∧ Set6 c' ∧ (ws.drop k).foldl saysI c' = CC) (fun _ i _ => ws.length - (intOf i).toNat)
  case atStart => exact ⟨0, 0, t, v, c0, Nat.zero_le _, rfl, rfl, hb, HC.out.1.stay hb, Nat.le_refl _, HC.out.2.1, HC.out.2.2.1, by simpa using HC.out.2.2.2⟩
  case round =>
    obtain ⟨k, j', t', v', c', hk, rfl, rfl, hbw, hch, hj, hc, h6, hCC⟩ := hrel
    clear hb hnil c91 HC
    by_cases hlt : k < ws.length
    · obtain ⟨b, o, rfl, hWA⟩ : ∃ b o, wp = some ⟨b, o, none⟩ ∧ WrapAt w b (o + k * 4) ws[k] := by
        rcases HW.out with ⟨_, e, h0⟩ | ⟨b, o, cap, e, _, hc⟩
        · rw [h0] at hlt; cases hlt
        · cases e; exact ⟨b, o, rfl, hc k hlt⟩
      obtain ⟨hp, hm⟩ := HP.out k hlt
      rw [List.drop_eq_getElem_cons hlt, List.foldl_cons] at hCC
      obtain ⟨x, hx⟩ : ∃ x, ws[k] = x := ⟨_, rfl⟩
      rw [hx] at hWA hp hm hCC
      have hWr : WrapAt wr b (o + k * 4) x := hWA.below hbw
      have hbn : Below wr.heap.size wr (wr.alloc (.cells [Value.int .u8 x.kind, .int .u16 x.mask, .int .i64 x.number, .string x.text].toArray 103)) := (Below.refl _ _).alloc (Nat.le_refl _) _
      have hNew := wrapAt_new wr x hWA.size
      have c92 := around_in V j' t' v' c' x (wr.alloc (.cells [Value.int .u8 x.kind, .int .u16 x.mask, .int .i64 x.number, .string x.text].toArray 103)) (by omega) (hch.stay hbn) hc h6 hp hm hWA.size (V.below _ _ hT (hbw.trans (hbn.mono hbw.size)))
      have HH := Lib.hid (show Below w.heap.size w (wr.alloc (.cells [Value.int .u8 x.kind, .int .u16 x.mask, .int .i64 x.number, .string x.text].toArray 103)) ∧ Set6 (saysI c' x) ∧ (ws.drop (k + 1)).foldl saysI (saysI c' x) = CC from ⟨hbw.trans (hbn.mono hbw.size), says_set h6 hm, hCC⟩)
      clear hWA hp hm hCC hx hbn hbw hch hc h6 HW HP
      gi_wp2_with (first
        | (refine wpListIn_val (fun _ h => nomatch h) (fun _ h => nomatch h) (by rfl) (x_load103 (u := x) rfl hWr) ?_)
        | (refine wpListIn_store_new rfl (by rfl) 103 _ _ rfl rfl [Value.int .u8 x.kind, .int .u16 x.mask, .int .i64 x.number, .string x.text] x.val rfl rfl rfl (by kernel_rfl) rfl ?_)
        | (refine wpListIn_val (fun _ h => nomatch h) (fun _ h => nomatch h) (by rfl) (x_load103 (u := x) rfl hNew) ?_)
        | (gi_at_call 92; (with_reducible refine CallsIn.mono c92 ?_); rintro e w'' ⟨t2, v2, j2, rfl, hb2, hch2, hj2, hc2⟩))
      go_roundw
      case rel =>
        obtain ⟨h1, h2, h3⟩ := HH.out
        exact ⟨k + 1, j2, t2, v2, saysI c' x, by omega, by go_num, rfl, h1.trans (hb2.mono h1.size), hch2, by omega, hc2, h2, h3⟩
      case measure => simp [intOf]; omega
    · obtain rfl : k = ws.length := by omega
      rw [List.drop_length] at hCC
      have hCC : c' = CC := hCC
      subst hCC
      have HF := Lib.hid (show PartPost ws.length c' w (.returned (.tuple #[.iface t' v', .int .i64 0])) wr from ⟨t', v', j', rfl, hbw, hch, hj, hc⟩)
      clear hbw hch hc h6 HW HP
      gi_wp2
      go_ret2
      exact HF.out
end Go.Proofs.YthjofgmiabcifabGreatDoor.Sq
namespace Go.Proofs.YthjofgmiabcifabGreatDoor.Sq
open Go Go.RowKit
theorem canK_set (k : Int) : Set6 (canK k) := by
  unfold canK Set6
  split
  · omega
  · split
    · omega
    · split
      · omega
      · split
        · omega
        · split
          · omega
          · split
            · omega
            · split <;> omega
/-- What a node's part can. -/
def ableI (n : NodeS) (ws : List WrapS) : Int := ws.foldl saysI (canK n.kind)
theorem room_hold {n : NodeS} {k : Nat} (hk : n.kind = (k : Nat)) (h : (n.kidsN : Int) ≤ roomI n.kind) : n.kidsN ≤ 1024 ∧ (n.kidsN = 0 ∨ holdB k = true) ∧ (n.kidsN ≤ 1 ∨ k ≠ 6) := by
  rw [hk] at h
  unfold roomI at h
  unfold holdB
  split at h
  · rename_i h1
    have : k = 4 ∨ k = 5 ∨ k = 10 := by omega
    refine ⟨by omega, .inr (decide_eq_true (by omega)), .inr (by omega)⟩
  · split at h
    · have : k = 6 := by omega
      exact ⟨by omega, .inr (decide_eq_true (by omega)), .inl (by omega)⟩
    · exact ⟨by omega, .inl (by omega), .inl (by omega)⟩
set_option maxRecDepth 100000 in
set_option maxHeartbeats 8000000 in
theorem made_in {T : World → Prop} (V : ValidIn T) (n : NodeS) (ws : List WrapS) (v : Value) (w : World) (hf : n.fits) (hm : mayB n ws = true) (hw : WrapsAt w (.slice n.wrapsP n.wrapsN n.wrapsC) ws) (hmk : ∀ y ∈ ws, 0 ≤ y.mask ∧ y.mask < 65536) (hp : PartsAt w v n.kidsN) (hT : T w) :
    CallsIn FF 0 Tryz.prog 30 #[n.val, v] w (PartPost ws.length (ableI n ws) w) := by
  rw [nodeB_may, Bool.and_eq_true, decide_eq_true_eq] at hm
  obtain ⟨hn, hr⟩ := hm
  obtain ⟨ok, hwb⟩ := nodeOk_of hn
  obtain ⟨k, hk⟩ : ∃ k : Nat, n.kind = (k : Nat) := ⟨n.kind.toNat, by have := ok.k1; omega⟩
  have hk1 : 1 ≤ k := by have := ok.k1; omega
  have hk2 : k ≤ 10 := by have := ok.k2; omega
  obtain ⟨r1, r2, r3⟩ := room_hold hk hr
  have hb0 : Below w.heap.size w (w.alloc (.cells n.cells.toArray 68)) := (Below.refl _ _).alloc (Nat.le_refl _) _
  have cM := make_in V n k v n.kidsN (w.alloc (.cells n.cells.toArray 68)) hk hf ok (hp.below hb0) r1 r2 r3 (V.below _ _ hT hb0)
  have rN := range_new w n.cells 68
  have c17 : (w.alloc (.cells n.cells.toArray 68)).cell? ⟨w.heap.size, 17, none⟩ = some (.slice n.wrapsP n.wrapsN n.wrapsC) := by have := rN 17 _ rfl; rwa [Nat.zero_add] at this
  have cA : ∀ (w' : World) (M : Nat), Below w.heap.size w w' → CallsIn FF 0 Tryz.prog 66 #[.iface (tyK k) (.pointer (some ⟨M, 0, none⟩)), .slice n.wrapsP n.wrapsN n.wrapsC] w' (PartPost ws.length (ableI n ws) w') := fun w' M hb => by
    unfold ableI
    rw [hk]
    exact all_in V (tyK k) _ (canK (k : Nat)) n.wrapsP n.wrapsC n.wrapsN ws w' (.base (unKt k hk1 hk2)) (canKt k hk1 hk2) (canK_set _) (hw.below hb) hwb hmk ok.wr (V.below _ _ hT hb)
  generalize tyK k = t at cM cA
  clear hn hr ok hwb hk hk1 hk2 r1 r2 r3 hp hw hmk hf
  unfold MakePost at cM
  gi_enter Tryz.func30, Tryz.ntmps30
  gi_wp2_with (first
    | (refine wpListIn_val (fun _ h => nomatch h) (fun _ h => nomatch h) (by rfl) (x_box (t := 68) (cs := n.cells.toArray) rfl) ?_)
    | (refine wpListIn_load_row (by rfl) 68 _ rfl w.heap.size 0 rfl n.cells rN _ Tryz.underlying68 rfl (by kernel_rfl) n.val rfl ?_)
    | (gi_at_call 65; (with_reducible refine CallsIn.mono cM ?_); rintro e w' ⟨M, rfl, hb⟩
       have k17 := (hb.cell (p := ⟨w.heap.size, 17, none⟩) (by simp)).trans c17
       have cA' := cA w' M (hb0.trans (hb.mono (by simp))))
    | (gi_at_call 66; (with_reducible refine CallsIn.mono cA' ?_); rintro e w'' ⟨t2, v2, j2, rfl, hb2, hch2, hj2, hc2⟩))
  go_ret2
  exact ⟨t2, v2, j2, rfl, hb0.trans ((hb.trans (hb2.mono hb.size)).mono (by simp)), hch2, hj2, hc2⟩
end Go.Proofs.YthjofgmiabcifabGreatDoor.Sq
namespace Go.Proofs.YthjofgmiabcifabGreatDoor.Sq
open Go Go.RowKit
theorem room_any (k : Nat) : FF.room k := fun d h => by cases h
theorem calls_any {n m : Nat} {f : FuncId} {args : Array Value} {w : World} {R : Ending → World → Prop} (h : CallsIn FF n Tryz.prog f args w R) : CallsIn FF m Tryz.prog f args w R := ⟨h.1, fun cs _ => h.2 cs (room_any _)⟩
theorem back_in (p : Option Addr) (m c : Nat) (w : World) : CallsIn FF 0 Tryz.prog 29 #[.slice p m c] w fun e w' => e = .returned (.func (.func 64) #[] #[.pointer (some ⟨w.heap.size, 0, none⟩)]) ∧ w' = w.alloc (.cells #[.slice p m c] 22) := by
  gi_enter Tryz.func29, Tryz.ntmps29
  gi_wp2
  go_ret
  exact ⟨rfl, rfl⟩
/-- What a round keeps: the slice's box, and what lay below n₀. -/
def KpB (n₀ Bs : Nat) (W W' : World) : Prop := Below n₀ W W' ∧ W'.heap[Bs]? = W.heap[Bs]?
def encN (xs : List NodeX) (i : Fin xs.length) : Array Value := #[.int .i64 (i.val : Nat), xs[i.val].n.val]
set_option maxRecDepth 100000 in
set_option maxHeartbeats 4000000 in
theorem back1_in (n l Bs n₀ b o cap : Nat) (xs : List NodeX) (w : World) (hx : ∀ i (h : i < xs.length), NodeXAt w b (o + i * 19) xs[i]) (hn₀ : w.heap.size ≤ n₀) (h1024 : xs.length ≤ 1024) (J Jx : List (Fin xs.length) → World → Prop)
    (hY : ∀ pre x W, J pre W → pre.length < xs.length → YieldAt FF (n - 1) Tryz.prog l (encN xs x) W fun e W' =>
      (e = .returned (.bool true) ∧ J (pre ++ [x]) W' ∧ KpB n₀ Bs W W') ∨ (e = .returned (.bool false) ∧ Jx (pre ++ [x]) W'))
    (W : World) (hW : Below n₀ w W) (hBs : W.cell? ⟨Bs, 0, none⟩ = some (.slice (some ⟨b, o, none⟩) xs.length cap)) (h0 : J [] W) :
    CallsIn FF n Tryz.prog 64 #[.func (.yield l) #[] #[], .pointer (some ⟨Bs, 0, none⟩)] W fun e W' => (∃ v, e = .returned v) ∧ ((∃ ys : List (Fin xs.length), (∀ i, i ∈ ys) ∧ J ys W') ∨ (∃ pre, True ∧ Jx pre W')) := by
  have HX := Lib.hid hx
  clear hx
  refine callsIn_of_wp Tryz.func64 rfl (by simp [Fence.list]) ?_ rfl
  simp only [Tryz.ntmps64, List.size_toArray, List.length_cons, List.length_nil, Nat.reduceAdd, Nat.reduceSub, Array.replicate_succ, Array.replicate_zero, List.push_toArray, List.append_toArray, List.nil_append, List.cons_append]
  gi_wp2
  gi_loopw [3] (fun i wr => ∃ (k : Nat) (pre : List (Fin xs.length)), k ≤ xs.length ∧ i = .int .i64 ((k : Int) - 1) ∧ pre.length + k = xs.length ∧ (∀ j : Fin xs.length, k ≤ j.val → j ∈ pre) ∧ J pre wr ∧ Below n₀ w wr ∧ wr.cell? ⟨Bs, 0, none⟩ = some (.slice (some ⟨b, o, none⟩) xs.length cap)) (fun i _ => (intOf i + 1).toNat)
  case atStart => 
    refine ⟨xs.length, [], Nat.le_refl _, ?_, by simp, fun j h => absurd j.isLt (by omega), h0, hW, hBs⟩
    first | rfl | go_num
  case round =>
    obtain ⟨k, pre, hk, rfl, hlen, hall, hJ, hbw, hbs⟩ := hrel
    by_cases hlt : 0 < k
    · obtain ⟨q, rfl⟩ : ∃ q, k = q + 1 := ⟨k - 1, by omega⟩
      have hq : q < xs.length := by omega
      obtain ⟨fn, tmps, assign, body, hy, hR⟩ := hY pre ⟨q, hq⟩ wr hJ (by omega)
      unfold encN at hy
      dsimp only at hy
      have hN : NodeXAt wr b (o + q * 19) xs[q] := (HX.out q hq).below (hbw.mono hn₀)
      have hnode := hN.node
      have e1 : (((q + 1 : Nat)) : Int) - 1 = (q : Int) := by omega
      rw [e1]
      have g0 : ¬ (q : Int) < 0 := by omega
      have HS := Lib.hid (show ∀ W3 : World, KpB n₀ Bs wr W3 → Below n₀ w W3 ∧ W3.cell? ⟨Bs, 0, none⟩ = some (.slice (some ⟨b, o, none⟩) xs.length cap) from fun W3 h => ⟨hbw.trans h.1, (World.cell?_of_block (w := wr) h.2).trans hbs⟩)
      have HA := Lib.hid hall
      clear hN HX hall hbw
      gi_wp2_with (refine wpListIn_val (fun _ h => nomatch h) (fun _ h => nomatch h) (by rfl) (x_load68 (n := xs[q].n) rfl hnode) ?_)
      refine hR.mono ?_
      rintro e W3 (⟨rfl, hJ3, hk3⟩ | ⟨rfl, hJx3⟩)
      · obtain ⟨h1, h2⟩ := HS.out W3 hk3
        gi_wp2
        go_roundw
        case rel =>
          refine ⟨q, pre ++ [⟨q, hq⟩], by omega, by go_num, by simp; omega, fun j hj => ?_, hJ3, h1, h2⟩
          by_cases e : j.val = q
          · exact List.mem_append_right _ (by rw [List.mem_singleton]; exact Fin.ext e)
          · exact List.mem_append_left _ (HA.out j (by omega))
        case measure => first | (simp [intOf]; done) | (simp [intOf]; omega)
      · gi_wp2
        refine bodyPost_ret (results_none rfl _ _ _) rfl ?_
        exact ⟨⟨_, rfl⟩, .inr ⟨_, trivial, hJx3⟩⟩
    · obtain rfl : k = 0 := by omega
      have HE := Lib.hid (show ∃ ys : List (Fin xs.length), (∀ i, i ∈ ys) ∧ J ys wr from ⟨pre, fun i => hall i (Nat.zero_le _), hJ⟩)
      clear hall hJ hY
      gi_wp2
      go_end0
      exact ⟨⟨_, rfl⟩, .inl HE.out⟩
theorem back_stops (n Bs n₀ b o cap : Nat) (xs : List NodeX) (w w1 : World) (hx : ∀ i (h : i < xs.length), NodeXAt w b (o + i * 19) xs[i]) (hn₀ : w.heap.size ≤ n₀) (h1024 : xs.length ≤ 1024) (hB : Below n₀ w w1) (hB0 : n₀ ≤ w1.heap.size) (hBl : Bs < w1.heap.size) (hBs : w1.cell? ⟨Bs, 0, none⟩ = some (.slice (some ⟨b, o, none⟩) xs.length cap)) :
    SeqStopsK FF n Tryz.prog 64 #[.pointer (some ⟨Bs, 0, none⟩)] (encN xs) (KpB n₀ Bs) (fun ys => ∀ i, i ∈ ys) (fun _ => True) xs.length w1 := fun l J Jx W hW _ _ hY h0 =>
  back1_in n l Bs n₀ b o cap xs w hx hn₀ h1024 J Jx hY W (hB.trans (hW.mono hB0)) ((hW.cell (p := ⟨Bs, 0, none⟩) hBl).trans hBs) h0
end Go.Proofs.YthjofgmiabcifabGreatDoor.Sq
