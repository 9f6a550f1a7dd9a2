/-
  The reference Once, by the plain law.
  Conditions: as each theorem says.
-/
import Derived.Test.YthjofgmiabcifabGreatDoorPSi
import Derived.Test.YthjofgmiabcifabGreatDoorPRe
import Derived.Maps.AppendAt
set_option linter.unusedVariables false
set_option linter.unusedSimpArgs false
namespace Go.Proofs.YthjofgmiabcifabGreatDoor.Sq
open Go Go.RowKit
theorem WrapsN.get {w : World} {p : Option Addr} {m c : Nat} {ws : List WrapS} (h : WrapsN w (.slice p m c) ws) (k : Nat) (hk : k < ws.length) : ∃ b o, p = some ⟨b, o, none⟩ ∧ WrapAt w b (o + k * 4) ws[k] := by
  rcases h with ⟨rfl, _⟩ | ⟨b, o, cap, h1, h2⟩
  · cases hk
  · cases h1
    exact ⟨b, o, rfl, h2 k hk⟩
set_option maxRecDepth 100000 in
set_option maxHeartbeats 8000000 in
theorem pcan_in (d : Dat) (B j : Nat) (c : Int) (w : World) (hd : DatAt w B j c d) (hj : j ≤ 64) : Gives 19 #[d.val] w (.int .u16 c) := by
  obtain ⟨w1, hw1⟩ : ∃ w1, w.alloc (.cells d.cells.toArray 70) = w1 := ⟨_, rfl⟩
  have b1 : Below w.heap.size w w1 := by rw [← hw1]; exact (Below.refl _ _).alloc (Nat.le_refl _) _
  have r1 : w1.rangeAt w.heap.size 0 d.cells := by rw [← hw1]; exact range_new w d.cells 70
  have hd1 := hd.below b1
  obtain ⟨what, n, p, m, cp, ws⟩ := d
  have k0 : w1.cell? ⟨w.heap.size, 0, none⟩ = some (.int .i64 what) := range_first r1
  have k1 : w1.cell? ⟨w.heap.size, 1, none⟩ = some (.int .u8 n.kind) := range_shift r1 0 _ rfl
  have k20 : w1.cell? ⟨w.heap.size, 20, none⟩ = some (.slice p m cp) := range_last r1
  obtain ⟨hws, hlj, hwhat, hm, hab, -, -⟩ := hd1
  simp only at hws hwhat hm hab hlj
  have hl64 : ws.length ≤ 64 := Nat.le_trans hlj hj
  clear hlj
  have hlen := hws.len
  subst hlen
  have c39 := fun w => rcanK_in n.kind w
  have hs0 := canK_set n.kind
  unfold ableP at hab
  obtain ⟨ck, hck⟩ : ∃ ck, canK n.kind = ck := ⟨_, rfl⟩
  rw [hck] at c39 hs0 hab
  have HW := Lib.hid hws
  have HM := Lib.hid hm
  have HB := Lib.hid b1
  have HS := Lib.hid hs0
  clear hws hm b1 hs0 r1 hck hd
  obtain ⟨dv, hdv⟩ : ∃ dv, (Dat.val ⟨what, n, p, ws.length, cp, ws⟩) = dv := ⟨_, rfl⟩
  have hde : dv = .agg (Dat.cells ⟨what, n, p, ws.length, cp, ws⟩).toArray := hdv.symm
  rw [hdv]
  clear hdv
  rcases hwhat with rfl | rfl
  all_goals
    first
      | rw [if_pos rfl] at hab
      | rw [if_neg (by decide)] at hab
    have HA := Lib.hid hab
    have H1 := Lib.hid hw1
    clear hab hw1
    gi_enter Tryz.func19, Tryz.ntmps19
    gi_wp2_with (first
      | (gi_at_call 39; (with_reducible refine CallsIn.mono (c39 _) ?_); rintro e w' ⟨rfl, rfl⟩)
      | ((with_reducible refine wpListIn_id ?_)
         (refine wpListIn_v (.box 70 _) rfl (fun _ h => nomatch h) (fun _ h => nomatch h) (by rfl) (fun _ _ _ _ _ => x_box (cs := (Dat.cells ⟨_, n, p, ws.length, cp, ws⟩).toArray) hde) ?_)
         rw [H1.out]))
    gi_loopw [3, 4] (fun s3 i wx => ∃ (k : Nat) (cc : Int), k ≤ ws.length ∧ i = .int .i64 k ∧ s3 = .int .u16 cc ∧ Set6 cc ∧ Below w1.heap.size w1 wx ∧ (ws.drop k).foldl saysI cc = c) (fun _ i _ => ws.length - (intOf i).toNat)
    case atStart => first
      | exact ⟨0, _, Nat.zero_le _, rfl, rfl, HS.out, Below.refl _ _, HA.out⟩
      | exact ⟨0, 0, Nat.zero_le _, rfl, rfl, ⟨by decide, by decide⟩, Below.refl _ _, HA.out⟩
    case round =>
      obtain ⟨k, cc, hk, rfl, rfl, hset, hbx, hf⟩ := hrel
      have kk := (hbx.cell (cell_lt k20)).trans k20
      have HX := Lib.hid hbx
      by_cases hlt : k < ws.length
      · obtain ⟨b, o, rfl, hat⟩ := (HW.out.below hbx).get k hlt
        have hmk := HM.out ws[k] (List.getElem_mem hlt)
        rw [List.drop_eq_getElem_cons hlt, List.foldl_cons] at hf
        obtain ⟨x, hx⟩ : ∃ x, ws[k] = x := ⟨_, rfl⟩
        rw [hx] at hat hmk hf
        have c40 := rsays_in cc x wr hset hmk
        have HF := Lib.hid hf
        have HT := Lib.hid (says_set hset hmk)
        obtain ⟨h0, h1, h2, h3, h4⟩ := hat
        clear hf hset hmk hbx hx c39
        unfold WrapS.val at c40
        gi_wp2_with (gi_at_call 40; (with_reducible refine CallsIn.mono c40 ?_); rintro e w' ⟨rfl, hb⟩)
        go_roundw
        case rel => exact ⟨k + 1, _, by omega, by go_num, rfl, HT.out, HX.out.trans (hb.mono HX.out.size), HF.out⟩
        case measure => simp [intOf]; omega
      · obtain rfl : k = ws.length := by omega
        rw [List.drop_length] at hf
        have hf : cc = c := hf
        subst hf
        clear hbx hset
        gi_wp2
        go_ret
        exact ⟨rfl, HB.out.trans (HX.out.mono HB.out.size)⟩
end Go.Proofs.YthjofgmiabcifabGreatDoor.Sq
namespace Go.Proofs.YthjofgmiabcifabGreatDoor.Sq
open Go Go.RowKit
theorem info70 : (Tryz.prog.info? 70).map (fun i => (i.zero, i.size, i.bytes)) = some (some (partVal 0 nodeZ (.slice none 0 0)), 21, 240) := by
  unfold partVal partCells nodeZ NodeS.cells
  kernel_rfl
section
variable {ρ : Operand → Value} {w : World} {d : Option Tmp} {ty : TypeId} {pos : String} {after : Array Edge} {guard : Option (Nat × Bool)} {x y : Operand}
theorem x_buildSlice59 {what : Int} {n : NodeS} {p : Option Addr} {m c : Nat} (h : ρ x = partVal what n (.slice p m c)) : (execOp ρ ⟨d, .buildSlice 59 1 #[(0, x)], ty, pos, after, guard⟩).run Tryz.prog w = .ok (.value (.slice (some ⟨w.heap.size, 0, none⟩) 1 1)) (w.alloc (.cells (partCells what n (.slice p m c)).toArray 70)) := by
  unfold partVal partCells NodeS.cells at h
  unfold partCells NodeS.cells
  go_simp
end
theorem grown_below {w w' : World} (h : Below w.heap.size w w') : w.grownBy w' none := ⟨h.os, h.tape, h.output, h.size, fun k hk _ => h.block k hk⟩
/-- Parts told: the first is a part as data that can so much. -/
def PartsPost (j : Nat) (c : Int) (w : World) (e : Ending) (w' : World) : Prop := ∃ (g n cap : Nat) (d : Dat), e = .returned (.slice (some ⟨g, 0, none⟩) n cap) ∧ 0 < n ∧ w'.rangeAt g 0 d.cells ∧ Below w.heap.size w w' ∧ DatAt w' w.heap.size j c d
/-- The first part of a row. -/
def FirstP (B j : Nat) (c : Int) (k : Nat) (us : List Value) (w : World) : Prop := 0 < k → ∃ d : Dat, us.take 21 = d.cells ∧ DatAt w B j c d
theorem dat_one (d : Dat) : ∀ u ∈ d.cells, u.oneCell' = true := fun u hu => List.all_eq_true.1 (partCells_one d.what d.n d.p d.m d.c) u hu
theorem FirstP.below {B j : Nat} {c : Int} {k : Nat} {us : List Value} {w w' : World} (h : FirstP B j c k us w) (hb : Below w.heap.size w w') : FirstP B j c k us w' := fun h0 => by
  obtain ⟨d, h1, h2⟩ := h h0
  exact ⟨d, h1, h2.below hb⟩
theorem first_next {w w' : World} {B j1 j2 : Nat} {c1 c2 : Int} {k : Nat} {us : List Value} {d : Dat} {row : Option Nat} (h : FirstP B j1 c1 k us w) (hl : us.length = k * 21) (hd : DatAt w B j2 c2 d) (h0 : k = 0 → j2 = j1 ∧ c2 = c1) (hg : w.grownBy w' row)
    (hr : ∀ r, row = some r → ∃ cs f, w.heap[r]? = some (.cells cs 70 f)) : FirstP B j1 c1 (k + 1) (us ++ d.cells) w' := fun _ => by
  rcases Nat.eq_zero_or_pos k with rfl | hk
  · obtain ⟨rfl, rfl⟩ := h0 rfl
    rw [Nat.zero_mul] at hl
    obtain rfl := List.eq_nil_of_length_eq_zero hl
    exact ⟨d, by rw [List.nil_append]; exact List.take_of_length_le (by show 21 ≤ 21; omega), hd.grown hg hr⟩
  · obtain ⟨d1, h1, h2⟩ := h hk
    exact ⟨d1, by rw [List.take_append_of_le_length (by omega)]; exact h1, h2.grown hg hr⟩
theorem owns_type {w : World} {base : Nat} {v : Value} {n : Nat} {us : List Value} (h : w.ownsRow base 70 21 v n us) : ∀ r, v.ownBlock = some r → ∃ cs f, w.heap[r]? = some (.cells cs 70 f) := by
  intro r hr
  rcases h.2 with ⟨rfl, _⟩ | ⟨g, cap, cur, rfl, _, h2, _⟩
  · cases hr
  · cases hr
    exact ⟨_, _, h2⟩
theorem OpStep.len {a : Act} {w : World} {K : Value → World → Prop} {d : Option Tmp} {ty : TypeId} {pos : String} {after : Array Edge} {guard : Option (Nat × Bool)} {x : Operand} {p : Option Addr} {n c : Nat} (h : a.eval x = .slice p n c) (hK : K (.int .i64 (n : Nat)) w) :
    OpStep a ⟨d, .call { callee := .builtin .len, args := #[x], argTypes := #[66] }, ty, pos, after, guard⟩ w K :=
  .inl ⟨_, _, (fun _ h => nomatch h), fun g hg => abL (C := fun _ => True) w g trivial hg, x_len66 h, hK⟩
theorem setCells_type (b : Nat) {t : TypeId} : ∀ (vs : List Value) (o : Nat) (w : World) {cs : Array Value} {f : Nat × Nat}, w.heap[b]? = some (.cells cs t f) → ∃ cs f, (w.setCells b o vs).heap[b]? = some (.cells cs t f)
  | [], o, w, cs, f, h => ⟨cs, f, h⟩
  | v :: r, o, w, cs, f, h => by
    rw [World.setCells]
    exact setCells_type b r (o + 1) _ (cs := cs.setIfInBounds o v) (f := f) (by simp [World.setCell, Array.getElem?_modify, h])
set_option maxRecDepth 100000 in
set_option maxHeartbeats 8000000 in
theorem parts_in {T : World → Prop} (V : ValidIn T) (b o c : Nat) (xs : List NodeX) (w : World) (hx : ∀ i (h : i < xs.length), NodeXAt w b (o + i * 19) xs[i]) (hT : T w) (hG : treeB (xs.map NodeX.row) = true) (h0 : 0 < xs.length) :
    CallsIn FF 0 Tryz.prog 18 #[.agg #[.slice (some ⟨b, o, none⟩) xs.length c]] w (PartsPost (xs[0]'h0).ws.length (ableI (xs[0]'h0).n (xs[0]'h0).ws) w) := by
  obtain ⟨i0, hi0, hz1, hz2, hz3⟩ := info_parts info70
  obtain ⟨-, t2, t3, -, -, -⟩ := tree_tells hG
  have hxl : xs.length ≤ 1024 := t2
  have e38 : ∀ args w, (callFunc 38 args).run Tryz.prog w = .ok (.enter 38 args) w := enters_of Tryz.func38 (by kernel_rfl) rfl
  obtain ⟨J0, hJ0⟩ : ∃ J0, (xs[0]'h0).ws.length = J0 := ⟨_, rfl⟩
  obtain ⟨A, hA⟩ : ∃ A, ableI (xs[0]'h0).n (xs[0]'h0).ws = A := ⟨_, rfl⟩
  rw [hJ0, hA]
  have HX := Lib.hid hx
  have HM := Lib.hid t3
  have HJ := Lib.hid (And.intro hJ0 hA)
  have HT := Lib.hid hT
  clear hx hT hG t2 t3 hJ0 hA
  obtain ⟨w1, hw1⟩ : ∃ w1, w.alloc (.cells #[.slice (some ⟨b, o, none⟩) xs.length c] 24) = w1 := ⟨_, rfl⟩
  have b1 : Below w.heap.size w w1 := by rw [← hw1]; exact (Below.refl _ _).alloc (Nat.le_refl _) _
  have s1 : w1.heap.size = w.heap.size + 1 := by rw [← hw1]; simp
  have k1 : w1.cell? ⟨w.heap.size, 0, none⟩ = some (.slice (some ⟨b, o, none⟩) xs.length c) := by rw [← hw1, cell_new]; rfl
  have H1 := Lib.hid (And.intro b1 (And.intro s1 k1))
  clear b1 s1 k1
  gi_enter Tryz.func18, Tryz.ntmps18
  gi_wp2
  gi_loopw [3, 4] (fun s3 i wx => ∃ (k : Nat) (us : List Value), k ≤ xs.length ∧ i = .int .i64 k ∧ Below w1.heap.size w1 wx ∧ wx.ownsRow (w.heap.size + 1) 70 21 s3 k us ∧ (∀ u ∈ us, u.oneCell' = true) ∧ FirstP w.heap.size J0 A k us wx) (fun _ i _ => xs.length - (intOf i).toNat)
  case atStart => exact ⟨0, [], Nat.zero_le _, rfl, Below.refl _ _, World.ownsRow_nil _ _ _ _, fun u hu => (by cases hu), fun h => absurd h (by omega)⟩
  case round =>
    obtain ⟨k, us, hk, rfl, hb1, hown, hus, hfst⟩ := hrel
    obtain ⟨b1, s1, k1⟩ := H1.out
    have kb := (hb1.cell (cell_lt k1)).trans k1
    by_cases hlt : k < xs.length
    · have hX : NodeXAt w b (o + k * 19) xs[k] := HX.out k hlt
      have hmay := HM.out k hlt
      have hkk : k = 0 → xs[k].ws.length = J0 ∧ ableI xs[k].n xs[k].ws = A := fun e => by subst e; exact HJ.out
      obtain ⟨x, hxe⟩ : ∃ x, xs[k] = x := ⟨_, rfl⟩
      rw [hxe] at hX hmay hkk
      have hbw : Below w.heap.size w wr := b1.trans (hb1.mono b1.size)
      have hXr := hX.below hbw
      have c38 : ∀ w', Below wr.heap.size wr w' → CallsIn FF 0 Tryz.prog 38 #[x.n.val, .int .i64 (x.n.kidsN : Nat)] w' (DatPost x.ws.length (ableI x.n x.ws) w') := fun w' hb =>
        of_in V x.n x.ws w' hXr.fits hmay (hXr.wraps.below hb) hXr.masks (V.below _ _ (V.below _ _ HT.out hbw) hb)
      have hnode := hXr.node
      have hk18 : wr.cell? ⟨b, o + k * 19 + 18, none⟩ = some (.slice x.n.kidsP x.n.kidsN x.n.kidsC) := hnode 18 _ rfl
      obtain ⟨kp, hkp⟩ : ∃ kp, x.n.kidsP = kp := ⟨_, rfl⟩
      obtain ⟨kc, hkc⟩ : ∃ kc, x.n.kidsC = kc := ⟨_, rfl⟩
      obtain ⟨kn, hkn⟩ : ∃ kn, x.n.kidsN = kn := ⟨_, rfl⟩
      rw [hkp, hkc, hkn] at hk18
      rw [hkn] at c38
      obtain ⟨jn, hjn⟩ : ∃ jn, x.ws.length = jn := ⟨_, rfl⟩
      obtain ⟨cn, hcn⟩ : ∃ cn, ableI x.n x.ws = cn := ⟨_, rfl⟩
      rw [hjn, hcn] at c38 hkk
      obtain ⟨nd, hnd⟩ : ∃ nd, x.n = nd := ⟨_, rfl⟩
      rw [hnd] at c38 hnode
      have hlt2 : (k : Int) < (xs.length : Nat) := by omega
      have HC := Lib.hid c38
      have HN := Lib.hid (And.intro hnode (And.intro hk18 kb))
      have HO := Lib.hid (And.intro hown (And.intro hus (And.intro hfst (And.intro hkk (And.intro hb1 s1)))))
      clear hX hmay hkk hbw hXr c38 hnode hk18 hkp hkc hkn hjn hcn hnd hxe hown hus hfst hb1 b1 s1 k1
      gi_upto_region 5 with fail
      gi_cut [5, 6] from 35 (fun s5 s6 wc => ∃ (B5 : Nat) (d : Dat), s5 = .pointer (some ⟨B5, 0, none⟩) ∧ wr.heap.size ≤ B5 ∧ Below wr.heap.size wr wc ∧ wc.rangeAt B5 0 d.cells ∧ DatAt wc wr.heap.size jn cn d)
      case first =>
        rename_i J K' hJ hM
        obtain ⟨hnode, hk18, kb⟩ := HN.out
        refine region_inv' [15, 16, 17, 18, 19, 20, 21, 22, 23, 24, 25, 26, 27, 14, 28, 29, 5, 6] (fun L ev wx => Below wr.heap.size wr wx ∧
          (L 0 = true → ev 15 = .pointer (some ⟨w.heap.size, 0, none⟩)) ∧ (L 1 = true → ev 16 = .slice (some ⟨b, o, none⟩) xs.length c) ∧ (L 2 = true → ev 17 = .int .i64 (k : Nat)) ∧ (L 3 = true → ev 18 = .pointer (some ⟨b, o + k * 19, none⟩)) ∧ (L 4 = true → ev 19 = nd.val) ∧
          (L 5 = true → ev 20 = .pointer (some ⟨w.heap.size, 0, none⟩)) ∧ (L 6 = true → ev 21 = .slice (some ⟨b, o, none⟩) xs.length c) ∧ (L 7 = true → ev 22 = .int .i64 (k : Nat)) ∧ (L 8 = true → ev 23 = .pointer (some ⟨b, o + k * 19, none⟩)) ∧ (L 9 = true → ev 24 = .pointer (some ⟨b, o + k * 19 + 18, none⟩)) ∧
          (L 10 = true → ev 25 = .slice kp kn kc) ∧ (L 11 = true → ev 26 = .int .i64 (kn : Nat)) ∧
          (L 12 = true → ∃ d : Dat, ev 27 = .tuple #[d.val, .int .i64 0] ∧ DatAt wx wr.heap.size jn cn d) ∧ (L 13 = true → ∃ d : Dat, ev 14 = .tuple #[d.val, .int .i64 0] ∧ DatAt wx wr.heap.size jn cn d) ∧ (L 14 = true → ∃ d : Dat, ev 28 = d.val ∧ DatAt wx wr.heap.size jn cn d) ∧
          (L 16 = true → ∃ B5, ev 5 = .pointer (some ⟨B5, 0, none⟩) ∧ wr.heap.size ≤ B5 ∧ wx.there B5 0 21 ∧ ∃ cs f, wx.heap[B5]? = some (.cells cs 70 f)) ∧
          (L 17 = true → ∃ B5, ∃ d : Dat, ev 5 = .pointer (some ⟨B5, 0, none⟩) ∧ wr.heap.size ≤ B5 ∧ wx.rangeAt B5 0 d.cells ∧ DatAt wx wr.heap.size jn cn d) ∧ (L 17 = true → L 16 = true) ∧ (L 17 = true → L 12 = true) ∧ (L 14 = true → L 12 = true) ∧ (L 13 = true → L 12 = true))
          (by kernel_rfl) (by kernel_rfl) ⟨(Below.refl _ _).drew, fun h => (by cases h), fun h => (by cases h), fun h => (by cases h), fun h => (by cases h), fun h => (by cases h), fun h => (by cases h), fun h => (by cases h), fun h => (by cases h), fun h => (by cases h), fun h => (by cases h), fun h => (by cases h), fun h => (by cases h), fun h => (by cases h), fun h => (by cases h), fun h => (by cases h), fun h => (by cases h), fun h => (by cases h), fun h => (by cases h), fun h => (by cases h), fun h => (by cases h), fun h => (by cases h)⟩ ?_ ?_
        · intro i oo ho L ev a' wx hev hkeep hdep hLi ⟨g1, i0, i1, i2, i3, i4, i5, i6, i7, i8, i9, i10, i11, i12, i13, i14, i16, i17, o16, o12, o14, o13⟩
          have e1 : a'.eval (.tmp 1) = .pointer (some ⟨w.heap.size, 0, none⟩) := (hev 1).trans (hkeep 1 (by decide))
          have e4 : a'.eval (.tmp 4) = .int .i64 (k : Nat) := (hev 4).trans (hkeep 4 (by decide))
          have kbx := (g1.cell (cell_lt kb)).trans kb
          have k18x := (g1.cell (cell_lt hk18)).trans hk18
          have ndx := range_below hnode g1
          match i, ho with
          | 0, ho => cases ho; exact OpStep.val (fun _ h => nomatch h) (fun _ h => nomatch h) (x_fieldAddr24 e1) ⟨g1, fun _ => rfl, i1, i2, i3, i4, i5, i6, i7, i8, i9, i10, i11, i12, i13, i14, i16, i17, o16, o12, o14, o13⟩
          | 1, ho => cases ho; exact OpStep.val (fun _ h => nomatch h) (fun _ h => nomatch h) (x_load22 ((hev 15).trans (i0 (hdep 0 (by decide)))) kbx) ⟨g1, i0, fun _ => rfl, i2, i3, i4, i5, i6, i7, i8, i9, i10, i11, i12, i13, i14, i16, i17, o16, o12, o14, o13⟩
          | 2, ho => cases ho; exact OpStep.val (fun _ h => nomatch h) (fun _ h => nomatch h) x_move ⟨g1, i0, i1, fun _ => e4, i3, i4, i5, i6, i7, i8, i9, i10, i11, i12, i13, i14, i16, i17, o16, o12, o14, o13⟩
          | 3, ho => cases ho; exact OpStep.val (fun _ h => nomatch h) (fun _ h => nomatch h) (x_index22 ((hev 16).trans (i1 (hdep 1 (by decide)))) ((hev 17).trans (i2 (hdep 2 (by decide)))) hlt) ⟨g1, i0, i1, i2, fun _ => rfl, i4, i5, i6, i7, i8, i9, i10, i11, i12, i13, i14, i16, i17, o16, o12, o14, o13⟩
          | 4, ho => cases ho; exact OpStep.val (fun _ h => nomatch h) (fun _ h => nomatch h) (x_load68 ((hev 18).trans (i3 (hdep 3 (by decide)))) ndx) ⟨g1, i0, i1, i2, i3, fun _ => rfl, i5, i6, i7, i8, i9, i10, i11, i12, i13, i14, i16, i17, o16, o12, o14, o13⟩
          | 5, ho => cases ho; exact OpStep.val (fun _ h => nomatch h) (fun _ h => nomatch h) (x_fieldAddr24 e1) ⟨g1, i0, i1, i2, i3, i4, fun _ => rfl, i6, i7, i8, i9, i10, i11, i12, i13, i14, i16, i17, o16, o12, o14, o13⟩
          | 6, ho => cases ho; exact OpStep.val (fun _ h => nomatch h) (fun _ h => nomatch h) (x_load22 ((hev 20).trans (i5 (hdep 5 (by decide)))) kbx) ⟨g1, i0, i1, i2, i3, i4, i5, fun _ => rfl, i7, i8, i9, i10, i11, i12, i13, i14, i16, i17, o16, o12, o14, o13⟩
          | 7, ho => cases ho; exact OpStep.val (fun _ h => nomatch h) (fun _ h => nomatch h) x_move ⟨g1, i0, i1, i2, i3, i4, i5, i6, fun _ => e4, i8, i9, i10, i11, i12, i13, i14, i16, i17, o16, o12, o14, o13⟩
          | 8, ho => cases ho; exact OpStep.val (fun _ h => nomatch h) (fun _ h => nomatch h) (x_index22 ((hev 21).trans (i6 (hdep 6 (by decide)))) ((hev 22).trans (i7 (hdep 7 (by decide)))) hlt) ⟨g1, i0, i1, i2, i3, i4, i5, i6, i7, fun _ => rfl, i9, i10, i11, i12, i13, i14, i16, i17, o16, o12, o14, o13⟩
          | 9, ho => cases ho; exact OpStep.val (fun _ h => nomatch h) (fun _ h => nomatch h) (x_fieldAddr68_15 ((hev 23).trans (i8 (hdep 8 (by decide))))) ⟨g1, i0, i1, i2, i3, i4, i5, i6, i7, i8, fun _ => rfl, i10, i11, i12, i13, i14, i16, i17, o16, o12, o14, o13⟩
          | 10, ho => cases ho; exact OpStep.val (fun _ h => nomatch h) (fun _ h => nomatch h) (x_load66 ((hev 24).trans (i9 (hdep 9 (by decide)))) k18x) ⟨g1, i0, i1, i2, i3, i4, i5, i6, i7, i8, i9, fun _ => rfl, i11, i12, i13, i14, i16, i17, o16, o12, o14, o13⟩
          | 11, ho => cases ho; exact OpStep.len ((hev 25).trans (i10 (hdep 10 (by decide)))) ⟨g1, i0, i1, i2, i3, i4, i5, i6, i7, i8, i9, i10, fun _ => rfl, i12, i13, i14, i16, i17, o16, o12, o14, o13⟩
          | 12, ho =>
            cases ho
            refine OpStep.call (fun _ h => nomatch h) (abF rfl) (x_call2 e38 ((hev 19).trans (i4 (hdep 4 (by decide)))) ((hev 26).trans (i11 (hdep 11 (by decide)))) rfl) ?_
            have n17 : L 17 = true → False := fun h => by rw [o12 h] at hLi; cases hLi
            have n14 : L 14 = true → False := fun h => by rw [o14 h] at hLi; cases hLi
            have n13 : L 13 = true → False := fun h => by rw [o13 h] at hLi; cases hLi
            refine CallsIn.mono (HC.out wx g1) fun e wy ⟨d', he, hb', hd'⟩ => ?_
            exact ⟨_, he, g1.trans (hb'.mono g1.size), i0, i1, i2, i3, i4, i5, i6, i7, i8, i9, i10, i11, fun _ => ⟨d', rfl, hd'.wide g1.size (Nat.le_refl _)⟩, fun h => (n13 h).elim, fun h => (n14 h).elim,
              fun h => by obtain ⟨B5, q1, q2, q3, cs, f, q4⟩ := i16 h; exact ⟨B5, q1, q2, there_keep q3 hb' (Array.getElem?_eq_some_iff.1 q4).1, cs, f, (hb'.block _ (Array.getElem?_eq_some_iff.1 q4).1).trans q4⟩,
              fun h => (n17 h).elim, o16, fun _ => rfl, fun _ => rfl, fun _ => rfl⟩
          | 13, ho =>
            cases ho
            have h12 := hdep 12 (by decide)
            obtain ⟨d2, q1, q2⟩ := i12 h12
            exact OpStep.val (fun _ h => nomatch h) (fun _ h => nomatch h) x_move ⟨g1, i0, i1, i2, i3, i4, i5, i6, i7, i8, i9, i10, i11, i12, fun _ => ⟨d2, (hev 27).trans q1, q2⟩, i14, i16, i17, o16, o12, o14, fun _ => h12⟩
          | 14, ho =>
            cases ho
            have h13 := hdep 13 (by decide)
            obtain ⟨d2, q1, q2⟩ := i13 h13
            exact OpStep.val (fun _ h => nomatch h) (fun _ h => nomatch h) (x_extract0 ((hev 14).trans q1)) ⟨g1, i0, i1, i2, i3, i4, i5, i6, i7, i8, i9, i10, i11, i12, i13, fun _ => ⟨d2, rfl, q2⟩, i16, i17, o16, o12, fun _ => o13 h13, o13⟩
          | 15, ho =>
            cases ho
            obtain ⟨d2, q1, q2⟩ := i13 (hdep 13 (by decide))
            exact OpStep.val (fun _ h => nomatch h) (fun _ h => nomatch h) (x_extract1 ((hev 14).trans q1)) ⟨g1, i0, i1, i2, i3, i4, i5, i6, i7, i8, i9, i10, i11, i12, i13, i14, i16, i17, o16, o12, o14, o13⟩
          | 16, ho =>
            cases ho
            have n17 : L 17 = true → False := fun h => by rw [o16 h] at hLi; cases hLi
            have bn : Below wx.heap.size wx (wx.alloc (.cells (partCells 0 nodeZ (.slice none 0 0)).toArray 70)) := (Below.refl _ _).alloc (Nat.le_refl _) _
            exact OpStep.val (fun _ h => nomatch h) (fun _ h => nomatch h) x_alloc70 ⟨g1.trans (bn.mono g1.size), i0, i1, i2, i3, i4, i5, i6, i7, i8, i9, i10, i11,
              fun h => by obtain ⟨d2, q1, q2⟩ := i12 h; exact ⟨d2, q1, q2.below bn⟩, fun h => by obtain ⟨d2, q1, q2⟩ := i13 h; exact ⟨d2, q1, q2.below bn⟩, fun h => by obtain ⟨d2, q1, q2⟩ := i14 h; exact ⟨d2, q1, q2.below bn⟩,
              fun _ => ⟨wx.heap.size, rfl, g1.size, there_new wx _ 70 21 (by simp [partCells_len]), _, _, heap_alloc_new wx _⟩, fun h => (n17 h).elim, fun _ => rfl, o12, o14, o13⟩
          | 17, ho =>
            cases ho
            have h14 := hdep 14 (by decide)
            have h16 := hdep 16 (by decide)
            obtain ⟨d2, q1, q2⟩ := i14 h14
            obtain ⟨B5, r1, r2, r3, cs, f, r4⟩ := i16 h16
            have hl21 : d2.cells.length = 21 := rfl
            have bs : ∃ cs f, (wx.setCells B5 0 d2.cells).heap[B5]? = some (.cells cs 70 f) := setCells_type B5 d2.cells 0 wx r4
            refine OpStep.skip (fun _ h => nomatch h) (fun _ h => nomatch h) (x_store70 (what := d2.what) (n := d2.n) ((hev 5).trans r1) ((hev 28).trans q1) r3) ?_
            exact ⟨setCells_below _ r2 _ _ _ g1, i0, i1, i2, i3, i4, i5, i6, i7, i8, i9, i10, i11,
              fun h => by obtain ⟨d3, q1, q2⟩ := i12 h; exact ⟨d3, q1, q2.sets70 r4⟩, fun h => by obtain ⟨d3, q1, q2⟩ := i13 h; exact ⟨d3, q1, q2.sets70 r4⟩, fun h => by obtain ⟨d3, q1, q2⟩ := i14 h; exact ⟨d3, q1, q2.sets70 r4⟩,
              fun _ => ⟨B5, r1, r2, there_self r3 hl21, bs⟩, fun _ => ⟨B5, d2, r1, r2, setCells_range r3, q2.sets70 r4⟩, fun _ => h16, fun _ => o14 h14, o14, o13⟩
          | 18, ho => cases ho; exact OpStep.val (fun _ h => nomatch h) (fun _ h => nomatch h) x_assign ⟨g1, i0, i1, i2, i3, i4, i5, i6, i7, i8, i9, i10, i11, i12, i13, i14, i16, i17, o16, o12, o14, o13⟩
          | i + 19, ho => exact absurd ho (by simp)
        · intro L ev wx hall ⟨g1, _, _, _, _, _, _, _, _, _, _, _, _, _, _, _, _, i17, _, _, _, _⟩
          refine hM _ _ (hJ _ _ ?_)
          simp only [List.foldl_cons, List.foldl_nil, List.setIfInBounds_toArray, List.set_cons_succ, List.set_cons_zero]
          (repeat apply Exists.intro)
          refine ⟨?rel, rfl⟩
          case rel =>
            obtain ⟨B5, d2, q1, q2, q3, q4⟩ := i17 (hall 17 (by decide))
            exact ⟨B5, d2, q1, q2, g1, q3, q4⟩
      case rest =>
        obtain ⟨B5, d, rfl, hB5, hbr, hr5, hda⟩ := hcut
        obtain ⟨hown, hus, hfst, hkk, hb1, s1⟩ := HO.out
        have hown2 := World.ownsRow.kept hown (grown_below hbr) (by cases hv : Value.ownBlock _ with | none => exact .inl rfl | some _ => exact .inr (fun h => by cases h))
        have hlen := hown2.1
        obtain ⟨p3, n3, c3, rfl⟩ := owns_slice hown2
        obtain ⟨W2, hW2⟩ : ∃ W2, wc.alloc (.cells d.cells.toArray 70) = W2 := ⟨_, rfl⟩
        have bn : Below wc.heap.size wc W2 := by rw [← hW2]; exact (Below.refl _ _).alloc (Nat.le_refl _) _
        have rn : W2.rangeAt wc.heap.size 0 d.cells := by rw [← hW2]; exact range_new _ _ _
        have hbx : Below w1.heap.size w1 W2 := hb1.trans ((hbr.trans (bn.mono hbr.size)).mono hb1.size)
        have s2 : w.heap.size + 1 ≤ W2.heap.size := by have := hb1.size; have := hbr.size; have := bn.size; omega
        have fst2 := (hfst.below hbr).below bn
        have hd2 := (hda.below bn).wide (B' := w.heap.size) (by have := hb1.size; omega) (Nat.le_refl _)
        have HR := Lib.hid (And.intro fst2 (And.intro hd2 (And.intro hlen (And.intro hbx (And.intro hus (And.intro hkk (And.intro s1 rn)))))))
        have HO2 := Lib.hid (show W2.ownsRow (w.heap.size + 1) 70 21 (.slice p3 n3 c3) k us by rw [← hW2]; exact hown2.alloc _)
        have HR5 := Lib.hid hr5
        clear hown hus hfst hkk hb1 s1 hown2 hda hr5 hbr bn hbx fst2 hd2 rn HO HN HC
        gi_wp2_with ((with_reducible refine wpListIn_id ?_); first
          | (refine wpListIn_v (.load 70 _) rfl (fun _ h => nomatch h) (fun _ h => nomatch h) (by rfl) (fun _ _ _ _ _ => x_load70 (what := d.what) (n := d.n) rfl HR5.out) ?_)
          | (refine wpListIn_v (.buildSlice 59 1 #[(0, _)]) rfl (fun _ h => nomatch h) (fun _ h => nomatch h) (by rfl) (fun _ _ _ _ _ => x_buildSlice59 (what := d.what) (n := d.n) (p := d.p) (m := d.m) (c := d.c) rfl) ?_
             rw [show wc.alloc (.cells (partCells d.what d.n (.slice d.p d.m d.c)).toArray 70) = W2 from hW2])
          | (gi_at_builtin; refine wpListIn_append_own _ rfl _ _ 59 rfl (w.heap.size + 1) 70 i0 (partVal 0 nodeZ (.slice none 0 0)) 21 240 Tryz.underlying59 hi0 hz1 hz2 hz3 rfl (by decide) _ k us rfl HO2.out ⟨wc.heap.size, 0, none⟩ 1 1 d.cells rfl rfl (fun j u hj => by rw [Addr.add_lit]; exact HR.out.2.2.2.2.2.2.2 j u hj) (dat_one d) (by unfold maxLen; omega) (by omega) s2 ?_
             intro v' w2 hown' hgrow _))
        go_roundw
        case rel =>
          obtain ⟨fst2, hd2, hlen, hbx, hus, hkk, s1, rn⟩ := HR.out
          refine ⟨k + 1, us ++ d.cells, by omega, by go_num, hbx.grown hgrow (by have := hbx.size; omega) (fun r hr => by have := (HO2.out.lt r hr).1; omega), hown', fun u hu => ?_, first_next fst2 hlen hd2 hkk hgrow (owns_type HO2.out)⟩
          rcases List.mem_append.1 hu with hu | hu
          · exact hus u hu
          · exact dat_one d u hu
        case measure => simp [intOf]; omega
    · obtain rfl : k = xs.length := by omega
      obtain ⟨d, hd1, hd2⟩ := hfst h0
      have HF := Lib.hid (And.intro hown (And.intro hd1 (And.intro hd2 (b1.trans (hb1.mono b1.size)))))
      clear hown hus hfst hd1 hd2 hb1 b1 s1 k1
      gi_wp2
      go_ret
      obtain ⟨hown, hd1, hd2, hbw⟩ := HF.out
      rcases hown.2 with ⟨_, e⟩ | ⟨g, cap, cur, rfl, _, _⟩
      · omega
      · refine ⟨g, xs.length, cap, d, rfl, h0, fun i v hi => ?_, hbw, hd2⟩
        have hi21 : i < 21 := (List.getElem?_eq_some_iff.1 hi).1
        rw [← hd1, List.getElem?_take_of_lt hi21] at hi
        have := hown.cells rfl i v hi
        rwa [Addr.add_lit] at this
end Go.Proofs.YthjofgmiabcifabGreatDoor.Sq
namespace Go.Proofs.YthjofgmiabcifabGreatDoor.Sq
open Go Go.RowKit
theorem info29 : (Tryz.prog.info? 29).map (fun i => (i.zero, i.size, i.bytes)) = some (some (.int .u16 0), 1, 2) := by kernel_rfl
section
variable {ρ : Operand → Value} {w : World} {d : Option Tmp} {ty : TypeId} {pos : String} {after : Array Edge} {guard : Option (Nat × Bool)} {x y : Operand}
theorem x_index59 {b o n c : Nat} (h : ρ x = .slice (some ⟨b, o, none⟩) n c) (h2 : ρ y = .int .i64 0) (hk : 0 < n) : (execOp ρ ⟨d, .indexAddr 59 x y, ty, pos, after, guard⟩).run Tryz.prog w = .ok (.value (.pointer (some ⟨b, o, none⟩))) w := by go_simp
end
def workB (k : Int) : Bool := decide (1 ≤ k) && decide (k ≤ 16)
/-- What the document's Once hands back. -/
def OncePost (G : Bool) (k : Int) (c : Int) (w : World) (e : Ending) (w' : World) : Prop :=
  if G = false then e = .returned (.tuple #[.slice none 0 0, .int .i64 0, .int .i64 6])
  else if workB k = false then e = .returned (.tuple #[.slice none 0 0, .int .i64 0, .int .i64 310])
  else ∃ g cap, e = .returned (.tuple #[.slice (some ⟨g, 0, none⟩) k.toNat cap, .int .i64 1, .int .i64 0]) ∧ w.heap.size ≤ g ∧ ∀ i, i < k.toNat → w'.cell? ⟨g, i, none⟩ = some (.int .u16 c)
set_option maxRecDepth 100000 in
set_option maxHeartbeats 8000000 in
theorem refonce_in {T : World → Prop} (V : ValidIn T) (sp : Option Addr) (m c : Nat) (xs : List NodeX) (k : Int) (w : World) (hn : NodesAt w (.slice sp m c) xs) (hT : T w) (hk : -9223372036854775808 ≤ k ∧ k ≤ 9223372036854775807) :
    CallsIn FF 0 Tryz.prog 5 #[.agg #[.slice sp m c], .int .i64 k] w (OncePost (treeB (xs.map NodeX.row)) k (if h0 : 0 < xs.length then ableI (xs[0]'h0).n (xs[0]'h0).ws else 0) w) := by
  obtain ⟨w1, hw1⟩ : ∃ w1, w.alloc (.cells #[.slice sp m c] 24) = w1 := ⟨_, rfl⟩
  have b1 : Below w.heap.size w w1 := by rw [← hw1]; exact (Below.refl _ _).alloc (Nat.le_refl _) _
  have k1 : w1.cell? ⟨w.heap.size, 0, none⟩ = some (.slice sp m c) := by rw [← hw1, cell_new]; rfl
  have c16 := refcheck_in V sp m c xs w1 (hn.below b1) (V.below _ _ hT b1)
  have c17 := fun w => rworking_in k w
  cases hG : treeB (xs.map NodeX.row) with
  | false =>
    rw [hG] at c16
    unfold eSpec at c16
    simp only [Bool.false_eq_true, if_false] at c16
    refine CallsIn.mono (?_ : CallsIn FF 0 Tryz.prog 5 #[.agg #[.slice sp m c], .int .i64 k] w fun e w' => e = .returned (.tuple #[.slice none 0 0, .int .i64 0, .int .i64 6])) fun e w' h => by unfold OncePost; rw [if_pos rfl]; exact h
    subst hw1
    clear hn hG b1 k1 c17
    gi_enter Tryz.func5, Tryz.ntmps5
    gi_wp2_with (gi_at_call 16; (with_reducible refine CallsIn.mono c16 ?_); rintro e w' ⟨rfl, hb⟩)
    go_ret3
    rfl
  | true =>
    rw [hG] at c16
    unfold eSpec at c16
    simp only [if_true] at c16
    cases hw : workB k with
    | false =>
      refine CallsIn.mono (?_ : CallsIn FF 0 Tryz.prog 5 #[.agg #[.slice sp m c], .int .i64 k] w fun e w' => e = .returned (.tuple #[.slice none 0 0, .int .i64 0, .int .i64 310])) fun e w' h => by unfold OncePost; rw [if_neg (by decide), hw, if_pos rfl]; exact h
      have hw' : (decide (1 ≤ k) && decide (k ≤ 16)) = false := hw
      rw [hw'] at c17
      subst hw1
      clear hn hG b1 k1 hw hw'
      gi_enter Tryz.func5, Tryz.ntmps5
      gi_wp2_with (first
        | (gi_at_call 16; (with_reducible refine CallsIn.mono c16 ?_); rintro e w' ⟨rfl, hb⟩)
        | (gi_at_call 17; (with_reducible refine CallsIn.mono (c17 _) ?_); rintro e w' ⟨rfl, rfl⟩))
      go_ret3
      rfl
    | true =>
      have h0 : 0 < xs.length := (tree_tells hG).1
      rw [dif_pos h0]
      have hw' : (decide (1 ≤ k) && decide (k ≤ 16)) = true := hw
      rw [hw'] at c17
      simp only [Bool.and_eq_true, decide_eq_true_eq] at hw'
      obtain ⟨q, rfl⟩ : ∃ q : Nat, k = (q : Int) := ⟨k.toNat, by omega⟩
      refine CallsIn.mono (?_ : CallsIn FF 0 Tryz.prog 5 #[.agg #[.slice sp m c], .int .i64 (q : Int)] w fun e w' => ∃ g cap, e = .returned (.tuple #[.slice (some ⟨g, 0, none⟩) q cap, .int .i64 1, .int .i64 0]) ∧ w.heap.size ≤ g ∧ ∀ i, i < q → w'.cell? ⟨g, i, none⟩ = some (.int .u16 (ableI (xs[0]'h0).n (xs[0]'h0).ws))) fun e w' h => by unfold OncePost; rw [if_neg (by decide), hw, if_neg (by decide), Int.toNat_natCast]; exact h
      rcases hn with ⟨_, rfl⟩ | ⟨b, o, cap, e, hlm, hx⟩
      · cases h0
      obtain ⟨rfl, rfl, rfl⟩ : sp = some ⟨b, o, none⟩ ∧ m = xs.length ∧ c = cap := by cases e; exact ⟨rfl, rfl, rfl⟩
      obtain ⟨i0, hi0, hz1, hz2, hz3⟩ := info_parts info29
      have c18 : ∀ w', Below w1.heap.size w1 w' → CallsIn FF 0 Tryz.prog 18 #[.agg #[.slice (some ⟨b, o, none⟩) xs.length c]] w' (PartsPost (xs[0]'h0).ws.length (ableI (xs[0]'h0).n (xs[0]'h0).ws) w') := fun w' hb =>
        have hbw := b1.trans (hb.mono b1.size)
        parts_in V b o c xs w' (fun i hi => (hx i hi).below hbw) (V.below _ _ hT hbw) hG h0
      have hj0 : (xs[0]'h0).ws.length ≤ 64 := by
        have hmay := (tree_tells hG).2.2.1 0 h0
        rw [nodeB_may, Bool.and_eq_true] at hmay
        have h16 := (nodeOk_of hmay.1).1.wr
        have := (hx 0 h0).wraps
        rcases this with ⟨_, _, e⟩ | ⟨_, _, _, e, _⟩
        · rw [e]; exact Nat.zero_le _
        · injection e with e1 e2 e3
          omega
      obtain ⟨J0, hJ0⟩ : ∃ J0, (xs[0]'h0).ws.length = J0 := ⟨_, rfl⟩
      obtain ⟨A, hA⟩ : ∃ A, ableI (xs[0]'h0).n (xs[0]'h0).ws = A := ⟨_, rfl⟩
      rw [hJ0] at hj0
      rw [hJ0, hA] at c18
      rw [hA]
      have HC := Lib.hid c18
      have hb1s := b1.size
      clear hx hG b1 hw e hlm hJ0 hA c18 hT
      have hne : xs.length ≠ 0 := by omega
      obtain ⟨ml, hml⟩ : ∃ ml, xs.length = ml := ⟨_, rfl⟩
      rw [hml] at HC k1 c16 hw1 ⊢
      clear hml hne h0
      subst hw1
      gi_enter Tryz.func5, Tryz.ntmps5
      gi_wp2_with (first
        | (gi_at_call 16; (with_reducible refine CallsIn.mono c16 ?_); rintro e w' ⟨rfl, hb⟩
           have kb := (hb.cell (cell_lt k1)).trans k1
           have c18' := HC.out w' hb)
        | (gi_at_call 17; (with_reducible refine CallsIn.mono (c17 _) ?_); rintro e w'' ⟨rfl, rfl⟩)
        | (gi_at_call 18; (with_reducible refine CallsIn.mono c18' ?_); rintro e w2 ⟨g, n, cp, d, rfl, hn0, hr, hb2, hda⟩))
      have hn1 : (0 : Int) < (n : Nat) := by omega
      have HD := Lib.hid (And.intro hr (And.intro hda (And.intro hb2 hn0)))
      have hwz : w.heap.size ≤ w2.heap.size := by have := hb.size; have := hb2.size; omega
      clear hr hda hb2 HC c18' kb k1 c16 hb
      gi_loopw [9, 10] (fun s9 i wx => ∃ (j : Nat) (us : List Value), j ≤ q ∧ i = .int .i64 j ∧ Below w2.heap.size w2 wx ∧ wx.ownsRow w2.heap.size 29 1 s9 j us ∧ us = List.replicate j (.int .u16 A)) (fun _ i _ => q - (intOf i).toNat)
      case atStart => exact ⟨0, [], Nat.zero_le _, rfl, Below.refl _ _, World.ownsRow_nil _ _ _ _, rfl⟩
      case round =>
        obtain ⟨j, us, hj, rfl, hbx, hown, rfl⟩ := hrel
        by_cases hlt : j < q
        · obtain ⟨hr, hda, hb2, hn0⟩ := HD.out
          have hr2 := range_below hr hbx
          have c19 := pcan_in d _ _ _ wr (hda.below hbx) hj0
          obtain ⟨p9, n9, c9, rfl⟩ := owns_slice hown
          have hlt2 : (j : Int) < (q : Nat) := by omega
          have HO := Lib.hid hown
          have HB := Lib.hid hbx
          obtain ⟨dv, hdv⟩ : ∃ dv, d.val = dv := ⟨_, rfl⟩
          have c19' := c19
          rw [hdv] at c19'
          clear hr hda hb2 hown hbx c19
          gi_wp2_with (first
            | ((with_reducible refine wpListIn_id ?_); first
               | (refine wpListIn_v (.indexAddr 59 _ _) rfl (fun _ h => nomatch h) (fun _ h => nomatch h) (by rfl) (fun _ _ _ _ _ => x_index59 rfl rfl hn0) ?_)
               | (refine wpListIn_v (.load 70 _) rfl (fun _ h => nomatch h) (fun _ h => nomatch h) (by rfl) (fun _ _ _ _ _ => x_load70 (what := d.what) (n := d.n) rfl hr2) ?_
                  rw [show partVal d.what d.n (.slice d.p d.m d.c) = dv from hdv]))
            | (gi_at_call 19; (with_reducible refine CallsIn.mono c19' ?_); rintro e w3 ⟨rfl, hb3⟩
               have hbx3 := HB.out.trans (hb3.mono HB.out.size)
               have hown3 := World.ownsRow.kept HO.out (grown_below hb3) (by cases hv : Value.ownBlock (.slice p9 n9 c9) with | none => exact .inl rfl | some _ => exact .inr (fun h => by cases h))
               have hs3 := hbx3.size)
            | (gi_at_builtin; refine wpListIn_append_own _ rfl _ _ 25 rfl w2.heap.size 29 i0 (.int .u16 0) 1 2 Tryz.underlying25 hi0 hz1 hz2 hz3 rfl (by decide) _ j _ rfl (hown3.alloc _) ⟨w3.heap.size, 0, none⟩ 1 1 [.int .u16 A] rfl rfl (cell_one_new _ _ _) (by simp [Value.oneCell']) (by unfold maxLen; omega) (by omega) (by simp; omega) ?_
               intro v' w4 hown' hgrow _))
          go_roundw
          case rel => exact ⟨j + 1, _, by omega, by go_num, (hbx3.alloc hbx3.size _).grown hgrow (by simp; omega) (fun r hr => (HO.out.lt r hr).1), hown', by rw [List.replicate_succ']⟩
          case measure => simp [intOf]; omega
        · obtain rfl : j = q := by omega
          obtain ⟨p9, n9, c9, rfl⟩ := owns_slice hown
          have HO := Lib.hid hown
          clear hown hbx
          gi_wp2
          go_ret3
          have hown := HO.out
          rcases hown.2 with ⟨_, e⟩ | ⟨g9, cap9, cur, e, hg9, _⟩
          · omega
          · cases e
            refine ⟨g9, c9, rfl, by omega, fun i hi => ?_⟩
            have := hown.cells rfl i (.int .u16 A) (by simp [hi])
            rwa [Addr.add_lit, Nat.zero_add] at this
end Go.Proofs.YthjofgmiabcifabGreatDoor.Sq
