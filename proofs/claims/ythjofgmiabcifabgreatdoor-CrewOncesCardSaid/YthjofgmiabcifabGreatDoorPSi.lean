/-
  The reference Check, by the plain law.
  Conditions: as each theorem says.
-/
import Derived.Test.YthjofgmiabcifabGreatDoorPSh
import Derived.Sort.QuietTacIn
import Derived.Shelf.Abstract
set_option linter.unusedVariables false
set_option linter.unusedSimpArgs false
namespace Go.Proofs.YthjofgmiabcifabGreatDoor.Sq
open Go Go.RowKit
theorem refAll_drop {n k : Nat} {xs : List NodeX} {P : Nat → Int} (h : k < xs.length) : refAll n ((xs.drop k).map NodeX.kids) k P =
    match refKids n k xs[k].kids P with
    | none => none
    | some P' => refAll n ((xs.drop (k + 1)).map NodeX.kids) (k + 1) P' := by
  rw [List.drop_eq_getElem_cons h]
  rfl
theorem refKids_drop {n i j : Nat} {ks : List Int} {P : Nat → Int} (h : j < ks.length) : refKids n i (ks.drop j) P =
    if ks[j] ≤ (i : Int) ∨ (n : Int) ≤ ks[j] ∨ 0 ≤ P ks[j].toNat then none else refKids n i (ks.drop (j + 1)) (put P ks[j].toNat (i : Int)) := by
  rw [List.drop_eq_getElem_cons h]
  rfl
/-- A row of its own. -/
structure RowW (w : World) (n b : Nat) (f : Nat → Int) (wx : World) : Prop where
  below : Below w.heap.size w wx
  new : w.heap.size ≤ b
  row : RowI wx b n f
theorem RowW.turn {w wx : World} {n b : Nat} {f : Nat → Int} (h : RowW w n b f wx) {k : Nat} (hk : k < n) (x : Int) : RowW w n b (put f k x) (wx.setCell ⟨b, k, none⟩ (.int .i64 x)) :=
  ⟨h.below.setCell h.new _, h.new, h.row.set x hk⟩
/-- How the row of parents must be. -/
def Kin (n : Nat) (xs : List NodeX) (Pf : Nat → Int) : Prop := refAll n (xs.map NodeX.kids) 0 P0 = some Pf ∧ ∀ k, 1 ≤ k → k < n → 0 ≤ Pf k
def RPost (n : Nat) (xs : List NodeX) (w : World) (e : Ending) (w' : World) : Prop := ∃ v ok, e = .returned (.tuple #[v, .bool ok]) ∧ Below w.heap.size w w' ∧
  (ok = true → ∃ Pf b, Kin n xs Pf ∧ v = .slice (some ⟨b, 0, none⟩) n n ∧ RowW w n b Pf w') ∧ (ok = false → ∀ Pf, ¬ Kin n xs Pf)
theorem one_made (w : World) (x : Value) (m : Nat) {wz : World} (hw : wz = (w.alloc (.cells #[x] 24)).alloc (.cells (madeCells #[.int .i64 0] m) 3)) :
    RowW w m (w.heap.size + 1) (fun _ => 0) wz ∧ wz.cell? ⟨w.heap.size, 0, none⟩ = some x := by
  subst hw
  obtain ⟨w1, h1⟩ : ∃ w1, w.alloc (.cells #[x] 24) = w1 := ⟨_, rfl⟩
  have s1 : w1.heap.size = w.heap.size + 1 := by rw [← h1]; simp
  have b1 : Below w.heap.size w w1 := by rw [← h1]; exact (Below.refl _ _).alloc (Nat.le_refl _) _
  have c1 : w1.cell? ⟨w.heap.size, 0, none⟩ = some x := by rw [← h1, cell_new]; rfl
  rw [h1]
  have r2 := RowI.made w1 m 3
  rw [s1] at r2
  have b2 : Below w1.heap.size w1 (w1.alloc (.cells (madeCells #[.int .i64 0] m) 3)) := (Below.refl _ _).alloc (Nat.le_refl _) _
  exact ⟨⟨b1.trans (b2.mono b1.size), by omega, r2⟩, (b2.cell (p := ⟨w.heap.size, 0, none⟩) (by simp only; omega)).trans c1⟩
set_option maxRecDepth 100000 in
set_option maxHeartbeats 8000000 in
theorem refparents_in (b o m c : Nat) (xs : List NodeX) (w : World) (hx : ∀ i (h : i < xs.length), NodeXAt w b (o + i * 19) xs[i]) (hnx : xs.length = m) (hn1 : 1 ≤ m) (hn2 : m ≤ 1024) :
    CallsIn FF 0 Tryz.prog 36 #[.agg #[.slice (some ⟨b, o, none⟩) m c]] w (RPost m xs w) := by
  obtain ⟨i3, hi3, hz1, hz2, hz3⟩ := info_parts info3
  have HX := Lib.hid hx
  have HN := Lib.hid hnx
  clear hx hnx
  gi_enter Tryz.func36, Tryz.ntmps36
  have hmake : ∀ wz : World, Sem.run Tryz.prog (Instr.makeSlice 66 (.int .i64 (m : Nat)) (.int .i64 (m : Nat))) wz = .ok (.slice (some ⟨wz.heap.size, 0, none⟩) m m) (wz.alloc (.cells (madeCells #[.int .i64 0] m) 3)) := fun wz => by
    have := run_make (P := Tryz.prog) wz 66 3 i3 _ Tryz.underlying66 hi3 hz1 .i64 .i64 m m (by omega) (Int.le_refl _) (by rw [hz3]; omega) (by omega)
    rw [hz2] at this
    simp only [Int.toNat_natCast, Nat.mul_one] at this
    exact this
  gi_wp2
  obtain ⟨q1, q2⟩ := one_made w (.slice (some ⟨b, o, none⟩) m c) m rfl
  have hnb : w.heap.size ≠ w.heap.size + 1 := by omega
  generalize w.heap.size + 1 = bp at q1 hnb ⊢
  gi_loopw [6] (fun i wx => ∃ (k : Nat) (f : Nat → Int), k ≤ m ∧ i = .int .i64 k ∧ RowW w m bp f wx ∧ (∀ j, j < k → f j = -1) ∧ wx.cell? ⟨w.heap.size, 0, none⟩ = some (.slice (some ⟨b, o, none⟩) m c)) (fun i _ => m - (intOf i).toNat)
  case atStart => exact ⟨0, _, Nat.zero_le _, rfl, q1, fun j h => absurd h (by omega), q2⟩
  case round =>
    obtain ⟨k, f, hk, rfl, hR, hf, hbox⟩ := hrel
    clear q1 q2
    by_cases hlt : k < m
    · have u1 := hR.row.cell k hlt
      have f1 := hR.row.froz k hlt
      have hR2 := Lib.hid (hR.turn hlt (-1))
      have HF := Lib.hid hf
      have HB := Lib.hid hbox
      clear hR hf hbox
      gi_wp2
      go_roundw
      case rel =>
        refine ⟨k + 1, _, by omega, by go_num, hR2.out, fun j hj => ?_, ?_⟩
        · by_cases e : j = k
          · subst e; rw [put_same]
          · rw [put_ne _ _ e]; exact HF.out j (by omega)
        · rw [World.cell?_setCell_other _ _ _ _ (by intro e; cases e; exact hnb rfl)]; exact HB.out
      case measure => simp [intOf]; omega
    · obtain rfl : k = m := by omega
      clear hi3 hz1 hz2 hz3 hmake
      have HF := Lib.hid hf
      have HR := Lib.hid hR
      have HB := Lib.hid hbox
      clear hf hR hbox
      gi_wp2
      gi_loopw [7] (fun i wx => ∃ (q : Nat) (U : Nat → Int), q ≤ k ∧ i = .int .i64 q ∧ RowW w k bp U wx ∧ refAll k ((xs.drop q).map NodeX.kids) q U = refAll k (xs.map NodeX.kids) 0 P0 ∧ wx.cell? ⟨w.heap.size, 0, none⟩ = some (.slice (some ⟨b, o, none⟩) k c)) (fun i _ => k - (intOf i).toNat)
      case atStart => 
        refine ⟨0, P0, Nat.zero_le _, rfl, ⟨HR.out.below, HR.out.new, HR.out.row.same fun i hi => (HF.out i hi).symm⟩, rfl, HB.out⟩
      case round =>
        obtain ⟨q, U, hq, rfl, hR, hall, hbox⟩ := hrel
        clear HR HF HB
        by_cases hlt : q < k
        · have hqx : q < xs.length := by rw [HN.out]; exact hlt
          rw [refAll_drop hqx] at hall
          obtain ⟨x, hxe⟩ : ∃ x, xs[q] = x := ⟨_, rfl⟩
          have hX : NodeXAt w b (o + q * 19) x := by have := HX.out q hqx; rwa [hxe] at this
          rw [hxe] at hall
          obtain ⟨R, hRR⟩ : ∃ R, refKids k q x.kids U = R := ⟨_, rfl⟩
          rw [hRR] at hall
          obtain ⟨kp, hkp⟩ : ∃ kp, x.n.kidsP = kp := ⟨_, rfl⟩
          obtain ⟨kc, hkc⟩ : ∃ kc, x.n.kidsC = kc := ⟨_, rfl⟩
          have HK := hX.kids
          have hkn := HK.len
          have cK0 : w.cell? ⟨b, o + q * 19 + 18, none⟩ = some (.slice x.n.kidsP x.n.kidsN x.n.kidsC) := hX.node 18 _ rfl
          have cK := (hR.below.cell (cell_lt cK0)).trans cK0
          rw [hkp, hkc, ← hkn] at cK HK
          have HK := Lib.hid HK
          have HA := Lib.hid hall
          have HR := Lib.hid hR
          have HRR := Lib.hid hRR
          clear hX hkp hkc hkn cK0 hall hR hRR hxe
          gi_wp2
          gi_loopw [9] (fun i wx => ∃ (j : Nat) (U' : Nat → Int), j ≤ x.kids.length ∧ i = .int .i64 j ∧ RowW w k bp U' wx ∧ refKids k q (x.kids.drop j) U' = R ∧ wx.cell? ⟨w.heap.size, 0, none⟩ = some (.slice (some ⟨b, o, none⟩) k c)) (fun i _ => x.kids.length - (intOf i).toNat)
          case atStart => exact ⟨0, U, Nat.zero_le _, rfl, HR.out, HRR.out, by assumption⟩
          case round =>
            clear HR HRR cK hbox
            obtain ⟨j, U', hj, rfl, hR, hst, hbox⟩ := hrel
            have hbw := hR.below
            by_cases hj2 : j < x.kids.length
            · obtain ⟨kb, ko, rfl, hkl, hkv⟩ : ∃ kb ko, kp = some ⟨kb, ko, none⟩ ∧ x.kids.length ≤ 9223372036854775807 ∧ w.cell? ⟨kb, ko + j, none⟩ = some (.int .i64 x.kids[j]) := by
                rcases HK.out with ⟨_, e, h0⟩ | ⟨kb, ko, cap, e, hl, hc⟩
                · rw [h0] at hj2; cases hj2
                · cases e; exact ⟨kb, ko, rfl, hl, hc j hj2⟩
              have hkv := (hbw.cell (cell_lt hkv)).trans hkv
              rw [refKids_drop hj2] at hst
              obtain ⟨v, hv⟩ : ∃ v, x.kids[j] = v := ⟨_, rfl⟩
              rw [hv] at hkv hst
              clear hv HX
              by_cases h1 : v ≤ (q : Int) ∨ (k : Int) ≤ v
              · rw [if_pos (h1.imp id .inl)] at hst
                subst hst
                have HA' := Lib.hid (show ∀ Pf, ¬ Kin k xs Pf from fun Pf h => by have h1 := h.1; rw [← HA.out] at h1; cases h1)
                clear HA HK hR hbox
                rcases h1 with h1 | h1
                · gi_wp2
                  go_ret2
                  exact ⟨_, _, rfl, hbw, fun h => (by cases h), fun _ => HA'.out⟩
                · have h0 : ¬ v ≤ (q : Int) := by omega
                  gi_wp2
                  go_ret2
                  exact ⟨_, _, rfl, hbw, fun h => (by cases h), fun _ => HA'.out⟩
              · obtain ⟨p, rfl⟩ : ∃ p : Nat, v = (p : Int) := ⟨v.toNat, by omega⟩
                have g1 : ¬ (p : Int) ≤ (q : Int) := fun h => h1 (.inl h)
                have g2 : ¬ (k : Int) ≤ (p : Int) := fun h => h1 (.inr h)
                have hpm : p < k := by omega
                have hcp := hR.row.cell p hpm
                rw [Int.toNat_natCast] at hst
                obtain ⟨e, he⟩ : ∃ e, U' p = e := ⟨_, rfl⟩
                rw [he] at hcp hst
                clear h1
                by_cases h3 : 0 ≤ e
                · rw [if_pos (.inr (.inr h3))] at hst
                  subst hst
                  have HA' := Lib.hid (show ∀ Pf, ¬ Kin k xs Pf from fun Pf h => by have h1 := h.1; rw [← HA.out] at h1; cases h1)
                  clear HA HK hR hbox
                  gi_wp2
                  go_ret2
                  exact ⟨_, _, rfl, hbw, fun h => (by cases h), fun _ => HA'.out⟩
                · rw [if_neg (by omega)] at hst
                  have f1 := hR.row.froz p hpm
                  gi_wp2
                  go_roundw
                  case rel =>
                    refine ⟨j + 1, put U' p (q : Int), by omega, by go_num, hR.turn hpm _, hst, ?_⟩
                    rw [World.cell?_setCell_other _ _ _ _ (by intro e; cases e; exact hnb rfl)]
                    exact hbox
                  case measure => simp [intOf]; omega
            · obtain rfl : j = x.kids.length := by omega
              rw [List.drop_length] at hst
              have hst : some U' = R := hst
              subst hst
              gi_wp2
              go_roundw
              case rel => exact ⟨q + 1, U', by omega, by go_num, hR, HA.out, hbox⟩
              case measure => simp [intOf]; omega
        · obtain rfl : q = k := by omega
          rw [show xs.drop q = [] from List.drop_of_length_le (by rw [HN.out]; exact Nat.le_refl _)] at hall
          have hall : some U = refAll q (xs.map NodeX.kids) 0 P0 := hall
          have HA := Lib.hid hall
          clear hall HX HN hbox
          gi_wp2
          gi_loop [10] (fun i => ∃ (k : Nat), 1 ≤ k ∧ k ≤ q ∧ i = .int .i64 k ∧ ∀ j, 1 ≤ j → j < k → 0 ≤ U j) (fun i => q - (intOf i).toNat)
          case atStart => exact ⟨1, Nat.le_refl _, hn1, rfl, fun j h1 h2 => absurd h2 (by omega)⟩
          case round =>
            obtain ⟨k, hk1, hk, rfl, hpos⟩ := hrel
            by_cases hlt : k < q
            · have u1 := hR.row.cell k hlt
              have HR := Lib.hid hR
              have HL := Lib.hid hpos
              obtain ⟨e, he⟩ : ∃ e, U k = e := ⟨_, rfl⟩
              rw [he] at u1
              have HE := Lib.hid he
              clear hpos hR he
              by_cases h0 : e < 0
              · gi_wp2
                go_ret2
                refine ⟨_, _, rfl, HR.out.below, fun h => (by cases h), fun _ Pf h => ?_⟩
                have h1 := h.1
                rw [← HA.out] at h1
                cases h1
                have := h.2 k hk1 hlt
                rw [HE.out] at this
                omega
              · gi_wp2
                go_round
                case rel =>
                  refine ⟨k + 1, by omega, by omega, by go_num, fun j h1 h2 => ?_⟩
                  by_cases ej : j = k
                  · subst ej; rw [HE.out]; omega
                  · exact HL.out j h1 (by omega)
                case measure => simp [intOf]; omega
            · obtain rfl : k = q := by omega
              have HR := Lib.hid hR
              have HL := Lib.hid hpos
              clear hpos hR
              gi_wp2
              go_ret2
              exact ⟨_, _, rfl, HR.out.below, fun _ => ⟨U, bp, ⟨HA.out.symm, HL.out⟩, rfl, HR.out⟩, fun h => (by cases h)⟩
end Go.Proofs.YthjofgmiabcifabGreatDoor.Sq
namespace Go.Proofs.YthjofgmiabcifabGreatDoor.Sq
open Go Go.RowKit
def DPost (n : Nat) (Pf : Nat → Int) (w : World) (e : Ending) (w' : World) : Prop := ∃ b d, e = .returned (.slice (some ⟨b, 0, none⟩) n n) ∧ Below w.heap.size w w' ∧ IsDep n Pf d ∧ RowW w n b (fun i => ((d i : Nat) : Int)) w'
theorem row_made (w : World) (m : Nat) : RowW w m w.heap.size (fun _ => 0) (w.alloc (.cells (madeCells #[.int .i64 0] m) 3)) :=
  ⟨(Below.refl _ _).alloc (Nat.le_refl _) _, Nat.le_refl _, RowI.made w m 3⟩
set_option maxRecDepth 100000 in
set_option maxHeartbeats 8000000 in
theorem refdepths_in (bp m : Nat) (Pf : Nat → Int) (w : World) (hp : RowI w bp m Pf) (hl : ∀ k, 0 ≤ Pf k → (Pf k).toNat < k) (hn2 : m ≤ 1024) :
    CallsIn FF 0 Tryz.prog 37 #[.slice (some ⟨bp, 0, none⟩) m m] w (DPost m Pf w) := by
  obtain ⟨i3, hi3, hz1, hz2, hz3⟩ := info_parts info3
  have HP := Lib.hid hp
  have HL := Lib.hid hl
  clear hp hl
  gi_enter Tryz.func37, Tryz.ntmps37
  have hmake : ∀ wz : World, Sem.run Tryz.prog (Instr.makeSlice 66 (.int .i64 (m : Nat)) (.int .i64 (m : Nat))) wz = .ok (.slice (some ⟨wz.heap.size, 0, none⟩) m m) (wz.alloc (.cells (madeCells #[.int .i64 0] m) 3)) := fun wz => by
    have := run_make (P := Tryz.prog) wz 66 3 i3 _ Tryz.underlying66 hi3 hz1 .i64 .i64 m m (by omega) (Int.le_refl _) (by rw [hz3]; omega) (by omega)
    rw [hz2] at this
    simp only [Int.toNat_natCast, Nat.mul_one] at this
    exact this
  gi_wp2
  have q1 := row_made w m
  generalize hbd : w.heap.size = bd at q1 ⊢
  clear hi3 hz1 hz2 hz3 hmake
  have HQ := Lib.hid q1
  clear q1
  gi_loopw [4] (fun i wx => ∃ (k : Nat) (f : Nat → Int) (d : Nat → Nat), k ≤ m ∧ i = .int .i64 k ∧ RowW w m bd f wx ∧ (∀ j, j < k → f j = ((d j : Nat) : Int) ∧ d j ≤ j + 1 ∧ d j = if 0 ≤ Pf j then d (Pf j).toNat + 1 else 1)) (fun i _ => m - (intOf i).toNat)
  case atStart => exact ⟨0, _, fun _ => 0, Nat.zero_le _, rfl, HQ.out, fun j h => absurd h (by omega)⟩
  case round =>
    obtain ⟨k, f, d, hk, rfl, hR, hd⟩ := hrel
    clear HQ
    by_cases hlt : k < m
    · have u1 := hR.row.cell k hlt
      have f1 := hR.row.froz k hlt
      have hR1 := hR.turn hlt 1
      have f2 := hR1.row.froz k hlt
      have u2 := hR1.row.cell k hlt
      rw [put_same] at u2
      have hcp := ((HP.out.below (hR1.below)).cell k hlt)
      obtain ⟨e, he⟩ : ∃ e, Pf k = e := ⟨_, rfl⟩
      rw [he] at hcp
      have hlk := HL.out k
      rw [he] at hlk
      by_cases h0 : 0 ≤ e
      · obtain ⟨p, rfl⟩ : ∃ p : Nat, e = (p : Int) := ⟨e.toNat, by omega⟩
        have hpk : p < k := by have := hlk h0; omega
        have hpm : p < m := by omega
        obtain ⟨q1, q2, q3⟩ := hd p hpk
        have u3 := hR1.row.cell p hpm
        rw [put_ne _ _ (by omega), q1] at u3
        have hR2 := Lib.hid (hR1.turn hlt (((d p + 1 : Nat)) : Int))
        have HD := Lib.hid hd
        have hdp : d p ≤ 1024 := by omega
        have HE := Lib.hid he
        generalize hdv : d p = dv at u3 hdp hR2
        have HDV := Lib.hid hdv
        clear hd hR hR1 he hlk q1 q2 q3 hdv
        gi_wp2
        go_roundw
        case rel =>
          refine ⟨k + 1, put (put f k 1) k ((dv + 1 : Nat) : Int), put d k (dv + 1), by omega, by go_num, ?_, fun j hj => ?_⟩
          · have := hR2.out
            rw [show (((dv + 1 : Nat)) : Int) = (dv : Int) + 1 by omega] at this ⊢
            exact this
          · by_cases ej : j = k
            · subst ej
              rw [put_same, put_same, HE.out, if_pos h0, Int.toNat_natCast, put_ne _ _ (by omega), HDV.out]
              have := (HD.out p hpk).2.1
              rw [HDV.out] at this
              exact ⟨rfl, by omega, rfl⟩
            · obtain ⟨r1, r2, r3⟩ := HD.out j (by omega)
              rw [put_ne _ _ ej, put_ne _ _ ej, put_ne _ _ ej]
              refine ⟨r1, r2, r3.trans ?_⟩
              by_cases hj0 : 0 ≤ Pf j
              · rw [if_pos hj0, if_pos hj0, put_ne _ _ (by have := HL.out j hj0; omega)]
              · rw [if_neg hj0, if_neg hj0]
        case measure => simp [intOf]; omega
      · have hR2 := Lib.hid hR1
        have HD := Lib.hid hd
        have HE := Lib.hid he
        clear hd hR hR1 he hlk
        gi_wp2
        go_roundw
        case rel =>
          refine ⟨k + 1, put f k 1, put d k 1, by omega, by go_num, hR2.out, fun j hj => ?_⟩
          by_cases ej : j = k
          · subst ej
            rw [put_same, put_same, HE.out, if_neg h0]
            exact ⟨rfl, by omega, rfl⟩
          · obtain ⟨r1, r2, r3⟩ := HD.out j (by omega)
            rw [put_ne _ _ ej, put_ne _ _ ej]
            refine ⟨r1, r2, r3.trans ?_⟩
            by_cases hj0 : 0 ≤ Pf j
            · rw [if_pos hj0, if_pos hj0, put_ne _ _ (by have := HL.out j hj0; omega)]
            · rw [if_neg hj0, if_neg hj0]
        case measure => simp [intOf]; omega
    · obtain rfl : k = m := by omega
      have HD := Lib.hid hd
      have HR := Lib.hid hR
      clear hd hR
      gi_wp2
      go_ret
      exact ⟨bd, d, rfl, HR.out.below, fun i hi => (HD.out i hi).2.2, ⟨HR.out.below, HR.out.new, HR.out.row.same fun i hi => ((HD.out i hi).1).symm⟩⟩
end Go.Proofs.YthjofgmiabcifabGreatDoor.Sq
namespace Go.Proofs.YthjofgmiabcifabGreatDoor.Sq
open Go Go.RowKit
section
variable {ρ : Operand → Value} {w : World} {d : Option Tmp} {ty : TypeId} {pos : String} {after : Array Edge} {guard : Option (Nat × Bool)} {x y : Operand}
theorem x_fieldAddr24 {b o : Nat} (h : ρ x = .pointer (some ⟨b, o, none⟩)) : (execOp ρ ⟨d, .fieldAddr 24 x 0, ty, pos, after, guard⟩).run Tryz.prog w = .ok (.value (.pointer (some ⟨b, o, none⟩))) w := by go_simp
theorem x_fieldAddr68_15 {b o : Nat} (h : ρ x = .pointer (some ⟨b, o, none⟩)) : (execOp ρ ⟨d, .fieldAddr 68 x 15, ty, pos, after, guard⟩).run Tryz.prog w = .ok (.value (.pointer (some ⟨b, o + 18, none⟩))) w := by go_simp
theorem x_fieldAddr68_0 {b o : Nat} (h : ρ x = .pointer (some ⟨b, o, none⟩)) : (execOp ρ ⟨d, .fieldAddr 68 x 0, ty, pos, after, guard⟩).run Tryz.prog w = .ok (.value (.pointer (some ⟨b, o, none⟩))) w := by go_simp
theorem x_load22 {a : Addr} {v : Value} (h : ρ x = .pointer (some a)) (hc : w.cell? a = some v) : (execOp ρ ⟨d, .load 22 x, ty, pos, after, guard⟩).run Tryz.prog w = .ok (.value v) w := by go_simp
theorem x_load66 {a : Addr} {v : Value} (h : ρ x = .pointer (some a)) (hc : w.cell? a = some v) : (execOp ρ ⟨d, .load 66 x, ty, pos, after, guard⟩).run Tryz.prog w = .ok (.value v) w := by go_simp
theorem x_load5 {a : Addr} {v : Value} (h : ρ x = .pointer (some a)) (hc : w.cell? a = some v) : (execOp ρ ⟨d, .load 5 x, ty, pos, after, guard⟩).run Tryz.prog w = .ok (.value v) w := by go_simp
theorem x_load68 {b o : Nat} {n : NodeS} (h : ρ x = .pointer (some ⟨b, o, none⟩)) (hc : w.rangeAt b o n.cells) : (execOp ρ ⟨d, .load 68 x, ty, pos, after, guard⟩).run Tryz.prog w = .ok (.value n.val) w := by
  have := run_loadAt_mid (P := Tryz.prog) w b o 68 n.cells _ hc Tryz.underlying68 rfl (by kernel_rfl)
  unfold execOp
  simp only [h, Sem.run_bind, this, Result.andThen_ok, Sem.run_pure]
  rfl
theorem x_index22 {b o k n c : Nat} (h : ρ x = .slice (some ⟨b, o, none⟩) n c) (h2 : ρ y = .int .i64 (k : Nat)) (hk : k < n) : (execOp ρ ⟨d, .indexAddr 22 x y, ty, pos, after, guard⟩).run Tryz.prog w = .ok (.value (.pointer (some ⟨b, o + k * 19, none⟩))) w := by go_simp
theorem x_len66 {p : Option Addr} {n c : Nat} (h : ρ x = .slice p n c) : (execOp ρ ⟨d, .call { callee := .builtin .len, args := #[x], argTypes := #[66] }, ty, pos, after, guard⟩).run Tryz.prog w = .ok (.value (.int .i64 (n : Nat))) w := by go_simp
theorem x_not {p : Bool} (h : ρ x = .bool p) : (execOp ρ ⟨d, .unOp .not 4 x, ty, pos, after, guard⟩).run Tryz.prog w = .ok (.value (.bool (!p))) w := by go_simp
theorem x_gtr {m n : Int} (h : ρ x = .int .i64 m) (h2 : ρ y = .int .i64 n) : (execOp ρ ⟨d, .binOp .gtr 3 x y 3, ty, pos, after, guard⟩).run Tryz.prog w = .ok (.value (.bool (decide (n < m)))) w := by go_simp
theorem x_move : (execOp ρ ⟨d, .move x, ty, pos, after, guard⟩).run Tryz.prog w = .ok (.value (ρ x)) w := by go_simp
theorem x_pick {p : Bool} {z : Operand} (h : ρ z = .bool p) : (execOp ρ ⟨d, .pick z x y, ty, pos, after, guard⟩).run Tryz.prog w = .ok (.value (if p then ρ x else ρ y)) w := by cases p <;> go_simp
theorem x_call1 {f : FuncId} {t : TypeId} {v : Value} (e : ∀ args w, (callFunc f args).run Tryz.prog w = .ok (.enter f args) w) (h : ρ x = v) (h2 : ρ (.func f) = .func (.func f) #[] #[]) :
    (execOp ρ ⟨d, .call { callee := .value (.func f), args := #[x], argTypes := #[t] }, ty, pos, after, guard⟩).run Tryz.prog w = .ok (.enter f #[v]) w := by subst h; go_simp
end
section
variable {n : Nat} {ops : Array Oper} {C : World → Prop} {Q : Act → Prop} {a : Act} {o : Oper} {rest : List Oper}
/-- One operation that is no call. -/
theorem q_op {v : Value} (ha : ∀ w g, C w → o.about Tryz.prog w a.eval = some g → FF.fn g) (hw : Region.wanted o (yielded ops a.tmps) = true) (hv : ∀ w, C w → (execOp a.eval o).run Tryz.prog w = .ok (.value v) w) (h : wpQuietIn FF n Tryz.prog ops C Q rest (a.put o.dst v)) : wpQuietIn FF n Tryz.prog ops C Q (o :: rest) a :=
  BigFrame.wpQuietIn_want (fun w hC f hf => ha w f hC hf) hw fun K hK => ⟨v, fun w hC => by unfold Oper.quietAtIn; rw [hv w hC]; exact ⟨rfl, rfl⟩, hK _ h⟩
theorem q_skip (hc : ∀ w f, C w → o.about Tryz.prog w a.eval = some f → FF.fn f) (hw : Region.wanted o (yielded ops a.tmps) = false) (h : wpQuietIn FF n Tryz.prog ops C Q rest (a.put o.dst undef)) : wpQuietIn FF n Tryz.prog ops C Q (o :: rest) a :=
  BigFrame.wpQuietIn_skip (fun w hC f hf => hc w f hC hf) hw h
theorem q_call {v : Value} {f : FuncId} {args : Array Value} (ha : ∀ w g, C w → o.about Tryz.prog w a.eval = some g → FF.fn g) (hw : Region.wanted o (yielded ops a.tmps) = true) (hv : ∀ w, C w → (execOp a.eval o).run Tryz.prog w = .ok (.enter f args) w)
    (hc : ∀ w, C w → CallsIn FF (n - 1) Tryz.prog f args w fun e w' => e = .returned v ∧ C w') (h : wpQuietIn FF n Tryz.prog ops C Q rest (a.put o.dst v)) : wpQuietIn FF n Tryz.prog ops C Q (o :: rest) a :=
  BigFrame.wpQuietIn_want (fun w hC f hf => ha w f hC hf) hw fun K hK => ⟨v, fun w hC => by unfold Oper.quietAtIn; rw [hv w hC]; exact ⟨rfl, fun h => (by cases h), hc w hC⟩, hK _ h⟩
end
theorem ab0 {C : World → Prop} {a : Act} {o : Oper} (hc : ∀ c, o.op ≠ .call c) : ∀ w g, C w → o.about Tryz.prog w a.eval = some g → FF.fn g := fun w g hw h => BigFrame.askedIn_plain (C := C) hc w hw g h
theorem abL {C : World → Prop} {a : Act} {d : Option Tmp} {ty : TypeId} {pos : String} {after : Array Edge} {guard : Option (Nat × Bool)} {x : Operand} {t : TypeId} :
    ∀ w g, C w → Oper.about Tryz.prog w a.eval ⟨d, .call { callee := .builtin .len, args := #[x], argTypes := #[t] }, ty, pos, after, guard⟩ = some g → FF.fn g := fun w g _ h => by
  simp [Oper.about, resolve, Target.leads, Sem.run_pure] at h
theorem abF {C : World → Prop} {a : Act} {d : Option Tmp} {ty : TypeId} {pos : String} {after : Array Edge} {guard : Option (Nat × Bool)} {xs : Array Operand} {ts : Array TypeId} {f : FuncId} (hf : LS.contains f = true) :
    ∀ w g, C w → Oper.about Tryz.prog w a.eval ⟨d, .call { callee := .value (.func f), args := xs, argTypes := ts }, ty, pos, after, guard⟩ = some g → FF.fn g := fun w g _ h => by
  have h2 : Oper.about Tryz.prog w a.eval ⟨d, .call { callee := .value (.func f), args := xs, argTypes := ts }, ty, pos, after, guard⟩ = some f := by
    simp [go_sem, Act.eval, Deferred.ofValue]
  rw [h2] at h
  cases h
  simpa [Fence.list] using hf
end Go.Proofs.YthjofgmiabcifabGreatDoor.Sq
namespace Go.Proofs.YthjofgmiabcifabGreatDoor.Sq
open Go Go.RowKit
theorem rows2 (xs : List NodeX) : (xs.map NodeX.row).map (·.2) = xs.map NodeX.kids := by
  rw [List.map_map]; rfl
theorem rows1 {xs : List NodeX} (h : ∀ i (h : i < xs.length), mayB xs[i].n xs[i].ws = true) : ∀ y ∈ xs.map NodeX.row, y.1 = true := by
  intro y hy
  obtain ⟨x, hx, rfl⟩ := List.mem_map.1 hy
  obtain ⟨i, hi, rfl⟩ := List.getElem_of_mem hx
  exact h i hi
/-- What a tree that may be tells of its nodes and parents. -/
theorem tree_tells {xs : List NodeX} (h : treeB (xs.map NodeX.row) = true) : 1 ≤ xs.length ∧ xs.length ≤ 1024 ∧ (∀ i (h : i < xs.length), mayB xs[i].n xs[i].ws = true) ∧
    ∃ Pf, Kin xs.length xs Pf ∧ ∀ d, IsDep xs.length Pf d → ∀ k, k < xs.length → d k ≤ 64 := by
  obtain ⟨h1, h2, h3, Pf, h4, h5, h6⟩ := tree_ref h
  simp only [List.length_map] at h1 h2 h4 h5 h6
  rw [rows2] at h4
  exact ⟨h1, h2, fun i hi => h3 _ (List.mem_map.2 ⟨xs[i], List.getElem_mem hi, rfl⟩), Pf, ⟨h4, h5⟩, h6⟩
theorem tree_made {xs : List NodeX} {Pf : Nat → Int} {d : Nat → Nat} (h1 : 1 ≤ xs.length) (h2 : xs.length ≤ 1024) (h3 : ∀ i (h : i < xs.length), mayB xs[i].n xs[i].ws = true) (h4 : Kin xs.length xs Pf)
    (h5 : IsDep xs.length Pf d) (h6 : ∀ k, k < xs.length → d k ≤ 64) : treeB (xs.map NodeX.row) = true := by
  refine ref_tree (Pf := Pf) (d := d) (by simpa using h1) (by simpa using h2) (rows1 h3) ?_ ?_ ?_ ?_
  · rw [rows2]; simpa using h4.1
  · simpa using h4.2
  · simpa using h5
  · simpa using h6
theorem kin_less {n : Nat} {xs : List NodeX} {Pf : Nat → Int} (h : Kin n xs Pf) : ∀ k, 0 ≤ Pf k → (Pf k).toNat < k :=
  ref_lt _ 0 (fun k hk => absurd hk (by unfold P0; omega)) h.1
theorem kin_one {n : Nat} {xs : List NodeX} {Pf Pg : Nat → Int} (h : Kin n xs Pf) (g : Kin n xs Pg) : Pf = Pg := by
  have := h.1.symm.trans g.1
  cases this; rfl
theorem below_drew {w : World} : Below w.heap.size w { w with drawn := w.drawn + 1 } := (Below.refl _ w).drew
set_option maxRecDepth 100000 in
set_option maxHeartbeats 2000000 in
theorem refcheck_in {T : World → Prop} (V : ValidIn T) (sp : Option Addr) (m c : Nat) (xs : List NodeX) (w : World) (hn : NodesAt w (.slice sp m c) xs) (hT : T w) : Gives 16 #[.agg #[.slice sp m c]] w (.int .i64 (eSpec (treeB (xs.map NodeX.row)))) := by
  by_cases hbad : xs.length < 1 ∨ 1024 < xs.length
  · have hlen := hn.len
    rw [treeB_no hbad]
    unfold eSpec
    clear hn
    rw [hlen] at hbad
    clear hlen
    rcases hbad with h | h
    · have h' : m = 0 := by omega
      subst h'
      clear h
      gi_enter Tryz.func16, Tryz.ntmps16
      gi_wp2
      go_ret
      exact ⟨rfl, (Below.refl _ _).alloc (Nat.le_refl _) _⟩
    · have h1 : (1024 : Int) < m := by omega
      have h2 : ¬ (m : Int) < 1 := by omega
      clear h
      gi_enter Tryz.func16, Tryz.ntmps16
      gi_wp2
      go_ret
      exact ⟨rfl, (Below.refl _ _).alloc (Nat.le_refl _) _⟩
  · rcases hn with ⟨_, rfl⟩ | ⟨b, o, cap, e, hlm, hx⟩
    · exact absurd (.inl (by decide)) hbad
    obtain ⟨n, hnx⟩ : ∃ n, xs.length = n := ⟨_, rfl⟩
    rw [hnx] at e hbad
    obtain ⟨rfl, rfl, rfl⟩ : sp = some ⟨b, o, none⟩ ∧ m = n ∧ c = cap := by cases e; exact ⟨rfl, rfl, rfl⟩
    clear e
    obtain ⟨G, hG⟩ : ∃ G, treeB (xs.map NodeX.row) = G := ⟨_, rfl⟩
    rw [hG]
    have HG := Lib.hid hG
    have HN := Lib.hid hnx
    have HX := Lib.hid hx
    clear hG hnx hx hlm
    have hn1 : 1 ≤ m := by omega
    have hn2 : m ≤ 1024 := by omega
    clear hbad
    have a1 : ¬ (m : Int) < 1 := by omega
    have a2 : ¬ (1024 : Int) < m := by omega
    have e34 : ∀ args w, (callFunc 34 args).run Tryz.prog w = .ok (.enter 34 args) w := enters_of Tryz.func34 (by kernel_rfl) rfl
    have e35 : ∀ args w, (callFunc 35 args).run Tryz.prog w = .ok (.enter 35 args) w := enters_of Tryz.func35 (by kernel_rfl) rfl
    gi_enter Tryz.func16, Tryz.ntmps16
    gi_wp2
    have hb0 : Below w.heap.size w (w.alloc (.cells #[.slice (some ⟨b, o, none⟩) m c] 24)) := (Below.refl _ _).alloc (Nat.le_refl _) _
    have hc0 : (w.alloc (.cells #[.slice (some ⟨b, o, none⟩) m c] 24)).cell? ⟨w.heap.size, 0, none⟩ = some (.slice (some ⟨b, o, none⟩) m c) := by rw [cell_new]; rfl
    gi_loopw [3] (fun i wx => ∃ (k : Nat), k ≤ m ∧ i = .int .i64 k ∧ Below w.heap.size w wx ∧ wx.cell? ⟨w.heap.size, 0, none⟩ = some (.slice (some ⟨b, o, none⟩) m c) ∧ ∀ j (h : j < xs.length), j < k → mayB xs[j].n xs[j].ws = true) (fun i _ => m - (intOf i).toNat)
    case atStart => exact ⟨0, Nat.zero_le _, rfl, hb0, hc0, fun j h h' => absurd h' (by omega)⟩
    case round =>
      clear hb0 hc0
      obtain ⟨k, hk, rfl, hbw, hbox, hall⟩ := hrel
      have HA := Lib.hid hall
      clear hall
      by_cases hlt : k < m
      · have hkx : k < xs.length := by rw [HN.out]; exact hlt
        obtain ⟨x, hx⟩ : ∃ x, xs[k] = x := ⟨_, rfl⟩
        have hX : NodeXAt w b (o + k * 19) x := by have := HX.out k hkx; rwa [hx] at this
        have HE := Lib.hid hx
        clear hx
        gi_upto_region 6 with fail
        gi_cut [48] from 69 (fun s48 wx => s48 = .bool (!mayB x.n x.ws) ∧ Below wr.heap.size wr wx)
        case first =>
          rename_i J K' hJ hM
          have hmay := nodeB_may x.n x.ws
          have cC : ∀ w', Below wr.heap.size wr w' → Below w.heap.size w w' := fun w' h => hbw.trans (h.mono hbw.size)
          have cB : ∀ w', Below wr.heap.size wr w' → w'.cell? ⟨w.heap.size, 0, none⟩ = some (.slice (some ⟨b, o, none⟩) m c) := fun w' h => (h.cell (cell_lt hbox)).trans hbox
          have cX : ∀ w', Below wr.heap.size wr w' → NodeXAt w' b (o + k * 19) x := fun w' h => hX.below (cC w' h)
          have c34 : ∀ w', Below wr.heap.size wr w' → CallsIn FF 0 Tryz.prog 34 #[x.n.val] w' fun e w'' => e = .returned (.bool (nodeB x.n x.ws)) ∧ Below wr.heap.size wr w'' := fun w' h =>
            CallsIn.mono (node_in V x.n x.ws w' hX.fits (cX w' h).wraps hX.masks (V.below _ _ hT (cC w' h))) fun e w'' ⟨h1, h2⟩ => ⟨h1, h.trans (h2.mono h.size)⟩
          have c35 : ∀ w', Below wr.heap.size wr w' → CallsIn FF 0 Tryz.prog 35 #[.int .u8 x.n.kind] w' fun e w'' => e = .returned (.int .i64 (roomI x.n.kind)) ∧ Below wr.heap.size wr w'' := fun w' h =>
            CallsIn.mono (holds_in x.n.kind w') fun e w'' ⟨h1, h2⟩ => ⟨h1, h.trans (h2.mono h.size)⟩
          generalize nodeB x.n x.ws = nb at hmay c34
          refine wpIn_region_quiet (C := fun w' => Below wr.heap.size wr w') rfl (by kernel_rfl) (by kernel_rfl) below_drew ?_
          refine q_op (v := .pointer (some ⟨w.heap.size, 0, none⟩)) (ab0 fun _ h => nomatch h) rfl (fun w' hC => x_fieldAddr24 rfl) ?_
          simp only [Act.put, List.setIfInBounds_toArray, List.set_cons_succ, List.set_cons_zero]
          refine q_op (v := .slice (some ⟨b, o, none⟩) m c) (ab0 fun _ h => nomatch h) rfl (fun w' hC => x_load22 rfl (cB w' hC)) ?_
          simp only [Act.put, List.setIfInBounds_toArray, List.set_cons_succ, List.set_cons_zero]
          refine q_op (v := .int .i64 (k : Nat)) (ab0 fun _ h => nomatch h) rfl (fun w' hC => x_move) ?_
          simp only [Act.put, List.setIfInBounds_toArray, List.set_cons_succ, List.set_cons_zero]
          refine q_op (v := .pointer (some ⟨b, o + k * 19, none⟩)) (ab0 fun _ h => nomatch h) rfl (fun w' hC => x_index22 rfl rfl hlt) ?_
          simp only [Act.put, List.setIfInBounds_toArray, List.set_cons_succ, List.set_cons_zero]
          refine q_op (v := x.n.val) (ab0 fun _ h => nomatch h) rfl (fun w' hC => x_load68 rfl (cX w' hC).node) ?_
          simp only [Act.put, List.setIfInBounds_toArray, List.set_cons_succ, List.set_cons_zero]
          refine q_call (v := .bool nb) (f := 34) (args := #[x.n.val]) (abF rfl) rfl (fun w' hC => x_call1 e34 rfl rfl) c34 ?_
          simp only [Act.put, List.setIfInBounds_toArray, List.set_cons_succ, List.set_cons_zero]
          refine q_op (v := .bool (!nb)) (ab0 fun _ h => nomatch h) rfl (fun w' hC => x_not rfl) ?_
          simp only [Act.put, List.setIfInBounds_toArray, List.set_cons_succ, List.set_cons_zero]
          refine q_op (v := .bool (!nb)) (ab0 fun _ h => nomatch h) rfl (fun w' hC => x_move) ?_
          simp only [Act.put, List.setIfInBounds_toArray, List.set_cons_succ, List.set_cons_zero]
          cases nb
          · refine q_skip (ab0 fun _ h => nomatch h) rfl ?_
            simp only [Act.put, List.setIfInBounds_toArray, List.set_cons_succ, List.set_cons_zero]
            refine q_skip (ab0 fun _ h => nomatch h) rfl ?_
            simp only [Act.put, List.setIfInBounds_toArray, List.set_cons_succ, List.set_cons_zero]
            refine q_skip (ab0 fun _ h => nomatch h) rfl ?_
            simp only [Act.put, List.setIfInBounds_toArray, List.set_cons_succ, List.set_cons_zero]
            refine q_skip (ab0 fun _ h => nomatch h) rfl ?_
            simp only [Act.put, List.setIfInBounds_toArray, List.set_cons_succ, List.set_cons_zero]
            refine q_skip (ab0 fun _ h => nomatch h) rfl ?_
            simp only [Act.put, List.setIfInBounds_toArray, List.set_cons_succ, List.set_cons_zero]
            refine q_skip (ab0 fun _ h => nomatch h) rfl ?_
            simp only [Act.put, List.setIfInBounds_toArray, List.set_cons_succ, List.set_cons_zero]
            refine q_skip abL rfl ?_
            simp only [Act.put, List.setIfInBounds_toArray, List.set_cons_succ, List.set_cons_zero]
            refine q_skip (ab0 fun _ h => nomatch h) rfl ?_
            simp only [Act.put, List.setIfInBounds_toArray, List.set_cons_succ, List.set_cons_zero]
            refine q_skip (ab0 fun _ h => nomatch h) rfl ?_
            simp only [Act.put, List.setIfInBounds_toArray, List.set_cons_succ, List.set_cons_zero]
            refine q_skip (ab0 fun _ h => nomatch h) rfl ?_
            simp only [Act.put, List.setIfInBounds_toArray, List.set_cons_succ, List.set_cons_zero]
            refine q_skip (ab0 fun _ h => nomatch h) rfl ?_
            simp only [Act.put, List.setIfInBounds_toArray, List.set_cons_succ, List.set_cons_zero]
            refine q_skip (ab0 fun _ h => nomatch h) rfl ?_
            simp only [Act.put, List.setIfInBounds_toArray, List.set_cons_succ, List.set_cons_zero]
            refine q_skip (ab0 fun _ h => nomatch h) rfl ?_
            simp only [Act.put, List.setIfInBounds_toArray, List.set_cons_succ, List.set_cons_zero]
            refine q_skip (abF rfl) rfl ?_
            simp only [Act.put, List.setIfInBounds_toArray, List.set_cons_succ, List.set_cons_zero]
            refine q_skip (ab0 fun _ h => nomatch h) rfl ?_
            simp only [Act.put, List.setIfInBounds_toArray, List.set_cons_succ, List.set_cons_zero]
            refine q_op (v := .bool true) (ab0 fun _ h => nomatch h) rfl (fun w' hC => x_pick (p := true) rfl) ?_
            simp only [Act.put, List.setIfInBounds_toArray, List.set_cons_succ, List.set_cons_zero]
            refine wpQuietIn_nil fun w' hC => hM _ _ (hJ _ _ ?_)
            (repeat apply Exists.intro)
            refine ⟨?rel, rfl⟩
            case rel => exact ⟨by rw [hmay]; rfl, hC⟩
          · have hkn : x.n.kidsN ≤ maxLen := hX.fits.kids
            refine q_op (v := .pointer (some ⟨w.heap.size, 0, none⟩)) (ab0 fun _ h => nomatch h) rfl (fun w' hC => x_fieldAddr24 rfl) ?_
            simp only [Act.put, List.setIfInBounds_toArray, List.set_cons_succ, List.set_cons_zero]
            refine q_op (v := .slice (some ⟨b, o, none⟩) m c) (ab0 fun _ h => nomatch h) rfl (fun w' hC => x_load22 rfl (cB w' hC)) ?_
            simp only [Act.put, List.setIfInBounds_toArray, List.set_cons_succ, List.set_cons_zero]
            refine q_op (v := .int .i64 (k : Nat)) (ab0 fun _ h => nomatch h) rfl (fun w' hC => x_move) ?_
            simp only [Act.put, List.setIfInBounds_toArray, List.set_cons_succ, List.set_cons_zero]
            refine q_op (v := .pointer (some ⟨b, o + k * 19, none⟩)) (ab0 fun _ h => nomatch h) rfl (fun w' hC => x_index22 rfl rfl hlt) ?_
            simp only [Act.put, List.setIfInBounds_toArray, List.set_cons_succ, List.set_cons_zero]
            refine q_op (v := .pointer (some ⟨b, o + k * 19 + 18, none⟩)) (ab0 fun _ h => nomatch h) rfl (fun w' hC => x_fieldAddr68_15 rfl) ?_
            simp only [Act.put, List.setIfInBounds_toArray, List.set_cons_succ, List.set_cons_zero]
            refine q_op (v := .slice x.n.kidsP x.n.kidsN x.n.kidsC) (ab0 fun _ h => nomatch h) rfl (fun w' hC => x_load66 rfl ((cX w' hC).node 18 _ rfl)) ?_
            simp only [Act.put, List.setIfInBounds_toArray, List.set_cons_succ, List.set_cons_zero]
            refine q_op (v := .int .i64 (x.n.kidsN : Nat)) abL rfl (fun w' hC => x_len66 rfl) ?_
            simp only [Act.put, List.setIfInBounds_toArray, List.set_cons_succ, List.set_cons_zero]
            refine q_op (v := .pointer (some ⟨w.heap.size, 0, none⟩)) (ab0 fun _ h => nomatch h) rfl (fun w' hC => x_fieldAddr24 rfl) ?_
            simp only [Act.put, List.setIfInBounds_toArray, List.set_cons_succ, List.set_cons_zero]
            refine q_op (v := .slice (some ⟨b, o, none⟩) m c) (ab0 fun _ h => nomatch h) rfl (fun w' hC => x_load22 rfl (cB w' hC)) ?_
            simp only [Act.put, List.setIfInBounds_toArray, List.set_cons_succ, List.set_cons_zero]
            refine q_op (v := .int .i64 (k : Nat)) (ab0 fun _ h => nomatch h) rfl (fun w' hC => x_move) ?_
            simp only [Act.put, List.setIfInBounds_toArray, List.set_cons_succ, List.set_cons_zero]
            refine q_op (v := .pointer (some ⟨b, o + k * 19, none⟩)) (ab0 fun _ h => nomatch h) rfl (fun w' hC => x_index22 rfl rfl hlt) ?_
            simp only [Act.put, List.setIfInBounds_toArray, List.set_cons_succ, List.set_cons_zero]
            refine q_op (v := .pointer (some ⟨b, o + k * 19, none⟩)) (ab0 fun _ h => nomatch h) rfl (fun w' hC => x_fieldAddr68_0 rfl) ?_
            simp only [Act.put, List.setIfInBounds_toArray, List.set_cons_succ, List.set_cons_zero]
            refine q_op (v := .int .u8 x.n.kind) (ab0 fun _ h => nomatch h) rfl (fun w' hC => x_load5 rfl ((cX w' hC).node 0 _ rfl)) ?_
            simp only [Act.put, List.setIfInBounds_toArray, List.set_cons_succ, List.set_cons_zero]
            refine q_call (v := .int .i64 (roomI x.n.kind)) (f := 35) (args := #[.int .u8 x.n.kind]) (abF rfl) rfl (fun w' hC => x_call1 e35 rfl rfl) c35 ?_
            simp only [Act.put, List.setIfInBounds_toArray, List.set_cons_succ, List.set_cons_zero]
            refine q_op (v := .bool (decide (roomI x.n.kind < (x.n.kidsN : Nat)))) (ab0 fun _ h => nomatch h) rfl (fun w' hC => x_gtr rfl rfl) ?_
            simp only [Act.put, List.setIfInBounds_toArray, List.set_cons_succ, List.set_cons_zero]
            refine q_op (v := .bool (decide (roomI x.n.kind < (x.n.kidsN : Nat)))) (ab0 fun _ h => nomatch h) rfl (fun w' hC => x_pick (p := false) rfl) ?_
            simp only [Act.put, List.setIfInBounds_toArray, List.set_cons_succ, List.set_cons_zero]
            refine wpQuietIn_nil fun w' hC => hM _ _ (hJ _ _ ?_)
            (repeat apply Exists.intro)
            refine ⟨?rel, rfl⟩
            case rel =>
              refine ⟨?_, hC⟩
              rw [hmay, Bool.true_and]
              by_cases h : roomI x.n.kind < (x.n.kidsN : Nat)
              · rw [decide_eq_true h, decide_eq_false (by omega)]; rfl
              · rw [decide_eq_false h, decide_eq_true (by omega)]; rfl
        case rest =>
          obtain ⟨rfl, hB⟩ := hcut
          have hbw2 : Below w.heap.size w wc := hbw.trans (hB.mono hbw.size)
          have hbox2 : wc.cell? ⟨w.heap.size, 0, none⟩ = some (.slice (some ⟨b, o, none⟩) m c) := (hB.cell (cell_lt hbox)).trans hbox
          obtain ⟨mb, hmb⟩ : ∃ mb, mayB x.n x.ws = mb := ⟨_, rfl⟩
          rw [hmb]
          have HM := Lib.hid hmb
          clear hmb hX hB hbw hbox
          cases mb
          · have hgf : G = false := by
              rw [← HG.out, Bool.eq_false_iff]
              intro h
              have := (tree_tells h).2.2.1 k hkx
              rw [HE.out, HM.out] at this
              cases this
            subst hgf
            clear HG HX
            gi_wp2
            go_ret
            exact ⟨rfl, hbw2⟩
          · gi_wp2
            go_roundw
            case rel =>
              refine ⟨k + 1, by omega, by go_num, hbw2, hbox2, fun j h h' => ?_⟩
              by_cases e : j = k
              · subst e; rw [HE.out]; exact HM.out
              · exact HA.out j h (by omega)
            case measure => simp [intOf]; omega
      · obtain rfl : k = m := by omega
        have cP := refparents_in b o k c xs wr (fun i hi => (HX.out i hi).below hbw) HN.out hn1 hn2
        unfold RPost at cP
        gi_wp2_with (gi_at_call 36; (with_reducible refine CallsIn.mono cP ?_); rintro e w' ⟨v, ok, rfl, hb, h1, h2⟩; cases ok)
        · have hgf : G = false := by
            rw [← HG.out, Bool.eq_false_iff]
            intro h
            obtain ⟨_, _, _, Pf, hK, _⟩ := tree_tells h
            rw [HN.out] at hK
            exact h2 (by first | rfl | trivial) Pf hK
          subst hgf
          clear cP
          go_ret
          exact ⟨rfl, hbw.trans (hb.mono hbw.size)⟩
        · obtain ⟨Pf, bp, hK, rfl, hR⟩ := h1 (by first | rfl | trivial)
          have hbw2 : Below w.heap.size w w' := hbw.trans (hb.mono hbw.size)
          clear cP h1 h2
          refine CallsIn.mono (refdepths_in bp k Pf w' hR.row (kin_less hK) hn2) ?_
          rintro e w'' ⟨bd, dd, rfl, hb2, hdep, hRd⟩
          have hbw3 : Below w.heap.size w w'' := hbw2.trans (hb2.mono hbw2.size)
          have HK := Lib.hid hK
          have HD := Lib.hid hdep
          have HB := Lib.hid hbw3
          clear hK hdep hbw2 hbw3 hb hb2 hR hbw hbox
          gi_wp2
          gi_loop [7] (fun i => ∃ (q : Nat), q ≤ k ∧ i = .int .i64 q ∧ ∀ j, j < q → dd j ≤ 64) (fun i => k - (intOf i).toNat)
          case atStart => exact ⟨0, Nat.zero_le _, rfl, fun j h => absurd h (by omega)⟩
          case round =>
            obtain ⟨q, hq, rfl, hle⟩ := hrel
            have HL := Lib.hid hle
            clear hle
            by_cases hlt2 : q < k
            · have u1 := hRd.row.cell q hlt2
              obtain ⟨e, he⟩ : ∃ e, dd q = e := ⟨_, rfl⟩
              simp only [he] at u1
              have HE := Lib.hid he
              have HRd := Lib.hid hRd
              clear he hRd
              by_cases h64 : (64 : Int) < e
              · have hgf : G = false := by
                  rw [← HG.out, Bool.eq_false_iff]
                  intro h
                  obtain ⟨_, _, _, Pg, hKg, h5⟩ := tree_tells h
                  rw [HN.out] at hKg h5
                  have := kin_one HK.out hKg
                  subst this
                  have := h5 dd HD.out q hlt2
                  rw [HE.out] at this
                  omega
                subst hgf
                gi_wp2
                go_ret
                exact ⟨rfl, HB.out⟩
              · gi_wp2
                go_round
                case rel =>
                  refine ⟨q + 1, by omega, by go_num, fun j hj => ?_⟩
                  by_cases ej : j = q
                  · subst ej; rw [HE.out]; omega
                  · exact HL.out j (by omega)
                case measure => simp [intOf]; omega
            · obtain rfl : q = k := by omega
              have hgt : G = true := by
                rw [← HG.out]
                exact tree_made (by rw [HN.out]; exact hn1) (by rw [HN.out]; exact hn2) (fun i hi => HA.out i hi (by have := HN.out; omega)) (by rw [HN.out]; exact HK.out) (by rw [HN.out]; exact HD.out) (by rw [HN.out]; exact HL.out)
              subst hgt
              gi_wp2
              go_ret
              exact ⟨rfl, HB.out⟩
end Go.Proofs.YthjofgmiabcifabGreatDoor.Sq
