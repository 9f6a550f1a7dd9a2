/-
  A node is looked at (34).
  Conditions: as each theorem says.
-/
import Derived.Test.YthjofgmiabcifabGreatDoorPSb
import Derived.Test.YthjofgmiabcifabGreatDoorPSc
set_option linter.unusedVariables false
set_option linter.unusedSimpArgs false
namespace Go.Proofs.YthjofgmiabcifabGreatDoor.Sq
open Go Go.RowKit
/-- From 0 to m. -/
def fB (a m : Int) : Bool := decide (0 ≤ a) && decide (a ≤ m)
theorem from_same (a m : Int) (w : World) : CallsIn FF 0 Tryz.prog 68 #[.int .i64 a, .int .i64 m] w fun e w' => e = .returned (.bool (fB a m)) ∧ w = w' := by
  gi_enter Tryz.func68, Tryz.ntmps68
  gi_wp2
  all_goals
    go_ret
    refine ⟨?_, rfl⟩
    refine ret_bool ?_
    unfold fB
    rw [Bool.eq_iff_iff]
    simp
    omega
theorem inB2 (m a b : Int) : inB m [a, b] = (fB a m && fB b m) := by simp [inB, fB]
theorem inB6 (m a b c d e f : Int) : inB m [a, b, c, d, e, f] = (fB a m && (fB b m && (fB c m && (fB d m && (fB e m && fB f m))))) := by simp [inB, fB]
def rn1B (n : NodeS) : Bool := fB n.minW 16384 && (fB n.minH 16384 && (fB n.maxW 16384 && fB n.maxH 16384))
def rn2B (n : NodeS) : Bool := mB n.minW n.maxW && mB n.minH n.maxH
def rn3B (n : NodeS) : Bool := fB n.grow 16384 && (decide (-1 ≤ n.order) && (decide (n.order ≤ 1048576) && (fB n.columns 64 && (fB n.span 64 && (fB n.gap 16384 && (fB n.offX 1048576 && (fB n.offY 1048576 && decide ((n.wrapsN : Int) ≤ 16))))))))
/-- A node may be, its kids not asked. -/
def nodeB (n : NodeS) (ws : List WrapS) : Bool := may1B n && (rn1B n && (rn2B n && (rn3B n && wrapsB ws)))
theorem nodeB_may (n : NodeS) (ws : List WrapS) : mayB n ws = (nodeB n ws && decide ((n.kidsN : Int) ≤ roomI n.kind)) := by
  unfold mayB nodeB may3B may5B rn1B rn2B rn3B
  rw [inB6, inB2, inB2]
  cases may1B n <;> cases fB n.minW 16384 <;> cases fB n.minH 16384 <;> cases fB n.maxW 16384 <;> cases fB n.maxH 16384 <;> simp
  cases fB n.grow 16384 <;> cases fB n.gap 16384 <;> simp
  cases mB n.minW n.maxW <;> cases mB n.minH n.maxH <;> simp
  cases fB n.offX 1048576 <;> cases fB n.offY 1048576 <;> cases fB n.columns 64 <;> cases fB n.span 64 <;> simp
  simp [and_assoc, Bool.and_assoc]
theorem nd_n1 {n : NodeS} {ws : List WrapS} (h : may1B n = false) : nodeB n ws = false := by simp [nodeB, h]
theorem nd_n2 {n : NodeS} {ws : List WrapS} (h : rn1B n = false) : nodeB n ws = false := by simp [nodeB, h]
theorem nd_n3 {n : NodeS} {ws : List WrapS} (h : rn2B n = false) : nodeB n ws = false := by simp [nodeB, h]
theorem nd_n4 {n : NodeS} {ws : List WrapS} (h : rn3B n = false) : nodeB n ws = false := by simp [nodeB, h]
set_option maxHeartbeats 4000000 in
set_option maxRecDepth 100000 in
theorem node_in {T : World → Prop} (V : ValidIn T) (n : NodeS) (ws : List WrapS) (w : World) (hf : n.fits) (hw : WrapsAt w (.slice n.wrapsP n.wrapsN n.wrapsC) ws) (hm : ∀ x ∈ ws, 0 ≤ x.mask ∧ x.mask < 65536) (hT : T w) : Gives 34 #[n.val] w (.bool (nodeB n ws)) := by
  have HB := Lib.hid (BoxW.box V n 68 hT)
  obtain ⟨f1, f2, f3, f4, f5⟩ := hf
  unfold maxLen at f4 f5
  have HW := Lib.hid hw
  have HM := Lib.hid hm
  clear hw hm
  have c1 : ∀ w', BoxW T w n w' → Gives 67 #[.string n.name, .int .i64 64] w' (.bool (tB n.name 64)) := fun w' h => rtext_in V n.name 64 w' f1 h.tabs
  have c2 : ∀ w', BoxW T w n w' → Gives 67 #[.string n.cls, .int .i64 64] w' (.bool (tB n.cls 64)) := fun w' h => rtext_in V n.cls 64 w' f2 h.tabs
  have c3 : ∀ w', BoxW T w n w' → Gives 67 #[.string n.text, .int .i64 65536] w' (.bool (tB n.text 65536)) := fun w' h => rtext_in V n.text 65536 w' f3 h.tabs
  clear f1 f2 f3
  unfold NodeS.val NodeS.cells
  gi_enter Tryz.func34, Tryz.ntmps34
  gi_upto_region 1 with fail
  gi_cut [29] from 4 (fun s29 wc => s29 = .bool (!may1B n) ∧ BoxW T w n wc)
  case first =>
    have hB0 := HB.out
    unfold NodeS.cells at hB0
    generalize hb1 : tB n.name 64 = b1 at c1
    generalize hb2 : tB n.cls 64 = b2 at c2
    generalize hb3 : tB n.text 65536 = b3 at c3
    have HX := Lib.hid (show may1B n = (decide (1 ≤ n.kind) && (decide (n.kind ≤ 10) && (b1 && (b2 && b3)))) by unfold may1B; rw [hb1, hb2, hb3])
    clear hb1 hb2 hb3
    gi_wp2_with (gi_at_call 67; (first
      | (with_reducible refine CallsIn.mono (c1 _ (by assumption)) ?_)
      | (with_reducible refine CallsIn.mono (c2 _ (by assumption)) ?_)
      | (with_reducible refine CallsIn.mono (c3 _ (by assumption)) ?_)); rintro e w' ⟨rfl, hb⟩; have hB' := BoxW.next V (by assumption) hb; have k2 : w'.cell? ⟨w.heap.size, 2, none⟩ = some (.string n.cls) := hB'.node 2 _ rfl; have k3 : w'.cell? ⟨w.heap.size, 3, none⟩ = some (.string n.text) := hB'.node 3 _ rfl)
    all_goals
      gi_meet
      case rel =>
        refine ⟨?_, by assumption⟩
        rw [HX.out]
        first | (simp [*]; done) | (simp [*]; intro h; omega)
  case rest =>
    obtain ⟨rfl, hB⟩ := hcut
    clear c1 c2 c3
    by_cases hm : may1B n = true
    · rw [hm, Bool.not_true]
      have HM1 := Lib.hid hm
      clear hm
      have k4 : wc.cell? ⟨w.heap.size, 4, none⟩ = some (.int .i64 n.minW) := hB.node 4 _ rfl
      have k5 : wc.cell? ⟨w.heap.size, 5, none⟩ = some (.int .i64 n.minH) := hB.node 5 _ rfl
      have k6 : wc.cell? ⟨w.heap.size, 6, none⟩ = some (.int .i64 n.maxW) := hB.node 6 _ rfl
      have k7 : wc.cell? ⟨w.heap.size, 7, none⟩ = some (.int .i64 n.maxH) := hB.node 7 _ rfl
      gi_upto_region 3 with fail
      gi_cut [55] from 30 (fun s55 wd => s55 = .bool (!rn1B n) ∧ wc = wd)
      case first =>
        have c1 : ∀ w', CallsIn FF 0 Tryz.prog 68 #[.int .i64 n.minW, .int .i64 16384] w' _ := fun w' => from_same n.minW 16384 w'
        have c2 : ∀ w', CallsIn FF 0 Tryz.prog 68 #[.int .i64 n.minH, .int .i64 16384] w' _ := fun w' => from_same n.minH 16384 w'
        have c3 : ∀ w', CallsIn FF 0 Tryz.prog 68 #[.int .i64 n.maxW, .int .i64 16384] w' _ := fun w' => from_same n.maxW 16384 w'
        have c4 : ∀ w', CallsIn FF 0 Tryz.prog 68 #[.int .i64 n.maxH, .int .i64 16384] w' _ := fun w' => from_same n.maxH 16384 w'
        generalize hb1 : fB n.minW 16384 = b1 at c1
        generalize hb2 : fB n.minH 16384 = b2 at c2
        generalize hb3 : fB n.maxW 16384 = b3 at c3
        generalize hb4 : fB n.maxH 16384 = b4 at c4
        have HX := Lib.hid (show rn1B n = (b1 && (b2 && (b3 && b4))) by unfold rn1B; rw [hb1, hb2, hb3, hb4])
        clear hb1 hb2 hb3 hb4
        gi_wp2_with (gi_at_call 68; (first | (with_reducible refine CallsIn.mono (c1 _) ?_) | (with_reducible refine CallsIn.mono (c2 _) ?_) | (with_reducible refine CallsIn.mono (c3 _) ?_) | (with_reducible refine CallsIn.mono (c4 _) ?_)); rintro e w' ⟨rfl, rfl⟩)
        all_goals
          gi_meet
          case rel =>
            refine ⟨?_, rfl⟩
            rw [HX.out]
            first | (simp [*]; done)
      case rest =>
        obtain ⟨rfl, rfl⟩ := hcut
        by_cases hm : rn1B n = true
        · rw [hm, Bool.not_true]
          have HM3 := Lib.hid hm
          clear hm
          gi_upto_region 5 with fail
          gi_cut [0, 83] from 56 (fun s0 s83 wd => s83 = .bool (!rn2B n) ∧ wc = wd)
          case first =>
            gi_wp2
            all_goals
              gi_meet
              case rel =>
                refine ⟨?_, rfl⟩
                unfold rn2B mB
                first | (simp [*]; done) | (simp [*]; omega) | (simp [*]; rw [Bool.eq_iff_iff]; simp; omega)
          case rest =>
            obtain ⟨rfl, rfl⟩ := hcut
            clear k4 k5 k6 k7
            by_cases hm : rn2B n = true
            · rw [hm, Bool.not_true]
              have HM5 := Lib.hid hm
              clear hm
              have k8 : wc.cell? ⟨w.heap.size, 8, none⟩ = some (.int .i64 n.grow) := hB.node 8 _ rfl
              have k9 : wc.cell? ⟨w.heap.size, 9, none⟩ = some (.int .i64 n.order) := hB.node 9 _ rfl
              have k11 : wc.cell? ⟨w.heap.size, 11, none⟩ = some (.int .i64 n.columns) := hB.node 11 _ rfl
              have k12 : wc.cell? ⟨w.heap.size, 12, none⟩ = some (.int .i64 n.span) := hB.node 12 _ rfl
              have k13 : wc.cell? ⟨w.heap.size, 13, none⟩ = some (.int .i64 n.gap) := hB.node 13 _ rfl
              have k14 : wc.cell? ⟨w.heap.size, 14, none⟩ = some (.int .i64 n.offX) := hB.node 14 _ rfl
              have k15 : wc.cell? ⟨w.heap.size, 15, none⟩ = some (.int .i64 n.offY) := hB.node 15 _ rfl
              have k17 : wc.cell? ⟨w.heap.size, 17, none⟩ = some (.slice n.wrapsP n.wrapsN n.wrapsC) := hB.node 17 _ rfl
              gi_upto_region 7 with fail
              gi_cut [135] from 84 (fun s135 wd => s135 = .bool (!rn3B n) ∧ wc = wd)
              case first =>
                have c1 : ∀ w', CallsIn FF 0 Tryz.prog 68 #[.int .i64 n.grow, .int .i64 16384] w' _ := fun w' => from_same n.grow 16384 w'
                have c2 : ∀ w', CallsIn FF 0 Tryz.prog 68 #[.int .i64 n.columns, .int .i64 64] w' _ := fun w' => from_same n.columns 64 w'
                have c3 : ∀ w', CallsIn FF 0 Tryz.prog 68 #[.int .i64 n.span, .int .i64 64] w' _ := fun w' => from_same n.span 64 w'
                have c4 : ∀ w', CallsIn FF 0 Tryz.prog 68 #[.int .i64 n.gap, .int .i64 16384] w' _ := fun w' => from_same n.gap 16384 w'
                have c5 : ∀ w', CallsIn FF 0 Tryz.prog 68 #[.int .i64 n.offX, .int .i64 1048576] w' _ := fun w' => from_same n.offX 1048576 w'
                have c6 : ∀ w', CallsIn FF 0 Tryz.prog 68 #[.int .i64 n.offY, .int .i64 1048576] w' _ := fun w' => from_same n.offY 1048576 w'
                generalize hb1 : fB n.grow 16384 = b1 at c1
                generalize hb2 : fB n.columns 64 = b2 at c2
                generalize hb3 : fB n.span 64 = b3 at c3
                generalize hb4 : fB n.gap 16384 = b4 at c4
                generalize hb5 : fB n.offX 1048576 = b5 at c5
                generalize hb6 : fB n.offY 1048576 = b6 at c6
                have HX := Lib.hid (show rn3B n = (b1 && (decide (-1 ≤ n.order) && (decide (n.order ≤ 1048576) && (b2 && (b3 && (b4 && (b5 && (b6 && decide ((n.wrapsN : Int) ≤ 16))))))))) by unfold rn3B; rw [hb1, hb2, hb3, hb4, hb5, hb6])
                clear hb1 hb2 hb3 hb4 hb5 hb6
                gi_wp2_with (gi_at_call 68; (first | (with_reducible refine CallsIn.mono (c1 _) ?_) | (with_reducible refine CallsIn.mono (c2 _) ?_) | (with_reducible refine CallsIn.mono (c3 _) ?_) | (with_reducible refine CallsIn.mono (c4 _) ?_) | (with_reducible refine CallsIn.mono (c5 _) ?_) | (with_reducible refine CallsIn.mono (c6 _) ?_)); rintro e w' ⟨rfl, rfl⟩)
                all_goals
                  gi_meet
                  case rel =>
                    refine ⟨?_, rfl⟩
                    rw [HX.out]
                    first | (simp [*]; done) | (simp [*]; intro h; omega) | (simp [*]; intros; omega) | (simp [*]; rw [Bool.eq_iff_iff]; simp; omega)
              case rest =>
                obtain ⟨rfl, rfl⟩ := hcut
                clear k8 k9 k11 k12 k13 k14 k15 k17
                by_cases hm : rn3B n = true
                · rw [hm, Bool.not_true]
                  have HM7 := Lib.hid hm
                  clear hm
                  have hw' := HW.out.below hB.below
                  have hN : nodeB n ws = wrapsB ws := by unfold nodeB; rw [HM1.out, HM3.out, HM5.out, HM7.out]; simp
                  have HN := Lib.hid hN
                  clear hN
                  rcases hw' with ⟨p0, e, rfl⟩ | ⟨b, o, cap, e, hl, hx⟩
                  · injection e with e1 e2 e3
                    have hk17 : ∀ wx, BoxW T w n wx → wx.cell? ⟨w.heap.size, 17, none⟩ = some (.slice p0 0 0) := fun wx h => by have := h.node 17 _ rfl; rw [e1, e2, e3] at this; exact this
                    clear e1 e2 e3
                    have k17 := hk17 _ hB
                    gi_wp2
                    gi_loopw [3] (fun i wx => wx = wc ∧ i = .int .i64 0) (fun _ _ => 0)
                    case atStart => exact ⟨rfl, rfl⟩
                    case round =>
                      obtain ⟨rfl, rfl⟩ := hrel
                      gi_wp2
                      go_ret
                      exact ⟨ret_bool (by rw [HN.out]; rfl), hB.below⟩
                  · injection e with e1 e2 e3
                    have hk17 : ∀ wx, BoxW T w n wx → wx.cell? ⟨w.heap.size, 17, none⟩ = some (.slice (some ⟨b, o, none⟩) ws.length cap) := fun wx h => by have := h.node 17 _ rfl; rw [e1, e2, e3] at this; exact this
                    clear e1 e2 e3
                    have HX := Lib.hid hx
                    clear hx
                    unfold maxLen at hl
                    gi_wp2
                    gi_loopw [3] (fun i wx => BoxW T w n wx ∧ Below wc.heap.size wc wx ∧ ∃ k : Nat, k ≤ ws.length ∧ i = .int .i64 k ∧ ∀ j (h : j < ws.length), j < k → wrapP ws[j]) (fun i _ => ws.length - (intOf i).toNat)
                    case atStart => exact ⟨hB, Below.refl _ _, 0, Nat.zero_le _, rfl, fun j h h' => absurd h' (by omega)⟩
                    case round =>
                      obtain ⟨hbx, hbw, k, hk, rfl, hall⟩ := hrel
                      have HA := Lib.hid hall
                      clear hall
                      have k17 := hk17 _ hbx
                      by_cases hlt : k < ws.length
                      · obtain ⟨h0, h1, h2, h3, h4⟩ := (HX.out k hlt).below hbw
                        have hmk := HM.out ws[k] (List.getElem_mem hlt)
                        obtain ⟨x, hv⟩ : ∃ x, ws[k] = x := ⟨_, rfl⟩
                        rw [hv] at h0 h1 h2 h3 h4 hmk
                        have HV := Lib.hid hv
                        clear hv
                        have c := rcheck_in V x wr h4 hmk.1 hmk.2 hbx.tabs
                        clear hmk
                        by_cases hp : wrapP x
                        · rw [rW_of hp] at c
                          have HP := Lib.hid hp
                          clear hp
                          unfold WrapS.val at c
                          gi_wp2_with (gi_at_call 69; refine c.mono ?_; rintro e w' ⟨rfl, hb⟩)
                          go_roundw
                          case rel =>
                            refine ⟨hbx.next V hb, hbw.trans (hb.mono hbw.size), k + 1, by omega, by go_num, fun j h h' => ?_⟩
                            by_cases e : j = k
                            · subst e; rw [HV.out]; exact HP.out
                            · exact HA.out j h (by omega)
                          case measure => simp [intOf]; omega
                        · rw [rW_not hp] at c
                          have HP := Lib.hid hp
                          clear hp
                          unfold WrapS.val at c
                          gi_wp2_with (gi_at_call 69; refine c.mono ?_; rintro e w' ⟨rfl, hb⟩)
                          go_ret
                          refine ⟨ret_bool ?_, (hbx.next V hb).below⟩
                          rw [HN.out]
                          unfold wrapsB
                          symm
                          rw [List.all_eq_false]
                          exact ⟨ws[k], List.getElem_mem hlt, by rw [HV.out]; simpa using HP.out⟩
                      · gi_wp2
                        go_ret
                        refine ⟨ret_bool ?_, hbx.below⟩
                        rw [HN.out]
                        unfold wrapsB
                        symm
                        rw [List.all_eq_true]
                        intro y hy
                        obtain ⟨j, hj, rfl⟩ := List.getElem_of_mem hy
                        exact decide_eq_true (HA.out j hj (by omega))
                · have hm : rn3B n = false := by simpa using hm
                  rw [hm]
                  gi_wp2
                  go_ret
                  exact ⟨ret_bool (nd_n4 hm).symm, hB.below⟩
            · have hm : rn2B n = false := by simpa using hm
              rw [hm]
              gi_wp2
              go_ret
              exact ⟨ret_bool (nd_n3 hm).symm, hB.below⟩
        · have hm : rn1B n = false := by simpa using hm
          rw [hm]
          gi_wp2
          go_ret
          exact ⟨ret_bool (nd_n2 hm).symm, hB.below⟩
    · have hm : may1B n = false := by simpa using hm
      rw [hm]
      gi_wp2
      go_ret
      exact ⟨ret_bool (nd_n1 hm).symm, hB.below⟩
end Go.Proofs.YthjofgmiabcifabGreatDoor.Sq
