/-
  ValidString answers whether the text is well formed.
  Conditions: as each theorem says.
-/
import Derived.Test.YthjofgmiabcifabGreatDoorPSa
import Derived.Shelf.Unicode.DecodeSlow
import Derived.Lib.Endian
import Derived.Lib.EndianBits
import Derived.Lib.ValidAsc
import Derived.Laws.BitsAllLaws
import Derived.Sort.LoopGhostIn
set_option linter.unusedVariables false
set_option linter.unusedSimpArgs false
namespace Go.Proofs.YthjofgmiabcifabGreatDoor.Sq
open Go Go.RowKit Go.Lib
set_option maxHeartbeats 8000000 in
set_option maxRecDepth 100000 in
/-- 'word': the number that the first eight bytes spell. -/
theorem word_in (s : ByteArray) (w : World) (hs : 8 ≤ s.size) :
    CallsIn FF 0 Tryz.prog 111 #[.string s] w fun e w' => e = .returned (.int .u64 (Lib.leNat [s.get! 0, s.get! 1, s.get! 2, s.get! 3, s.get! 4, s.get! 5, s.get! 6, s.get! 7])) ∧ ∃ q, w' = w.drewN q := by
  have at_ : ∀ k, k < s.size → ∃ x : UInt8, s.get! k = x ∧ (∀ h : k < s.size, s[k]'h = x) := fun k hk => ⟨_, rfl, fun h => (Utf8W.get!_of_lt s k h).symm⟩
  obtain ⟨x0, hx0, g0⟩ := at_ 0 (by omega)
  obtain ⟨x1, hx1, g1⟩ := at_ 1 (by omega)
  obtain ⟨x2, hx2, g2⟩ := at_ 2 (by omega)
  obtain ⟨x3, hx3, g3⟩ := at_ 3 (by omega)
  obtain ⟨x4, hx4, g4⟩ := at_ 4 (by omega)
  obtain ⟨x5, hx5, g5⟩ := at_ 5 (by omega)
  obtain ⟨x6, hx6, g6⟩ := at_ 6 (by omega)
  obtain ⟨x7, hx7, g7⟩ := at_ 7 (by omega)
  have s0 := g0 (by omega); have s1 := g1 (by omega); have s2 := g2 (by omega); have s3 := g3 (by omega); have s4 := g4 (by omega); have s5 := g5 (by omega); have s6 := g6 (by omega); have s7 := g7 (by omega)
  clear at_ g0 g1 g2 g3 g4 g5 g6 g7
  have b0 := x0.toNat_lt; have b1 := x1.toNat_lt; have b2 := x2.toNat_lt; have b3 := x3.toNat_lt; have b4 := x4.toNat_lt; have b5 := x5.toNat_lt; have b6 := x6.toNat_lt; have b7 := x7.toNat_lt
  rw [hx0, hx1, hx2, hx3, hx4, hx5, hx6, hx7]
  have hv : ((Lib.leNat [x0, x1, x2, x3, x4, x5, x6, x7] : Nat) : Int) = (x0.toNat : Int) + (x1.toNat : Int) * 256 + (x2.toNat : Int) * 65536 + (x3.toNat : Int) * 16777216 + (x4.toNat : Int) * 4294967296 + (x5.toNat : Int) * 1099511627776 + (x6.toNat : Int) * 281474976710656 + (x7.toNat : Int) * 72057594037927936 := by
    simp only [Lib.leNat]
    push_cast
    omega
  have q0 : (0 : Int) < (s.size : Int) := by omega
  have q1 : (1 : Int) < (s.size : Int) := by omega
  have q2 : (2 : Int) < (s.size : Int) := by omega
  have q3 : (3 : Int) < (s.size : Int) := by omega
  have q4 : (4 : Int) < (s.size : Int) := by omega
  have q5 : (5 : Int) < (s.size : Int) := by omega
  have q6 : (6 : Int) < (s.size : Int) := by omega
  have q7 : (7 : Int) < (s.size : Int) := by omega
  have p0 : 0 < s.size := by omega
  have p1 : 1 < s.size := by omega
  have p2 : 2 < s.size := by omega
  have p3 : 3 < s.size := by omega
  have p4 : 4 < s.size := by omega
  have p5 : 5 < s.size := by omega
  have p6 : 6 < s.size := by omega
  have p7 : 7 < s.size := by omega
  gi_enter Tryz.func111, Tryz.ntmps111
  gi_wp2
  gi_big_quiet_th (fail)
  gi_wp2
  go_ret
  refine ⟨?_, _, rfl⟩
  simp (disch := omega) only [u64_wrap_id, u64_or8, u64_or16, u64_or24, u64_or32, u64_or40, u64_or48, u64_or56]
  rw [hv]
  rfl
end Go.Proofs.YthjofgmiabcifabGreatDoor.Sq
namespace Go.Proofs.YthjofgmiabcifabGreatDoor.Sq
open Go Go.RowKit Go.Lib
theorem below_drewN {B : Nat} {a w : World} (h : Below B a w) : ∀ q, Below B a (w.drewN q)
  | 0 => h
  | q + 1 => (below_drewN h q).drew
set_option maxRecDepth 100000 in
theorem and7v : ∀ X : Fin 256, bits .and .u8 ((X.val : Nat) : Int) 7 = ((X.val % 8 : Nat) : Int) := by decide
/-- The rest behind k bytes. -/
theorem rest_of (t : ByteArray) (k : Nat) (a : Lib.Asc t k) (hk : k ≤ t.size) : ∃ t1, t.extract k t.size = t1 ∧ t1.size + k = t.size ∧ Lib.validD t1.data.toList = Lib.validD t.data.toList :=
  ⟨_, rfl, by rw [Lib.ext_size]; omega, Lib.valid_skip t k a⟩
/-- The word of eight bytes: its number, what it tells. -/
theorem word_at (t : ByteArray) (h : 8 ≤ t.size) : ∃ A : Nat, A < 18446744073709551616 ∧ (∀ W, CallsIn FF 0 Tryz.prog 111 #[.string t] W fun e w' => e = .returned (.int .u64 A) ∧ ∃ q, w' = W.drewN q) ∧ (A &&& 9259542123273814144 = 0 ↔ Lib.Asc t 8) :=
  ⟨_, Lib.word_lt t, fun W => word_in t W h, Lib.word_asc t h⟩
theorem and_mask (A : Nat) (h : A < 18446744073709551616) : ∃ Z : Nat, A &&& 9259542123273814144 = Z ∧ bits .and .u64 (A : Int) 9259542123273814144 = (Z : Int) := ⟨_, rfl, u64_and_nat A 9259542123273814144 h (by omega)⟩
theorem or_two (A B : Nat) (hA : A < 18446744073709551616) (hB : B < 18446744073709551616) : ∃ O : Nat, O < 18446744073709551616 ∧ A ||| B = O ∧ bits .or .u64 (A : Int) (B : Int) = (O : Int) :=
  ⟨_, Nat.or_lt_two_pow (n := 64) hA hB, rfl, u64_or_nat A B hA hB⟩
set_option maxHeartbeats 16000000 in
set_option maxRecDepth 1000000 in
theorem valid_in (s : ByteArray) (w : World) (hs : s.size ≤ 9223372036854775807) (hT : Lib.Utf8Tabs 0 1 w) : Gives 93 #[.string s] w (.bool (vs s)) := by
  have e111 : ∀ args w, (callFunc 111 args).run Tryz.prog w = .ok (.enter 111 args) w := enters_of Tryz.func111 (by kernel_rfl) rfl
  obtain ⟨ANS, hANS⟩ : ∃ ANS, vs s = ANS := ⟨_, rfl⟩
  rw [hANS]
  unfold vs at hANS
  gi_enter Tryz.func93, Tryz.ntmps93
  gi_wp2
  gi_loopg [0] (s.size + 1) (fun gk s0 wx => Below w.heap.size w wx ∧ ∃ t : ByteArray, s0 = .string t ∧ Lib.validD t.data.toList = ANS ∧ t.size < gk ∧ t.size ≤ 9223372036854775807)
  case atStart => exact ⟨Below.refl _ _, s, rfl, hANS, by omega, hs⟩
  case round =>
    obtain ⟨hbw, t, rfl, hv, hg, hts⟩ := hrel
    clear hANS
    have hTr := Utf8Tabs_below hT hbw
    by_cases h0 : 0 < t.size
    · obtain ⟨g', rfl⟩ : ∃ g', gk = g' + 1 := ⟨gk - 1, by omega⟩
      have h0z : (0 : Int) < (t.size : Int) := by omega
      obtain ⟨x0, hx0⟩ : ∃ x0, t.get! 0 = x0 := ⟨_, rfl⟩
      have hs0 : t[0]'(by omega) = x0 := by rw [← hx0]; exact (Utf8W.get!_of_lt t 0 (by omega)).symm
      have hx0lt : x0.toNat < 256 := x0.toNat_lt
      by_cases hasc : x0.toNat < 128
      · as_aux_lemma =>
        have hascz : (x0.toNat : Int) < 128 := by omega
        obtain ⟨t1, ht1, z1, v1⟩ := rest_of t 1 (Lib.asc_one t h0 (by rw [hx0]; exact hasc)) h0
        rw [hv] at v1
        clear hTr hT hv
        by_cases c8 : 8 < t1.size
        · have c8z : (8 : Int) < (t1.size : Int) := by omega
          obtain ⟨A1, lA1, cW1, kA1⟩ := word_at t1 (by omega)
          obtain ⟨Z1, hZ1, hand1⟩ := and_mask A1 lA1
          rw [hZ1] at kA1
          by_cases hz1 : Z1 = 0
          · have hz1b : ((Z1 : Int) == 0) = true := by simp [hz1]
            obtain ⟨t2, ht2, z2, v2⟩ := rest_of t1 8 (kA1.1 hz1) (by omega)
            rw [v1] at v2
            clear kA1 v1
            gi_wp2_with (gi_at_call 111; refine CallsIn.mono (cW1 _) ?_; rintro e W1 ⟨rfl, q1, rfl⟩)
            have hb1 : Below w.heap.size w (wr.drewN q1) := below_drewN hbw q1
            generalize wr.drewN q1 = wq at hb1 ⊢
            clear cW1 hbw
            by_cases c16 : 16 < t2.size
            · have c16z : (16 : Int) < (t2.size : Int) := by omega
              have s8z : (8 : Int) ≤ (t2.size : Int) := by omega
              obtain ⟨t2b, ht2b⟩ : ∃ t2b, t2.extract 8 t2.size = t2b := ⟨_, rfl⟩
              have z2b : t2b.size + 8 = t2.size := by rw [← ht2b, Lib.ext_size]; omega
              obtain ⟨A2, lA2, cW2, kA2⟩ := word_at t2 (by omega)
              obtain ⟨A3, lA3, cW3, kA3⟩ := word_at t2b (by omega)
              obtain ⟨O2, lO2, hO2, hor2⟩ := or_two A2 A3 lA2 lA3
              obtain ⟨Z2, hZ2, hand2⟩ := and_mask O2 lO2
              by_cases hz2 : Z2 = 0
              · have hz2b : ((Z2 : Int) == 0) = true := by simp [hz2]
                have a16 : Lib.Asc t2 16 := by
                  obtain ⟨e1, e2⟩ := (Lib.or_mask A2 A3 _).1 (by rw [hO2, hZ2]; exact hz2)
                  exact Lib.asc_add t2 8 8 (kA2.1 e1) (by rw [ht2b]; exact kA3.1 e2)
                obtain ⟨t3, ht3, z3, v3⟩ := rest_of t2 16 a16 (by omega)
                rw [v2] at v3
                clear kA2 kA3 a16 v2 hO2 hZ2
                gi_big_quiet_th (first | (gi_at_call 111; with_reducible refine CallsIn.quiet_of (cW2 _)) | (gi_at_call 111; with_reducible refine CallsIn.quiet_of (cW3 _)))
                have hb2 : Below w.heap.size w (wq.drewN nq) := below_drewN hb1 nq
                generalize wq.drewN nq = wq2 at hb2 ⊢
                clear cW2 cW3 hb1
                gi_wp2
                gi_loopg [0] (t3.size + 1) (fun g2 s0 wx => Below w.heap.size w wx ∧ ∃ u : ByteArray, s0 = .string u ∧ Lib.validD u.data.toList = ANS ∧ u.size < g2 ∧ u.size ≤ t3.size)
                case atStart => exact ⟨hb2, t3, rfl, v3, by omega, Nat.le_refl _⟩
                case round =>
                  obtain ⟨hbu, u, rfl, vu, hgu, hut⟩ := hrel
                  by_cases c32 : 32 < u.size
                  · obtain ⟨g3, rfl⟩ : ∃ g3, gk = g3 + 1 := ⟨gk - 1, by omega⟩
                    have c32z : (32 : Int) < (u.size : Int) := by omega
                    have s8u : (8 : Int) ≤ (u.size : Int) := by omega
                    have s16u : (16 : Int) ≤ (u.size : Int) := by omega
                    have s24u : (24 : Int) ≤ (u.size : Int) := by omega
                    obtain ⟨ub, hub⟩ : ∃ ub, u.extract 8 u.size = ub := ⟨_, rfl⟩
                    have zub : ub.size + 8 = u.size := by rw [← hub, Lib.ext_size]; omega
                    obtain ⟨uc, huc⟩ : ∃ uc, u.extract 16 u.size = uc := ⟨_, rfl⟩
                    have zuc : uc.size + 16 = u.size := by rw [← huc, Lib.ext_size]; omega
                    obtain ⟨ud, hud⟩ : ∃ ud, u.extract 24 u.size = ud := ⟨_, rfl⟩
                    have zud : ud.size + 24 = u.size := by rw [← hud, Lib.ext_size]; omega
                    obtain ⟨B0, lB0, cB0, kB0⟩ := word_at u (by omega)
                    obtain ⟨B1, lB1, cB1, kB1⟩ := word_at ub (by omega)
                    obtain ⟨B2, lB2, cB2, kB2⟩ := word_at uc (by omega)
                    obtain ⟨B3, lB3, cB3, kB3⟩ := word_at ud (by omega)
                    obtain ⟨P1, lP1, hP1, ho1⟩ := or_two B0 B1 lB0 lB1
                    obtain ⟨P2, lP2, hP2, ho2⟩ := or_two B2 B3 lB2 lB3
                    obtain ⟨P3, lP3, hP3, ho3⟩ := or_two P1 P2 lP1 lP2
                    obtain ⟨Z3, hZ3, hand3⟩ := and_mask P3 lP3
                    have k3 : Z3 = 0 → Lib.Asc u 32 := fun h0' => by
                      obtain ⟨e01, e23⟩ := (Lib.or_mask P1 P2 9259542123273814144).1 (by rw [hP3, hZ3]; exact h0')
                      obtain ⟨e0, e1⟩ := (Lib.or_mask B0 B1 9259542123273814144).1 (by rw [hP1]; exact e01)
                      obtain ⟨e2, e3⟩ := (Lib.or_mask B2 B3 9259542123273814144).1 (by rw [hP2]; exact e23)
                      have s16 : Lib.Asc u 16 := Lib.asc_add u 8 8 (kB0.1 e0) (by rw [hub]; exact kB1.1 e1)
                      have s24 : Lib.Asc u 24 := Lib.asc_add u 16 8 s16 (by rw [huc]; exact kB2.1 e2)
                      exact Lib.asc_add u 24 8 s24 (by rw [hud]; exact kB3.1 e3)
                    clear kB0 kB1 kB2 kB3 lP1 lP2 lP3 hP1 hP2 hP3 hZ3
                    by_cases hz3 : Z3 = 0
                    · have hz3b : ((Z3 : Int) == 0) = true := by simp [hz3]
                      obtain ⟨u2, hu2, zu2, vu2⟩ := rest_of u 32 (k3 hz3) (by omega)
                      rw [vu] at vu2
                      gi_wp2_with fail
                      gi_big_quiet_th (first | (gi_at_call 111; with_reducible refine CallsIn.quiet_of (cB0 _)) | (gi_at_call 111; with_reducible refine CallsIn.quiet_of (cB1 _)) | (gi_at_call 111; with_reducible refine CallsIn.quiet_of (cB2 _)) | (gi_at_call 111; with_reducible refine CallsIn.quiet_of (cB3 _)))
                      gi_wp2
                      gi_roundg g3
                      case measure => omega
                      case rel => exact ⟨below_drewN hbu nq, u2, rfl, vu2, by omega, by omega⟩
                    · have hz3b : ((Z3 : Int) == 0) = false := by simp; omega
                      gi_wp2_with fail
                      gi_big_quiet_th (first | (gi_at_call 111; with_reducible refine CallsIn.quiet_of (cB0 _)) | (gi_at_call 111; with_reducible refine CallsIn.quiet_of (cB1 _)) | (gi_at_call 111; with_reducible refine CallsIn.quiet_of (cB2 _)) | (gi_at_call 111; with_reducible refine CallsIn.quiet_of (cB3 _)))
                      gi_wp2
                      gi_roundg g'
                      case measure => omega
                      case rel => exact ⟨below_drewN hbu nq, u, rfl, vu, by omega, by omega⟩
                  · have c32z : ¬ ((32 : Int) < (u.size : Int)) := by omega
                    have c32b : decide ((32 : Int) < (u.size : Int)) = false := decide_eq_false c32z
                    gi_wp2_with fail
                    gi_big_quiet_th (fail)
                    gi_wp2
                    gi_roundg g'
                    case measure => omega
                    case rel => exact ⟨below_drewN hbu nq, u, rfl, vu, by omega, by omega⟩
              · have hz2b : ((Z2 : Int) == 0) = false := by simp; omega
                gi_big_quiet_th (first | (gi_at_call 111; with_reducible refine CallsIn.quiet_of (cW2 _)) | (gi_at_call 111; with_reducible refine CallsIn.quiet_of (cW3 _)))
                gi_wp2
                gi_roundg g'
                case measure => omega
                case rel => exact ⟨below_drewN hb1 nq, t2, rfl, v2, by omega, by omega⟩
            · have c16z : ¬ ((16 : Int) < (t2.size : Int)) := by omega
              have c16b : decide ((16 : Int) < (t2.size : Int)) = false := decide_eq_false c16z
              gi_big_quiet_th (fail)
              gi_wp2
              gi_roundg g'
              case measure => omega
              case rel => exact ⟨below_drewN hb1 nq, t2, rfl, v2, by omega, by omega⟩
          · have hz1b : ((Z1 : Int) == 0) = false := by simp; omega
            gi_wp2_with (gi_at_call 111; refine CallsIn.mono (cW1 _) ?_; rintro e W1 ⟨rfl, q1, rfl⟩)
            gi_roundg g'
            case measure => omega
            case rel => exact ⟨below_drewN hbw q1, t1, rfl, v1, by omega, by omega⟩
        · have c8z : ¬ ((8 : Int) < (t1.size : Int)) := by omega
          gi_wp2
          gi_roundg g'
          case measure => omega
          case rel => exact ⟨hbw, t1, rfl, v1, by omega, by omega⟩
      · have hge : 128 ≤ x0.toNat := by omega
        have hascz : ¬ ((x0.toNat : Int) < 128) := by omega
        obtain ⟨x1, hx1⟩ : ∃ x1, t.get! 1 = x1 := ⟨_, rfl⟩
        obtain ⟨x2, hx2⟩ : ∃ x2, t.get! 2 = x2 := ⟨_, rfl⟩
        obtain ⟨x3, hx3⟩ : ∃ x3, t.get! 3 = x3 := ⟨_, rfl⟩
        have l1 := x1.toNat_lt; have l2 := x2.toNat_lt; have l3 := x3.toNat_lt
        have hne : t.data.toList ≠ [] := fun h => by rw [Lib.size_eq, h] at h0; simp at h0
        have gd : ∀ i, t.data.toList.getD i 0 = t.get! i := Lib.getD_get!' t
        have hlead := Lib.validD_lead t.data.toList hne (by rw [gd, hx0]; exact hge)
        rw [gd, gd, gd, gd, hx0, hx1, hx2, hx3, ← Lib.size_eq, hv] at hlead
        have hc0 := hTr.1 x0.toNat hx0lt
        have hXlt : Lib.firstT x0.toNat < 256 := by rcases Lib.firstT_cases x0.toNat with h | h | h | h | h | h | h | h | h <;> omega
        obtain ⟨X, hX⟩ : ∃ X, Lib.firstT x0.toNat = X := ⟨_, rfl⟩
        rw [hX] at hc0 hXlt hlead
        have h7 := and7v ⟨X, hXlt⟩
        simp only at h7
        have ha0 : wr.cell? ⟨1, X / 16 * 2, none⟩ = some (.int .u8 (Lib.accLo (X / 16))) := by rw [Nat.mul_comm]; exact (hTr.2 (X / 16) (by omega)).1
        have ha1 : wr.cell? ⟨1, X / 16 * 2 + 1, none⟩ = some (.int .u8 (Lib.accHi (X / 16))) := by rw [Nat.mul_comm]; exact (hTr.2 (X / 16) (by omega)).2
        obtain ⟨LO, hLO⟩ : ∃ LO, Lib.accLo (X / 16) = LO := ⟨_, rfl⟩
        obtain ⟨HI, hHI⟩ : ∃ HI, Lib.accHi (X / 16) = HI := ⟨_, rfl⟩
        rw [hLO] at ha0 hlead
        rw [hHI] at ha1 hlead
        obtain ⟨SZ, hSZ⟩ : ∃ SZ, X % 8 = SZ := ⟨_, rfl⟩
        rw [hSZ] at hlead
        clear hTr hT hX hv hLO hHI hne gd
        by_cases s2 : SZ = 2
        · as_aux_lemma =>
          subst s2
          have hSZz : (X : Int) % 8 = 2 := by omega
          simp only [Lib.checkN, Nat.reduceEqDiff, if_true, if_false] at hlead
          gi_upto_region 17 with fail
          gi_cut [94] from 78 (fun c wx => c = .bool (decide (t.size < 2 ∨ x1.toNat < LO ∨ HI < x1.toNat)) ∧ Below w.heap.size w wx)
          case first =>
            by_cases q0 : t.size < 2
            · have q0z : (t.size : Int) < 2 := by omega
              gi_big_quiet_th (fail)
              gi_wp2
              gi_meet
              case rel => exact ⟨congrArg Value.bool (decide_eq_true (p := t.size < 2 ∨ x1.toNat < LO ∨ HI < x1.toNat) (by omega)).symm, below_drewN (hbw.alloc hbw.size _) _⟩
            · have q0z : ¬ ((t.size : Int) < 2) := by omega
              have hz1 : (1 : Int) < (t.size : Int) := by omega
              have hp1 : 1 < t.size := by omega
              have hs1 : t[1]'(by omega) = x1 := by rw [← hx1]; exact (Utf8W.get!_of_lt t 1 (by omega)).symm
              by_cases q1 : x1.toNat < LO
              · have q1z : (x1.toNat : Int) < (LO : Int) := by omega
                gi_big_quiet_th (fail)
                gi_wp2
                gi_meet
                case rel => exact ⟨congrArg Value.bool (decide_eq_true (p := t.size < 2 ∨ x1.toNat < LO ∨ HI < x1.toNat) (by omega)).symm, below_drewN (hbw.alloc hbw.size _) _⟩
              · have q1z : ¬ ((x1.toNat : Int) < (LO : Int)) := by omega
                by_cases q2 : HI < x1.toNat
                · have q2z : (HI : Int) < (x1.toNat : Int) := by omega
                  gi_big_quiet_th (fail)
                  gi_wp2
                  gi_meet
                  case rel => exact ⟨congrArg Value.bool (decide_eq_true (p := t.size < 2 ∨ x1.toNat < LO ∨ HI < x1.toNat) (by omega)).symm, below_drewN (hbw.alloc hbw.size _) _⟩
                · have q2z : ¬ ((HI : Int) < (x1.toNat : Int)) := by omega
                  gi_big_quiet_th (fail)
                  gi_wp2
                  gi_meet
                  case rel => exact ⟨congrArg Value.bool (decide_eq_false (p := t.size < 2 ∨ x1.toNat < LO ∨ HI < x1.toNat) (by omega)).symm, below_drewN (hbw.alloc hbw.size _) _⟩
          case rest =>
            obtain ⟨rfl, hbc⟩ := hcut
            by_cases hb : t.size < 2 ∨ x1.toNat < LO ∨ HI < x1.toNat
            · have hbd : decide (t.size < 2 ∨ x1.toNat < LO ∨ HI < x1.toNat) = true := decide_eq_true hb
              rw [if_pos hb] at hlead
              gi_wp2
              all_goals (go_ret; exact ⟨by first | rfl | rw [hlead], hbc⟩)
            · have hbd : decide (t.size < 2 ∨ x1.toNat < LO ∨ HI < x1.toNat) = false := decide_eq_false hb
              rw [if_neg hb] at hlead
              gi_wp2
              gi_roundg g'
              case measure => omega
              case rel => exact ⟨hbc, _, rfl, by rw [Lib.ext_list, hlead], by rw [Lib.ext_size]; omega, by rw [Lib.ext_size]; omega⟩
        by_cases s3 : SZ = 3
        · as_aux_lemma =>
          subst s3
          have hSZz : (X : Int) % 8 = 3 := by omega
          simp only [Lib.checkN, Nat.reduceEqDiff, if_true, if_false] at hlead
          gi_upto_region 21 with fail
          gi_cut [125] from 99 (fun c wx => c = .bool (decide (t.size < 3 ∨ x1.toNat < LO ∨ HI < x1.toNat ∨ x2.toNat < 128 ∨ 191 < x2.toNat)) ∧ Below w.heap.size w wx)
          case first =>
            by_cases q0 : t.size < 3
            · have q0z : (t.size : Int) < 3 := by omega
              gi_big_quiet_th (fail)
              gi_wp2
              gi_meet
              case rel => exact ⟨congrArg Value.bool (decide_eq_true (p := t.size < 3 ∨ x1.toNat < LO ∨ HI < x1.toNat ∨ x2.toNat < 128 ∨ 191 < x2.toNat) (by omega)).symm, below_drewN (hbw.alloc hbw.size _) _⟩
            · have q0z : ¬ ((t.size : Int) < 3) := by omega
              have hz1 : (1 : Int) < (t.size : Int) := by omega
              have hp1 : 1 < t.size := by omega
              have hs1 : t[1]'(by omega) = x1 := by rw [← hx1]; exact (Utf8W.get!_of_lt t 1 (by omega)).symm
              have hz2 : (2 : Int) < (t.size : Int) := by omega
              have hp2 : 2 < t.size := by omega
              have hs2 : t[2]'(by omega) = x2 := by rw [← hx2]; exact (Utf8W.get!_of_lt t 2 (by omega)).symm
              by_cases q1 : x1.toNat < LO
              · have q1z : (x1.toNat : Int) < (LO : Int) := by omega
                gi_big_quiet_th (fail)
                gi_wp2
                gi_meet
                case rel => exact ⟨congrArg Value.bool (decide_eq_true (p := t.size < 3 ∨ x1.toNat < LO ∨ HI < x1.toNat ∨ x2.toNat < 128 ∨ 191 < x2.toNat) (by omega)).symm, below_drewN (hbw.alloc hbw.size _) _⟩
              · have q1z : ¬ ((x1.toNat : Int) < (LO : Int)) := by omega
                by_cases q2 : HI < x1.toNat
                · have q2z : (HI : Int) < (x1.toNat : Int) := by omega
                  gi_big_quiet_th (fail)
                  gi_wp2
                  gi_meet
                  case rel => exact ⟨congrArg Value.bool (decide_eq_true (p := t.size < 3 ∨ x1.toNat < LO ∨ HI < x1.toNat ∨ x2.toNat < 128 ∨ 191 < x2.toNat) (by omega)).symm, below_drewN (hbw.alloc hbw.size _) _⟩
                · have q2z : ¬ ((HI : Int) < (x1.toNat : Int)) := by omega
                  by_cases q3 : x2.toNat < 128
                  · have q3z : (x2.toNat : Int) < 128 := by omega
                    gi_big_quiet_th (fail)
                    gi_wp2
                    gi_meet
                    case rel => exact ⟨congrArg Value.bool (decide_eq_true (p := t.size < 3 ∨ x1.toNat < LO ∨ HI < x1.toNat ∨ x2.toNat < 128 ∨ 191 < x2.toNat) (by omega)).symm, below_drewN (hbw.alloc hbw.size _) _⟩
                  · have q3z : ¬ ((x2.toNat : Int) < 128) := by omega
                    by_cases q4 : 191 < x2.toNat
                    · have q4z : (191 : Int) < (x2.toNat : Int) := by omega
                      gi_big_quiet_th (fail)
                      gi_wp2
                      gi_meet
                      case rel => exact ⟨congrArg Value.bool (decide_eq_true (p := t.size < 3 ∨ x1.toNat < LO ∨ HI < x1.toNat ∨ x2.toNat < 128 ∨ 191 < x2.toNat) (by omega)).symm, below_drewN (hbw.alloc hbw.size _) _⟩
                    · have q4z : ¬ ((191 : Int) < (x2.toNat : Int)) := by omega
                      gi_big_quiet_th (fail)
                      gi_wp2
                      gi_meet
                      case rel => exact ⟨congrArg Value.bool (decide_eq_false (p := t.size < 3 ∨ x1.toNat < LO ∨ HI < x1.toNat ∨ x2.toNat < 128 ∨ 191 < x2.toNat) (by omega)).symm, below_drewN (hbw.alloc hbw.size _) _⟩
          case rest =>
            obtain ⟨rfl, hbc⟩ := hcut
            by_cases hb : t.size < 3 ∨ x1.toNat < LO ∨ HI < x1.toNat ∨ x2.toNat < 128 ∨ 191 < x2.toNat
            · have hbd : decide (t.size < 3 ∨ x1.toNat < LO ∨ HI < x1.toNat ∨ x2.toNat < 128 ∨ 191 < x2.toNat) = true := decide_eq_true hb
              rw [if_pos hb] at hlead
              gi_wp2
              all_goals (go_ret; exact ⟨by first | rfl | rw [hlead], hbc⟩)
            · have hbd : decide (t.size < 3 ∨ x1.toNat < LO ∨ HI < x1.toNat ∨ x2.toNat < 128 ∨ 191 < x2.toNat) = false := decide_eq_false hb
              rw [if_neg hb] at hlead
              gi_wp2
              gi_roundg g'
              case measure => omega
              case rel => exact ⟨hbc, _, rfl, by rw [Lib.ext_list, hlead], by rw [Lib.ext_size]; omega, by rw [Lib.ext_size]; omega⟩
        by_cases s4 : SZ = 4
        · as_aux_lemma =>
          subst s4
          have hSZz : (X : Int) % 8 = 4 := by omega
          simp only [Lib.checkN, Nat.reduceEqDiff, if_true, if_false] at hlead
          gi_upto_region 25 with fail
          gi_cut [166] from 130 (fun c wx => c = .bool (decide (t.size < 4 ∨ x1.toNat < LO ∨ HI < x1.toNat ∨ x2.toNat < 128 ∨ 191 < x2.toNat ∨ x3.toNat < 128 ∨ 191 < x3.toNat)) ∧ Below w.heap.size w wx)
          case first =>
            by_cases q0 : t.size < 4
            · have q0z : (t.size : Int) < 4 := by omega
              gi_big_quiet_th (fail)
              gi_wp2
              gi_meet
              case rel => exact ⟨congrArg Value.bool (decide_eq_true (p := t.size < 4 ∨ x1.toNat < LO ∨ HI < x1.toNat ∨ x2.toNat < 128 ∨ 191 < x2.toNat ∨ x3.toNat < 128 ∨ 191 < x3.toNat) (by omega)).symm, below_drewN (hbw.alloc hbw.size _) _⟩
            · have q0z : ¬ ((t.size : Int) < 4) := by omega
              have hz1 : (1 : Int) < (t.size : Int) := by omega
              have hp1 : 1 < t.size := by omega
              have hs1 : t[1]'(by omega) = x1 := by rw [← hx1]; exact (Utf8W.get!_of_lt t 1 (by omega)).symm
              have hz2 : (2 : Int) < (t.size : Int) := by omega
              have hp2 : 2 < t.size := by omega
              have hs2 : t[2]'(by omega) = x2 := by rw [← hx2]; exact (Utf8W.get!_of_lt t 2 (by omega)).symm
              have hz3 : (3 : Int) < (t.size : Int) := by omega
              have hp3 : 3 < t.size := by omega
              have hs3 : t[3]'(by omega) = x3 := by rw [← hx3]; exact (Utf8W.get!_of_lt t 3 (by omega)).symm
              by_cases q1 : x1.toNat < LO
              · have q1z : (x1.toNat : Int) < (LO : Int) := by omega
                gi_big_quiet_th (fail)
                gi_wp2
                gi_meet
                case rel => exact ⟨congrArg Value.bool (decide_eq_true (p := t.size < 4 ∨ x1.toNat < LO ∨ HI < x1.toNat ∨ x2.toNat < 128 ∨ 191 < x2.toNat ∨ x3.toNat < 128 ∨ 191 < x3.toNat) (by omega)).symm, below_drewN (hbw.alloc hbw.size _) _⟩
              · have q1z : ¬ ((x1.toNat : Int) < (LO : Int)) := by omega
                by_cases q2 : HI < x1.toNat
                · have q2z : (HI : Int) < (x1.toNat : Int) := by omega
                  gi_big_quiet_th (fail)
                  gi_wp2
                  gi_meet
                  case rel => exact ⟨congrArg Value.bool (decide_eq_true (p := t.size < 4 ∨ x1.toNat < LO ∨ HI < x1.toNat ∨ x2.toNat < 128 ∨ 191 < x2.toNat ∨ x3.toNat < 128 ∨ 191 < x3.toNat) (by omega)).symm, below_drewN (hbw.alloc hbw.size _) _⟩
                · have q2z : ¬ ((HI : Int) < (x1.toNat : Int)) := by omega
                  by_cases q3 : x2.toNat < 128
                  · have q3z : (x2.toNat : Int) < 128 := by omega
                    gi_big_quiet_th (fail)
                    gi_wp2
                    gi_meet
                    case rel => exact ⟨congrArg Value.bool (decide_eq_true (p := t.size < 4 ∨ x1.toNat < LO ∨ HI < x1.toNat ∨ x2.toNat < 128 ∨ 191 < x2.toNat ∨ x3.toNat < 128 ∨ 191 < x3.toNat) (by omega)).symm, below_drewN (hbw.alloc hbw.size _) _⟩
                  · have q3z : ¬ ((x2.toNat : Int) < 128) := by omega
                    by_cases q4 : 191 < x2.toNat
                    · have q4z : (191 : Int) < (x2.toNat : Int) := by omega
                      gi_big_quiet_th (fail)
                      gi_wp2
                      gi_meet
                      case rel => exact ⟨congrArg Value.bool (decide_eq_true (p := t.size < 4 ∨ x1.toNat < LO ∨ HI < x1.toNat ∨ x2.toNat < 128 ∨ 191 < x2.toNat ∨ x3.toNat < 128 ∨ 191 < x3.toNat) (by omega)).symm, below_drewN (hbw.alloc hbw.size _) _⟩
                    · have q4z : ¬ ((191 : Int) < (x2.toNat : Int)) := by omega
                      by_cases q5 : x3.toNat < 128
                      · have q5z : (x3.toNat : Int) < 128 := by omega
                        gi_big_quiet_th (fail)
                        gi_wp2
                        gi_meet
                        case rel => exact ⟨congrArg Value.bool (decide_eq_true (p := t.size < 4 ∨ x1.toNat < LO ∨ HI < x1.toNat ∨ x2.toNat < 128 ∨ 191 < x2.toNat ∨ x3.toNat < 128 ∨ 191 < x3.toNat) (by omega)).symm, below_drewN (hbw.alloc hbw.size _) _⟩
                      · have q5z : ¬ ((x3.toNat : Int) < 128) := by omega
                        by_cases q6 : 191 < x3.toNat
                        · have q6z : (191 : Int) < (x3.toNat : Int) := by omega
                          gi_big_quiet_th (fail)
                          gi_wp2
                          gi_meet
                          case rel => exact ⟨congrArg Value.bool (decide_eq_true (p := t.size < 4 ∨ x1.toNat < LO ∨ HI < x1.toNat ∨ x2.toNat < 128 ∨ 191 < x2.toNat ∨ x3.toNat < 128 ∨ 191 < x3.toNat) (by omega)).symm, below_drewN (hbw.alloc hbw.size _) _⟩
                        · have q6z : ¬ ((191 : Int) < (x3.toNat : Int)) := by omega
                          gi_big_quiet_th (fail)
                          gi_wp2
                          gi_meet
                          case rel => exact ⟨congrArg Value.bool (decide_eq_false (p := t.size < 4 ∨ x1.toNat < LO ∨ HI < x1.toNat ∨ x2.toNat < 128 ∨ 191 < x2.toNat ∨ x3.toNat < 128 ∨ 191 < x3.toNat) (by omega)).symm, below_drewN (hbw.alloc hbw.size _) _⟩
          case rest =>
            obtain ⟨rfl, hbc⟩ := hcut
            by_cases hb : t.size < 4 ∨ x1.toNat < LO ∨ HI < x1.toNat ∨ x2.toNat < 128 ∨ 191 < x2.toNat ∨ x3.toNat < 128 ∨ 191 < x3.toNat
            · have hbd : decide (t.size < 4 ∨ x1.toNat < LO ∨ HI < x1.toNat ∨ x2.toNat < 128 ∨ 191 < x2.toNat ∨ x3.toNat < 128 ∨ 191 < x3.toNat) = true := decide_eq_true hb
              rw [if_pos hb] at hlead
              gi_wp2
              all_goals (go_ret; exact ⟨by first | rfl | rw [hlead], hbc⟩)
            · have hbd : decide (t.size < 4 ∨ x1.toNat < LO ∨ HI < x1.toNat ∨ x2.toNat < 128 ∨ 191 < x2.toNat ∨ x3.toNat < 128 ∨ 191 < x3.toNat) = false := decide_eq_false hb
              rw [if_neg hb] at hlead
              gi_wp2
              gi_roundg g'
              case measure => omega
              case rel => exact ⟨hbc, _, rfl, by rw [Lib.ext_list, hlead], by rw [Lib.ext_size]; omega, by rw [Lib.ext_size]; omega⟩
        · have e2 : ¬ ((X : Int) % 8 = 2) := by omega
          have e3 : ¬ ((X : Int) % 8 = 3) := by omega
          have e4 : ¬ ((X : Int) % 8 = 4) := by omega
          have e2b : (((X : Int) % 8) == 2) = false := by simp; omega
          have e3b : (((X : Int) % 8) == 3) = false := by simp; omega
          have e4b : (((X : Int) % 8) == 4) = false := by simp; omega
          simp only [Lib.checkN, s2, s3, s4, if_false] at hlead
          gi_wp2
          all_goals (go_ret; exact ⟨by first | rfl | rw [hlead], hbw.alloc hbw.size _⟩)
    · have h0z : ¬ ((0 : Int) < (t.size : Int)) := by omega
      have ht0 : t.data.toList = [] := List.eq_nil_of_length_eq_zero (by rw [← Lib.size_eq]; omega)
      rw [ht0, Lib.validD_nil] at hv
      subst hv
      gi_wp2
      go_ret
      exact ⟨rfl, hbw⟩
end Go.Proofs.YthjofgmiabcifabGreatDoor.Sq
