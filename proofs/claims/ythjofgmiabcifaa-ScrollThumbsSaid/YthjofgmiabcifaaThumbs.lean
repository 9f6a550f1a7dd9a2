/-
  The Go function casementlaw22.ScrollThumbs returns true for every four ints (what scroll.Thumb answers is what casementref22.Thumb answers), and its arguments read afterwards as they read before.
  Conditions: none.
  The frame was written by the kit's program proof-skeleton.mjs; the contracts of both functions and the walk are this claim's own.
-/
import Derived.Test.YthjofgmiabcifaaRows
import Derived.WalkKit
import Derived.ProofKit
import Derived.OpenShut
import Derived.WalkLawsBesides
import Derived.WalkSpells
namespace Go.Proofs.Ythjofgmiabcifaa.scrollThumbs
open Go.ChangeShapes Go.WideShapes Go.ChangeAt Go.RowKit
set_option linter.unusedVariables false      -- a walk need not use every 'w<i>' (that an integer argument fits its kind)

theorem own : ownKnob Try.prog.godebug = none := by kernel_rfl

/-- The thumb's length, and where it lies, as both texts reckon them. -/
def qq (a0 a1 a3 : Int) : Int := wrap64 ((wrap64 (a3 * a1)).tdiv a0)
def sz (a0 a1 a3 : Int) : Int := if 1 < qq a0 a1 a3 then qq a0 a1 a3 else 1
def mn (a0 a1 a2 : Int) : Int := if a2 ≤ a0 - a1 then a2 else a0 - a1
def st (a0 a1 a2 a3 : Int) : Int := wrap64 ((wrap64 (wrap64 (a3 - sz a0 a1 a3) * mn a0 a1 a2)).tdiv (a0 - a1))

theorem sz_pos {a0 a1 a3 : Int} (h : 1 < wrap64 ((wrap64 (a3 * a1)).tdiv a0)) : sz a0 a1 a3 = wrap64 ((wrap64 (a3 * a1)).tdiv a0) := if_pos h
theorem sz_neg {a0 a1 a3 : Int} (h : wrap64 ((wrap64 (a3 * a1)).tdiv a0) ≤ 1) : sz a0 a1 a3 = 1 := if_neg (by unfold qq; omega)
theorem mn_pos {a0 a1 a2 : Int} (h : a2 ≤ a0 - a1) : mn a0 a1 a2 = a2 := if_pos h
theorem mn_neg {a0 a1 a2 : Int} (h : a0 - a1 < a2) : mn a0 a1 a2 = a0 - a1 := if_neg (by omega)

theorem ret3 {a b a' b' c c' : Int} (h1 : a = a') (h2 : b = b') (h3 : c = c') :
    Ending.returned (.tuple #[.int .i64 a, .int .i64 b, .int .i64 c]) = .returned (.tuple #[.int .i64 a', .int .i64 b', .int .i64 c']) := by rw [h1, h2, h3]

set_option maxHeartbeats 1000000 in
theorem prog_small (a0 a1 a2 a3 : Int) (h0 : 0 ≤ a0) (h0' : a0 ≤ 1048576) (h1 : 0 ≤ a1) (h1' : a1 ≤ 1048576) (h2 : 0 ≤ a2) (h2' : a2 ≤ 1048576) (h3 : 1 ≤ a3) (h3' : a3 ≤ 16384) (hs : a1 < a0) (w : World) :
    Calls Try.prog 4 #[.int .i64 a0, .int .i64 a1, .int .i64 a2, .int .i64 a3] w fun e w' => e = .returned (.tuple #[.int .i64 (st a0 a1 a2 a3), .int .i64 (sz a0 a1 a3), .int .i64 0]) ∧ w = w' := by
  go_enter Try.func4, Try.ntmps4
  go_wp2
  all_goals
    go_ret3
    refine ⟨ret3 ?_ ?_ rfl, rfl⟩
    · unfold st
      first | rw [sz_pos (by assumption)] | rw [sz_neg (by assumption)]
      first | rw [mn_pos (by omega)] | rw [mn_neg (by omega)]
    · first | rw [sz_pos (by assumption)] | rw [sz_neg (by assumption)]

set_option maxHeartbeats 1000000 in
theorem ref_small (a0 a1 a2 a3 : Int) (h0 : 0 ≤ a0) (h0' : a0 ≤ 1048576) (h1 : 0 ≤ a1) (h1' : a1 ≤ 1048576) (h2 : 0 ≤ a2) (h2' : a2 ≤ 1048576) (h3 : 1 ≤ a3) (h3' : a3 ≤ 16384) (hs : a1 < a0) (w : World) :
    Calls Try.prog 5 #[.int .i64 a0, .int .i64 a1, .int .i64 a2, .int .i64 a3] w fun e w' => e = .returned (.tuple #[.int .i64 (st a0 a1 a2 a3), .int .i64 (sz a0 a1 a3), .int .i64 0]) ∧ w = w' := by
  go_enter Try.func5, Try.ntmps5
  go_wp2
  all_goals
    go_ret3
    refine ⟨ret3 ?_ ?_ rfl, rfl⟩
    · unfold st
      first | rw [sz_pos (by assumption)] | rw [sz_neg (by assumption)]
      first | rw [mn_pos (by omega)] | rw [mn_neg (by omega)]
    · first | rw [sz_pos (by assumption)] | rw [sz_neg (by assumption)]

set_option maxHeartbeats 1000000 in
theorem prog_full (a0 a1 a2 a3 : Int) (h0 : 0 ≤ a0) (h0' : a0 ≤ 1048576) (h1 : 0 ≤ a1) (h1' : a1 ≤ 1048576) (h2 : 0 ≤ a2) (h2' : a2 ≤ 1048576) (h3 : 1 ≤ a3) (h3' : a3 ≤ 16384) (hs : a0 ≤ a1) (w : World) :
    Calls Try.prog 4 #[.int .i64 a0, .int .i64 a1, .int .i64 a2, .int .i64 a3] w fun e w' => e = .returned (.tuple #[.int .i64 0, .int .i64 a3, .int .i64 0]) ∧ w = w' := by
  go_enter Try.func4, Try.ntmps4
  go_wp2
  all_goals
    go_ret3
    exact ⟨rfl, rfl⟩

set_option maxHeartbeats 1000000 in
theorem ref_full (a0 a1 a2 a3 : Int) (h0 : 0 ≤ a0) (h0' : a0 ≤ 1048576) (h1 : 0 ≤ a1) (h1' : a1 ≤ 1048576) (h2 : 0 ≤ a2) (h2' : a2 ≤ 1048576) (h3 : 1 ≤ a3) (h3' : a3 ≤ 16384) (hs : a0 ≤ a1) (w : World) :
    Calls Try.prog 5 #[.int .i64 a0, .int .i64 a1, .int .i64 a2, .int .i64 a3] w fun e w' => e = .returned (.tuple #[.int .i64 0, .int .i64 a3, .int .i64 0]) ∧ w = w' := by
  go_enter Try.func5, Try.ntmps5
  go_wp2
  all_goals
    go_ret3
    exact ⟨rfl, rfl⟩

/-- Some number is out of its bounds. -/
def Bad (a0 a1 a2 a3 : Int) : Prop := a0 < 0 ∨ 1048576 < a0 ∨ a1 < 0 ∨ 1048576 < a1 ∨ a2 < 0 ∨ 1048576 < a2 ∨ a3 < 1 ∨ 16384 < a3

set_option maxHeartbeats 2000000 in
theorem prog_bad (a0 a1 a2 a3 : Int) (hb : Bad a0 a1 a2 a3) (w : World) :
    Calls Try.prog 4 #[.int .i64 a0, .int .i64 a1, .int .i64 a2, .int .i64 a3] w fun e w' => e = .returned (.tuple #[.int .i64 0, .int .i64 0, .int .i64 2]) ∧ w = w' := by
  have HB : Hid (Bad a0 a1 a2 a3) := hb
  clear hb
  go_enter Try.func4, Try.ntmps4
  go_wp2
  all_goals first
    | (exfalso; have hb := HB.out; unfold Bad at hb; omega)
    | (go_ret3; exact ⟨rfl, rfl⟩)

set_option maxHeartbeats 2000000 in
theorem ref_bad (a0 a1 a2 a3 : Int) (hb : Bad a0 a1 a2 a3) (w : World) :
    Calls Try.prog 5 #[.int .i64 a0, .int .i64 a1, .int .i64 a2, .int .i64 a3] w fun e w' => e = .returned (.tuple #[.int .i64 0, .int .i64 0, .int .i64 2]) ∧ w = w' := by
  have HB : Hid (Bad a0 a1 a2 a3) := hb
  clear hb
  go_enter Try.func5, Try.ntmps5
  go_wp2
  all_goals first
    | (exfalso; have hb := HB.out; unfold Bad at hb; omega)
    | (go_ret3; exact ⟨rfl, rfl⟩)
/-! ### STEP 1: THE WALK: the Go text returns true. 'Grown w w'': the world has at most new blocks (Derived/RowKit3.lean). Part the cases AHEAD of 'go_enter' where a test parts the walk; take each callee by a contract of your own. -/
theorem walk (a0 : Int) (a1 : Int) (a2 : Int) (a3 : Int) (w0 : (Lit.int .i64 a0).wf = true) (w1 : (Lit.int .i64 a1).wf = true) (w2 : (Lit.int .i64 a2).wf = true) (w3 : (Lit.int .i64 a3).wf = true) (w : World) :
    Calls Try.prog 3 #[.int .i64 a0, .int .i64 a1, .int .i64 a2, .int .i64 a3] w fun e w' => e = .returned (.bool true) ∧ Grown w w' := by
  by_cases hb : Bad a0 a1 a2 a3
  · have HB : Hid (Bad a0 a1 a2 a3) := hb
    clear hb
    go_enter Try.func3, Try.ntmps3
    go_wp2_with fail
    refine (prog_bad a0 a1 a2 a3 HB.out _).mono ?_
    rintro e w' ⟨rfl, rfl⟩
    go_wp2_with fail
    refine (ref_bad a0 a1 a2 a3 HB.out _).mono ?_
    rintro e w' ⟨rfl, rfl⟩
    go_wp2_with fail
    go_ret
    exact ⟨rfl, Grown.refl _⟩
  · have hk : 0 ≤ a0 ∧ a0 ≤ 1048576 ∧ 0 ≤ a1 ∧ a1 ≤ 1048576 ∧ 0 ≤ a2 ∧ a2 ≤ 1048576 ∧ 1 ≤ a3 ∧ a3 ≤ 16384 := by unfold Bad at hb; omega
    clear hb
    obtain ⟨h0, h0', h1, h1', h2, h2', h3, h3'⟩ := hk
    by_cases hs : a0 ≤ a1
    · go_enter Try.func3, Try.ntmps3
      go_wp2_with fail
      refine (prog_full a0 a1 a2 a3 h0 h0' h1 h1' h2 h2' h3 h3' hs _).mono ?_
      rintro e w' ⟨rfl, rfl⟩
      go_wp2_with fail
      refine (ref_full a0 a1 a2 a3 h0 h0' h1 h1' h2 h2' h3 h3' hs _).mono ?_
      rintro e w' ⟨rfl, rfl⟩
      go_wp2_with fail
      go_ret
      exact ⟨rfl, Grown.refl _⟩
    · go_enter Try.func3, Try.ntmps3
      go_wp2_with fail
      refine (prog_small a0 a1 a2 a3 h0 h0' h1 h1' h2 h2' h3 h3' (by omega) _).mono ?_
      rintro e w' ⟨rfl, rfl⟩
      go_wp2_with fail
      refine (ref_small a0 a1 a2 a3 h0 h0' h1 h1' h2 h2' h3 h3' (by omega) _).mono ?_
      rintro e w' ⟨rfl, rfl⟩
      go_wp2_with fail
      go_ret
      exact ⟨rfl, Grown.refl _⟩

/-! ### THE ROW's STEP: WRITTEN OUT: LEAVE IT -/
set_option maxRecDepth 100000 in
theorem lifted (os : Os) (started : os.Started) (H : Type) (enc : TypeId × Value → H) :
    ReturnsInHanded {} Try.checked os 3 .any (Rows.scrollThumbsSpec.pre6 enc Try.prog Try.f3 Rows.scrollThumbsRow.domain false) (Rows.scrollThumbsSpec.post enc Try.prog Try.f3 false true false false) := by
  refine returnsInHanded_of_change (C := Try.checked) own started (by kernel_rfl) Try.func3
    (ChangeSpec.witness6 (enc := enc) (C := Try.checked) false ⟨#[], #[.int .i64 0, .int .i64 0, .int .i64 0, .int .i64 0], []⟩ 8 (by kernel_rfl) (by kernel_rfl) (by kernel_rfl) (by kernel_rfl)) ?_
  intro W base args ds gs before hval0 hW hcnd _
  have hval : ∀ (j : Nat) t v, Try.f3.params[j]? = some t → args[j]? = some v → Value.okWide Try.prog W .any base t v := hval0
  have hW' := hW
  obtain ⟨p, q, hA0, hV, rfl, hfz, hnd⟩ := hW
  have hA : DataW.TrodAll enc Try.prog W 0 (fun _ => true) true Try.f3.params.toList args.toList ds p := hA0
  rw [Try.params3] at hA hval
  obtain ⟨v0, vs0, d0, ds0, p0, q0, hargs, rfl, rfl, h0, r0⟩ := trodAll_cons hA
  obtain ⟨v1, vs1, d1, ds1, p1, q1, rfl, rfl, rfl, h1, r1⟩ := trodAll_cons r0
  obtain ⟨v2, vs2, d2, ds2, p2, q2, rfl, rfl, rfl, h2, r2⟩ := trodAll_cons r1
  obtain ⟨v3, vs3, d3, ds3, p3, q3, rfl, rfl, rfl, h3, r3⟩ := trodAll_cons r2
  obtain ⟨rfl, rfl, rfl⟩ := trodAll_nil r3
  obtain rfl : args = #[v0, v1, v2, v3] := by cases args; simp_all
  obtain ⟨rfl, rfl⟩ := trodVars_none hV
  obtain ⟨a0, rfl, rfl, rfl, w0⟩ := open_int Try.underlying3 (hval 0 3 v0 rfl rfl) h0
  obtain ⟨a1, rfl, rfl, rfl, w1⟩ := open_int Try.underlying3 (hval 1 3 v1 rfl rfl) h1
  obtain ⟨a2, rfl, rfl, rfl, w2⟩ := open_int Try.underlying3 (hval 2 3 v2 rfl rfl) h2
  obtain ⟨a3, rfl, rfl, rfl, w3⟩ := open_int Try.underlying3 (hval 3 3 v3 rfl rfl) h3
  clear hA0 hval0
  simp only [List.append_nil] at hW'
  refine (walk a0 a1 a2 a3 w0 w1 w2 w3 W).mono fun e W' ⟨he, hg⟩ => ?_
  subst he
  exact ⟨_, rfl, post_of_same (pa := []) (pv := []) hW' (fun _ _ _ => (trodAll_cons_mk (shut_bool Try.underlying4 _) trodAll_mk0)) (fun sp _ => (trodAll_cons_mk (shut_int Try.underlying3 w0) (trodAll_cons_mk (shut_int Try.underlying3 w1) (trodAll_cons_mk (shut_int Try.underlying3 w2) (trodAll_cons_mk (shut_int Try.underlying3 w3) trodAll_mk0))))) (fun _ _ => rfl) rfl
    (hg.frame _) hg.2.1 (ok_one (by kernel_rfl) rfl (okWide_bool_mk Try.underlying4 _))⟩

theorem over : Rows.scrollThumbsRow.holds Try.pinned (OpenSpec.ofChange Rows.scrollThumbsSpec) :=
  OpenClaim.holds_of_wide 3 Try.f3 rfl rfl rfl rfl rfl rfl rfl ⟨rfl, rfl, rfl, rfl, rfl⟩ rfl rfl rfl rfl rfl (by kernel_rfl) Try.func3 (by kernel_rfl)
    (of_decide_eq_true (by kernel_rfl)) (by unfold Func.isWrapper; first | (rw [if_pos (by decide +kernel)]; kernel_rfl) | (rw [if_neg (by decide +kernel)]; exact ⟨rfl, rfl⟩))
    (fun os started H enc _ => lifted os started H enc)

/-- ████ THE STATEMENT ████ -/
theorem proved : Rows.ScrollThumbsSaid :=
  over
#print axioms proved
end Go.Proofs.Ythjofgmiabcifaa.scrollThumbs
