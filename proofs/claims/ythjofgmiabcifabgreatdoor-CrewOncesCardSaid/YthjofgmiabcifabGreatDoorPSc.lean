/-
  A node is looked at (the reference).
  Conditions: as each theorem says.
-/
import Derived.Test.YthjofgmiabcifabGreatDoorPSb
set_option linter.unusedVariables false
set_option linter.unusedSimpArgs false
namespace Go.Proofs.YthjofgmiabcifabGreatDoor.Sq
open Go Go.RowKit
set_option maxHeartbeats 4000000 in
theorem rcheck_in {T : World → Prop} (V : ValidIn T) (x : WrapS) (w : World) (hs : x.text.size ≤ maxLen) (h0 : 0 ≤ x.mask) (h1 : x.mask < 65536) (hT : T w) : Gives 69 #[x.val] w (.int .i64 (rW x)) := by
  obtain ⟨k, m, n, t⟩ := x
  unfold WrapS.val
  dsimp only at hs h0 h1 ⊢
  obtain ⟨R, hR⟩ : ∃ R, rW ⟨k, m, n, t⟩ = R := ⟨_, rfl⟩
  rw [hR]
  have HR : Hid (rW ⟨k, m, n, t⟩ = R) := hR
  clear hR
  have c : ∀ w', T w' → Gives 94 #[.string t] w' _ := fun w' hT => r7text_in V t w' hs hT
  have he : (t.toList = [] ∧ t.toList.isEmpty = true) ∨ (¬ t.toList = [] ∧ t.toList.isEmpty = false) := by
    by_cases h : t.toList = []
    · exact .inl ⟨h, by simp [h]⟩
    · exact .inr ⟨h, by simp [h]⟩
  rcases he with ⟨he1, he2⟩ | ⟨he1, he2⟩
  all_goals
    by_cases k4 : k = 4 ∨ k = 6
    · by_cases hb : (t.size : Int) ≤ 64 ∧ vs t = true
      all_goals
        first | rw [txt_true hb] at c | rw [txt_false hb] at c
        have HB := Lib.hid hb
        clear hb
        rcases k4 with k4 | k4
        all_goals
          subst k4
          gi_enter Tryz.func69, Tryz.ntmps69
          gi_wp2_with (gi_at_call 94; refine (c _ ?_).mono ?_; (exact V.below _ _ hT ((Below.refl _ _).alloc (Nat.le_refl _) _)); rintro e w' ⟨rfl, hb⟩; obtain ⟨hcell, hfroz⟩ := stands hb)
          all_goals
            go_ret
            have HBo := HB.out
            refine ⟨?_, ?_⟩
            · rw [← HR.out]
              first
                | (refine ret_int' (rWq_of h0 h1 ?_).symm; simp [wrapQ, *]; done)
                | (refine ret_int' (rWq_not h0 h1 ?_).symm; simp [wrapQ, *]; done)
                | (refine ret_int' (rWq_not h0 h1 ?_).symm; simp only [wrapQ]; omega)
                | (exfalso; omega)
            · first
                | exact ((Below.refl _ _).alloc (Nat.le_refl _) _).trans (hb.mono (by simp))
                | exact (Below.refl _ _).alloc (Nat.le_refl _) _
    · clear c
      have n4 : ¬ k = 4 := fun h => k4 (.inl h)
      have n6 : ¬ k = 6 := fun h => k4 (.inr h)
      clear k4
      by_cases k1 : k = 1 ∨ k = 2 ∨ k = 3 ∨ k = 5 ∨ k = 7
      · rcases k1 with k1 | k1 | k1 | k1 | k1
        all_goals
          subst k1
          clear n4 n6
          gi_enter Tryz.func69, Tryz.ntmps69
          gi_wp2
          all_goals
            go_ret
            refine ⟨?_, (Below.refl _ _).alloc (Nat.le_refl _) _⟩
            rw [← HR.out]
            first
              | (refine ret_int' (rWq_of h0 h1 ?_).symm; simp [wrapQ, *]; done)
              | (refine ret_int' (rWq_of h0 h1 ?_).symm; simp [wrapQ, *]; omega)
              | (refine ret_int' (rWq_not h0 h1 ?_).symm; simp [wrapQ, *]; done)
              | (refine ret_int' (rWq_not h0 h1 ?_).symm; simp only [wrapQ]; omega)
              | (refine ret_int' (rWq_not h0 h1 ?_).symm; simp [wrapQ, *]; intros; omega)
              | (exfalso; omega)
              | (exfalso; omega)
      · have HN := Lib.hid (show ¬ k = 1 ∧ ¬ k = 2 ∧ ¬ k = 3 ∧ ¬ k = 5 ∧ ¬ k = 7 ∧ ¬ k = 4 ∧ ¬ k = 6 from ⟨fun h => k1 (.inl h), fun h => k1 (.inr (.inl h)), fun h => k1 (.inr (.inr (.inl h))), fun h => k1 (.inr (.inr (.inr (.inl h)))), fun h => k1 (.inr (.inr (.inr (.inr h)))), n4, n6⟩)
        have e1 : (k == 1) = false := by simpa using HN.out.1
        have e2 : (k == 2) = false := by simpa using HN.out.2.1
        have e3 : (k == 3) = false := by simpa using HN.out.2.2.1
        have e5 : (k == 5) = false := by simpa using HN.out.2.2.2.1
        have e4 : (k == 4) = false := by simpa using n4
        have e6 : (k == 6) = false := by simpa using n6
        clear k1 n4 n6
        gi_enter Tryz.func69, Tryz.ntmps69
        gi_wp2
        all_goals
          go_ret
          refine ⟨?_, (Below.refl _ _).alloc (Nat.le_refl _) _⟩
          rw [← HR.out]
          have := HN.out
          first
            | (refine ret_int' (rWq_not h0 h1 ?_).symm; simp only [wrapQ]; omega)
            | (exfalso; omega)
end Go.Proofs.YthjofgmiabcifabGreatDoor.Sq
