/-
  Part.Make, by the plain law.
  Conditions: as each theorem says.
-/
import Derived.Test.YthjofgmiabcifabGreatDoorPSe
import Derived.Test.YthjofgmiabcifabGreatDoorPSf
import Derived.Test.YthjofgmiabcifabGreatDoorPSi
import Derived.Lib.SliceRun
import Derived.Shelf.Abstract
set_option linter.unusedVariables false
set_option linter.unusedSimpArgs false
namespace Go.Proofs.YthjofgmiabcifabGreatDoor.Sq
open Go Go.RowKit
/-- AN OPERATION THAT IS NO CALL, by its run alone. -/
theorem wpListIn_val {F : Fence} {n : Nat} {P : Program} {ops : Array Oper} {Q : Exit → Act → World → Prop} {a : Act} {w w' : World} {rest : List Oper} {o : Oper} {v : Value} (hc : ∀ c, o.op ≠ .call c) (hd : ∀ c, o.op ≠ .defer c)
    (hgd : Region.wanted o (yielded ops a.tmps) = true) (hr : (execOp a.eval o).run P w = .ok (.value v) w') (h : wpListIn F n P ops Q rest (a.put o.dst v) w') : wpListIn F n P ops Q (o :: rest) a w := by
  unfold wpListIn
  rw [if_pos hgd]
  unfold Oper.wpIn
  refine ⟨fun f hf => ?_, ?_⟩
  · unfold Oper.about at hf
    cases ho : o.op <;> simp only [ho] at hf <;> first | cases hf | exact absurd ho (hc _)
  · rw [Oper.semAt_eq _ _ _ hd, hr]
    exact h
/-- A part in a box of its own. -/
def FreshPost (t : TypeId) (w : World) (e : Ending) (w' : World) : Prop := ∃ M, e = .returned (.iface t (.pointer (some ⟨M, 0, none⟩))) ∧ Below w.heap.size w w'
theorem size166 : (Tryz.prog.info? 166).map (·.size) = some 20 := by kernel_rfl
set_option maxRecDepth 100000 in
set_option maxHeartbeats 4000000 in
theorem fresh_in (k : Nat) (h1 : 1 ≤ k) (h2 : k ≤ 10) (cs : List Value) (hl : cs.length = 20) (w : World) : CallsIn FF 0 Tryz.prog 89 #[.int .u8 (k : Nat), .agg cs.toArray] w (FreshPost (tyK k) w) := by
  have hr := range_new w cs 166
  have hs : cs.toArray.size = 20 := by simpa using hl
  have hz : (Tryz.prog.info? 166).map (·.size) = some cs.length := by rw [hl]; exact size166
  have hk : k = 1 ∨ k = 2 ∨ k = 3 ∨ k = 4 ∨ k = 5 ∨ k = 6 ∨ k = 7 ∨ k = 8 ∨ k = 9 ∨ k = 10 := by omega
  clear h1 h2
  rcases hk with hk | hk | hk | hk | hk | hk | hk | hk | hk | hk
  all_goals
    subst hk
    gi_enter Tryz.func89, Tryz.ntmps89
    gi_wp2_with (refine wpListIn_load_row (by rfl) 166 _ rfl w.heap.size 0 rfl cs hr _ Tryz.underlying166 rfl hz (.agg cs.toArray) rfl ?_)
    go_ret
    exact ⟨_, rfl, ((Below.refl _ _).alloc (Nat.le_refl _) _).alloc (by simp) _⟩
end Go.Proofs.YthjofgmiabcifabGreatDoor.Sq
namespace Go.Proofs.YthjofgmiabcifabGreatDoor.Sq
open Go Go.RowKit
/-- A slice of parts. -/
def PartsAt (w : World) (v : Value) (n : Nat) : Prop := (v = .slice none 0 0 ∧ n = 0) ∨ ∃ b c, v = .slice (some ⟨b, 0, none⟩) n c ∧ ∀ j, j < n → ∃ u, w.cell? ⟨b, j, none⟩ = some u ∧ u.oneCell' = true
theorem PartsAt.below {w w' : World} {v : Value} {n : Nat} (h : PartsAt w v n) (hb : Below w.heap.size w w') : PartsAt w' v n := by
  rcases h with h | ⟨b, c, h1, h2⟩
  · exact .inl h
  · exact .inr ⟨b, c, h1, fun j hj => by obtain ⟨u, h3, h4⟩ := h2 j hj; exact ⟨u, (hb.cell (cell_lt h3)).trans h3, h4⟩⟩
theorem info56 : (Tryz.prog.info? 56).map (fun i => (i.zero, i.size, i.bytes)) = some (some .nilIface, 1, 16) := by kernel_rfl
def ClonePost (w : World) (e : Ending) (w' : World) : Prop := ∃ p n c, e = .returned (.slice p n c) ∧ Below w.heap.size w w'
theorem owns_slice {w : World} {base : Nat} {e : TypeId} {size : Nat} {v : Value} {n : Nat} {xs : List Value} (h : w.ownsRow base e size v n xs) : ∃ p n c, v = .slice p n c := by
  rcases h.2 with ⟨h, _⟩ | ⟨g, c, _, h, _⟩
  · exact ⟨_, _, _, h⟩
  · exact ⟨_, _, _, h⟩
set_option maxHeartbeats 2000000 in
set_option maxRecDepth 100000 in
theorem clone_in (v : Value) (n : Nat) (w : World) (h : PartsAt w v n) (hn : n ≤ 1024) : CallsIn FF 0 Tryz.prog 90 #[v] w (ClonePost w) := by
  obtain ⟨i0, hi, hz0, hz1, hz2⟩ := info_parts info56
  have q45 : ∀ (w : World) (a : Option Addr) (n c n' c' : Nat), (binOp .eql 45 (.slice a n c) (.slice none n' c')).run Tryz.prog w = .ok (.bool a.isNone) w := fun w a n c n' c' => Lib.run_eql_slice_nil w _ _ a n c n' c' Tryz.underlying45
  rcases h with ⟨rfl, rfl⟩ | ⟨b, c, rfl, hc⟩
  · gi_enter Tryz.func90, Tryz.ntmps90
    gi_wp2
    go_ret
    exact ⟨_, _, _, rfl, Below.refl _ _⟩
  · obtain ⟨f, hf⟩ : ∃ f : Nat → Value, ∀ j, j < n → w.cell? ⟨b, j, none⟩ = some (f j) ∧ (f j).oneCell' = true := by
      refine ⟨fun j => (w.cell? ⟨b, j, none⟩).getD undef, fun j hj => ?_⟩
      obtain ⟨u, h1, h2⟩ := hc j hj
      simp only [h1, Option.getD_some]
      exact ⟨trivial, h2⟩
    have HF := Lib.hid hf
    clear hf hc
    gi_enter Tryz.func90, Tryz.ntmps90
    gi_wp2_with (gi_at_builtin; refine wpListIn_append_own _ rfl _ _ 45 rfl w.heap.size 56 i0 .nilIface 1 16 Tryz.underlying45 hi hz0 hz1 hz2 rfl (by decide) _ _ _ rfl (World.ownsRow_made w #[] 0 (Nat.le_refl _) (Nat.zero_le _) rfl) ⟨b, 0, none⟩ n c ((List.range n).map f) rfl ?qc1 ?qc2 ?qc3 ?qc4 ?qc5 ?qc6 ?_)
    case qc1 => simp
    case qc2 =>
      intro j u hj
      have hjn : j < n := by
        have := (List.getElem?_eq_some_iff.1 hj).1
        simpa using this
      rw [Addr.add_lit, Nat.zero_add]
      have e : ((List.range n).map f)[j]? = some (f j) := by simp [hjn]
      rw [e] at hj
      cases hj
      have := (HF.out j hjn).1
      exact (((Below.refl w.heap.size w).alloc (Nat.le_refl _) _).cell (cell_lt this)).trans this
    case qc3 =>
      intro u hu
      obtain ⟨j, hj, rfl⟩ := List.mem_map.1 hu
      exact (HF.out j (by simpa using hj)).2
    case qc4 => unfold maxLen; omega
    case qc5 => omega
    case qc6 => simp
    intro v' w1 hown hgrow hnil
    obtain ⟨p, n', c', rfl⟩ := owns_slice hown
    gi_wp2
    go_ret
    exact ⟨p, n', c', rfl, ((Below.refl _ w).alloc (Nat.le_refl _) _).grown hgrow (by simp) (by intro k hk; simp [Value.ownBlock] at hk; omega)⟩
end Go.Proofs.YthjofgmiabcifabGreatDoor.Sq
namespace Go.Proofs.YthjofgmiabcifabGreatDoor.Sq
open Go Go.RowKit
/-- Each edge leads back. -/
def edgesB (ops : Array Oper) : Bool := (List.range ops.size).all fun i => (ops[i]?.map fun o => o.guard.isNone && o.after.all fun e => !Region.binds .any e || decide (e.on < i)).getD false
def setL (L : Nat → Bool) (i : Nat) : Nat → Bool := fun j => if j = i then true else L j
def setE (ev : Nat → Value) (d : Option Nat) (v : Value) : Nat → Value := match d with
  | some d => fun s => if s = d then v else ev s
  | none => ev
/-- A frame that stands but for some slots. -/
structure Same (D : List Nat) (a a' : Act) (ev : Nat → Value) : Prop where
  size : a'.tmps.size = a.tmps.size
  defers : a'.defers = a.defers
  evs : ∀ s, a'.tmps.getD s undef = ev s
  keep : ∀ s, s ∉ D → ev s = a.tmps.getD s undef
theorem Same.put {D : List Nat} {a a' : Act} {ev : Nat → Value} (h : Same D a a' ev) {d : Option Nat} (hd : ∀ x, d = some x → x ∈ D ∧ x < a.tmps.size) (v : Value) : Same D a (a'.put d v) (setE ev d v) := by
  cases d with
  | none => exact h
  | some d =>
    obtain ⟨h1, h2⟩ := hd d rfl
    refine ⟨(by simpa [Act.put] using h.size), h.defers, fun s => ?_, fun s hs => ?_⟩
    · show (a'.tmps.setIfInBounds d v).getD s undef = if s = d then v else ev s
      by_cases e : s = d
      · subst e
        rw [if_pos rfl, Array.getD_eq_getD_getElem?, Array.getElem?_setIfInBounds_self_of_lt (by rw [h.size]; exact h2)]
        rfl
      · rw [if_neg e, Array.getD_eq_getD_getElem?, Array.getElem?_setIfInBounds_ne (Ne.symm e), ← Array.getD_eq_getD_getElem?]
        exact h.evs s
    · show (if s = d then v else ev s) = _
      rw [if_neg (fun (e : s = d) => hs (by rw [e]; exact h1))]
      exact h.keep s hs
theorem foldl_get (ev : Nat → Value) : ∀ (D : List Nat) (t : Array Value) (s : Nat), s < t.size → (D.foldl (fun t d => t.setIfInBounds d (ev d)) t)[s]? = if s ∈ D then some (ev s) else t[s]?
  | [], t, s, h => by simp
  | d :: D, t, s, h => by
    rw [List.foldl_cons, foldl_get ev D _ s (by simpa using h)]
    by_cases h1 : s ∈ D
    · rw [if_pos h1, if_pos (List.mem_cons_of_mem _ h1)]
    · rw [if_neg h1]
      by_cases h2 : s = d
      · subst h2
        rw [if_pos (List.mem_cons_self ..), Array.getElem?_setIfInBounds_self_of_lt h]
      · rw [if_neg (by simp [h1, h2]), Array.getElem?_setIfInBounds_ne (Ne.symm h2)]
theorem foldl_size (ev : Nat → Value) : ∀ (D : List Nat) (t : Array Value), (D.foldl (fun t d => t.setIfInBounds d (ev d)) t).size = t.size
  | [], t => rfl
  | d :: D, t => by rw [List.foldl_cons, foldl_size ev D]; simp
theorem Same.whole {D : List Nat} {a a' : Act} {ev : Nat → Value} (h : Same D a a' ev) : a' = { tmps := D.foldl (fun t d => t.setIfInBounds d (ev d)) a.tmps, defers := a.defers } := by
  obtain ⟨t, ds⟩ := a'
  have h1 := h.size
  have h2 := h.defers
  simp only at h1 h2
  subst h2
  congr 1
  apply Array.ext_getElem?
  intro s
  by_cases hs : s < a.tmps.size
  · rw [foldl_get ev D _ s hs]
    have e1 : t[s]? = some (ev s) := by
      have := h.evs s
      rw [Array.getD_eq_getD_getElem?] at this
      simp only at this
      rw [Array.getElem?_eq_getElem (by omega)] at this ⊢
      exact congrArg some this
    rw [e1]
    split
    · rfl
    · rename_i hn
      rw [h.keep s hn, Array.getD_eq_getD_getElem?, Array.getElem?_eq_getElem hs]
      rfl
  · rw [Array.getElem?_eq_none (by omega), Array.getElem?_eq_none (by rw [foldl_size]; omega)]
/-- What one operation does. -/
def OpStep (a : Act) (o : Oper) (w : World) (K : Value → World → Prop) : Prop :=
  (∃ v w', (∀ c, o.op ≠ .defer c) ∧ (∀ g, o.about Tryz.prog w a.eval = some g → FF.fn g) ∧ (execOp a.eval o).run Tryz.prog w = .ok (.value v) w' ∧ K v w') ∨
  (∃ w', (∀ c, o.op ≠ .defer c) ∧ (∀ g, o.about Tryz.prog w a.eval = some g → FF.fn g) ∧ (execOp a.eval o).run Tryz.prog w = .ok .skip w' ∧ K undef w') ∨
  ∃ f args, (∀ c, o.op ≠ .defer c) ∧ (∀ g, o.about Tryz.prog w a.eval = some g → FF.fn g) ∧ (execOp a.eval o).run Tryz.prog w = .ok (.enter f args) w ∧ CallsIn FF 0 Tryz.prog f args w fun e w' => ∃ v, e = .returned v ∧ K v w'
theorem region_inv' {id : Nat} {ops : Array Oper} {Q : Exit → Act → World → Prop} {a : Act} {w : World} (D : List Nat) (I : (Nat → Bool) → (Nat → Value) → World → Prop) (hE : edgesB ops = true)
    (hD : ops.all (fun o => match o.dst with | some d => D.contains d && decide (d < a.tmps.size) | none => true) = true)
    (h0 : I (fun _ => false) (fun s => a.tmps.getD s undef) w.drew)
    (hs : ∀ (i : Nat) (o : Oper), ops[i]? = some o → ∀ (L : Nat → Bool) (ev : Nat → Value) (a' : Act) (w : World), (∀ s, a'.eval (.tmp s) = ev s) → (∀ s, s ∉ D → ev s = a.tmps.getD s undef) → (∀ j, j ∈ (o.after.toList.filter (Region.binds .any)).map (·.on) → L j = true) → L i = false →
      I L ev w → OpStep a' o w fun v w' => I (setL L i) (setE ev o.dst v) w')
    (hd : ∀ L ev w, (∀ i, i < ops.size → L i = true) → I L ev w → Q .normal { tmps := D.foldl (fun t d => t.setIfInBounds d (ev d)) a.tmps, defers := a.defers } w) : (Code.region id ops true).wpIn FF 0 Tryz.prog Q a w := by
  refine wpIn_region_any (by kernel_rfl) ?_
  have hedge : ∀ (i : Nat) (o : Oper), ops[i]? = some o → o.guard = none ∧ ∀ e ∈ o.after, Region.binds .any e = true → e.on < i := by
    intro i o ho
    have hi : i < ops.size := (Array.getElem?_eq_some_iff.1 ho).1
    have := List.all_eq_true.1 hE i (List.mem_range.2 hi)
    rw [ho] at this
    simp only [Option.map_some, Option.getD_some, Bool.and_eq_true, Option.isNone_iff_eq_none] at this
    exact ⟨this.1, fun e he hb => by have h2 := Array.all_eq_true'.1 this.2 e he; rw [hb] at h2; simpa using h2⟩
  have key : ∀ (fuel : Nat) (l : Array Bool) (a' : Act) (ev : Nat → Value) (w : World), l.size = ops.size → l.toList.count false ≤ fuel → Same D a a' ev → I (fun i => l.getD i false) ev w → wpAnyIn FF 0 Tryz.prog .any ops Q fuel l a' w := by
    have hnil : ∀ (l : Array Bool) (a' : Act) (ev : Nat → Value) (w : World), l.size = ops.size → Same D a a' ev → I (fun i => l.getD i false) ev w → Region.ready .any ops l = [] → Q .normal a' w := by
      intro l a' ev w hl hsame hI hr
      rw [hsame.whole]
      refine hd _ ev w (fun i => ?_) hI
      induction i using Nat.strongRecOn with
      | _ i ih =>
        intro hi
        rcases Bool.eq_false_or_eq_true (l.getD i false) with h | h
        · exact h
        exfalso
        have hmem : i ∈ Region.ready .any ops l := by
          unfold Region.ready
          refine List.mem_filter.2 ⟨List.mem_range.2 hi, ?_⟩
          obtain ⟨o, ho⟩ : ∃ o, ops[i]? = some o := ⟨ops[i], Array.getElem?_eq_getElem hi⟩
          have hlt : i < l.size := by omega
          have h2 : l.getD i true = false := by
            rw [Array.getD_eq_getD_getElem?, Array.getElem?_eq_getElem hlt] at h ⊢
            exact h
          rw [h2, ho]
          simp only [Bool.not_false, Bool.true_and, Option.map_some, Option.getD_some]
          refine Array.all_eq_true'.2 fun e he => ?_
          cases hbd : Region.binds .any e with
          | false => rfl
          | true =>
            have := (hedge i o ho).2 e he hbd
            rw [ih e.on this (by omega)]
            rfl
        rw [hr] at hmem
        cases hmem
    intro fuel
    induction fuel with
    | zero =>
      intro l a' ev w hl hc hsame hI
      have hr : Region.ready .any ops l = [] := by
        unfold Region.ready
        rw [List.filter_eq_nil_iff]
        intro i hi
        have hlt : i < l.size := by rw [hl]; exact List.mem_range.1 hi
        have : l[i] = true := by
          rcases Bool.eq_false_or_eq_true l[i] with h | h
          · exact h
          · exfalso
            have h3 : false ∈ l.toList := by rw [← h]; exact Array.getElem_mem_toList hlt
            have := List.count_pos_iff.2 h3
            omega
        rw [Array.getD_eq_getD_getElem?, Array.getElem?_eq_getElem hlt, Option.getD_some, this]
        simp
      exact ⟨hr, hnil l a' ev w hl hsame hI hr⟩
    | succ fuel ih =>
      intro l a' ev w hl hc hsame hI
      refine ⟨fun hr => hnil l a' ev w hl hsame hI hr, fun i hi => ?_⟩
      unfold Region.ready at hi
      obtain ⟨h1, h2⟩ := List.mem_filter.1 hi
      have hio : i < ops.size := List.mem_range.1 h1
      obtain ⟨o, ho⟩ : ∃ o, ops[i]? = some o := ⟨ops[i], Array.getElem?_eq_getElem hio⟩
      rw [ho] at h2
      simp only [Bool.and_eq_true, Option.map_some, Option.getD_some, Bool.not_eq_true'] at h2
      obtain ⟨h2, h3⟩ := h2
      have hlt : i < l.size := by omega
      have hf : l[i] = false := by rw [Array.getD_eq_getD_getElem?, Array.getElem?_eq_getElem hlt] at h2; exact h2
      have hdep : ∀ j, j ∈ (o.after.toList.filter (Region.binds .any)).map (·.on) → l.getD j false = true := by
        intro j hj
        obtain ⟨e, he, rfl⟩ := List.mem_map.1 hj
        obtain ⟨he1, he2⟩ := List.mem_filter.1 he
        have := Array.all_eq_true'.1 h3 e (by simpa using he1)
        rw [he2] at this
        simpa using this
      have hstep := hs i o ho (fun i => l.getD i false) ev a' w (fun s => by rw [← hsame.evs s]; rfl) hsame.keep hdep (by rw [Array.getD_eq_getD_getElem?, Array.getElem?_eq_getElem hlt]; exact hf) hI
      have hdst : ∀ x, o.dst = some x → x ∈ D ∧ x < a.tmps.size := by
        intro x hx
        have := Array.all_eq_true'.1 hD o (Array.mem_of_getElem? ho)
        rw [hx] at this
        simpa using this
      have hL : (fun j => (l.setIfInBounds i true).getD j false) = setL (fun i => l.getD i false) i := by
        funext j
        unfold setL
        by_cases e : j = i
        · subst e
          rw [if_pos rfl, Array.getD_eq_getD_getElem?, Array.getElem?_setIfInBounds_self_of_lt hlt]; rfl
        · rw [if_neg e, Array.getD_eq_getD_getElem?, Array.getElem?_setIfInBounds_ne (Ne.symm e), ← Array.getD_eq_getD_getElem?]
      have hcount : (l.setIfInBounds i true).toList.count false ≤ fuel := by
        rw [Array.toList_setIfInBounds, List.count_set (by simpa using hlt)]
        simp only [Array.getElem_toList, hf]
        rw [if_pos (show (false == false) = true from rfl), if_neg (show ¬ (true == false) = true by decide)]
        omega
      have next : ∀ v w', I (setL (fun i => l.getD i false) i) (setE ev o.dst v) w' → wpAnyIn FF 0 Tryz.prog .any ops Q fuel (l.setIfInBounds i true) (a'.put o.dst v) w' := fun v w' h =>
        ih _ _ _ _ (by simpa using hl) hcount (hsame.put hdst v) (by rw [hL]; exact h)
      unfold wpOpIn
      simp only [ho]
      rw [if_pos (by simp [Region.wanted, (hedge i o ho).1])]
      unfold Oper.wpIn
      rcases hstep with ⟨v, w', hdf, hab, hrun, hK⟩ | ⟨w', hdf, hab, hrun, hK⟩ | ⟨f, args, hdf, hab, hrun, hK⟩
      · refine ⟨hab, ?_⟩
        rw [Oper.semAt_eq _ _ _ hdf, hrun]
        exact next v w' hK
      · refine ⟨hab, ?_⟩
        rw [Oper.semAt_eq _ _ _ hdf, hrun]
        exact next undef w' hK
      · refine ⟨hab, ?_⟩
        rw [Oper.semAt_eq _ _ _ hdf, hrun]
        exact ⟨fun h => (by cases h), CallsIn.mono hK fun e w' ⟨v, he, hk⟩ => by subst he; exact next v w' hk⟩
  refine key ops.size _ a _ _ (by simp) (by simp [List.count_replicate]) ⟨rfl, rfl, fun s => rfl, fun s _ => rfl⟩ ?_
  have e : (fun i => (Array.replicate ops.size false).getD i false) = fun _ => false := by
    funext i
    rw [Array.getD_eq_getD_getElem?, Array.getElem?_replicate]
    split <;> rfl
  rw [e]
  exact h0
theorem region_inv {id : Nat} {ops : Array Oper} {Q : Exit → Act → World → Prop} {a : Act} {w : World} (D : List Nat) (I : (Nat → Bool) → (Nat → Value) → World → Prop) (hE : edgesB ops = true)
    (hD : ops.all (fun o => match o.dst with | some d => D.contains d && decide (d < a.tmps.size) | none => true) = true)
    (h0 : I (fun _ => false) (fun s => a.tmps.getD s undef) w.drew)
    (hs : ∀ (i : Nat) (o : Oper), ops[i]? = some o → ∀ (L : Nat → Bool) (ev : Nat → Value) (a' : Act) (w : World), (∀ s, a'.eval (.tmp s) = ev s) → (∀ s, s ∉ D → ev s = a.tmps.getD s undef) → (∀ j, j ∈ (o.after.toList.filter (Region.binds .any)).map (·.on) → L j = true) →
      I L ev w → OpStep a' o w fun v w' => I (setL L i) (setE ev o.dst v) w')
    (hd : ∀ L ev w, (∀ i, i < ops.size → L i = true) → I L ev w → Q .normal { tmps := D.foldl (fun t d => t.setIfInBounds d (ev d)) a.tmps, defers := a.defers } w) : (Code.region id ops true).wpIn FF 0 Tryz.prog Q a w :=
  region_inv' D I hE hD h0 (fun i o ho L ev a' w h1 h2 h3 _ h4 => hs i o ho L ev a' w h1 h2 h3 h4) hd
end Go.Proofs.YthjofgmiabcifabGreatDoor.Sq
namespace Go.Proofs.YthjofgmiabcifabGreatDoor.Sq
open Go Go.RowKit
theorem OpStep.val {a : Act} {o : Oper} {w w' : World} {K : Value → World → Prop} {v : Value} (hd : ∀ c, o.op ≠ .defer c) (hc : ∀ c, o.op ≠ .call c) (hr : (execOp a.eval o).run Tryz.prog w = .ok (.value v) w') (hK : K v w') : OpStep a o w K :=
  .inl ⟨v, w', hd, fun g hg => BigFrame.askedIn_plain (F := FF) (C := fun _ => True) hc w trivial g hg, hr, hK⟩
theorem OpStep.call {a : Act} {o : Oper} {w : World} {K : Value → World → Prop} {f : FuncId} {args : Array Value} (hd : ∀ c, o.op ≠ .defer c) (ha : ∀ w g, True → o.about Tryz.prog w a.eval = some g → FF.fn g) (hr : (execOp a.eval o).run Tryz.prog w = .ok (.enter f args) w)
    (hc : CallsIn FF 0 Tryz.prog f args w fun e w' => ∃ v, e = .returned v ∧ K v w') : OpStep a o w K :=
  .inr (.inr ⟨f, args, hd, fun g hg => ha w g trivial hg, hr, hc⟩)
theorem OpStep.skip {a : Act} {o : Oper} {w w' : World} {K : Value → World → Prop} (hd : ∀ c, o.op ≠ .defer c) (hc : ∀ c, o.op ≠ .call c) (hr : (execOp a.eval o).run Tryz.prog w = .ok .skip w') (hK : K undef w') : OpStep a o w K :=
  .inr (.inl ⟨w', hd, fun g hg => BigFrame.askedIn_plain (F := FF) (C := fun _ => True) hc w trivial g hg, hr, hK⟩)
section
variable {ρ : Operand → Value} {w : World} {d : Option Tmp} {ty : TypeId} {pos : String} {after : Array Edge} {guard : Option (Nat × Bool)} {x y : Operand}
theorem x_assign : (execOp ρ ⟨d, .assign x, ty, pos, after, guard⟩).run Tryz.prog w = .ok (.value (ρ x)) w := by go_simp
theorem x_call2 {f : FuncId} {t u : TypeId} {v v' : Value} (e : ∀ args w, (callFunc f args).run Tryz.prog w = .ok (.enter f args) w) (h : ρ x = v) (h' : ρ y = v') (h2 : ρ (.func f) = .func (.func f) #[] #[]) :
    (execOp ρ ⟨d, .call { callee := .value (.func f), args := #[x, y], argTypes := #[t, u] }, ty, pos, after, guard⟩).run Tryz.prog w = .ok (.enter f #[v, v']) w := by subst h h'; go_simp
theorem fold_size0 (l : List (Value × Nat)) : ∀ (c : Array Value), (l.foldl (fun cs x => cs.setIfInBounds x.2 x.1) c).size = c.size := by
  induction l with
  | nil => intros; rfl
  | cons x l ih => intro c; rw [List.foldl_cons, ih]; simp
/-- A base is built of a node and a slice. -/
theorem x_build166 {cs : List Value} {p : Option Addr} {n c : Nat} (hs : cs.length = 19) (h : ρ x = .agg cs.toArray) (h2 : ρ y = .slice p n c) :
    ∃ es : List Value, es.length = 20 ∧ (execOp ρ ⟨d, .build 166 #[(0, x), (1, y)], ty, pos, after, guard⟩).run Tryz.prog w = .ok (.value (.agg es.toArray)) w := by
  have hs' : cs.toArray.size = 19 := by simpa using hs
  have hfs : ∀ z : Array Value, (List.foldl (fun cs x => cs.setIfInBounds x.2 x.1) z cs.zipIdx).size = z.size := fold_size0 cs.zipIdx
  have key : ∃ c : Array Value, (execOp ρ ⟨d, .build 166 #[(0, x), (1, y)], ty, pos, after, guard⟩).run Tryz.prog w = .ok (.value (.agg c)) w ∧ c.size = 20 := by
    refine ⟨?_, ?_, ?_⟩
    rotate_left
    · go_simp
      rfl
    · simp [hfs]
  obtain ⟨c, h1, h2⟩ := key
  exact ⟨c.toList, by simpa using h2, by simpa using h1⟩
end
/-- A node without its wrappers and kids. -/
def bare (n : NodeS) : NodeS := { n with wrapsP := none, wrapsN := 0, wrapsC := 0, kidsP := none, kidsN := 0, kidsC := 0 }
theorem nil_cells {w : World} {b : Nat} {n : NodeS} (hr : w.rangeAt b 0 n.cells) : ((w.setCell ⟨b, 17, none⟩ (.slice none 0 0)).setCell ⟨b, 18, none⟩ (.slice none 0 0)).rangeAt b 0 (bare n).cells := by
  have o1 : ∀ (x : World) (i : Nat), 18 ≠ i → (x.setCell ⟨b, 18, none⟩ (.slice none 0 0)).cell? ⟨b, 0 + i, none⟩ = x.cell? ⟨b, 0 + i, none⟩ := fun x i h => World.cell?_setCell_other _ _ _ _ (by rw [Nat.zero_add]; intro e; cases e; exact h rfl)
  have o2 : ∀ (x : World) (i : Nat), 17 ≠ i → (x.setCell ⟨b, 17, none⟩ (.slice none 0 0)).cell? ⟨b, 0 + i, none⟩ = x.cell? ⟨b, 0 + i, none⟩ := fun x i h => World.cell?_setCell_other _ _ _ _ (by rw [Nat.zero_add]; intro e; cases e; exact h rfl)
  have key : ∀ (i : Nat) (v : Value), (bare n).cells[i]? = some v → ((w.setCell ⟨b, 17, none⟩ (.slice none 0 0)).setCell ⟨b, 18, none⟩ (.slice none 0 0)).cell? ⟨b, 0 + i, none⟩ = some v := fun i v h => by
    match i, v, h with
    | 0, _, h => cases h; rw [o1 _ _ (by decide), o2 _ _ (by decide)]; exact hr 0 _ rfl
    | 1, _, h => cases h; rw [o1 _ _ (by decide), o2 _ _ (by decide)]; exact hr 1 _ rfl
    | 2, _, h => cases h; rw [o1 _ _ (by decide), o2 _ _ (by decide)]; exact hr 2 _ rfl
    | 3, _, h => cases h; rw [o1 _ _ (by decide), o2 _ _ (by decide)]; exact hr 3 _ rfl
    | 4, _, h => cases h; rw [o1 _ _ (by decide), o2 _ _ (by decide)]; exact hr 4 _ rfl
    | 5, _, h => cases h; rw [o1 _ _ (by decide), o2 _ _ (by decide)]; exact hr 5 _ rfl
    | 6, _, h => cases h; rw [o1 _ _ (by decide), o2 _ _ (by decide)]; exact hr 6 _ rfl
    | 7, _, h => cases h; rw [o1 _ _ (by decide), o2 _ _ (by decide)]; exact hr 7 _ rfl
    | 8, _, h => cases h; rw [o1 _ _ (by decide), o2 _ _ (by decide)]; exact hr 8 _ rfl
    | 9, _, h => cases h; rw [o1 _ _ (by decide), o2 _ _ (by decide)]; exact hr 9 _ rfl
    | 10, _, h => cases h; rw [o1 _ _ (by decide), o2 _ _ (by decide)]; exact hr 10 _ rfl
    | 11, _, h => cases h; rw [o1 _ _ (by decide), o2 _ _ (by decide)]; exact hr 11 _ rfl
    | 12, _, h => cases h; rw [o1 _ _ (by decide), o2 _ _ (by decide)]; exact hr 12 _ rfl
    | 13, _, h => cases h; rw [o1 _ _ (by decide), o2 _ _ (by decide)]; exact hr 13 _ rfl
    | 14, _, h => cases h; rw [o1 _ _ (by decide), o2 _ _ (by decide)]; exact hr 14 _ rfl
    | 15, _, h => cases h; rw [o1 _ _ (by decide), o2 _ _ (by decide)]; exact hr 15 _ rfl
    | 16, _, h => cases h; rw [o1 _ _ (by decide), o2 _ _ (by decide)]; exact hr 16 _ rfl
    | 17, _, h => cases h; rw [o1 _ _ (by decide)]; exact World.cell?_setCell_same _ _ _ (hr 17 _ rfl)
    | 18, _, h =>
      cases h
      refine World.cell?_setCell_same _ ⟨b, 18, none⟩ _ (u := .slice n.kidsP n.kidsN n.kidsC) ?_
      rw [World.cell?_setCell_other _ _ _ _ (by intro e; cases e)]
      have := hr 18 _ rfl
      rwa [Nat.zero_add] at this
    | i + 19, _, h => cases h
  exact key
end Go.Proofs.YthjofgmiabcifabGreatDoor.Sq
namespace Go.Proofs.YthjofgmiabcifabGreatDoor.Sq
open Go Go.RowKit
theorem x_box {ρ : Operand → Value} {w : World} {d : Option Tmp} {ty t : TypeId} {pos : String} {after : Array Edge} {guard : Option (Nat × Bool)} {x : Operand} {cs : Array Value} (h : ρ x = .agg cs) :
    (execOp ρ ⟨d, .box t x, ty, pos, after, guard⟩).run Tryz.prog w = .ok (.value (.pointer (some ⟨w.heap.size, 0, none⟩))) (w.alloc (.cells cs t)) := by go_simp
def holdB (k : Nat) : Bool := decide (k = 4 ∨ k = 5 ∨ k = 6 ∨ k = 10)
theorem holdK (k : Nat) (h1 : 1 ≤ k) (h2 : k ≤ 10) : Hold (tyK k) (holdB k) := by
  have hk : k = 1 ∨ k = 2 ∨ k = 3 ∨ k = 4 ∨ k = 5 ∨ k = 6 ∨ k = 7 ∨ k = 8 ∨ k = 9 ∨ k = 10 := by omega
  rcases hk with rfl | rfl | rfl | rfl | rfl | rfl | rfl | rfl | rfl | rfl
  all_goals exact hold_of (by kernel_rfl)
/-- A part and no error. -/
def MakePost (t : TypeId) (w : World) (e : Ending) (w' : World) : Prop := ∃ M, e = .returned (.tuple #[.iface t (.pointer (some ⟨M, 0, none⟩)), .int .i64 0]) ∧ Below w.heap.size w w'
set_option maxRecDepth 100000 in
set_option maxHeartbeats 8000000 in
theorem make_in {T : World → Prop} (V : ValidIn T) (n : NodeS) (k : Nat) (v : Value) (pn : Nat) (w : World) (hk : n.kind = (k : Nat)) (hf : n.fits) (ok : NodeOk n) (hp : PartsAt w v pn) (hn : pn ≤ 1024) (hh : pn = 0 ∨ holdB k = true) (h6 : pn ≤ 1 ∨ k ≠ 6) (hT : T w) :
    CallsIn FF 0 Tryz.prog 65 #[n.val, v] w (MakePost (tyK k) w) := by
  have hk1 : 1 ≤ k := by have := ok.k1; omega
  have hk2 : k ≤ 10 := by have := ok.k2; omega
  obtain ⟨p, c, rfl⟩ : ∃ p c, v = .slice p pn c := by
    rcases hp with ⟨rfl, rfl⟩ | ⟨b, c, rfl, _⟩
    · exact ⟨_, _, rfl⟩
    · exact ⟨_, _, rfl⟩
  have e89 : ∀ args w, (callFunc 89 args).run Tryz.prog w = .ok (.enter 89 args) w := enters_of Tryz.func89 (by kernel_rfl) rfl
  have e90 : ∀ args w, (callFunc 90 args).run Tryz.prog w = .ok (.enter 90 args) w := enters_of Tryz.func90 (by kernel_rfl) rfl
  have hold := holdK k hk1 hk2
  have hfr := fun (cs : List Value) (hl : cs.length = 20) (w : World) => fresh_in k hk1 hk2 cs hl w
  generalize tyK k = t at hold hfr ⊢
  have hb0 : Below w.heap.size w (w.alloc (.cells n.cells.toArray 68)) := (Below.refl _ _).alloc (Nat.le_refl _) _
  have cM := check_ok V n (w.alloc (.cells n.cells.toArray 68)) hf ok (V.below _ _ hT hb0)
  have rN := range_new w n.cells 68
  have c17 : (w.alloc (.cells n.cells.toArray 68)).cell? ⟨w.heap.size, 17, none⟩ = some (.slice n.wrapsP n.wrapsN n.wrapsC) := by have := rN 17 _ rfl; rwa [Nat.zero_add] at this
  have c18 : (w.alloc (.cells n.cells.toArray 68)).cell? ⟨w.heap.size, 18, none⟩ = some (.slice n.kidsP n.kidsN n.kidsC) := by have := rN 18 _ rfl; rwa [Nat.zero_add] at this
  have HP := Lib.hid hp
  have HK := Lib.hid hk
  have HF := Lib.hid hfr
  have HO := Lib.hid hold
  clear hp hf ok hk hfr hold
  have z0 : ¬ (1024 : Int) < (pn : Nat) := by omega
  gi_enter Tryz.func65, Tryz.ntmps65
  gi_upto_region 7 with (first
    | (refine wpListIn_val (fun _ h => nomatch h) (fun _ h => nomatch h) (by rfl) (x_box (t := 68) (cs := n.cells.toArray) rfl) ?_)
    | (refine wpListIn_load_row (by rfl) 68 _ rfl w.heap.size 0 rfl n.cells rN _ Tryz.underlying68 rfl (by kernel_rfl) n.val rfl ?_)
    | (gi_at_call 88; (with_reducible refine CallsIn.mono cM ?_); rintro e w' ⟨rfl, hb⟩
       have k17 := (hb.cell (p := ⟨w.heap.size, 17, none⟩) (by simp)).trans c17
       have k18 := (hb.cell (p := ⟨w.heap.size, 18, none⟩) (by simp)).trans c18
       have f17 := (hb.frozen (p := ⟨w.heap.size, 17, none⟩) (by simp)).trans (World.frozen?_alloc_new w _ _ _)
       have f18 := (hb.frozen (p := ⟨w.heap.size, 18, none⟩) (by simp)).trans (World.frozen?_alloc_new w _ _ _)
       have k18b : (w'.setCell ⟨w.heap.size, 17, none⟩ (.slice none 0 0)).cell? ⟨w.heap.size, 18, none⟩ = _ := (World.cell?_setCell_other _ _ _ _ (by intro e; cases e)).trans k18))
  have hbw : Below w.heap.size w ((w'.setCell ⟨w.heap.size, 17, none⟩ (.slice none 0 0)).setCell ⟨w.heap.size, 18, none⟩ (.slice none 0 0)) :=
    ((hb0.trans (hb.mono (by simp))).setCell (Nat.le_refl _) _).setCell (Nat.le_refl _) _
  have hbx := nil_cells (w := w') (b := w.heap.size) (n := n) (range_below rN hb)
  clear k17 k18 f17 f18 k18b hb hb0 cM rN c17 c18
  generalize (w'.setCell ⟨w.heap.size, 17, none⟩ (.slice none 0 0)).setCell ⟨w.heap.size, 18, none⟩ (.slice none 0 0) = W at hbw hbx ⊢
  clear w'
  gi_cut [7] from 50 (fun s7 wc => (∃ M, s7 = .iface t (.pointer (some ⟨M, 0, none⟩))) ∧ Below W.heap.size W wc)
  case first =>
    rename_i J K' hJ hM
    refine region_inv [20, 21, 22, 23, 24, 25, 26, 7] (fun L ev w' => Below W.heap.size W w' ∧ (L 0 = true → ev 20 = .pointer (some ⟨w.heap.size, 0, none⟩)) ∧ (L 1 = true → ev 21 = .int .u8 (k : Nat)) ∧ (L 2 = true → ∃ cs : List Value, ev 22 = .agg cs.toArray ∧ cs.length = 19) ∧
      (L 3 = true → ev 23 = .slice p pn c) ∧ (L 4 = true → ∃ p n c, ev 24 = .slice p n c) ∧ (L 5 = true → ∃ cs : List Value, ev 25 = .agg cs.toArray ∧ cs.length = 20) ∧ (L 6 = true → ∃ M, ev 26 = .iface t (.pointer (some ⟨M, 0, none⟩))) ∧ (L 7 = true → ∃ M, ev 7 = .iface t (.pointer (some ⟨M, 0, none⟩))))
      (by kernel_rfl) (by kernel_rfl) ⟨(Below.refl _ W).drew, fun h => (by cases h), fun h => (by cases h), fun h => (by cases h), fun h => (by cases h), fun h => (by cases h), fun h => (by cases h), fun h => (by cases h), fun h => (by cases h)⟩ ?_ ?_
    · intro i o ho L ev a' w' hev hkeep hdep ⟨hB, i0, i1, i2, i3, i4, i5, i6, i7⟩
      have e1 : a'.eval (.tmp 1) = .slice p pn c := (hev 1).trans (hkeep 1 (by decide))
      have e2 : a'.eval (.tmp 2) = .pointer (some ⟨w.heap.size, 0, none⟩) := (hev 2).trans (hkeep 2 (by decide))
      have hbx' := range_below hbx hB
      match i, ho with
      | 0, ho =>
        cases ho
        exact OpStep.val (fun _ h => nomatch h) (fun _ h => nomatch h) (x_fieldAddr68_0 e2) ⟨hB, fun _ => rfl, i1, i2, i3, i4, i5, i6, i7⟩
      | 1, ho =>
        cases ho
        have := i0 (hdep 0 (by decide))
        exact OpStep.val (fun _ h => nomatch h) (fun _ h => nomatch h) (x_load5 ((hev 20).trans this) (hbx' 0 _ rfl)) ⟨hB, i0, fun _ => (by rw [← HK.out]; rfl), i2, i3, i4, i5, i6, i7⟩
      | 2, ho =>
        cases ho
        exact OpStep.val (fun _ h => nomatch h) (fun _ h => nomatch h) (x_load68 e2 hbx') ⟨hB, i0, i1, fun _ => ⟨(bare n).cells, rfl, rfl⟩, i3, i4, i5, i6, i7⟩
      | 3, ho =>
        cases ho
        exact OpStep.val (fun _ h => nomatch h) (fun _ h => nomatch h) x_move ⟨hB, i0, i1, i2, fun _ => e1, i4, i5, i6, i7⟩
      | 4, ho =>
        cases ho
        have := i3 (hdep 3 (by decide))
        refine OpStep.call (fun _ h => nomatch h) (abF rfl) (x_call1 e90 ((hev 23).trans this) rfl) ?_
        refine CallsIn.mono (clone_in _ pn w' (HP.out.below (hbw.trans (hB.mono hbw.size))) hn) fun e w'' ⟨p', n', c', he, hb'⟩ => ?_
        exact ⟨_, he, hB.trans (hb'.mono hB.size), i0, i1, i2, i3, fun _ => ⟨p', n', c', rfl⟩, i5, i6, i7⟩
      | 5, ho =>
        cases ho
        obtain ⟨cs, h1, h2⟩ := i2 (hdep 2 (by decide))
        obtain ⟨p', n', c', h3⟩ := i4 (hdep 4 (by decide))
        obtain ⟨es, h4, h5⟩ := x_build166 (w := w') (d := some 25) (ty := 166) (pos := _) (after := _) (guard := none) h2 ((hev 22).trans h1) ((hev 24).trans h3)
        exact OpStep.val (fun _ h => nomatch h) (fun _ h => nomatch h) h5 ⟨hB, i0, i1, i2, i3, i4, fun _ => ⟨es, rfl, h4⟩, i6, i7⟩
      | 6, ho =>
        cases ho
        have h1 := i1 (hdep 1 (by decide))
        obtain ⟨cs, h2, h3⟩ := i5 (hdep 5 (by decide))
        refine OpStep.call (fun _ h => nomatch h) (abF rfl) (x_call2 e89 ((hev 21).trans h1) ((hev 25).trans h2) rfl) ?_
        refine CallsIn.mono (HF.out cs h3 w') fun e w'' ⟨M, he, hb'⟩ => ?_
        exact ⟨_, he, hB.trans (hb'.mono hB.size), i0, i1, i2, i3, i4, i5, fun _ => ⟨M, rfl⟩, i7⟩
      | 7, ho =>
        cases ho
        obtain ⟨M, h1⟩ := i6 (hdep 6 (by decide))
        exact OpStep.val (fun _ h => nomatch h) (fun _ h => nomatch h) x_assign ⟨hB, i0, i1, i2, i3, i4, i5, i6, fun _ => ⟨M, (hev 26).trans h1⟩⟩
      | i + 8, ho => exact absurd ho (by simp)
    · intro L ev w' hall ⟨hB, _, _, _, _, _, _, _, i7⟩
      refine hM _ _ (hJ _ _ ?_)
      simp only [List.foldl_cons, List.foldl_nil, List.setIfInBounds_toArray, List.set_cons_succ, List.set_cons_zero]
      (repeat apply Exists.intro)
      refine ⟨?rel, rfl⟩
      case rel => exact ⟨i7 (hall 7 (by decide)), hB⟩
  case rest =>
    obtain ⟨⟨M, rfl⟩, hB⟩ := hcut
    obtain ⟨x, hx⟩ := HO.out (.pointer (some ⟨M, 0, none⟩))
    have hbf : Below w.heap.size w wc := hbw.trans (hB.mono hbw.size)
    have hck : wc.cell? ⟨w.heap.size, 0, none⟩ = some (.int .u8 (k : Nat)) := by
      rw [← HK.out]
      exact (hB.cell (cell_lt (hbx 0 _ rfl))).trans (hbx 0 _ rfl)
    clear HO HF HP HK hbx hbw hB e89 e90
    have hpn : pn = 0 ∨ pn = 1 ∨ 2 ≤ pn := by omega
    rcases hpn with hpn | hpn | hpn
    · subst hpn
      generalize holdB k = b at hx
      clear hh h6
      gi_wp2
      go_ret2
      exact ⟨M, rfl, hbf⟩
    · subst hpn
      have hb1 : holdB k = true := by rcases hh with h | h; · cases h
                                      · exact h
      rw [hb1] at hx
      clear hh h6 hb1
      gi_wp2
      go_ret2
      exact ⟨M, rfl, hbf⟩
    · have hb1 : holdB k = true := by rcases hh with h | h; · omega
                                      · exact h
      rw [hb1] at hx
      have hk6 : ((k : Int) == 6) = false := by rw [beq_eq_false_iff_ne]; omega
      have q1 : (0 : Int) < (pn : Nat) := by omega
      have q2 : (1 : Int) < (pn : Nat) := by omega
      clear hh h6 hb1 hpn
      gi_wp2
      go_ret2
      exact ⟨M, rfl, hbf⟩
end Go.Proofs.YthjofgmiabcifabGreatDoor.Sq
