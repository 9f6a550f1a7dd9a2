/-
  The parts of the reference are made.
  Conditions: as each theorem says.
-/
import Derived.Test.YthjofgmiabcifabGreatDoorPSc
import Derived.Test.YthjofgmiabcifabGreatDoorPSe
import Derived.Test.YthjofgmiabcifabGreatDoorPRb
import Derived.Laws.IdiomCopy
import Derived.Laws.ResultCell
set_option linter.unusedVariables false
set_option linter.unusedSimpArgs false
namespace Go.Proofs.YthjofgmiabcifabGreatDoor.Sq
open Go Go.RowKit
theorem hold_bit {k : Nat} (h : holdB k = true) : (bits .and .u16 (canK (k : Nat)) 32 == 0) = false := by
  unfold holdB at h
  have h := of_decide_eq_true h
  rcases h with rfl | rfl | rfl | rfl <;> decide +kernel
set_option maxRecDepth 100000 in
set_option maxHeartbeats 8000000 in
theorem make6_in {T : World → Prop} (V : ValidIn T) (n : NodeS) (k : Nat) (pn : Nat) (w : World) (hk : n.kind = (k : Nat)) (hf : n.fits) (ok : NodeOk n) (hn : pn ≤ 1024) (hh : pn = 0 ∨ holdB k = true) (h6 : pn ≤ 1 ∨ k ≠ 6) (hT : T w) :
    Gives 70 #[n.val, .int .i64 (pn : Nat)] w (.int .i64 0) := by
  have hb0 : Below w.heap.size w (w.alloc (.cells n.cells.toArray 68)) := (Below.refl _ _).alloc (Nat.le_refl _) _
  have cM := node6_ok V n (w.alloc (.cells n.cells.toArray 68)) hf ok (V.below _ _ hT hb0)
  have rN := range_new w n.cells 68
  have c0 : (w.alloc (.cells n.cells.toArray 68)).cell? ⟨w.heap.size, 0, none⟩ = some (.int .u8 (k : Nat)) := by rw [← hk]; exact rN 0 _ rfl
  have c39 := fun w' => rcanK_in (k : Nat) w'
  have HB := Lib.hid hb0
  clear hf ok hk hb0
  have z0 : ¬ (1024 : Int) < (pn : Nat) := by omega
  have hpn : pn = 0 ∨ pn = 1 ∨ 2 ≤ pn := by omega
  rcases hpn with hpn | hpn | hpn
  · subst hpn
    clear hh h6
    gi_enter Tryz.func70, Tryz.ntmps70
    gi_wp2_with (first
      | (refine wpListIn_val (fun _ h => nomatch h) (fun _ h => nomatch h) (by rfl) (x_box (t := 68) (cs := n.cells.toArray) rfl) ?_)
      | (refine wpListIn_load_row (by rfl) 68 _ rfl w.heap.size 0 rfl n.cells rN _ Tryz.underlying68 rfl (by kernel_rfl) n.val rfl ?_)
      | (gi_at_call 95; (with_reducible refine CallsIn.mono cM ?_); rintro e w' ⟨rfl, hb⟩
         have k0 := (hb.cell (cell_lt c0)).trans c0))
    go_ret
    exact ⟨rfl, HB.out.trans (hb.mono (by simp))⟩
  · subst hpn
    have hb1 : holdB k = true := by
      rcases hh with h | h
      · cases h
      · exact h
    have hbit := hold_bit hb1
    generalize canK (k : Nat) = cK at hbit c39
    clear hh h6 hb1
    gi_enter Tryz.func70, Tryz.ntmps70
    gi_wp2_with (first
      | (refine wpListIn_val (fun _ h => nomatch h) (fun _ h => nomatch h) (by rfl) (x_box (t := 68) (cs := n.cells.toArray) rfl) ?_)
      | (refine wpListIn_load_row (by rfl) 68 _ rfl w.heap.size 0 rfl n.cells rN _ Tryz.underlying68 rfl (by kernel_rfl) n.val rfl ?_)
      | (gi_at_call 95; (with_reducible refine CallsIn.mono cM ?_); rintro e w' ⟨rfl, hb⟩
         have k0 := (hb.cell (cell_lt c0)).trans c0)
      | (gi_at_call 39; (with_reducible refine CallsIn.mono (c39 _) ?_); rintro e w'' ⟨rfl, rfl⟩))
    go_ret
    exact ⟨rfl, HB.out.trans (hb.mono (by simp))⟩
  · have hb1 : holdB k = true := by
      rcases hh with h | h
      · omega
      · exact h
    have hbit := hold_bit hb1
    generalize canK (k : Nat) = cK at hbit c39
    have hk6 : ((k : Int) == 6) = false := by rw [beq_eq_false_iff_ne]; omega
    have q1 : (0 : Int) < (pn : Nat) := by omega
    have q2 : (1 : Int) < (pn : Nat) := by omega
    clear hh h6 hb1 hpn
    gi_enter Tryz.func70, Tryz.ntmps70
    gi_wp2_with (first
      | (refine wpListIn_val (fun _ h => nomatch h) (fun _ h => nomatch h) (by rfl) (x_box (t := 68) (cs := n.cells.toArray) rfl) ?_)
      | (refine wpListIn_load_row (by rfl) 68 _ rfl w.heap.size 0 rfl n.cells rN _ Tryz.underlying68 rfl (by kernel_rfl) n.val rfl ?_)
      | (gi_at_call 95; (with_reducible refine CallsIn.mono cM ?_); rintro e w' ⟨rfl, hb⟩
         have k0 := (hb.cell (cell_lt c0)).trans c0)
      | (gi_at_call 39; (with_reducible refine CallsIn.mono (c39 _) ?_); rintro e w'' ⟨rfl, rfl⟩))
    go_ret
    exact ⟨rfl, HB.out.trans (hb.mono (by simp))⟩
end Go.Proofs.YthjofgmiabcifabGreatDoor.Sq
namespace Go.Proofs.YthjofgmiabcifabGreatDoor.Sq
open Go Go.RowKit
def partCells (what : Int) (n : NodeS) (v : Value) : List Value := .int .i64 what :: (n.cells ++ [v])
def partVal (what : Int) (n : NodeS) (v : Value) : Value := .agg (partCells what n v).toArray
theorem partCells_len (what : Int) (n : NodeS) (v : Value) : (partCells what n v).length = 21 := rfl
theorem partCells_one (what : Int) (n : NodeS) (p : Option Addr) (m c : Nat) : (partCells what n (.slice p m c)).all (·.oneCell') = true := rfl
def nodeZ : NodeS := ⟨0, ⟨#[]⟩, ⟨#[]⟩, ⟨#[]⟩, 0, 0, 0, 0, 0, 0, false, 0, 0, 0, 0, 0, false, none, 0, 0, none, 0, 0⟩
theorem size70 : (Tryz.prog.info? 70).map (·.size) = some 21 := by kernel_rfl
section
variable {ρ : Operand → Value} {w : World} {d : Option Tmp} {ty : TypeId} {pos : String} {after : Array Edge} {guard : Option (Nat × Bool)} {x y : Operand}
theorem x_load70 {b o : Nat} {what : Int} {n : NodeS} {v : Value} (h : ρ x = .pointer (some ⟨b, o, none⟩)) (hc : w.rangeAt b o (partCells what n v)) : (execOp ρ ⟨d, .load 70 x, ty, pos, after, guard⟩).run Tryz.prog w = .ok (.value (partVal what n v)) w := by
  have := run_loadAt_mid (P := Tryz.prog) w b o 70 (partCells what n v) _ hc Tryz.underlying70 rfl size70
  unfold execOp
  simp only [h, Sem.run_bind, this, Result.andThen_ok, Sem.run_pure]
  rfl
theorem x_store70 {b o : Nat} {what : Int} {n : NodeS} {p : Option Addr} {m c : Nat} (h : ρ x = .pointer (some ⟨b, o, none⟩)) (h2 : ρ y = partVal what n (.slice p m c)) (ht : w.there b o 21) :
    (execOp ρ ⟨d, .store 70 x y, ty, pos, after, guard⟩).run Tryz.prog w = .ok .skip (w.setCells b o (partCells what n (.slice p m c))) := by
  have := run_storeVar_mid (P := Tryz.prog) w b o 70 (partCells what n (.slice p m c)).toArray ht size70 (by simpa using partCells_one what n p m c)
  unfold execOp
  unfold partVal at h2
  simp only [h, h2, Instr.storeAt, Instr.sureAddr, Sem.run_bind, Sem.run_pure, Result.andThen_ok, this]
theorem x_build70_1 {what : Int} (h : ρ x = .int .i64 what) : (execOp ρ ⟨d, .build 70 #[(0, x)], ty, pos, after, guard⟩).run Tryz.prog w = .ok (.value (partVal what nodeZ (.slice none 0 0))) w := by
  unfold partVal partCells nodeZ NodeS.cells
  go_simp
theorem x_build70_2 {what : Int} {n : NodeS} (h : ρ x = .int .i64 what) (h2 : ρ y = n.val) : (execOp ρ ⟨d, .build 70 #[(0, x), (1, y)], ty, pos, after, guard⟩).run Tryz.prog w = .ok (.value (partVal what n (.slice none 0 0))) w := by
  unfold NodeS.val NodeS.cells at h2
  unfold partVal partCells NodeS.cells
  go_simp
end
theorem setCells_size (b : Nat) : ∀ (vs : List Value) (o : Nat) (w : World), (w.setCells b o vs).heap.size = w.heap.size
  | [], _, _ => rfl
  | v :: r, o, w => by rw [World.setCells, setCells_size b r, World.size_setCell]
theorem setCells_below {B : Nat} {a : World} (b : Nat) (hb : B ≤ b) : ∀ (vs : List Value) (o : Nat) (w : World), Below B a w → Below B a (w.setCells b o vs)
  | [], _, _, h => h
  | v :: r, o, w, h => setCells_below b hb r (o + 1) _ (h.setCell hb v)
theorem setCells_far {b o : Nat} {vs : List Value} {w : World} {x : Addr} (h : x.block ≠ b) : (w.setCells b o vs).cell? x = w.cell? x := World.cell?_setCells_out b vs o w x fun e => absurd e h
theorem setCells_range {b : Nat} {vs : List Value} {w : World} (h : w.there b 0 vs.length) : (w.setCells b 0 vs).rangeAt b 0 vs := fun i v hi => by
  have hl : i < vs.length := (List.getElem?_eq_some_iff.1 hi).1
  have := World.cell?_setCells_in b vs 0 w (fun j hj => (h j hj).1) i hl
  rw [this]
  rw [List.getElem?_eq_getElem hl] at hi
  exact hi
theorem there_keep {w w' : World} {b n : Nat} (h : w.there b 0 n) (hb : Below w.heap.size w w') (hl : b < w.heap.size) : w'.there b 0 n := fun j hj =>
  ⟨by rw [hb.cell (p := ⟨b, 0 + j, none⟩) hl]; exact (h j hj).1, (hb.frozen (p := ⟨b, 0 + j, none⟩) hl).trans (h j hj).2⟩
end Go.Proofs.YthjofgmiabcifabGreatDoor.Sq
namespace Go.Proofs.YthjofgmiabcifabGreatDoor.Sq
open Go Go.RowKit
def wcells (x : WrapS) : List Value := [.int .u8 x.kind, .int .u16 x.mask, .int .i64 x.number, .string x.text]
def flat : List WrapS → List Value
  | [] => []
  | x :: ws => wcells x ++ flat ws
theorem flat_len : ∀ ws : List WrapS, (flat ws).length = ws.length * 4
  | [] => rfl
  | x :: ws => by rw [flat, List.length_append, flat_len ws, List.length_cons]; simp [wcells]; omega
theorem flat_one : ∀ ws : List WrapS, ∀ u ∈ flat ws, u.oneCell' = true
  | [], u, h => by cases h
  | x :: ws, u, h => by
    rcases List.mem_append.1 h with h | h
    · simp [wcells] at h
      rcases h with rfl | rfl | rfl | rfl <;> rfl
    · exact flat_one ws u h
theorem flat_app (ws vs : List WrapS) : flat (ws ++ vs) = flat ws ++ flat vs := by
  induction ws with
  | nil => rfl
  | cons x ws ih => rw [List.cons_append, flat, flat, ih, List.append_assoc]
theorem flat_get : ∀ (ws : List WrapS) (i : Nat) (h : i < ws.length) (j : Nat), j < 4 → (flat ws)[i * 4 + j]? = (wcells ws[i])[j]?
  | x :: ws, 0, _, j, hj => by
    rw [flat, List.getElem?_append_left (by simp [wcells]; omega), Nat.zero_mul, Nat.zero_add]
    rfl
  | x :: ws, i + 1, h, j, hj => by
    rw [flat, List.getElem?_append_right (by simp [wcells]; omega)]
    have := flat_get ws i (by simpa using h) j hj
    rw [show (i + 1) * 4 + j - (wcells x).length = i * 4 + j by simp [wcells]; omega]
    exact this
/-- A slice of wrappers that is nil just where there are none. -/
def WrapsN (w : World) (v : Value) (ws : List WrapS) : Prop := (ws = [] ∧ v = .slice none 0 0) ∨ ∃ b o cap, v = .slice (some ⟨b, o, none⟩) ws.length cap ∧ ∀ i (h : i < ws.length), WrapAt w b (o + i * 4) ws[i]
theorem WrapsN.below {w w' : World} {v : Value} {ws : List WrapS} (h : WrapsN w v ws) (hb : Below w.heap.size w w') : WrapsN w' v ws := by
  rcases h with h | ⟨b, o, cap, h1, h2⟩
  · exact .inl h
  · exact .inr ⟨b, o, cap, h1, fun i hi => (h2 i hi).below hb⟩
theorem WrapsN.len {w : World} {p : Option Addr} {m c : Nat} {ws : List WrapS} (h : WrapsN w (.slice p m c) ws) : ws.length = m := by
  rcases h with ⟨rfl, h⟩ | ⟨b, o, cap, h, _⟩
  · cases h; rfl
  · cases h; rfl
theorem WrapsN.cells {w : World} {b o m cap : Nat} {ws : List WrapS} (h : ∀ i (h : i < ws.length), WrapAt w b (o + i * 4) ws[i]) : ∀ j u, (flat ws)[j]? = some u → w.cell? ((⟨b, o, none⟩ : Addr).add j) = some u := by
  intro j u hj
  have hl : j < ws.length * 4 := by have := (List.getElem?_eq_some_iff.1 hj).1; rwa [flat_len] at this
  have hi : j / 4 < ws.length := by omega
  obtain ⟨h0, h1, h2, h3, h4⟩ := h (j / 4) hi
  have e : j = j / 4 * 4 + j % 4 := by omega
  rw [e, flat_get ws (j / 4) hi (j % 4) (by omega)] at hj
  rw [Addr.add_lit, e]
  generalize j / 4 = q at *
  have hr : j % 4 = 0 ∨ j % 4 = 1 ∨ j % 4 = 2 ∨ j % 4 = 3 := by omega
  rcases hr with hr | hr | hr | hr
  all_goals
    rw [hr] at hj ⊢
    cases hj
  · exact h0
  · rw [← Nat.add_assoc]; exact h1
  · rw [← Nat.add_assoc]; exact h2
  · rw [← Nat.add_assoc]; exact h3
theorem owns_wraps {w : World} {base : Nat} {v : Value} {ws : List WrapS} (hs : ∀ x ∈ ws, x.text.size ≤ maxLen) (h : w.ownsRow base 103 4 v ws.length (flat ws)) : WrapsN w v ws := by
  rcases h.2 with ⟨h1, h2⟩ | ⟨g, cap, cur, h1, _, h2, h3, _, h4, h5⟩
  · exact .inl ⟨List.eq_nil_of_length_eq_zero h2, h1⟩
  · refine .inr ⟨g, 0, cap, h1, fun i hi => ?_⟩
    have hc : ∀ j, j < 4 → ∀ u, (wcells ws[i])[j]? = some u → w.cell? ⟨g, 0 + i * 4 + j, none⟩ = some u := by
      intro j hj u hu
      rw [← flat_get ws i hi j hj, ← h5, List.getElem?_take_of_lt (by omega)] at hu
      rw [Nat.zero_add]
      simp only [World.cell?, h2]
      simpa using hu
    exact ⟨hc 0 (by omega) _ rfl, hc 1 (by omega) _ rfl, hc 2 (by omega) _ rfl, hc 3 (by omega) _ rfl, hs _ (List.getElem_mem hi)⟩
theorem WrapsN.sizes {w : World} {v : Value} {ws : List WrapS} (h : WrapsN w v ws) : ∀ x ∈ ws, x.text.size ≤ maxLen := by
  intro x hx
  rcases h with ⟨rfl, _⟩ | ⟨b, o, cap, _, h⟩
  · cases hx
  · obtain ⟨i, hi, rfl⟩ := List.getElem_of_mem hx
    exact (h i hi).size
theorem info103 : (Tryz.prog.info? 103).map (fun i => (i.zero, i.size, i.bytes)) = some (some (.agg #[.int .u8 0, .int .u16 0, .int .i64 0, .string ⟨#[]⟩]), 4, 32) := by kernel_rfl
/-- A store into a place that is there. -/
theorem wpListIn_sk {F : Fence} {n : Nat} {P : Program} {ops : Array Oper} {Q : Exit → Act → World → Prop} {a : Act} {w w' : World} {rest : List Oper} {o : Oper} (hc : ∀ c, o.op ≠ .call c) (hd : ∀ c, o.op ≠ .defer c)
    (hgd : Region.wanted o (yielded ops a.tmps) = true) (hr : (execOp a.eval o).run P w = .ok .skip w') (h : wpListIn F n P ops Q rest (a.put o.dst undef) w') : wpListIn F n P ops Q (o :: rest) a w := by
  unfold wpListIn
  rw [if_pos hgd]
  unfold Oper.wpIn
  refine ⟨fun f hf => ?_, ?_⟩
  · unfold Oper.about at hf
    cases ho : o.op <;> simp only [ho] at hf <;> first | cases hf | exact absurd ho (hc _)
  · rw [Oper.semAt_eq _ _ _ hd, hr]
    exact h
theorem wpListIn_v (op' : Op) {F : Fence} {n : Nat} {P : Program} {ops : Array Oper} {Q : Exit → Act → World → Prop} {a : Act} {w w' : World} {rest : List Oper} {o : Oper} {v : Value} (ho : o.op = op') (hc : ∀ c, op' ≠ .call c) (hd : ∀ c, op' ≠ .defer c)
    (hgd : Region.wanted o (yielded ops a.tmps) = true) (hr : ∀ d ty pos after guard, (execOp a.eval ⟨d, op', ty, pos, after, guard⟩).run P w = .ok (.value v) w') (h : wpListIn F n P ops Q rest (a.put o.dst v) w') : wpListIn F n P ops Q (o :: rest) a w := by
  subst ho
  exact wpListIn_val hc hd hgd (hr _ _ _ _ _) h
theorem wpListIn_s (op' : Op) {F : Fence} {n : Nat} {P : Program} {ops : Array Oper} {Q : Exit → Act → World → Prop} {a : Act} {w w' : World} {rest : List Oper} {o : Oper} (ho : o.op = op') (hc : ∀ c, op' ≠ .call c) (hd : ∀ c, op' ≠ .defer c)
    (hgd : Region.wanted o (yielded ops a.tmps) = true) (hr : ∀ d ty pos after guard, (execOp a.eval ⟨d, op', ty, pos, after, guard⟩).run P w = .ok .skip w') (h : wpListIn F n P ops Q rest (a.put o.dst undef) w') : wpListIn F n P ops Q (o :: rest) a w := by
  subst ho
  exact wpListIn_sk hc hd hgd (hr _ _ _ _ _) h
/-- 'append' of a slice of wrappers, nil or not. -/
theorem wpListIn_append_ws {F : Fence} {n : Nat} {ops : Array Oper} {rest : List Oper} {o : Oper} {a : Act} {w : World} {Q : Exit → Act → World → Prop}
    (hg : o.guard = none) (s x : Operand) (hop : o.op = Op.call { callee := Callee.builtin Builtin.append, args := #[s, x], argTypes := #[65, 65] })
    (base : Nat) (v : Value) (ks : List WrapS) (hs : a.eval s = v) (hown : w.ownsRow base 103 4 v ks.length (flat ks)) (p : Option Addr) (m c : Nat) (ws : List WrapS) (hx : a.eval x = .slice p m c) (hw : WrapsN w (.slice p m c) ws) (hn : ks.length + ws.length ≤ 1000) (b3 : base ≤ w.heap.size)
    (hK : ∀ v' w', w'.ownsRow base 103 4 v' (ks ++ ws).length (flat (ks ++ ws)) → w.grownBy w' v.ownBlock → wpListIn F n Tryz.prog ops Q rest (a.put o.dst v') w') :
    wpListIn F n Tryz.prog ops Q (o :: rest) a w := by
  obtain ⟨i0, hi, hz0, hz1, hz2⟩ := info_parts info103
  rcases hw with ⟨rfl, e⟩ | ⟨b, off, cap, e, hc⟩
  · cases e
    refine wpListIn_plain hg fun K hK' => ?_
    have hrun := run_append_owned_none (P := Tryz.prog) w base 65 o.type 103 i0 4 Tryz.underlying65 hi v ks.length (flat ks) hown
    unfold Oper.wpIn
    refine ⟨?_, ?_⟩
    · simp [Oper.about, hop, resolve, Target.leads, Sem.run_pure]
    · rw [Oper.semAt_plain F _ _ (by rw [hop]; intro c hc'; cases hc')]
      simp [execOp, hop, resolve, invoke, builtin, hs, hx, hrun, Result.andThen]
      exact hK' _ _ (hK v w (by simpa using hown) (World.grownBy.refl _ _))
  · cases e
    refine wpListIn_append_own w hg s x 65 hop base 103 i0 _ 4 32 Tryz.underlying65 hi hz0 hz1 hz2 rfl (by decide) v ks.length (flat ks) hs hown ⟨b, off, none⟩ ws.length c (flat ws) hx (flat_len ws) (WrapsN.cells (m := 0) (cap := 0) hc) (flat_one ws) (by unfold maxLen; omega) (by omega) b3 ?_
    intro v' w' h1 h2 _
    exact hK v' w' (by rw [List.length_append, flat_app]; exact h1) h2
end Go.Proofs.YthjofgmiabcifabGreatDoor.Sq
namespace Go.Proofs.YthjofgmiabcifabGreatDoor.Sq
open Go Go.RowKit
/-- What a part can, by the rules. -/
def ableP (what : Int) (n : NodeS) (ws : List WrapS) : Int := ws.foldl saysI (if what = 1 then canK n.kind else 0)
/-- A part as data and no error. -/
def DataPost (j : Nat) (c : Int) (w : World) (e : Ending) (w' : World) : Prop := ∃ what n p m c' ws, e = .returned (.tuple #[partVal what n (.slice p m c'), .int .i64 0]) ∧ Below w.heap.size w w' ∧ WrapsN w' (.slice p m c') ws ∧ ws.length ≤ j ∧ (what = 1 ∨ what = 3) ∧ (∀ y ∈ ws, Set6 y.mask) ∧ ableP what n ws = c ∧ (∀ a, p = some a → w.heap.size ≤ a.block) ∧ ∀ a, p = some a → ∃ cs f, w'.heap[a.block]? = some (.cells cs 103 f)
theorem load70 {b : Nat} {what : Int} {n : NodeS} {v : Value} {w : World} (hc : w.rangeAt b 0 (partCells what n v)) : (loadVar 70 ⟨b, 0, none⟩).run Tryz.prog w = .ok (partVal what n v) w :=
  run_loadVar_mid (P := Tryz.prog) w b 0 70 (partCells what n v) _ hc Tryz.underlying70 rfl size70
theorem results_ct {fn : Func} {tmps : Array Value} {w : World} {p u : Tmp} {t1 : TypeId} {a1 : Addr} {v1 v2 : Value} (h : fn.results = #[.cell p t1, .tmp u]) (hp : tmps.getD p undef = .pointer (some a1)) (hu : tmps.getD u undef = v2)
    (h1 : (loadVar t1 a1).run Tryz.prog w = .ok v1 w) : (results fn tmps).run Tryz.prog w = .ok (.tuple #[v1, v2]) w := by
  subst hu
  rw [results_cell_tmp h, hp]
  simp [asAddr, Result.andThen, h1]
theorem range_shift {w : World} {b : Nat} {what : Int} {n : NodeS} {v : Value} (h : w.rangeAt b 0 (partCells what n v)) : w.rangeAt b 1 n.cells := fun i u hi => by
  have hl : i < n.cells.length := (List.getElem?_eq_some_iff.1 hi).1
  have := h (i + 1) u (by unfold partCells; rw [List.getElem?_cons_succ, List.getElem?_append_left hl]; exact hi)
  rw [show 0 + (i + 1) = 1 + i by omega] at this
  exact this
theorem range_last {w : World} {b : Nat} {what : Int} {n : NodeS} {v : Value} (h : w.rangeAt b 0 (partCells what n v)) : w.cell? ⟨b, 20, none⟩ = some v := h 20 v rfl
theorem range_first {w : World} {b : Nat} {what : Int} {n : NodeS} {v : Value} (h : w.rangeAt b 0 (partCells what n v)) : w.cell? ⟨b, 0, none⟩ = some (.int .i64 what) := h 0 _ rfl
/-- The last cell turned. -/
theorem range_turn {w : World} {b : Nat} {what : Int} {n : NodeS} {v : Value} (h : w.rangeAt b 0 (partCells what n v)) (v' : Value) : (w.setCell ⟨b, 20, none⟩ v').rangeAt b 0 (partCells what n v') := fun i u hi => by
  by_cases e : i = 20
  · subst e
    have e2 : u = v' := by
      have : (partCells what n v')[20]? = some v' := rfl
      rw [this] at hi
      exact (Option.some.inj hi).symm
    subst e2
    exact World.cell?_setCell_same _ _ _ (range_last h)
  · rw [World.cell?_setCell_other _ _ _ _ (fun e2 => e (by have := congrArg Addr.off e2; simp only at this; omega))]
    refine h i u ?_
    have hl : i < 21 := by have := (List.getElem?_eq_some_iff.1 hi).1; rwa [partCells_len] at this
    have hl2 : i < 20 := by omega
    unfold partCells at hi ⊢
    cases i with
    | zero => exact hi
    | succ i =>
      have h19 : i < n.cells.length := by show i < 19; omega
      rw [List.getElem?_cons_succ, List.getElem?_append_left h19] at hi ⊢
      exact hi
theorem ableP_app (what : Int) (n : NodeS) (ws : List WrapS) (x : WrapS) : ableP what n (ws ++ [x]) = saysI (ableP what n ws) x := by
  unfold ableP
  rw [List.foldl_append]
  rfl
section
variable {ρ : Operand → Value} {w : World} {d : Option Tmp} {ty : TypeId} {pos : String} {after : Array Edge} {guard : Option (Nat × Bool)} {x y : Operand}
theorem x_buildSlice65 {u : WrapS} (h : ρ x = u.val) : (execOp ρ ⟨d, .buildSlice 65 1 #[(0, x)], ty, pos, after, guard⟩).run Tryz.prog w = .ok (.value (.slice (some ⟨w.heap.size, 0, none⟩) 1 1)) (w.alloc (.cells #[.int .u8 u.kind, .int .u16 u.mask, .int .i64 u.number, .string u.text] 103)) := by
  unfold WrapS.val at h
  go_simp
theorem x_alloc70 : (execOp ρ ⟨d, .alloc 70, ty, pos, after, guard⟩).run Tryz.prog w = .ok (.value (.pointer (some ⟨w.heap.size, 0, none⟩))) (w.alloc (.cells (partCells 0 nodeZ (.slice none 0 0)).toArray 70)) := by
  unfold partCells nodeZ NodeS.cells
  go_simp
end
end Go.Proofs.YthjofgmiabcifabGreatDoor.Sq
