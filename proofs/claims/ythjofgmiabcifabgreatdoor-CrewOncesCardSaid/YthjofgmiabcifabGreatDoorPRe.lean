/-
  The wrappers of the reference, by the plain law.
  Conditions: as each theorem says.
-/
import Derived.Test.YthjofgmiabcifabGreatDoorPSe
import Derived.Test.YthjofgmiabcifabGreatDoorPRd
set_option linter.unusedVariables false
set_option linter.unusedSimpArgs false
namespace Go.Proofs.YthjofgmiabcifabGreatDoor.Sq
open Go Go.RowKit
theorem wpListIn_id {F : Fence} {n : Nat} {P : Program} {ops : Array Oper} {Q : Exit → Act → World → Prop} {a : Act} {w : World} {l : List Oper} (h : wpListIn F n P ops Q l a w) : wpListIn F n P ops Q l a w := h
theorem three_boxes (w : World) (pc : List Value) (x : WrapS) (zc : List Value) (hs : x.text.size ≤ maxLen) (hz : zc.length = 21) {w3 : World} (h : ((w.alloc (.cells pc.toArray 70)).alloc (.cells #[.int .u8 x.kind, .int .u16 x.mask, .int .i64 x.number, .string x.text] 103)).alloc (.cells zc.toArray 70) = w3) :
    Below w.heap.size w w3 ∧ w3.rangeAt w.heap.size 0 pc ∧ WrapAt w3 (w.heap.size + 1) 0 x ∧ w3.there (w.heap.size + 1 + 1) 0 21 ∧ w3.heap.size = w.heap.size + 3 := by
  subst h
  obtain ⟨w1, h1⟩ : ∃ w1, w.alloc (.cells pc.toArray 70) = w1 := ⟨_, rfl⟩
  have b1 : Below w.heap.size w w1 := by rw [← h1]; exact (Below.refl _ _).alloc (Nat.le_refl _) _
  have s1 : w1.heap.size = w.heap.size + 1 := by rw [← h1]; simp
  have r1 : w1.rangeAt w.heap.size 0 pc := by rw [← h1]; exact range_new w pc 70
  rw [h1]
  obtain ⟨w2, h2⟩ : ∃ w2, w1.alloc (.cells #[.int .u8 x.kind, .int .u16 x.mask, .int .i64 x.number, .string x.text] 103) = w2 := ⟨_, rfl⟩
  have b2 : Below w1.heap.size w1 w2 := by rw [← h2]; exact (Below.refl _ _).alloc (Nat.le_refl _) _
  have s2 : w2.heap.size = w1.heap.size + 1 := by rw [← h2]; simp
  have r2 : WrapAt w2 w1.heap.size 0 x := by rw [← h2]; exact ⟨by rw [cell_new]; rfl, by rw [cell_new]; rfl, by rw [cell_new]; rfl, by rw [cell_new]; rfl, hs⟩
  rw [h2]
  have b3 : Below w2.heap.size w2 (w2.alloc (.cells zc.toArray 70)) := (Below.refl _ _).alloc (Nat.le_refl _) _
  have b23 := b2.trans (b3.mono b2.size)
  refine ⟨b1.trans (b23.mono b1.size), range_below (range_below r1 b2) b3, ?_, ?_, by rw [World.size_alloc, s2, s1]⟩
  · rw [← s1]; exact r2.below b3
  · have := there_new w2 zc.toArray 70 21 (by simp [hz])
    rwa [s2, s1] at this
theorem grown_set (w : World) (a : Addr) (v : Value) : w.grownBy (w.setCell a v) (some a.block) :=
  ⟨rfl, rfl, rfl, by rw [World.size_setCell]; exact Nat.le_refl _, fun k _ hk => Below.heap_setCell _ _ _ k (fun e => hk (by rw [e]))⟩
theorem setCells_block (b : Nat) : ∀ (vs : List Value) (o : Nat) (w : World) (k : Nat), k ≠ b → (w.setCells b o vs).heap[k]? = w.heap[k]?
  | [], _, _, _, _ => rfl
  | v :: r, o, w, k, h => by rw [World.setCells, setCells_block b r (o + 1) _ k h]; exact Below.heap_setCell _ _ _ k h
theorem setCells_rest (b : Nat) : ∀ (vs : List Value) (o : Nat) (w : World), (w.setCells b o vs).os = w.os ∧ (w.setCells b o vs).tape = w.tape ∧ (w.setCells b o vs).output = w.output
  | [], _, _ => ⟨rfl, rfl, rfl⟩
  | v :: r, o, w => by rw [World.setCells]; exact setCells_rest b r (o + 1) _
theorem grown_sets (w : World) (b o : Nat) (vs : List Value) : w.grownBy (w.setCells b o vs) (some b) :=
  ⟨(setCells_rest b vs o w).1, (setCells_rest b vs o w).2.1, (setCells_rest b vs o w).2.2, by rw [setCells_size]; exact Nat.le_refl _, fun k _ hk => setCells_block b vs o w k (fun e => hk (by rw [e]))⟩
theorem owns_ne {w : World} {base : Nat} {e : TypeId} {size : Nat} {v : Value} {n : Nat} {xs : List Value} (h : w.ownsRow base e size v n xs) {b : Nat} (hb : b < base) : v.ownBlock = none ∨ v.ownBlock ≠ some b := by
  cases hv : v.ownBlock with
  | none => exact .inl rfl
  | some k => exact .inr fun e => by have := (h.lt k hv).1; cases e; omega
set_option maxRecDepth 100000 in
set_option maxHeartbeats 8000000 in
theorem around7_in {T : World → Prop} (V : ValidIn T) (what : Int) (n : NodeS) (p : Option Addr) (m c : Nat) (ws : List WrapS) (x : WrapS) (w : World) (hw : what = 1 ∨ what = 3) (hws : WrapsN w (.slice p m c) ws) (hj : ws.length ≤ 15) (h6 : ∀ y ∈ ws, Set6 y.mask) (hp : wrapP x) (hm : Set6 x.mask) (hs : x.text.size ≤ maxLen) (hT : T w) :
    CallsIn FF 0 Tryz.prog 97 #[partVal what n (.slice p m c), x.val] w (DataPost (ws.length + 1) (saysI (ableP what n ws) x) w) := by
  have hlen := hws.len
  obtain ⟨w3, hw3⟩ : ∃ w3, ((w.alloc (.cells (partCells what n (.slice p m c)).toArray 70)).alloc (.cells #[.int .u8 x.kind, .int .u16 x.mask, .int .i64 x.number, .string x.text] 103)).alloc (.cells (partCells 0 nodeZ (.slice none 0 0)).toArray 70) = w3 := ⟨_, rfl⟩
  obtain ⟨b1, r1, r2, t3, s3⟩ := three_boxes w _ x _ hs rfl hw3
  have c69 := rcheck_in V x w3 hs hm.1 (by have := hm.2; omega) (V.below _ _ hT b1)
  rw [rW_of hp] at c69
  have k0 := range_first r1
  have hwz : (what == 0) = false := by rw [beq_eq_false_iff_ne]; omega
  have hbx : (w.alloc (.cells (partCells what n (.slice p m c)).toArray 70)).heap.size = w.heap.size + 1 := by simp
  have HW := Lib.hid (And.intro hw h6)
  have HB := Lib.hid (And.intro b1 s3)
  have R1 := Lib.hid r1
  have T3 := Lib.hid t3
  have HWs := Lib.hid hws
  clear hw h6 b1 s3 hp r1 t3 hws
  by_cases h7 : x.kind = 7
  · have hsay : saysI (ableP what n ws) x = 0 := by unfold saysI; simp [h7]
    rw [hsay]
    have hk := r2.kind
    rw [h7] at hk
    have HK := Lib.hid h7
    clear hsay h7
    subst hw3
    gi_enter Tryz.func97, Tryz.ntmps97
    gi_wp2_with (first
      | (gi_at_call 69; (with_reducible refine CallsIn.mono c69 ?_); rintro e w' ⟨rfl, hb⟩
         have hk' := (hb.cell (cell_lt hk)).trans hk
         have t3' := Lib.hid (there_keep T3.out hb (by simp)))
      | ((with_reducible refine wpListIn_id ?_); first
        | (refine wpListIn_v (.box 70 _) rfl (fun _ h => nomatch h) (fun _ h => nomatch h) (by rfl) (fun _ _ _ _ _ => x_box (cs := (partCells what n (.slice p m c)).toArray) rfl) ?_)
        | (refine wpListIn_v (.box 103 _) rfl (fun _ h => nomatch h) (fun _ h => nomatch h) (by rfl) (fun _ _ _ _ _ => x_box (cs := #[.int .u8 x.kind, .int .u16 x.mask, .int .i64 x.number, .string x.text]) rfl) ?_)
        | (refine wpListIn_v (.alloc 70) rfl (fun _ h => nomatch h) (fun _ h => nomatch h) (by rfl) (fun _ _ _ _ _ => x_alloc70) ?_)
        | (refine wpListIn_v (.load 103 _) rfl (fun _ h => nomatch h) (fun _ h => nomatch h) (by rfl) (fun _ _ _ _ _ => x_load103 (u := x) rfl r2) ?_)
        | (refine wpListIn_v (.build 70 #[(0, _)]) rfl (fun _ h => nomatch h) (fun _ h => nomatch h) (by rfl) (fun _ _ _ _ _ => x_build70_1 (what := 3) rfl) ?_)
        | (refine wpListIn_s (.store 70 _ _) rfl (fun _ h => nomatch h) (fun _ h => nomatch h) (by rfl) (fun _ _ _ _ _ => x_store70 rfl rfl t3'.out) ?_)))
    refine bodyPost_ret (results_ct rfl rfl rfl (load70 (setCells_range t3'.out))) rfl ?_
    obtain ⟨b1, s3⟩ := HB.out
    exact ⟨3, nodeZ, none, 0, 0, [], rfl, setCells_below _ (by omega) _ _ _ (b1.trans (hb.mono b1.size)), .inl ⟨rfl, rfl⟩, by simp, .inr rfl, fun y hy => (by cases hy), rfl, fun a h => (by cases h), fun a h => (by cases h)⟩
  · have h7b : (x.kind == 7) = false := by rw [beq_eq_false_iff_ne]; exact h7
    have hk := r2.kind
    have hk20 := range_last R1.out
    have hj16 : ¬ (16 : Int) ≤ (m : Nat) := by omega
    subst hw3
    gi_enter Tryz.func97, Tryz.ntmps97
    gi_upto_region 10 with (first
      | (gi_at_call 69; (with_reducible refine CallsIn.mono c69 ?_); rintro e w' ⟨rfl, hb⟩
         have hk' := (hb.cell (cell_lt hk)).trans hk
         have hk20' := (hb.cell (cell_lt hk20)).trans hk20
         have t3' := Lib.hid (there_keep T3.out hb (by simp))
         have R1' := Lib.hid (range_below R1.out hb)
         have r2' := r2.below hb)
      | ((with_reducible refine wpListIn_id ?_); first
        | (refine wpListIn_v (.box 70 _) rfl (fun _ h => nomatch h) (fun _ h => nomatch h) (by rfl) (fun _ _ _ _ _ => x_box (cs := (partCells what n (.slice p m c)).toArray) rfl) ?_)
        | (refine wpListIn_v (.box 103 _) rfl (fun _ h => nomatch h) (fun _ h => nomatch h) (by rfl) (fun _ _ _ _ _ => x_box (cs := #[.int .u8 x.kind, .int .u16 x.mask, .int .i64 x.number, .string x.text]) rfl) ?_)
        | (refine wpListIn_v (.alloc 70) rfl (fun _ h => nomatch h) (fun _ h => nomatch h) (by rfl) (fun _ _ _ _ _ => x_alloc70) ?_)
        | (refine wpListIn_v (.load 103 _) rfl (fun _ h => nomatch h) (fun _ h => nomatch h) (by rfl) (fun _ _ _ _ _ => x_load103 (u := x) rfl r2) ?_)))
    obtain ⟨b1, s3⟩ := HB.out
    have hbw := b1.trans (hb.mono b1.size)
    have hws' := HWs.out.below hbw
    have hsz : w.heap.size + 3 ≤ w'.heap.size := by have := hb.size; omega
    have HB' := Lib.hid hbw
    have HWs' := Lib.hid hws'
    clear HB b1 s3 hb hbw hws' c69 r2 R1 T3 hk hk20 HWs hwz
    obtain ⟨W7, hW7⟩ : ∃ W7, w'.alloc (.cells (partCells what n (.slice none 0 0)).toArray 70) = W7 := ⟨_, rfl⟩
    have bn : Below w'.heap.size w' W7 := by rw [← hW7]; exact (Below.refl _ _).alloc (Nat.le_refl _) _
    have s7 : W7.heap.size = w'.heap.size + 1 := by rw [← hW7]; simp
    have r7 : W7.rangeAt w'.heap.size 0 (partCells what n (.slice none 0 0)) := by rw [← hW7]; exact range_new _ _ _
    have c7 : W7.cell? ⟨w'.heap.size, 20, none⟩ = some (.slice none 0 0) := range_last r7
    have f7 : W7.frozen? ⟨w'.heap.size, 20, none⟩ = false := by rw [← hW7]; exact World.frozen?_alloc_new _ _ _ _
    have cp : W7.cell? ⟨w.heap.size, 20, none⟩ = some (.slice p m c) := (bn.cell (cell_lt hk20')).trans hk20'
    have hwsN : WrapsN W7 (.slice p m c) ws := HWs'.out.below bn
    have rsh := range_shift R1'.out
    have kw := range_first R1'.out
    have HF7 := Lib.hid (And.intro bn (And.intro s7 (And.intro r7 hwsN)))
    have e7 : w'.heap.size < W7.heap.size := by omega
    clear bn s7 r7 hwsN
    gi_upto_region 11 with ((with_reducible refine wpListIn_id ?_); first
        | (refine wpListIn_v (.load 68 _) rfl (fun _ h => nomatch h) (fun _ h => nomatch h) (by rfl) (fun _ _ _ _ _ => x_load68 (n := n) rfl rsh) ?_)
        | (refine wpListIn_v (.build 70 #[(0, _), (1, _)]) rfl (fun _ h => nomatch h) (fun _ h => nomatch h) (by rfl) (fun _ _ _ _ _ => x_build70_2 (what := what) (n := n) rfl rfl) ?_)
        | (refine wpListIn_store_new rfl (by rfl) 70 _ _ rfl rfl (partCells what n (.slice none 0 0)) (partVal what n (.slice none 0 0)) rfl rfl rfl size70 rfl ?_))
    rw [hW7]
    clear hW7 rsh kw R1'
    gi_upto_region 12 with ((with_reducible refine wpListIn_id ?_); first
        | (gi_at_builtin; refine wpListIn_append_ws rfl _ _ rfl W7.heap.size (.slice none 0 0) [] rfl (World.ownsRow_nil _ _ _ _) p m c ws rfl HF7.out.2.2.2 (by simp; omega) (Nat.le_refl _) ?_; intro v1 w2 hown1 hgrow1
           obtain ⟨p1, n1, c1, rfl⟩ := owns_slice hown1
           have hb2 : Below W7.heap.size W7 w2 := (Below.refl _ _).grown hgrow1 (Nat.le_refl _) (fun k hk => by cases hk)
           have c72 := (hb2.cell (p := ⟨w'.heap.size, 20, none⟩) e7).trans c7
           have f72 := (hb2.frozen (p := ⟨w'.heap.size, 20, none⟩) e7).trans f7))
    obtain ⟨bn, s7, r7, hwsN⟩ := HF7.out
    have rr2 : w2.rangeAt w'.heap.size 0 (partCells what n (.slice none 0 0)) := range_below r7 hb2
    obtain ⟨W9, hW9⟩ : ∃ W9, w2.setCell ⟨w'.heap.size, 20, none⟩ (.slice p1 n1 c1) = W9 := ⟨_, rfl⟩
    have rr9 : W9.rangeAt w'.heap.size 0 (partCells what n (.slice p1 n1 c1)) := by rw [← hW9]; exact range_turn rr2 _
    have b9 : Below w'.heap.size w' W9 := by rw [← hW9]; exact (bn.trans (hb2.mono bn.size)).setCell (Nat.le_refl _) _
    have f9 : W9.frozen? ⟨w'.heap.size, 20, none⟩ = false := by rw [← hW9, World.frozen?_setCell]; exact f72
    have s9 : W7.heap.size ≤ W9.heap.size := by rw [← hW9, World.size_setCell]; exact hb2.size
    have own9 : W9.ownsRow W7.heap.size 103 4 (.slice p1 n1 c1) ws.length (flat ws) := by
      rw [← hW9]
      exact World.ownsRow.kept hown1 (grown_set _ _ _) (owns_ne hown1 e7)
    rw [hW9]
    clear hW9 rr2 hgrow1 hown1 c72 f72 hb2 c7 f7 cp r7 hwsN HF7
    have c9 := range_last rr9
    have x9 := r2'.below b9
    have HX := Lib.hid (And.intro b9 (And.intro rr9 (And.intro own9 bn)))
    have sn : w'.heap.size < W9.heap.size := by omega
    clear b9 rr9 own9 bn r2'
    gi_upto_region 13 with ((with_reducible refine wpListIn_id ?_); first
        | (refine wpListIn_v (.load 103 _) rfl (fun _ h => nomatch h) (fun _ h => nomatch h) (by rfl) (fun _ _ _ _ _ => x_load103 (u := x) rfl x9) ?_)
        | (refine wpListIn_v (.buildSlice 65 1 #[(0, _)]) rfl (fun _ h => nomatch h) (fun _ h => nomatch h) (by rfl) (fun _ _ _ _ _ => x_buildSlice65 (u := x) rfl) ?_)
        | (gi_at_builtin; refine wpListIn_append_ws rfl _ _ rfl W7.heap.size (.slice p1 n1 c1) ws rfl (HX.out.2.2.1.alloc _) (some ⟨W9.heap.size, 0, none⟩) 1 1 [x] rfl (.inr ⟨W9.heap.size, 0, 1, rfl, fun i hi => ?_⟩) (by simp; omega) (by simp; omega) ?_
           rotate_left
           intro v2 w4 hown2 hgrow2
           obtain ⟨p2, n2, c2, rfl⟩ := owns_slice hown2
           have hb4 : Below W7.heap.size W9 w4 := ((Below.refl _ _).alloc s9 _).grown hgrow2 (by simp; omega) (fun k hk => (HX.out.2.2.1.lt k hk).1)
           have c74 := (hb4.cell (p := ⟨w'.heap.size, 20, none⟩) e7).trans c9
           have f74 := (hb4.frozen (p := ⟨w'.heap.size, 20, none⟩) e7).trans f9))
    rotate_left
    · have hi0 : i = 0 := by simp at hi; exact hi
      subst hi0
      exact ⟨by rw [cell_new]; rfl, by rw [cell_new]; rfl, by rw [cell_new]; rfl, by rw [cell_new]; rfl, hs⟩
    · have rr4 : w4.rangeAt w'.heap.size 0 (partCells what n (.slice p1 n1 c1)) := fun i u hi => (hb4.cell (p := ⟨w'.heap.size, 0 + i, none⟩) e7).trans (HX.out.2.1 i u hi)
      obtain ⟨W10, hW10⟩ : ∃ W10, w4.setCell ⟨w'.heap.size, 20, none⟩ (.slice p2 n2 c2) = W10 := ⟨_, rfl⟩
      have rr10 : W10.rangeAt w'.heap.size 0 (partCells what n (.slice p2 n2 c2)) := by rw [← hW10]; exact range_turn rr4 _
      have b10 : Below w'.heap.size w' W10 := by rw [← hW10]; exact (HX.out.1.trans (hb4.mono (by omega))).setCell (Nat.le_refl _) _
      have own10 : W10.ownsRow W7.heap.size 103 4 (.slice p2 n2 c2) (ws ++ [x]).length (flat (ws ++ [x])) := by
        rw [← hW10]
        exact World.ownsRow.kept hown2 (grown_set _ _ _) (owns_ne hown2 e7)
      have t10 : W10.there (w.heap.size + 1 + 1) 0 21 := there_keep t3'.out b10 (by omega)
      have own11 : (W10.setCells (w.heap.size + 1 + 1) 0 (partCells what n (.slice p2 n2 c2))).ownsRow W7.heap.size 103 4 (.slice p2 n2 c2) (ws ++ [x]).length (flat (ws ++ [x])) := World.ownsRow.kept own10 (grown_sets _ _ _ _) (owns_ne own10 (by omega))
      have wn11 := owns_wraps (ws := ws ++ [x]) (fun y hy => by
        rcases List.mem_append.1 hy with hy | hy
        · exact HWs'.out.sizes y hy
        · rw [List.mem_singleton.1 hy]; exact hs) own11
      have HF := Lib.hid (show DataPost (ws.length + 1) (saysI (ableP what n ws) x) w (.returned (.tuple #[partVal what n (.slice p2 n2 c2), .int .i64 0])) (W10.setCells (w.heap.size + 1 + 1) 0 (partCells what n (.slice p2 n2 c2))) from
        ⟨what, n, p2, n2, c2, ws ++ [x], rfl, setCells_below _ (by omega) _ _ _ (HB'.out.trans (b10.mono (by omega))), wn11, by simp, HW.out.1, fun y hy => by
          rcases List.mem_append.1 hy with hy | hy
          · exact HW.out.2 y hy
          · rw [List.mem_singleton.1 hy]; exact hm, ableP_app _ _ _ _, fun a h => by
          subst h
          have := (own10.lt a.block rfl).1
          omega, fun a h => by
          subst h
          rcases own11.2 with ⟨e, _⟩ | ⟨g, cap, cur, e, _, hg, _⟩
          · cases e
          · injection e with e1 _ _
            cases e1
            exact ⟨_, _, hg⟩⟩)
      have HR := Lib.hid rr10
      have HT := Lib.hid t10
      rw [hW10]
      clear hW10 rr4 rr10 b10 own10 t10 own11 wn11 hown2 hgrow2 c74 f74 hb4 HX HW HWs' HB' c9 f9 s9 x9
      gi_wp2_with ((with_reducible refine wpListIn_id ?_); first
        | (refine wpListIn_v (.load 70 _) rfl (fun _ h => nomatch h) (fun _ h => nomatch h) (by rfl) (fun _ _ _ _ _ => x_load70 (what := what) (n := n) rfl HR.out) ?_)
        | (refine wpListIn_s (.store 70 _ _) rfl (fun _ h => nomatch h) (fun _ h => nomatch h) (by rfl) (fun _ _ _ _ _ => x_store70 (what := what) (n := n) rfl rfl HT.out) ?_))
      refine bodyPost_ret (results_ct rfl rfl rfl (load70 (setCells_range HT.out))) rfl ?_
      exact HF.out
end Go.Proofs.YthjofgmiabcifabGreatDoor.Sq
namespace Go.Proofs.YthjofgmiabcifabGreatDoor.Sq
open Go Go.RowKit
/-- A part as data, its wrappers beyond block b. -/
structure Dat where
  what : Int
  n : NodeS
  p : Option Addr
  m : Nat
  c : Nat
  ws : List WrapS
def Dat.val (d : Dat) : Value := partVal d.what d.n (.slice d.p d.m d.c)
def Dat.cells (d : Dat) : List Value := partCells d.what d.n (.slice d.p d.m d.c)
structure DatAt (w : World) (B j : Nat) (c : Int) (d : Dat) : Prop where
  ws : WrapsN w (.slice d.p d.m d.c) d.ws
  len : d.ws.length ≤ j
  what : d.what = 1 ∨ d.what = 3
  masks : ∀ y ∈ d.ws, Set6 y.mask
  able : ableP d.what d.n d.ws = c
  far : ∀ a, d.p = some a → B ≤ a.block
  typ : ∀ a, d.p = some a → ∃ cs f, w.heap[a.block]? = some (.cells cs 103 f)
theorem DatAt.below {w w' : World} {B j : Nat} {c : Int} {d : Dat} (h : DatAt w B j c d) (hb : Below w.heap.size w w') : DatAt w' B j c d := ⟨h.ws.below hb, h.len, h.what, h.masks, h.able, h.far, fun a e => by
  obtain ⟨cs, f, h1⟩ := h.typ a e
  exact ⟨cs, f, (hb.block _ (Array.getElem?_eq_some_iff.1 h1).1).trans h1⟩⟩
/-- It stands where its wrappers' block stands. -/
theorem DatAt.stand {w w' : World} {B j : Nat} {c : Int} {d : Dat} (h : DatAt w B j c d) (hb : ∀ a, d.p = some a → w'.heap[a.block]? = w.heap[a.block]?) : DatAt w' B j c d := by
  refine ⟨?_, h.len, h.what, h.masks, h.able, h.far, fun a e => ?_⟩
  · rcases h.ws with h1 | ⟨g, o1, cap, h1, h2⟩
    · exact .inl h1
    · refine .inr ⟨g, o1, cap, h1, fun i hi => ?_⟩
      have hg : w'.heap[g]? = w.heap[g]? := hb ⟨g, o1, none⟩ (by injection h1)
      obtain ⟨a0, a1, a2, a3, a4⟩ := h2 i hi
      have ne : ∀ q, w'.cell? ⟨g, q, none⟩ = w.cell? ⟨g, q, none⟩ := fun q => World.cell?_of_block hg
      exact ⟨(ne _).trans a0, (ne _).trans a1, (ne _).trans a2, (ne _).trans a3, a4⟩
  · obtain ⟨cs, f, h1⟩ := h.typ a e
    exact ⟨cs, f, (hb a e).trans h1⟩
theorem DatAt.sets {w : World} {B j b o : Nat} {c : Int} {d : Dat} {vs : List Value} (h : DatAt w B j c d) (hb : b < B) : DatAt (w.setCells b o vs) B j c d :=
  h.stand fun a e => setCells_block b vs o w _ (by have := h.far a e; omega)
theorem DatAt.sets70 {w : World} {B j b o : Nat} {c : Int} {d : Dat} {vs : List Value} {cs : Array Value} {f : Nat × Nat} (h : DatAt w B j c d) (hb : w.heap[b]? = some (.cells cs 70 f)) : DatAt (w.setCells b o vs) B j c d :=
  h.stand fun a e => setCells_block b vs o w _ (fun e2 => by
    obtain ⟨cs', f', h1⟩ := h.typ a e
    rw [e2, hb] at h1
    cases h1)
theorem DatAt.grown {w w' : World} {B j : Nat} {c : Int} {d : Dat} {row : Option Nat} (h : DatAt w B j c d) (hg : w.grownBy w' row) (hr : ∀ r, row = some r → ∃ cs f, w.heap[r]? = some (.cells cs 70 f)) : DatAt w' B j c d :=
  h.stand fun a e => by
    obtain ⟨cs', f', h1⟩ := h.typ a e
    refine hg.block _ (Array.getElem?_eq_some_iff.1 h1).1 fun e2 => ?_
    obtain ⟨cs, f, h2⟩ := hr _ e2.symm
    rw [h1] at h2
    cases h2
theorem DatAt.wide {w : World} {B B' j j' : Nat} {c : Int} {d : Dat} (h : DatAt w B j c d) (hB : B' ≤ B) (hj : j ≤ j') : DatAt w B' j' c d := ⟨h.ws, Nat.le_trans h.len hj, h.what, h.masks, h.able, fun a e => Nat.le_trans hB (h.far a e), h.typ⟩
/-- A part as data and no error. -/
def DatPost (j : Nat) (c : Int) (w : World) (e : Ending) (w' : World) : Prop := ∃ d : Dat, e = .returned (.tuple #[d.val, .int .i64 0]) ∧ Below w.heap.size w w' ∧ DatAt w' w.heap.size j c d
theorem around7_dat {T : World → Prop} (V : ValidIn T) (d : Dat) (j : Nat) (c : Int) (B : Nat) (x : WrapS) (w : World) (hd : DatAt w B j c d) (hj : j ≤ 15) (hp : wrapP x) (hm : Set6 x.mask) (hs : x.text.size ≤ maxLen) (hT : T w) :
    CallsIn FF 0 Tryz.prog 97 #[d.val, x.val] w (DatPost (j + 1) (saysI c x) w) := by
  have := around7_in V d.what d.n d.p d.m d.c d.ws x w hd.what hd.ws (Nat.le_trans hd.len hj) hd.masks hp hm hs hT
  rw [hd.able] at this
  refine CallsIn.mono this fun e w' ⟨what, n, p, m, c', ws, he, hb, h1, h2, h3, h4, h5, h6, h7⟩ => ?_
  exact ⟨⟨what, n, p, m, c', ws⟩, he, hb, h1, by have := hd.len; simp only; omega, h3, h4, h5, h6, h7⟩
theorem there_sets {w : World} {b b' o n : Nat} {vs : List Value} (h : w.there b 0 n) (hl : b' = b → o + vs.length ≤ n ∨ True) (hc : b ≠ b') : (w.setCells b' o vs).there b 0 n := fun j hj =>
  ⟨by rw [setCells_far (by simp only; exact hc)]; exact (h j hj).1, by rw [World.frozen?_setCells]; exact (h j hj).2⟩
theorem there_self {w : World} {b n : Nat} {vs : List Value} (h : w.there b 0 n) (hv : vs.length = n) : (w.setCells b 0 vs).there b 0 n := fun j hj =>
  ⟨by
    have := World.cell?_setCells_in b vs 0 w (fun i hi => (h i (by omega)).1) j (by omega)
    rw [this]; rfl, by rw [World.frozen?_setCells]; exact (h j hj).2⟩
section
variable {ρ : Operand → Value} {w : World} {d : Option Tmp} {ty : TypeId} {pos : String} {after : Array Edge} {guard : Option (Nat × Bool)} {x y : Operand}
theorem x_index65 {b o k n c : Nat} (h : ρ x = .slice (some ⟨b, o, none⟩) n c) (h2 : ρ y = .int .i64 (k : Nat)) (hk : k < n) : (execOp ρ ⟨d, .indexAddr 65 x y, ty, pos, after, guard⟩).run Tryz.prog w = .ok (.value (.pointer (some ⟨b, o + k * 4, none⟩))) w := by go_simp
theorem x_extract0 {u v : Value} (h : ρ x = .tuple #[u, v]) : (execOp ρ ⟨d, .extract x 0, ty, pos, after, guard⟩).run Tryz.prog w = .ok (.value u) w := by go_simp
theorem x_extract1 {u v : Value} (h : ρ x = .tuple #[u, v]) : (execOp ρ ⟨d, .extract x 1, ty, pos, after, guard⟩).run Tryz.prog w = .ok (.value v) w := by go_simp
end
theorem two_boxes (w : World) (d : Dat) (zc : List Value) (hz : zc.length = 21) {w3 : World} (h : (w.alloc (.cells d.cells.toArray 70)).alloc (.cells zc.toArray 70) = w3) :
    Below w.heap.size w w3 ∧ w3.rangeAt w.heap.size 0 d.cells ∧ w3.there w.heap.size 0 21 ∧ w3.there (w.heap.size + 1) 0 21 ∧ w3.heap.size = w.heap.size + 2 := by
  subst h
  obtain ⟨w1, h1⟩ : ∃ w1, w.alloc (.cells d.cells.toArray 70) = w1 := ⟨_, rfl⟩
  have b1 : Below w.heap.size w w1 := by rw [← h1]; exact (Below.refl _ _).alloc (Nat.le_refl _) _
  have s1 : w1.heap.size = w.heap.size + 1 := by rw [← h1]; simp
  have r1 : w1.rangeAt w.heap.size 0 d.cells := by rw [← h1]; exact range_new w d.cells 70
  have t1 : w1.there w.heap.size 0 21 := by rw [← h1]; exact there_new w d.cells.toArray 70 21 (by simp [Dat.cells, partCells_len])
  rw [h1]
  have b3 : Below w1.heap.size w1 (w1.alloc (.cells zc.toArray 70)) := (Below.refl _ _).alloc (Nat.le_refl _) _
  refine ⟨b1.trans (b3.mono b1.size), range_below r1 b3, there_keep t1 b3 (by omega), ?_, by rw [World.size_alloc, s1]⟩
  have := there_new w1 zc.toArray 70 21 (by simp [hz])
  rwa [s1] at this
end Go.Proofs.YthjofgmiabcifabGreatDoor.Sq
namespace Go.Proofs.YthjofgmiabcifabGreatDoor.Sq
open Go Go.RowKit
def dat0 (n : NodeS) : Dat := ⟨1, n, none, 0, 0, []⟩
theorem dat0_at (w : World) (B : Nat) (n : NodeS) : DatAt w B 0 (canK n.kind) (dat0 n) :=
  ⟨.inl ⟨rfl, rfl⟩, Nat.le_refl _, .inl rfl, fun y h => (by cases h), rfl, fun a h => (by cases h), fun a h => (by cases h)⟩
set_option maxRecDepth 100000 in
set_option maxHeartbeats 8000000 in
theorem all7_in {T : World → Prop} (V : ValidIn T) (n : NodeS) (wp : Option Addr) (wc' m : Nat) (ys : List WrapS) (w : World) (hw : WrapsAt w (.slice wp m wc') ys) (hb : wrapsB ys = true) (hmk : ∀ y ∈ ys, 0 ≤ y.mask ∧ y.mask < 65536) (hl : m ≤ 16) (hT : T w) :
    CallsIn FF 0 Tryz.prog 71 #[(dat0 n).val, .slice wp m wc'] w (DatPost ys.length (ableI n ys) w) := by
  have hlen : ys.length = m := by
    rcases hw with ⟨_, e, rfl⟩ | ⟨b, o, cap, e, _⟩
    · cases e; rfl
    · cases e; rfl
  subst hlen
  unfold ableI
  obtain ⟨w3, hw3⟩ : ∃ w3, (w.alloc (.cells (dat0 n).cells.toArray 70)).alloc (.cells (partCells 0 nodeZ (.slice none 0 0)).toArray 70) = w3 := ⟨_, rfl⟩
  obtain ⟨b1, r1, t2, t4, s3⟩ := two_boxes w (dat0 n) _ rfl hw3
  have c96 := rchecks_ok V (hw.below b1) hb hmk hl (V.below _ _ hT b1)
  have k0 := range_first r1
  have k0 : w3.cell? ⟨w.heap.size, 0, none⟩ = some (.int .i64 1) := k0
  have e97 : ∀ args w, (callFunc 97 args).run Tryz.prog w = .ok (.enter 97 args) w := enters_of Tryz.func97 (by kernel_rfl) rfl
  obtain ⟨CC, hCC⟩ : ∃ CC, ys.foldl saysI (canK n.kind) = CC := ⟨_, rfl⟩
  rw [hCC]
  have HP := Lib.hid (show ∀ i (h : i < ys.length), wrapP ys[i] ∧ Set6 ys[i].mask from fun i h => ⟨wrapsB_get hb h, wrapP_mask (wrapsB_get hb h) (hmk _ (List.getElem_mem h)).1 (hmk _ (List.getElem_mem h)).2⟩)
  have HW := Lib.hid hw
  have H0 := Lib.hid (And.intro b1 (And.intro r1 (And.intro t2 (And.intro t4 (And.intro s3 hCC)))))
  clear hw hb hmk b1 r1 t2 t4 s3 hCC
  obtain ⟨dv, hdv⟩ : ∃ dv, (dat0 n).val = dv := ⟨_, rfl⟩
  have hde : (dat0 n).val = .agg (dat0 n).cells.toArray := rfl
  rw [hdv] at hde ⊢
  clear hdv
  have H03 := Lib.hid hw3
  subst hw3
  gi_enter Tryz.func71, Tryz.ntmps71
  gi_wp2_with (first
    | (gi_at_call 96; (with_reducible refine CallsIn.mono c96 ?_); rintro e w' ⟨rfl, hb⟩)
    | ((with_reducible refine wpListIn_id ?_); first
      | (refine wpListIn_v (.box 70 _) rfl (fun _ h => nomatch h) (fun _ h => nomatch h) (by rfl) (fun _ _ _ _ _ => x_box (cs := (dat0 n).cells.toArray) hde) ?_)
      | (refine wpListIn_v (.alloc 70) rfl (fun _ h => nomatch h) (fun _ h => nomatch h) (by rfl) (fun _ _ _ _ _ => x_alloc70) ?_)))
  gi_loopw [7] (fun i wx => ∃ (k : Nat) (d : Dat) (c : Int), k ≤ ys.length ∧ i = .int .i64 k ∧ Below w.heap.size w wx ∧ w.heap.size + 2 ≤ wx.heap.size ∧ wx.rangeAt w.heap.size 0 d.cells ∧ wx.there w.heap.size 0 21 ∧ wx.there (w.heap.size + 1) 0 21 ∧ DatAt wx (w.heap.size + 2) k c d ∧ (ys.drop k).foldl saysI c = CC) (fun i _ => ys.length - (intOf i).toNat)
  case atStart =>
    obtain ⟨b1, r1, t2, t4, s3, hCC⟩ := H0.out
    exact ⟨0, dat0 n, canK n.kind, Nat.zero_le _, rfl, b1.trans (hb.mono b1.size), by have := hb.size; omega, range_below r1 hb, there_keep t2 hb (by omega), there_keep t4 hb (by omega), dat0_at _ _ _, by simpa using hCC⟩
  case round =>
    obtain ⟨k, d, c, hk, rfl, hbw, hsz, hr, ht2, ht4, hda, hCC⟩ := hrel
    clear H0 hb k0 c96
    by_cases hlt : k < ys.length
    · obtain ⟨b, o, rfl, hWA⟩ : ∃ b o, wp = some ⟨b, o, none⟩ ∧ WrapAt w b (o + k * 4) ys[k] := by
        rcases HW.out with ⟨_, e, h0⟩ | ⟨b, o, cap, e, _, hc⟩
        · rw [h0] at hlt; cases hlt
        · cases e; exact ⟨b, o, rfl, hc k hlt⟩
      obtain ⟨hp, hm⟩ := HP.out k hlt
      rw [List.drop_eq_getElem_cons hlt, List.foldl_cons] at hCC
      obtain ⟨x, hx⟩ : ∃ x, ys[k] = x := ⟨_, rfl⟩
      rw [hx] at hWA hp hm hCC
      have HH := Lib.hid (And.intro hbw (And.intro hr (And.intro ht2 (And.intro ht4 (And.intro hda (And.intro hWA (And.intro hp (And.intro hm hCC))))))))
      have hlt2 : (k : Int) < (ys.length : Nat) := by omega
      clear hbw hr ht2 ht4 hda hWA hp hm hCC hx HP HW
      gi_upto_region 9 with fail
      gi_cut [6] from 38 (fun s6 wc => s6 = .int .i64 0 ∧ ∃ d' : Dat, Below w.heap.size w wc ∧ w.heap.size + 2 ≤ wc.heap.size ∧ wc.rangeAt w.heap.size 0 d'.cells ∧ wc.there w.heap.size 0 21 ∧ wc.there (w.heap.size + 1) 0 21 ∧ DatAt wc (w.heap.size + 2) (k + 1) (saysI c x) d')
      case first =>
        rename_i J K' hJ hM
        obtain ⟨hbw, hr, ht2, ht4, hda, hWA, hp, hm, hCC⟩ := HH.out
        refine region_inv' [25, 26, 27, 28, 29, 30, 24, 31, 32, 6] (fun L ev wx => (Below w.heap.size w wx ∧ w.heap.size + 2 ≤ wx.heap.size ∧ wx.there w.heap.size 0 21 ∧ wx.there (w.heap.size + 1) 0 21) ∧
          (L 0 = true → ev 25 = d.val) ∧ (L 1 = true → ev 26 = .slice (some ⟨b, o, none⟩) ys.length wc') ∧ (L 2 = true → ev 27 = .int .i64 (k : Nat)) ∧ (L 3 = true → ev 28 = .pointer (some ⟨b, o + k * 4, none⟩)) ∧ (L 4 = true → ev 29 = x.val) ∧
          (L 5 = true → ∃ d' : Dat, ev 30 = .tuple #[d'.val, .int .i64 0] ∧ DatAt wx (w.heap.size + 2) (k + 1) (saysI c x) d') ∧ (L 6 = true → ∃ d' : Dat, ev 24 = .tuple #[d'.val, .int .i64 0] ∧ DatAt wx (w.heap.size + 2) (k + 1) (saysI c x) d') ∧
          (L 7 = true → ∃ d' : Dat, ev 31 = d'.val ∧ DatAt wx (w.heap.size + 2) (k + 1) (saysI c x) d') ∧ (L 8 = true → ev 32 = .int .i64 0) ∧
          (L 9 = false → wx.rangeAt w.heap.size 0 d.cells ∧ DatAt wx (w.heap.size + 2) k c d) ∧ (L 9 = true → ∃ d' : Dat, wx.rangeAt w.heap.size 0 d'.cells ∧ DatAt wx (w.heap.size + 2) (k + 1) (saysI c x) d') ∧ (L 10 = true → ev 6 = .int .i64 0) ∧
          (L 5 = true → L 0 = true) ∧ (L 6 = true → L 0 = true) ∧ (L 7 = true → L 0 = true) ∧ (L 9 = true → L 0 = true) ∧ (L 9 = true → L 5 = true) ∧ (L 6 = true → L 5 = true) ∧ (L 7 = true → L 5 = true))
          (by kernel_rfl) (by kernel_rfl) ⟨⟨hbw.drew, hsz, ht2, ht4⟩, fun h => (by cases h), fun h => (by cases h), fun h => (by cases h), fun h => (by cases h), fun h => (by cases h), fun h => (by cases h), fun h => (by cases h), fun h => (by cases h), fun h => (by cases h), fun _ => ⟨hr, hda.below (Below.refl _ _).drew⟩, fun h => (by cases h), fun h => (by cases h), fun h => (by cases h), fun h => (by cases h), fun h => (by cases h), fun h => (by cases h), fun h => (by cases h), fun h => (by cases h), fun h => (by cases h)⟩ ?_ ?_
        · intro i oo ho L ev a' wx hev hkeep hdep hLi ⟨⟨g1, g2, g3, g4⟩, i0, i1, i2, i3, i4, i5, i6, i7, i8, i9, i9', i10, o5, o6, o7, o9, o95, o65, o75⟩
          have e1 : a'.eval (.tmp 1) = .slice (some ⟨b, o, none⟩) ys.length wc' := (hev 1).trans (hkeep 1 (by decide))
          have e2 : a'.eval (.tmp 2) = .pointer (some ⟨w.heap.size, 0, none⟩) := (hev 2).trans (hkeep 2 (by decide))
          have e7 : a'.eval (.tmp 7) = .int .i64 (k : Nat) := (hev 7).trans (hkeep 7 (by decide))
          match i, ho with
          | 0, ho =>
            cases ho
            have h9 : L 9 = false := by
              rcases Bool.eq_false_or_eq_true (L 9) with h | h
              · rw [o9 h] at hLi; cases hLi
              · exact h
            exact OpStep.val (fun _ h => nomatch h) (fun _ h => nomatch h) (x_load70 e2 (i9 h9).1) ⟨⟨g1, g2, g3, g4⟩, fun _ => rfl, i1, i2, i3, i4, i5, i6, i7, i8, i9, i9', i10, fun _ => rfl, fun _ => rfl, fun _ => rfl, fun _ => rfl, o95, o65, o75⟩
          | 1, ho => cases ho; exact OpStep.val (fun _ h => nomatch h) (fun _ h => nomatch h) x_move ⟨⟨g1, g2, g3, g4⟩, i0, fun _ => e1, i2, i3, i4, i5, i6, i7, i8, i9, i9', i10, o5, o6, o7, o9, o95, o65, o75⟩
          | 2, ho => cases ho; exact OpStep.val (fun _ h => nomatch h) (fun _ h => nomatch h) x_move ⟨⟨g1, g2, g3, g4⟩, i0, i1, fun _ => e7, i3, i4, i5, i6, i7, i8, i9, i9', i10, o5, o6, o7, o9, o95, o65, o75⟩
          | 3, ho =>
            cases ho
            exact OpStep.val (fun _ h => nomatch h) (fun _ h => nomatch h) (x_index65 ((hev 26).trans (i1 (hdep 1 (by decide)))) ((hev 27).trans (i2 (hdep 2 (by decide)))) hlt) ⟨⟨g1, g2, g3, g4⟩, i0, i1, i2, fun _ => rfl, i4, i5, i6, i7, i8, i9, i9', i10, o5, o6, o7, o9, o95, o65, o75⟩
          | 4, ho =>
            cases ho
            exact OpStep.val (fun _ h => nomatch h) (fun _ h => nomatch h) (x_load103 ((hev 28).trans (i3 (hdep 3 (by decide)))) (hWA.below g1)) ⟨⟨g1, g2, g3, g4⟩, i0, i1, i2, i3, fun _ => rfl, i5, i6, i7, i8, i9, i9', i10, o5, o6, o7, o9, o95, o65, o75⟩
          | 5, ho =>
            cases ho
            have h0 := hdep 0 (by decide)
            have h9 : L 9 = false := by
              rcases Bool.eq_false_or_eq_true (L 9) with h | h
              · rw [o95 h] at hLi; cases hLi
              · exact h
            refine OpStep.call (fun _ h => nomatch h) (abF rfl) (x_call2 e97 ((hev 25).trans (i0 h0)) ((hev 29).trans (i4 (hdep 4 (by decide)))) rfl) ?_
            refine CallsIn.mono (around7_dat V d k c _ x wx (i9 h9).2 (by omega) hp hm hWA.size (V.below _ _ hT g1)) fun e wy ⟨d', he, hb', hd'⟩ => ?_
            exact ⟨_, he, ⟨g1.trans (hb'.mono g1.size), Nat.le_trans g2 hb'.size, there_keep g3 hb' (by omega), there_keep g4 hb' (by omega)⟩, i0, i1, i2, i3, i4, fun _ => ⟨d', rfl, hd'.wide g2 (Nat.le_refl _)⟩,
              fun h => by obtain ⟨d2, q1, q2⟩ := i6 h; exact ⟨d2, q1, q2.below hb'⟩, fun h => by obtain ⟨d2, q1, q2⟩ := i7 h; exact ⟨d2, q1, q2.below hb'⟩, i8,
              fun h => ⟨range_below (i9 h).1 hb', (i9 h).2.below hb'⟩, fun h => by obtain ⟨d2, q1, q2⟩ := i9' h; exact ⟨d2, range_below q1 hb', q2.below hb'⟩, i10, fun _ => h0, o6, o7, o9, fun _ => rfl, fun _ => rfl, fun _ => rfl⟩
          | 6, ho =>
            cases ho
            have h5 := hdep 5 (by decide)
            obtain ⟨d2, q1, q2⟩ := i5 h5
            exact OpStep.val (fun _ h => nomatch h) (fun _ h => nomatch h) x_move ⟨⟨g1, g2, g3, g4⟩, i0, i1, i2, i3, i4, i5, fun _ => ⟨d2, (hev 30).trans q1, q2⟩, i7, i8, i9, i9', i10, o5, fun _ => o5 h5, o7, o9, o95, fun _ => h5, o75⟩
          | 7, ho =>
            cases ho
            have h6 := hdep 6 (by decide)
            obtain ⟨d2, q1, q2⟩ := i6 h6
            exact OpStep.val (fun _ h => nomatch h) (fun _ h => nomatch h) (x_extract0 ((hev 24).trans q1)) ⟨⟨g1, g2, g3, g4⟩, i0, i1, i2, i3, i4, i5, i6, fun _ => ⟨d2, rfl, q2⟩, i8, i9, i9', i10, o5, o6, fun _ => o6 h6, o9, o95, o65, fun _ => o65 h6⟩
          | 8, ho =>
            cases ho
            obtain ⟨d2, q1, q2⟩ := i6 (hdep 6 (by decide))
            exact OpStep.val (fun _ h => nomatch h) (fun _ h => nomatch h) (x_extract1 ((hev 24).trans q1)) ⟨⟨g1, g2, g3, g4⟩, i0, i1, i2, i3, i4, i5, i6, i7, fun _ => rfl, i9, i9', i10, o5, o6, o7, o9, o95, o65, o75⟩
          | 9, ho =>
            cases ho
            have h7 := hdep 7 (by decide)
            obtain ⟨d2, q1, q2⟩ := i7 h7
            have hlen21 : d2.cells.length = 21 := rfl
            refine OpStep.skip (fun _ h => nomatch h) (fun _ h => nomatch h) (x_store70 (what := d2.what) (n := d2.n) e2 ((hev 31).trans q1) g3) ?_
            refine ⟨⟨setCells_below _ (Nat.le_refl _) _ _ _ g1, by rw [setCells_size]; exact g2, there_self g3 hlen21, there_sets g4 (fun _ => .inr trivial) (by omega)⟩, i0, i1, i2, i3, i4,
              fun h => by obtain ⟨d3, q1, q2⟩ := i5 h; exact ⟨d3, q1, q2.sets (by omega)⟩, fun h => by obtain ⟨d3, q1, q2⟩ := i6 h; exact ⟨d3, q1, q2.sets (by omega)⟩, fun h => by obtain ⟨d3, q1, q2⟩ := i7 h; exact ⟨d3, q1, q2.sets (by omega)⟩, i8,
              fun h => (by cases h), fun _ => ⟨d2, setCells_range g3, q2.sets (by omega)⟩, i10, o5, o6, o7, fun _ => o7 h7, fun _ => o75 h7, o65, o75⟩
          | 10, ho =>
            cases ho
            exact OpStep.val (fun _ h => nomatch h) (fun _ h => nomatch h) x_assign ⟨⟨g1, g2, g3, g4⟩, i0, i1, i2, i3, i4, i5, i6, i7, i8, i9, i9', fun _ => (hev 32).trans (i8 (hdep 8 (by decide))), o5, o6, o7, o9, o95, o65, o75⟩
          | i + 11, ho => exact absurd ho (by simp)
        · intro L ev wx hall ⟨⟨g1, g2, g3, g4⟩, _, _, _, _, _, _, _, _, _, _, i9', i10, _, _, _, _, _, _, _⟩
          refine hM _ _ (hJ _ _ ?_)
          simp only [List.foldl_cons, List.foldl_nil, List.setIfInBounds_toArray, List.set_cons_succ, List.set_cons_zero]
          (repeat apply Exists.intro)
          refine ⟨?rel, rfl⟩
          case rel =>
            obtain ⟨d2, q1, q2⟩ := i9' (hall 9 (by decide))
            exact ⟨i10 (hall 10 (by decide)), d2, g1, g2, q1, g3, g4, q2⟩
      case rest =>
        obtain ⟨rfl, d', h1, h2, h3, h4, h5, h6⟩ := hcut
        have HR := Lib.hid (And.intro h1 (And.intro h2 (And.intro h3 (And.intro h4 (And.intro h5 h6)))))
        clear h1 h2 h3 h4 h5 h6
        gi_wp2
        go_roundw
        case rel =>
          obtain ⟨h1, h2, h3, h4, h5, h6⟩ := HR.out
          exact ⟨k + 1, d', saysI c x, by omega, by go_num, h1, h2, h3, h4, h5, h6, HH.out.2.2.2.2.2.2.2.2⟩
        case measure => simp [intOf]; omega
    · obtain rfl : k = ys.length := by omega
      rw [List.drop_length] at hCC
      have hCC : c = CC := hCC
      subst hCC
      have HH := Lib.hid (show DatPost ys.length c w (.returned (.tuple #[d.val, .int .i64 0])) (wr.setCells (w.heap.size + 1) 0 d.cells) from
        ⟨d, rfl, setCells_below _ (by omega) _ _ _ hbw, (hda.sets (by omega)).wide (by omega) (Nat.le_refl _)⟩)
      have HR := Lib.hid (And.intro hr ht4)
      clear hbw hr ht2 ht4 hda HP HW
      gi_wp2_with ((with_reducible refine wpListIn_id ?_); first
        | (refine wpListIn_v (.load 70 _) rfl (fun _ h => nomatch h) (fun _ h => nomatch h) (by rfl) (fun _ _ _ _ _ => x_load70 (what := d.what) (n := d.n) rfl HR.out.1) ?_)
        | (refine wpListIn_s (.store 70 _ _) rfl (fun _ h => nomatch h) (fun _ h => nomatch h) (by rfl) (fun _ _ _ _ _ => x_store70 (what := d.what) (n := d.n) rfl rfl HR.out.2) ?_))
      refine bodyPost_ret (results_ct rfl rfl rfl (load70 (setCells_range HR.out.2))) rfl ?_
      exact HH.out
end Go.Proofs.YthjofgmiabcifabGreatDoor.Sq
namespace Go.Proofs.YthjofgmiabcifabGreatDoor.Sq
open Go Go.RowKit
theorem node_boxes (w : World) (n : NodeS) (zc : List Value) (hz : zc.length = 21) {w3 : World} (h : (w.alloc (.cells n.cells.toArray 68)).alloc (.cells zc.toArray 70) = w3) :
    Below w.heap.size w w3 ∧ w3.rangeAt w.heap.size 0 n.cells ∧ w3.there (w.heap.size + 1) 0 21 ∧ w3.heap.size = w.heap.size + 2 := by
  subst h
  obtain ⟨w1, h1⟩ : ∃ w1, w.alloc (.cells n.cells.toArray 68) = w1 := ⟨_, rfl⟩
  have b1 : Below w.heap.size w w1 := by rw [← h1]; exact (Below.refl _ _).alloc (Nat.le_refl _) _
  have s1 : w1.heap.size = w.heap.size + 1 := by rw [← h1]; simp
  have r1 : w1.rangeAt w.heap.size 0 n.cells := by rw [← h1]; exact range_new w n.cells 68
  rw [h1]
  have b3 : Below w1.heap.size w1 (w1.alloc (.cells zc.toArray 70)) := (Below.refl _ _).alloc (Nat.le_refl _) _
  refine ⟨b1.trans (b3.mono b1.size), range_below r1 b3, ?_, by rw [World.size_alloc, s1]⟩
  have := there_new w1 zc.toArray 70 21 (by simp [hz])
  rwa [s1] at this
set_option maxRecDepth 100000 in
set_option maxHeartbeats 8000000 in
theorem of_in {T : World → Prop} (V : ValidIn T) (n : NodeS) (ws : List WrapS) (w : World) (hf : n.fits) (hm : mayB n ws = true) (hw : WrapsAt w (.slice n.wrapsP n.wrapsN n.wrapsC) ws) (hmk : ∀ y ∈ ws, 0 ≤ y.mask ∧ y.mask < 65536) (hT : T w) :
    CallsIn FF 0 Tryz.prog 38 #[n.val, .int .i64 (n.kidsN : Nat)] w (DatPost ws.length (ableI n ws) w) := by
  rw [nodeB_may, Bool.and_eq_true, decide_eq_true_eq] at hm
  obtain ⟨hn, hr⟩ := hm
  obtain ⟨ok, hwb⟩ := nodeOk_of hn
  obtain ⟨k, hk⟩ : ∃ k : Nat, n.kind = (k : Nat) := ⟨n.kind.toNat, by have := ok.k1; omega⟩
  obtain ⟨r1, r2, r3⟩ := room_hold hk hr
  obtain ⟨w3, hw3⟩ : ∃ w3, (w.alloc (.cells n.cells.toArray 68)).alloc (.cells (partCells 0 nodeZ (.slice none 0 0)).toArray 70) = w3 := ⟨_, rfl⟩
  obtain ⟨b1, rN, t4, s3⟩ := node_boxes w n _ rfl hw3
  have cM := make6_in V n k n.kidsN w3 hk hf ok r1 r2 r3 (V.below _ _ hT b1)
  have cA : ∀ w', Below w.heap.size w w' → CallsIn FF 0 Tryz.prog 71 #[partVal 1 n (.slice none 0 0), .slice n.wrapsP n.wrapsN n.wrapsC] w' (DatPost ws.length (ableI n ws) w') := fun w' hb => all7_in V n n.wrapsP n.wrapsC n.wrapsN ws w' (hw.below hb) hwb hmk ok.wr (V.below _ _ hT hb)
  have c17 : w3.cell? ⟨w.heap.size, 17, none⟩ = some (.slice n.wrapsP n.wrapsN n.wrapsC) := by have := rN 17 _ rfl; rwa [Nat.zero_add] at this
  have RN := Lib.hid rN
  have HB := Lib.hid (And.intro b1 (And.intro t4 s3))
  have CA := Lib.hid cA
  clear hn hr ok hwb hk r1 r2 r3 hw hmk hf rN b1 t4 s3 cA
  subst hw3
  unfold DatPost at CA
  gi_enter Tryz.func38, Tryz.ntmps38
  gi_upto_region 5 with (first
    | (gi_at_call 70; (with_reducible refine CallsIn.mono cM ?_); rintro e w' ⟨rfl, hb⟩
       have k17 := (hb.cell (cell_lt c17)).trans c17
       have hbw := HB.out.1.trans (hb.mono HB.out.1.size)
       have rr := Lib.hid (range_below RN.out hb)
       have cA' := CA.out w' hbw)
    | (gi_at_call 71; (with_reducible refine CallsIn.mono cA' ?_); rintro e w2 ⟨d, rfl, hb2, hd⟩
       obtain ⟨dv, hdv⟩ : ∃ dv, d.val = dv := ⟨_, rfl⟩
       rw [hdv])
    | ((with_reducible refine wpListIn_id ?_); first
      | (refine wpListIn_v (.box 68 _) rfl (fun _ h => nomatch h) (fun _ h => nomatch h) (by rfl) (fun _ _ _ _ _ => x_box (cs := n.cells.toArray) rfl) ?_)
      | (refine wpListIn_store_new rfl (by rfl) 70 _ _ rfl rfl d.cells dv hdv.symm rfl rfl size70 rfl ?_)
      | (refine wpListIn_v (.alloc 70) rfl (fun _ h => nomatch h) (fun _ h => nomatch h) (by rfl) (fun _ _ _ _ _ => x_alloc70) ?_)
      | (refine wpListIn_load_row (by rfl) 68 _ rfl w.heap.size 0 rfl n.cells RN.out _ Tryz.underlying68 rfl (by kernel_rfl) n.val rfl ?_)
      | (refine wpListIn_load_row (by rfl) 68 _ rfl w.heap.size 0 rfl n.cells rr.out _ Tryz.underlying68 rfl (by kernel_rfl) n.val rfl ?_)
      | (refine wpListIn_v (.build 70 #[(0, _), (1, _)]) rfl (fun _ h => nomatch h) (fun _ h => nomatch h) (by rfl) (fun _ _ _ _ _ => x_build70_2 (what := 1) (n := n) rfl rfl) ?_)))
  have b02 := hbw.trans (hb2.mono hbw.size)
  have hs2 : w.heap.size + 2 ≤ w2.heap.size := by have := HB.out.2.2; have := hb.size; have := hb2.size; omega
  have r70 := range_new w2 d.cells 70
  have bn : Below w2.heap.size w2 (w2.alloc (.cells d.cells.toArray 70)) := (Below.refl _ _).alloc (Nat.le_refl _) _
  have t4' : (w2.alloc (.cells d.cells.toArray 70)).there (w.heap.size + 1) 0 21 := there_keep (there_keep (there_keep HB.out.2.1 hb (by have := HB.out.2.2; omega)) hb2 (by have := HB.out.2.2; have := hb.size; omega)) bn (by omega)
  have HF := Lib.hid (show DatPost ws.length (ableI n ws) w (.returned (.tuple #[d.val, .int .i64 0])) ((w2.alloc (.cells d.cells.toArray 70)).setCells (w.heap.size + 1) 0 d.cells) from
    ⟨d, rfl, setCells_below _ (by omega) _ _ _ (b02.trans (bn.mono b02.size)), ((hd.below bn).sets (by have := hb.size; have := HB.out.2.2; omega)).wide hbw.size (Nat.le_refl _)⟩)
  have HR := Lib.hid (And.intro r70 t4')
  clear b02 r70 bn t4' hd hb2 hbw HB CA cA' cM k17 c17 hb
  subst hdv
  gi_wp2_with ((with_reducible refine wpListIn_id ?_); first
    | (refine wpListIn_v (.load 70 _) rfl (fun _ h => nomatch h) (fun _ h => nomatch h) (by rfl) (fun _ _ _ _ _ => x_load70 (what := d.what) (n := d.n) rfl HR.out.1) ?_)
    | (refine wpListIn_s (.store 70 _ _) rfl (fun _ h => nomatch h) (fun _ h => nomatch h) (by rfl) (fun _ _ _ _ _ => x_store70 (what := d.what) (n := d.n) rfl rfl HR.out.2) ?_))
  refine bodyPost_ret (results_ct rfl rfl rfl (load70 (setCells_range HR.out.2))) rfl ?_
  exact HF.out
end Go.Proofs.YthjofgmiabcifabGreatDoor.Sq
