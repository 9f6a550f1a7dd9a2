/-
  CrewOncesCardSaid: the card of CrewOnces.
  Conditions: none.
-/
import Derived.Test.YthjofgmiabcifabGreatDoorPSh
import Derived.Test.YthjofgmiabcifabGreatDoorPVd
import Derived.Deep.Slices
import Derived.Test.YthjofgmiabcifabGreatDoorRows
import Derived.Lib.LaidIn
import Derived.Lib.LaidU8T
import Derived.Deep.DeepHandedRow
import Derived.Deep.DeepWitnessRowRef
import Derived.ProofKit
import Derived.SizedLaws
import Derived.Conc.HoldsTime
import Derived.Test.YthjofgmiabcifabGreatDoorTie
import Derived.Test.YthjofgmiabcifabGreatDoorCards
import Derived.Carry
set_option linter.unusedVariables false
set_option linter.unusedSimpArgs false
namespace Go.Proofs.YthjofgmiabcifabGreatDoor.Jo
open Go Go.RowKit
open Go.Proofs.YthjofgmiabcifabGreatDoor.Sq
section
variable {H : Type} {enc : TypeId × Value → H} {w : World}
abbrev Rd (enc : TypeId × Value → H) (w : World) (fuel : Nat) (t : TypeId) (cs : List Value) (x : DataW H × List MemPlace) : Prop := DataW.trod enc Tryz.prog w 0 (fun _ => true) true fuel t cs = some x
theorem cons_of {α : Type} {cs : List α} {n : Nat} (h : cs.length = n + 1) : ∃ c t, cs = c :: t ∧ t.length = n := by
  cases cs with
  | nil => cases h
  | cons c t => exact ⟨c, t, rfl, by simpa using h⟩
theorem add_of {a : Addr} {i : Nat} {v : Value} (h : w.cell? a = some v) : a.add i = ⟨a.block, a.off + i, none⟩ := by
  have := World.cell?_spot h
  obtain ⟨b, o, s⟩ := a
  cases this
  exact Addr.add_mid b o i
theorem mid_of {a : Addr} {v : Value} (h : w.cell? a = some v) : a = ⟨a.block, a.off, none⟩ := by
  have := World.cell?_spot h
  obtain ⟨b, o, s⟩ := a
  cases this
  rfl
theorem fld {n t o k i : Nat} {fs : Array Field} {f : Field} {cs : List Value} {xs : List (DataW H × List MemPlace)}
    (hx : ∀ (i : Nat) (f : Field), fs[i]? = some f → DataW.trod enc Tryz.prog w 0 (fun _ => true) true n f.type ((cs.drop f.offset).take (Tryz.prog.cellsOf f.type)) = xs[i]?) (hl : xs.length = fs.size)
    (hf : fs[i]? = some f) (ht : f.type = t) (ho : f.offset = o) (hk : Tryz.prog.cellsOf t = k) : ∃ y, Rd enc w n t ((cs.drop o).take k) y := by
  have h := hx i f hf
  rw [ht, ho, hk] at h
  have hi : i < fs.size := (Array.getElem?_eq_some_iff.1 hf).1
  have hi' : i < xs.length := by omega
  rw [List.getElem?_eq_getElem hi'] at h
  exact ⟨_, h⟩
theorem c5 : Tryz.prog.cellsOf 5 = 1 := by kernel_rfl
theorem c9 : Tryz.prog.cellsOf 9 = 1 := by kernel_rfl
theorem c62 : Tryz.prog.cellsOf 62 = 2 := by kernel_rfl
theorem c64 : Tryz.prog.cellsOf 64 = 2 := by kernel_rfl
theorem c3 : Tryz.prog.cellsOf 3 = 1 := by kernel_rfl
theorem c4 : Tryz.prog.cellsOf 4 = 1 := by kernel_rfl
theorem c29 : Tryz.prog.cellsOf 29 = 1 := by kernel_rfl
theorem c65 : Tryz.prog.cellsOf 65 = 1 := by kernel_rfl
theorem c66 : Tryz.prog.cellsOf 66 = 1 := by kernel_rfl
theorem c68 : Tryz.prog.cellsOf 68 = 19 := by kernel_rfl
theorem c103 : Tryz.prog.cellsOf 103 = 4 := by kernel_rfl
theorem c22 : Tryz.prog.cellsOf 22 = 1 := by kernel_rfl
theorem int_of {fuel : Nat} {t : TypeId} {k : IntKind} {c : Value} {x : DataW H × List MemPlace} (ht : Tryz.prog.underlying t = some (.int k)) (h : Rd enc w fuel t [c] x) : ∃ n, c = .int k n ∧ (Lit.int k n).wf = true := by
  obtain ⟨n, e, _, hw⟩ := DataW.trod_int ht h
  injection e with e _
  exact ⟨n, e, hw⟩
theorem text_of {fuel : Nat} {c : Value} {x : DataW H × List MemPlace} (h : Rd enc w fuel 9 [c] x) : ∃ s : ByteArray, c = .string s ∧ s.size ≤ maxLen := by
  obtain ⟨n, e, _, hw⟩ := DataW.trod_string Tryz.underlying9 h
  injection e with e _
  exact ⟨n, e, hw⟩
theorem bool_of {fuel : Nat} {c : Value} {x : DataW H × List MemPlace} (h : Rd enc w fuel 4 [c] x) : ∃ b, c = .bool b := by
  obtain ⟨n, e, _⟩ := DataW.trod_bool Tryz.underlying4 h
  injection e with e _
  exact ⟨n, e⟩
theorem pair_of {fuel : Nat} {c c' : Value} {x : DataW H × List MemPlace} (h : Rd enc w fuel 62 [c, c'] x) : ∃ m n, c = .int .i64 m ∧ c' = .int .i64 n := by
  obtain ⟨xs, n, rfl, _, _, hl, hx⟩ := DataW.trod_struct Tryz.underlying62 h
  obtain ⟨_, h0⟩ := fld (i := 0) hx hl rfl rfl rfl c3
  obtain ⟨_, h1⟩ := fld (i := 1) hx hl rfl rfl rfl c3
  obtain ⟨m, rfl, _⟩ := int_of (c := c) Tryz.underlying3 h0
  obtain ⟨m', rfl, _⟩ := int_of (c := c') Tryz.underlying3 h1
  exact ⟨m, m', rfl, rfl⟩
theorem spot_of {fuel : Nat} {c c' : Value} {x : DataW H × List MemPlace} (h : Rd enc w fuel 64 [c, c'] x) : ∃ m n, c = .int .i64 m ∧ c' = .int .i64 n := by
  obtain ⟨xs, n, rfl, _, _, hl, hx⟩ := DataW.trod_struct Tryz.underlying64 h
  obtain ⟨_, h0⟩ := fld (i := 0) hx hl rfl rfl rfl c3
  obtain ⟨_, h1⟩ := fld (i := 1) hx hl rfl rfl rfl c3
  obtain ⟨m, rfl, _⟩ := int_of (c := c) Tryz.underlying3 h0
  obtain ⟨m', rfl, _⟩ := int_of (c := c') Tryz.underlying3 h1
  exact ⟨m, m', rfl, rfl⟩
/-- A slice of numbers. -/
theorem ints_of {fuel : Nat} {c : Value} {x : DataW H × List MemPlace} (h : Rd enc w fuel 66 [c] x) : ∃ p n k xs, c = .slice p n k ∧ n ≤ maxLen ∧ IntsAt w (.slice p n k) xs := by
  rcases ChangeShapes.open_ints Tryz.underlying66 Tryz.underlying3 c3 h with ⟨e, _⟩ | ⟨a, len, cap, zs, e, _, hl, hm, hz, _, hcell, _⟩
  · injection e with e _
    exact ⟨none, 0, 0, [], e, Nat.zero_le _, .inl ⟨none, rfl, rfl⟩⟩
  · injection e with e _
    rw [if_pos rfl] at hz
    rcases Nat.eq_zero_or_pos cap with h0 | h0
    · have : len = 0 := by omega
      subst h0 this
      exact ⟨some a, 0, 0, [], e, Nat.zero_le _, .inl ⟨some a, rfl, rfl⟩⟩
    · have h1 := hcell 0 (by omega)
      have h1 : w.cell? a = _ := h1
      refine ⟨some a, len, cap, zs.take len, e, Nat.le_trans hl hm, .inr ⟨a.block, a.off, cap, ?_, ?_, fun i hi => ?_⟩⟩
      · rw [List.length_take, Nat.min_eq_left (by omega)]
        rw [← mid_of h1]
      · rw [List.length_take]; omega
      · have hi' : i < len := by rw [List.length_take] at hi; omega
        have := hcell i (by omega)
        rw [add_of h1] at this
        rw [this, List.getElem_take, List.getD_eq_getElem?_getD, List.getElem?_eq_getElem (by omega)]
        rfl
/-- A wrapper's cells. -/
theorem wrap_of {fuel b o : Nat} {cs : List Value} {x : DataW H × List MemPlace} (h : Rd enc w fuel 103 cs x) (hc : ∀ i, i < 4 → w.cell? ⟨b, o + i, none⟩ = cs[i]?) : ∃ y : WrapS, WrapAt w b o y ∧ 0 ≤ y.mask ∧ y.mask < 65536 := by
  obtain ⟨xs, n, rfl, _, hn, hl, hx⟩ := DataW.trod_struct Tryz.underlying103 h
  rw [c103] at hn
  obtain ⟨c0, c1, c2, c3', rfl⟩ : ∃ c0 c1 c2 c3', cs = [c0, c1, c2, c3'] := by
    obtain ⟨c0, t0, e0, k0⟩ := cons_of hn
    obtain ⟨c1, t1, e1, k1⟩ := cons_of k0
    obtain ⟨c2, t2, e2, k2⟩ := cons_of k1
    obtain ⟨c3', t3, e3, k3⟩ := cons_of k2
    have e4 := List.eq_nil_of_length_eq_zero k3
    exact ⟨c0, c1, c2, c3', by rw [e0, e1, e2, e3, e4]⟩
  obtain ⟨_, h0⟩ := fld (i := 0) hx hl rfl rfl rfl c5
  obtain ⟨_, h1⟩ := fld (i := 1) hx hl rfl rfl rfl c29
  obtain ⟨_, h2⟩ := fld (i := 2) hx hl rfl rfl rfl c3
  obtain ⟨_, h3⟩ := fld (i := 3) hx hl rfl rfl rfl c9
  obtain ⟨m0, rfl, _⟩ := int_of (c := c0) Tryz.underlying5 h0
  obtain ⟨m1, rfl, hm⟩ := int_of (c := c1) Tryz.underlying29 h1
  obtain ⟨m2, rfl, _⟩ := int_of (c := c2) Tryz.underlying3 h2
  obtain ⟨s, rfl, hs⟩ := text_of (c := c3') h3
  have hm : decide (IntKind.u16.min ≤ m1 ∧ m1 ≤ IntKind.u16.max) = true := by simpa [Lit.wf] using hm
  have hm := of_decide_eq_true hm
  have e1 : IntKind.u16.min = 0 := by decide
  have e2 : IntKind.u16.max = 65535 := by decide
  rw [e1, e2] at hm
  exact ⟨⟨m0, m1, m2, s⟩, ⟨hc 0 (by omega), hc 1 (by omega), hc 2 (by omega), hc 3 (by omega), hs⟩, hm.1, by show m1 < 65536; omega⟩
/-- A slice of wrappers. -/
theorem wraps_of {fuel : Nat} {c : Value} {x : DataW H × List MemPlace} (h : Rd enc w fuel 65 [c] x) :
    ∃ p n k ws, c = .slice p n k ∧ n ≤ maxLen ∧ WrapsAt w (.slice p n k) ws ∧ ∀ y ∈ ws, 0 ≤ y.mask ∧ y.mask < 65536 := by
  rcases Deep.open_slice Tryz.underlying65 h with ⟨e, _⟩ | ⟨a, len, cap, m, n, D, Pl, e, _, hl, hm, hz, _, hel⟩
  · injection e with e _
    exact ⟨none, 0, 0, [], e, Nat.zero_le _, .inl ⟨none, rfl, rfl⟩, fun y hy => (by cases hy)⟩
  · injection e with e _
    rw [if_pos rfl] at hz
    subst hz
    rw [c103] at hel
    rcases Nat.eq_zero_or_pos m with h0 | h0
    · have : len = 0 := by omega
      subst h0 this
      exact ⟨some a, 0, 0, [], e, Nat.zero_le _, .inl ⟨some a, rfl, rfl⟩, fun y hy => (by cases hy)⟩
    · obtain ⟨cs0, hcs0, _⟩ := hel 0 h0
      obtain ⟨_, hn0, h1⟩ := World.cells?_some hcs0
      have h1 := h1 0 (by omega)
      rw [List.getElem?_eq_getElem (by omega)] at h1
      have h1 : w.cell? a = _ := h1
      have hall : ∀ i, i < len → ∃ y : WrapS, WrapAt w a.block (a.off + i * 4) y ∧ 0 ≤ y.mask ∧ y.mask < 65536 := fun i hi => by
        obtain ⟨cs', hcs, ht⟩ := hel i (by omega)
        obtain ⟨_, hn, hc⟩ := World.cells?_some hcs
        refine wrap_of ht fun j hj => ?_
        have := hc j hj
        rw [add_of h1, Addr.add_mid] at this
        exact this
      obtain ⟨F, hF⟩ : ∃ F : Nat → WrapS, ∀ i, i < len → WrapAt w a.block (a.off + i * 4) (F i) ∧ 0 ≤ (F i).mask ∧ (F i).mask < 65536 := by
        haveI : Inhabited WrapS := ⟨⟨0, 0, 0, ByteArray.empty⟩⟩
        exact Deep.choose_lt hall
      refine ⟨some a, len, m, (List.range len).map F, e, Nat.le_trans hl hm, .inr ⟨a.block, a.off, m, ?_, ?_, fun i hi => ?_⟩, fun y hy => ?_⟩
      · rw [List.length_map, List.length_range, ← mid_of h1]
      · rw [List.length_map, List.length_range]; omega
      · have hi' : i < len := by simpa using hi
        simp only [List.getElem_map, List.getElem_range]
        exact (hF i hi').1
      · obtain ⟨i, hi, rfl⟩ := List.mem_map.1 hy
        exact (hF i (List.mem_range.1 hi)).2
theorem nineteen {cs : List Value} (h : cs.length = 19) : ∃ d0 d1 d2 d3 d4 d5 d6 d7 d8 d9 d10 d11 d12 d13 d14 d15 d16 d17 d18, cs = [d0, d1, d2, d3, d4, d5, d6, d7, d8, d9, d10, d11, d12, d13, d14, d15, d16, d17, d18] := by
  obtain ⟨d0, t0, e0, k0⟩ := cons_of h
  obtain ⟨d1, t1, e1, k1⟩ := cons_of k0
  obtain ⟨d2, t2, e2, k2⟩ := cons_of k1
  obtain ⟨d3, t3, e3, k3⟩ := cons_of k2
  obtain ⟨d4, t4, e4, k4⟩ := cons_of k3
  obtain ⟨d5, t5, e5, k5⟩ := cons_of k4
  obtain ⟨d6, t6, e6, k6⟩ := cons_of k5
  obtain ⟨d7, t7, e7, k7⟩ := cons_of k6
  obtain ⟨d8, t8, e8, k8⟩ := cons_of k7
  obtain ⟨d9, t9, e9, k9⟩ := cons_of k8
  obtain ⟨d10, t10, e10, k10⟩ := cons_of k9
  obtain ⟨d11, t11, e11, k11⟩ := cons_of k10
  obtain ⟨d12, t12, e12, k12⟩ := cons_of k11
  obtain ⟨d13, t13, e13, k13⟩ := cons_of k12
  obtain ⟨d14, t14, e14, k14⟩ := cons_of k13
  obtain ⟨d15, t15, e15, k15⟩ := cons_of k14
  obtain ⟨d16, t16, e16, k16⟩ := cons_of k15
  obtain ⟨d17, t17, e17, k17⟩ := cons_of k16
  obtain ⟨d18, t18, e18, k18⟩ := cons_of k17
  have ez := List.eq_nil_of_length_eq_zero k18
  exact ⟨d0, d1, d2, d3, d4, d5, d6, d7, d8, d9, d10, d11, d12, d13, d14, d15, d16, d17, d18, by rw [e0, e1, e2, e3, e4, e5, e6, e7, e8, e9, e10, e11, e12, e13, e14, e15, e16, e17, e18, ez]⟩
set_option maxRecDepth 100000 in
/-- A node's cells. -/
theorem node_of {fuel b o : Nat} {cs : List Value} {x : DataW H × List MemPlace} (h : Rd enc w fuel 68 cs x) (hc : ∀ i, i < 19 → w.cell? ⟨b, o + i, none⟩ = cs[i]?) : ∃ y : NodeX, NodeXAt w b o y := by
  obtain ⟨xs, n, rfl, _, hn, hl, hx⟩ := DataW.trod_struct Tryz.underlying68 h
  rw [c68] at hn
  obtain ⟨d0, d1, d2, d3, d4, d5, d6, d7, d8, d9, d10, d11, d12, d13, d14, d15, d16, d17, d18, rfl⟩ := nineteen hn
  obtain ⟨_, h0⟩ := fld (i := 0) hx hl rfl rfl rfl c5
  obtain ⟨_, h1⟩ := fld (i := 1) hx hl rfl rfl rfl c9
  obtain ⟨_, h2⟩ := fld (i := 2) hx hl rfl rfl rfl c9
  obtain ⟨_, h3⟩ := fld (i := 3) hx hl rfl rfl rfl c9
  obtain ⟨_, h4⟩ := fld (i := 4) hx hl rfl rfl rfl c62
  obtain ⟨_, h5⟩ := fld (i := 5) hx hl rfl rfl rfl c62
  obtain ⟨_, h6⟩ := fld (i := 6) hx hl rfl rfl rfl c3
  obtain ⟨_, h7⟩ := fld (i := 7) hx hl rfl rfl rfl c3
  obtain ⟨_, h8⟩ := fld (i := 8) hx hl rfl rfl rfl c4
  obtain ⟨_, h9⟩ := fld (i := 9) hx hl rfl rfl rfl c3
  obtain ⟨_, h10⟩ := fld (i := 10) hx hl rfl rfl rfl c3
  obtain ⟨_, h11⟩ := fld (i := 11) hx hl rfl rfl rfl c3
  obtain ⟨_, h12⟩ := fld (i := 12) hx hl rfl rfl rfl c64
  obtain ⟨_, h13⟩ := fld (i := 13) hx hl rfl rfl rfl c4
  obtain ⟨_, h14⟩ := fld (i := 14) hx hl rfl rfl rfl c65
  obtain ⟨_, h15⟩ := fld (i := 15) hx hl rfl rfl rfl c66
  obtain ⟨v0, rfl, _⟩ := int_of (c := d0) Tryz.underlying5 h0
  obtain ⟨v1, rfl, s1⟩ := text_of (c := d1) h1
  obtain ⟨v2, rfl, s2⟩ := text_of (c := d2) h2
  obtain ⟨v3, rfl, s3⟩ := text_of (c := d3) h3
  obtain ⟨v4, v5, rfl, rfl⟩ := pair_of (c := d4) (c' := d5) h4
  obtain ⟨v6, v7, rfl, rfl⟩ := pair_of (c := d6) (c' := d7) h5
  obtain ⟨v8, rfl, _⟩ := int_of (c := d8) Tryz.underlying3 h6
  obtain ⟨v9, rfl, _⟩ := int_of (c := d9) Tryz.underlying3 h7
  obtain ⟨v10, rfl⟩ := bool_of (c := d10) h8
  obtain ⟨v11, rfl, _⟩ := int_of (c := d11) Tryz.underlying3 h9
  obtain ⟨v12, rfl, _⟩ := int_of (c := d12) Tryz.underlying3 h10
  obtain ⟨v13, rfl, _⟩ := int_of (c := d13) Tryz.underlying3 h11
  obtain ⟨v14, v15, rfl, rfl⟩ := spot_of (c := d14) (c' := d15) h12
  obtain ⟨v16, rfl⟩ := bool_of (c := d16) h13
  obtain ⟨wp, wn, wk, ws, rfl, hwn, hws, hms⟩ := wraps_of (c := d17) h14
  obtain ⟨kp, kn, kk, ks, rfl, hkn, hks⟩ := ints_of (c := d18) h15
  refine ⟨⟨⟨v0, v1, v2, v3, v4, v5, v6, v7, v8, v9, v10, v11, v12, v13, v14, v15, v16, wp, wn, wk, kp, kn, kk⟩, ws, ks⟩, ⟨fun i v hi => ?_, ⟨s1, s2, s3, hkn, hwn⟩, hws, hms, hks⟩⟩
  have hi' : i < 19 := (List.getElem?_eq_some_iff.1 hi).1
  exact (hc i hi').trans hi
/-- A document. -/
theorem nodes_open {fuel : Nat} {cs : List Value} {x : DataW H × List MemPlace} (h : Rd enc w fuel 24 cs x) :
    ∃ p n k, cs = [.slice p n k] ∧ n ≤ maxLen ∧ ((∀ a, p = some a → a.spot = none) → ∃ xs, NodesAt w (.slice p n k) xs) := by
  obtain ⟨xs, n, rfl, _, hn, hl, hx⟩ := DataW.trod_struct Tryz.underlying24 h
  have hn : cs.length = 1 := hn.trans (by kernel_rfl)
  obtain ⟨c0, rfl⟩ : ∃ c0, cs = [c0] := by
    obtain ⟨c0, t0, e0, k0⟩ := cons_of hn
    have e1 := List.eq_nil_of_length_eq_zero k0
    exact ⟨c0, by rw [e0, e1]⟩
  obtain ⟨_, h0⟩ := fld (i := 0) hx hl rfl rfl rfl c22
  have h0 : Rd enc w n 22 [c0] _ := h0
  rcases Deep.open_slice Tryz.underlying22 h0 with ⟨e, _⟩ | ⟨a, len, cap, m, n, D, Pl, e, _, hl, hm, hz, _, hel⟩
  · injection e with e _
    subst e
    exact ⟨none, 0, 0, rfl, Nat.zero_le _, fun _ => ⟨[], .inl ⟨rfl, rfl⟩⟩⟩
  · injection e with e _
    subst e
    rw [if_pos rfl] at hz
    subst hz
    rw [c68] at hel
    refine ⟨some a, len, m, rfl, Nat.le_trans hl hm, fun hs => ?_⟩
    have hs := hs a rfl
    have h1 : a = ⟨a.block, a.off, none⟩ := by obtain ⟨b, o, s⟩ := a; cases hs; rfl
    have hall : ∀ i, i < len → ∃ y : NodeX, NodeXAt w a.block (a.off + i * 19) y := fun i hi => by
      obtain ⟨cs', hcs, ht⟩ := hel i (by omega)
      obtain ⟨_, hn, hc⟩ := World.cells?_some hcs
      refine node_of ht fun j hj => ?_
      have := hc j hj
      rw [h1, Addr.add_mid, Addr.add_mid] at this
      exact this
    obtain ⟨F, hF⟩ : ∃ F : Nat → NodeX, ∀ i, i < len → NodeXAt w a.block (a.off + i * 19) (F i) := by
      haveI : Inhabited NodeX := ⟨⟨⟨0, ByteArray.empty, ByteArray.empty, ByteArray.empty, 0, 0, 0, 0, 0, 0, false, 0, 0, 0, 0, 0, false, none, 0, 0, none, 0, 0⟩, [], []⟩⟩
      exact Deep.choose_lt hall
    refine ⟨(List.range len).map F, .inr ⟨a.block, a.off, m, ?_, ?_, fun i hi => ?_⟩⟩
    · rw [List.length_map, List.length_range, ← h1]
    · rw [List.length_map, List.length_range]; omega
    · have hi' : i < len := by simpa using hi
      simp only [List.getElem_map, List.getElem_range]
      exact hF i hi'
end
end Go.Proofs.YthjofgmiabcifabGreatDoor.Jo
namespace Go.Proofs.YthjofgmiabcifabGreatDoor.Jo
open Go Go.RowKit
open Go.Shelf Go.Lib
open Go.ChangeShapes Go.WideShapes Go.ChangeAt
def rho : Ren := ⟨fun x => x, fun t => if t = 5 then 5 else if t = 119 then 210 else if t = 138 then 212 else 213, fun g => if g = 3 then 0 else 1⟩
theorem u8types : U8Types Tryz.prog rho := ⟨by kernel_rfl, by kernel_rfl, by kernel_rfl, by kernel_rfl⟩
theorem u8extra : U8Extra Tryz.prog rho := ⟨by kernel_rfl, by kernel_rfl, by kernel_rfl, by kernel_rfl, by kernel_rfl, by kernel_rfl, by kernel_rfl⟩
theorem accept_eq : (Rows.laid_unicode_utf8_acceptRanges : DataW Unit) = Lib.acceptData := by kernel_rfl
theorem first_eq : Rows.laid_unicode_utf8_first = Lib.firstData := by kernel_rfl
theorem laid_eq : Rows.crewOncesRow.laid = [("unicode/utf8.acceptRanges", Lib.acceptData), ("unicode/utf8.first", Lib.firstData)] := by
  show [("unicode/utf8.acceptRanges", Rows.laid_unicode_utf8_acceptRanges), ("unicode/utf8.first", Rows.laid_unicode_utf8_first)] = _
  rw [accept_eq, first_eq]
/-- The tables. -/
theorem tabs_of {W : World} (hL : laidMetH Tryz.prog Rows.crewOncesRow.laid W) : Lib.Utf8Tabs 0 1 W := by
  rw [laid_eq] at hL
  exact utf8Tabs_of_readsT u8types u8extra (Lib.laidMet.reads hL (.tail _ (.head _))) (Lib.laidMet.reads hL (.head _))
noncomputable def laidWorld (os : Os) : World :=
  let w0 := World.holding Tryz.prog os ⟨#[], #[], []⟩
  let put (h : Array Obj) (g : Nat) (cs : Array Value) : Array Obj := h.modify g fun
    | .cells _ t frozen => .cells cs t frozen
    | o => o
  let h1 := put w0.heap 0 (Lib.firstTab.map fun z => Value.int .u8 z).toArray
  let h2 := put h1 1 ((List.range 16).flatMap fun i => [Value.int .u8 (Lib.accLo i), Value.int .u8 (Lib.accHi i)]).toArray
  { w0 with heap := h2 }
theorem laid_met (os : Os) (args : Array Value) : laidMet Tryz.prog Rows.crewOncesRow.laid ((laidWorld os).forCall (fun _ _ => 0) ⟨#[], args, []⟩).memory := by
  rw [laid_eq]
  exact (LaidIn.of_run (l := [("unicode/utf8.acceptRanges", Lib.acceptData), ("unicode/utf8.first", Lib.firstData)]) [1, 0] 8 (by kernel_rfl) (by kernel_rfl) (by kernel_rfl) (by kernel_rfl)).met
theorem witness_row (os : Os) {H : Type} (enc : TypeId × Value → H) :
    (OpenSpec.ofChange Rows.crewOncesSpec).preRow enc Tryz.prog Tryz.f3 Rows.crewOncesRow.domain false Rows.crewOncesRow.laid ((laidWorld os).forCall (fun _ _ => 0) ⟨#[], #[.agg #[.slice none 0 0], .int .i64 0], []⟩).memory #[.agg #[.slice none 0 0], .int .i64 0] := by
  have hw : (DataW.whole enc Tryz.prog ((laidWorld os).forCall (fun _ _ => 0) ⟨#[], #[.agg #[.slice none 0 0], .int .i64 0], []⟩).memory Tryz.f3.params.toList (OpenSpec.ofChange Rows.crewOncesSpec).vars false #[Value.agg #[.slice none 0 0], .int .i64 0].toList 8).map (fun x => (x.1, x.2.1)) =
      some ([.agg [.nil], .lit (.int .i64 0)], []) := by kernel_rfl
  obtain ⟨⟨x1, x2, x3⟩, hx, hx1⟩ := Option.map_eq_some_iff.1 hw
  simp only [Prod.mk.injEq] at hx1
  obtain ⟨rfl, rfl⟩ := hx1
  exact OpenSpec.preRow_of_cond 8 hx (by kernel_rfl) (fun k hk => by cases hk) (by kernel_rfl) (laid_met os _)
theorem witness (os : Os) {H : Type} (enc : TypeId × Value → H) :
    ∃ (w : World) (tape : Tape) (i : Input), w.os = os ∧ (w.forCall tape i).Shaped Tryz.prog ∧ i.vars = [] ∧ Input.okWide Tryz.prog (w.forCall tape i) .any w.heap.size 3 i ∧
      (OpenSpec.ofChange Rows.crewOncesSpec).preRow enc Tryz.prog Tryz.f3 Rows.crewOncesRow.domain false Rows.crewOncesRow.laid (w.forCall tape i).memory i.args ∧
      ({ calm := true } : Assume).holds Tryz.prog (lone (Frame.enter Tryz.prog 3 i.args .normal) [] (w.forCall tape i)) :=
  have hok : Input.okWideB Tryz.prog ((laidWorld os).forCall (fun _ _ => 0) ⟨#[], #[.agg #[.slice none 0 0], .int .i64 0], []⟩) 3 ⟨#[], #[.agg #[.slice none 0 0], .int .i64 0], []⟩ = true := by kernel_rfl
  ⟨laidWorld os, fun _ _ => 0, ⟨#[], #[.agg #[.slice none 0 0], .int .i64 0], []⟩, rfl, World.shaped_of_B (by kernel_rfl) (by kernel_rfl), (Input.okWide_of_okWideB (base := 0) hok).1, (Input.okWide_of_okWideB hok).2, witness_row os enc, by
    simp only [Assume.holds]
    exact ⟨by simp, fun _ _ _ _ => rfl, by simp, by simp, by simp⟩⟩
end Go.Proofs.YthjofgmiabcifabGreatDoor.Jo
namespace Go.Proofs.YthjofgmiabcifabGreatDoor.Jo
open Go
theorem plain : ∀ f fn, Tryz.pinned.checked.prog.funcNamed Rows.crewOncesRow.func = some f → Tryz.pinned.checked.prog.funcs[f]? = some fn →
    true = Tryz.pinned.checked.prog.looks [] ∧ ∀ (j : Nat) t, fn.params[j]? = some t → Tryz.pinned.checked.prog.wantsStandIn t = false := fun f fn hf hfn => by
  obtain rfl : f = 3 := Option.some.inj ((show Tryz.prog.funcNamed "casement/casementlaw31.CrewOnces" = some 3 by kernel_rfl).symm.trans hf) |>.symm
  obtain rfl : fn = Tryz.f3 := (Option.some.inj (Tryz.func3.symm.trans hfn)).symm
  exact ⟨by kernel_rfl, fun j t ht => by
    rw [Tryz.params3] at ht
    have hm : t ∈ [24, 3] := by simpa using Array.mem_of_getElem? ht
    have hall : ([24, 3].all fun u => !Tryz.prog.wantsStandIn u) = true := by kernel_rfl
    exact (show Tryz.prog.wantsStandIn t = false by simpa using List.all_eq_true.1 hall t hm)⟩
theorem card_of (said : Rows.CrewOncesSaid) : Rows.CrewOncesCardSaid := by
  have h6 : Claim7.isSixth { stood := { row := Rows.crewOncesRow, standIns := [], harness := (true, "26cb143c4bed6c69232799f35dc79961e33539e6df00d1e7b6d201b322fba845"), looks := true }, kinds := [] } = false := rfl
  exact ⟨Claim7.tied_new_at .later [.data, .pinned] true (Claim7.new_of_sixth said (true, "26cb143c4bed6c69232799f35dc79961e33539e6df00d1e7b6d201b322fba845") true rfl ⟨rfl, rfl⟩ (by kernel_rfl) h6 plain) (by kernel_rfl),
    fun D hD => (by cases hD), crewOnces_row_tie, (fun h => by cases h), by kernel_rfl⟩
end Go.Proofs.YthjofgmiabcifabGreatDoor.Jo
namespace Go.Proofs.YthjofgmiabcifabGreatDoor.Jo
open Go Go.RowKit Go.Conc Go.ConcM
open Go.ChangeShapes Go.WideShapes Go.ChangeAt
open Go.Proofs.YthjofgmiabcifabGreatDoor.So (QF FinW all_runs T0 e3)
theorem laidOut : laidOutB Tryz.prog = true := by kernel_rfl
theorem celltypes24 : Tryz.prog.cellTypes Tryz.prog.depth 24 = some [22] := by kernel_rfl
set_option maxRecDepth 100000 in
/-- What the form says of the first argument's shape. -/
theorem spot_none {W : World} {base : Nat} {v : Value} (h : Value.okWide Tryz.prog W .any base 24 v) {p : Option Addr} {n k : Nat} (hv : v = .agg #[.slice p n k]) : ∀ a, p = some a → a.spot = none := by
  intro a ha
  subst hv ha
  unfold Value.okWide at h
  rw [Tryz.underlying24] at h
  obtain ⟨cs, e, _, ts, ht, _, hc⟩ := h
  injection e with e
  subst e
  rw [celltypes24] at ht
  injection ht with ht
  subst ht
  obtain ⟨u, hu, hok⟩ := hc 0 _ rfl
  have hu : (22 : TypeId) = u := by injection hu
  subst hu
  unfold Cell.okWide at hok
  rw [Tryz.underlying22] at hok
  have hok : Cell.ok Tryz.prog W .any base 22 (.slice (some a) n k) := hok
  unfold Cell.ok at hok
  rw [Tryz.underlying22] at hok
  exact hok.2.2.2.1
set_option maxRecDepth 100000 in
theorem runs_of {H : Type} {enc : TypeId × Value → H} {W : World} {base : Nat} {args : Array Value} {ds gs : List (DataW H)} {before : List MemPlace}
    (hval : ∀ (j : Nat) t v, Tryz.f3.params[j]? = some t → args[j]? = some v → Value.okWide Tryz.prog W .any base t v)
    (hW : DataW.Whole enc Tryz.prog Tryz.f3.params.toList Rows.crewOncesSpec.vars false W args.toList ds gs before)
    (hL : laidMetH Tryz.prog Rows.crewOncesRow.laid W) :
    ∃ M last o w' t', runNT Tryz.prog (M + 1) (solo (G (Frame.enter Tryz.prog 3 args .normal) []) W) #[] = (.ended o w', t') ∧ runN Tryz.prog M (solo (G (Frame.enter Tryz.prog 3 args .normal) []) W) = .next last ∧
      step Tryz.prog last = .ended o w' ∧ Conc.Good Tryz.prog (fun v W' => Rows.crewOncesSpec.post enc Tryz.prog Tryz.f3 false true false false W args v { W' with os := W.os } ∧ OsLater W.os W'.os) last o w' t' := by
  have hW' := hW
  have hlt := hW.lt
  obtain ⟨p, q, hA, hV, rfl, _, _⟩ := hW
  rw [Tryz.params3] at hA hval
  obtain ⟨v0, v1, d0, d1, p0, p1, rfl, rfl, rfl, h0, h1⟩ := trodAll_two hA
  obtain ⟨rfl, rfl⟩ := trodVars_none hV
  have hk0 := hval 0 24 v0 rfl rfl
  have h0k := h0
  have h1k := h1
  obtain ⟨sp, m, c, hv0, hm, hn⟩ : ∃ sp m c, v0 = .agg #[.slice sp m c] ∧ m ≤ maxLen ∧ ((∀ a, sp = some a → a.spot = none) → ∃ xs, Sq.NodesAt W (.slice sp m c) xs) := by
    obtain ⟨fuel, h⟩ := h0
    obtain ⟨p, n, k, e, hl, hn⟩ := nodes_open h
    refine ⟨p, n, k, ?_, hl, hn⟩
    unfold Value.okWide at hk0
    rw [Tryz.underlying24] at hk0
    obtain ⟨cs, rfl, _⟩ := hk0
    have e : cs.toList = [.slice p n k] := e
    have : cs = #[.slice p n k] := by rw [← @Array.toArray_toList _ cs, e]
    rw [this]
  obtain ⟨xs, hn⟩ := hn (spot_none hk0 hv0)
  obtain ⟨k, rfl, rfl, rfl, wk⟩ := open_int Tryz.underlying3 (hval 1 3 v1 rfl rfl) h1
  subst hv0
  have hs : So.Start sp m c k W xs := ⟨hn, tabs_of hL, by unfold maxLen at hm; omega, by
    have hm : decide (IntKind.i64.min ≤ k ∧ k ≤ IntKind.i64.max) = true := by simpa [Lit.wf] using wk
    have hm := of_decide_eq_true hm
    have e1 : IntKind.i64.min = -9223372036854775808 := by decide
    have e2 : IntKind.i64.max = 9223372036854775807 := by decide
    rw [e1, e2] at hm
    exact hm⟩
  obtain ⟨M, last, o, w', t', r1, r2, r3, v, e, hp, g1, g2, g3, g4⟩ := (all_runs hs).run
  refine ⟨M, last, o, w', t', r1, r2, r3, v, e, ⟨?_, hp.2.2⟩, g1, g2, g3, g4⟩
  obtain ⟨rfl, hbel, _⟩ := hp
  have hlt : ∀ x ∈ p0, x.block < W.heap.size := fun x hx => hlt x (by simp [hx])
  exact ⟨_, _, _, [], _, [], hW', trodAll_mk1 (shut_bool Tryz.underlying4 _), trodAll_mk2 (Below.trod laidOut (by kernel_rfl) (of_decide_eq_true (by kernel_rfl)) h0k hbel hlt) (shut_int Tryz.underlying3 wk), rfl, hbel.frame _, fun h => by cases h⟩
set_option maxRecDepth 100000 in
theorem lifted (os : Os) (started : os.Started) (H : Type) (enc : TypeId × Value → H) (F : Stop.Interp) :
    ReturnsInLeavingWide Rows.crewOncesRow.assume Tryz.checked os 3 .any ((OpenSpec.ofChange Rows.crewOncesSpec).preRow enc Tryz.prog Tryz.f3 Rows.crewOncesRow.domain false Rows.crewOncesRow.laid)
      ((OpenSpec.ofChange Rows.crewOncesSpec).postWith enc Tryz.prog Tryz.f3 F (outsideKept [.timePasses]) false true false) := by
  refine returnsInLeavingWide_of_good (C := Tryz.checked) (by kernel_rfl) started (witness os enc) ?_
  intro w tape i _ _ _ hok hpre _
  obtain ⟨_, _, _, fn', hfn', _, _, _, _, hval⟩ := hok
  have e : fn' = Tryz.f3 := Option.some.inj (hfn'.symm.trans Tryz.func3)
  subst e
  obtain ⟨⟨hp, hl⟩, hz⟩ := hpre
  obtain ⟨ds, gs, before, hw, hc, hk⟩ := OpenSpec.pre_parts hp
  have hW : DataW.Whole enc Tryz.prog Tryz.f3.params.toList Rows.crewOncesSpec.vars false (w.forCall tape i) i.args.toList ds gs before := DataW.Whole.of_heap (w' := w.forCall tape i) (by rfl) hw
  obtain ⟨M, last, o, w', t', h1, h2, h3, h4⟩ := runs_of hval hW (hl.of_heap (by rfl))
  obtain ⟨v, e, hp, r1, r2, r3, r4⟩ := h4
  exact ⟨M, last, o, w', t', h1, h2, h3, v, e, postWith_blind (postWith_of_post hp.1 hp.2), r1, r2, r3, r4⟩
/-- THE ROW. -/
theorem said : Rows.CrewOncesSaid :=
  OpenClaim.holds_of_wide_leaving_time 3 Tryz.f3 rfl rfl rfl rfl rfl rfl rfl ⟨rfl, rfl, rfl, rfl, rfl⟩ rfl rfl rfl rfl rfl (by kernel_rfl) Tryz.func3 (by kernel_rfl)
    (of_decide_eq_true (by kernel_rfl)) (by unfold Func.isWrapper; rw [if_neg (of_decide_eq_false (by kernel_rfl))]; exact ⟨rfl, rfl⟩)
    (fun os started H enc _ F => by rw [OpenClaim.pre_eq_preRow]; exact lifted os started H enc F)
/-- THE CARD. -/
theorem card : Rows.CrewOncesCardSaid := card_of said
end Go.Proofs.YthjofgmiabcifabGreatDoor.Jo
namespace Go.Proofs.YthjofgmiabcifabGreatDoor
/-- THE CARD: whatever the input, CrewOnces answers true and leaves its input as it was. -/
theorem crewOnces_card : Rows.CrewOncesCardSaid := Jo.card
end Go.Proofs.YthjofgmiabcifabGreatDoor
#print axioms Go.Proofs.YthjofgmiabcifabGreatDoor.crewOnces_card
