/-
  Where each goroutine stands in the world.
  Conditions: as each theorem says.
-/
import Derived.Test.YthjofgmiabcifabGreatDoorPAc
import Derived.Test.YthjofgmiabcifabGreatDoorPCe
import Derived.Conc.ClockLaws
import Derived.Conc.MuSpec
set_option linter.unusedVariables false
set_option linter.unusedSimpArgs false
namespace Go.Proofs.YthjofgmiabcifabGreatDoor.Mc
open Go Go.Conc Go.Proofs.YthjofgmiabcifabGreatDoor.Ev Go.Proofs.YthjofgmiabcifabGreatDoor.Co Go.Proofs.YthjofgmiabcifabGreatDoor.Ab
section
variable {m : MW}
theorem mw_all (h : m.W ≤ 17) (p : Nat → Bool → Bool → Bool → Prop) (hp : ∀ (W : Fin 18) (S K L : Bool), p W S K L) : p m.W m.S m.K m.L := hp ⟨m.W, by omega⟩ m.S m.K m.L
theorem e1 (h : m.W ≤ 17) : E1 m.val = (m.L && !m.S) := mw_all h (fun W S K L => E1 (MW.val ⟨W, S, K, L⟩) = (L && !S)) (by decide +kernel)
theorem e2 (h : m.W ≤ 17) : E2 m.val = !m.S := mw_all h (fun W S K L => E2 (MW.val ⟨W, S, K, L⟩) = !S) (by decide +kernel)
theorem e3 (h : m.W ≤ 17) : E3 m.val = (m.L || m.S) := mw_all h (fun W S K L => E3 (MW.val ⟨W, S, K, L⟩) = (L || S)) (by decide +kernel)
theorem e4 (h : m.W ≤ 17) : E4 m.val = m.L := mw_all h (fun W S K L => E4 (MW.val ⟨W, S, K, L⟩) = L) (by decide +kernel)
theorem e5 (h : m.W ≤ 17) : E5 m.val = !m.K := mw_all h (fun W S K L => E5 (MW.val ⟨W, S, K, L⟩) = !K) (by decide +kernel)
theorem e6 (h : m.W ≤ 17) : E6 m.val = m.S := mw_all h (fun W S K L => E6 (MW.val ⟨W, S, K, L⟩) = S) (by decide +kernel)
theorem e7 (h : m.W ≤ 17) : E7 m.val = decide (m.W ≠ 0) := mw_all h (fun W S K L => E7 (MW.val ⟨W, S, K, L⟩) = decide (W ≠ 0)) (by decide +kernel)
theorem e8 (h : m.W ≤ 17) : E8 m.val = !(m.L || m.S) := mw_all h (fun W S K L => E8 (MW.val ⟨W, S, K, L⟩) = !(L || S)) (by decide +kernel)
theorem e9 (h : m.W ≤ 17) : E9 m.val = (m.L || m.K) := mw_all h (fun W S K L => E9 (MW.val ⟨W, S, K, L⟩) = (L || K)) (by decide +kernel)
theorem e10 (h : m.W ≤ 17) : E10 m.val = decide (m.W = 0) := mw_all h (fun W S K L => E10 (MW.val ⟨W, S, K, L⟩) = decide (W = 0)) (by decide +kernel)
theorem e11 (h : m.W ≤ 17) : E11 m.val = decide (m.W = 1) := mw_all h (fun W S K L => E11 (MW.val ⟨W, S, K, L⟩) = decide (W = 1)) (by decide +kernel)
theorem e12 (h : m.W ≤ 17) : E12 m.val = (m.S || m.K || m.L) := mw_all h (fun W S K L => E12 (MW.val ⟨W, S, K, L⟩) = (S || K || L)) (by decide +kernel)
theorem or1 (h : m.W ≤ 17) : bi .or m.val 1 = MW.val { m with L := true } := mw_all h (fun W S K L => bi .or (MW.val ⟨W, S, K, L⟩) 1 = MW.val ⟨W, S, K, true⟩) (by decide +kernel)
theorem or2 (h : m.W ≤ 17) : bi .or m.val 2 = MW.val { m with K := true } := mw_all h (fun W S K L => bi .or (MW.val ⟨W, S, K, L⟩) 2 = MW.val ⟨W, S, true, L⟩) (by decide +kernel)
theorem or4 (h : m.W ≤ 17) : bi .or m.val 4 = MW.val { m with S := true } := mw_all h (fun W S K L => bi .or (MW.val ⟨W, S, K, L⟩) 4 = MW.val ⟨W, true, K, L⟩) (by decide +kernel)
theorem andn2 (h : m.W ≤ 17) : bi .andNot m.val 2 = MW.val { m with K := false } := mw_all h (fun W S K L => bi .andNot (MW.val ⟨W, S, K, L⟩) 2 = MW.val ⟨W, S, false, L⟩) (by decide +kernel)
theorem add8 (h : m.W ≤ 17) : ar .add .i32 m.val 8 = MW.val { m with W := m.W + 1 } := mw_all h (fun W S K L => ar .add .i32 (MW.val ⟨W, S, K, L⟩) 8 = MW.val ⟨W + 1, S, K, L⟩) (by decide +kernel)
theorem sub1 (h : m.W ≤ 17) (hl : m.L = true) : ar .add .i32 m.val (-1) = MW.val { m with L := false } := mw_all h (fun W S K L => L = true → ar .add .i32 (MW.val ⟨W, S, K, L⟩) (-1) = MW.val ⟨W, S, K, false⟩) (by decide +kernel) hl
theorem sub8 (h : m.W ≤ 17) (hw : m.W ≠ 0) : ar .sub .i32 m.val 8 = MW.val { m with W := m.W - 1 } := mw_all h (fun W S K L => W ≠ 0 → ar .sub .i32 (MW.val ⟨W, S, K, L⟩) 8 = MW.val ⟨W - 1, S, K, L⟩) (by decide +kernel) hw
theorem fixA (h : m.W ≤ 17) (hw : m.W ≠ 0) (hs : m.S = true) (hl : m.L = false) : ar .add .i32 m.val (ar .sub .i32 (-7) 4) = MW.val ⟨m.W - 1, false, m.K, true⟩ :=
  mw_all h (fun W S K L => W ≠ 0 → S = true → L = false → ar .add .i32 (MW.val ⟨W, S, K, L⟩) (ar .sub .i32 (-7) 4) = MW.val ⟨W - 1, false, K, true⟩) (by decide +kernel) hw hs hl
theorem fixB (h : m.W ≤ 17) (hw : m.W ≠ 0) (hl : m.L = false) : ar .add .i32 m.val (-7) = MW.val ⟨m.W - 1, m.S, m.K, true⟩ :=
  mw_all h (fun W S K L => W ≠ 0 → L = false → ar .add .i32 (MW.val ⟨W, S, K, L⟩) (-7) = MW.val ⟨W - 1, S, K, true⟩) (by decide +kernel) hw hl
theorem val0 (h : m.W ≤ 17) : m.val = 0 ↔ m = .zero := by
  have := mw_all h (fun W S K L => MW.val ⟨W, S, K, L⟩ = 0 → W = 0 ∧ S = false ∧ K = false ∧ L = false) (by decide +kernel)
  obtain ⟨W, S, K, L⟩ := m
  constructor
  · intro e
    obtain ⟨a, b, c, d⟩ := this e
    simp only at a b c d
    subst a b c d
    rfl
  · intro e; rw [e]; rfl
theorem val_inj (h : m.W ≤ 17) {m' : MW} (h' : m'.W ≤ 17) : m.val = m'.val ↔ m = m' := by
  constructor
  · intro e
    have a := e4 h; have b := e4 h'; have c := e5 h; have d := e5 h'; have f := e6 h; have g := e6 h'
    rw [e] at a c f
    have hL : m.L = m'.L := a.symm.trans b
    have hK : m.K = m'.K := by have := c.symm.trans d; simpa using this
    have hS : m.S = m'.S := f.symm.trans g
    obtain ⟨W, S, K, L⟩ := m
    obtain ⟨W', S', K', L'⟩ := m'
    simp only at hL hK hS
    subst hL hK hS
    simp only [MW.val] at e
    have : W = W' := by omega
    subst this; rfl
  · rintro rfl; rfl
end
/-- The group's word. -/
def wgv (v w : Nat) : Int := (v * 4294967296 + w : Nat)
section
variable {v w : Nat}
theorem wg_all (h : v ≤ 17) (hw : w ≤ 1) (p : Nat → Nat → Prop) (hp : ∀ (v : Fin 18) (w : Fin 2), p v w) : p v w := hp ⟨v, by omega⟩ ⟨w, by omega⟩
theorem decv (h : v ≤ 17) (hw : w ≤ 1) (hv : v ≠ 0) : dec (wgv v w) = wgv (v - 1) w := wg_all h hw (fun v w => v ≠ 0 → dec (wgv v w) = wgv (v - 1) w) (by decide +kernel) hv
theorem incv (h : v ≤ 17) (hw : w ≤ 1) : inc (wgv v w) = wgv (v + 1) w := wg_all h hw (fun v w => inc (wgv v w) = wgv (v + 1) w) (by decide +kernel)
theorem g1v (h : v ≤ 17) (hw : w ≤ 1) : G1 (wgv v w) = false := wg_all h hw (fun v w => G1 (wgv v w) = false) (by decide +kernel)
theorem vofv (h : v ≤ 17) (hw : w ≤ 1) : Vof (wgv v w) = v := wg_all h hw (fun v w => Vof (wgv v w) = v) (by decide +kernel)
theorem wofv (h : v ≤ 17) (hw : w ≤ 1) : Wof (wgv v w) = w := wg_all h hw (fun v w => Wof (wgv v w) = w) (by decide +kernel)
end
theorem wgv_one {v : Nat} (h : v ≤ 17) : ar .add .u64 (wgv v 0) 1 = wgv v 1 := wg_all (w := 0) h (by omega) (fun v _ => ar .add .u64 (wgv v 0) 1 = wgv v 1) (by decide +kernel)
theorem wgv_inj {v w v' w' : Nat} (hw : w ≤ 1) (hw' : w' ≤ 1) : wgv v w = wgv v' w' ↔ v = v' ∧ w = w' := by
  unfold wgv
  constructor
  · intro h
    have : v * 4294967296 + w = v' * 4294967296 + w' := by exact_mod_cast h
    omega
  · rintro ⟨rfl, rfl⟩; rfl
theorem itv {i : Nat} (h : i ≤ 17) : ar .add .i64 (i : Int) 1 = ((i + 1 : Nat) : Int) := wg_all (w := 0) h (by omega) (fun v _ => ar .add .i64 (v : Int) 1 = ((v + 1 : Nat) : Int)) (by decide +kernel)
theorem ltv {i n : Nat} : cm .lss (i : Int) (n : Int) = decide (i < n) := by
  show decide ((i : Int) < n) = _
  simp
theorem gtv {i n : Int} : cm .gtr i n = decide (i > n) := rfl
theorem ltz {i n : Int} : cm .lss i n = decide (i < n) := rfl
end Go.Proofs.YthjofgmiabcifabGreatDoor.Mc
namespace Go.Proofs.YthjofgmiabcifabGreatDoor.Mc
open Go Go.Conc
open Go.ConcM (OsLater)
open Go.Proofs.YthjofgmiabcifabGreatDoor.Ev Go.Proofs.YthjofgmiabcifabGreatDoor.Co Go.Proofs.YthjofgmiabcifabGreatDoor.Ab
/-- The parts, once they are made: where the first lies, how many, its type and what it holds. -/
structure Parts where
  pa : Addr
  pl : Nat
  pc : Nat
  t : TypeId
  v : Value
def Parts.sl (k : Parts) : Value := .slice (some k.pa) k.pl k.pc
def num (b : Bool) : Int := if b then 1 else 0
/-- The blocks in the order of their birth. -/
structure Dist (x : Cx) (B : Nat) : Prop where
  d1 : x.Sb < x.On
  d2 : x.On < x.Pa
  d3 : x.Pa < x.Md
  d4 : x.Md < x.Oa
  d5 : x.Oa < x.Ob
  d6 : x.Ob < x.Fb
  d7 : x.Fb < x.Ch
  d8 : x.Ch < x.Nb
  d9 : x.Nb < x.Wg
  d10 : x.Wg < B
/-- What the starter has laid and nobody turns. -/
structure Base (x : Cx) (n : Nat) (sv : Value) (w : World) : Prop where
  ob : w.heap[x.Ob]? = some (.cells #[.slice (some ⟨x.Oa, 0, none⟩) n n] 25)
  fb : w.heap[x.Fb]? = some (.cells #[dof x] 57)
  nb : w.heap[x.Nb]? = some (.cells #[.chan (some x.Ch)] 74)
  sb : w.heap[x.Sb]? = some (.cells #[sv] 24)
def Turned (x : Cx) (b : Nat) : Prop := b = x.On ∨ b = x.Pa ∨ b = x.Md ∨ b = x.Oa ∨ b = x.Ch ∨ b = x.Wg
/-- How the shared state lies in the world. -/
structure Wd (x : Cx) (n : Nat) (Can : TypeId → Prop) (u : Int) (B : Nat) (W0 : World) (k : Parts) (s : Sh) (w : World) : Prop where
  on : w.heap[x.On]? = some (.cells #[.int .u32 (num s.done), .int .i32 s.mu.val, .int .u32 s.ms] 44)
  pa : w.heap[x.Pa]? = some (.cells #[if s.pts then k.sl else .slice none 0 0] 45)
  md : w.heap[x.Md]? = some (.cells #[.int .i64 s.made] 48)
  oa : ∃ c : Array Value, w.heap[x.Oa]? = some (.cells c 29) ∧ c.size = n ∧ ∀ i, i < n → s.fill i = true → c[i]? = some (.int .u16 u)
  ch : w.heap[x.Ch]? = some (.chan 0 #[] s.shut s.sent s.sent false)
  wg : w.heap[x.Wg]? = some (.cells #[.int .u64 (wgv s.wv s.ww), .int .u32 s.wm] 79)
  part : s.pts = true → B ≤ k.pa.block ∧ w.cell? k.pa = some (.iface k.t k.v) ∧ 0 < k.pl ∧ Can k.t
  old : ∀ b, b < B → ¬ Turned x b → w.heap[b]? = W0.heap[b]?
  size : B ≤ w.heap.size
  tape : w.tape = W0.tape
  os : OsLater W0.os w.os
  output : w.output = W0.output
theorem heap_set_same {w : World} {b o : Nat} {v : Value} {c : Array Value} {t : TypeId} {f : Nat × Nat} (h : w.heap[b]? = some (.cells c t f)) :
    (w.setCell ⟨b, o, none⟩ v).heap[b]? = some (.cells (c.setIfInBounds o v) t f) := by
  simp [World.setCell, Array.getElem?_modify, h]
theorem heap_set_ne {w : World} {a : Addr} {v : Value} {b : Nat} (h : b ≠ a.block) : (w.setCell a v).heap[b]? = w.heap[b]? := by
  simp [World.setCell, Array.getElem?_modify, Ne.symm h]
theorem cell_of {w : World} {b o : Nat} {v : Value} {c : Array Value} {t : TypeId} {f : Nat × Nat} (h : w.heap[b]? = some (.cells c t f)) (ho : c[o]? = some v) : w.cell? ⟨b, o, none⟩ = some v := by
  simp [World.cell?, h, ho]
theorem frz_of {w : World} {b o : Nat} {c : Array Value} {t : TypeId} (h : w.heap[b]? = some (.cells c t (0, 0))) : w.frozen? ⟨b, o, none⟩ = false := by
  simp [World.frozen?, h]
theorem shape_of {w : World} {b : Nat} {c : Array Value} {t : TypeId} {f : Nat × Nat} (h : w.heap[b]? = some (.cells c t f)) : w.shape? b = some (t, c.size) := by
  simp [World.shape?, h]
theorem size_set {w : World} {a : Addr} {v : Value} : (w.setCell a v).heap.size = w.heap.size := by simp [World.setCell]
theorem cell_far {w : World} {a p : Addr} {v : Value} (h : p.block ≠ a.block) : (w.setCell a v).cell? p = w.cell? p := by
  simp [World.cell?, heap_set_ne h]
/-- What the quiet runs ask of the world. -/
def Live (x : Cx) (w : World) : Prop := w.shape? x.On = some (44, 3) ∧ w.shape? x.Wg = some (79, 2)
section
variable {x : Cx} {n B : Nat} {Can : TypeId → Prop} {u : Int} {W0 w : World} {k : Parts} {s : Sh}
theorem Wd.live (h : Wd x n Can u B W0 k s w) : Live x w := ⟨shape_of h.on, shape_of h.wg⟩
/-- One cell of a block that is turned. -/
theorem Wd.turn (hD : Dist x B) (h : Wd x n Can u B W0 k s w) {b o : Nat} {v : Value} {s' : Sh} (hb : Turned x b)
    (on : (w.setCell ⟨b, o, none⟩ v).heap[x.On]? = some (.cells #[.int .u32 (num s'.done), .int .i32 s'.mu.val, .int .u32 s'.ms] 44))
    (pa : (w.setCell ⟨b, o, none⟩ v).heap[x.Pa]? = some (.cells #[if s'.pts then k.sl else .slice none 0 0] 45))
    (md : (w.setCell ⟨b, o, none⟩ v).heap[x.Md]? = some (.cells #[.int .i64 s'.made] 48))
    (oa : ∃ c : Array Value, (w.setCell ⟨b, o, none⟩ v).heap[x.Oa]? = some (.cells c 29) ∧ c.size = n ∧ ∀ i, i < n → s'.fill i = true → c[i]? = some (.int .u16 u))
    (ch : (w.setCell ⟨b, o, none⟩ v).heap[x.Ch]? = some (.chan 0 #[] s'.shut s'.sent s'.sent false))
    (wg : (w.setCell ⟨b, o, none⟩ v).heap[x.Wg]? = some (.cells #[.int .u64 (wgv s'.wv s'.ww), .int .u32 s'.wm] 79))
    (part : s'.pts = true → B ≤ k.pa.block ∧ w.cell? k.pa = some (.iface k.t k.v) ∧ 0 < k.pl ∧ Can k.t) : Wd x n Can u B W0 k s' (w.setCell ⟨b, o, none⟩ v) := by
  have hbB : b < B := by
    have := hD
    obtain ⟨d1, d2, d3, d4, d5, d6, d7, d8, d9, d10⟩ := hD
    rcases hb with rfl | rfl | rfl | rfl | rfl | rfl <;> omega
  refine ⟨on, pa, md, oa, ch, wg, fun hp => ?_, fun b' hb' hn => ?_, by rw [size_set]; exact h.size, h.tape, h.os, h.output⟩
  · obtain ⟨a1, a2, a3, a4⟩ := part hp
    exact ⟨a1, by rw [cell_far (by simp only; omega)]; exact a2, a3, a4⟩
  · rw [heap_set_ne (by simp only; rintro rfl; exact hn hb)]
    exact h.old b' hb' hn
theorem Wd.tick (h : Wd x n Can u B W0 k s w) {w' : World} (hh : w'.heap = w.heap) (ht : w'.tape = w.tape) (ho : OsLater w.os w'.os) (hp : w'.output = w.output) : Wd x n Can u B W0 k s w' :=
  ⟨hh ▸ h.on, hh ▸ h.pa, hh ▸ h.md, hh ▸ h.oa, hh ▸ h.ch, hh ▸ h.wg, fun hs => by
    obtain ⟨a1, a2, a3, a4⟩ := h.part hs
    exact ⟨a1, by simpa [World.cell?, hh] using a2, a3, a4⟩, fun b hb hn => by rw [hh]; exact h.old b hb hn, by rw [hh]; exact h.size, ht.trans h.tape, h.os.trans ho, hp.trans h.output⟩
theorem Wd.done (hD : Dist x B) (h : Wd x n Can u B W0 k s w) : Wd x n Can u B W0 k { s with done := true } (w.setCell ⟨x.On, 0, none⟩ (.int .u32 1)) := by
  obtain ⟨d1, d2, d3, d4, d5, d6, d7, d8, d9, d10⟩ := id hD
  refine h.turn hD (.inl rfl) ?_ ?_ ?_ ?_ ?_ ?_ h.part
  · rw [heap_set_same h.on]; rfl
  · rw [heap_set_ne (by simp only; omega)]; exact h.pa
  · rw [heap_set_ne (by simp only; omega)]; exact h.md
  · rw [heap_set_ne (by simp only; omega)]; exact h.oa
  · rw [heap_set_ne (by simp only; omega)]; exact h.ch
  · rw [heap_set_ne (by simp only; omega)]; exact h.wg
theorem Wd.setMu (hD : Dist x B) (h : Wd x n Can u B W0 k s w) (m : MW) : Wd x n Can u B W0 k { s with mu := m } (w.setCell ⟨x.On, 1, none⟩ (.int .i32 m.val)) := by
  obtain ⟨d1, d2, d3, d4, d5, d6, d7, d8, d9, d10⟩ := id hD
  refine h.turn hD (.inl rfl) ?_ ?_ ?_ ?_ ?_ ?_ h.part
  · rw [heap_set_same h.on]; rfl
  · rw [heap_set_ne (by simp only; omega)]; exact h.pa
  · rw [heap_set_ne (by simp only; omega)]; exact h.md
  · rw [heap_set_ne (by simp only; omega)]; exact h.oa
  · rw [heap_set_ne (by simp only; omega)]; exact h.ch
  · rw [heap_set_ne (by simp only; omega)]; exact h.wg
theorem Wd.setMs (hD : Dist x B) (h : Wd x n Can u B W0 k s w) (m : Nat) : Wd x n Can u B W0 k { s with ms := m } (w.setCell ⟨x.On, 2, none⟩ (.int .u32 m)) := by
  obtain ⟨d1, d2, d3, d4, d5, d6, d7, d8, d9, d10⟩ := id hD
  refine h.turn hD (.inl rfl) ?_ ?_ ?_ ?_ ?_ ?_ h.part
  · rw [heap_set_same h.on]; rfl
  · rw [heap_set_ne (by simp only; omega)]; exact h.pa
  · rw [heap_set_ne (by simp only; omega)]; exact h.md
  · rw [heap_set_ne (by simp only; omega)]; exact h.oa
  · rw [heap_set_ne (by simp only; omega)]; exact h.ch
  · rw [heap_set_ne (by simp only; omega)]; exact h.wg
theorem Wd.setPts (hD : Dist x B) (h : Wd x n Can u B W0 k s w) (hp : B ≤ k.pa.block ∧ w.cell? k.pa = some (.iface k.t k.v) ∧ 0 < k.pl ∧ Can k.t) : Wd x n Can u B W0 k { s with pts := true } (w.setCell ⟨x.Pa, 0, none⟩ k.sl) := by
  obtain ⟨d1, d2, d3, d4, d5, d6, d7, d8, d9, d10⟩ := id hD
  refine h.turn hD (.inr (.inl rfl)) ?_ ?_ ?_ ?_ ?_ ?_ fun _ => hp
  · rw [heap_set_ne (by simp only; omega)]; exact h.on
  · rw [heap_set_same h.pa]; rfl
  · rw [heap_set_ne (by simp only; omega)]; exact h.md
  · rw [heap_set_ne (by simp only; omega)]; exact h.oa
  · rw [heap_set_ne (by simp only; omega)]; exact h.ch
  · rw [heap_set_ne (by simp only; omega)]; exact h.wg
theorem Wd.setMade (hD : Dist x B) (h : Wd x n Can u B W0 k s w) (m : Nat) : Wd x n Can u B W0 k { s with made := m } (w.setCell ⟨x.Md, 0, none⟩ (.int .i64 m)) := by
  obtain ⟨d1, d2, d3, d4, d5, d6, d7, d8, d9, d10⟩ := id hD
  refine h.turn hD (.inr (.inr (.inl rfl))) ?_ ?_ ?_ ?_ ?_ ?_ h.part
  · rw [heap_set_ne (by simp only; omega)]; exact h.on
  · rw [heap_set_ne (by simp only; omega)]; exact h.pa
  · rw [heap_set_same h.md]; rfl
  · rw [heap_set_ne (by simp only; omega)]; exact h.oa
  · rw [heap_set_ne (by simp only; omega)]; exact h.ch
  · rw [heap_set_ne (by simp only; omega)]; exact h.wg
theorem Wd.setFill (hD : Dist x B) (h : Wd x n Can u B W0 k s w) (i : Nat) : Wd x n Can u B W0 k { s with fill := fun j => if j = i then true else s.fill j } (w.setCell ⟨x.Oa, i, none⟩ (.int .u16 u)) := by
  obtain ⟨d1, d2, d3, d4, d5, d6, d7, d8, d9, d10⟩ := id hD
  refine h.turn hD (.inr (.inr (.inr (.inl rfl)))) ?_ ?_ ?_ ?_ ?_ ?_ h.part
  · rw [heap_set_ne (by simp only; omega)]; exact h.on
  · rw [heap_set_ne (by simp only; omega)]; exact h.pa
  · rw [heap_set_ne (by simp only; omega)]; exact h.md
  · obtain ⟨c, e1, e2, e3⟩ := h.oa
    refine ⟨_, heap_set_same e1, by simp [e2], fun j hj hf => ?_⟩
    by_cases hji : i = j
    · subst hji; simp [e2, hj]
    · rw [Array.getElem?_setIfInBounds_ne hji]
      exact e3 j hj (by simpa [Ne.symm hji] using hf)
  · rw [heap_set_ne (by simp only; omega)]; exact h.ch
  · rw [heap_set_ne (by simp only; omega)]; exact h.wg
theorem Wd.setWg (hD : Dist x B) (h : Wd x n Can u B W0 k s w) (v e : Nat) : Wd x n Can u B W0 k { s with wv := v, ww := e } (w.setCell ⟨x.Wg, 0, none⟩ (.int .u64 (wgv v e))) := by
  obtain ⟨d1, d2, d3, d4, d5, d6, d7, d8, d9, d10⟩ := id hD
  refine h.turn hD (.inr (.inr (.inr (.inr (.inr rfl))))) ?_ ?_ ?_ ?_ ?_ ?_ h.part
  · rw [heap_set_ne (by simp only; omega)]; exact h.on
  · rw [heap_set_ne (by simp only; omega)]; exact h.pa
  · rw [heap_set_ne (by simp only; omega)]; exact h.md
  · rw [heap_set_ne (by simp only; omega)]; exact h.oa
  · rw [heap_set_ne (by simp only; omega)]; exact h.ch
  · rw [heap_set_same h.wg]; rfl
theorem Wd.setWm (hD : Dist x B) (h : Wd x n Can u B W0 k s w) (m : Nat) : Wd x n Can u B W0 k { s with wm := m } (w.setCell ⟨x.Wg, 1, none⟩ (.int .u32 m)) := by
  obtain ⟨d1, d2, d3, d4, d5, d6, d7, d8, d9, d10⟩ := id hD
  refine h.turn hD (.inr (.inr (.inr (.inr (.inr rfl))))) ?_ ?_ ?_ ?_ ?_ ?_ h.part
  · rw [heap_set_ne (by simp only; omega)]; exact h.on
  · rw [heap_set_ne (by simp only; omega)]; exact h.pa
  · rw [heap_set_ne (by simp only; omega)]; exact h.md
  · rw [heap_set_ne (by simp only; omega)]; exact h.oa
  · rw [heap_set_ne (by simp only; omega)]; exact h.ch
  · rw [heap_set_same h.wg]; rfl
/-- The channel's object. -/
theorem Wd.setCh (hD : Dist x B) (h : Wd x n Can u B W0 k s w) (c : Bool) (m : Nat) {w' : World} (hh : w'.heap = w.heap.setIfInBounds x.Ch (.chan 0 #[] c m m false)) (ht : w'.tape = w.tape) (ho : w'.os = w.os) (hp : w'.output = w.output) : Wd x n Can u B W0 k { s with shut := c, sent := m } w' := by
  obtain ⟨d1, d2, d3, d4, d5, d6, d7, d8, d9, d10⟩ := id hD
  have hlt : x.Ch < w.heap.size := by have := h.size; omega
  have ne : ∀ b, b ≠ x.Ch → w'.heap[b]? = w.heap[b]? := fun b hb => by rw [hh, Array.getElem?_setIfInBounds_ne (Ne.symm hb)]
  refine ⟨?_, ?_, ?_, ?_, ?_, ?_, fun hs => ?_, fun b hb hn => ?_, ?_, ht.trans h.tape, ho ▸ h.os, hp.trans h.output⟩
  · rw [ne _ (by omega)]; exact h.on
  · rw [ne _ (by omega)]; exact h.pa
  · rw [ne _ (by omega)]; exact h.md
  · rw [ne _ (by omega)]; exact h.oa
  · rw [hh]; simp [hlt]
  · rw [ne _ (by omega)]; exact h.wg
  · obtain ⟨a1, a2, a3, a4⟩ := h.part hs
    exact ⟨a1, by simpa [World.cell?, ne _ (show k.pa.block ≠ x.Ch by omega)] using a2, a3, a4⟩
  · rw [ne _ (by rintro rfl; exact hn (.inr (.inr (.inr (.inr (.inl rfl))))))]; exact h.old b hb hn
  · rw [hh]; simpa using h.size
end
end Go.Proofs.YthjofgmiabcifabGreatDoor.Mc
namespace Go.Proofs.YthjofgmiabcifabGreatDoor.Mc
open Go Go.Conc
open Go.ConcM (OsLater)
open Go.Proofs.YthjofgmiabcifabGreatDoor.Ev Go.Proofs.YthjofgmiabcifabGreatDoor.Co Go.Proofs.YthjofgmiabcifabGreatDoor.Ab
theorem sil_trans {P : Program} {main : Bool} {L : World → Prop} : ∀ {a b : Nat} {g h k : Goroutine}, Sil P main L a g h → Sil P main L b h k → Sil P main L (a + b) g k
  | 0, b, g, h, k, h1, h2 => by
    cases h1; rw [Nat.zero_add]; exact h2
  | a + 1, b, g, h, k, h1, h2 => by
    obtain ⟨hs, g', hg, hr⟩ := h1
    rw [show a + 1 + b = (a + b) + 1 by omega]
    exact ⟨hs, g', hg, sil_trans hr h2⟩
theorem sil_split {P : Program} {main : Bool} {L : World → Prop} : ∀ {a b : Nat} {g k : Goroutine}, Sil P main L (a + b) g k → ∃ h, Sil P main L a g h ∧ Sil P main L b h k
  | 0, b, g, k, h => ⟨g, rfl, by rwa [Nat.zero_add] at h⟩
  | a + 1, b, g, k, h => by
    rw [show a + 1 + b = (a + b) + 1 by omega] at h
    obtain ⟨hs, g', hg, hr⟩ := h
    obtain ⟨h', h1, h2⟩ := sil_split hr
    exact ⟨h', ⟨hs, g', hg, h1⟩, h2⟩
theorem put_self (R : Nat → Value) (j : Nat) : put R j (R j) = R := by
  funext n; unfold put; split
  · rename_i h; rw [h]
  · rfl
theorem put_of {R : Nat → Value} {j : Nat} {v : Value} (h : R j = v) : R = put R j v := by rw [← h, put_self]
/-- The frames below lockSlow. -/
def cs84 (P : Program) (x : Cx) (J : Nat → Value) (i : Nat) : List Frame := (sR0 P x J i).callers
def csU (P : Program) (x : Cx) (J : Nat → Value) (i : Nat) (T : Array Value) (td : List Item) : List Frame := (sUL P x J i T td).callers
/-- What a part of a type can: the walk through part.Can tells. -/
def CanOk (x : Cx) (u : Int) (t : TypeId) : Prop := ∀ (v : Value) (J : Nat → Value) (i : Nat) (R : Nat → Value) (r : List Nat), ∃ j,
  Sil Tryz.prog false (Live x) (j + 1) (on (Frame.enter Tryz.prog 14 #[.iface t v] .normal) ((mkRg Tryz.prog x J i (put R 16 (.iface t v)) (5 :: r)).frame :: (mkRg Tryz.prog x J i (put R 16 (.iface t v)) (5 :: r)).callers))
    (mkRg Tryz.prog x J i (put (put R 16 (.iface t v)) 17 (.int .u16 u)) r)
section
variable (x : Cx) (n : Nat) (u : Int) (k : Parts)
/-- What is known of the drawn region's temporaries. -/
structure RgOk (i : Nat) (R : Nat → Value) (r : List Nat) : Prop where
  fine : Co.fine r = true
  last : r.getLast? = some 7
  r0 : 0 ∉ r → R 12 = .slice (some ⟨x.Oa, 0, none⟩) n n
  r1 : 1 ∉ r → R 13 = .int .i64 i
  r2 : 2 ∉ r → R 14 = k.sl
  r3 : 3 ∉ r → R 15 = .pointer (some k.pa)
  r4 : 4 ∉ r → R 16 = .iface k.t k.v
  r5 : 5 ∉ r → R 17 = .int .u16 u
  r6 : 6 ∉ r → R 18 = .pointer (some ⟨x.Oa, i, none⟩)
/-- Where a worker stands. -/
def AtW (T : TD) (g : Goroutine) : Prop :=
  match T.ph with
  | .ldN => g = sLdN Tryz.prog x
  | .ldF => g = sLdF Tryz.prog x
  | .rcv => ∃ J, g = mkRcv Tryz.prog x J
  | .ld1 => ∃ J, g = sLd1 Tryz.prog x J T.item
  | .kd => ∃ J, g = sKd Tryz.prog x J T.item
  | .l0 => ∃ J, g = sL0 Tryz.prog x J T.item
  | .r0 => ∃ J K, g = mkR0 Tryz.prog x.On (cs84 Tryz.prog x J T.item) K
  | .sq => ∃ J K wt, g = mkSp Tryz.prog x.On (cs84 Tryz.prog x J T.item) wt T.sv T.aw T.it T.old.val K
  | .c1 => ∃ J K wt, g = mkC1 Tryz.prog x.On (cs84 Tryz.prog x J T.item) wt T.sv T.aw T.it T.old.val K
  | .r1 => ∃ J K wt, g = mkR1 Tryz.prog x.On (cs84 Tryz.prog x J T.item) wt T.sv T.aw (T.it + 1 : Nat) T.old.val K
  | .c2 => ∃ J K wt, g = mkC2 Tryz.prog x.On (cs84 Tryz.prog x J T.item) wt T.sv T.aw T.it T.old.val (nwOf T.old T.aw T.sv).val K
  | .r3 => ∃ J K wt, g = mkR3 Tryz.prog x.On (cs84 Tryz.prog x J T.item) wt T.sv T.aw T.it T.old.val K
  | .t1 => ∃ J K wt, g = mkT1 Tryz.prog x.On (cs84 Tryz.prog x J T.item) wt T.sv T.aw T.it T.old.val K
  | .s1 => ∃ J K wt, g = mkS1 Tryz.prog x.On (cs84 Tryz.prog x J T.item) wt T.sv T.aw T.it T.old.val K
  | .t2 => T.sv = false ∧ ∃ J K wt, g = mkT2 Tryz.prog x.On (cs84 Tryz.prog x J T.item) wt T.sv T.aw T.it T.old.val K
  | .r2 => ∃ J K wt, g = mkR2 Tryz.prog x.On (cs84 Tryz.prog x J T.item) wt T.sv T.aw T.it T.old.val K
  | .a1 => ∃ J K wt, g = mkA1 Tryz.prog x.On (cs84 Tryz.prog x J T.item) wt T.sv T.aw T.it T.old.val (if T.sv && decide (T.old.W ≠ 1) then -7 else ar .sub .i32 (-7) 4) K
  | .le => (∃ J, g = sLeF Tryz.prog x J T.item) ∨ ∃ J K wt sv aw it old, g = mkLe Tryz.prog x.On (cs84 Tryz.prog x J T.item) wt sv aw it old K
  | .la => (∃ J, g = sLaF Tryz.prog x J T.item) ∨ ∃ J K wt sv aw it old, g = mkLa Tryz.prog x.On (cs84 Tryz.prog x J T.item) wt sv aw it old K
  | .ld2 => ∃ J, g = sLd2 Tryz.prog x J T.item
  | .ldS => ∃ J, g = sLdS Tryz.prog x J T.item
  | .mk => False
  | .stP => ∃ J sa sl sc, g = sStP Tryz.prog x J T.item sa sl sc k.pa k.pl k.pc
  | .am => ∃ J sa sl sc, g = sAm Tryz.prog x J T.item sa sl sc k.pa k.pl k.pc
  | .drS => ∃ J sa sl sc, g = sDrS Tryz.prog x J T.item sa sl sc k.pa k.pl k.pc
  | .stD => ∃ J sa sl sc, g = sStD Tryz.prog x J T.item sa sl sc k.pa k.pl k.pc
  | .uL => ∃ J V td K, g = mkUL Tryz.prog x.On (csU Tryz.prog x J T.item V td) K
  | .ur => ∃ J V td K, g = mkUr Tryz.prog x.On (csU Tryz.prog x J T.item V td) K
  | .ud => ∃ J V td K, g = mkUd Tryz.prog x.On (csU Tryz.prog x J T.item V td) K
  | .u0 => ∃ J V td K, g = mkU0 Tryz.prog x.On (csU Tryz.prog x J T.item V td) K
  | .uc => ∃ J V td K K', g = mkUc Tryz.prog x.On (csU Tryz.prog x J T.item V td) T.old.val K K'
  | .ux => ∃ J V td K K', g = mkUx Tryz.prog x.On (csU Tryz.prog x J T.item V td) K K'
  | .us => (∃ J V td K K', g = mkUs Tryz.prog x.On (csU Tryz.prog x J T.item V td) K K') ∨ ∃ J V td K K', g = mkUsh Tryz.prog x.On (csU Tryz.prog x J T.item V td) K K'
  | .ue => ∃ J V td K, g = mkUe Tryz.prog x.On (csU Tryz.prog x J T.item V td) K
  | .ldP => ∃ J, g = sLdP Tryz.prog x J T.item
  | .dr2 => ∃ J R, g = mkDr2 Tryz.prog x J T.item R
  | .rg => ∃ J R, g = mkRg Tryz.prog x J T.item R T.rest ∧ RgOk x n u k T.item R T.rest
  | .cn => ∃ J R, Sil Tryz.prog false (Live x) 1 g (mkRg Tryz.prog x J T.item (put R 17 (.int .u16 u)) T.rest.tail) ∧ RgOk x n u k T.item (put R 17 (.int .u16 u)) T.rest.tail
  | .wr => g = sWr Tryz.prog x
  | .wk => g = sWk Tryz.prog x
  | .d1 => g = sD1 Tryz.prog x
  | .d2 => g = sD2 Tryz.prog x
  | .d3 => g = sD3 Tryz.prog x
  | .d4 => g = sD4 Tryz.prog x
  | .quit => False
def rdA (b o : Nat) : Event := ⟨.cell ⟨b, o, none⟩, false, true⟩
def wrA (b o : Nat) : Event := ⟨.cell ⟨b, o, none⟩, true, true⟩
def mkE (m : Mark) : Event := ⟨.mark m, false, true⟩
/-- What a worker's step lists. -/
def esW (T : TD) (s : Sh) : Array Event :=
  match T.ph with
  | .ldN => #[⟨.cell ⟨x.Nb, 0, none⟩, false, false⟩]
  | .ldF => #[⟨.cell ⟨x.Fb, 0, none⟩, false, false⟩]
  | .ld1 | .ld2 => #[rdA x.On 0]
  | .kd | .ud | .wk => #[mkE .disable]
  | .le | .ue => #[mkE .enable]
  | .l0 => if s.mu = .zero then #[rdA x.On 1, wrA x.On 1] else #[rdA x.On 1]
  | .c1 | .c2 | .uc => if s.mu = T.old then #[rdA x.On 1, wrA x.On 1] else #[rdA x.On 1]
  | .s1 | .us => #[mkE .disable, rdA x.On 2, wrA x.On 2, mkE .enable]
  | .a1 | .u0 => #[rdA x.On 1, wrA x.On 1]
  | .la => #[mkE (.acquire ⟨x.On, 1, none⟩)]
  | .ur => #[mkE (.releaseMerge ⟨x.On, 1, none⟩)]
  | .ldS => #[⟨.cell ⟨x.Sb, 0, none⟩, false, false⟩]
  | .stP => #[⟨.cell ⟨x.Pa, 0, none⟩, true, false⟩]
  | .am => #[rdA x.Md 0, wrA x.Md 0]
  | .stD => #[wrA x.On 0]
  | .ldP => #[⟨.cell ⟨x.Pa, 0, none⟩, false, false⟩]
  | .rg => match T.rest with
    | 0 :: _ => #[⟨.cell ⟨x.Ob, 0, none⟩, false, false⟩]
    | 2 :: _ => #[⟨.cell ⟨x.Pa, 0, none⟩, false, false⟩]
    | 4 :: _ => #[⟨.cell k.pa, false, false⟩]
    | 7 :: _ => #[⟨.cell ⟨x.Oa, T.item, none⟩, true, false⟩]
    | _ => #[]
  | .wr => #[mkE (.releaseMerge ⟨x.Wg, 0, none⟩)]
  | .d1 => #[rdA x.Wg 0, wrA x.Wg 0]
  | .d2 => #[rdA x.Wg 0]
  | .d3 => #[wrA x.Wg 0]
  | .d4 => #[mkE .disable, rdA x.Wg 1, wrA x.Wg 1, mkE .enable]
  | _ => #[]
/-- Behind a worker's step. -/
def Aft (sv : Value) (T : TD) (g : Goroutine) : Prop :=
  (T.ph = .quit ∧ ∃ N, QuitsD Tryz.prog N 1 g) ∨
  (T.ph = .mk ∧ ∃ j J sa sl sc, sv = .slice sa sl sc ∧ Sil Tryz.prog false (Live x) j g (on (Frame.enter Tryz.prog 12 #[.agg #[.slice sa sl sc]] .normal) (sMk Tryz.prog x J T.item sa sl sc).callers)) ∨
  (∃ j h, Sil Tryz.prog false (Live x) j g h ∧ AtW x n u k T h)
end
section
variable {x : Cx}
/-- A step that looks at the world. -/
theorem step_of {l l' : List Fx} {h h' : Goroutine} {n : Nat} {ans ans' : List Ans} {es : Array Event} {w : World} (hs : gseg Tryz.prog CC false n h ans ans' = some (l, h', l')) (hl : ∀ w, Live x w → okOf l' w)
    (he : seen Tryz.prog h.frame.fn (esOf l).toArray = es) (hok : okOf l w) : ∃ g', stepG Tryz.prog false h w = .go g' (wOf l w) es ∧ Sil Tryz.prog false (Live x) n g' h' := by
  obtain ⟨g', h1, h2⟩ := gseg_sound ccOk hs hl
  exact ⟨g', by rw [h1 w hok, he], h2⟩
theorem sil_of {l' : List Fx} {h h' : Goroutine} {n : Nat} {ans' : List Ans} (hs : grun Tryz.prog CC false n h ans' = some (h', l')) (hl : ∀ w, Live x w → okOf l' w) : Sil Tryz.prog false (Live x) n h h' :=
  grun_sound ccOk hs hl
end
theorem run_sLdN (x : Cx) : (sLdN Tryz.prog x).status = .running := by kernel_rfl
theorem run_sLdF (x : Cx) : (sLdF Tryz.prog x).status = .running := by kernel_rfl
theorem run_sWr (x : Cx) : (sWr Tryz.prog x).status = .running := by kernel_rfl
theorem run_sWk (x : Cx) : (sWk Tryz.prog x).status = .running := by kernel_rfl
theorem run_sD1 (x : Cx) : (sD1 Tryz.prog x).status = .running := by kernel_rfl
theorem run_sD2 (x : Cx) : (sD2 Tryz.prog x).status = .running := by kernel_rfl
theorem run_sD3 (x : Cx) : (sD3 Tryz.prog x).status = .running := by kernel_rfl
theorem run_sD4 (x : Cx) : (sD4 Tryz.prog x).status = .running := by kernel_rfl
theorem run_sLd1 (x : Cx) (J : Nat → Value) (i : Nat) : (sLd1 Tryz.prog x J i).status = .running := by kernel_rfl
theorem run_sKd (x : Cx) (J : Nat → Value) (i : Nat) : (sKd Tryz.prog x J i).status = .running := by kernel_rfl
theorem run_sL0 (x : Cx) (J : Nat → Value) (i : Nat) : (sL0 Tryz.prog x J i).status = .running := by kernel_rfl
theorem run_sLeF (x : Cx) (J : Nat → Value) (i : Nat) : (sLeF Tryz.prog x J i).status = .running := by kernel_rfl
theorem run_sLaF (x : Cx) (J : Nat → Value) (i : Nat) : (sLaF Tryz.prog x J i).status = .running := by kernel_rfl
theorem run_sLd2 (x : Cx) (J : Nat → Value) (i : Nat) : (sLd2 Tryz.prog x J i).status = .running := by kernel_rfl
theorem run_sLdS (x : Cx) (J : Nat → Value) (i : Nat) : (sLdS Tryz.prog x J i).status = .running := by kernel_rfl
theorem run_sLdP (x : Cx) (J : Nat → Value) (i : Nat) : (sLdP Tryz.prog x J i).status = .running := by kernel_rfl
theorem run_sStP (x : Cx) (J : Nat → Value) (i : Nat) (sa : Option Addr) (sl sc : Nat) (pa : Addr) (pl pc : Nat) : (sStP Tryz.prog x J i sa sl sc pa pl pc).status = .running := by kernel_rfl
theorem run_sAm (x : Cx) (J : Nat → Value) (i : Nat) (sa : Option Addr) (sl sc : Nat) (pa : Addr) (pl pc : Nat) : (sAm Tryz.prog x J i sa sl sc pa pl pc).status = .running := by kernel_rfl
theorem run_sDrS (x : Cx) (J : Nat → Value) (i : Nat) (sa : Option Addr) (sl sc : Nat) (pa : Addr) (pl pc : Nat) : (sDrS Tryz.prog x J i sa sl sc pa pl pc).status = .running := by kernel_rfl
theorem run_sStD (x : Cx) (J : Nat → Value) (i : Nat) (sa : Option Addr) (sl sc : Nat) (pa : Addr) (pl pc : Nat) : (sStD Tryz.prog x J i sa sl sc pa pl pc).status = .running := by kernel_rfl
theorem AtW.running {x : Cx} {n : Nat} {u : Int} {k : Parts} {T : TD} {g : Goroutine} (h : AtW x n u k T g) : g.status = .running := by
  obtain ⟨ph, item, old, aw, sv, it, rest⟩ := T
  cases ph
  case ldN => exact h ▸ run_sLdN x
  case ldF => exact h ▸ run_sLdF x
  case rcv => (obtain ⟨_, h⟩ := h; exact h ▸ rfl)
  case ld1 => (obtain ⟨_, h⟩ := h; exact h ▸ run_sLd1 _ _ _)
  case kd => (obtain ⟨_, h⟩ := h; exact h ▸ run_sKd _ _ _)
  case l0 => (obtain ⟨_, h⟩ := h; exact h ▸ run_sL0 _ _ _)
  case r0 => (obtain ⟨_, _, h⟩ := h; exact h ▸ rfl)
  case sq => (obtain ⟨_, _, _, h⟩ := h; exact h ▸ rfl)
  case c1 => (obtain ⟨_, _, _, h⟩ := h; exact h ▸ rfl)
  case r1 => (obtain ⟨_, _, _, h⟩ := h; exact h ▸ rfl)
  case c2 => (obtain ⟨_, _, _, h⟩ := h; exact h ▸ rfl)
  case r3 => (obtain ⟨_, _, _, h⟩ := h; exact h ▸ rfl)
  case t1 => (obtain ⟨_, _, _, h⟩ := h; exact h ▸ rfl)
  case s1 => (obtain ⟨_, _, _, h⟩ := h; exact h ▸ rfl)
  case t2 => (obtain ⟨_, _, _, _, h⟩ := h; exact h ▸ rfl)
  case r2 => (obtain ⟨_, _, _, h⟩ := h; exact h ▸ rfl)
  case a1 => (obtain ⟨_, _, _, h⟩ := h; exact h ▸ rfl)
  case le => (rcases h with ⟨_, h⟩ | ⟨_, _, _, _, _, _, _, h⟩; exact h ▸ run_sLeF _ _ _; exact h ▸ rfl)
  case la => (rcases h with ⟨_, h⟩ | ⟨_, _, _, _, _, _, _, h⟩; exact h ▸ run_sLaF _ _ _; exact h ▸ rfl)
  case ld2 => (obtain ⟨_, h⟩ := h; exact h ▸ run_sLd2 _ _ _)
  case ldS => (obtain ⟨_, h⟩ := h; exact h ▸ run_sLdS _ _ _)
  case mk => exact absurd h id
  case stP => (obtain ⟨_, _, _, _, h⟩ := h; exact h ▸ run_sStP _ _ _ _ _ _ _ _ _)
  case am => (obtain ⟨_, _, _, _, h⟩ := h; exact h ▸ run_sAm _ _ _ _ _ _ _ _ _)
  case drS => (obtain ⟨_, _, _, _, h⟩ := h; exact h ▸ run_sDrS _ _ _ _ _ _ _ _ _)
  case stD => (obtain ⟨_, _, _, _, h⟩ := h; exact h ▸ run_sStD _ _ _ _ _ _ _ _ _)
  case uL => (obtain ⟨_, _, _, _, h⟩ := h; exact h ▸ rfl)
  case ur => (obtain ⟨_, _, _, _, h⟩ := h; exact h ▸ rfl)
  case ud => (obtain ⟨_, _, _, _, h⟩ := h; exact h ▸ rfl)
  case u0 => (obtain ⟨_, _, _, _, h⟩ := h; exact h ▸ rfl)
  case uc => (obtain ⟨_, _, _, _, _, h⟩ := h; exact h ▸ rfl)
  case ux => (obtain ⟨_, _, _, _, _, h⟩ := h; exact h ▸ rfl)
  case us => (rcases h with ⟨_, _, _, _, _, h⟩ | ⟨_, _, _, _, _, h⟩ <;> exact h ▸ rfl)
  case ue => (obtain ⟨_, _, _, _, h⟩ := h; exact h ▸ rfl)
  case ldP => (obtain ⟨_, h⟩ := h; exact h ▸ run_sLdP _ _ _)
  case dr2 => (obtain ⟨_, _, h⟩ := h; exact h ▸ rfl)
  case rg => (obtain ⟨_, _, h, _⟩ := h; exact h ▸ rfl)
  case cn => (obtain ⟨_, _, h, _⟩ := h; exact h.1)
  case wr => exact h ▸ run_sWr x
  case wk => exact h ▸ run_sWk x
  case d1 => exact h ▸ run_sD1 x
  case d2 => exact h ▸ run_sD2 x
  case d3 => exact h ▸ run_sD3 x
  case d4 => exact h ▸ run_sD4 x
  case quit => exact absurd h id
end Go.Proofs.YthjofgmiabcifabGreatDoor.Mc
namespace Go.Proofs.YthjofgmiabcifabGreatDoor.Mc
open Go Go.Conc
open Go.ConcM (OsLater)
open Go.Proofs.YthjofgmiabcifabGreatDoor.Ev Go.Proofs.YthjofgmiabcifabGreatDoor.Co Go.Proofs.YthjofgmiabcifabGreatDoor.Ab
/-- What others see of a step. -/
structure Moves (x : Cx) (w w' : World) : Prop where
  size : w'.heap.size = w.heap.size
  rest : ∀ b, ¬ Turned x b → w'.heap[b]? = w.heap[b]?
theorem Moves.refl (x : Cx) (w : World) : Moves x w w := ⟨rfl, fun _ _ => rfl⟩
theorem Moves.of_heap {x : Cx} {w w' : World} (h : w'.heap = w.heap) : Moves x w w' := ⟨by rw [h], fun _ _ => by rw [h]⟩
theorem Moves.set {x : Cx} {w : World} {b o : Nat} {v : Value} (h : Turned x b) : Moves x w (w.setCell ⟨b, o, none⟩ v) :=
  ⟨size_set, fun b' hb => heap_set_ne (by simp only; rintro rfl; exact hb h)⟩
/-- A worker's step. -/
def WGo (x : Cx) (n : Nat) (u : Int) (B : Nat) (W0 : World) (k : Parts) (sv : Value) (T : TD) (s : Sh) (g : Goroutine) (w : World) : Prop :=
  ∃ T' s' g' w', (T', s') ∈ mv T s ∧ stepG Tryz.prog false g w = .go g' w' (esW x k T s) ∧ Wd x n (CanOk x u) u B W0 k s' w' ∧ Aft x n u k sv T' g' ∧ Moves x w w'
section
variable {x : Cx} {n B : Nat} {u : Int} {W0 w : World} {k : Parts} {s : Sh} {sv : Value} {T : TD} {g : Goroutine}
theorem tOn : Turned x x.On := .inl rfl
theorem tPa : Turned x x.Pa := .inr (.inl rfl)
theorem tMd : Turned x x.Md := .inr (.inr (.inl rfl))
theorem tOa : Turned x x.Oa := .inr (.inr (.inr (.inl rfl)))
theorem tWg : Turned x x.Wg := .inr (.inr (.inr (.inr (.inr rfl))))
theorem Wd.cDone (h : Wd x n (CanOk x u) u B W0 k s w) : w.cell? ⟨x.On, 0, none⟩ = some (.int .u32 (num s.done)) := cell_of h.on rfl
theorem Wd.cMu (h : Wd x n (CanOk x u) u B W0 k s w) : w.cell? ⟨x.On, 1, none⟩ = some (.int .i32 s.mu.val) := cell_of h.on rfl
theorem Wd.cMs (h : Wd x n (CanOk x u) u B W0 k s w) : w.cell? ⟨x.On, 2, none⟩ = some (.int .u32 s.ms) := cell_of h.on rfl
theorem Wd.fOn (h : Wd x n (CanOk x u) u B W0 k s w) (o : Nat) : w.frozen? ⟨x.On, o, none⟩ = false := frz_of h.on
theorem Wd.cWg (h : Wd x n (CanOk x u) u B W0 k s w) : w.cell? ⟨x.Wg, 0, none⟩ = some (.int .u64 (wgv s.wv s.ww)) := cell_of h.wg rfl
theorem Wd.cWm (h : Wd x n (CanOk x u) u B W0 k s w) : w.cell? ⟨x.Wg, 1, none⟩ = some (.int .u32 s.wm) := cell_of h.wg rfl
theorem Wd.fWg (h : Wd x n (CanOk x u) u B W0 k s w) (o : Nat) : w.frozen? ⟨x.Wg, o, none⟩ = false := frz_of h.wg
/-- One that looks and turns nothing. -/
theorem wgo_at {T' : TD} {g' h' : Goroutine} {j : Nat} (hm : (T', s) ∈ mv T s) (hs : stepG Tryz.prog false g w = .go g' w (esW x k T s)) (hW : Wd x n (CanOk x u) u B W0 k s w)
    (hq : Sil Tryz.prog false (Live x) j g' h') (ha : AtW x n u k T' h') : WGo x n u B W0 k sv T s g w :=
  ⟨T', s, g', w, hm, hs, hW, .inr (.inr ⟨j, h', hq, ha⟩), .refl x w⟩
/-- One that turns a cell. -/
theorem wgo_set {T' : TD} {s' : Sh} {g' h' : Goroutine} {j b o : Nat} {v : Value} (hm : (T', s') ∈ mv T s) (hs : stepG Tryz.prog false g w = .go g' (w.setCell ⟨b, o, none⟩ v) (esW x k T s))
    (hb : Turned x b) (hW : Wd x n (CanOk x u) u B W0 k s' (w.setCell ⟨b, o, none⟩ v)) (hq : Sil Tryz.prog false (Live x) j g' h') (ha : AtW x n u k T' h') : WGo x n u B W0 k sv T s g w :=
  ⟨T', s', g', _, hm, hs, hW, .inr (.inr ⟨j, h', hq, ha⟩), .set hb⟩
theorem nw_sil {b : Nat} {cs : List Frame} {wt : Int} {svb aw : Bool} {it : Int} {old : MW} {J : Nat → Value} (h17 : old.W ≤ 16) (hsv : svb = true → aw = true) (hsn : aw = true → old.K = true ∧ old.S = false) :
    ∃ j K, Sil Tryz.prog false (Live x) j (mkNw Tryz.prog b cs wt svb aw it old.val J) (mkC2 Tryz.prog b cs wt svb aw it old.val (nwOf old aw svb).val K) := by
  have hw : old.W ≤ 17 := by omega
  have a1 : ∃ j K, Sil Tryz.prog false (Live x) j (mkNw Tryz.prog b cs wt svb aw it old.val J) (mkN1 Tryz.prog b cs wt svb aw it old.val (MW.val ⟨if old.L || old.S then old.W + 1 else old.W, old.S, old.K, old.L || !old.S⟩) K) := by
    have r2 := e2 hw
    have r3 := e3 hw
    cases hS : old.S with
    | false =>
      rw [hS] at r2 r3
      cases hL : old.L with
      | false =>
        rw [hL] at r3
        refine ⟨_, _, sil_of (l' := [.test (E2 old.val) true, .test (E3 old.val) false]) (by have := nw_00 b cs wt svb aw it old.val J; rw [or1 hw, hS] at this; simpa using this) fun w _ => ?_⟩
        simp [okOf, r2, r3]
      | true =>
        rw [hL] at r3
        refine ⟨_, _, sil_of (l' := [.test (E2 old.val) true, .test (E3 old.val) true]) (by have := nw_01 b cs wt svb aw it old.val J; rw [or1 hw, add8 (m := { old with L := true }) hw, hS] at this; simpa using this) fun w _ => ?_⟩
        simp [okOf, r2, r3]
    | true =>
      rw [hS] at r2 r3
      refine ⟨_, _, sil_of (l' := [.test (E2 old.val) false, .test (E3 old.val) true]) (by have := nw_1 b cs wt svb aw it old.val J; rw [add8 hw, hS] at this; simpa using this) fun w _ => ?_⟩
      simp [okOf, r2, r3]
  have hw1 : (if old.L || old.S then old.W + 1 else old.W) ≤ 17 := by split <;> omega
  have a2 : ∀ J', ∃ j K, Sil Tryz.prog false (Live x) j (mkN1 Tryz.prog b cs wt svb aw it old.val (MW.val ⟨if old.L || old.S then old.W + 1 else old.W, old.S, old.K, old.L || !old.S⟩) J')
      (mkN2 Tryz.prog b cs wt svb aw it old.val (MW.val ⟨if old.L || old.S then old.W + 1 else old.W, old.S || (svb && old.L), old.K, old.L || !old.S⟩) K) := by
    intro J'
    have r4 := e4 hw
    generalize (if old.L || old.S then old.W + 1 else old.W) = W1 at hw1
    cases svb with
    | false =>
      refine ⟨_, _, sil_of (by have := n1_f b cs wt aw it old.val (MW.val ⟨W1, old.S, old.K, old.L || !old.S⟩) J'; simpa using this) fun w _ => ?_⟩
      simp [okOf]
    | true =>
      cases hL : old.L with
      | false =>
        rw [hL] at r4
        refine ⟨_, _, sil_of (by have := n1_t0 b cs wt aw it old.val (MW.val ⟨W1, old.S, old.K, false || !old.S⟩) J'; simpa using this) fun w _ => ?_⟩
        simp [okOf, r4]
      | true =>
        rw [hL] at r4
        refine ⟨_, _, sil_of (by have := n1_t1 b cs wt aw it old.val (MW.val ⟨W1, old.S, old.K, true || !old.S⟩) J'; rw [or4 (m := ⟨W1, old.S, old.K, true || !old.S⟩) hw1] at this; simpa using this) fun w _ => ?_⟩
        simp [okOf, r4]
  have a3 : ∀ J', ∃ j K, Sil Tryz.prog false (Live x) j (mkN2 Tryz.prog b cs wt svb aw it old.val (MW.val ⟨if old.L || old.S then old.W + 1 else old.W, old.S || (svb && old.L), old.K, old.L || !old.S⟩) J')
      (mkC2 Tryz.prog b cs wt svb aw it old.val (nwOf old aw svb).val K) := by
    intro J'
    unfold nwOf
    generalize (if old.L || old.S then old.W + 1 else old.W) = W1 at hw1
    cases aw with
    | false =>
      refine ⟨_, _, sil_of (by have := n2_f b cs wt svb it old.val (MW.val ⟨W1, old.S || (svb && old.L), old.K, old.L || !old.S⟩) J'; simpa using this) fun w _ => ?_⟩
      simp [okOf]
    | true =>
      have hK := (hsn rfl).1
      refine ⟨_, _, sil_of (l' := [.test true true, .test (E5 (MW.val ⟨W1, old.S || (svb && old.L), old.K, old.L || !old.S⟩)) false]) (by have := n2_t b cs wt svb it old.val (MW.val ⟨W1, old.S || (svb && old.L), old.K, old.L || !old.S⟩) J'; rw [andn2 (m := ⟨W1, old.S || (svb && old.L), old.K, old.L || !old.S⟩) hw1] at this; simpa using this) fun w _ => ?_⟩
      have := e5 (m := ⟨W1, old.S || (svb && old.L), old.K, old.L || !old.S⟩) hw1
      refine And.intro rfl (And.intro ?_ trivial)
      rw [this]
      simp [hK]
  obtain ⟨j1, K1, h1⟩ := a1
  obtain ⟨j2, K2, h2⟩ := a2 K1
  obtain ⟨j3, K3, h3⟩ := a3 K2
  exact ⟨_, _, sil_trans (sil_trans h1 h2) h3⟩
/-- Behind the loop head. -/
theorem hd_sil {J : Nat → Value} {K : Nat → Value} {wt : Int} {ph : Ph} {item : Nat} {old : MW} {aw svb : Bool} {it : Nat} {rest : List Nat} (h16 : old.W ≤ 16) (hit : it ≤ 4) (hsv : svb = true → aw = true)
    (hsn : aw = true → old.K = true ∧ old.S = false) :
    ∃ j h, Sil Tryz.prog false (Live x) j (mkHd Tryz.prog x.On (cs84 Tryz.prog x J item) wt svb aw it old.val K) h ∧ AtW x n u k (hd ⟨ph, item, old, aw, svb, it, rest⟩) h := by
  have hw : old.W ≤ 17 := by omega
  have r1 := e1 hw
  rcases hd_cases ⟨ph, item, old, aw, svb, it, rest⟩ with ⟨e, hL, hS, _⟩ | ⟨e, hno⟩
  · rw [e]
    simp only at hL hS
    refine ⟨_, _, sil_of (hd_sp x.On (cs84 Tryz.prog x J item) wt svb aw it old.val K) fun w _ => ?_, J, _, wt, rfl⟩
    simp [okOf, r1, hL, hS]
  · rw [e]
    simp only at hno
    by_cases hLS : old.L = true ∧ old.S = false
    · have h4 : it = 4 := by have := hno hLS.1 hLS.2; omega
      subst h4
      rw [hLS.1, hLS.2] at r1
      have s1 := sil_of (x := x) (hd_sp x.On (cs84 Tryz.prog x J item) wt svb aw ((4 : Nat) : Int) old.val K) fun w _ => by simp [okOf, r1]
      have s2 := sil_of (x := x) (sp_4 x.On (cs84 Tryz.prog x J item) wt svb aw old.val (junk (qt Tryz.prog false 6 (mkHd Tryz.prog x.On (cs84 Tryz.prog x J item) wt svb aw ((4 : Nat) : Int) old.val K) [.bool true]))) fun w _ => by simp [okOf, r1]
      have s3 := sil_of (x := x) (sd_no x.On (cs84 Tryz.prog x J item) wt svb aw ((4 : Nat) : Int) old.val (junk (qt Tryz.prog false 1 (mkSp Tryz.prog x.On (cs84 Tryz.prog x J item) wt svb aw 4 old.val (junk (qt Tryz.prog false 6 (mkHd Tryz.prog x.On (cs84 Tryz.prog x J item) wt svb aw ((4 : Nat) : Int) old.val K) [.bool true]))) [.bool true]))) fun w _ => by simp [okOf, r1]
      obtain ⟨j4, K4, s4⟩ := nw_sil (x := x) (b := x.On) (cs := cs84 Tryz.prog x J item) (wt := wt) (svb := svb) (aw := aw) (it := ((4 : Nat) : Int)) (old := old) (J := junk (qt Tryz.prog false 5 (mkSd Tryz.prog x.On (cs84 Tryz.prog x J item) wt svb aw ((4 : Nat) : Int) old.val false (junk (qt Tryz.prog false 1 (mkSp Tryz.prog x.On (cs84 Tryz.prog x J item) wt svb aw 4 old.val (junk (qt Tryz.prog false 6 (mkHd Tryz.prog x.On (cs84 Tryz.prog x J item) wt svb aw ((4 : Nat) : Int) old.val K) [.bool true]))) [.bool true]))) [.bool true, .bool false])) h16 hsv hsn
      exact ⟨_, _, sil_trans (sil_trans (sil_trans s1 s2) s3) s4, J, K4, wt, rfl⟩
    · have rF : E1 old.val = false := by
        rw [r1]
        cases hl : old.L <;> cases hs : old.S <;> simp_all
      have s1 := sil_of (x := x) (hd_no x.On (cs84 Tryz.prog x J item) wt svb aw it old.val K) fun w _ => by simp [okOf, rF]
      obtain ⟨j4, K4, s4⟩ := nw_sil (x := x) (b := x.On) (cs := cs84 Tryz.prog x J item) (wt := wt) (svb := svb) (aw := aw) (it := (it : Int)) (old := old) (J := junk (qt Tryz.prog false 12 (mkHd Tryz.prog x.On (cs84 Tryz.prog x J item) wt svb aw it old.val K) [.bool false, .bool false, .bool false, .bool false])) h16 hsv hsn
      exact ⟨_, _, sil_trans s1 s4, J, K4, wt, rfl⟩
theorem hd_sil' {J : Nat → Value} {K : Nat → Value} {wt : Int} {T : TD} (h16 : T.old.W ≤ 16) (hit : T.it ≤ 4) (hsv : T.sv = true → T.aw = true) (hsn : T.aw = true → T.old.K = true ∧ T.old.S = false) :
    ∃ j h, Sil Tryz.prog false (Live x) j (mkHd Tryz.prog x.On (cs84 Tryz.prog x J T.item) wt T.sv T.aw T.it T.old.val K) h ∧ AtW x n u k (hd T) h := hd_sil h16 hit hsv hsn
end
end Go.Proofs.YthjofgmiabcifabGreatDoor.Mc
