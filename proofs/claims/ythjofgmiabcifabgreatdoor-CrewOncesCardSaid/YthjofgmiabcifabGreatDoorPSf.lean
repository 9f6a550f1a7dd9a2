/-
  The types of parts and what they tell.
  Conditions: as each theorem says.
-/
import Derived.Test.YthjofgmiabcifabGreatDoorPEv
import Derived.Test.YthjofgmiabcifabGreatDoorPSe
import Derived.KernelRfl
import Derived.Stop.Asserts
import Derived.TacticsIn
import Derived.Deep.MidRow
set_option linter.unusedVariables false
set_option linter.unusedSimpArgs false
namespace Go.Proofs.YthjofgmiabcifabGreatDoor.Sq
open Go Go.RowKit Go.Proofs.YthjofgmiabcifabGreatDoor.Ev
/-- The type of a wrapper about a part, by what it can. -/
def tyWl : List Nat := [218, 221, 226, 230, 233, 237, 240, 243, 246, 250, 253, 256, 259, 262, 265, 268, 271, 275, 278, 281, 284, 287, 290, 293, 296, 299, 302, 305, 308, 311, 314, 317, 320, 324, 327, 330, 333, 336, 339, 342, 345, 348, 351, 354, 357, 360, 363, 366, 369, 372, 375, 378, 381, 384, 387, 390, 393, 396, 399, 402, 405, 408, 411, 414]
def tyW (c : Nat) : TypeId := tyWl.getD c 0
/-- The type of a node's part, by its kind. -/
def tyKl : List Nat := [0, 181, 184, 186, 188, 190, 192, 194, 196, 198, 200]
def tyK (k : Nat) : TypeId := tyKl.getD k 0
def TyCan (t : TypeId) (c : Int) : Prop := ∀ v, ∃ b1 b2 b3 b4 b5 b6, canB b1 b2 b3 b4 b5 b6 = c ∧ Asserts t v 129 b1 ∧ Asserts t v 132 b2 ∧ Asserts t v 135 b3 ∧ Asserts t v 138 b4 ∧ Asserts t v 141 b5 ∧ Asserts t v 143 b6
theorem TyCan.can {t : TypeId} {c : Int} (h : TyCan t c) (v : Value) (w : World) : GivesS 14 #[.iface t v] w (.int .u16 c) := by
  obtain ⟨b1, b2, b3, b4, b5, b6, rfl, h1, h2, h3, h4, h5, h6⟩ := h v
  exact Can_gen t v _ w fun w => can_gen t v w b1 b2 b3 b4 b5 b6 h1 h2 h3 h4 h5 h6
/-- Asked whether it is a wrapper. -/
def Un (t : TypeId) : Prop := ∀ v w, Sem.run Tryz.prog (Instr.typeAssert (.iface t v) 56 215 true) w = .ok (.tuple #[.iface t v, .bool true]) w
def NotUn (t : TypeId) : Prop := ∀ v w, Sem.run Tryz.prog (Instr.typeAssert (.iface t v) 56 215 true) w = .ok (.tuple #[.nilIface, .bool false]) w
/-- Where its 'Unwrap' leads. -/
def Meth (t : TypeId) : Prop := ∀ (M : Nat) (a : Addr) (w : World), w.cell? ⟨M, 0, none⟩ = some (.pointer (some a)) → Sem.run Tryz.prog (method 548 t (.pointer (some ⟨M, 0, none⟩)) "Unwrap") w = .ok (191, .pointer (some a)) w
theorem ev_run {α : Type} {s : Sem α} {ans : List Ans} {x : α} {l : List Fx} {r : List Ans} {w : World} (h : ev Tryz.prog s ans = some (x, l, r)) (hw : okOf l w) : s.run Tryz.prog w = .ok x (wOf l w) := by
  have := ev_sound (es := #[]) h hw
  rw [← Sem.runT_fst Tryz.prog s w #[], this]
theorem meth_of {t : TypeId} (h : ∀ (M : Nat) (a : Addr), ev Tryz.prog (method 548 t (.pointer (some ⟨M, 0, none⟩)) "Unwrap") [.val (.pointer (some a))] = some ((191, .pointer (some a)), [.load .plain ⟨M, 0, none⟩ (.pointer (some a))], [])) : Meth t :=
  fun M a w hc => ev_run (h M a) ⟨hc, trivial⟩
/-- The methods that an interface wants; whether a type has them. -/
noncomputable def want (i : TypeId) : Array (String × TypeId) := match Tryz.prog.underlying i with
  | some (.interface m) => m
  | _ => #[]
noncomputable def hs (t i : TypeId) : Option Bool := (Tryz.prog.info? t).map fun x => (lacking (want i) x.methods).isEmpty
theorem run_no {t i : TypeId} (hu : Tryz.prog.underlying i = some (.interface (want i))) (hz : (Tryz.prog.info? i).map (·.zero) = some (some .nilIface)) (h : hs t i = some false) (v : Value) (w : World) :
    (Instr.typeAssert (.iface t v) 56 i true).run Tryz.prog w = .ok (.tuple #[.nilIface, .bool false]) w := run_typeAssert_lacksB (z := .nilIface) hu h hz v 56 w
theorem run_yes {t i : TypeId} (hu : Tryz.prog.underlying i = some (.interface (want i))) (h : hs t i = some true) (v : Value) (w : World) :
    (Instr.typeAssert (.iface t v) 56 i true).run Tryz.prog w = .ok (.tuple #[.iface t v, .bool true]) w := run_typeAssert_hasB hu h v 56 w
theorem as_of {t i : TypeId} (hu : Tryz.prog.underlying i = some (.interface (want i))) (hz : (Tryz.prog.info? i).map (·.zero) = some (some .nilIface)) {b : Bool} (h : hs t i = some b) (v : Value) : Asserts t v i b := by
  cases b
  · exact ⟨_, run_no hu hz h v⟩
  · exact ⟨_, run_yes hu h v⟩
noncomputable def hb (t i : TypeId) : Bool := hs t i == some true
theorem hs_hb {t i : TypeId} (h : (Tryz.prog.info? t).isSome = true) : hs t i = some (hb t i) := by
  unfold hb hs
  obtain ⟨x, hx⟩ := Option.isSome_iff_exists.1 h
  rw [hx]
  simp only [Option.map_some]
  cases (lacking (want i) x.methods).isEmpty <;> rfl
noncomputable def okT (t : TypeId) (c : Int) : Bool := (Tryz.prog.info? t).isSome && decide (canB (hb t 129) (hb t 132) (hb t 135) (hb t 138) (hb t 141) (hb t 143) = c)
theorem tycan_of {t : TypeId} {c : Int} (h : okT t c = true) : TyCan t c := fun v => by
  unfold okT at h
  rw [Bool.and_eq_true] at h
  exact ⟨_, _, _, _, _, _, of_decide_eq_true h.2, as_of (by kernel_rfl) (by kernel_rfl) (hs_hb h.1) v, as_of (by kernel_rfl) (by kernel_rfl) (hs_hb h.1) v, as_of (by kernel_rfl) (by kernel_rfl) (hs_hb h.1) v, as_of (by kernel_rfl) (by kernel_rfl) (hs_hb h.1) v,
    as_of (by kernel_rfl) (by kernel_rfl) (hs_hb h.1) v, as_of (by kernel_rfl) (by kernel_rfl) (hs_hb h.1) v⟩
theorem okW : ((List.range 64).all fun c => okT (tyW c) (c : Nat)) = true := by kernel_rfl
theorem okK : ((List.range 11).all fun k => k == 0 || okT (tyK k) (canK (k : Nat))) = true := by kernel_rfl
theorem canW (c : Nat) (h : c < 64) : TyCan (tyW c) (c : Nat) := tycan_of (List.all_eq_true.1 okW c (List.mem_range.2 h))
theorem canKt (k : Nat) (h : 1 ≤ k) (h2 : k ≤ 10) : TyCan (tyK k) (canK (k : Nat)) := by
  have := List.all_eq_true.1 okK k (List.mem_range.2 (by omega))
  rw [Bool.or_eq_true, beq_iff_eq] at this
  exact tycan_of (this.resolve_left (by omega))
theorem can_202 : TyCan 202 0 := tycan_of (by kernel_rfl)
theorem hs215 : ((List.range 64).all fun c => hs (tyW c) 215 == some true) = true := by kernel_rfl
theorem hs215k : ((List.range 11).all fun k => k == 0 || hs (tyK k) 215 == some false) = true := by kernel_rfl
theorem un_of {t : TypeId} (h : hs t 215 = some true) : Un t := fun v w => run_yes (by kernel_rfl) h v w
theorem un_202 : Un 202 := un_of (by kernel_rfl)
theorem unW (c : Nat) (h : c < 64) : Un (tyW c) := un_of (eq_of_beq (List.all_eq_true.1 hs215 c (List.mem_range.2 h)))
theorem unKt (k : Nat) (h : 1 ≤ k) (h2 : k ≤ 10) : NotUn (tyK k) := fun v w => by
  have := List.all_eq_true.1 hs215k k (List.mem_range.2 (by omega))
  rw [Bool.or_eq_true, beq_iff_eq, beq_iff_eq] at this
  exact run_no (by kernel_rfl) (by kernel_rfl) (this.resolve_left (by omega)) v w
theorem meth_all (M : Nat) (a : Addr) : ((List.range 64).map fun c => ev Tryz.prog (method 548 (tyW c) (.pointer (some ⟨M, 0, none⟩)) "Unwrap") [.val (.pointer (some a))]) = List.replicate 64 (some ((191, .pointer (some a)), [.load .plain ⟨M, 0, none⟩ (.pointer (some a))], [])) := by kernel_rfl
theorem methW (c : Nat) (h : c < 64) : Meth (tyW c) := meth_of fun M a => by
  have hm := List.mem_map_of_mem (f := fun c => ev Tryz.prog (method 548 (tyW c) (.pointer (some ⟨M, 0, none⟩)) "Unwrap") [.val (.pointer (some a))]) (List.mem_range.2 h)
  rw [meth_all] at hm
  exact List.eq_of_mem_replicate hm
theorem meth_half (w : World) : Sem.run Tryz.prog (method 548 202 (.pointer none) "Unwrap") w = .ok (188, .pointer none) w := by kernel_rfl
/-- Asked whether it holds others. -/
def Hold (t : TypeId) (b : Bool) : Prop := ∀ v, Asserts t v 167 b
theorem hold_of {t : TypeId} {b : Bool} (h : hs t 167 = some b) : Hold t b := as_of (by kernel_rfl) (by kernel_rfl) h
end Go.Proofs.YthjofgmiabcifabGreatDoor.Sq
namespace Go.Proofs.YthjofgmiabcifabGreatDoor.Sq
open Go Go.RowKit
/-- A part of such a type, that holds so many wrappers. -/
inductive Ch (w : World) : Nat → TypeId → Value → Prop
  | base {t : TypeId} {v : Value} : NotUn t → Ch w 0 t v
  | half : Ch w 0 202 (.pointer none)
  | wrap {k c : Nat} {N M : Nat} {t : TypeId} {v : Value} : c < 64 → w.cell? ⟨M, 0, none⟩ = some (.pointer (some ⟨N, 0, none⟩)) → w.cell? ⟨N, 0, none⟩ = some (.iface t v) → Ch w k t v → Ch w (k + 1) (tyW c) (.pointer (some ⟨M, 0, none⟩))
theorem Ch.stay {w w' : World} {k : Nat} {t : TypeId} {v : Value} (h : Ch w k t v) (hb : Below w.heap.size w w') : Ch w' k t v := by
  induction h with
  | base h => exact .base h
  | half => exact .half
  | wrap hc h1 h2 _ ih => exact .wrap hc ((hb.cell (cell_lt h1)).trans h1) ((hb.cell (cell_lt h2)).trans h2) ih
theorem unwrap_in (N : Nat) (x : Value) (w : World) (h : w.cell? ⟨N, 0, none⟩ = some x) : GivesS 191 #[.pointer (some ⟨N, 0, none⟩)] w x := by
  gi_enter Tryz.func191, Tryz.ntmps191
  gi_wp2
  go_ret
  exact ⟨rfl, rfl⟩
theorem unhalf_in (w : World) : GivesS 188 #[.pointer none] w .nilIface := by
  gi_enter Tryz.func188, Tryz.ntmps188
  gi_wp2
  go_ret
  exact ⟨rfl, rfl⟩
/-- What 'Inner' tells. -/
def InnerPost (K : Nat) (w : World) (e : Ending) (w' : World) : Prop := ∃ x, e = .returned (.tuple #[x, .int .i64 K]) ∧ w = w'
set_option maxHeartbeats 2000000 in
set_option maxRecDepth 100000 in
theorem inner_in (K : Nat) (t : TypeId) (v : Value) (w : World) (hK : K ≤ 1000) (h : Ch w K t v) : CallsIn FF 0 Tryz.prog 108 #[.iface t v] w (InnerPost K w) := by
  gi_enter Tryz.func108, Tryz.ntmps108
  gi_wp2
  gi_loopg [0, 4] (K + 1) (fun gk p i wx => w = wx ∧ ∃ k t v, p = .iface t v ∧ i = .int .i64 (K - k : Nat) ∧ k < gk ∧ k ≤ K ∧ Ch w k t v)
  case atStart => exact ⟨rfl, K, t, v, rfl, by simp, by omega, Nat.le_refl _, h⟩
  case round =>
    obtain ⟨rfl, k, t, v, rfl, rfl, hg, hk, hch⟩ := hrel
    clear h
    cases hch with
    | base hn =>
      have hn' := hn v
      gi_wp2
      go_ret2
      exact ⟨_, rfl, rfl⟩
    | half =>
      have hn' := un_202 (.pointer none)
      have hm := meth_half
      have c := unhalf_in w
      gi_wp2_with (gi_at_call 188; with_reducible refine CallsIn.mono c ?_; rintro e w' ⟨rfl, rfl⟩)
      go_ret2
      exact ⟨_, rfl, rfl⟩
    | @wrap k c N M t v hc h1 h2 hin =>
      obtain ⟨g', rfl⟩ : ∃ g', gk = g' + 1 := ⟨gk - 1, by omega⟩
      have hn' := unW c hc (.pointer (some ⟨M, 0, none⟩))
      have hm := methW c hc M ⟨N, 0, none⟩ w h1
      have cc := unwrap_in N _ w h2
      have hnil : ∀ w : World, Sem.run Tryz.prog (binOp BinOp.eql 56 (Value.iface t v) Value.nilIface) w = .ok (.bool false) w := fun w => by
        simp [go_sem]
      gi_wp2_with (gi_at_call 191; with_reducible refine CallsIn.mono cc ?_; rintro e w' ⟨rfl, rfl⟩)
      gi_roundg g'
      case measure => omega
      case rel => exact ⟨rfl, k, t, v, rfl, by go_num, by omega, by omega, hin⟩
end Go.Proofs.YthjofgmiabcifabGreatDoor.Sq
namespace Go.Proofs.YthjofgmiabcifabGreatDoor.Sq
open Go
section
variable {F : Fence} {n : Nat} {P : Program} {ops : Array Oper} {Q : Exit → Act → World → Prop} {a : Act} {w : World} {rest : List Oper} {op : Oper}
/-- A LOAD of a whole row. -/
theorem wpListIn_load_row (hgd : Region.wanted op (yielded ops a.tmps) = true) (ty : TypeId) (x : Operand) (ho : op.op = .load ty x)
    (b o : Nat) (hx : a.eval x = .pointer (some ⟨b, o, none⟩)) (cs : List Value) (hc : w.rangeAt b o cs) (d : TypeDesc)
    (hu : P.underlying ty = some d) (hd : d.isRow = true) (hi : (P.info? ty).map (·.size) = some cs.length) (v : Value) (hv : v = .agg cs.toArray)
    (h : wpListIn F n P ops Q rest (a.put op.dst v) w) : wpListIn F n P ops Q (op :: rest) a w := by
  subst hv
  unfold wpListIn
  rw [if_pos hgd]
  unfold Oper.wpIn
  refine ⟨fun f hf => ?_, ?_⟩
  · unfold Oper.about at hf
    rw [ho] at hf
    cases hf
  · rw [Oper.semAt_eq _ _ _ (fun c => by rw [ho]; intro e; cases e)]
    unfold execOp
    simp only [ho, hx, Instr.loadAt, Instr.sureAddr, Sem.run_bind, Sem.run_pure, Result.andThen_ok, run_loadVar_mid w b o ty cs d hc hu hd hi]
    exact h
/-- The cells of a new block, one after the other turned. -/
def setAll (c : Array Value) : Nat → List Value → Array Value
  | _, [] => c
  | o, v :: r => setAll (c.setIfInBounds o v) (o + 1) r
theorem setCells_new (w : World) (t : TypeId) : ∀ (vs : List Value) (o : Nat) (c : Array Value), (w.alloc (.cells c t)).setCells w.heap.size o vs = w.alloc (.cells (setAll c o vs) t)
  | [], _, _ => rfl
  | v :: r, o, c => by
    unfold World.setCells
    rw [World.setCell_alloc_new, setCells_new w t r (o + 1)]
    rfl
theorem setAll_size : ∀ (vs : List Value) (o : Nat) (c : Array Value), (setAll c o vs).size = c.size
  | [], _, _ => rfl
  | v :: r, o, c => by unfold setAll; rw [setAll_size r]; simp
theorem setAll_get : ∀ (vs : List Value) (o : Nat) (c : Array Value) (j : Nat), j < c.size → (setAll c o vs)[j]? = if o ≤ j ∧ j < o + vs.length then vs[j - o]? else c[j]?
  | [], o, c, j, hj => by rw [if_neg (by simp)]; rfl
  | v :: r, o, c, j, hj => by
    unfold setAll
    rw [setAll_get r (o + 1) _ j (by simpa using hj)]
    by_cases h1 : o = j
    · subst h1
      rw [if_neg (by omega), if_pos (by simp), Nat.sub_self]
      simp [hj]
    · by_cases h2 : o + 1 ≤ j ∧ j < o + 1 + r.length
      · rw [if_pos h2, if_pos (by simp; omega)]
        have : j - o = (j - (o + 1)) + 1 := by omega
        rw [this, List.getElem?_cons_succ]
      · rw [if_neg h2, if_neg (by simp; omega), Array.getElem?_setIfInBounds_ne h1]
theorem setAll_whole {c : Array Value} {vs : List Value} (h : c.size = vs.length) : setAll c 0 vs = vs.toArray := by
  apply Array.ext_getElem?
  intro j
  by_cases hj : j < c.size
  · rw [setAll_get _ _ _ _ hj, if_pos (by omega)]
    simp
  · rw [Array.getElem?_eq_none (by rw [setAll_size]; omega), Array.getElem?_eq_none (by simp; omega)]
theorem there_new (w : World) (c : Array Value) (t : TypeId) (n : Nat) (h : n ≤ c.size) : (w.alloc (.cells c t)).there w.heap.size 0 n := fun j hj =>
  ⟨by rw [World.cell?_alloc_new]; simp; omega, World.frozen?_alloc_new w c t _⟩
/-- A STORE of a whole row into the block that has just been made. -/
theorem wpListIn_store_new {w0 : World} {c : Array Value} {t : TypeId} (hw : w = w0.alloc (.cells c t)) (hgd : Region.wanted op (yielded ops a.tmps) = true) (ty : TypeId) (x y : Operand) (ho : op.op = .store ty x y)
    (hx : a.eval x = .pointer (some ⟨w0.heap.size, 0, none⟩)) (cs : List Value) (v : Value) (hv : v = .agg cs.toArray) (hy : a.eval y = v) (hs : c.size = cs.length)
    (hi : (P.info? ty).map (·.size) = some cs.length) (h1 : cs.all (·.oneCell') = true)
    (h : wpListIn F n P ops Q rest (a.put op.dst undef) (w0.alloc (.cells cs.toArray t))) : wpListIn F n P ops Q (op :: rest) a w := by
  subst hv
  subst hw
  unfold wpListIn
  rw [if_pos hgd]
  unfold Oper.wpIn
  refine ⟨fun f hf => ?_, ?_⟩
  · unfold Oper.about at hf
    rw [ho] at hf
    cases hf
  · rw [Oper.semAt_eq _ _ _ (fun c => by rw [ho]; intro e; cases e)]
    unfold execOp
    have hst := run_storeVar_mid (P := P) (w0.alloc (.cells c t)) w0.heap.size 0 ty cs.toArray (there_new _ _ _ _ (by simp; omega)) (by simpa using hi) (by simpa using h1)
    rw [show cs.toArray.toList = cs from rfl, setCells_new, setAll_whole hs] at hst
    simp only [ho, hx, hy, Instr.storeAt, Instr.sureAddr, Sem.run_bind, Sem.run_pure, Result.andThen_ok, hst]
    exact h
end
end Go.Proofs.YthjofgmiabcifabGreatDoor.Sq
namespace Go.Proofs.YthjofgmiabcifabGreatDoor.Sq
/-- A function turned at one place. -/
def put {α : Type} (f : Nat → α) (k : Nat) (v : α) : Nat → α := fun j => if j = k then v else f j
theorem put_same {α : Type} (f : Nat → α) (k : Nat) (v : α) : put f k v k = v := if_pos rfl
theorem put_ne {α : Type} (f : Nat → α) {k j : Nat} (v : α) (h : j ≠ k) : put f k v j = f j := if_neg h
/-- A node's kids, in the program's way. -/
def stepKids (n i d : Nat) : List Int → (Nat → Nat) → Option (Nat → Nat)
  | [], D => some D
  | k :: ks, D => if k ≤ (i : Int) ∨ (n : Int) ≤ k ∨ D k.toNat ≠ 0 then none else stepKids n i d ks (put D k.toNat (d + 1))
/-- All nodes, in the program's way. -/
def goT (n : Nat) : List (Bool × List Int) → Nat → (Nat → Nat) → Bool
  | [], _, _ => true
  | (m, ks) :: rest, i, D => if D i = 0 ∨ 64 < D i ∨ m = false then false else
    match stepKids n i (D i) ks D with
    | none => false
    | some D' => goT n rest (i + 1) D'
def D0 : Nat → Nat := fun k => if k = 0 then 1 else 0
/-- A tree may be. -/
def treeB (xs : List (Bool × List Int)) : Bool := decide (1 ≤ xs.length) && (decide (xs.length ≤ 1024) && goT xs.length xs 0 D0)
/-- A node's kids, in the document's way. -/
def refKids (n i : Nat) : List Int → (Nat → Int) → Option (Nat → Int)
  | [], P => some P
  | k :: ks, P => if k ≤ (i : Int) ∨ (n : Int) ≤ k ∨ 0 ≤ P k.toNat then none else refKids n i ks (put P k.toNat (i : Int))
def refAll (n : Nat) : List (List Int) → Nat → (Nat → Int) → Option (Nat → Int)
  | [], _, P => some P
  | ks :: rest, i, P =>
    match refKids n i ks P with
    | none => none
    | some P' => refAll n rest (i + 1) P'
def P0 : Nat → Int := fun _ => -1
/-- The depths by a row of parents. -/
def IsDep (n : Nat) (P : Nat → Int) (d : Nat → Nat) : Prop := ∀ i, i < n → d i = if 0 ≤ P i then d (P i).toNat + 1 else 1
/-- How the two ways' rows stand to each other ahead of node i. -/
structure R (i : Nat) (D : Nat → Nat) (P : Nat → Int) : Prop where
  d0 : D 0 = 1
  p0 : P 0 < 0
  rest : ∀ k, 1 ≤ k → (P k < 0 ∧ D k = 0) ∨ (0 ≤ P k ∧ (P k).toNat < k ∧ (P k).toNat < i ∧ D (P k).toNat ≠ 0 ∧ D k = D (P k).toNat + 1)
theorem R.start : R 0 D0 P0 := ⟨rfl, by decide, fun k hk => .inl ⟨by unfold P0; decide, if_neg (by omega)⟩⟩
theorem R.next {i : Nat} {D : Nat → Nat} {P : Nat → Int} (h : R i D P) : R (i + 1) D P :=
  ⟨h.d0, h.p0, fun k hk => (h.rest k hk).imp id fun ⟨a, b, c, e⟩ => ⟨a, b, by omega, e⟩⟩
theorem R.free {i : Nat} {D : Nat → Nat} {P : Nat → Int} (h : R i D P) {k : Nat} (hk : 1 ≤ k) : D k = 0 ↔ P k < 0 := by
  rcases h.rest k hk with ⟨a, b⟩ | ⟨a, _, _, _, b⟩
  · exact ⟨fun _ => a, fun _ => b⟩
  · exact ⟨fun h => by omega, fun h => by omega⟩
theorem R.put {i k : Nat} {D : Nat → Nat} {P : Nat → Int} (h : R (i + 1) D P) (hi : D i ≠ 0) (hik : i < k) (hk : D k = 0) : R (i + 1) (put D k (D i + 1)) (put P k (i : Int)) := by
  refine ⟨by rw [put_ne _ _ (by omega)]; exact h.d0, by rw [put_ne _ _ (by omega)]; exact h.p0, fun j hj => ?_⟩
  by_cases e : j = k
  · subst e
    right
    rw [put_same, put_same]
    have : ((i : Int)).toNat = i := by omega
    rw [this, put_ne _ _ (by omega)]
    exact ⟨by omega, by omega, by omega, hi, rfl⟩
  · rw [put_ne _ _ e, put_ne _ _ e]
    rcases h.rest j hj with h1 | ⟨h1, h2, h3, h4, h5⟩
    · exact .inl h1
    · right
      have : (P j).toNat ≠ k := fun e2 => by rw [e2] at h4; exact h4 hk
      rw [put_ne _ _ this]
      exact ⟨h1, h2, h3, h4, h5⟩
theorem kids_both {n i : Nat} : ∀ (ks : List Int) {D : Nat → Nat} {P : Nat → Int}, R (i + 1) D P → D i ≠ 0 →
    (stepKids n i (D i) ks D = none ∧ refKids n i ks P = none) ∨ ∃ D' P', stepKids n i (D i) ks D = some D' ∧ refKids n i ks P = some P' ∧ R (i + 1) D' P' ∧ (∀ k, D k ≠ 0 → D' k = D k) ∧ (∀ k, 0 ≤ P k → P' k = P k) ∧ ∀ k, k ≤ i → P' k = P k := by
  intro ks
  induction ks with
  | nil => intro D P h hi; exact .inr ⟨D, P, rfl, rfl, h, fun _ _ => rfl, fun _ _ => rfl, fun _ _ => rfl⟩
  | cons k ks ih =>
    intro D P h hi
    unfold stepKids refKids
    by_cases h1 : k ≤ (i : Int)
    · rw [if_pos (.inl h1), if_pos (.inl h1)]; exact .inl ⟨rfl, rfl⟩
    · by_cases h2 : (n : Int) ≤ k
      · rw [if_pos (.inr (.inl h2)), if_pos (.inr (.inl h2))]; exact .inl ⟨rfl, rfl⟩
      · have hf := h.free (k := k.toNat) (by omega)
        by_cases h3 : D k.toNat = 0
        · have h4 := hf.1 h3
          rw [if_neg (by omega), if_neg (by omega)]
          have key := ih (h.put hi (k := k.toNat) (by omega) h3) (by rw [put_ne _ _ (by omega)]; exact hi)
          rw [put_ne D (D i + 1) (show i ≠ k.toNat by omega)] at key
          rcases key with key | ⟨D', P', a, b, c, d, e, f⟩
          · exact .inl key
          · refine .inr ⟨D', P', a, b, c, fun j hj => ?_, fun j hj => ?_, fun j hj => ?_⟩
            · have hne : j ≠ k.toNat := fun e2 => hj (e2 ▸ h3)
              have := d j (by rw [put_ne _ _ hne]; exact hj)
              rw [this, put_ne _ _ hne]
            · have hne : j ≠ k.toNat := fun e2 => by rw [e2] at hj; omega
              have := e j (by rw [put_ne _ _ hne]; exact hj)
              rw [this, put_ne _ _ hne]
            · rw [f j hj, put_ne _ _ (by omega)]
        · have h4 : 0 ≤ P k.toNat := by
            rcases Int.lt_or_le (P k.toNat) 0 with h | h
            · exact absurd (hf.2 h) h3
            · exact h
          rw [if_pos (.inr (.inr h3)), if_pos (.inr (.inr h4))]; exact .inl ⟨rfl, rfl⟩
/-- Where the rows stand, the depths are those by the parents. -/
theorem dep_of {n i : Nat} {D : Nat → Nat} {P Pf : Nat → Int} {d : Nat → Nat} (h : R i D P) (hp : ∀ k, 0 ≤ P k → Pf k = P k) (h0 : Pf 0 < 0) (hd : IsDep n Pf d) : ∀ k, k < n → D k ≠ 0 → D k = d k := by
  intro k
  induction k using Nat.strongRecOn with
  | _ k ih =>
    intro hk hne
    rcases Nat.eq_zero_or_pos k with e | e
    · subst e
      rw [hd 0 hk, if_neg (by omega), h.d0]
    · rcases h.rest k e with ⟨_, b⟩ | ⟨a, b, _, c, f⟩
      · exact absurd b hne
      · rw [hd k hk, hp k a, if_pos a, f, ih _ b (by omega) c]
theorem ref_keep {n : Nat} : ∀ (l : List (Bool × List Int)) (i : Nat) {D : Nat → Nat} {P Pf : Nat → Int}, (∀ x ∈ l, x.1 = true) → refAll n (l.map (·.2)) i P = some Pf → (∀ k, 0 ≤ P k → Pf k = P k) ∧ ∀ k, k ≤ i → Pf k = P k := by
  have kk : ∀ (i : Nat) (ks : List Int) {P P' : Nat → Int}, refKids n i ks P = some P' → (∀ k, 0 ≤ P k → P' k = P k) ∧ ∀ k, k ≤ i → P' k = P k := by
    intro i ks
    induction ks with
    | nil => intro P P' h; cases h; exact ⟨fun _ _ => rfl, fun _ _ => rfl⟩
    | cons k ks ih =>
      intro P P' h
      unfold refKids at h
      split at h
      · cases h
      · rename_i hc
        obtain ⟨a, b⟩ := ih h
        refine ⟨fun j hj => ?_, fun j hj => ?_⟩
        · have hne : j ≠ k.toNat := fun e => by rw [e] at hj; omega
          rw [a j (by rw [put_ne _ _ hne]; exact hj), put_ne _ _ hne]
        · rw [b j hj, put_ne _ _ (by omega)]
  intro l
  induction l with
  | nil => intro i D P Pf _ h; cases h; exact ⟨fun _ _ => rfl, fun _ _ => rfl⟩
  | cons x l ih =>
    intro i D P Pf hx h
    simp only [List.map_cons, refAll] at h
    cases hk : refKids n i x.2 P with
    | none => rw [hk] at h; cases h
    | some P' =>
      rw [hk] at h
      obtain ⟨a, b⟩ := ih (i + 1) (D := D) (fun y hy => hx y (List.mem_cons_of_mem _ hy)) h
      obtain ⟨c, e⟩ := kk i x.2 hk
      exact ⟨fun k h0 => by rw [a k (by rw [c k h0]; exact h0), c k h0], fun k h0 => by rw [b k (by omega), e k h0]⟩
/-- The document's way to the program's. -/
theorem go_of_ref {n : Nat} {d : Nat → Nat} : ∀ (l : List (Bool × List Int)) (i : Nat) {D : Nat → Nat} {P Pf : Nat → Int}, i + l.length = n → R i D P → (∀ x ∈ l, x.1 = true) → refAll n (l.map (·.2)) i P = some Pf → Pf 0 < 0 →
    (∀ k, 1 ≤ k → k < n → 0 ≤ Pf k) → IsDep n Pf d → (∀ k, k < n → d k ≤ 64) → goT n l i D = true := by
  intro l
  induction l with
  | nil => intros; rfl
  | cons x l ih =>
    intro i D P Pf hn h hx hr h0 hp hd hle
    obtain ⟨m, ks⟩ := x
    have hm : m = true := hx (m, ks) (List.mem_cons_self ..)
    simp only [List.length_cons] at hn
    obtain ⟨k1, k2⟩ := ref_keep (D := D) ((m, ks) :: l) i hx hr
    have hDi : D i ≠ 0 := by
      rcases Nat.eq_zero_or_pos i with e | e
      · subst e; rw [h.d0]; decide
      · intro h1
        have h2 := (h.free e).1 h1
        have h3 := k2 i (Nat.le_refl _)
        have h4 := hp i e (by omega)
        omega
    have hdi := dep_of h k1 h0 hd i (by omega) hDi
    have hle' := hle i (by omega)
    unfold goT
    rw [if_neg (by rw [hm]; simp; omega)]
    simp only [List.map_cons, refAll] at hr
    rcases kids_both (n := n) ks h.next hDi with ⟨_, b⟩ | ⟨D', P', a, b, c, _, _, _⟩
    · rw [b] at hr; cases hr
    · rw [b] at hr
      rw [a]
      exact ih (i + 1) (by omega) c (fun y hy => hx y (List.mem_cons_of_mem _ hy)) hr h0 hp hd hle
/-- The program's way to the document's. -/
theorem ref_of_go {n : Nat} : ∀ (l : List (Bool × List Int)) (i : Nat) {D : Nat → Nat} {P : Nat → Int}, R i D P → goT n l i D = true →
    (∀ x ∈ l, x.1 = true) ∧ ∃ Pf Df j, refAll n (l.map (·.2)) i P = some Pf ∧ R j Df Pf ∧ (∀ k, D k ≠ 0 → Df k = D k) ∧ ∀ k, i ≤ k → k < i + l.length → Df k ≠ 0 ∧ Df k ≤ 64 := by
  intro l
  induction l with
  | nil => intro i D P h _; exact ⟨fun x hx => (by cases hx), P, D, i, rfl, h, fun _ _ => rfl, fun k h1 h2 => (by simp only [List.length_nil] at h2; omega)⟩
  | cons x l ih =>
    intro i D P h hg
    obtain ⟨m, ks⟩ := x
    unfold goT at hg
    split at hg
    · cases hg
    · rename_i hc
      have hDi : D i ≠ 0 := fun e => hc (.inl e)
      have h64 : D i ≤ 64 := by
        rcases Nat.lt_or_ge 64 (D i) with e | e
        · exact absurd (.inr (.inl e)) hc
        · exact e
      have hm : m = true := by
        cases m
        · exact absurd (.inr (.inr rfl)) hc
        · rfl
      rcases kids_both (n := n) ks h.next hDi with ⟨a, _⟩ | ⟨D', P', a, b, c, e, _, _⟩
      · rw [a] at hg; cases hg
      · rw [a] at hg
        obtain ⟨g1, Pf, Df, j, g2, g3, g4, g5⟩ := ih (i + 1) c hg
        refine ⟨fun y hy => ?_, Pf, Df, j, by simp only [List.map_cons, refAll, b]; exact g2, g3, fun k hk => by rw [g4 k (by rw [e k hk]; exact hk), e k hk], fun k h1 h2 => ?_⟩
        · rcases List.mem_cons.1 hy with rfl | hy
          · exact hm
          · exact g1 y hy
        · rcases Nat.lt_or_ge i k with e2 | e2
          · exact g5 k e2 (by simp only [List.length_cons] at h2; omega)
          · have : k = i := by omega
            subst this
            rw [g4 k (by rw [e k hDi]; exact hDi), e k hDi]
            exact ⟨hDi, h64⟩
/-- WHAT A TREE THAT MAY BE HAS IN THE DOCUMENT's WAY. -/
theorem tree_ref {xs : List (Bool × List Int)} (h : treeB xs = true) : 1 ≤ xs.length ∧ xs.length ≤ 1024 ∧ (∀ x ∈ xs, x.1 = true) ∧ ∃ Pf, refAll xs.length (xs.map (·.2)) 0 P0 = some Pf ∧ (∀ k, 1 ≤ k → k < xs.length → 0 ≤ Pf k) ∧ ∀ d, IsDep xs.length Pf d → ∀ k, k < xs.length → d k ≤ 64 := by
  unfold treeB at h
  simp only [Bool.and_eq_true, decide_eq_true_eq] at h
  obtain ⟨h1, h2, h3⟩ := h
  obtain ⟨g1, Pf, Df, j, g2, g3, g4, g5⟩ := ref_of_go xs 0 R.start h3
  refine ⟨h1, h2, g1, Pf, g2, fun k hk hk2 => ?_, fun d hd k hk => ?_⟩
  · have := (g5 k (Nat.zero_le _) (by omega)).1
    rcases Int.lt_or_le (Pf k) 0 with e | e
    · exact absurd ((g3.free hk).2 e) this
    · exact e
  · obtain ⟨a, b⟩ := g5 k (Nat.zero_le _) (by omega)
    rw [← dep_of g3 (fun _ _ => rfl) g3.p0 hd k hk a]
    exact b
/-- AND BACK. -/
theorem ref_tree {xs : List (Bool × List Int)} {Pf : Nat → Int} {d : Nat → Nat} (h1 : 1 ≤ xs.length) (h2 : xs.length ≤ 1024) (hx : ∀ x ∈ xs, x.1 = true) (hr : refAll xs.length (xs.map (·.2)) 0 P0 = some Pf) (hp : ∀ k, 1 ≤ k → k < xs.length → 0 ≤ Pf k)
    (hd : IsDep xs.length Pf d) (hle : ∀ k, k < xs.length → d k ≤ 64) : treeB xs = true := by
  unfold treeB
  simp only [Bool.and_eq_true, decide_eq_true_eq]
  refine ⟨h1, h2, go_of_ref xs 0 (by omega) R.start hx hr ?_ hp hd hle⟩
  rw [(ref_keep (D := D0) xs 0 hx hr).2 0 (Nat.le_refl _)]
  show (-1 : Int) < 0
  decide
/-- Each parent has a lesser number. -/
theorem ref_lt {n : Nat} : ∀ (l : List (List Int)) (i : Nat) {P Pf : Nat → Int}, (∀ k, 0 ≤ P k → (P k).toNat < k) → refAll n l i P = some Pf → ∀ k, 0 ≤ Pf k → (Pf k).toNat < k := by
  have kk : ∀ (i : Nat) (ks : List Int) {P P' : Nat → Int}, (∀ k, 0 ≤ P k → (P k).toNat < k) → refKids n i ks P = some P' → ∀ k, 0 ≤ P' k → (P' k).toNat < k := by
    intro i ks
    induction ks with
    | nil => intro P P' h e; cases e; exact h
    | cons k ks ih =>
      intro P P' h e
      unfold refKids at e
      split at e
      · cases e
      · rename_i hc
        refine ih (fun j hj => ?_) e
        by_cases ej : j = k.toNat
        · subst ej; rw [put_same]; omega
        · rw [put_ne _ _ ej] at hj ⊢; exact h j hj
  intro l
  induction l with
  | nil => intro i P Pf h e; cases e; exact h
  | cons x l ih =>
    intro i P Pf h e
    unfold refAll at e
    cases hk : refKids n i x P with
    | none => rw [hk] at e; cases e
    | some P' => rw [hk] at e; exact ih (i + 1) (kk i x h hk) e
end Go.Proofs.YthjofgmiabcifabGreatDoor.Sq
