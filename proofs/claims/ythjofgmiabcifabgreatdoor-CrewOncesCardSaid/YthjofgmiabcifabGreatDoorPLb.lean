/-
  The operations of a program are tame.
  Conditions: as each theorem says.
-/
import Derived.Test.YthjofgmiabcifabGreatDoorPLa
set_option linter.unusedVariables false
set_option linter.unusedSimpArgs false
namespace Go.Proofs.YthjofgmiabcifabGreatDoor.Lift
open Go
section
variable {C : Cls}
theorem tame_pureA {α : Type} {a : α} : Tame C Any (pure a : Sem α) := tame_pure trivial
theorem tame_mapA {α β : Type} {R : α → Prop} {s : Sem α} {f : α → β} (h : Tame C R s) : Tame C Any (f <$> s) := tame_map h fun _ _ => trivial
theorem tame_bindA {α β : Type} {s : Sem α} {k : α → Sem β} (h : Tame C Any s) (hk : ∀ a, Tame C Any (k a)) : Tame C Any (s >>= k) := tame_bind h fun a _ => hk a
theorem tame_list_forIn {α β : Type} {f : α → β → Sem (ForInStep β)} : ∀ {l : List α} {b : β}, (∀ a ∈ l, ∀ b, Tame C Any (f a b)) → Tame C Any (forIn l b f)
  | [], b, _ => by rw [List.forIn_nil]; exact tame_pure trivial
  | a :: l, b, h => by
    rw [List.forIn_cons]
    refine tame_bind (h a (by simp) b) fun r _ => ?_
    cases r with
    | done b => exact tame_pure trivial
    | yield b => exact tame_list_forIn fun x hx => h x (by simp [hx])
theorem tame_array_forIn {α β : Type} {f : α → β → Sem (ForInStep β)} {l : Array α} {b : β} (h : ∀ a ∈ l, ∀ b, Tame C Any (f a b)) : Tame C Any (forIn l b f) := by
  rw [← Array.forIn_toList]
  exact tame_list_forIn fun a ha => h a (by simpa using ha)
theorem tame_viewAt {r : Nat} : Tame C Any (viewAt r) := by
  refine .shape (fun e => .inr fun n => rfl) fun x => ?_
  cases x with
  | some x => exact tame_pure trivial
  | none =>
    refine .getAny (fun o _ _ => ?_) (fun es n => ?_) (fun o _ => ?_) (fun es n o ho => ?_)
    · cases o <;> exact tame_pure trivial
    · exact tame_pure trivial
    · cases o <;> exact tame_pure trivial
    · cases o <;> first | exact ho.elim | rfl
theorem tame_numberAt {r : Nat} : Tame C Any (numberAt r) := by
  refine .shape (fun e => .inr fun n => rfl) fun x => ?_
  cases x with
  | some x => exact tame_pure trivial
  | none =>
    refine .getAny (fun o _ _ => ?_) (fun es n => ?_) (fun o _ => ?_) (fun es n o ho => ?_)
    · cases o <;> exact tame_pure trivial
    · exact tame_pure trivial
    · cases o <;> exact tame_pure trivial
    · cases o <;> first | exact ho.elim | rfl
theorem tame_behindNumber {a : Addr} : Tame C Any (behindNumber a) := tame_bind tame_numberAt fun _ _ => tame_pure trivial
theorem tame_noView {a : Addr} : Tame C Any (noView a) := by
  refine tame_bind tame_viewAt fun x _ => ?_
  cases x
  · exact tame_pure trivial
  · exact tame_unsup
theorem tame_byteOf {a : Addr} : Tame C Any (byteOf a) := by
  unfold byteOf
  cases a.spot with
  | some s => exact tame_pure trivial
  | none =>
    refine tame_bind tame_program fun p hp => ?_
    refine tame_bind tame_noView fun _ _ => ?_
    refine .shape (fun e => .inr fun n => rfl) fun x => ?_
    cases x with
    | none => exact tame_stuck
    | some x =>
      dsimp only [Sem.bind]
      split
      · exact tame_pure trivial
      · split
        · exact tame_pure trivial
        · exact tame_stuck
theorem tame_twoPlaces {a b : Addr} : Tame C Any (Op.twoPlaces a b) := by
  unfold Op.twoPlaces
  repeat' (first
      | contradiction
      | with_reducible exact tame_byteOf
      | with_reducible refine tame_bind tame_byteOf fun _ _ => ?_
      | with_reducible exact tame_pureA
      | ((with_reducible refine tame_unsup ?_) <;> (intro g h; cases h))
      | with_reducible refine tame_bind tame_program fun _ _ => ?_
      | with_reducible refine tame_bindA ?_ fun _ => ?_
      | dsimp only
      | split)
theorem tame_addrSub {k : IntKind} {a b : Addr} : Tame C Any (Op.addrSub k a b) := by
  unfold Op.addrSub
  repeat' (first
      | contradiction
      | with_reducible refine tame_bind tame_twoPlaces fun _ _ => ?_
      | with_reducible exact tame_pureA
      | dsimp only
      | split)
theorem tame_addrCmp {op : BinOp} {a b : Addr} : Tame C Any (Op.addrCmp op a b) := by
  unfold Op.addrCmp
  repeat' (first
      | contradiction
      | with_reducible refine tame_bind tame_twoPlaces fun _ _ => ?_
      | with_reducible exact tame_pureA
      | ((with_reducible refine tame_unsup ?_) <;> (intro g h; cases h))
      | dsimp only
      | split)
theorem tame_addrMod {k : IntKind} {a : Addr} {n : Int} : Tame C Any (Op.addrMod k a n) := by
  refine .shape (fun e => .inr fun n => rfl) fun x => ?_
  cases x with
  | none => exact tame_unsup
  | some x =>
    show Tame C Any (typeInfo x.1 >>= _)
    repeat' (first
        | contradiction
        | with_reducible exact tame_byteOf
        | with_reducible refine tame_bind tame_byteOf fun _ _ => ?_
        | with_reducible exact tame_pureA
        | ((with_reducible refine tame_unsup ?_) <;> (intro g h; cases h))
        | with_reducible refine tame_bind tame_typeInfo fun _ _ => ?_
        | with_reducible refine tame_bindA ?_ fun _ => ?_
        | dsimp only
        | split)
theorem cellAtBytes_zero {p : Program} {d : Nat} {e : TypeId} {off : Nat} {n : Int} : cellAtBytes p d e 0 off n = none := by
  unfold cellAtBytes
  dsimp only
  split
  · rfl
  · cases byteOfCell p d e (off % p.cellsOf e) with
    | none => rfl
    | some h =>
      simp only [Option.bind_eq_bind, Option.bind_some]
      split
      · rfl
      · rename_i hx
        exfalso
        apply hx
        simp only [Nat.zero_mul, Bool.or_eq_true, decide_eq_true_eq, ge_iff_le]
        have : Int.ofNat 0 = 0 := rfl
        omega
theorem tame_unsafeAdd {ts : Array TypeId} {t : TypeId} {args : Array Value} : Tame C Any (Builtin.unsafeAdd_ ts t args) := by
  obtain ⟨l⟩ := args
  rcases l with _ | ⟨x, l⟩
  · exact tame_stuck
  rcases l with _ | ⟨y, l⟩
  · cases x <;> exact tame_stuck
  rcases l with _ | ⟨z, l⟩
  rotate_left
  · cases x <;> exact tame_stuck
  cases x with
  | pointer ptr =>
    unfold Builtin.unsafeAdd_
    refine tame_bind tame_asInt fun n _ => ?_
    dsimp only
    have rest : Tame C Any (match ptr with
      | some a => (do
        let __x ← shape a.block
        match __x with
          | some (e, cells) => do
            let p ← program
            match cellAtBytes p p.depth e (cells / p.cellsOf e) a.off n with
              | some off => pure (Value.pointer (some { block := a.block, off := off, spot := a.spot }))
              | none => unsupported (Unsupported.unsafePointer "Add")
          | x => unsupported (Unsupported.unsafePointer "Add") : Sem Value)
      | x => unsupported (Unsupported.unsafePointer "Add")) := by
      cases ptr with
      | none => exact tame_unsup
      | some a =>
        refine .shape (fun e => .inl ?_) fun x => ?_
        · show Dead (Sem.program _)
          refine .program fun p => ?_
          dsimp only [Sem.bind]
          rw [Nat.zero_div, cellAtBytes_zero]
          exact .unsup _
        · cases x with
          | none => exact tame_unsup
          | some x =>
            show Tame C Any (program >>= _)
            repeat' (first
                | contradiction
                | with_reducible refine tame_bind tame_viewAt fun _ _ => ?_
                | with_reducible exact tame_pureA
                | with_reducible exact tame_stuck
                | ((with_reducible refine tame_unsup ?_) <;> (intro g h; cases h))
                | with_reducible exact tame_asInt
                | with_reducible refine tame_bind tame_asInt fun _ _ => ?_
                | with_reducible refine tame_bind tame_program fun _ _ => ?_
                | dsimp only
                | split)
    split
    · cases ptr with
      | none => exact tame_bind (R := fun _ => False) tame_unsup fun _ h => h.elim
      | some a =>
        refine tame_bind tame_viewAt fun x _ => ?_
        split
        · exact tame_bind (R := fun _ => False) tame_unsup fun _ h => h.elim
        · exact tame_pure trivial
    · split
      · exact tame_bind (R := fun _ => False) tame_unsup fun _ h => h.elim
      · exact rest
  | _ => exact tame_stuck
theorem tame_asNumber {a : Addr} {l : Bool} : Tame C Any (asNumber a l) := .new trivial fun _ => .pure trivial
theorem tame_movedNumber {t : TypeId} {x y : Value} : Tame C Any (movedNumber t x y) := by
  unfold movedNumber
  repeat' (first
      | contradiction
      | with_reducible exact tame_asNumber
      | with_reducible exact tame_unsafeAdd
      | with_reducible refine tame_bind tame_behindNumber fun _ _ => ?_
      | with_reducible refine tame_bind tame_unsafeAdd fun _ _ => ?_
      | with_reducible exact tame_pureA
      | ((with_reducible refine tame_unsup ?_) <;> (intro g h; cases h))
      | with_reducible refine tame_bind tame_underlying fun _ _ => ?_
      | with_reducible refine tame_bindA ?_ fun _ => ?_
      | dsimp only
      | split)
theorem tame_movedPointer {t : TypeId} {x y : Value} : Tame C Any (movedPointer t x y) := by
  unfold movedPointer
  repeat' (first
      | contradiction
      | with_reducible exact tame_unsafeAdd
      | with_reducible refine tame_bind tame_numberAt fun _ _ => ?_
      | with_reducible refine tame_bind tame_unsafeAdd fun _ _ => ?_
      | ((with_reducible refine tame_unsup ?_) <;> (intro g h; cases h))
      | with_reducible refine tame_bindA ?_ fun _ => ?_
      | dsimp only
      | split)
theorem tame_equalIn : ∀ (k d : Nat) (t : TypeId) (x y : Value), eqOk C.P k t = true → Tame C Any (Op.equalIn d t x y)
  | 0, _, _, _, _, h => by cases h
  | k + 1, 0, _, _, _, _ => tame_unsup
  | k + 1, d + 1, t, x, y, h => by
    unfold Op.equalIn
    refine tame_bind tame_underlying fun u hu => ?_
    unfold eqOk at h
    rw [hu] at h
    cases u with
    | bool =>
      cases x with
      | bool a => cases y <;> first | exact tame_stuck | exact tame_pureA
      | _ => exact tame_stuck
    | string =>
      cases x with
      | string a => cases y <;> first | exact tame_stuck | exact tame_pureA
      | _ => exact tame_stuck
    | int k' =>
      cases x with
      | int a b =>
        cases y with
        | int c d =>
          dsimp only
          repeat' (first
              | contradiction
              | with_reducible exact tame_byteOf
              | with_reducible refine tame_bind tame_byteOf fun _ _ => ?_
              | with_reducible refine tame_bind tame_behindNumber fun _ _ => ?_
              | with_reducible exact tame_pureA
              | with_reducible exact tame_stuck
              | ((with_reducible refine tame_unsup ?_) <;> (intro g h; cases h))
              | with_reducible exact tame_part
              | with_reducible refine tame_bind tame_underlying fun _ _ => ?_
              | with_reducible refine tame_bind tame_typeInfo fun _ _ => ?_
              | with_reducible refine tame_bind tame_program fun _ _ => ?_
              | with_reducible refine tame_bindA ?_ fun _ => ?_
              | dsimp only
              | split)
        | pointer p =>
          cases p with
          | none => exact tame_unsup
          | some p =>
            dsimp only
            repeat' (first
                | contradiction
                | with_reducible exact tame_byteOf
                | with_reducible refine tame_bind tame_byteOf fun _ _ => ?_
                | with_reducible refine tame_bind tame_behindNumber fun _ _ => ?_
                | with_reducible exact tame_pureA
                | with_reducible exact tame_stuck
                | ((with_reducible refine tame_unsup ?_) <;> (intro g h; cases h))
                | with_reducible exact tame_part
                | with_reducible refine tame_bind tame_underlying fun _ _ => ?_
                | with_reducible refine tame_bind tame_typeInfo fun _ _ => ?_
                | with_reducible refine tame_bind tame_program fun _ _ => ?_
                | with_reducible refine tame_bindA ?_ fun _ => ?_
                | dsimp only
                | split)
        | _ => exact tame_stuck
      | pointer p =>
        cases p with
        | none => cases y <;> exact tame_unsup
        | some p =>
          cases y with
          | int c d =>
            dsimp only
            repeat' (first
                | contradiction
                | with_reducible exact tame_byteOf
                | with_reducible refine tame_bind tame_byteOf fun _ _ => ?_
                | with_reducible refine tame_bind tame_behindNumber fun _ _ => ?_
                | with_reducible exact tame_pureA
                | with_reducible exact tame_stuck
                | ((with_reducible refine tame_unsup ?_) <;> (intro g h; cases h))
                | with_reducible exact tame_part
                | with_reducible refine tame_bind tame_underlying fun _ _ => ?_
                | with_reducible refine tame_bind tame_typeInfo fun _ _ => ?_
                | with_reducible refine tame_bind tame_program fun _ _ => ?_
                | with_reducible refine tame_bindA ?_ fun _ => ?_
                | dsimp only
                | split)
          | pointer q =>
            cases q with
            | none => exact tame_unsup
            | some q =>
              dsimp only
              repeat' (first
                  | contradiction
                  | with_reducible exact tame_byteOf
                  | with_reducible refine tame_bind tame_byteOf fun _ _ => ?_
                  | with_reducible refine tame_bind tame_behindNumber fun _ _ => ?_
                  | with_reducible exact tame_pureA
                  | with_reducible exact tame_stuck
                  | ((with_reducible refine tame_unsup ?_) <;> (intro g h; cases h))
                  | with_reducible exact tame_part
                  | with_reducible refine tame_bind tame_underlying fun _ _ => ?_
                  | with_reducible refine tame_bind tame_typeInfo fun _ _ => ?_
                  | with_reducible refine tame_bind tame_program fun _ _ => ?_
                  | with_reducible refine tame_bindA ?_ fun _ => ?_
                  | dsimp only
                  | split)
          | _ => exact tame_unsup
      | _ => cases y <;> first | exact tame_stuck | exact tame_unsup
    | struct fs =>
      have h : ∀ f ∈ fs, eqOk C.P k f.type = true := by simpa only [Array.all_eq_true_iff_forall_mem] using h
      cases x with
      | agg xs =>
        cases y with
        | agg ys =>
          dsimp only
          refine tame_bind tame_program fun p _ => ?_
          split
          · exact tame_bind (R := fun _ => False) tame_unsup fun _ h => h.elim
          · refine tame_bindA (tame_array_forIn fun f hf b => ?_) fun r => ?_
            · split
              · refine tame_bind tame_part fun _ _ => ?_
                refine tame_bind tame_part fun _ _ => ?_
                refine tame_bind (tame_equalIn k d f.type _ _ (h f hf)) fun _ _ => ?_
                repeat' (first
                    | contradiction
                    | with_reducible exact tame_byteOf
                    | with_reducible refine tame_bind tame_byteOf fun _ _ => ?_
                    | with_reducible refine tame_bind tame_behindNumber fun _ _ => ?_
                    | with_reducible exact tame_pureA
                    | with_reducible exact tame_stuck
                    | ((with_reducible refine tame_unsup ?_) <;> (intro g h; cases h))
                    | with_reducible exact tame_part
                    | with_reducible refine tame_bind tame_underlying fun _ _ => ?_
                    | with_reducible refine tame_bind tame_typeInfo fun _ _ => ?_
                    | with_reducible refine tame_bind tame_program fun _ _ => ?_
                    | with_reducible refine tame_bindA ?_ fun _ => ?_
                    | dsimp only
                    | split)
              · exact tame_pure trivial
            · repeat' (first
                | contradiction
                | with_reducible exact tame_byteOf
                | with_reducible refine tame_bind tame_byteOf fun _ _ => ?_
                | with_reducible refine tame_bind tame_behindNumber fun _ _ => ?_
                | with_reducible exact tame_pureA
                | with_reducible exact tame_stuck
                | ((with_reducible refine tame_unsup ?_) <;> (intro g h; cases h))
                | with_reducible exact tame_part
                | with_reducible refine tame_bind tame_underlying fun _ _ => ?_
                | with_reducible refine tame_bind tame_typeInfo fun _ _ => ?_
                | with_reducible refine tame_bind tame_program fun _ _ => ?_
                | with_reducible refine tame_bindA ?_ fun _ => ?_
                | dsimp only
                | split)
        | _ => exact tame_stuck
      | _ => exact tame_stuck
    | _ => cases h
theorem tame_equal {t : TypeId} {x y : Value} (h : eqOk C.P 8 t = true) : Tame C Any (Op.equal t x y) := tame_equalIn 8 _ t x y h
theorem tame_equal_nil {t : TypeId} {x y : Value} (h : nilOk C.P t = true) (hn : (x = .nilIface ∨ (∃ n c, x = .slice none n c) ∨ x = .pointer none) ∨ y = .nilIface ∨ (∃ n c, y = .slice none n c) ∨ y = .pointer none) : Tame C Any (Op.equal t x y) := by
  show Tame C Any (Op.equalIn (9999 + 1) t x y)
  unfold Op.equalIn
  refine tame_bind tame_underlying fun u hu => ?_
  unfold nilOk at h
  rw [hu] at h
  cases u with
  | interface ms =>
    rcases hn with (rfl | ⟨n, c, rfl⟩ | rfl) | (rfl | ⟨n, c, rfl⟩ | rfl)
    · cases y <;> first | exact tame_stuck | exact tame_pureA
    · exact tame_stuck
    · exact tame_stuck
    · cases x <;> first | exact tame_stuck | exact tame_pureA
    · cases x <;> exact tame_stuck
    · cases x <;> exact tame_stuck
  | slice e =>
    rcases hn with (rfl | ⟨n, c, rfl⟩ | rfl) | (rfl | ⟨n, c, rfl⟩ | rfl)
    · exact tame_stuck
    · cases y <;> first | exact tame_stuck | exact tame_pureA
    · exact tame_stuck
    · cases x with
      | slice a _ _ => cases a <;> exact tame_stuck
      | _ => exact tame_stuck
    · cases x with
      | slice a _ _ => cases a <;> exact tame_pureA
      | _ => exact tame_stuck
    · cases x with
      | slice a _ _ => cases a <;> exact tame_stuck
      | _ => exact tame_stuck
  | pointer e =>
    rcases hn with (rfl | ⟨n, c, rfl⟩ | rfl) | (rfl | ⟨n, c, rfl⟩ | rfl)
    · exact tame_stuck
    · exact tame_stuck
    · cases y <;> first | exact tame_stuck | exact tame_pureA
    · cases x with
      | pointer a => cases a <;> exact tame_stuck
      | _ => exact tame_stuck
    · cases x with
      | pointer a => cases a <;> exact tame_stuck
      | _ => exact tame_stuck
    · cases x with
      | pointer a => cases a <;> exact tame_pureA
      | _ => exact tame_stuck
  | _ => cases h
theorem tame_eqGuardIn : ∀ (d : Nat) (t : TypeId) (x y : Value), Tame C Any (Op.eqGuardIn d t x y)
  | 0, _, _, _ => tame_unsup
  | d + 1, t, x, y => by
    unfold Op.eqGuardIn
    refine tame_bind tame_underlying fun u hu => ?_
    split
    · exact tame_pure trivial
    · refine tame_bind (R := Any) (tame_array_forIn fun f hf b => ?_) fun r _ => ?_
      · split
        · refine tame_bind tame_part fun _ _ => ?_
          refine tame_bind tame_part fun _ _ => ?_
          refine tame_bind (tame_eqGuardIn d f.type _ _) fun _ _ => ?_
          repeat' (first
              | contradiction
              | with_reducible exact tame_pureA
              | ((with_reducible refine tame_unsup ?_) <;> (intro g h; cases h))
              | with_reducible exact tame_part
              | with_reducible refine tame_bind tame_underlying fun _ _ => ?_
              | with_reducible refine tame_bind tame_sizeOf fun _ _ => ?_
              | dsimp only
              | split)
        · exact tame_pure trivial
      · repeat' (first
          | contradiction
          | with_reducible exact tame_pureA
          | ((with_reducible refine tame_unsup ?_) <;> (intro g h; cases h))
          | with_reducible exact tame_part
          | with_reducible refine tame_bind tame_underlying fun _ _ => ?_
          | with_reducible refine tame_bind tame_sizeOf fun _ _ => ?_
          | dsimp only
          | split)
    · refine tame_bind tame_sizeOf fun n _ => ?_
      refine tame_bind (R := Any) ?_ fun r _ => ?_
      · rw [Std.Legacy.Range.forIn_eq_forIn_range']
        refine tame_list_forIn fun i _ b => ?_
        refine tame_bind tame_part fun _ _ => ?_
        refine tame_bind tame_part fun _ _ => ?_
        refine tame_bind (tame_eqGuardIn d _ _ _) fun _ _ => ?_
        repeat' (first
            | contradiction
            | with_reducible exact tame_pureA
            | ((with_reducible refine tame_unsup ?_) <;> (intro g h; cases h))
            | with_reducible exact tame_part
            | with_reducible refine tame_bind tame_underlying fun _ _ => ?_
            | with_reducible refine tame_bind tame_sizeOf fun _ _ => ?_
            | dsimp only
            | split)
      · repeat' (first
          | contradiction
          | with_reducible exact tame_pureA
          | ((with_reducible refine tame_unsup ?_) <;> (intro g h; cases h))
          | with_reducible exact tame_part
          | with_reducible refine tame_bind tame_underlying fun _ _ => ?_
          | with_reducible refine tame_bind tame_sizeOf fun _ _ => ?_
          | dsimp only
          | split)
    · exact tame_pure trivial
theorem tame_eqGuard {op : BinOp} {t : TypeId} {x y : Operand} {a b : Value} : Tame C Any (eqGuard op t x y a b) := by
  unfold eqGuard
  repeat' (first
      | contradiction
      | with_reducible refine tame_bind (tame_eqGuardIn _ _ _ _) fun _ _ => ?_
      | with_reducible exact tame_pureA
      | ((with_reducible refine tame_unsup ?_) <;> (intro g h; cases h))
      | with_reducible refine tame_bind tame_program fun _ _ => ?_
      | dsimp only
      | split)
end
end Go.Proofs.YthjofgmiabcifabGreatDoor.Lift
namespace Go.Proofs.YthjofgmiabcifabGreatDoor.Lift
open Go
section
variable {C : Cls}
theorem tame_intArith {op : BinOp} {k : IntKind} {x y : Int} : Tame C Any (Op.intArith op k x y) := by
  cases op <;> first | exact tame_pureA | exact tame_stuck
theorem tame_intDiv {op : BinOp} {k : IntKind} {x y : Int} : Tame C Any (Op.intDiv op k x y) := by
  unfold Op.intDiv
  split
  · exact tame_runtimePanic
  · cases op <;> first | exact tame_pureA | exact tame_stuck
theorem tame_intBits {op : BinOp} {k : IntKind} {x y : Int} : Tame C Any (Op.intBits op k x y) := by
  cases op <;> first | exact tame_pureA | exact tame_stuck
theorem tame_intCmp {op : BinOp} {x y : Int} : Tame C Any (Op.intCmp op x y) := by
  cases op <;> first | exact tame_pureA | exact tame_stuck
theorem tame_shift {op : BinOp} {k j : IntKind} {x y : Int} : Tame C Any (Op.shift op k x j y) := by
  unfold Op.shift
  split
  · exact tame_runtimePanic
  · cases op <;> first | exact tame_pureA | exact tame_stuck
theorem tame_stringOp {op : BinOp} {x y : ByteArray} : Tame C Any (Op.stringOp op x y) := by
  unfold Op.stringOp
  cases op <;> first | exact tame_pureA | exact tame_stuck | skip
  dsimp only
  split
  · exact tame_unsup
  · exact tame_pureA
theorem tame_floatArith {op : BinOp} {k : FloatKind} {x y : Nat} : Tame C Any (Op.floatArith op k x y) := by
  have jp : ∀ r : Option Nat, Tame C Any (match r with
      | some r => pure (Value.float k r)
      | none => do pure (Value.float k (← choose (Question.nanBits k x y))) : Sem Value) := by
    intro r
    cases r with
    | some r => exact tame_pureA
    | none => exact tame_bind tame_choose fun _ _ => tame_pureA
  unfold Op.floatArith
  dsimp only
  cases op <;> first | exact tame_bind tame_pureA fun r _ => jp r | exact tame_bind (R := fun _ => False) tame_stuck fun _ h => h.elim
theorem tame_floatCmp {op : BinOp} {k : FloatKind} {x y : Nat} : Tame C Any (Op.floatCmp op k x y) := by
  unfold Op.floatCmp
  cases op <;> first | exact tame_pureA | exact tame_stuck
theorem tame_floatToFloat {a b : FloatKind} {x : Nat} : Tame C Any (Conv.floatToFloat a x b) := by
  unfold Conv.floatToFloat
  repeat' (first
      | contradiction
      | with_reducible exact tame_pureA
      | with_reducible refine tame_bind tame_choose fun _ _ => ?_
      | dsimp only
      | split)
theorem tame_floatToInt {a : FloatKind} {b : IntKind} {x : Nat} : Tame C Any (Conv.floatToInt a x b) := by
  unfold Conv.floatToInt
  repeat' (first
      | contradiction
      | with_reducible exact tame_pureA
      | with_reducible refine tame_bind tame_choose fun _ _ => ?_
      | dsimp only
      | split)
theorem tame_arith {op : BinOp} {k : FloatKind} {x y : Nat} : Tame C Any (Op.Complex.arith op k x y) := by
  unfold Op.Complex.arith
  refine tame_bind tame_floatArith fun r _ => ?_
  cases r <;> first | exact tame_pureA | exact tame_stuck
theorem tame_cmp {op : BinOp} {k : FloatKind} {x y : Nat} : Tame C Any (Op.Complex.cmp op k x y) := tame_bind tame_floatCmp fun _ _ => tame_asBool
theorem tame_conv {a b : FloatKind} {x : Nat} : Tame C Any (Op.Complex.conv a x b) := by
  unfold Op.Complex.conv
  split
  · exact tame_pureA
  · refine tame_bind tame_floatToFloat fun r _ => ?_
    cases r <;> first | exact tame_pureA | exact tame_stuck
theorem tame_add {x y : Nat} : Tame C Any (Op.Complex.add x y) := tame_arith
theorem tame_sub {x y : Nat} : Tame C Any (Op.Complex.sub x y) := tame_arith
theorem tame_mul {x y : Nat} : Tame C Any (Op.Complex.mul x y) := tame_arith
theorem tame_quo {x y : Nat} : Tame C Any (Op.Complex.quo x y) := tame_arith
theorem tame_product {a b c d : Nat} : Tame C Any (Op.Complex.product a b c d) := by
  unfold Op.Complex.product
  repeat' (first
      | with_reducible refine tame_bind tame_add fun _ _ => ?_
      | with_reducible refine tame_bind tame_sub fun _ _ => ?_
      | with_reducible refine tame_bind tame_mul fun _ _ => ?_
      | contradiction
      | with_reducible exact tame_pureA
      | dsimp only
      | split)
theorem tame_corrected {s a b c d : Nat} : Tame C Any (Op.Complex.corrected s a b c d) := by
  unfold Op.Complex.corrected
  repeat' (first
      | with_reducible refine tame_bind tame_add fun _ _ => ?_
      | with_reducible refine tame_bind tame_sub fun _ _ => ?_
      | with_reducible refine tame_bind tame_mul fun _ _ => ?_
      | contradiction
      | with_reducible exact tame_pureA
      | dsimp only
      | split)
set_option maxHeartbeats 1600000 in
theorem tame_quotient {a b c d : Nat} : Tame C Any (Op.Complex.quotient a b c d) := by
  unfold Op.Complex.quotient
  extract_lets jp
  have hjp : ∀ r, Tame C Any (jp r) := by
    intro r
    show Tame C Any (match r with | (e, f) => _)
    obtain ⟨e, f⟩ := r
    dsimp only
    refine tame_bind tame_cmp fun z1 _ => ?_
    refine tame_bindA ?_ fun z => ?_
    · repeat' (first
        | with_reducible refine tame_bind tame_add fun _ _ => ?_
        | with_reducible refine tame_bind tame_sub fun _ _ => ?_
        | with_reducible refine tame_bind tame_mul fun _ _ => ?_
        | with_reducible refine tame_bind tame_quo fun _ _ => ?_
        | with_reducible refine tame_bind tame_cmp fun _ _ => ?_
        | with_reducible exact tame_corrected
        | with_reducible exact tame_cmp
        | contradiction
        | with_reducible exact tame_pureA
        | with_reducible refine tame_bindA ?_ fun _ => ?_
        | dsimp only
        | split)
    · repeat' (first
        | with_reducible refine tame_bind tame_add fun _ _ => ?_
        | with_reducible refine tame_bind tame_sub fun _ _ => ?_
        | with_reducible refine tame_bind tame_mul fun _ _ => ?_
        | with_reducible refine tame_bind tame_quo fun _ _ => ?_
        | with_reducible refine tame_bind tame_cmp fun _ _ => ?_
        | with_reducible exact tame_corrected
        | with_reducible exact tame_cmp
        | contradiction
        | with_reducible exact tame_pureA
        | with_reducible refine tame_bindA ?_ fun _ => ?_
        | dsimp only
        | split)
  clear_value jp
  refine tame_bind tame_cmp fun z _ => ?_
  cases z
  · simp only [Bool.false_eq_true, if_false]
    repeat' (first | with_reducible exact hjp _ | (first
        | with_reducible refine tame_bind tame_add fun _ _ => ?_
        | with_reducible refine tame_bind tame_sub fun _ _ => ?_
        | with_reducible refine tame_bind tame_mul fun _ _ => ?_
        | with_reducible refine tame_bind tame_quo fun _ _ => ?_
        | with_reducible refine tame_bind tame_cmp fun _ _ => ?_
        | with_reducible exact tame_corrected
        | with_reducible exact tame_cmp
        | contradiction
        | with_reducible exact tame_pureA
        | with_reducible refine tame_bindA ?_ fun _ => ?_
        | dsimp only
        | split))
  · simp only [if_true]
    repeat' (first | with_reducible exact hjp _ | (first
        | with_reducible refine tame_bind tame_add fun _ _ => ?_
        | with_reducible refine tame_bind tame_sub fun _ _ => ?_
        | with_reducible refine tame_bind tame_mul fun _ _ => ?_
        | with_reducible refine tame_bind tame_quo fun _ _ => ?_
        | with_reducible refine tame_bind tame_cmp fun _ _ => ?_
        | with_reducible exact tame_corrected
        | with_reducible exact tame_cmp
        | contradiction
        | with_reducible exact tame_pureA
        | with_reducible refine tame_bindA ?_ fun _ => ?_
        | dsimp only
        | split))
end
end Go.Proofs.YthjofgmiabcifabGreatDoor.Lift
namespace Go.Proofs.YthjofgmiabcifabGreatDoor.Lift
open Go
section
variable {C : Cls}
theorem tame_ite {α : Type} {Q : α → Prop} {c : Prop} [Decidable c] {s t : Sem α} (h : Tame C Q s) (k : Tame C Q t) : Tame C Q (if c then s else t) := by
  split
  · exact h
  · exact k
theorem tame_complexOp {op : BinOp} {k : FloatKind} {x y u v : Nat} : Tame C Any (Op.complexOp op k x y u v) := by
  unfold Op.complexOp
  cases op with
  | add => exact tame_bind tame_arith fun _ _ => tame_bind tame_arith fun _ _ => tame_pureA
  | sub => exact tame_bind tame_arith fun _ _ => tame_bind tame_arith fun _ _ => tame_pureA
  | mul =>
    refine tame_bind tame_conv fun a _ => tame_bind tame_conv fun b _ => tame_bind tame_conv fun c _ => tame_bind tame_conv fun d _ => ?_
    exact tame_bind tame_product fun r _ => tame_bind tame_conv fun _ _ => tame_bind tame_conv fun _ _ => tame_pureA
  | quo =>
    refine tame_bind tame_conv fun a _ => tame_bind tame_conv fun b _ => tame_bind tame_conv fun c _ => tame_bind tame_conv fun d _ => ?_
    exact tame_bind tame_quotient fun r _ => tame_bind tame_conv fun _ _ => tame_bind tame_conv fun _ _ => tame_pureA
  | eql =>
    dsimp only
    repeat' (first
        | with_reducible refine tame_bind tame_add fun _ _ => ?_
        | with_reducible refine tame_bind tame_sub fun _ _ => ?_
        | with_reducible refine tame_bind tame_mul fun _ _ => ?_
        | with_reducible refine tame_bind tame_quo fun _ _ => ?_
        | with_reducible refine tame_bind tame_arith fun _ _ => ?_
        | with_reducible refine tame_bind tame_cmp fun _ _ => ?_
        | with_reducible refine tame_bind tame_conv fun _ _ => ?_
        | with_reducible refine tame_bind tame_product fun _ _ => ?_
        | with_reducible refine tame_bind tame_quotient fun _ _ => ?_
        | with_reducible exact tame_product
        | with_reducible exact tame_corrected
        | with_reducible exact tame_quotient
        | with_reducible exact tame_cmp
        | contradiction
        | with_reducible refine tame_bind (tame_eqGuardIn _ _ _ _) fun _ _ => ?_
        | with_reducible exact tame_asNumber
        | with_reducible exact tame_unsafeAdd
        | with_reducible exact tame_movedNumber
        | with_reducible exact tame_movedPointer
        | with_reducible exact tame_byteOf
        | with_reducible exact tame_addrSub
        | with_reducible exact tame_addrCmp
        | with_reducible exact tame_addrMod
        | with_reducible refine tame_bind tame_byteOf fun _ _ => ?_
        | with_reducible refine tame_bind tame_twoPlaces fun _ _ => ?_
        | with_reducible refine tame_bind tame_viewAt fun _ _ => ?_
        | with_reducible refine tame_bind tame_numberAt fun _ _ => ?_
        | with_reducible refine tame_bind tame_behindNumber fun _ _ => ?_
        | with_reducible refine tame_bind tame_unsafeAdd fun _ _ => ?_
        | with_reducible exact tame_pureA
        | with_reducible exact tame_stuck
        | ((with_reducible refine tame_unsup ?_) <;> (intro g h; cases h))
        | with_reducible exact tame_runtimePanic
        | with_reducible exact tame_boundsPanic
        | with_reducible exact tame_asInt
        | with_reducible exact tame_asBool
        | with_reducible exact tame_loadVar
        | with_reducible exact tame_storeVar
        | with_reducible exact tame_loadCells
        | with_reducible exact tame_part
        | with_reducible refine tame_bind tame_underlying fun _ _ => ?_
        | with_reducible refine tame_bind tame_typeInfo fun _ _ => ?_
        | with_reducible refine tame_bind tame_sizeOf fun _ _ => ?_
        | with_reducible refine tame_bind tame_zeroValue fun _ _ => ?_
        | with_reducible refine tame_bind tame_asIntOf fun _ _ => ?_
        | with_reducible refine tame_bind tame_asInt fun _ _ => ?_
        | with_reducible refine tame_bind tame_asAgg fun _ _ => ?_
        | with_reducible refine tame_bind tame_asAddr fun _ _ => ?_
        | with_reducible refine tame_bind tame_sureAddr fun _ _ => ?_
        | with_reducible refine tame_bind tame_choose fun _ _ => ?_
        | with_reducible refine tame_bind tame_newRow fun _ _ => ?_
        | with_reducible refine tame_bind tame_newVar fun _ _ => ?_
        | with_reducible refine tame_bind tame_askRoom fun _ _ => ?_
        | with_reducible refine tame_bind tame_program fun _ _ => ?_
        | with_reducible exact tame_mapA tame_choose
        | with_reducible refine tame_bindA ?_ fun _ => ?_
        | dsimp only
        | split)
  | neq =>
    dsimp only
    repeat' (first
        | with_reducible refine tame_bind tame_add fun _ _ => ?_
        | with_reducible refine tame_bind tame_sub fun _ _ => ?_
        | with_reducible refine tame_bind tame_mul fun _ _ => ?_
        | with_reducible refine tame_bind tame_quo fun _ _ => ?_
        | with_reducible refine tame_bind tame_arith fun _ _ => ?_
        | with_reducible refine tame_bind tame_cmp fun _ _ => ?_
        | with_reducible refine tame_bind tame_conv fun _ _ => ?_
        | with_reducible refine tame_bind tame_product fun _ _ => ?_
        | with_reducible refine tame_bind tame_quotient fun _ _ => ?_
        | with_reducible exact tame_product
        | with_reducible exact tame_corrected
        | with_reducible exact tame_quotient
        | with_reducible exact tame_cmp
        | contradiction
        | with_reducible refine tame_bind (tame_eqGuardIn _ _ _ _) fun _ _ => ?_
        | with_reducible exact tame_asNumber
        | with_reducible exact tame_unsafeAdd
        | with_reducible exact tame_movedNumber
        | with_reducible exact tame_movedPointer
        | with_reducible exact tame_byteOf
        | with_reducible exact tame_addrSub
        | with_reducible exact tame_addrCmp
        | with_reducible exact tame_addrMod
        | with_reducible refine tame_bind tame_byteOf fun _ _ => ?_
        | with_reducible refine tame_bind tame_twoPlaces fun _ _ => ?_
        | with_reducible refine tame_bind tame_viewAt fun _ _ => ?_
        | with_reducible refine tame_bind tame_numberAt fun _ _ => ?_
        | with_reducible refine tame_bind tame_behindNumber fun _ _ => ?_
        | with_reducible refine tame_bind tame_unsafeAdd fun _ _ => ?_
        | with_reducible exact tame_pureA
        | with_reducible exact tame_stuck
        | ((with_reducible refine tame_unsup ?_) <;> (intro g h; cases h))
        | with_reducible exact tame_runtimePanic
        | with_reducible exact tame_boundsPanic
        | with_reducible exact tame_asInt
        | with_reducible exact tame_asBool
        | with_reducible exact tame_loadVar
        | with_reducible exact tame_storeVar
        | with_reducible exact tame_loadCells
        | with_reducible exact tame_part
        | with_reducible refine tame_bind tame_underlying fun _ _ => ?_
        | with_reducible refine tame_bind tame_typeInfo fun _ _ => ?_
        | with_reducible refine tame_bind tame_sizeOf fun _ _ => ?_
        | with_reducible refine tame_bind tame_zeroValue fun _ _ => ?_
        | with_reducible refine tame_bind tame_asIntOf fun _ _ => ?_
        | with_reducible refine tame_bind tame_asInt fun _ _ => ?_
        | with_reducible refine tame_bind tame_asAgg fun _ _ => ?_
        | with_reducible refine tame_bind tame_asAddr fun _ _ => ?_
        | with_reducible refine tame_bind tame_sureAddr fun _ _ => ?_
        | with_reducible refine tame_bind tame_choose fun _ _ => ?_
        | with_reducible refine tame_bind tame_newRow fun _ _ => ?_
        | with_reducible refine tame_bind tame_newVar fun _ _ => ?_
        | with_reducible refine tame_bind tame_askRoom fun _ _ => ?_
        | with_reducible refine tame_bind tame_program fun _ _ => ?_
        | with_reducible exact tame_mapA tame_choose
        | with_reducible refine tame_bindA ?_ fun _ => ?_
        | dsimp only
        | split)
  | _ => exact tame_stuck
theorem tame_binInt {op : BinOp} {t : TypeId} {k j : IntKind} {a b : Int} : Tame C Any (binOp op t (.int k a) (.int j b)) := by
  unfold binOp
  cases op <;> first | exact tame_shift | (refine tame_ite tame_stuck ?_; first | exact tame_intArith | exact tame_intDiv | exact tame_intBits | exact tame_intCmp)
theorem tame_binFloat {op : BinOp} {t : TypeId} {k j : FloatKind} {a b : Nat} : Tame C Any (binOp op t (.float k a) (.float j b)) := by
  unfold binOp
  cases op <;> (refine tame_ite tame_stuck ?_; first | exact tame_floatArith | exact tame_floatCmp)
theorem tame_binComplex {op : BinOp} {t : TypeId} {k j : FloatKind} {a b c d : Nat} : Tame C Any (binOp op t (.complex k a b) (.complex j c d)) := by
  unfold binOp
  cases op <;> exact tame_ite tame_stuck tame_complexOp
/-- All that is not a comparison for identity. -/
theorem tame_binOdd {op : BinOp} {t : TypeId} {x y : Value} (h1 : op ≠ .eql) (h2 : op ≠ .neq) : Tame C Any (binOp op t x y) := by
  have mv : ∀ {u : TypeId} {x y : Value}, Tame C Any (do if (← underlying u) matches .unsafePointer then movedPointer u x y else movedNumber u x y) := by
    intro u x y
    refine tame_bind tame_underlying fun d _ => ?_
    cases d <;> first | exact tame_movedNumber | exact tame_movedPointer
  have sb : ∀ {a b : Addr}, Tame C Any (do Op.addrSub .u64 (← behindNumber a).1 (← behindNumber b).1) := fun {a b} => tame_bind tame_behindNumber fun _ _ => tame_bind tame_behindNumber fun _ _ => tame_addrSub
  have cm : ∀ {op : BinOp} {a b : Addr}, Tame C Any (do Op.addrCmp op (← behindNumber a).1 (← behindNumber b).1) := fun {op a b} => tame_bind tame_behindNumber fun _ _ => tame_bind tame_behindNumber fun _ _ => tame_addrCmp
  have md : ∀ {k : IntKind} {a : Addr} {n : Int}, Tame C Any (do Op.addrMod k (← behindNumber a).1 n) := fun {k a n} => tame_bind tame_behindNumber fun _ _ => tame_addrMod
  cases x with
  | int k a =>
    cases y with
    | int j b => exact tame_binInt
    | pointer p =>
      cases op <;> first | exact absurd rfl h1 | exact absurd rfl h2 | exact tame_unsup | exact tame_movedNumber | (cases p <;> first | exact tame_unsup | exact md)
    | _ => cases op <;> first | exact absurd rfl h1 | exact absurd rfl h2 | exact tame_stuck
  | float k a =>
    cases y with
    | float j b => exact tame_binFloat
    | pointer p => cases op <;> first | exact absurd rfl h1 | exact absurd rfl h2 | exact tame_unsup
    | _ => cases op <;> first | exact absurd rfl h1 | exact absurd rfl h2 | exact tame_stuck
  | complex k a b =>
    cases y with
    | complex j c d => exact tame_binComplex
    | pointer p => cases op <;> first | exact absurd rfl h1 | exact absurd rfl h2 | exact tame_unsup
    | _ => cases op <;> first | exact absurd rfl h1 | exact absurd rfl h2 | exact tame_stuck
  | string a =>
    cases y with
    | string b =>
      have e : binOp op t (.string a) (.string b) = Op.stringOp op a b := by cases op <;> rfl
      rw [e]
      exact tame_stringOp
    | pointer p => cases op <;> first | exact absurd rfl h1 | exact absurd rfl h2 | exact tame_unsup
    | _ => cases op <;> first | exact absurd rfl h1 | exact absurd rfl h2 | exact tame_stuck
  | pointer p =>
    cases y with
    | int j b => cases op <;> first | exact absurd rfl h1 | exact absurd rfl h2 | exact tame_unsup | exact mv | exact tame_movedNumber | (cases p <;> first | exact tame_unsup | exact md)
    | pointer q => cases op <;> first | exact absurd rfl h1 | exact absurd rfl h2 | exact tame_unsup | (cases p <;> cases q <;> first | exact tame_unsup | exact sb | exact cm)
    | _ => cases op <;> first | exact absurd rfl h1 | exact absurd rfl h2 | exact tame_unsup | (cases p <;> exact tame_unsup)
  | _ =>
    cases y with
    | pointer p => cases op <;> first | exact absurd rfl h1 | exact absurd rfl h2 | exact tame_unsup | (cases p <;> exact tame_unsup)
    | _ => cases op <;> first | exact absurd rfl h1 | exact absurd rfl h2 | exact tame_stuck
end
end Go.Proofs.YthjofgmiabcifabGreatDoor.Lift
namespace Go.Proofs.YthjofgmiabcifabGreatDoor.Lift
open Go
section
variable {C : Cls}
theorem tame_binEq {t : TypeId} {x y : Value} (he : Tame C Any (Op.equal t x y)) : Tame C Any (binOp .eql t x y) := by
  have hq : Tame C Any (do pure (.bool (← Op.equal t x y)) : Sem Value) := tame_bind he fun _ _ => tame_pureA
  cases x with
  | int k a =>
    cases y with
    | int j b => exact tame_binInt
    | _ => exact hq
  | float k a =>
    cases y with
    | float j b => exact tame_binFloat
    | _ => exact hq
  | complex k a b =>
    cases y with
    | complex j c d => exact tame_binComplex
    | _ => exact hq
  | string a =>
    cases y with
    | string b =>
      show Tame C Any (Op.stringOp .eql a b)
      exact tame_stringOp
    | _ => exact hq
  | _ => exact hq
theorem tame_binNeq {t : TypeId} {x y : Value} (he : Tame C Any (Op.equal t x y)) : Tame C Any (binOp .neq t x y) := by
  have hq : Tame C Any (do pure (.bool (!(← Op.equal t x y))) : Sem Value) := tame_bind he fun _ _ => tame_pureA
  cases x with
  | int k a =>
    cases y with
    | int j b => exact tame_binInt
    | _ => exact hq
  | float k a =>
    cases y with
    | float j b => exact tame_binFloat
    | _ => exact hq
  | complex k a b =>
    cases y with
    | complex j c d => exact tame_binComplex
    | _ => exact hq
  | string a =>
    cases y with
    | string b =>
      show Tame C Any (Op.stringOp .neq a b)
      exact tame_stringOp
    | _ => exact hq
  | _ => exact hq
theorem tame_binOp {op : BinOp} {t : TypeId} {x y : Value} (he : op = .eql ∨ op = .neq → Tame C Any (Op.equal t x y)) : Tame C Any (binOp op t x y) := by
  by_cases h1 : op = .eql
  · subst h1; exact tame_binEq (he (.inl rfl))
  · by_cases h2 : op = .neq
    · subst h2; exact tame_binNeq (he (.inr rfl))
    · exact tame_binOdd h1 h2
theorem tame_convert {s d : TypeId} {x : Value} (hs : intType C.P s = true) (hd : intType C.P d = true) : Tame C Any (convert s d x) := by
  unfold intType at hs hd
  refine tame_bind tame_underlying fun u hu => ?_
  refine tame_bind tame_underlying fun v hv => ?_
  rw [hu] at hs
  rw [hv] at hd
  cases u <;> first | (cases hs; done) | skip
  cases v <;> first | (cases hd; done) | skip
  cases x with
  | int k n => exact tame_pureA
  | float k b => exact tame_floatToInt
  | pointer p => cases p <;> exact tame_unsup
  | _ => exact tame_unsup
theorem tame_len {ts : Array TypeId} {t : TypeId} {args : Array Value} (h : lenOk C.P ts = true) : Tame C Any (Builtin.len_ ts t args) := by
  unfold Builtin.len_
  unfold lenOk at h
  cases ht : ts[0]? with
  | none => exact tame_stuck
  | some t0 =>
    rw [ht] at h
    cases hx : args[0]? with
    | none => exact tame_stuck
    | some x =>
      refine tame_bind tame_underlying fun u hu => ?_
      dsimp only at h
      rw [hu] at h
      cases u <;> first | (cases h; done) | skip
      · cases x <;> first | exact tame_stuck | exact tame_pureA
      · cases x <;> first | exact tame_stuck | exact tame_pureA
      · cases x <;> first | exact tame_stuck | exact tame_pureA
theorem tame_min2 {x y : Value} : Tame C Any (Builtin.min2 x y) := by
  unfold Builtin.min2
  split
  · exact tame_pureA
  · split
    · exact tame_bind tame_choose fun _ _ => tame_pureA
    · exact tame_pureA
    · exact tame_pureA
    · exact tame_pureA
  · exact tame_bind tame_stringOp fun _ _ => tame_bind tame_asBool fun _ _ => tame_pureA
  · exact tame_unsup
  · exact tame_unsup
  · exact tame_stuck
theorem tame_max2 {x y : Value} : Tame C Any (Builtin.max2 x y) := by
  unfold Builtin.max2
  split
  · exact tame_pureA
  · split
    · exact tame_bind tame_choose fun _ _ => tame_pureA
    · exact tame_pureA
    · exact tame_pureA
    · exact tame_pureA
  · exact tame_bind tame_stringOp fun _ _ => tame_bind tame_asBool fun _ _ => tame_pureA
  · exact tame_unsup
  · exact tame_unsup
  · exact tame_stuck
theorem tame_foldlM {f : Value → Value → Sem Value} (h : ∀ a b, Tame C Any (f a b)) : ∀ (l : List Value) (x : Value), Tame C Any (l.foldlM f x)
  | [], _ => tame_pureA
  | a :: l, x => tame_bind (h x a) fun _ _ => tame_foldlM h l _
theorem tame_min {ts : Array TypeId} {t : TypeId} {args : Array Value} : Tame C Any (Builtin.min_ ts t args) := by
  unfold Builtin.min_
  split
  · exact tame_stuck
  · exact tame_foldlM (fun _ _ => tame_min2) _ _
theorem tame_max {ts : Array TypeId} {t : TypeId} {args : Array Value} : Tame C Any (Builtin.max_ ts t args) := by
  unfold Builtin.max_
  split
  · exact tame_stuck
  · exact tame_foldlM (fun _ _ => tame_max2) _ _
theorem tame_lenOf {x : Value} : Tame C Any (Builtin.lenOf x) := by
  cases x <;> first | exact tame_pureA | exact tame_stuck
theorem tame_firstCells {n m : Nat} {x : Value} : Tame C Any (Builtin.firstCells n m x) := by
  cases x with
  | slice a _ _ => cases a <;> first | exact tame_pureA | exact tame_loadCells
  | string s => exact tame_pureA
  | _ => exact tame_stuck
/-- What may share is asked on a way that ends in a refusal. -/
theorem dead_mayShare {β : Type} {a b c : Nat} {p : Option Addr} {x : Value} {k : Bool → Sem β} (hk : ∀ r, Dead (k r)) : Dead (Builtin.mayShare a b c p x >>= k) := by
  have hold : ∀ (q : Addr) (n : Nat) {k : Bool → Sem β}, (∀ r, Dead (k r)) → Dead (Builtin.holdsCells q n >>= k) := by
    intro q n k hk
    refine .shape fun y => ?_
    cases y with
    | none => exact hk _
    | some y => exact hk _
  have tail : ∀ there : Bool, Dead ((if !there then pure true else match x with
      | .slice (some q) _ _ => do pure (!(← Builtin.holdsCells q (c * a)) || p.any (·.block == q.block))
      | _ => pure false : Sem Bool) >>= k) := by
    intro there
    cases there
    · exact hk true
    · simp only [Bool.not_true, Bool.false_eq_true, if_false]
      cases x with
      | slice q _ _ =>
        cases q with
        | none => exact hk false
        | some q =>
          dsimp only
          simp only [bind_assoc, pure_bind]
          exact hold q _ fun r => hk _
      | _ => exact hk false
  cases p with
  | none => exact tail true
  | some q =>
    unfold Builtin.mayShare
    simp only [bind_assoc, pure_bind]
    refine hold q _ fun r => ?_
    refine .frozen fun y => ?_
    exact tail (r && !y)
theorem tame_noShare {β : Type} {Q : β → Prop} {a b c : Nat} {p : Option Addr} {x : Value} {k : Bool → Sem β} (hk : ∀ r, Dead (k r)) : Tame C Q (Builtin.mayShare a b c p x >>= k) := .dead (dead_mayShare hk)
theorem tame_append {ts : Array TypeId} {t : TypeId} {args : Array Value} : Tame C Any (Builtin.append_ ts t args) := by
  unfold Builtin.append_
  cases ht : ts[0]? with
  | none => exact tame_stuck
  | some t0 =>
  cases hx : args[0]? with
  | none => exact tame_stuck
  | some s =>
  cases hy : args[1]? with
  | none => exact tame_stuck
  | some x =>
  dsimp -zeta only
  refine tame_bind tame_underlying fun u hu => ?_
  cases u with
  | slice elem =>
    cases s with
    | slice base sLen sCap =>
      dsimp -zeta only
      refine tame_bind tame_sizeOf fun size _ => ?_
      extract_lets -underBinder jp
      have hjp : ∀ z, Tame C Any (jp z) := by
        intro zeros
        dsimp -zeta only [jp]
        extract_lets -underBinder jp2
        have hjp2 : ∀ n, Tame C Any (jp2 n) := by
          intro n
          dsimp -zeta only [jp2]
          extract_lets -underBinder app need
          have happ : Tame C Any app := by
            dsimp -zeta only [app]
            refine tame_ite tame_firstCells (tame_ite tame_pureA ?_)
            exact tame_bind tame_zeroValue fun _ _ => tame_pureA
          clear_value app
          refine tame_ite ?_ ?_
          · refine tame_bind happ fun new _ => ?_
            cases base with
            | none => exact tame_pureA
            | some a => exact tame_bind tame_storeCells fun _ _ => tame_pureA
          · refine tame_bind tame_typeInfo fun i _ => ?_
            extract_lets -underBinder jp3
            have hjp3 : ∀ z, Tame C Any (jp3 z) := by
              intro z
              dsimp -zeta only [jp3]
              refine tame_bind tame_typeInfo fun i _ => ?_
              extract_lets -underBinder jp4
              have hjp4 : ∀ z, Tame C Any (jp4 z) := by
                intro z
                dsimp -zeta only [jp4]
                refine tame_bind tame_choose fun nc _ => ?_
                refine tame_bind tame_typeInfo fun _ _ => ?_
                refine tame_bind tame_askRoom fun _ _ => ?_
                refine tame_bind tame_firstCells fun _ _ => ?_
                refine tame_bind happ fun _ _ => ?_
                refine tame_bind tame_zeroValue fun _ _ => ?_
                refine tame_bind tame_newRow fun _ _ => ?_
                exact tame_pureA
              clear_value jp4
              refine tame_ite ?_ (hjp4 _)
              refine tame_bind (R := Any) ?_ fun _ _ => hjp4 _
              refine tame_ite tame_runtimePanic ?_
              refine tame_noShare fun r => ?_
              cases r
              · exact .mark (.unsup _)
              · exact .unsup _
            clear_value jp3
            refine tame_ite ?_ (hjp3 _)
            exact tame_bind (R := Any) tame_runtimePanic fun _ _ => hjp3 _
        clear_value jp2
        refine tame_ite ?_ (tame_bind tame_lenOf fun _ _ => hjp2 _)
        refine tame_bind tame_asInt fun n _ => ?_
        extract_lets -underBinder l jp3
        have hjp3 : ∀ z, Tame C Any (jp3 z) := by
          intro z
          dsimp -zeta only [jp3]
          refine tame_bind tame_typeInfo fun i _ => ?_
          extract_lets -underBinder jp4
          have hjp4 : ∀ z, Tame C Any (jp4 z) := fun z => tame_bind tame_pureA fun _ _ => hjp2 _
          clear_value jp4
          refine tame_ite ?_ (hjp4 _)
          exact tame_bind tame_choose fun _ _ => tame_bind (R := Any) tame_runtimePanic fun _ _ => hjp4 _
        clear_value jp3
        refine tame_ite ?_ (hjp3 _)
        exact tame_bind (R := Any) tame_runtimePanic fun _ _ => hjp3 _
      clear_value jp
      cases ts[1]? with
      | none => exact tame_bind tame_pureA fun _ _ => hjp _
      | some xt => exact tame_bind tame_underlying fun _ _ => tame_bind tame_pureA fun _ _ => hjp _
    | _ => exact tame_stuck
  | _ => exact tame_stuck
theorem tame_partAt {a : Addr} {c b : Nat} : Tame C Any (partAt a c b) := by
  unfold partAt
  refine tame_bind tame_byteOf fun _ _ => ?_
  exact tame_bind tame_byteOf fun _ _ => tame_pureA
theorem tame_fieldPlace {a : Addr} {f : Field} : Tame C Any (fieldPlace a f) := tame_bind tame_sizeOf fun _ _ => tame_ite tame_partAt tame_pureA
theorem tame_get {t : TypeId} {p : Place} : Tame C Any (p.get t) := by
  cases p with
  | val v => exact tame_pureA
  | var a => exact tame_loadVar
theorem tame_follow : ∀ {l : List FieldStep} {t : TypeId} {p : Place}, Tame C Any (follow l t p)
  | [], t, p => tame_pureA
  | s :: rest, t, p => by
    unfold follow
    refine tame_bind tame_underlying fun u _ => ?_
    cases u with
    | struct fields =>
      dsimp only
      cases fields[s.index]? with
      | none => exact tame_stuck
      | some f =>
        refine tame_ite ?_ ?_
        · exact tame_bind tame_get fun _ _ => tame_bind tame_asAddr fun _ _ => tame_bind tame_fieldPlace fun _ _ => tame_follow
        · cases p with
          | var a => exact tame_bind tame_fieldPlace fun _ _ => tame_follow
          | val v =>
            cases v with
            | agg cs => exact tame_bind tame_part fun _ _ => tame_follow
            | _ => exact tame_stuck
    | _ => exact tame_stuck
theorem tame_ssaWrapNilChk {ts : Array TypeId} {t : TypeId} {args : Array Value} : Tame C Any (Builtin.ssaWrapNilChk_ ts t args) := by
  obtain ⟨l⟩ := args
  rcases l with _ | ⟨x, l⟩
  · exact tame_stuck
  rcases l with _ | ⟨y, l⟩
  · exact tame_stuck
  rcases l with _ | ⟨z, l⟩
  · cases y <;> exact tame_stuck
  rcases l with _ | ⟨z', l⟩
  rotate_left
  · cases y <;> first | exact tame_stuck | (cases z <;> exact tame_stuck)
  cases y with
  | string y =>
    cases z with
    | string z =>
      cases x with
      | pointer p =>
        cases p with
        | some p => exact tame_pureA
        | none =>
          unfold Builtin.ssaWrapNilChk_
          refine tame_bind tame_choose fun b _ => ?_
          extract_lets -underBinder jp
          have hjp : ∀ z, Tame C Any (jp z) := by
            intro u
            dsimp -zeta only [jp]
            repeat' (first
                | contradiction
                | with_reducible refine tame_bind (tame_eqGuardIn _ _ _ _) fun _ _ => ?_
                | with_reducible exact tame_asNumber
                | with_reducible exact tame_unsafeAdd
                | with_reducible exact tame_movedNumber
                | with_reducible exact tame_movedPointer
                | with_reducible exact tame_byteOf
                | with_reducible exact tame_addrSub
                | with_reducible exact tame_addrCmp
                | with_reducible exact tame_addrMod
                | with_reducible refine tame_bind tame_byteOf fun _ _ => ?_
                | with_reducible refine tame_bind tame_twoPlaces fun _ _ => ?_
                | with_reducible refine tame_bind tame_viewAt fun _ _ => ?_
                | with_reducible refine tame_bind tame_numberAt fun _ _ => ?_
                | with_reducible refine tame_bind tame_behindNumber fun _ _ => ?_
                | with_reducible refine tame_bind tame_unsafeAdd fun _ _ => ?_
                | with_reducible exact tame_pureA
                | with_reducible exact tame_stuck
                | ((with_reducible refine tame_unsup ?_) <;> (intro g h; cases h))
                | with_reducible exact tame_runtimePanic
                | with_reducible exact tame_boundsPanic
                | with_reducible exact tame_asInt
                | with_reducible exact tame_asBool
                | with_reducible exact tame_loadVar
                | with_reducible exact tame_storeVar
                | with_reducible exact tame_loadCells
                | with_reducible exact tame_part
                | with_reducible refine tame_bind tame_underlying fun _ _ => ?_
                | with_reducible refine tame_bind tame_typeInfo fun _ _ => ?_
                | with_reducible refine tame_bind tame_sizeOf fun _ _ => ?_
                | with_reducible refine tame_bind tame_zeroValue fun _ _ => ?_
                | with_reducible refine tame_bind tame_asIntOf fun _ _ => ?_
                | with_reducible refine tame_bind tame_asInt fun _ _ => ?_
                | with_reducible refine tame_bind tame_asAgg fun _ _ => ?_
                | with_reducible refine tame_bind tame_asAddr fun _ _ => ?_
                | with_reducible refine tame_bind tame_sureAddr fun _ _ => ?_
                | with_reducible refine tame_bind tame_choose fun _ _ => ?_
                | with_reducible refine tame_bind tame_newRow fun _ _ => ?_
                | with_reducible refine tame_bind tame_newVar fun _ _ => ?_
                | with_reducible refine tame_bind tame_askRoom fun _ _ => ?_
                | with_reducible refine tame_bind tame_program fun _ _ => ?_
                | with_reducible exact tame_mapA tame_choose
                | with_reducible refine tame_bindA ?_ fun _ => ?_
                | dsimp only
                | split)
          clear_value jp
          refine tame_ite ?_ (hjp _)
          exact tame_bind (R := Any) tame_runtimePanic fun _ _ => hjp _
      | _ => exact tame_stuck
    | _ => exact tame_stuck
  | _ => exact tame_stuck
theorem tame_receiverAt {t : TypeId} {p : Place} {b : Bool} {w : Option String} : Tame C Any (receiverAt t p b w) := by
  unfold receiverAt
  refine tame_bind tame_underlying fun u _ => ?_
  split
  · exact tame_get
  · refine tame_bind tame_get fun _ _ => ?_
    split
    · exact tame_bind tame_ssaWrapNilChk fun _ _ => tame_bind tame_asAddr fun _ _ => tame_loadVar
    · exact tame_bind tame_pureA fun _ _ => tame_bind tame_asAddr fun _ _ => tame_loadVar
  · exact tame_pureA
  · exact tame_stuck
  · exact tame_get
theorem tame_method : ∀ {n : Nat} {t : TypeId} {v : Value} {name : String}, Tame C Any (method n t v name)
  | 0, _, _, _ => tame_unsup
  | n + 1, t, v, name => by
    unfold method
    refine tame_bind tame_typeInfo fun i _ => ?_
    cases i.methods.find? (·.name == name) with
    | none => exact tame_stuck
    | some m =>
      refine tame_bind tame_follow fun r _ => ?_
      obtain ⟨xt, x⟩ := r
      dsimp only
      cases m.func with
      | none =>
        refine tame_bind tame_get fun v _ => ?_
        cases v with
        | iface t' v' => exact tame_method
        | nilIface => exact tame_runtimePanic
        | _ => exact tame_stuck
      | some fb =>
        obtain ⟨f, b⟩ := fb
        exact tame_bind tame_receiverAt fun _ _ => tame_pureA
theorem tame_followBlind : ∀ {l : List FieldStep} {t : TypeId} {x : Option Value}, Tame C Any (followBlind l t x)
  | [], t, x => tame_pureA
  | s :: rest, t, x => by
    unfold followBlind
    refine tame_bind tame_underlying fun u _ => ?_
    cases u with
    | struct fields =>
      dsimp only
      cases fields[s.index]? with
      | none => exact tame_stuck
      | some f =>
        dsimp only
        split
        · exact tame_pureA
        · exact tame_followBlind
        · exact tame_stuck
        · exact tame_pureA
        · exact tame_bind tame_part fun _ _ => tame_followBlind
        · exact tame_stuck
        · exact tame_followBlind
    | _ => exact tame_stuck
theorem tame_nilAhead : ∀ {n : Nat} {t : TypeId} {v : Value} {name : String}, Tame C Any (nilAhead n t v name)
  | 0, _, _, _ => tame_pureA
  | n + 1, t, v, name => by
    unfold nilAhead
    refine tame_bind tame_typeInfo fun i _ => ?_
    cases i.methods.find? (·.name == name) with
    | none => exact tame_stuck
    | some m =>
      refine tame_bind tame_followBlind fun r _ => ?_
      cases r with
      | error r => exact tame_pureA
      | ok r =>
        obtain ⟨xt, x⟩ := r
        dsimp only
        split
        · exact tame_nilAhead
        · exact tame_pureA
        · exact tame_stuck
        · exact tame_pureA
        · exact tame_pureA
        · refine tame_bind tame_underlying fun u _ => ?_
          split <;> exact tame_pureA
end
end Go.Proofs.YthjofgmiabcifabGreatDoor.Lift
