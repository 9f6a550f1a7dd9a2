/-
  The stops of a worker.
  Conditions: as each theorem says.
-/
import Derived.Test.YthjofgmiabcifabGreatDoorPEv
import Derived.Test.YthjofgmiabcifabGreatDoorProg
import Derived.KernelRfl
set_option linter.unusedVariables false
set_option linter.unusedSimpArgs false
namespace Go.Proofs.YthjofgmiabcifabGreatDoor.Co
open Go Go.Conc Go.Proofs.YthjofgmiabcifabGreatDoor.Ev
/-- What is known of the program's functions. -/
def CC : Tab := ⟨[(100, .i32), (83, .u64)],
  [(43, fun _ => Sem.mark .disable (.pure Extern.Race.none_)), (44, fun _ => Sem.mark .enable (.pure Extern.Race.none_)), (42, Extern.Race.marked .releaseMerge), (55, Extern.Race.marked .acquire), (50, Extern.Race.marked .read), (58, Extern.Race.marked .write), (45, fun _ => Sem.pure (.bool false)), (60, Extern.Atomic.loadT (.int .u32)), (86, Extern.Atomic.storeT), (31, Extern.Atomic.update (Op.intArith .add) .i64 true), (33, Extern.Atomic.loadT (.int .i64)), (80, Extern.Atomic.update (Op.intArith .add) .u64 true), (81, Extern.Atomic.loadT (.int .u64)), (82, Extern.Atomic.storeT), (102, Extern.Atomic.update (Op.intArith .add) .i32 true), (115, Extern.Sync.canSpin), (116, Extern.Sync.nothing), (118, Extern.OsHooks.nano), (119, Extern.Sync.semacquire), (59, Extern.Sync.semacquire), (121, Extern.Sync.semrelease), (54, Extern.Sync.semrelease)],
  [5, 6, 7, 8, 9, 10, 11, 12, 13, 14, 15, 21, 22, 23, 24, 25, 26, 27, 28, 48, 49, 51, 52, 57, 61, 62, 63, 84, 85, 87, 101, 103]⟩
/-- Where the blocks lie. -/
structure Cx where
  On : Nat
  Sb : Nat
  Pa : Nat
  Md : Nat
  Oa : Nat
  Ob : Nat
  Fb : Nat
  Ch : Nat
  Nb : Nat
  Wg : Nat
abbrev ptr (b o : Nat) : Value := .pointer (some ⟨b, o, none⟩)
def dof (x : Cx) : Value := .func (.func 9) #[] #[ptr x.On 0, ptr x.Sb 0, ptr x.Pa 0, ptr x.Md 0, ptr x.Ob 0]
def st (P : Program) (m : Bool) (n : Nat) (g : Goroutine) (ans ans' : List Ans) : Goroutine := match gseg P CC m n g ans ans' with | some (_, h, _) => h | none => default
def qt (P : Program) (m : Bool) (n : Nat) (g : Goroutine) (ans' : List Ans) : Goroutine := match grun P CC m n g ans' with | some (h, _) => h | none => default
abbrev junk (g : Goroutine) : Nat → Value := fun k => g.frame.tmps.getD k undef
def cx0 : Cx := ⟨0, 0, 0, 0, 0, 0, 0, 0, 0, 0⟩
def J0 : Nat → Value := fun _ => undef
theorem ccOk : TabOk Tryz.prog CC := by
  refine ⟨fun f k h => ?_, fun f e h => ?_, fun f h => ?_⟩
  · simp only [CC, List.mem_cons, List.not_mem_nil, or_false, Prod.mk.injEq] at h
    rcases h with ⟨rfl, rfl⟩ | ⟨rfl, rfl⟩
    · exact ⟨_, Tryz.func100, by kernel_rfl, by kernel_rfl, by kernel_rfl, by kernel_rfl⟩
    · exact ⟨_, Tryz.func83, by kernel_rfl, by kernel_rfl, by kernel_rfl, by kernel_rfl⟩
  · simp only [CC, List.mem_cons, List.not_mem_nil, or_false, Prod.mk.injEq] at h
    rcases h with ⟨rfl, rfl⟩ | ⟨rfl, rfl⟩ | ⟨rfl, rfl⟩ | ⟨rfl, rfl⟩ | ⟨rfl, rfl⟩ | ⟨rfl, rfl⟩ | ⟨rfl, rfl⟩ | ⟨rfl, rfl⟩ | ⟨rfl, rfl⟩ | ⟨rfl, rfl⟩ | ⟨rfl, rfl⟩ | ⟨rfl, rfl⟩ | ⟨rfl, rfl⟩ | ⟨rfl, rfl⟩ | ⟨rfl, rfl⟩ | ⟨rfl, rfl⟩ | ⟨rfl, rfl⟩ | ⟨rfl, rfl⟩ | ⟨rfl, rfl⟩ | ⟨rfl, rfl⟩ | ⟨rfl, rfl⟩ | ⟨rfl, rfl⟩
    · exact ⟨_, Tryz.func43, by kernel_rfl, by kernel_rfl, by kernel_rfl, by kernel_rfl⟩
    · exact ⟨_, Tryz.func44, by kernel_rfl, by kernel_rfl, by kernel_rfl, by kernel_rfl⟩
    · exact ⟨_, Tryz.func42, by kernel_rfl, by kernel_rfl, by kernel_rfl, by kernel_rfl⟩
    · exact ⟨_, Tryz.func55, by kernel_rfl, by kernel_rfl, by kernel_rfl, by kernel_rfl⟩
    · exact ⟨_, Tryz.func50, by kernel_rfl, by kernel_rfl, by kernel_rfl, by kernel_rfl⟩
    · exact ⟨_, Tryz.func58, by kernel_rfl, by kernel_rfl, by kernel_rfl, by kernel_rfl⟩
    · exact ⟨_, Tryz.func45, by kernel_rfl, by kernel_rfl, by kernel_rfl, by kernel_rfl⟩
    · exact ⟨_, Tryz.func60, by kernel_rfl, by kernel_rfl, by kernel_rfl, by kernel_rfl⟩
    · exact ⟨_, Tryz.func86, by kernel_rfl, by kernel_rfl, by kernel_rfl, by kernel_rfl⟩
    · exact ⟨_, Tryz.func31, by kernel_rfl, by kernel_rfl, by kernel_rfl, by kernel_rfl⟩
    · exact ⟨_, Tryz.func33, by kernel_rfl, by kernel_rfl, by kernel_rfl, by kernel_rfl⟩
    · exact ⟨_, Tryz.func80, by kernel_rfl, by kernel_rfl, by kernel_rfl, by kernel_rfl⟩
    · exact ⟨_, Tryz.func81, by kernel_rfl, by kernel_rfl, by kernel_rfl, by kernel_rfl⟩
    · exact ⟨_, Tryz.func82, by kernel_rfl, by kernel_rfl, by kernel_rfl, by kernel_rfl⟩
    · exact ⟨_, Tryz.func102, by kernel_rfl, by kernel_rfl, by kernel_rfl, by kernel_rfl⟩
    · exact ⟨_, Tryz.func115, by kernel_rfl, by kernel_rfl, by kernel_rfl, by kernel_rfl⟩
    · exact ⟨_, Tryz.func116, by kernel_rfl, by kernel_rfl, by kernel_rfl, by kernel_rfl⟩
    · exact ⟨_, Tryz.func118, by kernel_rfl, by kernel_rfl, by kernel_rfl, by kernel_rfl⟩
    · exact ⟨_, Tryz.func119, by kernel_rfl, by kernel_rfl, by kernel_rfl, by kernel_rfl⟩
    · exact ⟨_, Tryz.func59, by kernel_rfl, by kernel_rfl, by kernel_rfl, by kernel_rfl⟩
    · exact ⟨_, Tryz.func121, by kernel_rfl, by kernel_rfl, by kernel_rfl, by kernel_rfl⟩
    · exact ⟨_, Tryz.func54, by kernel_rfl, by kernel_rfl, by kernel_rfl, by kernel_rfl⟩
  · simp only [CC, List.mem_cons, List.not_mem_nil, or_false] at h
    rcases h with rfl | rfl | rfl | rfl | rfl | rfl | rfl | rfl | rfl | rfl | rfl | rfl | rfl | rfl | rfl | rfl | rfl | rfl | rfl | rfl | rfl | rfl | rfl | rfl | rfl | rfl | rfl | rfl | rfl | rfl | rfl | rfl
    · exact ⟨_, Tryz.func5, by kernel_rfl, by kernel_rfl⟩
    · exact ⟨_, Tryz.func6, by kernel_rfl, by kernel_rfl⟩
    · exact ⟨_, Tryz.func7, by kernel_rfl, by kernel_rfl⟩
    · exact ⟨_, Tryz.func8, by kernel_rfl, by kernel_rfl⟩
    · exact ⟨_, Tryz.func9, by kernel_rfl, by kernel_rfl⟩
    · exact ⟨_, Tryz.func10, by kernel_rfl, by kernel_rfl⟩
    · exact ⟨_, Tryz.func11, by kernel_rfl, by kernel_rfl⟩
    · exact ⟨_, Tryz.func12, by kernel_rfl, by kernel_rfl⟩
    · exact ⟨_, Tryz.func13, by kernel_rfl, by kernel_rfl⟩
    · exact ⟨_, Tryz.func14, by kernel_rfl, by kernel_rfl⟩
    · exact ⟨_, Tryz.func15, by kernel_rfl, by kernel_rfl⟩
    · exact ⟨_, Tryz.func21, by kernel_rfl, by kernel_rfl⟩
    · exact ⟨_, Tryz.func22, by kernel_rfl, by kernel_rfl⟩
    · exact ⟨_, Tryz.func23, by kernel_rfl, by kernel_rfl⟩
    · exact ⟨_, Tryz.func24, by kernel_rfl, by kernel_rfl⟩
    · exact ⟨_, Tryz.func25, by kernel_rfl, by kernel_rfl⟩
    · exact ⟨_, Tryz.func26, by kernel_rfl, by kernel_rfl⟩
    · exact ⟨_, Tryz.func27, by kernel_rfl, by kernel_rfl⟩
    · exact ⟨_, Tryz.func28, by kernel_rfl, by kernel_rfl⟩
    · exact ⟨_, Tryz.func48, by kernel_rfl, by kernel_rfl⟩
    · exact ⟨_, Tryz.func49, by kernel_rfl, by kernel_rfl⟩
    · exact ⟨_, Tryz.func51, by kernel_rfl, by kernel_rfl⟩
    · exact ⟨_, Tryz.func52, by kernel_rfl, by kernel_rfl⟩
    · exact ⟨_, Tryz.func57, by kernel_rfl, by kernel_rfl⟩
    · exact ⟨_, Tryz.func61, by kernel_rfl, by kernel_rfl⟩
    · exact ⟨_, Tryz.func62, by kernel_rfl, by kernel_rfl⟩
    · exact ⟨_, Tryz.func63, by kernel_rfl, by kernel_rfl⟩
    · exact ⟨_, Tryz.func84, by kernel_rfl, by kernel_rfl⟩
    · exact ⟨_, Tryz.func85, by kernel_rfl, by kernel_rfl⟩
    · exact ⟨_, Tryz.func87, by kernel_rfl, by kernel_rfl⟩
    · exact ⟨_, Tryz.func101, by kernel_rfl, by kernel_rfl⟩
    · exact ⟨_, Tryz.func103, by kernel_rfl, by kernel_rfl⟩
/-- A worker as it is born. -/
def sBorn (P : Program) (x : Cx) : Goroutine := { frame := { (default : Frame) with fn := P.funcs.size, defers := [⟨.fn (.func 22) #[ptr x.Wg 0, ptr x.Nb 0, ptr x.Fb 0], #[]⟩], mode := .panicking [goexitEntry] }, callers := [], status := .running, dying := none }
def sLdN (P : Program) (x : Cx) : Goroutine := qt P false 6 (sBorn P x) []
theorem born_q (x : Cx) : grun Tryz.prog CC false 6 (sBorn Tryz.prog x) [] = some (sLdN Tryz.prog x, []) := by kernel_rfl
def sLdF (P : Program) (x : Cx) : Goroutine := st P false 0 (sLdN P x) [.val (.chan (some x.Ch))] []
theorem ldN_s (x : Cx) : gseg Tryz.prog CC false 0 (sLdN Tryz.prog x) [.val (.chan (some x.Ch))] [] = some ([.load .plain ⟨x.Nb, 0, none⟩ (.chan (some x.Ch))], sLdF Tryz.prog x, []) := by kernel_rfl
def sRcv (P : Program) (x : Cx) : Goroutine := st P false 7 (sLdF P x) [.val (dof x)] []
def todoRcv (P : Program)  : List Item := (sRcv P cx0).frame.todo
/-- At the receive. -/
def mkRcv (P : Program) (x : Cx) (J : Nat → Value) : Goroutine := on { fn := 24, tmps := #[.chan (some x.Ch), dof x, J 2, J 3, J 4, J 5, J 6, .chan (some x.Ch), J 8, J 9, J 10, J 11, J 12, J 13, J 14, J 15], todo := todoRcv P, defers := [], mode := .run, kind := .normal } (sRcv P x).callers
theorem ldF_s (x : Cx) : gseg Tryz.prog CC false 7 (sLdF Tryz.prog x) [.val (dof x)] [] = some ([.load .plain ⟨x.Fb, 0, none⟩ (dof x)], mkRcv Tryz.prog x (junk (sRcv Tryz.prog x)), []) := by kernel_rfl
theorem rcv_comm (x : Cx) (J : Nat → Value) : gcomm Tryz.prog (mkRcv Tryz.prog x J) = some (#[{ chan := .chan (some x.Ch), send := none, zero := .int .i64 0 }], true, .recv true) := by kernel_rfl
/-- An item has come. -/
def sGot (P : Program) (x : Cx) (J : Nat → Value) (i : Nat) : Goroutine := on ((mkRcv P x J).frame.finish (.tuple #[.int .i64 i, .bool true])) (mkRcv P x J).callers
/-- The channel is closed. -/
def sEnd (P : Program) (x : Cx) (J : Nat → Value) : Goroutine := on ((mkRcv P x J).frame.finish (.tuple #[.int .i64 0, .bool false])) (mkRcv P x J).callers
def sLd1 (P : Program) (x : Cx) (J : Nat → Value) (i : Nat) : Goroutine := qt P false 37 (sGot P x J i) [.bool false]
theorem got_q (x : Cx) (J : Nat → Value) (i : Nat) : grun Tryz.prog CC false 37 (sGot Tryz.prog x J i) [.bool false] = some (sLd1 Tryz.prog x J i, [.test (!true) false]) := by kernel_rfl
def sLdP (P : Program) (x : Cx) (J : Nat → Value) (i : Nat) : Goroutine := st P false 14 (sLd1 P x J i) [.val (.int .u32 1)] [.bool false]
theorem ld1_past (x : Cx) (J : Nat → Value) (i : Nat) : gseg Tryz.prog CC false 14 (sLd1 Tryz.prog x J i) [.val (.int .u32 1)] [.bool false] = some ([.mark (.extern 60), .load .atomic ⟨x.On, 0, none⟩ (.int .u32 1)], sLdP Tryz.prog x J i, [.test false false]) := by kernel_rfl
def sKd (P : Program) (x : Cx) (J : Nat → Value) (i : Nat) : Goroutine := st P false 25 (sLd1 P x J i) [.val (.int .u32 0)] [.bool true]
theorem ld1_new (x : Cx) (J : Nat → Value) (i : Nat) : gseg Tryz.prog CC false 25 (sLd1 Tryz.prog x J i) [.val (.int .u32 0)] [.bool true] = some ([.mark (.extern 60), .load .atomic ⟨x.On, 0, none⟩ (.int .u32 0)], sKd Tryz.prog x J i, [.test true true]) := by kernel_rfl
def sL0 (P : Program) (x : Cx) (J : Nat → Value) (i : Nat) : Goroutine := st P false 7 (sKd P x J i) [] []
theorem kd_s (x : Cx) (J : Nat → Value) (i : Nat) : gseg Tryz.prog CC false 7 (sKd Tryz.prog x J i) [] [] = some ([.mark (.extern 43), .mark .disable], sL0 Tryz.prog x J i, []) := by kernel_rfl
def sLeF (P : Program) (x : Cx) (J : Nat → Value) (i : Nat) : Goroutine := st P false 6 (sL0 P x J i) [.hit] [.bool true, .bool true]
theorem l0_hit (x : Cx) (J : Nat → Value) (i : Nat) : gseg Tryz.prog CC false 6 (sL0 Tryz.prog x J i) [.hit] [.bool true, .bool true] = some ([.mark (.extern 100), .hit .i32 ⟨x.On, 1, none⟩ 0 1], sLeF Tryz.prog x J i, [.test true true, .test true true]) := by kernel_rfl
def sR0 (P : Program) (x : Cx) (J : Nat → Value) (i : Nat) : Goroutine := st P false 27 (sL0 P x J i) [.miss 0] [.bool false]
theorem l0_miss (x : Cx) (J : Nat → Value) (i : Nat) (v : Int) : gseg Tryz.prog CC false 27 (sL0 Tryz.prog x J i) [.miss v] [.bool false] = some ([.mark (.extern 100), .miss .i32 ⟨x.On, 1, none⟩ v 0], sR0 Tryz.prog x J i, [.test false false]) := by kernel_rfl
def sLaF (P : Program) (x : Cx) (J : Nat → Value) (i : Nat) : Goroutine := st P false 4 (sLeF P x J i) [] [.shape (some (44, 3)), .shape (some (44, 3))]
theorem leF_s (x : Cx) (J : Nat → Value) (i : Nat) : gseg Tryz.prog CC false 4 (sLeF Tryz.prog x J i) [] [.shape (some (44, 3)), .shape (some (44, 3))] = some ([.mark (.extern 44), .mark .enable], sLaF Tryz.prog x J i, [.shape x.On (some (44, 3)), .shape x.On (some (44, 3))]) := by kernel_rfl
def sLd2 (P : Program) (x : Cx) (J : Nat → Value) (i : Nat) : Goroutine := st P false 29 (sLaF P x J i) [] []
theorem laF_s (x : Cx) (J : Nat → Value) (i : Nat) : gseg Tryz.prog CC false 29 (sLaF Tryz.prog x J i) [] [] = some ([.mark (.extern 55), .mark (.acquire ⟨x.On, 1, none⟩)], sLd2 Tryz.prog x J i, []) := by kernel_rfl
/-- doSlow on its way out: the lock is still to be let go. -/
def sRet (P : Program) (x : Cx) (J : Nat → Value) (i : Nat) (T : Array Value) (td : List Item) : Goroutine := on { fn := 28, tmps := T, todo := td, defers := [⟨.fn (.func 62) #[], #[ptr x.On 1]⟩], mode := .returning, kind := .normal } (sLd2 P x J i).callers.tail
def sLd2r (P : Program) (x : Cx) (J : Nat → Value) (i : Nat) : Goroutine := st P false 10 (sLd2 P x J i) [.val (.int .u32 1)] [.bool false]
theorem ld2_past (x : Cx) (J : Nat → Value) (i : Nat) : gseg Tryz.prog CC false 10 (sLd2 Tryz.prog x J i) [.val (.int .u32 1)] [.bool false] = some ([.mark (.extern 60), .load .atomic ⟨x.On, 0, none⟩ (.int .u32 1)], sRet Tryz.prog x J i (sLd2r Tryz.prog x J i).frame.tmps (sLd2r Tryz.prog x J i).frame.todo, [.test false false]) := by kernel_rfl
def sLdS (P : Program) (x : Cx) (J : Nat → Value) (i : Nat) : Goroutine := st P false 20 (sLd2 P x J i) [.val (.int .u32 0)] [.bool true]
theorem ld2_new (x : Cx) (J : Nat → Value) (i : Nat) : gseg Tryz.prog CC false 20 (sLd2 Tryz.prog x J i) [.val (.int .u32 0)] [.bool true] = some ([.mark (.extern 60), .load .atomic ⟨x.On, 0, none⟩ (.int .u32 0)], sLdS Tryz.prog x J i, [.test true true]) := by kernel_rfl
def sMk (P : Program) (x : Cx) (J : Nat → Value) (i : Nat) (sa : Option Addr) (sl sc : Nat) : Goroutine := st P false 1 (sLdS P x J i) [.val (.slice sa sl sc)] []
theorem ldS_s (x : Cx) (J : Nat → Value) (i : Nat) (sa : Option Addr) (sl sc : Nat) : gseg Tryz.prog CC false 1 (sLdS Tryz.prog x J i) [.val (.slice sa sl sc)] [] = some ([.load .plain ⟨x.Sb, 0, none⟩ (.slice sa sl sc)], on (Frame.enter Tryz.prog 12 #[.agg #[.slice sa sl sc]] .normal) (sMk Tryz.prog x J i sa sl sc).callers, []) := by kernel_rfl
/-- Made has come back. -/
def sMkR (P : Program) (x : Cx) (J : Nat → Value) (i : Nat) (sa : Option Addr) (sl sc : Nat) (pa : Addr) (pl pc : Nat) : Goroutine := on (((sMk P x J i sa sl sc).callers.headD default).finish (.tuple #[.slice (some pa) pl pc, .int .i64 0])) (sMk P x J i sa sl sc).callers.tail
theorem mk_callers (x : Cx) (J : Nat → Value) (i : Nat) (sa : Option Addr) (sl sc : Nat) : (sMk Tryz.prog x J i sa sl sc).callers = (sMk Tryz.prog x J i sa sl sc).callers.headD default :: (sMk Tryz.prog x J i sa sl sc).callers.tail := by kernel_rfl
def sStP (P : Program) (x : Cx) (J : Nat → Value) (i : Nat) (sa : Option Addr) (sl sc : Nat) (pa : Addr) (pl pc : Nat) : Goroutine := qt P false 3 (sMkR P x J i sa sl sc pa pl pc) []
theorem mk_q (x : Cx) (J : Nat → Value) (i : Nat) (sa : Option Addr) (sl sc : Nat) (pa : Addr) (pl pc : Nat) : grun Tryz.prog CC false 3 (sMkR Tryz.prog x J i sa sl sc pa pl pc) [] = some (sStP Tryz.prog x J i sa sl sc pa pl pc, []) := by kernel_rfl
def sAm (P : Program) (x : Cx) (J : Nat → Value) (i : Nat) (sa : Option Addr) (sl sc : Nat) (pa : Addr) (pl pc : Nat) : Goroutine := st P false 13 (sStP P x J i sa sl sc pa pl pc) [] []
theorem stP_s (x : Cx) (J : Nat → Value) (i : Nat) (sa : Option Addr) (sl sc : Nat) (pa : Addr) (pl pc : Nat) : gseg Tryz.prog CC false 13 (sStP Tryz.prog x J i sa sl sc pa pl pc) [] [] = some ([.store .plain ⟨x.Pa, 0, none⟩ (.slice (some pa) pl pc)], sAm Tryz.prog x J i sa sl sc pa pl pc, []) := by kernel_rfl
def sDrS (P : Program) (x : Cx) (J : Nat → Value) (i : Nat) (sa : Option Addr) (sl sc : Nat) (pa : Addr) (pl pc : Nat) : Goroutine := st P false 10 (sAm P x J i sa sl sc pa pl pc) [.val (.int .i64 0)] []
theorem am_s (x : Cx) (J : Nat → Value) (i : Nat) (sa : Option Addr) (sl sc : Nat) (pa : Addr) (pl pc : Nat) : gseg Tryz.prog CC false 10 (sAm Tryz.prog x J i sa sl sc pa pl pc) [.val (.int .i64 0)] [] = some ([.mark (.extern 31), .load .atomic ⟨x.Md, 0, none⟩ (.int .i64 0), .store .atomic ⟨x.Md, 0, none⟩ (.int .i64 1)], sDrS Tryz.prog x J i sa sl sc pa pl pc, []) := by kernel_rfl
def ops63 (P : Program)  : Array Oper := match (sDrS P cx0 J0 0 none 0 0 ⟨0, 0, none⟩ 0 0).frame.todo with | .code (.region _ ops _) :: _ => ops | _ => #[]
def mkSt (P : Program) (x : Cx) (J : Nat → Value) (i : Nat) (sa : Option Addr) (sl sc : Nat) (pa : Addr) (pl pc : Nat) (r : List Nat) : Goroutine := on { (sDrS P x J i sa sl sc pa pl pc).frame with todo := .inRegion (ops63 P) r :: (sDrS P x J i sa sl sc pa pl pc).frame.todo.tail } (sDrS P x J i sa sl sc pa pl pc).callers
theorem drS_s (x : Cx) (J : Nat → Value) (i : Nat) (sa : Option Addr) (sl sc : Nat) (pa : Addr) (pl pc : Nat) (t : Nat) : gseg Tryz.prog CC false 0 (sDrS Tryz.prog x J i sa sl sc pa pl pc) [.num t] [] = some ([.ask (.order 63 0) t], mkSt Tryz.prog x J i sa sl sc pa pl pc (Region.schedule (Tryz.prog.follows .mixedOrders) (ops63 Tryz.prog) t), []) := by kernel_rfl
def sStD (P : Program) (x : Cx) (J : Nat → Value) (i : Nat) (sa : Option Addr) (sl sc : Nat) (pa : Addr) (pl pc : Nat) : Goroutine := qt P false 21 (mkSt P x J i sa sl sc pa pl pc [0, 1, 2, 3, 4, 5]) [.bool true]
theorem drS_q0 (x : Cx) (J : Nat → Value) (i : Nat) (sa : Option Addr) (sl sc : Nat) (pa : Addr) (pl pc : Nat) : grun Tryz.prog CC false 21 (mkSt Tryz.prog x J i sa sl sc pa pl pc [0, 1, 2, 3, 4, 5]) [.bool true] = some (sStD Tryz.prog x J i sa sl sc pa pl pc, [.test true true]) := by kernel_rfl
theorem drS_q1 (x : Cx) (J : Nat → Value) (i : Nat) (sa : Option Addr) (sl sc : Nat) (pa : Addr) (pl pc : Nat) : grun Tryz.prog CC false 21 (mkSt Tryz.prog x J i sa sl sc pa pl pc [0, 1, 3, 2, 4, 5]) [.bool true] = some (sStD Tryz.prog x J i sa sl sc pa pl pc, [.test true true]) := by kernel_rfl
theorem drS_q2 (x : Cx) (J : Nat → Value) (i : Nat) (sa : Option Addr) (sl sc : Nat) (pa : Addr) (pl pc : Nat) : grun Tryz.prog CC false 21 (mkSt Tryz.prog x J i sa sl sc pa pl pc [0, 1, 3, 4, 2, 5]) [.bool true] = some (sStD Tryz.prog x J i sa sl sc pa pl pc, [.test true true]) := by kernel_rfl
theorem drS_q3 (x : Cx) (J : Nat → Value) (i : Nat) (sa : Option Addr) (sl sc : Nat) (pa : Addr) (pl pc : Nat) : grun Tryz.prog CC false 21 (mkSt Tryz.prog x J i sa sl sc pa pl pc [0, 3, 1, 2, 4, 5]) [.bool true] = some (sStD Tryz.prog x J i sa sl sc pa pl pc, [.test true true]) := by kernel_rfl
theorem drS_q4 (x : Cx) (J : Nat → Value) (i : Nat) (sa : Option Addr) (sl sc : Nat) (pa : Addr) (pl pc : Nat) : grun Tryz.prog CC false 21 (mkSt Tryz.prog x J i sa sl sc pa pl pc [0, 3, 1, 4, 2, 5]) [.bool true] = some (sStD Tryz.prog x J i sa sl sc pa pl pc, [.test true true]) := by kernel_rfl
theorem drS_q5 (x : Cx) (J : Nat → Value) (i : Nat) (sa : Option Addr) (sl sc : Nat) (pa : Addr) (pl pc : Nat) : grun Tryz.prog CC false 21 (mkSt Tryz.prog x J i sa sl sc pa pl pc [0, 3, 4, 1, 2, 5]) [.bool true] = some (sStD Tryz.prog x J i sa sl sc pa pl pc, [.test true true]) := by kernel_rfl
theorem drS_q6 (x : Cx) (J : Nat → Value) (i : Nat) (sa : Option Addr) (sl sc : Nat) (pa : Addr) (pl pc : Nat) : grun Tryz.prog CC false 21 (mkSt Tryz.prog x J i sa sl sc pa pl pc [3, 0, 1, 2, 4, 5]) [.bool true] = some (sStD Tryz.prog x J i sa sl sc pa pl pc, [.test true true]) := by kernel_rfl
theorem drS_q7 (x : Cx) (J : Nat → Value) (i : Nat) (sa : Option Addr) (sl sc : Nat) (pa : Addr) (pl pc : Nat) : grun Tryz.prog CC false 21 (mkSt Tryz.prog x J i sa sl sc pa pl pc [3, 0, 1, 4, 2, 5]) [.bool true] = some (sStD Tryz.prog x J i sa sl sc pa pl pc, [.test true true]) := by kernel_rfl
theorem drS_q8 (x : Cx) (J : Nat → Value) (i : Nat) (sa : Option Addr) (sl sc : Nat) (pa : Addr) (pl pc : Nat) : grun Tryz.prog CC false 21 (mkSt Tryz.prog x J i sa sl sc pa pl pc [3, 0, 4, 1, 2, 5]) [.bool true] = some (sStD Tryz.prog x J i sa sl sc pa pl pc, [.test true true]) := by kernel_rfl
theorem drS_q9 (x : Cx) (J : Nat → Value) (i : Nat) (sa : Option Addr) (sl sc : Nat) (pa : Addr) (pl pc : Nat) : grun Tryz.prog CC false 21 (mkSt Tryz.prog x J i sa sl sc pa pl pc [3, 4, 0, 1, 2, 5]) [.bool true] = some (sStD Tryz.prog x J i sa sl sc pa pl pc, [.test true true]) := by kernel_rfl
def sStDr (P : Program) (x : Cx) (J : Nat → Value) (i : Nat) (sa : Option Addr) (sl sc : Nat) (pa : Addr) (pl pc : Nat) : Goroutine := st P false 3 (sStD P x J i sa sl sc pa pl pc) [] []
theorem stD_s (x : Cx) (J : Nat → Value) (i : Nat) (sa : Option Addr) (sl sc : Nat) (pa : Addr) (pl pc : Nat) : gseg Tryz.prog CC false 3 (sStD Tryz.prog x J i sa sl sc pa pl pc) [] [] = some ([.mark (.extern 86), .store .atomic ⟨x.On, 0, none⟩ (.int .u32 1)], sRet Tryz.prog x J i (sStDr Tryz.prog x J i sa sl sc pa pl pc).frame.tmps (sStDr Tryz.prog x J i sa sl sc pa pl pc).frame.todo, []) := by kernel_rfl
end Go.Proofs.YthjofgmiabcifabGreatDoor.Co
