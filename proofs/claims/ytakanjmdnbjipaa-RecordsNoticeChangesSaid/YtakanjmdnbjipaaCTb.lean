/- The tables of the program's types and functions, and the equations of the functions' values: printed by a program of ours (gen.py), checked by the kernel. -/
import Derived.Test.YtakanjmdnbjipaaAbTab
import Derived.Test.YtakanjmdnbjipaaRows
import Derived.KernelRfl
set_option linter.unusedVariables false
set_option linter.unusedSimpArgs false
namespace Go.Proofs.Ytakanjmdnbjipaa
open Go.Ab
set_option maxRecDepth 100000
set_option linter.unusedVariables false
def tys : List (Nat × Ab.Ty × Nat × Nat) := [(3, .int .i64, 1, 17592186044416),
  (4, .bool, 1, 140737488355328),
  (5, .int .u8, 1, 140737488355328),
  (9, .str, 1, 8796093022208),
  (22, .sl 5, 1, 5864062014805),
  (24, .st [3, 3], 2, 8796093022208),
  (27, .sl 22, 1, 5864062014805),
  (32, .int .u64, 1, 17592186044416),
  (47, .fn [52] 4, 1, 17592186044416),
  (52, .fn [3, 22] 4, 1, 17592186044416)]
noncomputable def fns : List (Nat × Ab.Fn) := [(3, fnOf Try.f3 [] [] []),
  (4, fnOf Try.f4 [] [] []),
  (5, fnOf Try.f5 [] [] []),
  (6, fnOf Try.f6 [] [] []),
  (7, fnOf Try.f7 [] [] []),
  (8, fnOf Try.f8 [] [] []),
  (9, fnOf Try.f9 [] [] []),
  (10, fnOf Try.f10 [] [] []),
  (11, fnOf Try.f11 [] [] []),
  (12, fnOf Try.f12 [] [] []),
  (13, fnOf Try.f13 [] [] []),
  (14, fnOf Try.f14 [] [] []),
  (15, fnOf Try.f15 [] [] []),
  (16, fnOf Try.f16 [] [] []),
  (17, fnOf Try.f17 [] [] []),
  (18, fnOf Try.f18 [] [] []),
  (19, fnOf Try.f19 [] [] []),
  (20, fnOf Try.f20 [] [] []),
  (21, fnOf Try.f21 [] [] []),
  (22, fnOf Try.f22 [] [] [some true]),
  (23, fnOf Try.f23 [] [] []),
  (24, fnOf Try.f24 [] [] []),
  (25, fnOf Try.f25 [] [] []),
  (26, fnOf Try.f26 [] [] [some true]),
  (27, fnOf Try.f27 [] [] [some true]),
  (28, fnIt Try.f28 [22] 4),
  (29, fnOf Try.f29 [] [] []),
  (30, fnOf Try.f30 [] [] [])]
def lps : List (Nat × Nat × Ab.Tpl × Ab.Tpl) := [(8, 0, ⟨29, [(4, (.pb 5001 24 [(.i .i64), (.i .i64)])), (6, (.pb 5002 27 [(.ow 5003 22)])), (7, (.pb 5004 3 [(.i .i64)]))]⟩, ⟨29, [(4, (.pb 6001 24 [(.i .i64), (.i .i64)])), (6, (.pb 6002 27 [(.ow 6003 22)])), (7, (.pb 6004 3 [(.i .i64)]))]⟩),
  (11, 0, ⟨22, [(3, (.i .u64)), (6, (.sl 5)), (7, (.i .i64)), (8, (.i .i64))]⟩, ⟨22, [(3, (.i .u64))]⟩),
  (12, 0, ⟨24, [(0, (.sl 5)), (3, (.i .u64)), (4, (.i .i64))]⟩, ⟨24, [(3, (.i .u64))]⟩),
  (14, 0, ⟨66, [(0, (.sl 5)), (4, (.ow 5001 22)), (5, (.i .i64))]⟩, ⟨66, [(4, (.ow 6001 22)), (5, (.i .i64))]⟩),
  (15, 0, ⟨27, [(0, (.sl 22)), (1, (.sl 22)), (5, (.i .i64))]⟩, ⟨27, []⟩),
  (18, 0, ⟨36, [(3, (.ow 5001 5)), (4, (.i .u64)), (5, (.i .u64)), (6, (.i .i64))]⟩, ⟨36, [(3, (.ow 6001 5))]⟩),
  (21, 0, ⟨11, [(3, (.pb 5001 3 [(.i .i64)]))]⟩, ⟨11, [(3, (.pb 6001 3 [(.i .i64)]))]⟩),
  (22, 0, ⟨36, [(0, (.sl 22)), (3, (.i .i64)), (9, (.sl 22)), (10, (.i .i64)), (11, (.i .i64))]⟩, ⟨36, [(0, (.sl 22)), (3, (.i .i64))]⟩),
  (22, 2, ⟨36, [(6, (.ow 5001 5)), (25, (.sl 22)), (26, (.i .i64)), (27, (.i .i64))]⟩, ⟨36, [(6, (.ow 6001 5))]⟩),
  (27, 0, ⟨27, [(0, (.i .i64)), (1, (.i .u64)), (5, (.ow 5001 5)), (10, (.i .i64)), (11, (.i .i64))]⟩, ⟨27, [(5, (.ow 6001 5))]⟩),
  (28, 0, ⟨25, [(1, (.rp 22)), (3, (.i .i64))]⟩, ⟨25, []⟩),
  (30, 0, ⟨26, [(0, (.sl 5)), (1, (.sl 5)), (12, (.i .i64)), (13, (.i .i64))]⟩, ⟨26, []⟩)]
def jns : List (Nat × Nat × Ab.Tpl) := [(3, 101, ⟨138, [(0, (.sl 5)), (1, (.sl 5)), (5, (.sl 5)), (6, (.pb 7001 24 [(.i .i64), (.i .i64)])), (12, (.pb 7002 24 [(.i .i64), (.i .i64)]))]⟩),
  (3, 105, ⟨138, [(0, (.sl 5)), (1, (.sl 5)), (5, (.sl 5)), (6, (.pb 7001 24 [(.i .i64), (.i .i64)])), (12, (.pb 7002 24 [(.i .i64), (.i .i64)]))]⟩),
  (3, 113, ⟨138, [(0, (.sl 5)), (1, (.sl 5)), (5, (.sl 5)), (6, (.pb 7001 24 [(.i .i64), (.i .i64)])), (12, (.pb 7002 24 [(.i .i64), (.i .i64)]))]⟩),
  (7, 9, ⟨45, [(0, (.sl 5)), (1, (.sl 5)), (5, (.pb 7001 24 [(.i .i64), (.i .i64)])), (6, (.pb 7002 24 [(.i .i64), (.i .i64)]))]⟩),
  (7, 13, ⟨45, [(0, (.sl 5)), (1, (.sl 5)), (5, (.pb 7001 24 [(.i .i64), (.i .i64)])), (6, (.pb 7002 24 [(.i .i64), (.i .i64)]))]⟩),
  (7, 20, ⟨45, [(0, (.sl 5)), (1, (.sl 5)), (5, (.pb 7001 24 [(.i .i64), (.i .i64)])), (6, (.pb 7002 24 [(.i .i64), (.i .i64)]))]⟩),
  (7, 25, ⟨45, [(0, (.sl 5)), (1, (.sl 5)), (5, (.pb 7001 24 [(.i .i64), (.i .i64)])), (6, (.pb 7002 24 [(.i .i64), (.i .i64)]))]⟩),
  (22, 20, ⟨36, [(0, (.sl 22)), (3, (.i .i64)), (9, (.sl 22)), (10, (.i .i64)), (11, (.i .i64))]⟩)]
def prs : List (Nat × (List U → Option U)) := [(26, Go.Ab.growU 140737488355328)]
def spl : List (Nat × Nat) := [(3, 22), (10, 1)]
def its : List (Nat × List Nat) := [(28, [3, 22])]
noncomputable def T : Tab := ⟨tys, fns, lps, jns, prs, spl, its⟩
noncomputable def K : Ctx := T.ctx
theorem K_ok : CtxOk Try.prog K := Tab.ok (by kernel_rfl) (by kernel_rfl)
theorem K_zok : ZeroOk Try.prog K := Tab.zok (by kernel_rfl)
theorem K_lok : LimOk Try.prog K := Tab.lok (by kernel_rfl)
theorem K_fns : FnsOk Try.prog fns := ⟨fn1 Try.func3 (by kernel_rfl) (by kernel_rfl), fn1 Try.func4 (by kernel_rfl) (by kernel_rfl), fn1 Try.func5 (by kernel_rfl) (by kernel_rfl), fn1 Try.func6 (by kernel_rfl) (by kernel_rfl), fn1 Try.func7 (by kernel_rfl) (by kernel_rfl), fn1 Try.func8 (by kernel_rfl) (by kernel_rfl), fn1 Try.func9 (by kernel_rfl) (by kernel_rfl), fn1 Try.func10 (by kernel_rfl) (by kernel_rfl), fn1 Try.func11 (by kernel_rfl) (by kernel_rfl), fn1 Try.func12 (by kernel_rfl) (by kernel_rfl), fn1 Try.func13 (by kernel_rfl) (by kernel_rfl), fn1 Try.func14 (by kernel_rfl) (by kernel_rfl), fn1 Try.func15 (by kernel_rfl) (by kernel_rfl), fn1 Try.func16 (by kernel_rfl) (by kernel_rfl), fn1 Try.func17 (by kernel_rfl) (by kernel_rfl), fn1 Try.func18 (by kernel_rfl) (by kernel_rfl), fn1 Try.func19 (by kernel_rfl) (by kernel_rfl), fn1 Try.func20 (by kernel_rfl) (by kernel_rfl), fn1 Try.func21 (by kernel_rfl) (by kernel_rfl), fn1 Try.func22 (by kernel_rfl) (by kernel_rfl), fn1 Try.func23 (by kernel_rfl) (by kernel_rfl), fn1 Try.func24 (by kernel_rfl) (by kernel_rfl), fn1 Try.func25 (by kernel_rfl) (by kernel_rfl), fn1 Try.func26 (by kernel_rfl) (by kernel_rfl), fn1 Try.func27 (by kernel_rfl) (by kernel_rfl), fn1i Try.func28 (by kernel_rfl) (by kernel_rfl), fn1 Try.func29 (by kernel_rfl) (by kernel_rfl), fn1 Try.func30 (by kernel_rfl) (by kernel_rfl), trivial⟩
theorem K_fok : FnOk Try.prog K := Tab.fok K_fns
end Go.Proofs.Ytakanjmdnbjipaa
