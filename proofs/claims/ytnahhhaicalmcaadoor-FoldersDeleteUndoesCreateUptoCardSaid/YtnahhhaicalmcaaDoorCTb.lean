/- The tables of the program's types and functions, and the equations of the functions' values: printed by a program of ours (gen.py), checked by the kernel. -/
import Derived.Test.YtnahhhaicalmcaaDoorAbLib
import Derived.Test.YtnahhhaicalmcaaDoorRows
import Derived.KernelRfl
set_option linter.unusedVariables false
set_option linter.unusedSimpArgs false
namespace Go.Proofs.YtnahhhaicalmcaaDoor
open Go.Ab
set_option maxRecDepth 100000
set_option linter.unusedVariables false
def tys : List (Nat × Ab.Ty × Nat × Nat) := [(3, .int .i64, 1, 17592186044416),
  (4, .bool, 1, 140737488355328),
  (5, .int .u8, 1, 140737488355328),
  (9, .str, 1, 8796093022208),
  (21, .int .i32, 1, 35184372088832),
  (22, .sl 9, 1, 5864062014805),
  (24, .st [3, 3], 2, 8796093022208),
  (35, .fn [9] 4, 1, 17592186044416),
  (51, .sl 4, 1, 5864062014805),
  (53, .int .u64, 1, 17592186044416)]
noncomputable def fns : List (Nat × Ab.Fn) := [(3, fnOf Tryd.f3 [] [] []),
  (4, fnOf Tryd.f4 [] [] []),
  (5, fnOf Tryd.f5 [] [] []),
  (6, fnOf Tryd.f6 [] [] []),
  (7, fnOf Tryd.f7 [] [] []),
  (8, fnOf Tryd.f8 [] [] []),
  (9, fnOf Tryd.f9 [] [] []),
  (10, fnOf Tryd.f10 [] [] []),
  (11, fnOf Tryd.f11 [] [] []),
  (12, fnOf Tryd.f12 [] [] []),
  (13, fnOf Tryd.f13 [] [] []),
  (14, fnOf Tryd.f14 [] [] []),
  (15, fnOf Tryd.f15 [] [] []),
  (16, fnOf Tryd.f16 [] [] []),
  (17, fnOf Tryd.f17 [] [] []),
  (18, fnOf Tryd.f18 [] [] []),
  (19, fnOf Tryd.f19 [] [some true, none] [some true]),
  (20, fnOf Tryd.f20 [] [] [some true]),
  (21, fnOf Tryd.f21 [] [] []),
  (22, fnOf Tryd.f22 [9] [] []),
  (23, fnOf Tryd.f23 [] [] []),
  (24, fnOf Tryd.f24 [] [some true, none] [some true]),
  (25, fnOf Tryd.f25 [9] [] []),
  (26, fnOf Tryd.f26 [] [] []),
  (27, fnOf Tryd.f27 [9] [] []),
  (28, fnOf Tryd.f28 [] [] []),
  (29, fnOf Tryd.f29 [] [] []),
  (30, fnOf Tryd.f30 [] [] []),
  (31, fnOf Tryd.f31 [] [] []),
  (32, fnOf Tryd.f32 [] [] []),
  (33, fnOf Tryd.f33 [] [] []),
  (34, fnOf Tryd.f34 [] [] []),
  (35, fnOf Tryd.f35 [] [some true, none, some true] [some true]),
  (36, fnOf Tryd.f36 [] [some true] [some true]),
  (37, fnOf Tryd.f37 [] [] []),
  (38, fnOf Tryd.f38 [] [] []),
  (39, fnOf Tryd.f39 [] [] []),
  (40, fnOf Tryd.f40 [9] [] []),
  (41, fnOf Tryd.f41 [] [] []),
  (42, fnOf Tryd.f42 [] [] []),
  (43, fnOf Tryd.f43 [] [] []),
  (46, fnOf Tryd.f46 [] [] []),
  (47, fnOf Tryd.f47 [] [] []),
  (48, fnOf Tryd.f48 [] [] []),
  (49, fnOf Tryd.f49 [] [] []),
  (50, fnOf Tryd.f50 [] [] []),
  (51, fnOf Tryd.f51 [] [] []),
  (53, fnOf Tryd.f53 [] [] []),
  (54, fnOf Tryd.f54 [] [] []),
  (55, fnOf Tryd.f55 [] [] [])]
def lps : List (Nat × Nat × Ab.Tpl × Ab.Tpl) := [(8, 1, ⟨79, [(2, .s), (4, (.pb 5001 9 [.s])), (7, (.pb 5002 24 [(.i .i64), (.i .i64)])), (9, (.ow 5003 9)), (51, (.sl 9)), (52, (.i .i64)), (53, (.i .i64))]⟩, ⟨79, [(7, (.pb 6001 24 [(.i .i64), (.i .i64)])), (9, (.ow 6002 9))]⟩),
  (10, 0, ⟨55, [(0, (.sl 9)), (2, (.pb 5001 24 [(.i .i64), (.i .i64)])), (9, (.sl 9)), (10, (.i .i64)), (11, (.i .i64))]⟩, ⟨55, [(0, (.sl 9)), (2, (.pb 6001 24 [(.i .i64), (.i .i64)]))]⟩),
  (11, 0, ⟨18, [(0, .s), (3, (.i .i64))]⟩, ⟨18, []⟩),
  (12, 0, ⟨18, [(0, (.sl 9)), (1, .s), (5, (.i .i64))]⟩, ⟨18, []⟩),
  (13, 0, ⟨12, [(0, .s), (1, .s)]⟩, ⟨12, []⟩),
  (14, 0, ⟨26, [(0, (.sl 9)), (1, (.sl 9)), (5, (.i .i64))]⟩, ⟨26, []⟩),
  (19, 0, ⟨26, [(0, (.ow 5001 9)), (1, .s)]⟩, ⟨26, [(0, (.ow 6001 9))]⟩),
  (24, 0, ⟨42, [(0, (.ow 5001 9)), (1, (.fn 35)), (5, (.i .i64)), (6, (.i .i64))]⟩, ⟨42, [(0, (.ow 6001 9)), (5, (.i .i64))]⟩),
  (29, 0, ⟨84, [(0, .s), (1, .s), (5, (.ow 5001 4)), (17, (.i .i64)), (18, (.i .i64))]⟩, ⟨84, [(1, .s), (5, (.ow 6001 4))]⟩),
  (29, 2, ⟨84, [(0, .s), (1, .s), (5, (.ow 5001 4)), (7, (.i .u8)), (8, (.i .i64)), (17, (.i .i64)), (18, (.i .i64))]⟩, ⟨84, [(0, .s), (1, .s), (5, (.ow 6001 4)), (17, (.i .i64)), (18, (.i .i64))]⟩),
  (29, 4, ⟨84, [(0, .s), (1, .s), (5, (.ow 5001 4)), (7, (.i .u8)), (17, (.i .i64)), (18, (.i .i64)), (55, (.i .i64)), (56, (.i .i64))]⟩, ⟨84, [(0, .s), (1, .s), (5, (.ow 6001 4)), (17, (.i .i64)), (18, (.i .i64))]⟩),
  (32, 0, ⟨57, [(0, .s), (6, (.i .i64)), (7, (.i .i64))]⟩, ⟨57, [(0, .s)]⟩),
  (33, 0, ⟨19, [(0, (.sl 9)), (1, .s), (7, (.i .i64)), (8, (.i .i64))]⟩, ⟨19, []⟩),
  (34, 0, ⟨54, [(0, (.sl 9)), (1, .s), (6, (.i .i64)), (7, (.i .i64)), (8, (.i .i64))]⟩, ⟨54, [(0, (.sl 9)), (1, .s), (6, (.i .i64)), (7, (.i .i64))]⟩),
  (37, 0, ⟨19, [(0, (.sl 9)), (1, (.fn 35)), (7, (.i .i64)), (8, (.i .i64))]⟩, ⟨19, []⟩),
  (41, 0, ⟨66, [(0, .s), (1, .s), (2, (.i .i64)), (3, (.i .i64)), (9, (.ow 5001 9)), (10, (.i .i64))]⟩, ⟨66, [(0, .s), (9, (.ow 6001 9)), (10, (.i .i64))]⟩),
  (46, 0, ⟨19, [(0, .s), (1, (.i .u8)), (5, (.i .i64))]⟩, ⟨19, []⟩),
  (48, 0, ⟨50, [(0, .s), (1, (.i .i64)), (6, (.ow 5001 9)), (7, (.i .i64))]⟩, ⟨50, [(0, .s), (1, (.i .i64)), (6, (.ow 6001 9))]⟩)]
def jns : List (Nat × Nat × Ab.Tpl) := [(6, 9, ⟨34, [(0, (.sl 9)), (1, .s), (5, (.pb 7001 24 [(.i .i64), (.i .i64)])), (6, (.pb 7002 24 [(.i .i64), (.i .i64)]))]⟩),
  (6, 13, ⟨34, [(0, (.sl 9)), (1, .s), (5, (.pb 7001 24 [(.i .i64), (.i .i64)])), (6, (.pb 7002 24 [(.i .i64), (.i .i64)]))]⟩),
  (6, 18, ⟨34, [(0, (.sl 9)), (1, .s), (5, (.pb 7001 24 [(.i .i64), (.i .i64)])), (6, (.pb 7002 24 [(.i .i64), (.i .i64)]))]⟩),
  (7, 9, ⟨37, [(0, (.sl 9)), (3, (.pb 7001 9 [.s])), (5, (.pb 7002 24 [(.i .i64), (.i .i64)])), (6, (.pb 7003 24 [(.i .i64), (.i .i64)]))]⟩),
  (7, 13, ⟨37, [(0, (.sl 9)), (3, (.pb 7001 9 [.s])), (5, (.pb 7002 24 [(.i .i64), (.i .i64)])), (6, (.pb 7003 24 [(.i .i64), (.i .i64)]))]⟩),
  (7, 19, ⟨37, [(0, (.sl 9)), (3, (.pb 7001 9 [.s])), (5, (.pb 7002 24 [(.i .i64), (.i .i64)])), (6, (.pb 7003 24 [(.i .i64), (.i .i64)]))]⟩),
  (8, 14, ⟨79, [(0, (.sl 9)), (2, .s), (4, (.pb 7001 9 [.s])), (7, (.pb 7002 24 [(.i .i64), (.i .i64)])), (8, (.pb 7003 24 [(.i .i64), (.i .i64)]))]⟩),
  (8, 18, ⟨79, [(0, (.sl 9)), (2, .s), (4, (.pb 7001 9 [.s])), (7, (.pb 7002 24 [(.i .i64), (.i .i64)])), (8, (.pb 7003 24 [(.i .i64), (.i .i64)]))]⟩),
  (8, 24, ⟨79, [(0, (.sl 9)), (2, .s), (4, (.pb 7001 9 [.s])), (7, (.pb 7002 24 [(.i .i64), (.i .i64)])), (8, (.pb 7003 24 [(.i .i64), (.i .i64)]))]⟩),
  (8, 28, ⟨79, [(0, (.sl 9)), (2, .s), (4, (.pb 7001 9 [.s])), (7, (.pb 7002 24 [(.i .i64), (.i .i64)])), (8, (.pb 7003 24 [(.i .i64), (.i .i64)]))]⟩),
  (8, 33, ⟨79, [(0, (.sl 9)), (2, .s), (4, (.pb 7001 9 [.s])), (7, (.pb 7002 24 [(.i .i64), (.i .i64)])), (8, (.pb 7003 24 [(.i .i64), (.i .i64)]))]⟩),
  (8, 38, ⟨79, [(0, (.sl 9)), (2, .s), (4, (.pb 7001 9 [.s])), (7, (.pb 7002 24 [(.i .i64), (.i .i64)])), (8, (.pb 7003 24 [(.i .i64), (.i .i64)]))]⟩),
  (19, 18, ⟨26, [(0, (.ow 7001 9)), (1, .s)]⟩),
  (24, 29, ⟨42, [(0, (.ow 7001 9)), (1, (.fn 35)), (5, (.i .i64)), (6, (.i .i64))]⟩),
  (28, 16, ⟨27, [(0, (.sl 9)), (3, (.pb 7001 9 [.s])), (5, (.pb 7002 24 [(.i .i64), (.i .i64)])), (6, (.pb 7003 24 [(.i .i64), (.i .i64)]))]⟩),
  (29, 72, ⟨84, [(0, .s), (1, .s), (5, (.ow 7001 4)), (7, (.i .u8)), (17, (.i .i64)), (18, (.i .i64)), (55, (.i .i64)), (56, (.i .i64))]⟩),
  (34, 27, ⟨54, [(0, (.sl 9)), (1, .s), (6, (.i .i64)), (7, (.i .i64)), (8, (.i .i64))]⟩),
  (41, 20, ⟨66, [(0, .s), (1, .s), (2, (.i .i64)), (3, (.i .i64))]⟩),
  (48, 18, ⟨50, [(0, .s), (1, (.i .i64))]⟩),
  (48, 43, ⟨50, [(6, (.ow 7001 9))]⟩)]
noncomputable def prs : List (Nat × ((Nat → List U → Option U) → List U → Option U)) := [(35, fun _ => insertU 8796093022208),
  (36, fun _ => clipU),
  (49, fun _ => countU),
  (50, fun _ => indexU)]
noncomputable def xfs : List (Nat × Ab.Fn) := []
def spl : List (Nat × Nat) := [(9, 5)]
def its : List (Nat × List Nat) := []
noncomputable def T : Tab := ⟨tys, fns, lps, jns, prs, spl, its, xfs⟩
noncomputable def K : Ctx := T.ctx
theorem K_ok : CtxOk Tryd.prog K := Tab.ok (by kernel_rfl) (by kernel_rfl)
theorem K_zok : ZeroOk Tryd.prog K := Tab.zok (by kernel_rfl)
theorem K_lok : LimOk Tryd.prog K := Tab.lok (by kernel_rfl)
theorem K_fns : FnsOk Tryd.prog fns := ⟨fn1 Tryd.func3 (by kernel_rfl) (by kernel_rfl), fn1 Tryd.func4 (by kernel_rfl) (by kernel_rfl), fn1 Tryd.func5 (by kernel_rfl) (by kernel_rfl), fn1 Tryd.func6 (by kernel_rfl) (by kernel_rfl), fn1 Tryd.func7 (by kernel_rfl) (by kernel_rfl), fn1 Tryd.func8 (by kernel_rfl) (by kernel_rfl), fn1 Tryd.func9 (by kernel_rfl) (by kernel_rfl), fn1 Tryd.func10 (by kernel_rfl) (by kernel_rfl), fn1 Tryd.func11 (by kernel_rfl) (by kernel_rfl), fn1 Tryd.func12 (by kernel_rfl) (by kernel_rfl), fn1 Tryd.func13 (by kernel_rfl) (by kernel_rfl), fn1 Tryd.func14 (by kernel_rfl) (by kernel_rfl), fn1 Tryd.func15 (by kernel_rfl) (by kernel_rfl), fn1 Tryd.func16 (by kernel_rfl) (by kernel_rfl), fn1 Tryd.func17 (by kernel_rfl) (by kernel_rfl), fn1 Tryd.func18 (by kernel_rfl) (by kernel_rfl), fn1 Tryd.func19 (by kernel_rfl) (by kernel_rfl), fn1 Tryd.func20 (by kernel_rfl) (by kernel_rfl), fn1 Tryd.func21 (by kernel_rfl) (by kernel_rfl), fn1 Tryd.func22 (by kernel_rfl) (by kernel_rfl), fn1 Tryd.func23 (by kernel_rfl) (by kernel_rfl), fn1 Tryd.func24 (by kernel_rfl) (by kernel_rfl), fn1 Tryd.func25 (by kernel_rfl) (by kernel_rfl), fn1 Tryd.func26 (by kernel_rfl) (by kernel_rfl), fn1 Tryd.func27 (by kernel_rfl) (by kernel_rfl), fn1 Tryd.func28 (by kernel_rfl) (by kernel_rfl), fn1 Tryd.func29 (by kernel_rfl) (by kernel_rfl), fn1 Tryd.func30 (by kernel_rfl) (by kernel_rfl), fn1 Tryd.func31 (by kernel_rfl) (by kernel_rfl), fn1 Tryd.func32 (by kernel_rfl) (by kernel_rfl), fn1 Tryd.func33 (by kernel_rfl) (by kernel_rfl), fn1 Tryd.func34 (by kernel_rfl) (by kernel_rfl), fn1 Tryd.func35 (by kernel_rfl) (by kernel_rfl), fn1 Tryd.func36 (by kernel_rfl) (by kernel_rfl), fn1 Tryd.func37 (by kernel_rfl) (by kernel_rfl), fn1 Tryd.func38 (by kernel_rfl) (by kernel_rfl), fn1 Tryd.func39 (by kernel_rfl) (by kernel_rfl), fn1 Tryd.func40 (by kernel_rfl) (by kernel_rfl), fn1 Tryd.func41 (by kernel_rfl) (by kernel_rfl), fn1 Tryd.func42 (by kernel_rfl) (by kernel_rfl), fn1 Tryd.func43 (by kernel_rfl) (by kernel_rfl), fn1 Tryd.func46 (by kernel_rfl) (by kernel_rfl), fn1 Tryd.func47 (by kernel_rfl) (by kernel_rfl), fn1 Tryd.func48 (by kernel_rfl) (by kernel_rfl), fn1 Tryd.func49 (by kernel_rfl) (by kernel_rfl), fn1 Tryd.func50 (by kernel_rfl) (by kernel_rfl), fn1 Tryd.func51 (by kernel_rfl) (by kernel_rfl), fn1 Tryd.func53 (by kernel_rfl) (by kernel_rfl), fn1 Tryd.func54 (by kernel_rfl) (by kernel_rfl), fn1 Tryd.func55 (by kernel_rfl) (by kernel_rfl), trivial⟩
theorem K_xfs : FnsOk Tryd.prog xfs := trivial
theorem K_fok : FnOk Tryd.prog K := Tab.fok K_fns K_xfs
end Go.Proofs.YtnahhhaicalmcaaDoor
