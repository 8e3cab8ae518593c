/- The tables of the program's types and functions, and the equations of the functions' values: printed by a program of ours (gen.py), checked by the kernel. -/
import Derived.Test.YtbppeodcnkghpaaAbSort
import Derived.Test.YtbppeodcnkghpaaRows
import Derived.KernelRfl
set_option linter.unusedVariables false
set_option linter.unusedSimpArgs false
namespace Go.Proofs.Ytbppeodcnkghpaa
open Go.Ab
set_option maxRecDepth 100000
set_option linter.unusedVariables false
def tys : List (Nat × Ab.Ty × Nat × Nat) := [(3, .int .i64, 1, 17592186044416),
  (4, .bool, 1, 140737488355328),
  (9, .str, 1, 8796093022208),
  (22, .sl 39, 1, 5864062014805),
  (23, .sl 3, 1, 5864062014805),
  (25, .st [3, 3], 2, 8796093022208),
  (37, .sl 9, 1, 5864062014805),
  (39, .st [9, 37, 3], 3, 2932031007402),
  (46, .fn [3, 3] 3, 1, 17592186044416),
  (47, .fn [3, 3] 0, 1, 17592186044416),
  (50, .map 9 3 4, 1, 17592186044416),
  (52, .fn [62] 4, 1, 17592186044416),
  (61, .fn [39] 4, 1, 17592186044416),
  (62, .fn [3, 9] 4, 1, 17592186044416)]
noncomputable def fns : List (Nat × Ab.Fn) := [(3, fnOf Try.f3 [] [] []),
  (4, fnOf Try.f4 [] [] []),
  (5, fnOf Try.f5 [] [] []),
  (6, fnOf Try.f6 [] [] []),
  (7, fnOf Try.f7 [] [] []),
  (8, fnOf Try.f8 [] [] []),
  (9, fnOf Try.f9 [] [] []),
  (10, fnOf Try.f10 [] [] []),
  (11, fnOf Try.f11 [] [] []),
  (12, fnOf Try.f12 [] [] []),
  (13, fnOf Try.f13 [] [] []),
  (14, fnOf Try.f14 [] [] []),
  (15, fnOf Try.f15 [] [] []),
  (16, fnOf Try.f16 [] [] []),
  (17, fnOf Try.f17 [] [] [some true]),
  (19, fnOf Try.f19 [22] [] []),
  (20, fnOf Try.f20 [] [] []),
  (22, fnOf Try.f22 [] [] []),
  (23, fnOf Try.f23 [] [] []),
  (24, fnOf Try.f24 [] [] []),
  (25, fnOf Try.f25 [] [] []),
  (28, fnOf Try.f28 [] [] []),
  (29, fnOf Try.f29 [] [] []),
  (30, fnOf Try.f30 [] [] []),
  (31, fnOf Try.f31 [] [] []),
  (32, fnOf Try.f32 [39] [] []),
  (33, fnIt Try.f33 [37] 4),
  (44, fnOf Try.f44 [] [] []),
  (45, fnOf Try.f45 [] [] []),
  (46, fnOf Try.f46 [] [] [])]
def lps : List (Nat × Nat × Ab.Tpl × Ab.Tpl) := [(3, 0, ⟨91, [(0, (.sl 39)), (3, (.sl 3)), (5, (.sl 3)), (6, (.sl 3)), (9, (.i .i64))]⟩, ⟨91, [(0, (.sl 39)), (5, (.sl 3)), (6, (.sl 3))]⟩),
  (4, 0, ⟨103, [(0, (.sl 39)), (3, (.ow 5001 39)), (4, (.i .i64))]⟩, ⟨103, [(0, (.sl 39)), (3, (.ow 6001 39))]⟩),
  (4, 2, ⟨103, [(0, (.sl 39)), (5, (.sl 3)), (8, (.sl 3)), (11, (.i .i64))]⟩, ⟨103, []⟩),
  (5, 0, ⟨147, [(0, (.sl 39)), (3, (.sl 3)), (5, (.sl 3)), (6, (.sl 3)), (8, (.ow 5001 3)), (9, (.i .i64))]⟩, ⟨147, [(0, (.sl 39)), (3, (.sl 3)), (5, (.sl 3)), (6, (.sl 3)), (8, (.ow 6001 3))]⟩),
  (5, 2, ⟨147, [(0, (.sl 39)), (3, (.sl 3)), (5, (.sl 3)), (6, (.sl 3)), (8, (.ow 5001 3)), (10, (.i .i64))]⟩, ⟨147, []⟩),
  (6, 0, ⟨71, [(0, (.sl 39)), (5, (.sl 3)), (6, (.pb 5001 25 [(.i .i64), (.i .i64)])), (8, (.sl 3)), (9, (.pb 5002 25 [(.i .i64), (.i .i64)])), (10, (.i .i64))]⟩, ⟨71, [(0, (.sl 39)), (5, (.sl 3)), (6, (.pb 6001 25 [(.i .i64), (.i .i64)])), (8, (.sl 3)), (9, (.pb 6002 25 [(.i .i64), (.i .i64)]))]⟩),
  (8, 0, ⟨40, [(1, (.pb 5001 22 [(.sl 39)])), (2, (.pb 5002 23 [(.ow 5003 3)])), (3, (.pb 5004 23 [(.ow 5005 3)])), (4, (.pb 5006 25 [(.i .i64), (.i .i64)])), (6, (.pb 5007 23 [(.ow 5008 3)])), (7, (.pb 5009 23 [(.ow 5010 3)])), (22, (.i .i64)), (23, (.i .i64))]⟩, ⟨40, [(1, (.pb 6001 22 [(.sl 39)])), (2, (.pb 6002 23 [(.ow 6003 3)])), (3, (.pb 6004 23 [(.ow 6005 3)])), (4, (.pb 6006 25 [(.i .i64), (.i .i64)])), (6, (.pb 6007 23 [(.ow 6008 3)])), (7, (.pb 6009 23 [(.ow 6010 3)]))]⟩),
  (9, 0, ⟨62, [(0, (.sl 39)), (2, (.pb 5001 25 [(.i .i64), (.i .i64)])), (3, (.i .i64))]⟩, ⟨62, [(2, (.pb 6001 25 [(.i .i64), (.i .i64)]))]⟩),
  (9, 2, ⟨62, [(0, (.sl 39)), (2, (.pb 5001 25 [(.i .i64), (.i .i64)])), (3, (.i .i64)), (4, (.i .i64))]⟩, ⟨62, [(0, (.sl 39)), (2, (.pb 6001 25 [(.i .i64), (.i .i64)])), (3, (.i .i64))]⟩),
  (11, 0, ⟨24, [(0, (.sl 39)), (2, (.pb 5001 25 [(.i .i64), (.i .i64)])), (10, (.i .i64)), (11, (.i .i64))]⟩, ⟨24, [(2, (.pb 6001 25 [(.i .i64), (.i .i64)]))]⟩),
  (12, 0, ⟨58, [(0, (.sl 39)), (1, (.i .i64)), (5, (.i .i64)), (6, (.i .i64)), (7, (.i .i64))]⟩, ⟨58, [(5, (.i .i64))]⟩),
  (12, 2, ⟨58, [(0, (.sl 39)), (1, (.i .i64)), (5, (.i .i64)), (6, (.i .i64)), (7, (.i .i64)), (8, (.i .i64))]⟩, ⟨58, [(0, (.sl 39)), (1, (.i .i64)), (5, (.i .i64)), (6, (.i .i64)), (7, (.i .i64))]⟩),
  (13, 0, ⟨82, [(0, (.sl 39)), (1, (.i .i64)), (2, (.i .i64)), (8, (.ow 5001 3)), (9, (.ow 5002 3)), (10, (.i .i64))]⟩, ⟨82, []⟩),
  (13, 2, ⟨82, [(0, (.sl 39)), (1, (.i .i64)), (2, (.i .i64)), (8, (.ow 5001 3)), (9, (.ow 5002 3)), (10, (.i .i64)), (11, (.i .i64)), (12, (.i .i64))]⟩, ⟨82, [(0, (.sl 39)), (1, (.i .i64)), (2, (.i .i64)), (8, (.ow 6001 3)), (9, (.ow 6002 3)), (11, (.i .i64))]⟩),
  (14, 0, ⟨26, [(0, (.sl 3)), (1, (.sl 3)), (5, (.i .i64))]⟩, ⟨26, []⟩),
  (16, 0, ⟨18, [(0, (.sl 9)), (1, .s), (5, (.i .i64))]⟩, ⟨18, []⟩),
  (17, 0, ⟨66, [(1, (.pb 5001 22 [(.sl 39)])), (3, (.pb 5002 50 [(.mp 5003 50)])), (14, (.sl 39)), (15, (.i .i64)), (16, (.i .i64))]⟩, ⟨66, [(1, (.pb 6001 22 [(.sl 39)])), (3, (.pb 6002 50 [(.mp 6003 50)]))]⟩),
  (17, 2, ⟨66, [(1, (.pb 5001 22 [(.sl 39)])), (3, (.pb 5002 50 [(.mp 5003 50)])), (6, (.pb 5004 23 [(.ow 5005 3)])), (29, (.sl 39)), (30, (.i .i64)), (31, (.i .i64))]⟩, ⟨66, [(6, (.pb 6001 23 [(.ow 6002 3)]))]⟩),
  (17, 4, ⟨66, [(1, (.pb 5001 22 [(.sl 39)])), (3, (.pb 5002 50 [(.mp 5003 50)])), (6, (.pb 5004 23 [(.ow 5005 3)])), (7, (.pb 5006 3 [(.i .i64)])), (8, (.pb 5007 39 [.s, (.sl 9), (.i .i64)])), (29, (.sl 39)), (30, (.i .i64)), (31, (.i .i64))]⟩, ⟨66, [(1, (.pb 6001 22 [(.sl 39)])), (3, (.pb 6002 50 [(.mp 6003 50)])), (6, (.pb 6004 23 [(.ow 6005 3)])), (29, (.sl 39)), (30, (.i .i64)), (31, (.i .i64))]⟩),
  (21, 0, ⟨37, [(0, (.i .i64)), (1, (.i .i64)), (3, (.rp 23)), (4, (.pb 5001 23 [(.ow 5002 3)])), (5, (.pb 5003 23 [(.ow 5004 3)])), (6, (.pb 5005 47 [(.cl 21 [(.ro 23), (.ro 23), (.own 5001), (.own 5003), (.own 5005)])])), (11, (.sl 3)), (12, (.i .i64)), (13, (.i .i64))]⟩, ⟨37, [(4, (.pb 6001 23 [(.ow 6002 3)])), (5, (.pb 6003 23 [(.ow 6004 3)])), (6, (.pb 6005 47 [(.cl 21 [(.ro 23), (.ro 23), (.own 6001), (.own 6003), (.own 6005)])]))]⟩),
  (28, 0, ⟨18, [(3, (.i .i64)), (6, (.sl 3)), (7, (.i .i64)), (8, (.i .i64))]⟩, ⟨18, [(3, (.i .i64))]⟩),
  (33, 0, ⟨19, [(1, (.rp 37)), (3, (.i .i64))]⟩, ⟨19, []⟩),
  (46, 0, ⟨19, [(0, (.sl 39)), (1, (.fn 61)), (7, (.i .i64)), (8, (.i .i64))]⟩, ⟨19, []⟩)]
def jns : List (Nat × Nat × Ab.Tpl) := [(12, 54, ⟨58, [(0, (.sl 39)), (1, (.i .i64)), (5, (.i .i64)), (6, (.i .i64)), (7, (.i .i64)), (8, (.i .i64))]⟩),
  (13, 55, ⟨82, [(0, (.sl 39)), (1, (.i .i64)), (2, (.i .i64)), (8, (.ow 7001 3)), (9, (.ow 7002 3)), (10, (.i .i64)), (11, (.i .i64)), (12, (.i .i64))]⟩),
  (21, 22, ⟨37, [(0, (.i .i64)), (1, (.i .i64)), (3, (.rp 23)), (4, (.pb 7001 23 [(.ow 7002 3)])), (5, (.pb 7003 23 [(.ow 7004 3)])), (6, (.pb 7005 47 [(.cl 21 [(.ro 23), (.ro 23), (.own 7001), (.own 7003), (.own 7005)])])), (11, (.sl 3)), (12, (.i .i64)), (13, (.i .i64))]⟩)]
noncomputable def prs : List (Nat × ((Nat → List U → Option U) → List U → Option U)) := [(18, Go.Ab.sortF)]
noncomputable def xfs : List (Nat × Ab.Fn) := [(18, fnX Try.f18 [] ⟨14, [(0, (.ow 1 3)), (1, (.fn 46))]⟩ ⟨14, [(0, (.ow 1 3))]⟩),
  (21, fnX Try.f21 [23, 23, 23, 23, 47] ⟨37, [(0, (.i .i64)), (1, (.i .i64)), (2, (.rp 23)), (3, (.rp 23)), (4, (.pb 4 23 [(.ow 14 3)])), (5, (.pb 5 23 [(.ow 15 3)])), (6, (.pb 6 47 [(.cl 21 [(.ro 23), (.ro 23), (.own 4), (.own 5), (.own 6)])]))]⟩ ⟨37, [(4, (.pb 4 23 [(.ow 14 3)])), (5, (.pb 5 23 [(.ow 15 3)])), (6, (.pb 6 47 [(.cl 21 [(.ro 23), (.ro 23), (.own 4), (.own 5), (.own 6)])]))]⟩)]
def spl : List (Nat × Nat) := [(10, 4)]
def its : List (Nat × List Nat) := [(33, [3, 9])]
noncomputable def T : Tab := ⟨tys, fns, lps, jns, prs, spl, its, xfs⟩
noncomputable def K : Ctx := T.ctx
theorem K_ok : CtxOk Try.prog K := Tab.ok (by kernel_rfl) (by kernel_rfl)
theorem K_zok : ZeroOk Try.prog K := Tab.zok (by kernel_rfl)
theorem K_lok : LimOk Try.prog K := Tab.lok (by kernel_rfl)
theorem K_fns : FnsOk Try.prog fns := ⟨fn1 Try.func3 (by kernel_rfl) (by kernel_rfl), fn1 Try.func4 (by kernel_rfl) (by kernel_rfl), fn1 Try.func5 (by kernel_rfl) (by kernel_rfl), fn1 Try.func6 (by kernel_rfl) (by kernel_rfl), fn1 Try.func7 (by kernel_rfl) (by kernel_rfl), fn1 Try.func8 (by kernel_rfl) (by kernel_rfl), fn1 Try.func9 (by kernel_rfl) (by kernel_rfl), fn1 Try.func10 (by kernel_rfl) (by kernel_rfl), fn1 Try.func11 (by kernel_rfl) (by kernel_rfl), fn1 Try.func12 (by kernel_rfl) (by kernel_rfl), fn1 Try.func13 (by kernel_rfl) (by kernel_rfl), fn1 Try.func14 (by kernel_rfl) (by kernel_rfl), fn1 Try.func15 (by kernel_rfl) (by kernel_rfl), fn1 Try.func16 (by kernel_rfl) (by kernel_rfl), fn1 Try.func17 (by kernel_rfl) (by kernel_rfl), fn1 Try.func19 (by kernel_rfl) (by kernel_rfl), fn1 Try.func20 (by kernel_rfl) (by kernel_rfl), fn1 Try.func22 (by kernel_rfl) (by kernel_rfl), fn1 Try.func23 (by kernel_rfl) (by kernel_rfl), fn1 Try.func24 (by kernel_rfl) (by kernel_rfl), fn1 Try.func25 (by kernel_rfl) (by kernel_rfl), fn1 Try.func28 (by kernel_rfl) (by kernel_rfl), fn1 Try.func29 (by kernel_rfl) (by kernel_rfl), fn1 Try.func30 (by kernel_rfl) (by kernel_rfl), fn1 Try.func31 (by kernel_rfl) (by kernel_rfl), fn1 Try.func32 (by kernel_rfl) (by kernel_rfl), fn1i Try.func33 (by kernel_rfl) (by kernel_rfl), fn1 Try.func44 (by kernel_rfl) (by kernel_rfl), fn1 Try.func45 (by kernel_rfl) (by kernel_rfl), fn1 Try.func46 (by kernel_rfl) (by kernel_rfl), trivial⟩
theorem K_xfs : FnsOk Try.prog xfs := ⟨fn1x Try.func18 (by kernel_rfl) (by kernel_rfl), fn1x Try.func21 (by kernel_rfl) (by kernel_rfl), trivial⟩
theorem K_fok : FnOk Try.prog K := Tab.fok K_fns K_xfs
end Go.Proofs.Ytbppeodcnkghpaa
