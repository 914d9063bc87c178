/- DERIVED: THE SHELF's CONTRACTS AT THIS DUMP, IN PLAIN WORDS (tools/lay-plain.mjs out of 'TryShelf.lean', which tools/lay-shelf.mjs wrote): THE SAME DECLARATIONS UNDER THE SAME NAMES: 'import', 'namespace', 'open', 'def', 'theorem' AND NOTHING ELSE: no command of the shelf's: FOR A HAND-IN. Each laying: the table of numbers ('.._ren') and one theorem, a field a fact of the dump's own or the kernel's comparison; each contract: ONE APPLICATION. DERIVED: THE SHELF's CONTRACTS AT THIS DUMP, IN PLAIN WORDS (tools/lay-plain.mjs out of 'YtlfigfgipnlchaaSc.lean', which tools/lay-shelf.mjs wrote): THE SAME DECLARATIONS UNDER THE SAME NAMES: 'import', 'namespace', 'open', 'def', 'theorem' AND NOTHING ELSE: no command of the shelf's: FOR A HAND-IN. Each laying: the table of numbers ('.._ren') and one theorem, a field a fact of the dump's own or the kernel's comparison; each contract: ONE APPLICATION. The seat's program in the abstract machine: what is lent, where loops are cut, what is known from elsewhere; facts on its types. The seat's machine is sound. Small functions. Names. Duties. Valid lists of duties, in the program and in the reference; the times between. What the law makes, compares, marks and holds. Marks in lists of lists and in duties. -/
import Derived.Shelf.SortG.Plain
import Derived.Shelf.SortG.SortNone
import Derived.Ground.SlgnProg
import Derived.Test.YtlfigfgipnlchaaProg
import Derived.Shelf.SlicesE.Compact
import Derived.Test.YtlfigfgipnlchaaL3
import Derived.KernelRfl

namespace Go.Proofs
open Go.Shelf
def Try.sortInt64_ren : Go.Shelf.Ren := ⟨fun | 53 => 21 | 64 => 34 | 63 => 33 | 78 => 52 | 79 => 53 | 70 => 43 | 71 => 44 | 72 => 45 | 73 => 46 | 74 => 47 | 75 => 48 | 59 => 49 | 76 => 50 | 77 => 51 | 88 => 63 | 89 => 64 | 90 => 65 | 91 => 66 | 92 => 67 | 68 => 68 | 96 => 83 | n => n, fun | 22 => 39 | 23 => 2 | 3 => 3 | 51 => 56 | 0 => 0 | 67 => 75 | 69 => 77 | 4 => 4 | 61 => 67 | 60 => 66 | 44 => 72 | 5 => 5 | 9 => 9 | 75 => 84 | 79 => 88 | 83 => 99 | 84 => 100 | n => n, fun | n => n⟩
theorem Try.sortInt64 : Go.Proofs.SlLaysN.n53 Try.prog Try.sortInt64_ren := {
  mixed := by kernel_rfl
  f53 := ⟨Try.f21.name, by decide, Try.func21.trans (congrArg some (by kernel_rfl))⟩
  f59 := ⟨Try.f49.name, by decide, Try.func49.trans (congrArg some (by kernel_rfl))⟩
  f63 := ⟨Try.f33.name, by decide, Try.func33.trans (congrArg some (by kernel_rfl))⟩
  f64 := Try.func34.trans (congrArg some (by kernel_rfl))
  f68 := ⟨Try.f68.name, by decide, Try.func68.trans (congrArg some (by kernel_rfl))⟩
  f70 := ⟨Try.f43.name, by decide, Try.func43.trans (congrArg some (by kernel_rfl))⟩
  f71 := ⟨Try.f44.name, by decide, Try.func44.trans (congrArg some (by kernel_rfl))⟩
  f72 := ⟨Try.f45.name, by decide, Try.func45.trans (congrArg some (by kernel_rfl))⟩
  f73 := ⟨Try.f46.name, by decide, Try.func46.trans (congrArg some (by kernel_rfl))⟩
  f74 := ⟨Try.f47.name, by decide, Try.func47.trans (congrArg some (by kernel_rfl))⟩
  f75 := ⟨Try.f48.name, by decide, Try.func48.trans (congrArg some (by kernel_rfl))⟩
  f76 := ⟨Try.f50.name, by decide, Try.func50.trans (congrArg some (by kernel_rfl))⟩
  f77 := ⟨Try.f51.name, by decide, Try.func51.trans (congrArg some (by kernel_rfl))⟩
  f78 := Try.func52.trans (congrArg some (by kernel_rfl))
  f79 := Try.func53.trans (congrArg some (by kernel_rfl))
  f88 := ⟨Try.f63.name, by decide, Try.func63.trans (congrArg some (by kernel_rfl))⟩
  f89 := Try.func64.trans (congrArg some (by kernel_rfl))
  f90 := Try.func65.trans (congrArg some (by kernel_rfl))
  f91 := ⟨Try.f66.name, by decide, Try.func66.trans (congrArg some (by kernel_rfl))⟩
  f92 := ⟨Try.f67.name, by decide, Try.func67.trans (congrArg some (by kernel_rfl))⟩
  f96 := ⟨Try.f83.name, by decide, Try.func83.trans (congrArg some (by kernel_rfl))⟩
  t0 := Try.underlying0
  a0 := Try.isAgg0
  z0 := Try.sizeOf0
  v0 := Try.zeroValue0
  t3 := Try.underlying3
  a3 := Try.isAgg3
  z3 := Try.sizeOf3
  v3 := Try.zeroValue3
  t4 := Try.underlying4
  a4 := Try.isAgg4
  z4 := Try.sizeOf4
  v4 := Try.zeroValue4
  t5 := Try.underlying5
  a5 := Try.isAgg5
  z5 := Try.sizeOf5
  v5 := Try.zeroValue5
  t9 := Try.underlying9
  a9 := Try.isAgg9
  z9 := Try.sizeOf9
  v9 := Try.zeroValue9
  t22 := Try.underlying39
  a22 := Try.isAgg39
  z22 := Try.sizeOf39
  v22 := Try.zeroValue39
  t23 := Try.underlying2
  a23 := Try.isAgg2
  z23 := Try.sizeOf2
  v23 := Try.zeroValue2
  t44 := Try.underlying72
  a44 := Try.isAgg72
  z44 := Try.sizeOf72
  v44 := Try.zeroValue72
  t51 := Try.underlying56
  a51 := Try.isAgg56
  z51 := Try.sizeOf56
  v51 := Try.zeroValue56
  t60 := Try.underlying66
  a60 := Try.isAgg66
  z60 := Try.sizeOf66
  v60 := Try.zeroValue66
  t61 := Try.underlying67
  a61 := Try.isAgg67
  z61 := Try.sizeOf67
  v61 := Try.zeroValue67
  t67 := Try.underlying75
  a67 := Try.isAgg75
  z67 := Try.sizeOf75
  v67 := Try.zeroValue75
  t69 := Try.underlying77
  a69 := Try.isAgg77
  z69 := Try.sizeOf77
  v69 := Try.zeroValue77
  t75 := Try.underlying84
  a75 := Try.isAgg84
  z75 := Try.sizeOf84
  v75 := Try.zeroValue84
  t79 := Try.underlying88
  a79 := Try.isAgg88
  z79 := Try.sizeOf88
  v79 := Try.zeroValue88
  t83 := Try.underlying99
  a83 := Try.isAgg99
  z83 := Try.sizeOf99
  v83 := Try.zeroValue99
  t84 := Try.underlying100
  a84 := Try.isAgg100
  z84 := Try.sizeOf100
  v84 := Try.zeroValue100 }
def Try.sortStr_ren : Go.Shelf.Ren := ⟨fun | 54 => 35 | 64 => 34 | 65 => 54 | 78 => 52 | 79 => 53 | 80 => 69 | 81 => 70 | 82 => 71 | 83 => 72 | 84 => 73 | 85 => 74 | 61 => 75 | 86 => 76 | 87 => 77 | 93 => 84 | 89 => 64 | 90 => 65 | 94 => 85 | 95 => 86 | 69 => 81 | 97 => 87 | n => n, fun | 25 => 46 | 26 => 9 | 3 => 3 | 51 => 56 | 0 => 0 | 67 => 75 | 69 => 77 | 4 => 4 | 61 => 67 | 60 => 66 | 44 => 72 | 5 => 5 | 9 => 9 | 75 => 84 | 79 => 88 | 83 => 99 | 84 => 100 | n => n, fun | n => n⟩
theorem Try.sortStr : Go.Proofs.SlLaysN.n54 Try.prog Try.sortStr_ren := {
  mixed := by kernel_rfl
  f54 := ⟨Try.f35.name, by decide, Try.func35.trans (congrArg some (by kernel_rfl))⟩
  f61 := ⟨Try.f75.name, by decide, Try.func75.trans (congrArg some (by kernel_rfl))⟩
  f64 := Try.func34.trans (congrArg some (by kernel_rfl))
  f65 := ⟨Try.f54.name, by decide, Try.func54.trans (congrArg some (by kernel_rfl))⟩
  f69 := ⟨Try.f81.name, by decide, Try.func81.trans (congrArg some (by kernel_rfl))⟩
  f78 := Try.func52.trans (congrArg some (by kernel_rfl))
  f79 := Try.func53.trans (congrArg some (by kernel_rfl))
  f80 := ⟨Try.f69.name, by decide, Try.func69.trans (congrArg some (by kernel_rfl))⟩
  f81 := ⟨Try.f70.name, by decide, Try.func70.trans (congrArg some (by kernel_rfl))⟩
  f82 := ⟨Try.f71.name, by decide, Try.func71.trans (congrArg some (by kernel_rfl))⟩
  f83 := ⟨Try.f72.name, by decide, Try.func72.trans (congrArg some (by kernel_rfl))⟩
  f84 := ⟨Try.f73.name, by decide, Try.func73.trans (congrArg some (by kernel_rfl))⟩
  f85 := ⟨Try.f74.name, by decide, Try.func74.trans (congrArg some (by kernel_rfl))⟩
  f86 := ⟨Try.f76.name, by decide, Try.func76.trans (congrArg some (by kernel_rfl))⟩
  f87 := ⟨Try.f77.name, by decide, Try.func77.trans (congrArg some (by kernel_rfl))⟩
  f89 := Try.func64.trans (congrArg some (by kernel_rfl))
  f90 := Try.func65.trans (congrArg some (by kernel_rfl))
  f93 := ⟨Try.f84.name, by decide, Try.func84.trans (congrArg some (by kernel_rfl))⟩
  f94 := ⟨Try.f85.name, by decide, Try.func85.trans (congrArg some (by kernel_rfl))⟩
  f95 := ⟨Try.f86.name, by decide, Try.func86.trans (congrArg some (by kernel_rfl))⟩
  f97 := ⟨Try.f87.name, by decide, Try.func87.trans (congrArg some (by kernel_rfl))⟩
  t0 := Try.underlying0
  a0 := Try.isAgg0
  z0 := Try.sizeOf0
  v0 := Try.zeroValue0
  t3 := Try.underlying3
  a3 := Try.isAgg3
  z3 := Try.sizeOf3
  v3 := Try.zeroValue3
  t4 := Try.underlying4
  a4 := Try.isAgg4
  z4 := Try.sizeOf4
  v4 := Try.zeroValue4
  t5 := Try.underlying5
  a5 := Try.isAgg5
  z5 := Try.sizeOf5
  v5 := Try.zeroValue5
  t9 := Try.underlying9
  a9 := Try.isAgg9
  z9 := Try.sizeOf9
  v9 := Try.zeroValue9
  t25 := Try.underlying46
  a25 := Try.isAgg46
  z25 := Try.sizeOf46
  v25 := Try.zeroValue46
  t26 := Try.underlying9
  a26 := Try.isAgg9
  z26 := Try.sizeOf9
  v26 := Try.zeroValue9
  t44 := Try.underlying72
  a44 := Try.isAgg72
  z44 := Try.sizeOf72
  v44 := Try.zeroValue72
  t51 := Try.underlying56
  a51 := Try.isAgg56
  z51 := Try.sizeOf56
  v51 := Try.zeroValue56
  t60 := Try.underlying66
  a60 := Try.isAgg66
  z60 := Try.sizeOf66
  v60 := Try.zeroValue66
  t61 := Try.underlying67
  a61 := Try.isAgg67
  z61 := Try.sizeOf67
  v61 := Try.zeroValue67
  t67 := Try.underlying75
  a67 := Try.isAgg75
  z67 := Try.sizeOf75
  v67 := Try.zeroValue75
  t69 := Try.underlying77
  a69 := Try.isAgg77
  z69 := Try.sizeOf77
  v69 := Try.zeroValue77
  t75 := Try.underlying84
  a75 := Try.isAgg84
  z75 := Try.sizeOf84
  v75 := Try.zeroValue84
  t79 := Try.underlying88
  a79 := Try.isAgg88
  z79 := Try.sizeOf88
  v79 := Try.zeroValue88
  t83 := Try.underlying99
  a83 := Try.isAgg99
  z83 := Try.sizeOf99
  v83 := Try.zeroValue99
  t84 := Try.underlying100
  a84 := Try.isAgg100
  z84 := Try.sizeOf100
  v84 := Try.zeroValue100 }
end Go.Proofs

namespace Go.Proofs
open Go.Shelf
def Try.compactI_ren : Go.Shelf.Ren := ⟨fun | 43 => 22 | n => n, fun | 22 => 39 | 23 => 2 | 3 => 3 | 4 => 4 | 0 => 0 | n => n, fun | n => n⟩
theorem Try.compactI : Go.Proofs.SlLaysE.n43 Try.prog Try.compactI_ren := {
  mixed := by kernel_rfl
  f43 := ⟨Try.f22.name, by decide, Try.func22.trans (congrArg some (by kernel_rfl))⟩
  t0 := Try.underlying0
  a0 := Try.isAgg0
  z0 := Try.sizeOf0
  v0 := Try.zeroValue0
  t3 := Try.underlying3
  a3 := Try.isAgg3
  z3 := Try.sizeOf3
  v3 := Try.zeroValue3
  t4 := Try.underlying4
  a4 := Try.isAgg4
  z4 := Try.sizeOf4
  v4 := Try.zeroValue4
  t22 := Try.underlying39
  a22 := Try.isAgg39
  z22 := Try.sizeOf39
  v22 := Try.zeroValue39
  a23 := Try.isAgg2
  z23 := Try.sizeOf2 }
end Go.Proofs

namespace Go.Lm.Ga
open Go.Proofs

def mt0 : List (Nat × List Bool) := [(10, [true]), (11, [true]), (21, [true]), (22, [true]), (27, [true]), (35, [true])]
def cuts0 : List (Nat × List (Nat × List (Nat × Lk))) :=
[
  (4, [(5, [(0, .val), (1, .val), (5, .val)])]),
  (5, [(8, [(0, .val), (1, .val), (2, .val), (3, .val), (11, .own), (12, .val)]),
    (16, [(0, .val), (3, .val), (11, .own), (13, .own), (14, .val)])]),
  (6, [(3, [(0, .val), (3, .own), (4, .val)])]),
  (7, [(8, [(0, .val), (1, .val), (2, .val), (3, .val), (11, .own), (30, .val), (31, .val), (32, .val)]),
    (16, [(0, .val), (3, .val), (11, .own), (14, .own), (15, .val)])]),
  (8, [(4, [(0, .val), (1, .val), (5, .val)])]),
  (9, [(4, [(0, .val), (1, .val), (5, .val)])]),
  (10, [(2, [(0, .own), (1, .val), (5, .val)])]),
  (11, [(2, [(0, .own), (1, .val), (5, .val)])]),
  (12, [(2, [(0, .val), (1, .val), (5, .val)])]),
  (16, [(4, [(0, .val), (1, .val), (5, .own), (6, .val), (7, .val)])]),
  (17, [(3, [(0, .val), (1, .val), (5, .val), (6, .val)])]),
  (22, [(4, [(0, .own), (3, .val)]),
    (9, [(0, .own), (3, .val), (4, .own), (5, .val)])]),
  (23, [(3, [(1, .val), (5, .own), (9, .val), (10, .val), (11, .val)])]),
  (24, [(4, [(0, .val), (1, .val), (5, .val)])]),
  (26, [(4, [(0, .val), (3, .val)])]),
  (27, [(2, [(0, .own), (1, .val), (5, .val)])]),
  (28, [(2, [(0, .val), (1, .val), (5, .val)])]),
  (29, [(2, [(0, .val), (3, .val)]),
    (7, [(0, .val), (3, .val), (4, .val)])]),
  (31, [(2, [(0, .val), (5, .val), (6, .val), (7, .val)])]),
  (33, [(2, [(0, .val), (1, .val), (2, .val), (3, .val), (8, .val), (9, .val)])]),
  (43, [(1, [(0, .val), (1, .val), (2, .val), (6, .val)]),
    (4, [(0, .val), (1, .val), (2, .val), (6, .val), (7, .val)])]),
  (44, [(4, [(0, .val), (6, .val), (7, .val), (8, .val), (9, .val)]),
    (8, [(0, .val), (6, .val), (7, .val), (10, .val)])]),
  (45, [(5, [(0, .val), (1, .val), (6, .val), (7, .own), (8, .val), (9, .val)])]),
  (47, [(2, [(0, .val), (6, .val), (7, .val)])]),
  (48, [(3, [(0, .val), (1, .val), (2, .val), (7, .val), (8, .val)]),
    (5, [(0, .val), (1, .val), (2, .val), (7, .val), (8, .val)]),
    (14, [(0, .val), (1, .val), (2, .val), (7, .val), (8, .val), (9, .val)]),
    (20, [(0, .val), (1, .val), (2, .val), (7, .val), (8, .val), (10, .val)])]),
  (50, [(3, [(0, .val), (1, .val), (9, .val), (10, .val)]),
    (5, [(0, .val), (1, .val), (9, .val), (10, .val)])]),
  (51, [(3, [(0, .val), (1, .val), (10, .val), (11, .val)]),
    (5, [(0, .val), (1, .val), (10, .val), (11, .val)]),
    (13, [(0, .val), (1, .val), (10, .val), (11, .val)]),
    (15, [(0, .val), (1, .val), (10, .val), (11, .val)])]),
  (54, [(2, [(0, .val), (1, .val), (2, .val), (3, .val), (8, .val), (9, .val)])]),
  (55, [(4, [(0, .val), (3, .val)])]),
  (56, [(2, [(0, .val), (3, .val)])]),
  (57, [(3, [(3, .val), (6, .val), (7, .val), (8, .val)])]),
  (63, [(1, [(0, .val), (2, .val), (3, .val), (8, .val)])]),
  (69, [(1, [(0, .val), (1, .val), (2, .val), (6, .val)]),
    (4, [(0, .val), (1, .val), (2, .val), (6, .val), (7, .val)])]),
  (70, [(4, [(0, .val), (6, .val), (7, .val), (8, .val), (9, .val)]),
    (8, [(0, .val), (6, .val), (7, .val), (10, .val)])]),
  (71, [(5, [(0, .val), (1, .val), (6, .val), (7, .own), (8, .val), (9, .val)])]),
  (73, [(2, [(0, .val), (6, .val), (7, .val)])]),
  (74, [(3, [(0, .val), (1, .val), (2, .val), (7, .val), (8, .val)]),
    (5, [(0, .val), (1, .val), (2, .val), (7, .val), (8, .val)]),
    (14, [(0, .val), (1, .val), (2, .val), (7, .val), (8, .val), (9, .val)]),
    (20, [(0, .val), (1, .val), (2, .val), (7, .val), (8, .val), (10, .val)])]),
  (76, [(3, [(0, .val), (1, .val), (9, .val), (10, .val)]),
    (5, [(0, .val), (1, .val), (9, .val), (10, .val)])]),
  (77, [(3, [(0, .val), (1, .val), (10, .val), (11, .val)]),
    (5, [(0, .val), (1, .val), (10, .val), (11, .val)]),
    (13, [(0, .val), (1, .val), (10, .val), (11, .val)]),
    (15, [(0, .val), (1, .val), (10, .val), (11, .val)])]),
  (82, [(2, [(0, .val), (1, .val), (7, .val), (8, .val)])])]
def intsOf : List V → Option (List Int)
  | [] => some []
  | .int .i64 n :: r => (intsOf r).map (n :: ·)
  | _ => none
def strsOf : List V → Option (List (List UInt8))
  | [] => some []
  | .str s :: r => (strsOf r).map (s.data.toList :: ·)
  | _ => none
def encI (n : Int) : V := .int .i64 n
def encS (l : List UInt8) : V := .str ⟨l.toArray⟩
def sortI (es : List V) : Option (List V) := (intsOf es).bind fun zs => if zs.length < 4611686018427387904 then some ((zs.mergeSort fun x y => decide (x ≤ y)).map encI) else none
def sortS (es : List V) : Option (List V) := (strsOf es).bind fun zs => if zs.length < 4611686018427387904 then some ((zs.mergeSort fun x y => decide (x ≤ y)).map encS) else none
def compI (es : List V) : Option (List V) := (intsOf es).bind fun zs => if zs ≠ [] ∧ zs.length ≤ 9223372036854775807 then some ((Lib.compact zs).map encI) else none
def ext0 (f : Nat) (vals : List V) : Option (List V) :=
  if f = 21 then match vals with
    | [.sl true 1 es] => (sortI es).map fun l => [.sl true 1 l]
    | _ => none
  else if f = 22 then match vals with
    | [.sl true 1 es] => (compI es).map fun l => [.sl true 1 l, .any]
    | _ => none
  else if f = 35 then match vals with
    | [.sl true 1 es] => (sortS es).map fun l => [.sl true 1 l]
    | _ => none
  else none
noncomputable def C0 : Ctx where
  P := Try.prog
  mt f := (mt0.lookup f).getD []
  ext := ext0
  cuts f := (cuts0.lookup f).getD []
theorem xn (f : FuncId) (vals : List V) (h : f ≠ 21 ∧ f ≠ 22 ∧ f ≠ 35) : C0.ext f vals = none := by simp [C0, ext0, h.1, h.2.1, h.2.2]
theorem intsOf_map : ∀ zs : List Int, intsOf (zs.map encI) = some zs
  | [] => rfl
  | z :: zs => by rw [List.map_cons]; show (intsOf (zs.map encI)).map _ = _; rw [intsOf_map zs]; rfl
theorem strsOf_map : ∀ zs : List (List UInt8), strsOf (zs.map encS) = some zs
  | [] => rfl
  | z :: zs => by
    rw [List.map_cons]; show (strsOf (zs.map encS)).map _ = _; rw [strsOf_map zs]; simp
theorem ev_sortI (zs : List Int) (h : zs.length < 4611686018427387904) : lim C0 (.func 21) [.sl true 1 (zs.map encI)] = some [.sl true 1 ((zs.mergeSort fun x y => decide (x ≤ y)).map encI)] := by
  refine lim_of_ext ?_
  rw [show C0.ext = ext0 from rfl]
  simp only [ext0, sortI, intsOf_map, if_true, Option.bind_some, if_pos h, Option.map_some]
theorem ev_sortS (zs : List (List UInt8)) (h : zs.length < 4611686018427387904) : lim C0 (.func 35) [.sl true 1 (zs.map encS)] = some [.sl true 1 ((zs.mergeSort fun x y => decide (x ≤ y)).map encS)] := by
  refine lim_of_ext ?_
  rw [show C0.ext = ext0 from rfl]
  simp [ext0, sortS, strsOf_map, h]
theorem ev_compactI (zs : List Int) (h : zs ≠ []) (h2 : zs.length ≤ 9223372036854775807) : lim C0 (.func 22) [.sl true 1 (zs.map encI)] = some [.sl true 1 ((Lib.compact zs).map encI), .any] := by
  refine lim_of_ext ?_
  rw [show C0.ext = ext0 from rfl]
  simp [ext0, compI, intsOf_map, h, h2]

@[go_sem] theorem mt_0 : C0.mt 0 = [] := by kernel_rfl
@[go_sem] theorem mt_1 : C0.mt 1 = [] := by kernel_rfl
@[go_sem] theorem mt_2 : C0.mt 2 = [] := by kernel_rfl
@[go_sem] theorem mt_3 : C0.mt 3 = [] := by kernel_rfl
@[go_sem] theorem mt_4 : C0.mt 4 = [] := by kernel_rfl
@[go_sem] theorem mt_5 : C0.mt 5 = [] := by kernel_rfl
@[go_sem] theorem mt_6 : C0.mt 6 = [] := by kernel_rfl
@[go_sem] theorem mt_7 : C0.mt 7 = [] := by kernel_rfl
@[go_sem] theorem mt_8 : C0.mt 8 = [] := by kernel_rfl
@[go_sem] theorem mt_9 : C0.mt 9 = [] := by kernel_rfl
@[go_sem] theorem mt_10 : C0.mt 10 = [true] := by kernel_rfl
@[go_sem] theorem mt_11 : C0.mt 11 = [true] := by kernel_rfl
@[go_sem] theorem mt_12 : C0.mt 12 = [] := by kernel_rfl
@[go_sem] theorem mt_13 : C0.mt 13 = [] := by kernel_rfl
@[go_sem] theorem mt_14 : C0.mt 14 = [] := by kernel_rfl
@[go_sem] theorem mt_15 : C0.mt 15 = [] := by kernel_rfl
@[go_sem] theorem mt_16 : C0.mt 16 = [] := by kernel_rfl
@[go_sem] theorem mt_17 : C0.mt 17 = [] := by kernel_rfl
@[go_sem] theorem mt_18 : C0.mt 18 = [] := by kernel_rfl
@[go_sem] theorem mt_19 : C0.mt 19 = [] := by kernel_rfl
@[go_sem] theorem mt_20 : C0.mt 20 = [] := by kernel_rfl
@[go_sem] theorem mt_21 : C0.mt 21 = [true] := by kernel_rfl
@[go_sem] theorem mt_22 : C0.mt 22 = [true] := by kernel_rfl
@[go_sem] theorem mt_23 : C0.mt 23 = [] := by kernel_rfl
@[go_sem] theorem mt_24 : C0.mt 24 = [] := by kernel_rfl
@[go_sem] theorem mt_25 : C0.mt 25 = [] := by kernel_rfl
@[go_sem] theorem mt_26 : C0.mt 26 = [] := by kernel_rfl
@[go_sem] theorem mt_27 : C0.mt 27 = [true] := by kernel_rfl
@[go_sem] theorem mt_28 : C0.mt 28 = [] := by kernel_rfl
@[go_sem] theorem mt_29 : C0.mt 29 = [] := by kernel_rfl
@[go_sem] theorem mt_30 : C0.mt 30 = [] := by kernel_rfl
@[go_sem] theorem mt_31 : C0.mt 31 = [] := by kernel_rfl
@[go_sem] theorem mt_32 : C0.mt 32 = [] := by kernel_rfl
@[go_sem] theorem mt_33 : C0.mt 33 = [] := by kernel_rfl
@[go_sem] theorem mt_34 : C0.mt 34 = [] := by kernel_rfl
@[go_sem] theorem mt_35 : C0.mt 35 = [true] := by kernel_rfl
@[go_sem] theorem mt_36 : C0.mt 36 = [] := by kernel_rfl
@[go_sem] theorem mt_37 : C0.mt 37 = [] := by kernel_rfl
@[go_sem] theorem mt_38 : C0.mt 38 = [] := by kernel_rfl
@[go_sem] theorem mt_39 : C0.mt 39 = [] := by kernel_rfl
@[go_sem] theorem mt_40 : C0.mt 40 = [] := by kernel_rfl
@[go_sem] theorem mt_41 : C0.mt 41 = [] := by kernel_rfl
@[go_sem] theorem mt_42 : C0.mt 42 = [] := by kernel_rfl
@[go_sem] theorem mt_43 : C0.mt 43 = [] := by kernel_rfl
@[go_sem] theorem mt_44 : C0.mt 44 = [] := by kernel_rfl
@[go_sem] theorem mt_45 : C0.mt 45 = [] := by kernel_rfl
@[go_sem] theorem mt_46 : C0.mt 46 = [] := by kernel_rfl
@[go_sem] theorem mt_47 : C0.mt 47 = [] := by kernel_rfl
@[go_sem] theorem mt_48 : C0.mt 48 = [] := by kernel_rfl
@[go_sem] theorem mt_49 : C0.mt 49 = [] := by kernel_rfl
@[go_sem] theorem mt_50 : C0.mt 50 = [] := by kernel_rfl
@[go_sem] theorem mt_51 : C0.mt 51 = [] := by kernel_rfl
@[go_sem] theorem mt_52 : C0.mt 52 = [] := by kernel_rfl
@[go_sem] theorem mt_53 : C0.mt 53 = [] := by kernel_rfl
@[go_sem] theorem mt_54 : C0.mt 54 = [] := by kernel_rfl
@[go_sem] theorem mt_55 : C0.mt 55 = [] := by kernel_rfl
@[go_sem] theorem mt_56 : C0.mt 56 = [] := by kernel_rfl
@[go_sem] theorem mt_57 : C0.mt 57 = [] := by kernel_rfl
@[go_sem] theorem mt_58 : C0.mt 58 = [] := by kernel_rfl
@[go_sem] theorem mt_59 : C0.mt 59 = [] := by kernel_rfl
@[go_sem] theorem mt_60 : C0.mt 60 = [] := by kernel_rfl
@[go_sem] theorem mt_61 : C0.mt 61 = [] := by kernel_rfl
@[go_sem] theorem mt_62 : C0.mt 62 = [] := by kernel_rfl
@[go_sem] theorem mt_63 : C0.mt 63 = [] := by kernel_rfl
@[go_sem] theorem mt_64 : C0.mt 64 = [] := by kernel_rfl
@[go_sem] theorem mt_65 : C0.mt 65 = [] := by kernel_rfl
@[go_sem] theorem mt_66 : C0.mt 66 = [] := by kernel_rfl
@[go_sem] theorem mt_67 : C0.mt 67 = [] := by kernel_rfl
@[go_sem] theorem mt_68 : C0.mt 68 = [] := by kernel_rfl
@[go_sem] theorem mt_69 : C0.mt 69 = [] := by kernel_rfl
@[go_sem] theorem mt_70 : C0.mt 70 = [] := by kernel_rfl
@[go_sem] theorem mt_71 : C0.mt 71 = [] := by kernel_rfl
@[go_sem] theorem mt_72 : C0.mt 72 = [] := by kernel_rfl
@[go_sem] theorem mt_73 : C0.mt 73 = [] := by kernel_rfl
@[go_sem] theorem mt_74 : C0.mt 74 = [] := by kernel_rfl
@[go_sem] theorem mt_75 : C0.mt 75 = [] := by kernel_rfl
@[go_sem] theorem mt_76 : C0.mt 76 = [] := by kernel_rfl
@[go_sem] theorem mt_77 : C0.mt 77 = [] := by kernel_rfl
@[go_sem] theorem mt_78 : C0.mt 78 = [] := by kernel_rfl
@[go_sem] theorem mt_79 : C0.mt 79 = [] := by kernel_rfl
@[go_sem] theorem mt_80 : C0.mt 80 = [] := by kernel_rfl
@[go_sem] theorem mt_81 : C0.mt 81 = [] := by kernel_rfl
@[go_sem] theorem mt_82 : C0.mt 82 = [] := by kernel_rfl
@[go_sem] theorem mt_83 : C0.mt 83 = [] := by kernel_rfl
theorem F0 : FnF C0 0 Try.f0 [] [] [] := ⟨Try.func0, by kernel_rfl, by kernel_rfl, by kernel_rfl, by kernel_rfl⟩
theorem F1 : FnF C0 1 Try.f1 [] [] [] := ⟨Try.func1, by kernel_rfl, by kernel_rfl, by kernel_rfl, by kernel_rfl⟩
theorem F2 : FnF C0 2 Try.f2 [] [] [] := ⟨Try.func2, by kernel_rfl, by kernel_rfl, by kernel_rfl, by kernel_rfl⟩
theorem F3 : FnF C0 3 Try.f3 [] [] [.tmp 8] := ⟨Try.func3, by kernel_rfl, by kernel_rfl, by kernel_rfl, by kernel_rfl⟩
theorem F4 : FnF C0 4 Try.f4 [(5, [(0, .val), (1, .val), (5, .val)])] [] [.tmp 4] := ⟨Try.func4, by kernel_rfl, by kernel_rfl, by kernel_rfl, by kernel_rfl⟩
theorem F5 : FnF C0 5 Try.f5 [(8, [(0, .val), (1, .val), (2, .val), (3, .val), (11, .own), (12, .val)]), (16, [(0, .val), (3, .val), (11, .own), (13, .own), (14, .val)])] [] [.tmp 8, .tmp 9] := ⟨Try.func5, by kernel_rfl, by kernel_rfl, by kernel_rfl, by kernel_rfl⟩
theorem F6 : FnF C0 6 Try.f6 [(3, [(0, .val), (3, .own), (4, .val)])] [] [.tmp 2] := ⟨Try.func6, by kernel_rfl, by kernel_rfl, by kernel_rfl, by kernel_rfl⟩
theorem F7 : FnF C0 7 Try.f7 [(8, [(0, .val), (1, .val), (2, .val), (3, .val), (11, .own), (30, .val), (31, .val), (32, .val)]), (16, [(0, .val), (3, .val), (11, .own), (14, .own), (15, .val)])] [] [.tmp 8, .tmp 9] := ⟨Try.func7, by kernel_rfl, by kernel_rfl, by kernel_rfl, by kernel_rfl⟩
theorem F8 : FnF C0 8 Try.f8 [(4, [(0, .val), (1, .val), (5, .val)])] [] [.tmp 4] := ⟨Try.func8, by kernel_rfl, by kernel_rfl, by kernel_rfl, by kernel_rfl⟩
theorem F9 : FnF C0 9 Try.f9 [(4, [(0, .val), (1, .val), (5, .val)])] [] [.tmp 4] := ⟨Try.func9, by kernel_rfl, by kernel_rfl, by kernel_rfl, by kernel_rfl⟩
theorem F10 : FnF C0 10 Try.f10 [(2, [(0, .own), (1, .val), (5, .val)])] [true] [.tmp 4] := ⟨Try.func10, by kernel_rfl, by kernel_rfl, by kernel_rfl, by kernel_rfl⟩
theorem F11 : FnF C0 11 Try.f11 [(2, [(0, .own), (1, .val), (5, .val)])] [true] [.tmp 4] := ⟨Try.func11, by kernel_rfl, by kernel_rfl, by kernel_rfl, by kernel_rfl⟩
theorem F12 : FnF C0 12 Try.f12 [(2, [(0, .val), (1, .val), (5, .val)])] [] [.tmp 4] := ⟨Try.func12, by kernel_rfl, by kernel_rfl, by kernel_rfl, by kernel_rfl⟩
theorem F13 : FnF C0 13 Try.f13 [] [] [.tmp 4] := ⟨Try.func13, by kernel_rfl, by kernel_rfl, by kernel_rfl, by kernel_rfl⟩
theorem F14 : FnF C0 14 Try.f14 [] [] [.tmp 6] := ⟨Try.func14, by kernel_rfl, by kernel_rfl, by kernel_rfl, by kernel_rfl⟩
theorem F15 : FnF C0 15 Try.f15 [] [] [.tmp 6] := ⟨Try.func15, by kernel_rfl, by kernel_rfl, by kernel_rfl, by kernel_rfl⟩
theorem F16 : FnF C0 16 Try.f16 [(4, [(0, .val), (1, .val), (5, .own), (6, .val), (7, .val)])] [] [.tmp 4] := ⟨Try.func16, by kernel_rfl, by kernel_rfl, by kernel_rfl, by kernel_rfl⟩
theorem F17 : FnF C0 17 Try.f17 [(3, [(0, .val), (1, .val), (5, .val), (6, .val)])] [] [.tmp 4] := ⟨Try.func17, by kernel_rfl, by kernel_rfl, by kernel_rfl, by kernel_rfl⟩
theorem F18 : FnF C0 18 Try.f18 [] [] [.cell 2 41] := ⟨Try.func18, by kernel_rfl, by kernel_rfl, by kernel_rfl, by kernel_rfl⟩
theorem F19 : FnF C0 19 Try.f19 [] [] [.tmp 6] := ⟨Try.func19, by kernel_rfl, by kernel_rfl, by kernel_rfl, by kernel_rfl⟩
theorem F20 : FnF C0 20 Try.f20 [] [] [.tmp 6] := ⟨Try.func20, by kernel_rfl, by kernel_rfl, by kernel_rfl, by kernel_rfl⟩
theorem F21 : FnF C0 21 Try.f21 [] [true] [] := ⟨Try.func21, by kernel_rfl, by kernel_rfl, by kernel_rfl, by kernel_rfl⟩
theorem F22 : FnF C0 22 Try.f22 [(4, [(0, .own), (3, .val)]), (9, [(0, .own), (3, .val), (4, .own), (5, .val)])] [true] [.tmp 2] := ⟨Try.func22, by kernel_rfl, by kernel_rfl, by kernel_rfl, by kernel_rfl⟩
theorem F23 : FnF C0 23 Try.f23 [(3, [(1, .val), (5, .own), (9, .val), (10, .val), (11, .val)])] [] [.tmp 4] := ⟨Try.func23, by kernel_rfl, by kernel_rfl, by kernel_rfl, by kernel_rfl⟩
theorem F24 : FnF C0 24 Try.f24 [(4, [(0, .val), (1, .val), (5, .val)])] [] [.tmp 4] := ⟨Try.func24, by kernel_rfl, by kernel_rfl, by kernel_rfl, by kernel_rfl⟩
theorem F25 : FnF C0 25 Try.f25 [] [] [.tmp 4] := ⟨Try.func25, by kernel_rfl, by kernel_rfl, by kernel_rfl, by kernel_rfl⟩
theorem F26 : FnF C0 26 Try.f26 [(4, [(0, .val), (3, .val)])] [] [.tmp 2] := ⟨Try.func26, by kernel_rfl, by kernel_rfl, by kernel_rfl, by kernel_rfl⟩
theorem F27 : FnF C0 27 Try.f27 [(2, [(0, .own), (1, .val), (5, .val)])] [true] [.tmp 4] := ⟨Try.func27, by kernel_rfl, by kernel_rfl, by kernel_rfl, by kernel_rfl⟩
theorem F28 : FnF C0 28 Try.f28 [(2, [(0, .val), (1, .val), (5, .val)])] [] [.tmp 4] := ⟨Try.func28, by kernel_rfl, by kernel_rfl, by kernel_rfl, by kernel_rfl⟩
theorem F29 : FnF C0 29 Try.f29 [(2, [(0, .val), (3, .val)]), (7, [(0, .val), (3, .val), (4, .val)])] [] [.tmp 2] := ⟨Try.func29, by kernel_rfl, by kernel_rfl, by kernel_rfl, by kernel_rfl⟩
theorem F30 : FnF C0 30 Try.f30 [] [] [.tmp 2] := ⟨Try.func30, by kernel_rfl, by kernel_rfl, by kernel_rfl, by kernel_rfl⟩
theorem F31 : FnF C0 31 Try.f31 [(2, [(0, .val), (5, .val), (6, .val), (7, .val)])] [] [.tmp 2] := ⟨Try.func31, by kernel_rfl, by kernel_rfl, by kernel_rfl, by kernel_rfl⟩
theorem F32 : FnF C0 32 Try.f32 [] [] [.tmp 2] := ⟨Try.func32, by kernel_rfl, by kernel_rfl, by kernel_rfl, by kernel_rfl⟩
theorem F33 : FnF C0 33 Try.f33 [(2, [(0, .val), (1, .val), (2, .val), (3, .val), (8, .val), (9, .val)])] [] [] := ⟨Try.func33, by kernel_rfl, by kernel_rfl, by kernel_rfl, by kernel_rfl⟩
theorem F34 : FnF C0 34 Try.f34 [] [] [.tmp 2] := ⟨Try.func34, by kernel_rfl, by kernel_rfl, by kernel_rfl, by kernel_rfl⟩
theorem F35 : FnF C0 35 Try.f35 [] [true] [] := ⟨Try.func35, by kernel_rfl, by kernel_rfl, by kernel_rfl, by kernel_rfl⟩
theorem F36 : FnF C0 36 Try.f36 [] [] [.tmp 2] := ⟨Try.func36, by kernel_rfl, by kernel_rfl, by kernel_rfl, by kernel_rfl⟩
theorem F37 : FnF C0 37 Try.f37 [] [] [.tmp 4] := ⟨Try.func37, by kernel_rfl, by kernel_rfl, by kernel_rfl, by kernel_rfl⟩
theorem F38 : FnF C0 38 Try.f38 [] [] [.tmp 4] := ⟨Try.func38, by kernel_rfl, by kernel_rfl, by kernel_rfl, by kernel_rfl⟩
theorem F39 : FnF C0 39 Try.f39 [] [] [.tmp 2] := ⟨Try.func39, by kernel_rfl, by kernel_rfl, by kernel_rfl, by kernel_rfl⟩
theorem F40 : FnF C0 40 Try.f40 [] [] [.tmp 4] := ⟨Try.func40, by kernel_rfl, by kernel_rfl, by kernel_rfl, by kernel_rfl⟩
theorem F41 : FnF C0 41 Try.f41 [] [] [.tmp 4] := ⟨Try.func41, by kernel_rfl, by kernel_rfl, by kernel_rfl, by kernel_rfl⟩
theorem F42 : FnF C0 42 Try.f42 [] [] [.tmp 4] := ⟨Try.func42, by kernel_rfl, by kernel_rfl, by kernel_rfl, by kernel_rfl⟩
theorem F43 : FnF C0 43 Try.f43 [(1, [(0, .val), (1, .val), (2, .val), (6, .val)]), (4, [(0, .val), (1, .val), (2, .val), (6, .val), (7, .val)])] [] [] := ⟨Try.func43, by kernel_rfl, by kernel_rfl, by kernel_rfl, by kernel_rfl⟩
theorem F44 : FnF C0 44 Try.f44 [(4, [(0, .val), (6, .val), (7, .val), (8, .val), (9, .val)]), (8, [(0, .val), (6, .val), (7, .val), (10, .val)])] [] [] := ⟨Try.func44, by kernel_rfl, by kernel_rfl, by kernel_rfl, by kernel_rfl⟩
theorem F45 : FnF C0 45 Try.f45 [(5, [(0, .val), (1, .val), (6, .val), (7, .own), (8, .val), (9, .val)])] [] [] := ⟨Try.func45, by kernel_rfl, by kernel_rfl, by kernel_rfl, by kernel_rfl⟩
theorem F46 : FnF C0 46 Try.f46 [] [] [.tmp 6, .tmp 7] := ⟨Try.func46, by kernel_rfl, by kernel_rfl, by kernel_rfl, by kernel_rfl⟩
theorem F47 : FnF C0 47 Try.f47 [(2, [(0, .val), (6, .val), (7, .val)])] [] [] := ⟨Try.func47, by kernel_rfl, by kernel_rfl, by kernel_rfl, by kernel_rfl⟩
theorem F48 : FnF C0 48 Try.f48 [(3, [(0, .val), (1, .val), (2, .val), (7, .val), (8, .val)]), (5, [(0, .val), (1, .val), (2, .val), (7, .val), (8, .val)]), (14, [(0, .val), (1, .val), (2, .val), (7, .val), (8, .val), (9, .val)]), (20, [(0, .val), (1, .val), (2, .val), (7, .val), (8, .val), (10, .val)])] [] [.tmp 6] := ⟨Try.func48, by kernel_rfl, by kernel_rfl, by kernel_rfl, by kernel_rfl⟩
theorem F49 : FnF C0 49 Try.f49 [] [] [.tmp 4] := ⟨Try.func49, by kernel_rfl, by kernel_rfl, by kernel_rfl, by kernel_rfl⟩
theorem F50 : FnF C0 50 Try.f50 [(3, [(0, .val), (1, .val), (9, .val), (10, .val)]), (5, [(0, .val), (1, .val), (9, .val), (10, .val)])] [] [.tmp 8] := ⟨Try.func50, by kernel_rfl, by kernel_rfl, by kernel_rfl, by kernel_rfl⟩
theorem F51 : FnF C0 51 Try.f51 [(3, [(0, .val), (1, .val), (10, .val), (11, .val)]), (5, [(0, .val), (1, .val), (10, .val), (11, .val)]), (13, [(0, .val), (1, .val), (10, .val), (11, .val)]), (15, [(0, .val), (1, .val), (10, .val), (11, .val)])] [] [.tmp 8, .tmp 9] := ⟨Try.func51, by kernel_rfl, by kernel_rfl, by kernel_rfl, by kernel_rfl⟩
theorem F52 : FnF C0 52 Try.f52 [] [] [.tmp 2] := ⟨Try.func52, by kernel_rfl, by kernel_rfl, by kernel_rfl, by kernel_rfl⟩
theorem F53 : FnF C0 53 Try.f53 [] [] [.tmp 2] := ⟨Try.func53, by kernel_rfl, by kernel_rfl, by kernel_rfl, by kernel_rfl⟩
theorem F54 : FnF C0 54 Try.f54 [(2, [(0, .val), (1, .val), (2, .val), (3, .val), (8, .val), (9, .val)])] [] [] := ⟨Try.func54, by kernel_rfl, by kernel_rfl, by kernel_rfl, by kernel_rfl⟩
theorem F55 : FnF C0 55 Try.f55 [(4, [(0, .val), (3, .val)])] [] [.tmp 2] := ⟨Try.func55, by kernel_rfl, by kernel_rfl, by kernel_rfl, by kernel_rfl⟩
theorem F56 : FnF C0 56 Try.f56 [(2, [(0, .val), (3, .val)])] [] [.tmp 2] := ⟨Try.func56, by kernel_rfl, by kernel_rfl, by kernel_rfl, by kernel_rfl⟩
theorem F57 : FnF C0 57 Try.f57 [(3, [(3, .val), (6, .val), (7, .val), (8, .val)])] [] [.tmp 2] := ⟨Try.func57, by kernel_rfl, by kernel_rfl, by kernel_rfl, by kernel_rfl⟩
theorem F58 : FnF C0 58 Try.f58 [] [] [.tmp 4] := ⟨Try.func58, by kernel_rfl, by kernel_rfl, by kernel_rfl, by kernel_rfl⟩
theorem F59 : FnF C0 59 Try.f59 [] [] [.tmp 4] := ⟨Try.func59, by kernel_rfl, by kernel_rfl, by kernel_rfl, by kernel_rfl⟩
theorem F60 : FnF C0 60 Try.f60 [] [] [.tmp 4] := ⟨Try.func60, by kernel_rfl, by kernel_rfl, by kernel_rfl, by kernel_rfl⟩
theorem F61 : FnF C0 61 Try.f61 [] [] [.tmp 3] := ⟨Try.func61, by kernel_rfl, by kernel_rfl, by kernel_rfl, by kernel_rfl⟩
theorem F62 : FnF C0 62 Try.f62 [] [] [.tmp 4] := ⟨Try.func62, by kernel_rfl, by kernel_rfl, by kernel_rfl, by kernel_rfl⟩
theorem F63 : FnF C0 63 Try.f63 [(1, [(0, .val), (2, .val), (3, .val), (8, .val)])] [] [] := ⟨Try.func63, by kernel_rfl, by kernel_rfl, by kernel_rfl, by kernel_rfl⟩
theorem F64 : FnF C0 64 Try.f64 [] [] [.tmp 2] := ⟨Try.func64, by kernel_rfl, by kernel_rfl, by kernel_rfl, by kernel_rfl⟩
theorem F65 : FnF C0 65 Try.f65 [] [] [.tmp 2] := ⟨Try.func65, by kernel_rfl, by kernel_rfl, by kernel_rfl, by kernel_rfl⟩
theorem F66 : FnF C0 66 Try.f66 [] [] [.tmp 6] := ⟨Try.func66, by kernel_rfl, by kernel_rfl, by kernel_rfl, by kernel_rfl⟩
theorem F67 : FnF C0 67 Try.f67 [] [] [.tmp 10] := ⟨Try.func67, by kernel_rfl, by kernel_rfl, by kernel_rfl, by kernel_rfl⟩
theorem F68 : FnF C0 68 Try.f68 [] [] [.tmp 2] := ⟨Try.func68, by kernel_rfl, by kernel_rfl, by kernel_rfl, by kernel_rfl⟩
theorem F69 : FnF C0 69 Try.f69 [(1, [(0, .val), (1, .val), (2, .val), (6, .val)]), (4, [(0, .val), (1, .val), (2, .val), (6, .val), (7, .val)])] [] [] := ⟨Try.func69, by kernel_rfl, by kernel_rfl, by kernel_rfl, by kernel_rfl⟩
theorem F70 : FnF C0 70 Try.f70 [(4, [(0, .val), (6, .val), (7, .val), (8, .val), (9, .val)]), (8, [(0, .val), (6, .val), (7, .val), (10, .val)])] [] [] := ⟨Try.func70, by kernel_rfl, by kernel_rfl, by kernel_rfl, by kernel_rfl⟩
theorem F71 : FnF C0 71 Try.f71 [(5, [(0, .val), (1, .val), (6, .val), (7, .own), (8, .val), (9, .val)])] [] [] := ⟨Try.func71, by kernel_rfl, by kernel_rfl, by kernel_rfl, by kernel_rfl⟩
theorem F72 : FnF C0 72 Try.f72 [] [] [.tmp 6, .tmp 7] := ⟨Try.func72, by kernel_rfl, by kernel_rfl, by kernel_rfl, by kernel_rfl⟩
theorem F73 : FnF C0 73 Try.f73 [(2, [(0, .val), (6, .val), (7, .val)])] [] [] := ⟨Try.func73, by kernel_rfl, by kernel_rfl, by kernel_rfl, by kernel_rfl⟩
theorem F74 : FnF C0 74 Try.f74 [(3, [(0, .val), (1, .val), (2, .val), (7, .val), (8, .val)]), (5, [(0, .val), (1, .val), (2, .val), (7, .val), (8, .val)]), (14, [(0, .val), (1, .val), (2, .val), (7, .val), (8, .val), (9, .val)]), (20, [(0, .val), (1, .val), (2, .val), (7, .val), (8, .val), (10, .val)])] [] [.tmp 6] := ⟨Try.func74, by kernel_rfl, by kernel_rfl, by kernel_rfl, by kernel_rfl⟩
theorem F75 : FnF C0 75 Try.f75 [] [] [.tmp 4] := ⟨Try.func75, by kernel_rfl, by kernel_rfl, by kernel_rfl, by kernel_rfl⟩
theorem F76 : FnF C0 76 Try.f76 [(3, [(0, .val), (1, .val), (9, .val), (10, .val)]), (5, [(0, .val), (1, .val), (9, .val), (10, .val)])] [] [.tmp 8] := ⟨Try.func76, by kernel_rfl, by kernel_rfl, by kernel_rfl, by kernel_rfl⟩
theorem F77 : FnF C0 77 Try.f77 [(3, [(0, .val), (1, .val), (10, .val), (11, .val)]), (5, [(0, .val), (1, .val), (10, .val), (11, .val)]), (13, [(0, .val), (1, .val), (10, .val), (11, .val)]), (15, [(0, .val), (1, .val), (10, .val), (11, .val)])] [] [.tmp 8, .tmp 9] := ⟨Try.func77, by kernel_rfl, by kernel_rfl, by kernel_rfl, by kernel_rfl⟩
theorem F78 : FnF C0 78 Try.f78 [] [] [.tmp 2] := ⟨Try.func78, by kernel_rfl, by kernel_rfl, by kernel_rfl, by kernel_rfl⟩
theorem F79 : FnF C0 79 Try.f79 [] [] [.tmp 2] := ⟨Try.func79, by kernel_rfl, by kernel_rfl, by kernel_rfl, by kernel_rfl⟩
theorem F80 : FnF C0 80 Try.f80 [] [] [.tmp 2] := ⟨Try.func80, by kernel_rfl, by kernel_rfl, by kernel_rfl, by kernel_rfl⟩
theorem F81 : FnF C0 81 Try.f81 [] [] [.tmp 2] := ⟨Try.func81, by kernel_rfl, by kernel_rfl, by kernel_rfl, by kernel_rfl⟩
theorem F82 : FnF C0 82 Try.f82 [(2, [(0, .val), (1, .val), (7, .val), (8, .val)])] [] [.tmp 4] := ⟨Try.func82, by kernel_rfl, by kernel_rfl, by kernel_rfl, by kernel_rfl⟩
theorem F83 : FnF C0 83 Try.f83 [] [] [.tmp 8, .tmp 9] := ⟨Try.func83, by kernel_rfl, by kernel_rfl, by kernel_rfl, by kernel_rfl⟩
@[go_sem] theorem sz0 : sizeT C0.P 0 = some 1 := by kernel_rfl
@[go_sem] theorem by0 : bytesT C0.P 0 = some 0 := by kernel_rfl
@[go_sem] theorem ag0 : aggT C0.P 0 = some false := by kernel_rfl
@[go_sem] theorem pu0 : pureT C0.P 12 0 = true := by kernel_rfl
@[go_sem] theorem un0 : C0.P.underlying 0 = some (Go.TypeDesc.tuple (List.toArray [])) := by kernel_rfl
@[go_sem] theorem sz1 : sizeT C0.P 1 = some 1 := by kernel_rfl
@[go_sem] theorem by1 : bytesT C0.P 1 = some 8 := by kernel_rfl
@[go_sem] theorem ag1 : aggT C0.P 1 = some false := by kernel_rfl
@[go_sem] theorem pu1 : pureT C0.P 12 1 = false := by kernel_rfl
@[go_sem] theorem ze1 : zeroT C0.P 1 = some V.nil := by kernel_rfl
@[go_sem] theorem un1 : C0.P.underlying 1 = some (Go.TypeDesc.func (List.toArray []) (List.toArray []) false) := by kernel_rfl
@[go_sem] theorem sz2 : sizeT C0.P 2 = some 1 := by kernel_rfl
@[go_sem] theorem by2 : bytesT C0.P 2 = some 8 := by kernel_rfl
@[go_sem] theorem ag2 : aggT C0.P 2 = some false := by kernel_rfl
@[go_sem] theorem pu2 : pureT C0.P 12 2 = true := by kernel_rfl
@[go_sem] theorem ze2 : zeroT C0.P 2 = some (V.int Go.IntKind.i64 0) := by kernel_rfl
@[go_sem] theorem un2 : C0.P.underlying 2 = some (Go.TypeDesc.int Go.IntKind.i64) := by kernel_rfl
@[go_sem] theorem sz3 : sizeT C0.P 3 = some 1 := by kernel_rfl
@[go_sem] theorem by3 : bytesT C0.P 3 = some 8 := by kernel_rfl
@[go_sem] theorem ag3 : aggT C0.P 3 = some false := by kernel_rfl
@[go_sem] theorem pu3 : pureT C0.P 12 3 = true := by kernel_rfl
@[go_sem] theorem ze3 : zeroT C0.P 3 = some (V.int Go.IntKind.i64 0) := by kernel_rfl
@[go_sem] theorem un3 : C0.P.underlying 3 = some (Go.TypeDesc.int Go.IntKind.i64) := by kernel_rfl
@[go_sem] theorem sz4 : sizeT C0.P 4 = some 1 := by kernel_rfl
@[go_sem] theorem by4 : bytesT C0.P 4 = some 1 := by kernel_rfl
@[go_sem] theorem ag4 : aggT C0.P 4 = some false := by kernel_rfl
@[go_sem] theorem pu4 : pureT C0.P 12 4 = true := by kernel_rfl
@[go_sem] theorem ze4 : zeroT C0.P 4 = some (V.bool false) := by kernel_rfl
@[go_sem] theorem un4 : C0.P.underlying 4 = some Go.TypeDesc.bool := by kernel_rfl
@[go_sem] theorem sz5 : sizeT C0.P 5 = some 1 := by kernel_rfl
@[go_sem] theorem by5 : bytesT C0.P 5 = some 1 := by kernel_rfl
@[go_sem] theorem ag5 : aggT C0.P 5 = some false := by kernel_rfl
@[go_sem] theorem pu5 : pureT C0.P 12 5 = true := by kernel_rfl
@[go_sem] theorem ze5 : zeroT C0.P 5 = some (V.int Go.IntKind.u8 0) := by kernel_rfl
@[go_sem] theorem un5 : C0.P.underlying 5 = some (Go.TypeDesc.int Go.IntKind.u8) := by kernel_rfl
@[go_sem] theorem sz6 : sizeT C0.P 6 = some 1 := by kernel_rfl
@[go_sem] theorem by6 : bytesT C0.P 6 = some 1 := by kernel_rfl
@[go_sem] theorem ag6 : aggT C0.P 6 = some false := by kernel_rfl
@[go_sem] theorem pu6 : pureT C0.P 12 6 = true := by kernel_rfl
@[go_sem] theorem ze6 : zeroT C0.P 6 = some (V.int Go.IntKind.u8 0) := by kernel_rfl
@[go_sem] theorem un6 : C0.P.underlying 6 = some (Go.TypeDesc.int Go.IntKind.u8) := by kernel_rfl
@[go_sem] theorem sz7 : sizeT C0.P 7 = some 4 := by kernel_rfl
@[go_sem] theorem by7 : bytesT C0.P 7 = some 24 := by kernel_rfl
@[go_sem] theorem ag7 : aggT C0.P 7 = some true := by kernel_rfl
@[go_sem] theorem pu7 : pureT C0.P 12 7 = true := by kernel_rfl
@[go_sem] theorem ze7 : zeroT C0.P 7 = some (V.agg [V.int Go.IntKind.i64 0, V.int Go.IntKind.i64 0, V.bool false, V.int Go.IntKind.u8 0]) := by kernel_rfl
@[go_sem] theorem un7 : C0.P.underlying 7 = some (Go.TypeDesc.struct (List.toArray [{ name := "x", type := 2, offset := 0, embedded := false, tag := "", pkgPath := "runtime", byteOffset := 0 }, { name := "y", type := 3, offset := 1, embedded := false, tag := "", pkgPath := "runtime", byteOffset := 8 }, { name := "signed", type := 4, offset := 2, embedded := false, tag := "", pkgPath := "runtime", byteOffset := 16 }, { name := "code", type := 6, offset := 3, embedded := false, tag := "", pkgPath := "runtime", byteOffset := 17 }])) := by kernel_rfl
@[go_sem] theorem fi7_0 : fieldT C0.P 7 0 = some (0, 2) := by kernel_rfl
@[go_sem] theorem fi7_1 : fieldT C0.P 7 1 = some (1, 3) := by kernel_rfl
@[go_sem] theorem fi7_2 : fieldT C0.P 7 2 = some (2, 4) := by kernel_rfl
@[go_sem] theorem fi7_3 : fieldT C0.P 7 3 = some (3, 6) := by kernel_rfl
@[go_sem] theorem sz8 : sizeT C0.P 8 = some 4 := by kernel_rfl
@[go_sem] theorem by8 : bytesT C0.P 8 = some 24 := by kernel_rfl
@[go_sem] theorem ag8 : aggT C0.P 8 = some true := by kernel_rfl
@[go_sem] theorem pu8 : pureT C0.P 12 8 = true := by kernel_rfl
@[go_sem] theorem ze8 : zeroT C0.P 8 = some (V.agg [V.int Go.IntKind.i64 0, V.int Go.IntKind.i64 0, V.bool false, V.int Go.IntKind.u8 0]) := by kernel_rfl
@[go_sem] theorem un8 : C0.P.underlying 8 = some (Go.TypeDesc.struct (List.toArray [{ name := "x", type := 2, offset := 0, embedded := false, tag := "", pkgPath := "runtime", byteOffset := 0 }, { name := "y", type := 3, offset := 1, embedded := false, tag := "", pkgPath := "runtime", byteOffset := 8 }, { name := "signed", type := 4, offset := 2, embedded := false, tag := "", pkgPath := "runtime", byteOffset := 16 }, { name := "code", type := 6, offset := 3, embedded := false, tag := "", pkgPath := "runtime", byteOffset := 17 }])) := by kernel_rfl
@[go_sem] theorem fi8_0 : fieldT C0.P 8 0 = some (0, 2) := by kernel_rfl
@[go_sem] theorem fi8_1 : fieldT C0.P 8 1 = some (1, 3) := by kernel_rfl
@[go_sem] theorem fi8_2 : fieldT C0.P 8 2 = some (2, 4) := by kernel_rfl
@[go_sem] theorem fi8_3 : fieldT C0.P 8 3 = some (3, 6) := by kernel_rfl
@[go_sem] theorem sz9 : sizeT C0.P 9 = some 1 := by kernel_rfl
@[go_sem] theorem by9 : bytesT C0.P 9 = some 16 := by kernel_rfl
@[go_sem] theorem ag9 : aggT C0.P 9 = some false := by kernel_rfl
@[go_sem] theorem pu9 : pureT C0.P 12 9 = true := by kernel_rfl
@[go_sem] theorem ze9 : zeroT C0.P 9 = some (V.str { data := (List.toArray []) }) := by kernel_rfl
@[go_sem] theorem un9 : C0.P.underlying 9 = some Go.TypeDesc.string := by kernel_rfl
@[go_sem] theorem sz10 : sizeT C0.P 10 = some 1 := by kernel_rfl
@[go_sem] theorem by10 : bytesT C0.P 10 = some 16 := by kernel_rfl
@[go_sem] theorem ag10 : aggT C0.P 10 = some false := by kernel_rfl
@[go_sem] theorem pu10 : pureT C0.P 12 10 = true := by kernel_rfl
@[go_sem] theorem ze10 : zeroT C0.P 10 = some (V.str { data := (List.toArray []) }) := by kernel_rfl
@[go_sem] theorem un10 : C0.P.underlying 10 = some Go.TypeDesc.string := by kernel_rfl
@[go_sem] theorem sz11 : sizeT C0.P 11 = some 1 := by kernel_rfl
@[go_sem] theorem by11 : bytesT C0.P 11 = some 16 := by kernel_rfl
@[go_sem] theorem ag11 : aggT C0.P 11 = some false := by kernel_rfl
@[go_sem] theorem pu11 : pureT C0.P 12 11 = true := by kernel_rfl
@[go_sem] theorem ze11 : zeroT C0.P 11 = some (V.str { data := (List.toArray []) }) := by kernel_rfl
@[go_sem] theorem un11 : C0.P.underlying 11 = some Go.TypeDesc.string := by kernel_rfl
@[go_sem] theorem sz12 : sizeT C0.P 12 = some 1 := by kernel_rfl
@[go_sem] theorem by12 : bytesT C0.P 12 = some 8 := by kernel_rfl
@[go_sem] theorem ag12 : aggT C0.P 12 = some false := by kernel_rfl
@[go_sem] theorem pu12 : pureT C0.P 12 12 = true := by kernel_rfl
@[go_sem] theorem ze12 : zeroT C0.P 12 = some (V.int Go.IntKind.u64 0) := by kernel_rfl
@[go_sem] theorem un12 : C0.P.underlying 12 = some (Go.TypeDesc.int Go.IntKind.u64) := by kernel_rfl
@[go_sem] theorem sz13 : sizeT C0.P 13 = some 2 := by kernel_rfl
@[go_sem] theorem by13 : bytesT C0.P 13 = some 24 := by kernel_rfl
@[go_sem] theorem ag13 : aggT C0.P 13 = some true := by kernel_rfl
@[go_sem] theorem pu13 : pureT C0.P 12 13 = true := by kernel_rfl
@[go_sem] theorem ze13 : zeroT C0.P 13 = some (V.agg [V.str { data := (List.toArray []) }, V.int Go.IntKind.u64 0]) := by kernel_rfl
@[go_sem] theorem un13 : C0.P.underlying 13 = some (Go.TypeDesc.struct (List.toArray [{ name := "msg", type := 9, offset := 0, embedded := false, tag := "", pkgPath := "runtime", byteOffset := 0 }, { name := "addr", type := 12, offset := 1, embedded := false, tag := "", pkgPath := "runtime", byteOffset := 16 }])) := by kernel_rfl
@[go_sem] theorem fi13_0 : fieldT C0.P 13 0 = some (0, 9) := by kernel_rfl
@[go_sem] theorem fi13_1 : fieldT C0.P 13 1 = some (1, 12) := by kernel_rfl
@[go_sem] theorem sz14 : sizeT C0.P 14 = some 2 := by kernel_rfl
@[go_sem] theorem by14 : bytesT C0.P 14 = some 24 := by kernel_rfl
@[go_sem] theorem ag14 : aggT C0.P 14 = some true := by kernel_rfl
@[go_sem] theorem pu14 : pureT C0.P 12 14 = true := by kernel_rfl
@[go_sem] theorem ze14 : zeroT C0.P 14 = some (V.agg [V.str { data := (List.toArray []) }, V.int Go.IntKind.u64 0]) := by kernel_rfl
@[go_sem] theorem un14 : C0.P.underlying 14 = some (Go.TypeDesc.struct (List.toArray [{ name := "msg", type := 9, offset := 0, embedded := false, tag := "", pkgPath := "runtime", byteOffset := 0 }, { name := "addr", type := 12, offset := 1, embedded := false, tag := "", pkgPath := "runtime", byteOffset := 16 }])) := by kernel_rfl
@[go_sem] theorem fi14_0 : fieldT C0.P 14 0 = some (0, 9) := by kernel_rfl
@[go_sem] theorem fi14_1 : fieldT C0.P 14 1 = some (1, 12) := by kernel_rfl
@[go_sem] theorem sz15 : sizeT C0.P 15 = some 1 := by kernel_rfl
@[go_sem] theorem by15 : bytesT C0.P 15 = some 8 := by kernel_rfl
@[go_sem] theorem ag15 : aggT C0.P 15 = some false := by kernel_rfl
@[go_sem] theorem pu15 : pureT C0.P 12 15 = false := by kernel_rfl
@[go_sem] theorem ze15 : zeroT C0.P 15 = some V.nil := by kernel_rfl
@[go_sem] theorem un15 : C0.P.underlying 15 = some (Go.TypeDesc.pointer 107) := by kernel_rfl
@[go_sem] theorem sz16 : sizeT C0.P 16 = some 1 := by kernel_rfl
@[go_sem] theorem by16 : bytesT C0.P 16 = some 8 := by kernel_rfl
@[go_sem] theorem ag16 : aggT C0.P 16 = some false := by kernel_rfl
@[go_sem] theorem pu16 : pureT C0.P 12 16 = false := by kernel_rfl
@[go_sem] theorem ze16 : zeroT C0.P 16 = some V.nil := by kernel_rfl
@[go_sem] theorem un16 : C0.P.underlying 16 = some (Go.TypeDesc.pointer 110) := by kernel_rfl
@[go_sem] theorem sz17 : sizeT C0.P 17 = some 1 := by kernel_rfl
@[go_sem] theorem by17 : bytesT C0.P 17 = some 8 := by kernel_rfl
@[go_sem] theorem ag17 : aggT C0.P 17 = some false := by kernel_rfl
@[go_sem] theorem pu17 : pureT C0.P 12 17 = false := by kernel_rfl
@[go_sem] theorem ze17 : zeroT C0.P 17 = some V.nil := by kernel_rfl
@[go_sem] theorem un17 : C0.P.underlying 17 = some (Go.TypeDesc.pointer 119) := by kernel_rfl
@[go_sem] theorem sz18 : sizeT C0.P 18 = some 1 := by kernel_rfl
@[go_sem] theorem by18 : bytesT C0.P 18 = some 8 := by kernel_rfl
@[go_sem] theorem ag18 : aggT C0.P 18 = some true := by kernel_rfl
@[go_sem] theorem pu18 : pureT C0.P 12 18 = false := by kernel_rfl
@[go_sem] theorem ze18 : zeroT C0.P 18 = some (V.agg [V.nil]) := by kernel_rfl
@[go_sem] theorem un18 : C0.P.underlying 18 = some (Go.TypeDesc.struct (List.toArray [{ name := "typ", type := 17, offset := 0, embedded := false, tag := "", pkgPath := "internal/runtime/maps", byteOffset := 0 }])) := by kernel_rfl
@[go_sem] theorem fi18_0 : fieldT C0.P 18 0 = some (0, 17) := by kernel_rfl
@[go_sem] theorem sz19 : sizeT C0.P 19 = some 1 := by kernel_rfl
@[go_sem] theorem by19 : bytesT C0.P 19 = some 8 := by kernel_rfl
@[go_sem] theorem ag19 : aggT C0.P 19 = some true := by kernel_rfl
@[go_sem] theorem pu19 : pureT C0.P 12 19 = false := by kernel_rfl
@[go_sem] theorem ze19 : zeroT C0.P 19 = some (V.agg [V.nil]) := by kernel_rfl
@[go_sem] theorem un19 : C0.P.underlying 19 = some (Go.TypeDesc.struct (List.toArray [{ name := "typ", type := 17, offset := 0, embedded := false, tag := "", pkgPath := "internal/runtime/maps", byteOffset := 0 }])) := by kernel_rfl
@[go_sem] theorem fi19_0 : fieldT C0.P 19 0 = some (0, 17) := by kernel_rfl
@[go_sem] theorem sz20 : sizeT C0.P 20 = some 1 := by kernel_rfl
@[go_sem] theorem by20 : bytesT C0.P 20 = some 16 := by kernel_rfl
@[go_sem] theorem ag20 : aggT C0.P 20 = some false := by kernel_rfl
@[go_sem] theorem pu20 : pureT C0.P 12 20 = false := by kernel_rfl
@[go_sem] theorem un20 : C0.P.underlying 20 = some (Go.TypeDesc.interface (List.toArray [])) := by kernel_rfl
@[go_sem] theorem sz21 : sizeT C0.P 21 = some 1 := by kernel_rfl
@[go_sem] theorem by21 : bytesT C0.P 21 = some 4 := by kernel_rfl
@[go_sem] theorem ag21 : aggT C0.P 21 = some false := by kernel_rfl
@[go_sem] theorem pu21 : pureT C0.P 12 21 = true := by kernel_rfl
@[go_sem] theorem ze21 : zeroT C0.P 21 = some (V.int Go.IntKind.i32 0) := by kernel_rfl
@[go_sem] theorem un21 : C0.P.underlying 21 = some (Go.TypeDesc.int Go.IntKind.i32) := by kernel_rfl
@[go_sem] theorem sz22 : sizeT C0.P 22 = some 1 := by kernel_rfl
@[go_sem] theorem by22 : bytesT C0.P 22 = some 24 := by kernel_rfl
@[go_sem] theorem ag22 : aggT C0.P 22 = some false := by kernel_rfl
@[go_sem] theorem el22 : elemT C0.P 22 = some 36 := by kernel_rfl
@[go_sem] theorem pu22 : pureT C0.P 12 22 = false := by kernel_rfl
@[go_sem] theorem ze22 : zeroT C0.P 22 = some (V.sl true 3 []) := by kernel_rfl
@[go_sem] theorem un22 : C0.P.underlying 22 = some (Go.TypeDesc.slice 36) := by kernel_rfl
@[go_sem] theorem sz23 : sizeT C0.P 23 = some 1 := by kernel_rfl
@[go_sem] theorem by23 : bytesT C0.P 23 = some 8 := by kernel_rfl
@[go_sem] theorem ag23 : aggT C0.P 23 = some false := by kernel_rfl
@[go_sem] theorem pu23 : pureT C0.P 12 23 = false := by kernel_rfl
@[go_sem] theorem ze23 : zeroT C0.P 23 = some V.nil := by kernel_rfl
@[go_sem] theorem un23 : C0.P.underlying 23 = some (Go.TypeDesc.func (List.toArray [22, 3]) (List.toArray [3]) false) := by kernel_rfl
@[go_sem] theorem sz24 : sizeT C0.P 24 = some 1 := by kernel_rfl
@[go_sem] theorem by24 : bytesT C0.P 24 = some 24 := by kernel_rfl
@[go_sem] theorem ag24 : aggT C0.P 24 = some false := by kernel_rfl
@[go_sem] theorem el24 : elemT C0.P 24 = some 39 := by kernel_rfl
@[go_sem] theorem pu24 : pureT C0.P 12 24 = false := by kernel_rfl
@[go_sem] theorem ze24 : zeroT C0.P 24 = some (V.sl true 1 []) := by kernel_rfl
@[go_sem] theorem un24 : C0.P.underlying 24 = some (Go.TypeDesc.slice 39) := by kernel_rfl
@[go_sem] theorem sz25 : sizeT C0.P 25 = some 1 := by kernel_rfl
@[go_sem] theorem by25 : bytesT C0.P 25 = some 0 := by kernel_rfl
@[go_sem] theorem ag25 : aggT C0.P 25 = some false := by kernel_rfl
@[go_sem] theorem pu25 : pureT C0.P 12 25 = false := by kernel_rfl
@[go_sem] theorem un25 : C0.P.underlying 25 = some (Go.TypeDesc.tuple (List.toArray [24, 2])) := by kernel_rfl
@[go_sem] theorem sz26 : sizeT C0.P 26 = some 1 := by kernel_rfl
@[go_sem] theorem by26 : bytesT C0.P 26 = some 8 := by kernel_rfl
@[go_sem] theorem ag26 : aggT C0.P 26 = some false := by kernel_rfl
@[go_sem] theorem pu26 : pureT C0.P 12 26 = false := by kernel_rfl
@[go_sem] theorem ze26 : zeroT C0.P 26 = some V.nil := by kernel_rfl
@[go_sem] theorem un26 : C0.P.underlying 26 = some (Go.TypeDesc.func (List.toArray [27, 2, 2, 2]) (List.toArray [24, 2]) false) := by kernel_rfl
@[go_sem] theorem sz27 : sizeT C0.P 27 = some 1 := by kernel_rfl
@[go_sem] theorem by27 : bytesT C0.P 27 = some 24 := by kernel_rfl
@[go_sem] theorem ag27 : aggT C0.P 27 = some false := by kernel_rfl
@[go_sem] theorem el27 : elemT C0.P 27 = some 41 := by kernel_rfl
@[go_sem] theorem pu27 : pureT C0.P 12 27 = false := by kernel_rfl
@[go_sem] theorem ze27 : zeroT C0.P 27 = some (V.sl true 3 []) := by kernel_rfl
@[go_sem] theorem un27 : C0.P.underlying 27 = some (Go.TypeDesc.slice 41) := by kernel_rfl
@[go_sem] theorem sz28 : sizeT C0.P 28 = some 1 := by kernel_rfl
@[go_sem] theorem by28 : bytesT C0.P 28 = some 8 := by kernel_rfl
@[go_sem] theorem ag28 : aggT C0.P 28 = some false := by kernel_rfl
@[go_sem] theorem pu28 : pureT C0.P 12 28 = false := by kernel_rfl
@[go_sem] theorem ze28 : zeroT C0.P 28 = some V.nil := by kernel_rfl
@[go_sem] theorem un28 : C0.P.underlying 28 = some (Go.TypeDesc.func (List.toArray [22]) (List.toArray [27]) false) := by kernel_rfl
@[go_sem] theorem sz29 : sizeT C0.P 29 = some 1 := by kernel_rfl
@[go_sem] theorem by29 : bytesT C0.P 29 = some 8 := by kernel_rfl
@[go_sem] theorem ag29 : aggT C0.P 29 = some false := by kernel_rfl
@[go_sem] theorem pu29 : pureT C0.P 12 29 = false := by kernel_rfl
@[go_sem] theorem ze29 : zeroT C0.P 29 = some V.nil := by kernel_rfl
@[go_sem] theorem un29 : C0.P.underlying 29 = some (Go.TypeDesc.func (List.toArray [24, 24]) (List.toArray [4]) false) := by kernel_rfl
@[go_sem] theorem sz30 : sizeT C0.P 30 = some 1 := by kernel_rfl
@[go_sem] theorem by30 : bytesT C0.P 30 = some 8 := by kernel_rfl
@[go_sem] theorem ag30 : aggT C0.P 30 = some false := by kernel_rfl
@[go_sem] theorem pu30 : pureT C0.P 12 30 = false := by kernel_rfl
@[go_sem] theorem ze30 : zeroT C0.P 30 = some V.nil := by kernel_rfl
@[go_sem] theorem un30 : C0.P.underlying 30 = some (Go.TypeDesc.func (List.toArray [27, 27]) (List.toArray [4]) false) := by kernel_rfl
@[go_sem] theorem sz31 : sizeT C0.P 31 = some 1 := by kernel_rfl
@[go_sem] theorem by31 : bytesT C0.P 31 = some 8 := by kernel_rfl
@[go_sem] theorem ag31 : aggT C0.P 31 = some false := by kernel_rfl
@[go_sem] theorem pu31 : pureT C0.P 12 31 = false := by kernel_rfl
@[go_sem] theorem ze31 : zeroT C0.P 31 = some V.nil := by kernel_rfl
@[go_sem] theorem un31 : C0.P.underlying 31 = some (Go.TypeDesc.func (List.toArray [27, 3]) (List.toArray [3]) false) := by kernel_rfl
@[go_sem] theorem sz32 : sizeT C0.P 32 = some 1 := by kernel_rfl
@[go_sem] theorem by32 : bytesT C0.P 32 = some 8 := by kernel_rfl
@[go_sem] theorem ag32 : aggT C0.P 32 = some false := by kernel_rfl
@[go_sem] theorem pu32 : pureT C0.P 12 32 = false := by kernel_rfl
@[go_sem] theorem ze32 : zeroT C0.P 32 = some V.nil := by kernel_rfl
@[go_sem] theorem un32 : C0.P.underlying 32 = some (Go.TypeDesc.func (List.toArray [24, 3]) (List.toArray [3]) false) := by kernel_rfl
@[go_sem] theorem sz33 : sizeT C0.P 33 = some 1 := by kernel_rfl
@[go_sem] theorem by33 : bytesT C0.P 33 = some 8 := by kernel_rfl
@[go_sem] theorem ag33 : aggT C0.P 33 = some false := by kernel_rfl
@[go_sem] theorem pu33 : pureT C0.P 12 33 = false := by kernel_rfl
@[go_sem] theorem ze33 : zeroT C0.P 33 = some V.nil := by kernel_rfl
@[go_sem] theorem un33 : C0.P.underlying 33 = some (Go.TypeDesc.func (List.toArray [22, 2, 2, 2]) (List.toArray [4]) false) := by kernel_rfl
@[go_sem] theorem sz34 : sizeT C0.P 34 = some 1 := by kernel_rfl
@[go_sem] theorem by34 : bytesT C0.P 34 = some 8 := by kernel_rfl
@[go_sem] theorem ag34 : aggT C0.P 34 = some false := by kernel_rfl
@[go_sem] theorem pu34 : pureT C0.P 12 34 = false := by kernel_rfl
@[go_sem] theorem ze34 : zeroT C0.P 34 = some V.nil := by kernel_rfl
@[go_sem] theorem un34 : C0.P.underlying 34 = some (Go.TypeDesc.func (List.toArray [36, 3]) (List.toArray [3]) false) := by kernel_rfl
@[go_sem] theorem sz35 : sizeT C0.P 35 = some 3 := by kernel_rfl
@[go_sem] theorem by35 : bytesT C0.P 35 = some 32 := by kernel_rfl
@[go_sem] theorem ag35 : aggT C0.P 35 = some true := by kernel_rfl
@[go_sem] theorem pu35 : pureT C0.P 12 35 = true := by kernel_rfl
@[go_sem] theorem ze35 : zeroT C0.P 35 = some (V.agg [V.str { data := (List.toArray []) }, V.int Go.IntKind.i64 0, V.int Go.IntKind.i64 0]) := by kernel_rfl
@[go_sem] theorem un35 : C0.P.underlying 35 = some (Go.TypeDesc.struct (List.toArray [{ name := "Keeper", type := 9, offset := 0, embedded := false, tag := "", pkgPath := "", byteOffset := 0 }, { name := "From", type := 2, offset := 1, embedded := false, tag := "", pkgPath := "", byteOffset := 16 }, { name := "Until", type := 2, offset := 2, embedded := false, tag := "", pkgPath := "", byteOffset := 24 }])) := by kernel_rfl
@[go_sem] theorem fi35_0 : fieldT C0.P 35 0 = some (0, 9) := by kernel_rfl
@[go_sem] theorem fi35_1 : fieldT C0.P 35 1 = some (1, 2) := by kernel_rfl
@[go_sem] theorem fi35_2 : fieldT C0.P 35 2 = some (2, 2) := by kernel_rfl
@[go_sem] theorem sz36 : sizeT C0.P 36 = some 3 := by kernel_rfl
@[go_sem] theorem by36 : bytesT C0.P 36 = some 32 := by kernel_rfl
@[go_sem] theorem ag36 : aggT C0.P 36 = some true := by kernel_rfl
@[go_sem] theorem pu36 : pureT C0.P 12 36 = true := by kernel_rfl
@[go_sem] theorem ze36 : zeroT C0.P 36 = some (V.agg [V.str { data := (List.toArray []) }, V.int Go.IntKind.i64 0, V.int Go.IntKind.i64 0]) := by kernel_rfl
@[go_sem] theorem un36 : C0.P.underlying 36 = some (Go.TypeDesc.struct (List.toArray [{ name := "Keeper", type := 9, offset := 0, embedded := false, tag := "", pkgPath := "", byteOffset := 0 }, { name := "From", type := 2, offset := 1, embedded := false, tag := "", pkgPath := "", byteOffset := 16 }, { name := "Until", type := 2, offset := 2, embedded := false, tag := "", pkgPath := "", byteOffset := 24 }])) := by kernel_rfl
@[go_sem] theorem fi36_0 : fieldT C0.P 36 0 = some (0, 9) := by kernel_rfl
@[go_sem] theorem fi36_1 : fieldT C0.P 36 1 = some (1, 2) := by kernel_rfl
@[go_sem] theorem fi36_2 : fieldT C0.P 36 2 = some (2, 2) := by kernel_rfl
@[go_sem] theorem sz37 : sizeT C0.P 37 = some 1 := by kernel_rfl
@[go_sem] theorem by37 : bytesT C0.P 37 = some 8 := by kernel_rfl
@[go_sem] theorem ag37 : aggT C0.P 37 = some false := by kernel_rfl
@[go_sem] theorem pu37 : pureT C0.P 12 37 = false := by kernel_rfl
@[go_sem] theorem ze37 : zeroT C0.P 37 = some V.nil := by kernel_rfl
@[go_sem] theorem un37 : C0.P.underlying 37 = some (Go.TypeDesc.func (List.toArray [27, 2, 2]) (List.toArray [2]) false) := by kernel_rfl
@[go_sem] theorem sz38 : sizeT C0.P 38 = some 1 := by kernel_rfl
@[go_sem] theorem by38 : bytesT C0.P 38 = some 8 := by kernel_rfl
@[go_sem] theorem ag38 : aggT C0.P 38 = some false := by kernel_rfl
@[go_sem] theorem pu38 : pureT C0.P 12 38 = false := by kernel_rfl
@[go_sem] theorem ze38 : zeroT C0.P 38 = some V.nil := by kernel_rfl
@[go_sem] theorem un38 : C0.P.underlying 38 = some (Go.TypeDesc.func (List.toArray [2, 2, 2]) (List.toArray [4]) false) := by kernel_rfl
@[go_sem] theorem sz39 : sizeT C0.P 39 = some 1 := by kernel_rfl
@[go_sem] theorem by39 : bytesT C0.P 39 = some 24 := by kernel_rfl
@[go_sem] theorem ag39 : aggT C0.P 39 = some false := by kernel_rfl
@[go_sem] theorem el39 : elemT C0.P 39 = some 2 := by kernel_rfl
@[go_sem] theorem pu39 : pureT C0.P 12 39 = false := by kernel_rfl
@[go_sem] theorem ze39 : zeroT C0.P 39 = some (V.sl true 1 []) := by kernel_rfl
@[go_sem] theorem un39 : C0.P.underlying 39 = some (Go.TypeDesc.slice 2) := by kernel_rfl
@[go_sem] theorem sz40 : sizeT C0.P 40 = some 1 := by kernel_rfl
@[go_sem] theorem by40 : bytesT C0.P 40 = some 8 := by kernel_rfl
@[go_sem] theorem ag40 : aggT C0.P 40 = some false := by kernel_rfl
@[go_sem] theorem pu40 : pureT C0.P 12 40 = false := by kernel_rfl
@[go_sem] theorem ze40 : zeroT C0.P 40 = some V.nil := by kernel_rfl
@[go_sem] theorem un40 : C0.P.underlying 40 = some (Go.TypeDesc.func (List.toArray [39, 2]) (List.toArray [39]) false) := by kernel_rfl
@[go_sem] theorem sz41 : sizeT C0.P 41 = some 3 := by kernel_rfl
@[go_sem] theorem by41 : bytesT C0.P 41 = some 32 := by kernel_rfl
@[go_sem] theorem ag41 : aggT C0.P 41 = some true := by kernel_rfl
@[go_sem] theorem pu41 : pureT C0.P 12 41 = true := by kernel_rfl
@[go_sem] theorem ze41 : zeroT C0.P 41 = some (V.agg [V.str { data := (List.toArray []) }, V.int Go.IntKind.i64 0, V.int Go.IntKind.i64 0]) := by kernel_rfl
@[go_sem] theorem un41 : C0.P.underlying 41 = some (Go.TypeDesc.struct (List.toArray [{ name := "Keeper", type := 9, offset := 0, embedded := false, tag := "", pkgPath := "", byteOffset := 0 }, { name := "From", type := 2, offset := 1, embedded := false, tag := "", pkgPath := "", byteOffset := 16 }, { name := "Until", type := 2, offset := 2, embedded := false, tag := "", pkgPath := "", byteOffset := 24 }])) := by kernel_rfl
@[go_sem] theorem fi41_0 : fieldT C0.P 41 0 = some (0, 9) := by kernel_rfl
@[go_sem] theorem fi41_1 : fieldT C0.P 41 1 = some (1, 2) := by kernel_rfl
@[go_sem] theorem fi41_2 : fieldT C0.P 41 2 = some (2, 2) := by kernel_rfl
@[go_sem] theorem sz42 : sizeT C0.P 42 = some 1 := by kernel_rfl
@[go_sem] theorem by42 : bytesT C0.P 42 = some 8 := by kernel_rfl
@[go_sem] theorem ag42 : aggT C0.P 42 = some false := by kernel_rfl
@[go_sem] theorem pu42 : pureT C0.P 12 42 = false := by kernel_rfl
@[go_sem] theorem ze42 : zeroT C0.P 42 = some V.nil := by kernel_rfl
@[go_sem] theorem un42 : C0.P.underlying 42 = some (Go.TypeDesc.func (List.toArray [27, 2]) (List.toArray [2]) false) := by kernel_rfl
@[go_sem] theorem sz43 : sizeT C0.P 43 = some 1 := by kernel_rfl
@[go_sem] theorem by43 : bytesT C0.P 43 = some 8 := by kernel_rfl
@[go_sem] theorem ag43 : aggT C0.P 43 = some false := by kernel_rfl
@[go_sem] theorem pu43 : pureT C0.P 12 43 = false := by kernel_rfl
@[go_sem] theorem ze43 : zeroT C0.P 43 = some V.nil := by kernel_rfl
@[go_sem] theorem un43 : C0.P.underlying 43 = some (Go.TypeDesc.func (List.toArray [36]) (List.toArray [41]) false) := by kernel_rfl
@[go_sem] theorem sz44 : sizeT C0.P 44 = some 1 := by kernel_rfl
@[go_sem] theorem by44 : bytesT C0.P 44 = some 8 := by kernel_rfl
@[go_sem] theorem ag44 : aggT C0.P 44 = some false := by kernel_rfl
@[go_sem] theorem pu44 : pureT C0.P 12 44 = false := by kernel_rfl
@[go_sem] theorem ze44 : zeroT C0.P 44 = some V.nil := by kernel_rfl
@[go_sem] theorem un44 : C0.P.underlying 44 = some (Go.TypeDesc.func (List.toArray [39]) (List.toArray []) false) := by kernel_rfl
@[go_sem] theorem sz45 : sizeT C0.P 45 = some 1 := by kernel_rfl
@[go_sem] theorem by45 : bytesT C0.P 45 = some 8 := by kernel_rfl
@[go_sem] theorem ag45 : aggT C0.P 45 = some false := by kernel_rfl
@[go_sem] theorem pu45 : pureT C0.P 12 45 = false := by kernel_rfl
@[go_sem] theorem ze45 : zeroT C0.P 45 = some V.nil := by kernel_rfl
@[go_sem] theorem un45 : C0.P.underlying 45 = some (Go.TypeDesc.func (List.toArray [39]) (List.toArray [39]) false) := by kernel_rfl
@[go_sem] theorem sz46 : sizeT C0.P 46 = some 1 := by kernel_rfl
@[go_sem] theorem by46 : bytesT C0.P 46 = some 24 := by kernel_rfl
@[go_sem] theorem ag46 : aggT C0.P 46 = some false := by kernel_rfl
@[go_sem] theorem el46 : elemT C0.P 46 = some 9 := by kernel_rfl
@[go_sem] theorem pu46 : pureT C0.P 12 46 = false := by kernel_rfl
@[go_sem] theorem ze46 : zeroT C0.P 46 = some (V.sl true 1 []) := by kernel_rfl
@[go_sem] theorem un46 : C0.P.underlying 46 = some (Go.TypeDesc.slice 9) := by kernel_rfl
@[go_sem] theorem sz47 : sizeT C0.P 47 = some 1 := by kernel_rfl
@[go_sem] theorem by47 : bytesT C0.P 47 = some 8 := by kernel_rfl
@[go_sem] theorem ag47 : aggT C0.P 47 = some false := by kernel_rfl
@[go_sem] theorem pu47 : pureT C0.P 12 47 = false := by kernel_rfl
@[go_sem] theorem ze47 : zeroT C0.P 47 = some V.nil := by kernel_rfl
@[go_sem] theorem un47 : C0.P.underlying 47 = some (Go.TypeDesc.func (List.toArray [27, 2]) (List.toArray [46]) false) := by kernel_rfl
@[go_sem] theorem sz48 : sizeT C0.P 48 = some 1 := by kernel_rfl
@[go_sem] theorem by48 : bytesT C0.P 48 = some 8 := by kernel_rfl
@[go_sem] theorem ag48 : aggT C0.P 48 = some false := by kernel_rfl
@[go_sem] theorem pu48 : pureT C0.P 12 48 = false := by kernel_rfl
@[go_sem] theorem ze48 : zeroT C0.P 48 = some V.nil := by kernel_rfl
@[go_sem] theorem un48 : C0.P.underlying 48 = some (Go.TypeDesc.func (List.toArray [39, 39]) (List.toArray [4]) false) := by kernel_rfl
@[go_sem] theorem sz49 : sizeT C0.P 49 = some 1 := by kernel_rfl
@[go_sem] theorem by49 : bytesT C0.P 49 = some 8 := by kernel_rfl
@[go_sem] theorem ag49 : aggT C0.P 49 = some false := by kernel_rfl
@[go_sem] theorem pu49 : pureT C0.P 12 49 = false := by kernel_rfl
@[go_sem] theorem ze49 : zeroT C0.P 49 = some V.nil := by kernel_rfl
@[go_sem] theorem un49 : C0.P.underlying 49 = some (Go.TypeDesc.func (List.toArray [41, 41]) (List.toArray [4]) false) := by kernel_rfl
@[go_sem] theorem sz50 : sizeT C0.P 50 = some 1 := by kernel_rfl
@[go_sem] theorem by50 : bytesT C0.P 50 = some 8 := by kernel_rfl
@[go_sem] theorem ag50 : aggT C0.P 50 = some false := by kernel_rfl
@[go_sem] theorem pu50 : pureT C0.P 12 50 = false := by kernel_rfl
@[go_sem] theorem ze50 : zeroT C0.P 50 = some V.nil := by kernel_rfl
@[go_sem] theorem un50 : C0.P.underlying 50 = some (Go.TypeDesc.func (List.toArray [3]) (List.toArray [9]) false) := by kernel_rfl
@[go_sem] theorem sz51 : sizeT C0.P 51 = some 1 := by kernel_rfl
@[go_sem] theorem by51 : bytesT C0.P 51 = some 8 := by kernel_rfl
@[go_sem] theorem ag51 : aggT C0.P 51 = some false := by kernel_rfl
@[go_sem] theorem pu51 : pureT C0.P 12 51 = false := by kernel_rfl
@[go_sem] theorem ze51 : zeroT C0.P 51 = some V.nil := by kernel_rfl
@[go_sem] theorem un51 : C0.P.underlying 51 = some (Go.TypeDesc.func (List.toArray [39, 3]) (List.toArray [3]) false) := by kernel_rfl
@[go_sem] theorem sz52 : sizeT C0.P 52 = some 1 := by kernel_rfl
@[go_sem] theorem by52 : bytesT C0.P 52 = some 8 := by kernel_rfl
@[go_sem] theorem ag52 : aggT C0.P 52 = some false := by kernel_rfl
@[go_sem] theorem pu52 : pureT C0.P 12 52 = false := by kernel_rfl
@[go_sem] theorem ze52 : zeroT C0.P 52 = some V.nil := by kernel_rfl
@[go_sem] theorem un52 : C0.P.underlying 52 = some (Go.TypeDesc.func (List.toArray [27]) (List.toArray [4]) false) := by kernel_rfl
@[go_sem] theorem sz53 : sizeT C0.P 53 = some 1 := by kernel_rfl
@[go_sem] theorem by53 : bytesT C0.P 53 = some 8 := by kernel_rfl
@[go_sem] theorem ag53 : aggT C0.P 53 = some false := by kernel_rfl
@[go_sem] theorem pu53 : pureT C0.P 12 53 = false := by kernel_rfl
@[go_sem] theorem ze53 : zeroT C0.P 53 = some V.nil := by kernel_rfl
@[go_sem] theorem un53 : C0.P.underlying 53 = some (Go.TypeDesc.func (List.toArray [2]) (List.toArray [4]) false) := by kernel_rfl
@[go_sem] theorem sz54 : sizeT C0.P 54 = some 1 := by kernel_rfl
@[go_sem] theorem by54 : bytesT C0.P 54 = some 8 := by kernel_rfl
@[go_sem] theorem ag54 : aggT C0.P 54 = some false := by kernel_rfl
@[go_sem] theorem pu54 : pureT C0.P 12 54 = false := by kernel_rfl
@[go_sem] theorem ze54 : zeroT C0.P 54 = some V.nil := by kernel_rfl
@[go_sem] theorem un54 : C0.P.underlying 54 = some (Go.TypeDesc.func (List.toArray [39, 3, 3, 3]) (List.toArray []) false) := by kernel_rfl
@[go_sem] theorem sz55 : sizeT C0.P 55 = some 1 := by kernel_rfl
@[go_sem] theorem by55 : bytesT C0.P 55 = some 8 := by kernel_rfl
@[go_sem] theorem ag55 : aggT C0.P 55 = some false := by kernel_rfl
@[go_sem] theorem pu55 : pureT C0.P 12 55 = false := by kernel_rfl
@[go_sem] theorem ze55 : zeroT C0.P 55 = some V.nil := by kernel_rfl
@[go_sem] theorem un55 : C0.P.underlying 55 = some (Go.TypeDesc.func (List.toArray [56]) (List.toArray [3]) false) := by kernel_rfl
@[go_sem] theorem sz56 : sizeT C0.P 56 = some 1 := by kernel_rfl
@[go_sem] theorem by56 : bytesT C0.P 56 = some 8 := by kernel_rfl
@[go_sem] theorem ag56 : aggT C0.P 56 = some false := by kernel_rfl
@[go_sem] theorem pu56 : pureT C0.P 12 56 = true := by kernel_rfl
@[go_sem] theorem ze56 : zeroT C0.P 56 = some (V.int Go.IntKind.u64 0) := by kernel_rfl
@[go_sem] theorem un56 : C0.P.underlying 56 = some (Go.TypeDesc.int Go.IntKind.u64) := by kernel_rfl
@[go_sem] theorem sz57 : sizeT C0.P 57 = some 1 := by kernel_rfl
@[go_sem] theorem by57 : bytesT C0.P 57 = some 8 := by kernel_rfl
@[go_sem] theorem ag57 : aggT C0.P 57 = some false := by kernel_rfl
@[go_sem] theorem pu57 : pureT C0.P 12 57 = false := by kernel_rfl
@[go_sem] theorem ze57 : zeroT C0.P 57 = some V.nil := by kernel_rfl
@[go_sem] theorem un57 : C0.P.underlying 57 = some (Go.TypeDesc.func (List.toArray [46]) (List.toArray []) false) := by kernel_rfl
@[go_sem] theorem sz58 : sizeT C0.P 58 = some 1 := by kernel_rfl
@[go_sem] theorem by58 : bytesT C0.P 58 = some 24 := by kernel_rfl
@[go_sem] theorem ag58 : aggT C0.P 58 = some false := by kernel_rfl
@[go_sem] theorem el58 : elemT C0.P 58 = some 5 := by kernel_rfl
@[go_sem] theorem pu58 : pureT C0.P 12 58 = false := by kernel_rfl
@[go_sem] theorem ze58 : zeroT C0.P 58 = some (V.sl true 1 []) := by kernel_rfl
@[go_sem] theorem un58 : C0.P.underlying 58 = some (Go.TypeDesc.slice 5) := by kernel_rfl
@[go_sem] theorem sz59 : sizeT C0.P 59 = some 1 := by kernel_rfl
@[go_sem] theorem by59 : bytesT C0.P 59 = some 8 := by kernel_rfl
@[go_sem] theorem ag59 : aggT C0.P 59 = some false := by kernel_rfl
@[go_sem] theorem pu59 : pureT C0.P 12 59 = false := by kernel_rfl
@[go_sem] theorem ze59 : zeroT C0.P 59 = some V.nil := by kernel_rfl
@[go_sem] theorem un59 : C0.P.underlying 59 = some (Go.TypeDesc.func (List.toArray [60]) (List.toArray [4]) false) := by kernel_rfl
@[go_sem] theorem sz60 : sizeT C0.P 60 = some 1 := by kernel_rfl
@[go_sem] theorem by60 : bytesT C0.P 60 = some 8 := by kernel_rfl
@[go_sem] theorem ag60 : aggT C0.P 60 = some false := by kernel_rfl
@[go_sem] theorem pu60 : pureT C0.P 12 60 = false := by kernel_rfl
@[go_sem] theorem ze60 : zeroT C0.P 60 = some V.nil := by kernel_rfl
@[go_sem] theorem un60 : C0.P.underlying 60 = some (Go.TypeDesc.pointer 41) := by kernel_rfl
@[go_sem] theorem sz61 : sizeT C0.P 61 = some 1 := by kernel_rfl
@[go_sem] theorem by61 : bytesT C0.P 61 = some 8 := by kernel_rfl
@[go_sem] theorem ag61 : aggT C0.P 61 = some false := by kernel_rfl
@[go_sem] theorem pu61 : pureT C0.P 12 61 = false := by kernel_rfl
@[go_sem] theorem ze61 : zeroT C0.P 61 = some V.nil := by kernel_rfl
@[go_sem] theorem un61 : C0.P.underlying 61 = some (Go.TypeDesc.func (List.toArray [60, 60]) (List.toArray [4]) false) := by kernel_rfl
@[go_sem] theorem sz62 : sizeT C0.P 62 = some 1 := by kernel_rfl
@[go_sem] theorem by62 : bytesT C0.P 62 = some 8 := by kernel_rfl
@[go_sem] theorem ag62 : aggT C0.P 62 = some false := by kernel_rfl
@[go_sem] theorem pu62 : pureT C0.P 12 62 = false := by kernel_rfl
@[go_sem] theorem ze62 : zeroT C0.P 62 = some V.nil := by kernel_rfl
@[go_sem] theorem un62 : C0.P.underlying 62 = some (Go.TypeDesc.func (List.toArray [41]) (List.toArray [4]) false) := by kernel_rfl
@[go_sem] theorem sz63 : sizeT C0.P 63 = some 1 := by kernel_rfl
@[go_sem] theorem by63 : bytesT C0.P 63 = some 8 := by kernel_rfl
@[go_sem] theorem ag63 : aggT C0.P 63 = some false := by kernel_rfl
@[go_sem] theorem pu63 : pureT C0.P 12 63 = false := by kernel_rfl
@[go_sem] theorem ze63 : zeroT C0.P 63 = some V.nil := by kernel_rfl
@[go_sem] theorem un63 : C0.P.underlying 63 = some (Go.TypeDesc.func (List.toArray [41]) (List.toArray [3]) false) := by kernel_rfl
@[go_sem] theorem sz64 : sizeT C0.P 64 = some 1 := by kernel_rfl
@[go_sem] theorem by64 : bytesT C0.P 64 = some 8 := by kernel_rfl
@[go_sem] theorem ag64 : aggT C0.P 64 = some false := by kernel_rfl
@[go_sem] theorem pu64 : pureT C0.P 12 64 = false := by kernel_rfl
@[go_sem] theorem ze64 : zeroT C0.P 64 = some V.nil := by kernel_rfl
@[go_sem] theorem un64 : C0.P.underlying 64 = some (Go.TypeDesc.func (List.toArray [3, 2]) (List.toArray [4]) false) := by kernel_rfl
@[go_sem] theorem sz65 : sizeT C0.P 65 = some 1 := by kernel_rfl
@[go_sem] theorem by65 : bytesT C0.P 65 = some 8 := by kernel_rfl
@[go_sem] theorem ag65 : aggT C0.P 65 = some false := by kernel_rfl
@[go_sem] theorem pu65 : pureT C0.P 12 65 = false := by kernel_rfl
@[go_sem] theorem ze65 : zeroT C0.P 65 = some V.nil := by kernel_rfl
@[go_sem] theorem un65 : C0.P.underlying 65 = some (Go.TypeDesc.func (List.toArray [39, 3, 3]) (List.toArray []) false) := by kernel_rfl
@[go_sem] theorem sz66 : sizeT C0.P 66 = some 1 := by kernel_rfl
@[go_sem] theorem by66 : bytesT C0.P 66 = some 8 := by kernel_rfl
@[go_sem] theorem ag66 : aggT C0.P 66 = some false := by kernel_rfl
@[go_sem] theorem pu66 : pureT C0.P 12 66 = true := by kernel_rfl
@[go_sem] theorem ze66 : zeroT C0.P 66 = some (V.int Go.IntKind.i64 0) := by kernel_rfl
@[go_sem] theorem un66 : C0.P.underlying 66 = some (Go.TypeDesc.int Go.IntKind.i64) := by kernel_rfl
@[go_sem] theorem sz67 : sizeT C0.P 67 = some 1 := by kernel_rfl
@[go_sem] theorem by67 : bytesT C0.P 67 = some 0 := by kernel_rfl
@[go_sem] theorem ag67 : aggT C0.P 67 = some false := by kernel_rfl
@[go_sem] theorem pu67 : pureT C0.P 12 67 = true := by kernel_rfl
@[go_sem] theorem un67 : C0.P.underlying 67 = some (Go.TypeDesc.tuple (List.toArray [3, 66])) := by kernel_rfl
@[go_sem] theorem sz68 : sizeT C0.P 68 = some 1 := by kernel_rfl
@[go_sem] theorem by68 : bytesT C0.P 68 = some 8 := by kernel_rfl
@[go_sem] theorem ag68 : aggT C0.P 68 = some false := by kernel_rfl
@[go_sem] theorem pu68 : pureT C0.P 12 68 = false := by kernel_rfl
@[go_sem] theorem ze68 : zeroT C0.P 68 = some V.nil := by kernel_rfl
@[go_sem] theorem un68 : C0.P.underlying 68 = some (Go.TypeDesc.func (List.toArray [39, 3, 3]) (List.toArray [3, 66]) false) := by kernel_rfl
@[go_sem] theorem sz69 : sizeT C0.P 69 = some 1 := by kernel_rfl
@[go_sem] theorem by69 : bytesT C0.P 69 = some 8 := by kernel_rfl
@[go_sem] theorem ag69 : aggT C0.P 69 = some false := by kernel_rfl
@[go_sem] theorem pu69 : pureT C0.P 12 69 = false := by kernel_rfl
@[go_sem] theorem ze69 : zeroT C0.P 69 = some V.nil := by kernel_rfl
@[go_sem] theorem un69 : C0.P.underlying 69 = some (Go.TypeDesc.func (List.toArray [39, 3, 3]) (List.toArray [4]) false) := by kernel_rfl
@[go_sem] theorem sz70 : sizeT C0.P 70 = some 1 := by kernel_rfl
@[go_sem] theorem by70 : bytesT C0.P 70 = some 8 := by kernel_rfl
@[go_sem] theorem ag70 : aggT C0.P 70 = some false := by kernel_rfl
@[go_sem] theorem pu70 : pureT C0.P 12 70 = false := by kernel_rfl
@[go_sem] theorem ze70 : zeroT C0.P 70 = some V.nil := by kernel_rfl
@[go_sem] theorem un70 : C0.P.underlying 70 = some (Go.TypeDesc.func (List.toArray [2, 2]) (List.toArray [4]) false) := by kernel_rfl
@[go_sem] theorem sz71 : sizeT C0.P 71 = some 1 := by kernel_rfl
@[go_sem] theorem by71 : bytesT C0.P 71 = some 8 := by kernel_rfl
@[go_sem] theorem ag71 : aggT C0.P 71 = some false := by kernel_rfl
@[go_sem] theorem pu71 : pureT C0.P 12 71 = false := by kernel_rfl
@[go_sem] theorem ze71 : zeroT C0.P 71 = some V.nil := by kernel_rfl
@[go_sem] theorem un71 : C0.P.underlying 71 = some (Go.TypeDesc.func (List.toArray [39, 3, 3, 3]) (List.toArray [3]) false) := by kernel_rfl
@[go_sem] theorem sz72 : sizeT C0.P 72 = some 1 := by kernel_rfl
@[go_sem] theorem by72 : bytesT C0.P 72 = some 0 := by kernel_rfl
@[go_sem] theorem ag72 : aggT C0.P 72 = some false := by kernel_rfl
@[go_sem] theorem pu72 : pureT C0.P 12 72 = true := by kernel_rfl
@[go_sem] theorem un72 : C0.P.underlying 72 = some (Go.TypeDesc.tuple (List.toArray [3, 4])) := by kernel_rfl
@[go_sem] theorem sz73 : sizeT C0.P 73 = some 1 := by kernel_rfl
@[go_sem] theorem by73 : bytesT C0.P 73 = some 8 := by kernel_rfl
@[go_sem] theorem ag73 : aggT C0.P 73 = some false := by kernel_rfl
@[go_sem] theorem pu73 : pureT C0.P 12 73 = false := by kernel_rfl
@[go_sem] theorem ze73 : zeroT C0.P 73 = some V.nil := by kernel_rfl
@[go_sem] theorem un73 : C0.P.underlying 73 = some (Go.TypeDesc.func (List.toArray [39, 3, 3, 3]) (List.toArray [3, 4]) false) := by kernel_rfl
@[go_sem] theorem sz74 : sizeT C0.P 74 = some 1 := by kernel_rfl
@[go_sem] theorem by74 : bytesT C0.P 74 = some 8 := by kernel_rfl
@[go_sem] theorem ag74 : aggT C0.P 74 = some false := by kernel_rfl
@[go_sem] theorem pu74 : pureT C0.P 12 74 = false := by kernel_rfl
@[go_sem] theorem ze74 : zeroT C0.P 74 = some V.nil := by kernel_rfl
@[go_sem] theorem un74 : C0.P.underlying 74 = some (Go.TypeDesc.func (List.toArray [75]) (List.toArray [3]) false) := by kernel_rfl
@[go_sem] theorem sz75 : sizeT C0.P 75 = some 1 := by kernel_rfl
@[go_sem] theorem by75 : bytesT C0.P 75 = some 4 := by kernel_rfl
@[go_sem] theorem ag75 : aggT C0.P 75 = some false := by kernel_rfl
@[go_sem] theorem pu75 : pureT C0.P 12 75 = true := by kernel_rfl
@[go_sem] theorem ze75 : zeroT C0.P 75 = some (V.int Go.IntKind.u32 0) := by kernel_rfl
@[go_sem] theorem un75 : C0.P.underlying 75 = some (Go.TypeDesc.int Go.IntKind.u32) := by kernel_rfl
@[go_sem] theorem sz76 : sizeT C0.P 76 = some 1 := by kernel_rfl
@[go_sem] theorem by76 : bytesT C0.P 76 = some 8 := by kernel_rfl
@[go_sem] theorem ag76 : aggT C0.P 76 = some false := by kernel_rfl
@[go_sem] theorem pu76 : pureT C0.P 12 76 = false := by kernel_rfl
@[go_sem] theorem ze76 : zeroT C0.P 76 = some V.nil := by kernel_rfl
@[go_sem] theorem un76 : C0.P.underlying 76 = some (Go.TypeDesc.func (List.toArray [77]) (List.toArray [3]) false) := by kernel_rfl
@[go_sem] theorem sz77 : sizeT C0.P 77 = some 1 := by kernel_rfl
@[go_sem] theorem by77 : bytesT C0.P 77 = some 8 := by kernel_rfl
@[go_sem] theorem ag77 : aggT C0.P 77 = some false := by kernel_rfl
@[go_sem] theorem pu77 : pureT C0.P 12 77 = true := by kernel_rfl
@[go_sem] theorem ze77 : zeroT C0.P 77 = some (V.int Go.IntKind.u64 0) := by kernel_rfl
@[go_sem] theorem un77 : C0.P.underlying 77 = some (Go.TypeDesc.int Go.IntKind.u64) := by kernel_rfl
@[go_sem] theorem sz78 : sizeT C0.P 78 = some 1 := by kernel_rfl
@[go_sem] theorem by78 : bytesT C0.P 78 = some 8 := by kernel_rfl
@[go_sem] theorem ag78 : aggT C0.P 78 = some false := by kernel_rfl
@[go_sem] theorem pu78 : pureT C0.P 12 78 = false := by kernel_rfl
@[go_sem] theorem ze78 : zeroT C0.P 78 = some V.nil := by kernel_rfl
@[go_sem] theorem un78 : C0.P.underlying 78 = some (Go.TypeDesc.func (List.toArray [46, 3, 3, 3]) (List.toArray []) false) := by kernel_rfl
@[go_sem] theorem sz79 : sizeT C0.P 79 = some 1 := by kernel_rfl
@[go_sem] theorem by79 : bytesT C0.P 79 = some 8 := by kernel_rfl
@[go_sem] theorem ag79 : aggT C0.P 79 = some false := by kernel_rfl
@[go_sem] theorem pu79 : pureT C0.P 12 79 = false := by kernel_rfl
@[go_sem] theorem ze79 : zeroT C0.P 79 = some V.nil := by kernel_rfl
@[go_sem] theorem un79 : C0.P.underlying 79 = some (Go.TypeDesc.func (List.toArray [9]) (List.toArray [4]) false) := by kernel_rfl
@[go_sem] theorem sz80 : sizeT C0.P 80 = some 1 := by kernel_rfl
@[go_sem] theorem by80 : bytesT C0.P 80 = some 8 := by kernel_rfl
@[go_sem] theorem ag80 : aggT C0.P 80 = some false := by kernel_rfl
@[go_sem] theorem pu80 : pureT C0.P 12 80 = false := by kernel_rfl
@[go_sem] theorem ze80 : zeroT C0.P 80 = some V.nil := by kernel_rfl
@[go_sem] theorem un80 : C0.P.underlying 80 = some (Go.TypeDesc.func (List.toArray [97]) (List.toArray [3]) true) := by kernel_rfl
@[go_sem] theorem sz81 : sizeT C0.P 81 = some 1 := by kernel_rfl
@[go_sem] theorem by81 : bytesT C0.P 81 = some 8 := by kernel_rfl
@[go_sem] theorem ag81 : aggT C0.P 81 = some false := by kernel_rfl
@[go_sem] theorem pu81 : pureT C0.P 12 81 = false := by kernel_rfl
@[go_sem] theorem ze81 : zeroT C0.P 81 = some V.nil := by kernel_rfl
@[go_sem] theorem un81 : C0.P.underlying 81 = some (Go.TypeDesc.func (List.toArray [2, 2]) (List.toArray [3]) false) := by kernel_rfl
@[go_sem] theorem sz82 : sizeT C0.P 82 = some 1 := by kernel_rfl
@[go_sem] theorem by82 : bytesT C0.P 82 = some 8 := by kernel_rfl
@[go_sem] theorem ag82 : aggT C0.P 82 = some false := by kernel_rfl
@[go_sem] theorem pu82 : pureT C0.P 12 82 = false := by kernel_rfl
@[go_sem] theorem ze82 : zeroT C0.P 82 = some V.nil := by kernel_rfl
@[go_sem] theorem un82 : C0.P.underlying 82 = some (Go.TypeDesc.func (List.toArray [9, 9]) (List.toArray [3]) false) := by kernel_rfl
@[go_sem] theorem sz83 : sizeT C0.P 83 = some 1 := by kernel_rfl
@[go_sem] theorem by83 : bytesT C0.P 83 = some 8 := by kernel_rfl
@[go_sem] theorem ag83 : aggT C0.P 83 = some false := by kernel_rfl
@[go_sem] theorem pu83 : pureT C0.P 12 83 = false := by kernel_rfl
@[go_sem] theorem ze83 : zeroT C0.P 83 = some V.nil := by kernel_rfl
@[go_sem] theorem un83 : C0.P.underlying 83 = some (Go.TypeDesc.func (List.toArray [27, 62]) (List.toArray [4]) false) := by kernel_rfl
@[go_sem] theorem sz84 : sizeT C0.P 84 = some 1 := by kernel_rfl
@[go_sem] theorem by84 : bytesT C0.P 84 = some 8 := by kernel_rfl
@[go_sem] theorem ag84 : aggT C0.P 84 = some false := by kernel_rfl
@[go_sem] theorem pu84 : pureT C0.P 12 84 = true := by kernel_rfl
@[go_sem] theorem ze84 : zeroT C0.P 84 = some (V.int Go.IntKind.u64 0) := by kernel_rfl
@[go_sem] theorem un84 : C0.P.underlying 84 = some (Go.TypeDesc.int Go.IntKind.u64) := by kernel_rfl
@[go_sem] theorem sz85 : sizeT C0.P 85 = some 1 := by kernel_rfl
@[go_sem] theorem by85 : bytesT C0.P 85 = some 8 := by kernel_rfl
@[go_sem] theorem ag85 : aggT C0.P 85 = some false := by kernel_rfl
@[go_sem] theorem pu85 : pureT C0.P 12 85 = false := by kernel_rfl
@[go_sem] theorem ze85 : zeroT C0.P 85 = some V.nil := by kernel_rfl
@[go_sem] theorem un85 : C0.P.underlying 85 = some (Go.TypeDesc.func (List.toArray [3]) (List.toArray [56]) false) := by kernel_rfl
@[go_sem] theorem sz86 : sizeT C0.P 86 = some 1 := by kernel_rfl
@[go_sem] theorem by86 : bytesT C0.P 86 = some 8 := by kernel_rfl
@[go_sem] theorem ag86 : aggT C0.P 86 = some false := by kernel_rfl
@[go_sem] theorem pu86 : pureT C0.P 12 86 = false := by kernel_rfl
@[go_sem] theorem ze86 : zeroT C0.P 86 = some V.nil := by kernel_rfl
@[go_sem] theorem un86 : C0.P.underlying 86 = some (Go.TypeDesc.func (List.toArray []) (List.toArray [77]) false) := by kernel_rfl
@[go_sem] theorem sz87 : sizeT C0.P 87 = some 1 := by kernel_rfl
@[go_sem] theorem by87 : bytesT C0.P 87 = some 8 := by kernel_rfl
@[go_sem] theorem ag87 : aggT C0.P 87 = some false := by kernel_rfl
@[go_sem] theorem pu87 : pureT C0.P 12 87 = false := by kernel_rfl
@[go_sem] theorem ze87 : zeroT C0.P 87 = some V.nil := by kernel_rfl
@[go_sem] theorem un87 : C0.P.underlying 87 = some (Go.TypeDesc.func (List.toArray [39, 3, 88]) (List.toArray [3]) false) := by kernel_rfl
@[go_sem] theorem sz88 : sizeT C0.P 88 = some 1 := by kernel_rfl
@[go_sem] theorem by88 : bytesT C0.P 88 = some 8 := by kernel_rfl
@[go_sem] theorem ag88 : aggT C0.P 88 = some false := by kernel_rfl
@[go_sem] theorem pu88 : pureT C0.P 12 88 = false := by kernel_rfl
@[go_sem] theorem ze88 : zeroT C0.P 88 = some V.nil := by kernel_rfl
@[go_sem] theorem un88 : C0.P.underlying 88 = some (Go.TypeDesc.pointer 3) := by kernel_rfl
@[go_sem] theorem sz89 : sizeT C0.P 89 = some 1 := by kernel_rfl
@[go_sem] theorem by89 : bytesT C0.P 89 = some 8 := by kernel_rfl
@[go_sem] theorem ag89 : aggT C0.P 89 = some false := by kernel_rfl
@[go_sem] theorem pu89 : pureT C0.P 12 89 = false := by kernel_rfl
@[go_sem] theorem ze89 : zeroT C0.P 89 = some V.nil := by kernel_rfl
@[go_sem] theorem un89 : C0.P.underlying 89 = some (Go.TypeDesc.func (List.toArray [39, 3, 3, 3, 88]) (List.toArray [3]) false) := by kernel_rfl
@[go_sem] theorem sz90 : sizeT C0.P 90 = some 1 := by kernel_rfl
@[go_sem] theorem by90 : bytesT C0.P 90 = some 8 := by kernel_rfl
@[go_sem] theorem ag90 : aggT C0.P 90 = some false := by kernel_rfl
@[go_sem] theorem pu90 : pureT C0.P 12 90 = false := by kernel_rfl
@[go_sem] theorem ze90 : zeroT C0.P 90 = some V.nil := by kernel_rfl
@[go_sem] theorem un90 : C0.P.underlying 90 = some (Go.TypeDesc.func (List.toArray [46, 3, 3]) (List.toArray []) false) := by kernel_rfl
@[go_sem] theorem sz91 : sizeT C0.P 91 = some 1 := by kernel_rfl
@[go_sem] theorem by91 : bytesT C0.P 91 = some 8 := by kernel_rfl
@[go_sem] theorem ag91 : aggT C0.P 91 = some false := by kernel_rfl
@[go_sem] theorem pu91 : pureT C0.P 12 91 = false := by kernel_rfl
@[go_sem] theorem ze91 : zeroT C0.P 91 = some V.nil := by kernel_rfl
@[go_sem] theorem un91 : C0.P.underlying 91 = some (Go.TypeDesc.func (List.toArray [46, 3, 3]) (List.toArray [3, 66]) false) := by kernel_rfl
@[go_sem] theorem sz92 : sizeT C0.P 92 = some 1 := by kernel_rfl
@[go_sem] theorem by92 : bytesT C0.P 92 = some 8 := by kernel_rfl
@[go_sem] theorem ag92 : aggT C0.P 92 = some false := by kernel_rfl
@[go_sem] theorem pu92 : pureT C0.P 12 92 = false := by kernel_rfl
@[go_sem] theorem ze92 : zeroT C0.P 92 = some V.nil := by kernel_rfl
@[go_sem] theorem un92 : C0.P.underlying 92 = some (Go.TypeDesc.func (List.toArray [46, 3, 3]) (List.toArray [4]) false) := by kernel_rfl
@[go_sem] theorem sz93 : sizeT C0.P 93 = some 1 := by kernel_rfl
@[go_sem] theorem by93 : bytesT C0.P 93 = some 8 := by kernel_rfl
@[go_sem] theorem ag93 : aggT C0.P 93 = some false := by kernel_rfl
@[go_sem] theorem pu93 : pureT C0.P 12 93 = false := by kernel_rfl
@[go_sem] theorem ze93 : zeroT C0.P 93 = some V.nil := by kernel_rfl
@[go_sem] theorem un93 : C0.P.underlying 93 = some (Go.TypeDesc.func (List.toArray [9, 9]) (List.toArray [4]) false) := by kernel_rfl
@[go_sem] theorem sz94 : sizeT C0.P 94 = some 1 := by kernel_rfl
@[go_sem] theorem by94 : bytesT C0.P 94 = some 8 := by kernel_rfl
@[go_sem] theorem ag94 : aggT C0.P 94 = some false := by kernel_rfl
@[go_sem] theorem pu94 : pureT C0.P 12 94 = false := by kernel_rfl
@[go_sem] theorem ze94 : zeroT C0.P 94 = some V.nil := by kernel_rfl
@[go_sem] theorem un94 : C0.P.underlying 94 = some (Go.TypeDesc.func (List.toArray [46, 3, 3, 3]) (List.toArray [3]) false) := by kernel_rfl
@[go_sem] theorem sz95 : sizeT C0.P 95 = some 1 := by kernel_rfl
@[go_sem] theorem by95 : bytesT C0.P 95 = some 8 := by kernel_rfl
@[go_sem] theorem ag95 : aggT C0.P 95 = some false := by kernel_rfl
@[go_sem] theorem pu95 : pureT C0.P 12 95 = false := by kernel_rfl
@[go_sem] theorem ze95 : zeroT C0.P 95 = some V.nil := by kernel_rfl
@[go_sem] theorem un95 : C0.P.underlying 95 = some (Go.TypeDesc.func (List.toArray [46, 3, 3, 3]) (List.toArray [3, 4]) false) := by kernel_rfl
@[go_sem] theorem sz96 : sizeT C0.P 96 = some 1 := by kernel_rfl
@[go_sem] theorem by96 : bytesT C0.P 96 = some 8 := by kernel_rfl
@[go_sem] theorem ag96 : aggT C0.P 96 = some false := by kernel_rfl
@[go_sem] theorem pu96 : pureT C0.P 12 96 = false := by kernel_rfl
@[go_sem] theorem ze96 : zeroT C0.P 96 = some V.nil := by kernel_rfl
@[go_sem] theorem un96 : C0.P.underlying 96 = some (Go.TypeDesc.func (List.toArray [5]) (List.toArray [4]) false) := by kernel_rfl
@[go_sem] theorem sz97 : sizeT C0.P 97 = some 1 := by kernel_rfl
@[go_sem] theorem by97 : bytesT C0.P 97 = some 24 := by kernel_rfl
@[go_sem] theorem ag97 : aggT C0.P 97 = some false := by kernel_rfl
@[go_sem] theorem el97 : elemT C0.P 97 = some 3 := by kernel_rfl
@[go_sem] theorem pu97 : pureT C0.P 12 97 = false := by kernel_rfl
@[go_sem] theorem ze97 : zeroT C0.P 97 = some (V.sl true 1 []) := by kernel_rfl
@[go_sem] theorem un97 : C0.P.underlying 97 = some (Go.TypeDesc.slice 3) := by kernel_rfl
@[go_sem] theorem sz98 : sizeT C0.P 98 = some 1 := by kernel_rfl
@[go_sem] theorem by98 : bytesT C0.P 98 = some 8 := by kernel_rfl
@[go_sem] theorem ag98 : aggT C0.P 98 = some false := by kernel_rfl
@[go_sem] theorem pu98 : pureT C0.P 12 98 = false := by kernel_rfl
@[go_sem] theorem ze98 : zeroT C0.P 98 = some V.nil := by kernel_rfl
@[go_sem] theorem un98 : C0.P.underlying 98 = some (Go.TypeDesc.func (List.toArray [27, 62]) (List.toArray [3]) false) := by kernel_rfl
@[go_sem] theorem sz99 : sizeT C0.P 99 = some 1 := by kernel_rfl
@[go_sem] theorem by99 : bytesT C0.P 99 = some 8 := by kernel_rfl
@[go_sem] theorem ag99 : aggT C0.P 99 = some false := by kernel_rfl
@[go_sem] theorem pu99 : pureT C0.P 12 99 = false := by kernel_rfl
@[go_sem] theorem ze99 : zeroT C0.P 99 = some V.nil := by kernel_rfl
@[go_sem] theorem un99 : C0.P.underlying 99 = some (Go.TypeDesc.pointer 84) := by kernel_rfl
@[go_sem] theorem sz100 : sizeT C0.P 100 = some 1 := by kernel_rfl
@[go_sem] theorem by100 : bytesT C0.P 100 = some 0 := by kernel_rfl
@[go_sem] theorem ag100 : aggT C0.P 100 = some false := by kernel_rfl
@[go_sem] theorem pu100 : pureT C0.P 12 100 = true := by kernel_rfl
@[go_sem] theorem un100 : C0.P.underlying 100 = some (Go.TypeDesc.tuple (List.toArray [3, 3])) := by kernel_rfl
@[go_sem] theorem sz101 : sizeT C0.P 101 = some 1 := by kernel_rfl
@[go_sem] theorem by101 : bytesT C0.P 101 = some 8 := by kernel_rfl
@[go_sem] theorem ag101 : aggT C0.P 101 = some false := by kernel_rfl
@[go_sem] theorem pu101 : pureT C0.P 12 101 = false := by kernel_rfl
@[go_sem] theorem ze101 : zeroT C0.P 101 = some V.nil := by kernel_rfl
@[go_sem] theorem un101 : C0.P.underlying 101 = some (Go.TypeDesc.func (List.toArray [39, 3, 3, 88]) (List.toArray [3, 3]) false) := by kernel_rfl
@[go_sem] theorem sz102 : sizeT C0.P 102 = some 1 := by kernel_rfl
@[go_sem] theorem by102 : bytesT C0.P 102 = some 8 := by kernel_rfl
@[go_sem] theorem ag102 : aggT C0.P 102 = some false := by kernel_rfl
@[go_sem] theorem pu102 : pureT C0.P 12 102 = false := by kernel_rfl
@[go_sem] theorem ze102 : zeroT C0.P 102 = some V.nil := by kernel_rfl
@[go_sem] theorem un102 : C0.P.underlying 102 = some (Go.TypeDesc.func (List.toArray [46, 3, 88]) (List.toArray [3]) false) := by kernel_rfl
@[go_sem] theorem sz103 : sizeT C0.P 103 = some 1 := by kernel_rfl
@[go_sem] theorem by103 : bytesT C0.P 103 = some 8 := by kernel_rfl
@[go_sem] theorem ag103 : aggT C0.P 103 = some false := by kernel_rfl
@[go_sem] theorem pu103 : pureT C0.P 12 103 = false := by kernel_rfl
@[go_sem] theorem ze103 : zeroT C0.P 103 = some V.nil := by kernel_rfl
@[go_sem] theorem un103 : C0.P.underlying 103 = some (Go.TypeDesc.func (List.toArray [46, 3, 3, 3, 88]) (List.toArray [3]) false) := by kernel_rfl
@[go_sem] theorem sz104 : sizeT C0.P 104 = some 1 := by kernel_rfl
@[go_sem] theorem by104 : bytesT C0.P 104 = some 8 := by kernel_rfl
@[go_sem] theorem ag104 : aggT C0.P 104 = some false := by kernel_rfl
@[go_sem] theorem pu104 : pureT C0.P 12 104 = false := by kernel_rfl
@[go_sem] theorem ze104 : zeroT C0.P 104 = some V.nil := by kernel_rfl
@[go_sem] theorem un104 : C0.P.underlying 104 = some (Go.TypeDesc.func (List.toArray [46, 3, 3, 88]) (List.toArray [3, 3]) false) := by kernel_rfl
@[go_sem] theorem sz105 : sizeT C0.P 105 = some 1 := by kernel_rfl
@[go_sem] theorem by105 : bytesT C0.P 105 = some 8 := by kernel_rfl
@[go_sem] theorem ag105 : aggT C0.P 105 = some false := by kernel_rfl
@[go_sem] theorem pu105 : pureT C0.P 12 105 = false := by kernel_rfl
@[go_sem] theorem ze105 : zeroT C0.P 105 = some V.nil := by kernel_rfl
@[go_sem] theorem un105 : C0.P.underlying 105 = some (Go.TypeDesc.func (List.toArray []) (List.toArray [9]) false) := by kernel_rfl
@[go_sem] theorem sz106 : sizeT C0.P 106 = some 4 := by kernel_rfl
@[go_sem] theorem by106 : bytesT C0.P 106 = some 40 := by kernel_rfl
@[go_sem] theorem ag106 : aggT C0.P 106 = some true := by kernel_rfl
@[go_sem] theorem pu106 : pureT C0.P 12 106 = false := by kernel_rfl
@[go_sem] theorem ze106 : zeroT C0.P 106 = some (V.agg [V.nil, V.nil, V.nil, V.str { data := (List.toArray []) }]) := by kernel_rfl
@[go_sem] theorem un106 : C0.P.underlying 106 = some (Go.TypeDesc.struct (List.toArray [{ name := "_interface", type := 17, offset := 0, embedded := false, tag := "", pkgPath := "runtime", byteOffset := 0 }, { name := "concrete", type := 17, offset := 1, embedded := false, tag := "", pkgPath := "runtime", byteOffset := 8 }, { name := "asserted", type := 17, offset := 2, embedded := false, tag := "", pkgPath := "runtime", byteOffset := 16 }, { name := "missingMethod", type := 9, offset := 3, embedded := false, tag := "", pkgPath := "runtime", byteOffset := 24 }])) := by kernel_rfl
@[go_sem] theorem fi106_0 : fieldT C0.P 106 0 = some (0, 17) := by kernel_rfl
@[go_sem] theorem fi106_1 : fieldT C0.P 106 1 = some (1, 17) := by kernel_rfl
@[go_sem] theorem fi106_2 : fieldT C0.P 106 2 = some (2, 17) := by kernel_rfl
@[go_sem] theorem fi106_3 : fieldT C0.P 106 3 = some (3, 9) := by kernel_rfl
@[go_sem] theorem sz107 : sizeT C0.P 107 = some 4 := by kernel_rfl
@[go_sem] theorem by107 : bytesT C0.P 107 = some 40 := by kernel_rfl
@[go_sem] theorem ag107 : aggT C0.P 107 = some true := by kernel_rfl
@[go_sem] theorem pu107 : pureT C0.P 12 107 = false := by kernel_rfl
@[go_sem] theorem ze107 : zeroT C0.P 107 = some (V.agg [V.nil, V.nil, V.nil, V.str { data := (List.toArray []) }]) := by kernel_rfl
@[go_sem] theorem un107 : C0.P.underlying 107 = some (Go.TypeDesc.struct (List.toArray [{ name := "_interface", type := 17, offset := 0, embedded := false, tag := "", pkgPath := "runtime", byteOffset := 0 }, { name := "concrete", type := 17, offset := 1, embedded := false, tag := "", pkgPath := "runtime", byteOffset := 8 }, { name := "asserted", type := 17, offset := 2, embedded := false, tag := "", pkgPath := "runtime", byteOffset := 16 }, { name := "missingMethod", type := 9, offset := 3, embedded := false, tag := "", pkgPath := "runtime", byteOffset := 24 }])) := by kernel_rfl
@[go_sem] theorem fi107_0 : fieldT C0.P 107 0 = some (0, 17) := by kernel_rfl
@[go_sem] theorem fi107_1 : fieldT C0.P 107 1 = some (1, 17) := by kernel_rfl
@[go_sem] theorem fi107_2 : fieldT C0.P 107 2 = some (2, 17) := by kernel_rfl
@[go_sem] theorem fi107_3 : fieldT C0.P 107 3 = some (3, 9) := by kernel_rfl
@[go_sem] theorem sz108 : sizeT C0.P 108 = some 0 := by kernel_rfl
@[go_sem] theorem by108 : bytesT C0.P 108 = some 0 := by kernel_rfl
@[go_sem] theorem ag108 : aggT C0.P 108 = some true := by kernel_rfl
@[go_sem] theorem pu108 : pureT C0.P 12 108 = false := by kernel_rfl
@[go_sem] theorem ze108 : zeroT C0.P 108 = some (V.agg []) := by kernel_rfl
@[go_sem] theorem un108 : C0.P.underlying 108 = some (Go.TypeDesc.array 0 16) := by kernel_rfl
@[go_sem] theorem sz109 : sizeT C0.P 109 = some 0 := by kernel_rfl
@[go_sem] theorem by109 : bytesT C0.P 109 = some 0 := by kernel_rfl
@[go_sem] theorem ag109 : aggT C0.P 109 = some true := by kernel_rfl
@[go_sem] theorem pu109 : pureT C0.P 12 109 = false := by kernel_rfl
@[go_sem] theorem ze109 : zeroT C0.P 109 = some (V.agg []) := by kernel_rfl
@[go_sem] theorem un109 : C0.P.underlying 109 = some (Go.TypeDesc.struct (List.toArray [{ name := "_", type := 108, offset := 0, embedded := false, tag := "", pkgPath := "runtime", byteOffset := 0 }])) := by kernel_rfl
@[go_sem] theorem fi109_0 : fieldT C0.P 109 0 = some (0, 108) := by kernel_rfl
@[go_sem] theorem sg2 : sig C0 2 = some (0, true) := by kernel_rfl
@[go_sem] theorem sg3 : sig C0 3 = some (1, true) := by kernel_rfl
@[go_sem] theorem sg4 : sig C0 4 = some (1, true) := by kernel_rfl
@[go_sem] theorem sg5 : sig C0 5 = some (2, false) := by kernel_rfl
@[go_sem] theorem sg6 : sig C0 6 = some (1, false) := by kernel_rfl
@[go_sem] theorem sg7 : sig C0 7 = some (2, false) := by kernel_rfl
@[go_sem] theorem sg8 : sig C0 8 = some (1, true) := by kernel_rfl
@[go_sem] theorem sg9 : sig C0 9 = some (1, true) := by kernel_rfl
@[go_sem] theorem sg10 : sig C0 10 = some (1, true) := by kernel_rfl
@[go_sem] theorem sg11 : sig C0 11 = some (1, true) := by kernel_rfl
@[go_sem] theorem sg12 : sig C0 12 = some (1, true) := by kernel_rfl
@[go_sem] theorem sg13 : sig C0 13 = some (1, true) := by kernel_rfl
@[go_sem] theorem sg14 : sig C0 14 = some (1, true) := by kernel_rfl
@[go_sem] theorem sg15 : sig C0 15 = some (1, true) := by kernel_rfl
@[go_sem] theorem sg16 : sig C0 16 = some (1, false) := by kernel_rfl
@[go_sem] theorem sg17 : sig C0 17 = some (1, true) := by kernel_rfl
@[go_sem] theorem sg18 : sig C0 18 = some (1, true) := by kernel_rfl
@[go_sem] theorem sg19 : sig C0 19 = some (1, true) := by kernel_rfl
@[go_sem] theorem sg20 : sig C0 20 = some (1, true) := by kernel_rfl
@[go_sem] theorem sg21 : sig C0 21 = some (0, true) := by kernel_rfl
@[go_sem] theorem sg22 : sig C0 22 = some (1, false) := by kernel_rfl
@[go_sem] theorem sg23 : sig C0 23 = some (1, false) := by kernel_rfl
@[go_sem] theorem sg24 : sig C0 24 = some (1, true) := by kernel_rfl
@[go_sem] theorem sg25 : sig C0 25 = some (1, true) := by kernel_rfl
@[go_sem] theorem sg26 : sig C0 26 = some (1, true) := by kernel_rfl
@[go_sem] theorem sg27 : sig C0 27 = some (1, true) := by kernel_rfl
@[go_sem] theorem sg28 : sig C0 28 = some (1, true) := by kernel_rfl
@[go_sem] theorem sg29 : sig C0 29 = some (1, true) := by kernel_rfl
@[go_sem] theorem sg30 : sig C0 30 = some (1, true) := by kernel_rfl
@[go_sem] theorem sg31 : sig C0 31 = some (1, true) := by kernel_rfl
@[go_sem] theorem sg32 : sig C0 32 = some (1, true) := by kernel_rfl
@[go_sem] theorem sg33 : sig C0 33 = some (0, true) := by kernel_rfl
@[go_sem] theorem sg34 : sig C0 34 = some (1, true) := by kernel_rfl
@[go_sem] theorem sg35 : sig C0 35 = some (0, true) := by kernel_rfl
@[go_sem] theorem sg36 : sig C0 36 = some (1, true) := by kernel_rfl
@[go_sem] theorem sg37 : sig C0 37 = some (1, true) := by kernel_rfl
@[go_sem] theorem sg38 : sig C0 38 = some (1, true) := by kernel_rfl
@[go_sem] theorem sg39 : sig C0 39 = some (1, true) := by kernel_rfl
@[go_sem] theorem sg40 : sig C0 40 = some (1, true) := by kernel_rfl
@[go_sem] theorem sg41 : sig C0 41 = some (1, true) := by kernel_rfl
@[go_sem] theorem sg42 : sig C0 42 = some (1, true) := by kernel_rfl
@[go_sem] theorem sg43 : sig C0 43 = some (0, true) := by kernel_rfl
@[go_sem] theorem sg44 : sig C0 44 = some (0, true) := by kernel_rfl
@[go_sem] theorem sg45 : sig C0 45 = some (0, true) := by kernel_rfl
@[go_sem] theorem sg46 : sig C0 46 = some (2, true) := by kernel_rfl
@[go_sem] theorem sg47 : sig C0 47 = some (0, true) := by kernel_rfl
@[go_sem] theorem sg48 : sig C0 48 = some (1, true) := by kernel_rfl
@[go_sem] theorem sg49 : sig C0 49 = some (1, true) := by kernel_rfl
@[go_sem] theorem sg50 : sig C0 50 = some (1, true) := by kernel_rfl
@[go_sem] theorem sg51 : sig C0 51 = some (2, true) := by kernel_rfl
@[go_sem] theorem sg52 : sig C0 52 = some (1, true) := by kernel_rfl
@[go_sem] theorem sg53 : sig C0 53 = some (1, true) := by kernel_rfl
@[go_sem] theorem sg54 : sig C0 54 = some (0, true) := by kernel_rfl
@[go_sem] theorem sg55 : sig C0 55 = some (1, true) := by kernel_rfl
@[go_sem] theorem sg56 : sig C0 56 = some (1, true) := by kernel_rfl
@[go_sem] theorem sg57 : sig C0 57 = some (1, true) := by kernel_rfl
@[go_sem] theorem sg58 : sig C0 58 = some (1, true) := by kernel_rfl
@[go_sem] theorem sg59 : sig C0 59 = some (1, true) := by kernel_rfl
@[go_sem] theorem sg60 : sig C0 60 = some (1, true) := by kernel_rfl
@[go_sem] theorem sg61 : sig C0 61 = some (1, true) := by kernel_rfl
@[go_sem] theorem sg62 : sig C0 62 = some (1, true) := by kernel_rfl
@[go_sem] theorem sg63 : sig C0 63 = some (0, true) := by kernel_rfl
@[go_sem] theorem sg64 : sig C0 64 = some (1, true) := by kernel_rfl
@[go_sem] theorem sg65 : sig C0 65 = some (1, true) := by kernel_rfl
@[go_sem] theorem sg66 : sig C0 66 = some (1, true) := by kernel_rfl
@[go_sem] theorem sg67 : sig C0 67 = some (1, true) := by kernel_rfl
@[go_sem] theorem sg68 : sig C0 68 = some (1, true) := by kernel_rfl
@[go_sem] theorem sg69 : sig C0 69 = some (0, true) := by kernel_rfl
@[go_sem] theorem sg70 : sig C0 70 = some (0, true) := by kernel_rfl
@[go_sem] theorem sg71 : sig C0 71 = some (0, true) := by kernel_rfl
@[go_sem] theorem sg72 : sig C0 72 = some (2, true) := by kernel_rfl
@[go_sem] theorem sg73 : sig C0 73 = some (0, true) := by kernel_rfl
@[go_sem] theorem sg74 : sig C0 74 = some (1, true) := by kernel_rfl
@[go_sem] theorem sg75 : sig C0 75 = some (1, true) := by kernel_rfl
@[go_sem] theorem sg76 : sig C0 76 = some (1, true) := by kernel_rfl
@[go_sem] theorem sg77 : sig C0 77 = some (2, true) := by kernel_rfl
@[go_sem] theorem sg78 : sig C0 78 = some (1, true) := by kernel_rfl
@[go_sem] theorem sg79 : sig C0 79 = some (1, true) := by kernel_rfl
@[go_sem] theorem sg80 : sig C0 80 = some (1, true) := by kernel_rfl
@[go_sem] theorem sg81 : sig C0 81 = some (1, true) := by kernel_rfl
@[go_sem] theorem sg82 : sig C0 82 = some (1, true) := by kernel_rfl
@[go_sem] theorem sg83 : sig C0 83 = some (2, true) := by kernel_rfl

end Go.Lm.Ga

namespace Go.Lm.Ga
open Go.Proofs

theorem intsOf_eq : ∀ {es : List V} {zs : List Int}, intsOf es = some zs → es = zs.map encI
  | [], _, h => by simp only [intsOf, Option.some.injEq] at h; subst h; rfl
  | .int .i64 n :: r, zs, h => by
    simp only [intsOf, Option.map_eq_some_iff] at h
    obtain ⟨l, h1, rfl⟩ := h
    rw [intsOf_eq h1]; rfl
  | .any :: _, _, h | .bool _ :: _, _, h | .str _ :: _, _, h | .sl _ _ _ :: _, _, h | .box _ :: _, _, h | .cptr _ _ :: _, _, h | .agg _ :: _, _, h | .tup _ :: _, _, h | .fn _ _ :: _, _, h | .nil :: _, _, h => by simp [intsOf] at h
  | .int .i8 _ :: _, _, h | .int .i16 _ :: _, _, h | .int .i32 _ :: _, _, h | .int .u8 _ :: _, _, h | .int .u16 _ :: _, _, h | .int .u32 _ :: _, _, h | .int .u64 _ :: _, _, h => by simp [intsOf] at h

theorem strsOf_eq : ∀ {es : List V} {zs : List (List UInt8)}, strsOf es = some zs → es = zs.map encS
  | [], _, h => by simp only [strsOf, Option.some.injEq] at h; subst h; rfl
  | .str s :: r, zs, h => by
    simp only [strsOf, Option.map_eq_some_iff] at h
    obtain ⟨l, h1, rfl⟩ := h
    rw [strsOf_eq h1]; simp [encS]
  | .any :: _, _, h | .bool _ :: _, _, h | .int _ _ :: _, _, h | .sl _ _ _ :: _, _, h | .box _ :: _, _, h | .cptr _ _ :: _, _, h | .agg _ :: _, _, h | .tup _ :: _, _, h | .fn _ _ :: _, _, h | .nil :: _, _, h => by simp [strsOf] at h

theorem encI_enc : Enc (Value.int .i64) encI where
  rel := fun _ _ a => .int .i64 a
  one := fun _ => rfl
  cell := fun _ => rfl
  inv := fun _ _ a c bs h => by cases h; exact ⟨rfl, rfl⟩

theorem encS_enc : Enc Go.Proofs.encStr encS where
  rel := fun _ _ a => .str _
  one := fun _ => rfl
  cell := fun _ => rfl
  inv := fun _ _ a c bs h => by
    unfold encS at h
    cases h; exact ⟨rfl, rfl⟩

theorem compact_le (zs : List Int) : (Lib.compact zs).length ≤ zs.length := by
  unfold Lib.compact Lib.compactUpTo
  rw [List.length_map]
  exact Nat.le_trans (List.length_filter_le _ _) (by simp)

theorem ext_ok : ∀ f vals outs, C0.ext f vals = some outs → FnOk C0 f vals outs := by
  intro f vals outs h0
  have h : ext0 f vals = some outs := h0
  clear h0
  unfold ext0 at h
  split at h
  · rename_i hf
    subst hf
    split at h
    · rename_i es
      rw [Option.map_eq_some_iff] at h
      obtain ⟨l, h1, rfl⟩ := h
      simp only [sortI, Option.bind_eq_some_iff] at h1
      obtain ⟨zs, h2, h3⟩ := h1
      split at h3
      · rename_i hlt
        simp only [Option.some.injEq] at h3
        subst h3
        rw [intsOf_eq h2]
        exact sort_fnOk encI_enc (fun zs => zs.mergeSort fun x y => decide (x ≤ y)) (fun zs => List.length_mergeSort zs) rfl (fun fn hfn => by
            have := Try.func21.symm.trans hfn; simp only [Option.some.injEq] at this; rw [← this]; rfl)
          (fun blk off cap zs w hH hb hz => AnyG.slices_Sort_int Try.sortInt64 blk off cap zs w hH hb hz) (fun p cap w => AnyG.slices_Sort_int_none Try.sortInt64 p cap w) zs hlt
      · simp at h3
    · simp at h
  · split at h
    · rename_i hf
      subst hf
      split at h
      · rename_i es
        rw [Option.map_eq_some_iff] at h
        obtain ⟨l, h1, rfl⟩ := h
        simp only [compI, Option.bind_eq_some_iff] at h1
        obtain ⟨zs, h2, h3⟩ := h1
        split at h3
        · rename_i hlt
          simp only [Option.some.injEq] at h3
          subst h3
          rw [intsOf_eq h2]
          have hle := compact_le zs
          refine part_fnOk encI_enc Lib.compact (fun zs => Lib.compact zs ++ List.replicate (zs.length - (Lib.compact zs).length) 0) rfl (fun fn hfn => by
            have := Try.func22.symm.trans hfn; simp only [Option.some.injEq] at this; rw [← this]; rfl) zs hlt.1 (by rw [List.length_append, List.length_replicate]; omega) (by simp) hle ?_
          intro blk off cap w hH hb hc
          have := AnyE.slices_Compact Try.compactI (Value.int .i64) (fun _ => rfl) (EqlAt.intD _ _ .i64) (NeqAt.intD _ _ .i64) 0 Try.zeroValue2 blk off cap zs.toArray w hH (by simpa using hlt.2) (by simpa using hc)
          exact this
        · simp at h3
      · simp at h
    · split at h
      · rename_i hf
        subst hf
        split at h
        · rename_i es
          rw [Option.map_eq_some_iff] at h
          obtain ⟨l, h1, rfl⟩ := h
          simp only [sortS, Option.bind_eq_some_iff] at h1
          obtain ⟨zs, h2, h3⟩ := h1
          split at h3
          · rename_i hlt
            simp only [Option.some.injEq] at h3
            subst h3
            rw [strsOf_eq h2]
            exact sort_fnOk encS_enc (fun zs => zs.mergeSort fun x y => decide (x ≤ y)) (fun zs => List.length_mergeSort zs) rfl (fun fn hfn => by
                have := Try.func35.symm.trans hfn; simp only [Option.some.injEq] at this; rw [← this]; rfl)
              (fun blk off cap zs w hH hb hz => AnyG.slices_Sort_string Try.sortStr blk off cap zs w hH hb hz) (fun p cap w => AnyG.slices_Sort_string_none Try.sortStr p cap w) zs hlt
          · simp at h3
        · simp at h
      · simp at h

theorem okP0 : OkP C0 := OkP.of (by kernel_rfl) (by kernel_rfl) ext_ok

theorem sound0 : FnSound C0 (lim C0) := lim_sound okP0
end Go.Lm.Ga

namespace Go.Lm.Ga
open Go.Proofs Prg
set_option linter.unusedSimpArgs false
set_option maxRecDepth 100000

@[go_sem] theorem ev_within (n a b : Int) : lim C0 (.func 20) [.int .i64 n, .int .i64 a, .int .i64 b] = some [.bool (decide (a ≤ n) && decide (n ≤ b))] := by
  refine F20.fnS (xn _ _ (by decide)) rfl rfl ?_
  repeat' (first | (simp only [go_sem, reduceIte, Nat.reduceEqDiff, Nat.reduceAdd, Nat.reduceSub, Nat.reduceLeDiff, Nat.reduceLT, Nat.reduceMul, Nat.reduceBEq, reduceCtorEq, Int.reduceLT, Int.reduceLE, Int.reduceEq, Int.reduceToNat, Int.reduceAdd, Int.reduceSub, Int.reduceNeg, IntWalk.i64_in, *]) | with_reducible refine br_pos (by omega) (fun _ => ?_) | with_reducible refine br_neg (by omega) (fun _ => ?_) | with_reducible refine br_elim (fun _ => ?_) (fun _ => ?_) | with_reducible refine dr_intro (by kernel_rfl) ?_ | with_reducible refine nd_intro (by omega) ?_)
@[go_sem] theorem ev_l00In (n a b : Int) : lim C0 (.func 15) [.int .i64 n, .int .i64 a, .int .i64 b] = some [.bool (decide (a ≤ n) && decide (n ≤ b))] := by
  refine F15.fnS (xn _ _ (by decide)) rfl rfl ?_
  repeat' (first | (simp only [go_sem, reduceIte, Nat.reduceEqDiff, Nat.reduceAdd, Nat.reduceSub, Nat.reduceLeDiff, Nat.reduceLT, Nat.reduceMul, Nat.reduceBEq, reduceCtorEq, Int.reduceLT, Int.reduceLE, Int.reduceEq, Int.reduceToNat, Int.reduceAdd, Int.reduceSub, Int.reduceNeg, IntWalk.i64_in, *]) | with_reducible refine br_pos (by omega) (fun _ => ?_) | with_reducible refine br_neg (by omega) (fun _ => ?_) | with_reducible refine br_elim (fun _ => ?_) (fun _ => ?_) | with_reducible refine dr_intro (by kernel_rfl) ?_ | with_reducible refine nd_intro (by omega) ?_)
@[go_sem] theorem ev_l20Time (n : Int) : lim C0 (.func 30) [.int .i64 n] = some [.bool (decide (0 ≤ n) && decide (n ≤ 143999999))] := by
  refine F30.fnS (xn _ _ (by decide)) rfl rfl ?_
  repeat' (first | (simp only [go_sem, reduceIte, Nat.reduceEqDiff, Nat.reduceAdd, Nat.reduceSub, Nat.reduceLeDiff, Nat.reduceLT, Nat.reduceMul, Nat.reduceBEq, reduceCtorEq, Int.reduceLT, Int.reduceLE, Int.reduceEq, Int.reduceToNat, Int.reduceAdd, Int.reduceSub, Int.reduceNeg, IntWalk.i64_in, *]) | with_reducible refine br_pos (by omega) (fun _ => ?_) | with_reducible refine br_neg (by omega) (fun _ => ?_) | with_reducible refine br_elim (fun _ => ?_) (fun _ => ?_) | with_reducible refine dr_intro (by kernel_rfl) ?_ | with_reducible refine nd_intro (by omega) ?_)
@[go_sem] theorem ev_isTime (n : Int) : lim C0 (.func 32) [.int .i64 n] = some [.bool (decide (0 ≤ n) && decide (n ≤ 143999999))] := by
  refine F32.fnS (xn _ _ (by decide)) rfl rfl ?_
  repeat' (first | (simp only [go_sem, reduceIte, Nat.reduceEqDiff, Nat.reduceAdd, Nat.reduceSub, Nat.reduceLeDiff, Nat.reduceLT, Nat.reduceMul, Nat.reduceBEq, reduceCtorEq, Int.reduceLT, Int.reduceLE, Int.reduceEq, Int.reduceToNat, Int.reduceAdd, Int.reduceSub, Int.reduceNeg, IntWalk.i64_in, *]) | with_reducible refine br_pos (by omega) (fun _ => ?_) | with_reducible refine br_neg (by omega) (fun _ => ?_) | with_reducible refine br_elim (fun _ => ?_) (fun _ => ?_) | with_reducible refine dr_intro (by kernel_rfl) ?_ | with_reducible refine nd_intro (by omega) ?_)
@[go_sem] theorem ev_isDigit (n : Int) : lim C0 (.func 80) [.int .u8 n] = some [.bool (decide (48 ≤ n) && decide (n ≤ 57))] := by
  refine F80.fnS (xn _ _ (by decide)) rfl rfl ?_
  repeat' (first | (simp only [go_sem, reduceIte, Nat.reduceEqDiff, Nat.reduceAdd, Nat.reduceSub, Nat.reduceLeDiff, Nat.reduceLT, Nat.reduceMul, Nat.reduceBEq, reduceCtorEq, Int.reduceLT, Int.reduceLE, Int.reduceEq, Int.reduceToNat, Int.reduceAdd, Int.reduceSub, Int.reduceNeg, IntWalk.i64_in, *]) | with_reducible refine br_pos (by omega) (fun _ => ?_) | with_reducible refine br_neg (by omega) (fun _ => ?_) | with_reducible refine br_elim (fun _ => ?_) (fun _ => ?_) | with_reducible refine dr_intro (by kernel_rfl) ?_ | with_reducible refine nd_intro (by omega) ?_)
@[go_sem] theorem ev_l01Digit (n : Int) : lim C0 (.func 79) [.int .u8 n] = some [.bool (decide (48 ≤ n) && decide (n ≤ 57))] := by
  refine F79.fnS (xn _ _ (by decide)) rfl rfl ?_
  repeat' (first | (simp only [go_sem, reduceIte, Nat.reduceEqDiff, Nat.reduceAdd, Nat.reduceSub, Nat.reduceLeDiff, Nat.reduceLT, Nat.reduceMul, Nat.reduceBEq, reduceCtorEq, Int.reduceLT, Int.reduceLE, Int.reduceEq, Int.reduceToNat, Int.reduceAdd, Int.reduceSub, Int.reduceNeg, IntWalk.i64_in, *]) | with_reducible refine br_pos (by omega) (fun _ => ?_) | with_reducible refine br_neg (by omega) (fun _ => ?_) | with_reducible refine br_elim (fun _ => ?_) (fun _ => ?_) | with_reducible refine dr_intro (by kernel_rfl) ?_ | with_reducible refine nd_intro (by omega) ?_)
@[go_sem] theorem ev_l01Small (n : Int) : lim C0 (.func 78) [.int .u8 n] = some [.bool (decide (97 ≤ n) && decide (n ≤ 122))] := by
  refine F78.fnS (xn _ _ (by decide)) rfl rfl ?_
  repeat' (first | (simp only [go_sem, reduceIte, Nat.reduceEqDiff, Nat.reduceAdd, Nat.reduceSub, Nat.reduceLeDiff, Nat.reduceLT, Nat.reduceMul, Nat.reduceBEq, reduceCtorEq, Int.reduceLT, Int.reduceLE, Int.reduceEq, Int.reduceToNat, Int.reduceAdd, Int.reduceSub, Int.reduceNeg, IntWalk.i64_in, *]) | with_reducible refine br_pos (by omega) (fun _ => ?_) | with_reducible refine br_neg (by omega) (fun _ => ?_) | with_reducible refine br_elim (fun _ => ?_) (fun _ => ?_) | with_reducible refine dr_intro (by kernel_rfl) ?_ | with_reducible refine nd_intro (by omega) ?_)
@[go_sem] theorem ev_isNaN (n : Int) : lim C0 (.func 68) [.int .i64 n] = some [.bool false] := by
  refine F68.fnS (xn _ _ (by decide)) rfl rfl ?_
  repeat' (first | (simp only [go_sem, reduceIte, Nat.reduceEqDiff, Nat.reduceAdd, Nat.reduceSub, Nat.reduceLeDiff, Nat.reduceLT, Nat.reduceMul, Nat.reduceBEq, reduceCtorEq, Int.reduceLT, Int.reduceLE, Int.reduceEq, Int.reduceToNat, Int.reduceAdd, Int.reduceSub, Int.reduceNeg, IntWalk.i64_in, *]) | with_reducible refine br_pos (by omega) (fun _ => ?_) | with_reducible refine br_neg (by omega) (fun _ => ?_) | with_reducible refine br_elim (fun _ => ?_) (fun _ => ?_) | with_reducible refine dr_intro (by kernel_rfl) ?_ | with_reducible refine nd_intro (by omega) ?_)
@[go_sem] theorem ev_isNaNs (n : ByteArray) : lim C0 (.func 81) [.str n] = some [.bool false] := by
  refine F81.fnS (xn _ _ (by decide)) rfl rfl ?_
  repeat' (first | (simp only [go_sem, reduceIte, Nat.reduceEqDiff, Nat.reduceAdd, Nat.reduceSub, Nat.reduceLeDiff, Nat.reduceLT, Nat.reduceMul, Nat.reduceBEq, reduceCtorEq, Int.reduceLT, Int.reduceLE, Int.reduceEq, Int.reduceToNat, Int.reduceAdd, Int.reduceSub, Int.reduceNeg, IntWalk.i64_in, *]) | with_reducible refine br_pos (by omega) (fun _ => ?_) | with_reducible refine br_neg (by omega) (fun _ => ?_) | with_reducible refine br_elim (fun _ => ?_) (fun _ => ?_) | with_reducible refine dr_intro (by kernel_rfl) ?_ | with_reducible refine nd_intro (by omega) ?_)
theorem ev_few (n m : Int) (h : -9223372036854775808 ≤ n ∧ n ≤ 9223372036854775807) : lim C0 (.func 42) [.int .i64 n, .int .i64 m] = some [.bool (decide (n ≤ m))] := by
  refine F42.fnS (xn _ _ (by decide)) rfl rfl ?_
  repeat' (first | (simp only [go_sem, reduceIte, Nat.reduceEqDiff, Nat.reduceAdd, Nat.reduceSub, Nat.reduceLeDiff, Nat.reduceLT, Nat.reduceMul, Nat.reduceBEq, reduceCtorEq, Int.reduceLT, Int.reduceLE, Int.reduceEq, Int.reduceToNat, Int.reduceAdd, Int.reduceSub, Int.reduceNeg, IntWalk.i64_in, *, IntWalk.i64_in n h]) | with_reducible refine br_pos (by omega) (fun _ => ?_) | with_reducible refine br_neg (by omega) (fun _ => ?_) | with_reducible refine br_elim (fun _ => ?_) (fun _ => ?_) | with_reducible refine dr_intro (by kernel_rfl) ?_ | with_reducible refine nd_intro (by omega) ?_)
@[go_sem] theorem ev_Compare (a b : Int) : lim C0 (.func 58) [.int .i64 a, .int .i64 b] = some [.int .i64 (if a < b then -1 else if b < a then 1 else 0)] := by
  refine F58.fnS (xn _ _ (by decide)) rfl rfl ?_
  repeat' (first | (simp only [go_sem, reduceIte, Nat.reduceEqDiff, Nat.reduceAdd, Nat.reduceSub, Nat.reduceLeDiff, Nat.reduceLT, Nat.reduceMul, Nat.reduceBEq, reduceCtorEq, Int.reduceLT, Int.reduceLE, Int.reduceEq, Int.reduceToNat, Int.reduceAdd, Int.reduceSub, Int.reduceNeg, IntWalk.i64_in, *]) | with_reducible refine br_pos (by omega) (fun _ => ?_) | with_reducible refine br_neg (by omega) (fun _ => ?_) | with_reducible refine br_elim (fun _ => ?_) (fun _ => ?_) | with_reducible refine dr_intro (by kernel_rfl) ?_ | with_reducible refine nd_intro (by omega) ?_)
@[go_sem] theorem ev_Compares (a b : List UInt8) : lim C0 (.func 59) [.str (bs a), .str (bs b)] = some [.int .i64 (if Op.bytesLess a b then -1 else if a = b then 0 else 1)] := by
  refine F59.fnS (xn _ _ (by decide)) rfl rfl ?_
  repeat' (first | (simp only [go_sem, reduceIte, Nat.reduceEqDiff, Nat.reduceAdd, Nat.reduceSub, Nat.reduceLeDiff, Nat.reduceLT, Nat.reduceMul, Nat.reduceBEq, reduceCtorEq, Int.reduceLT, Int.reduceLE, Int.reduceEq, Int.reduceToNat, Int.reduceAdd, Int.reduceSub, Int.reduceNeg, IntWalk.i64_in, *]) | with_reducible refine br_pos (by omega) (fun _ => ?_) | with_reducible refine br_neg (by omega) (fun _ => ?_) | with_reducible refine br_elim (fun _ => ?_) (fun _ => ?_) | with_reducible refine dr_intro (by kernel_rfl) ?_ | with_reducible refine nd_intro (by omega) ?_)
@[go_sem] theorem ev_rests (k k' : List UInt8) (a b a' b' : Int) : lim C0 (.func 62) [.agg [.str (bs k), .int .i64 a, .int .i64 b], .agg [.str (bs k'), .int .i64 a', .int .i64 b']] =
    some [.bool (!decide (k = k') || (decide (IntKind.i64.wrap (b + 480) ≤ a') || decide (IntKind.i64.wrap (b' + 480) ≤ a)))] := by
  refine F62.fnS (xn _ _ (by decide)) rfl rfl ?_
  repeat' (first | (simp only [go_sem, reduceIte, Nat.reduceEqDiff, Nat.reduceAdd, Nat.reduceSub, Nat.reduceLeDiff, Nat.reduceLT, Nat.reduceMul, Nat.reduceBEq, reduceCtorEq, Int.reduceLT, Int.reduceLE, Int.reduceEq, Int.reduceToNat, Int.reduceAdd, Int.reduceSub, Int.reduceNeg, IntWalk.i64_in, *]) | with_reducible refine br_pos (by omega) (fun _ => ?_) | with_reducible refine br_neg (by omega) (fun _ => ?_) | with_reducible refine br_elim (fun _ => ?_) (fun _ => ?_) | with_reducible refine dr_intro (by kernel_rfl) ?_ | with_reducible refine nd_intro (by omega) ?_)
@[go_sem] theorem ev_l28Less (k k' : List UInt8) (a b a' b' : Int) : lim C0 (.func 37) [.cptr (.agg [.str (bs k), .int .i64 a, .int .i64 b]) 0, .cptr (.agg [.str (bs k'), .int .i64 a', .int .i64 b']) 0] =
    some [.bool (decide (a < a') || (decide (a = a') && Op.bytesLess k k'))] := by
  refine F37.fnS (xn _ _ (by decide)) rfl rfl ?_
  repeat' (first | (simp only [go_sem, reduceIte, Nat.reduceEqDiff, Nat.reduceAdd, Nat.reduceSub, Nat.reduceLeDiff, Nat.reduceLT, Nat.reduceMul, Nat.reduceBEq, reduceCtorEq, Int.reduceLT, Int.reduceLE, Int.reduceEq, Int.reduceToNat, Int.reduceAdd, Int.reduceSub, Int.reduceNeg, IntWalk.i64_in, *]) | with_reducible refine br_pos (by omega) (fun _ => ?_) | with_reducible refine br_neg (by omega) (fun _ => ?_) | with_reducible refine br_elim (fun _ => ?_) (fun _ => ?_) | with_reducible refine dr_intro (by kernel_rfl) ?_ | with_reducible refine nd_intro (by omega) ?_)
@[go_sem] theorem ev_l28Rested (k k' : List UInt8) (a b a' b' : Int) : lim C0 (.func 38) [.cptr (.agg [.str (bs k), .int .i64 a, .int .i64 b]) 0, .cptr (.agg [.str (bs k'), .int .i64 a', .int .i64 b']) 0] =
    some [.bool (decide (IntKind.i64.wrap (b + 480) ≤ a') || decide (IntKind.i64.wrap (b' + 480) ≤ a))] := by
  refine F38.fnS (xn _ _ (by decide)) rfl rfl ?_
  repeat' (first | (simp only [go_sem, reduceIte, Nat.reduceEqDiff, Nat.reduceAdd, Nat.reduceSub, Nat.reduceLeDiff, Nat.reduceLT, Nat.reduceMul, Nat.reduceBEq, reduceCtorEq, Int.reduceLT, Int.reduceLE, Int.reduceEq, Int.reduceToNat, Int.reduceAdd, Int.reduceSub, Int.reduceNeg, IntWalk.i64_in, *]) | with_reducible refine br_pos (by omega) (fun _ => ?_) | with_reducible refine br_neg (by omega) (fun _ => ?_) | with_reducible refine br_elim (fun _ => ?_) (fun _ => ?_) | with_reducible refine dr_intro (by kernel_rfl) ?_ | with_reducible refine nd_intro (by omega) ?_)
end Go.Lm.Ga

namespace Go.Lm.Ga
open Go.Proofs Prg
set_option linter.unusedSimpArgs false
set_option maxRecDepth 100000

def small (c : UInt8) : Bool := decide (97 ≤ (c.toNat : Int)) && decide ((c.toNat : Int) ≤ 122)
def digit (c : UInt8) : Bool := decide (48 ≤ (c.toNat : Int)) && decide ((c.toNat : Int) ≤ 57)
def nameOk (s : List UInt8) : Bool := match s with
  | [] => false
  | c :: r => small c && r.all (fun c => small c || digit c) && decide (s.length ≤ 10)

theorem lp_IsName (s : List UInt8) (hl : s.length < 4611686018427387904) (i : Nat) (h : i ≤ s.length) (h1 : 1 ≤ i) : lim C0 (.at_ 56 2) [.str (bs s), .int .i64 i] =
    some [.bool ((s.drop i).all (fun c => small c || digit c) && decide (s.length ≤ 10))] := by
  have hs : s ≠ [] := by rintro rfl; simp at h; omega
  have hf := ev_few s.length 10 ⟨by omega, by omega⟩
  have ht : decide ((s.length : Int) ≤ 10) = decide (s.length ≤ 10) := by congr 1; apply propext; omega
  induction hk : s.length - i generalizing i with
  | zero =>
    have h2 : ¬ i < s.length := by omega
    have h3 : s.drop i = [] := List.drop_eq_nil_of_le (by omega)
    refine F56.atS rfl rfl ?_
    repeat' (first | (simp only [go_sem, reduceIte, Nat.reduceEqDiff, Nat.reduceAdd, Nat.reduceSub, Nat.reduceLeDiff, Nat.reduceLT, Nat.reduceMul, Nat.reduceBEq, reduceCtorEq, Int.reduceLT, Int.reduceLE, Int.reduceEq, Int.reduceToNat, Int.reduceAdd, Int.reduceSub, Int.reduceNeg, IntWalk.i64_in, *, hf, h3, ht]) | with_reducible refine br_pos (by omega) (fun _ => ?_) | with_reducible refine br_neg (by omega) (fun _ => ?_) | with_reducible refine br_elim (fun _ => ?_) (fun _ => ?_) | with_reducible refine dr_intro (by kernel_rfl) ?_ | with_reducible refine nd_intro (by omega) ?_)
  | succ k ih =>
    have h2 : i < s.length := by omega
    have h3 : ¬ i = 0 := by omega
    have hw := wrapS (i := i) (by omega)
    have ih' := ih (i + 1) (by omega) (by omega) (by omega)
    rw [List.drop_eq_getElem_cons h2, List.all_cons]
    clear ih hf ht
    refine F56.atS rfl rfl ?_
    repeat' (first | (simp only [go_sem, reduceIte, Nat.reduceEqDiff, Nat.reduceAdd, Nat.reduceSub, Nat.reduceLeDiff, Nat.reduceLT, Nat.reduceMul, Nat.reduceBEq, reduceCtorEq, Int.reduceLT, Int.reduceLE, Int.reduceEq, Int.reduceToNat, Int.reduceAdd, Int.reduceSub, Int.reduceNeg, IntWalk.i64_in, *, getDS h2]) | with_reducible refine br_pos (by omega) (fun _ => ?_) | with_reducible refine br_neg (by omega) (fun _ => ?_) | with_reducible refine br_elim (fun _ => ?_) (fun _ => ?_) | with_reducible refine dr_intro (by kernel_rfl) ?_ | with_reducible refine nd_intro (by omega) ?_)
    all_goals (first | (simp_all [small, digit]; done) | grind [small, digit])
theorem ev_IsName (s : List UInt8) (hl : s.length < 4611686018427387904) : lim C0 (.func 56) [.str (bs s)] = some [.bool (nameOk s)] := by
  have h0 : lim C0 (.at_ 56 2) [.str (bs s), .int .i64 0] = some [.bool (nameOk s)] := by
    cases s with
    | nil =>
      refine F56.atS rfl rfl ?_
      repeat' (first | (simp only [go_sem, reduceIte, Nat.reduceEqDiff, Nat.reduceAdd, Nat.reduceSub, Nat.reduceLeDiff, Nat.reduceLT, Nat.reduceMul, Nat.reduceBEq, reduceCtorEq, Int.reduceLT, Int.reduceLE, Int.reduceEq, Int.reduceToNat, Int.reduceAdd, Int.reduceSub, Int.reduceNeg, IntWalk.i64_in, *]) | with_reducible refine br_pos (by omega) (fun _ => ?_) | with_reducible refine br_neg (by omega) (fun _ => ?_) | with_reducible refine br_elim (fun _ => ?_) (fun _ => ?_) | with_reducible refine dr_intro (by kernel_rfl) ?_ | with_reducible refine nd_intro (by omega) ?_)
      all_goals (first | (simp_all [nameOk]; done) | grind [nameOk])
    | cons c r =>
      have ih := lp_IsName (c :: r) hl 1 (by simp) (by omega)
      have hw : IntKind.i64.wrap 1 = 1 := by rfl
      refine F56.atS rfl rfl ?_
      repeat' (first | (simp only [go_sem, reduceIte, Nat.reduceEqDiff, Nat.reduceAdd, Nat.reduceSub, Nat.reduceLeDiff, Nat.reduceLT, Nat.reduceMul, Nat.reduceBEq, reduceCtorEq, Int.reduceLT, Int.reduceLE, Int.reduceEq, Int.reduceToNat, Int.reduceAdd, Int.reduceSub, Int.reduceNeg, IntWalk.i64_in, *]) | with_reducible refine br_pos (by omega) (fun _ => ?_) | with_reducible refine br_neg (by omega) (fun _ => ?_) | with_reducible refine br_elim (fun _ => ?_) (fun _ => ?_) | with_reducible refine dr_intro (by kernel_rfl) ?_ | with_reducible refine nd_intro (by omega) ?_)
      all_goals (first | (simp_all [nameOk, small, digit]; done) | grind [nameOk, small, digit])
  refine F56.fnS (xn _ _ (by decide)) rfl rfl ?_
  repeat' (first | (simp only [go_sem, reduceIte, Nat.reduceEqDiff, Nat.reduceAdd, Nat.reduceSub, Nat.reduceLeDiff, Nat.reduceLT, Nat.reduceMul, Nat.reduceBEq, reduceCtorEq, Int.reduceLT, Int.reduceLE, Int.reduceEq, Int.reduceToNat, Int.reduceAdd, Int.reduceSub, Int.reduceNeg, IntWalk.i64_in, *]) | with_reducible refine br_pos (by omega) (fun _ => ?_) | with_reducible refine br_neg (by omega) (fun _ => ?_) | with_reducible refine br_elim (fun _ => ?_) (fun _ => ?_) | with_reducible refine dr_intro (by kernel_rfl) ?_ | with_reducible refine nd_intro (by omega) ?_)
theorem lp_l01Name (s : List UInt8) (hl : s.length < 4611686018427387904) (i : Nat) (h : i ≤ s.length) : lim C0 (.at_ 55 4) [.str (bs s), .int .i64 i] =
    some [.bool ((s.drop i).all (fun c => small c || digit c))] := by
  induction hk : s.length - i generalizing i with
  | zero =>
    have h2 : ¬ i < s.length := by omega
    have h3 : s.drop i = [] := List.drop_eq_nil_of_le (by omega)
    refine F55.atS rfl rfl ?_
    repeat' (first | (simp only [go_sem, reduceIte, Nat.reduceEqDiff, Nat.reduceAdd, Nat.reduceSub, Nat.reduceLeDiff, Nat.reduceLT, Nat.reduceMul, Nat.reduceBEq, reduceCtorEq, Int.reduceLT, Int.reduceLE, Int.reduceEq, Int.reduceToNat, Int.reduceAdd, Int.reduceSub, Int.reduceNeg, IntWalk.i64_in, *]) | with_reducible refine br_pos (by omega) (fun _ => ?_) | with_reducible refine br_neg (by omega) (fun _ => ?_) | with_reducible refine br_elim (fun _ => ?_) (fun _ => ?_) | with_reducible refine dr_intro (by kernel_rfl) ?_ | with_reducible refine nd_intro (by omega) ?_)
  | succ k ih =>
    have h2 : i < s.length := by omega
    have hw := wrapS (i := i) (by omega)
    have ih' := ih (i + 1) (by omega) (by omega)
    rw [List.drop_eq_getElem_cons h2, List.all_cons]
    clear ih
    refine F55.atS rfl rfl ?_
    repeat' (first | (simp only [go_sem, reduceIte, Nat.reduceEqDiff, Nat.reduceAdd, Nat.reduceSub, Nat.reduceLeDiff, Nat.reduceLT, Nat.reduceMul, Nat.reduceBEq, reduceCtorEq, Int.reduceLT, Int.reduceLE, Int.reduceEq, Int.reduceToNat, Int.reduceAdd, Int.reduceSub, Int.reduceNeg, IntWalk.i64_in, *, getDS h2]) | with_reducible refine br_pos (by omega) (fun _ => ?_) | with_reducible refine br_neg (by omega) (fun _ => ?_) | with_reducible refine br_elim (fun _ => ?_) (fun _ => ?_) | with_reducible refine dr_intro (by kernel_rfl) ?_ | with_reducible refine nd_intro (by omega) ?_)
    all_goals (first | (simp_all [small, digit]; done) | grind [small, digit])
theorem ev_l01Name (s : List UInt8) (hl : s.length < 4611686018427387904) : lim C0 (.func 55) [.str (bs s)] = some [.bool (nameOk s)] := by
  have ih := lp_l01Name s hl 0 (by omega)
  cases s with
  | nil =>
    refine F55.fnS (xn _ _ (by decide)) rfl rfl ?_
    repeat' (first | (simp only [go_sem, reduceIte, Nat.reduceEqDiff, Nat.reduceAdd, Nat.reduceSub, Nat.reduceLeDiff, Nat.reduceLT, Nat.reduceMul, Nat.reduceBEq, reduceCtorEq, Int.reduceLT, Int.reduceLE, Int.reduceEq, Int.reduceToNat, Int.reduceAdd, Int.reduceSub, Int.reduceNeg, IntWalk.i64_in, *]) | with_reducible refine br_pos (by omega) (fun _ => ?_) | with_reducible refine br_neg (by omega) (fun _ => ?_) | with_reducible refine br_elim (fun _ => ?_) (fun _ => ?_) | with_reducible refine dr_intro (by kernel_rfl) ?_ | with_reducible refine nd_intro (by omega) ?_)
    all_goals (first | (simp_all [nameOk]; done) | grind [nameOk])
  | cons c r =>
    refine F55.fnS (xn _ _ (by decide)) rfl rfl ?_
    repeat' (first | (simp only [go_sem, reduceIte, Nat.reduceEqDiff, Nat.reduceAdd, Nat.reduceSub, Nat.reduceLeDiff, Nat.reduceLT, Nat.reduceMul, Nat.reduceBEq, reduceCtorEq, Int.reduceLT, Int.reduceLE, Int.reduceEq, Int.reduceToNat, Int.reduceAdd, Int.reduceSub, Int.reduceNeg, IntWalk.i64_in, *]) | with_reducible refine br_pos (by omega) (fun _ => ?_) | with_reducible refine br_neg (by omega) (fun _ => ?_) | with_reducible refine br_elim (fun _ => ?_) (fun _ => ?_) | with_reducible refine dr_intro (by kernel_rfl) ?_ | with_reducible refine nd_intro (by omega) ?_)
    all_goals (first | (simp_all [nameOk, small, digit]; done) | grind [nameOk, small, digit])
end Go.Lm.Ga

namespace Go.Lm.Ga
open Go.Proofs Prg
set_option linter.unusedSimpArgs false
set_option maxRecDepth 100000

structure Duty where
  keeper : List UInt8
  from_ : Int
  until_ : Int
def dutyV (d : Duty) : V := .agg [.str (bs d.keeper), .int .i64 d.from_, .int .i64 d.until_]
def small62 (n : Nat) : Prop := n < 4611686018427387904
def timeOk (n : Int) : Bool := decide (0 ≤ n) && decide (n ≤ 143999999)
def dutyOk (d : Duty) : Bool := nameOk d.keeper && timeOk d.from_ && timeOk d.until_ && decide (1 ≤ d.until_ - d.from_) && decide (d.until_ - d.from_ ≤ 720)
def before (d e : Duty) : Bool := decide (d.from_ < e.from_) || (decide (d.from_ = e.from_) && Op.bytesLess d.keeper e.keeper)
def rst (a b : Duty) : Bool := decide (IntKind.i64.wrap (a.until_ + 480) ≤ b.from_) || decide (IntKind.i64.wrap (b.until_ + 480) ≤ a.from_)
def clash (a b : Duty) : Bool := decide (a.keeper = b.keeper) && !rst a b
def lastBefore (pre : List Duty) (d : Duty) : Bool := match pre.getLast? with | none => true | some e => before e d
def validGo (pre : List Duty) : List Duty → Bool
  | [] => true
  | d :: r => dutyOk d && lastBefore pre d && pre.all (fun e => !clash e d) && validGo (pre ++ [d]) r
def valid (l : List Duty) : Bool := validGo [] l && decide (l.length ≤ 60)

theorem ev_isDuty (k : List UInt8) (a b : Int) (hk : k.length < 4611686018427387904) : lim C0 (.func 39) [.agg [.str (bs k), .int .i64 a, .int .i64 b]] =
    some [.bool (dutyOk ⟨k, a, b⟩)] := by
  refine F39.fnS (xn _ _ (by decide)) rfl rfl ?_
  repeat' (first | (simp only [go_sem, reduceIte, Nat.reduceEqDiff, Nat.reduceAdd, Nat.reduceSub, Nat.reduceLeDiff, Nat.reduceLT, Nat.reduceMul, Nat.reduceBEq, reduceCtorEq, Int.reduceLT, Int.reduceLE, Int.reduceEq, Int.reduceToNat, Int.reduceAdd, Int.reduceSub, Int.reduceNeg, IntWalk.i64_in, *, ev_IsName k hk]) | with_reducible refine br_pos (by omega) (fun _ => ?_) | with_reducible refine br_neg (by omega) (fun _ => ?_) | with_reducible refine br_elim (fun _ => ?_) (fun _ => ?_) | with_reducible refine dr_intro (by kernel_rfl) ?_ | with_reducible refine nd_intro (by omega) ?_)
  all_goals (try simp only [dutyOk, timeOk] at *)
  all_goals (try (rw [IntWalk.i64_in (a + 1) (by grind), IntWalk.i64_in (a + 720) (by grind)]))
  all_goals grind
theorem ev_l28One (k : List UInt8) (a b : Int) (hk : k.length < 4611686018427387904) : lim C0 (.func 36) [.cptr (.agg [.str (bs k), .int .i64 a, .int .i64 b]) 0] =
    some [.bool (dutyOk ⟨k, a, b⟩)] := by
  refine F36.fnS (xn _ _ (by decide)) rfl rfl ?_
  repeat' (first | (simp only [go_sem, reduceIte, Nat.reduceEqDiff, Nat.reduceAdd, Nat.reduceSub, Nat.reduceLeDiff, Nat.reduceLT, Nat.reduceMul, Nat.reduceBEq, reduceCtorEq, Int.reduceLT, Int.reduceLE, Int.reduceEq, Int.reduceToNat, Int.reduceAdd, Int.reduceSub, Int.reduceNeg, IntWalk.i64_in, *, ev_l01Name k hk]) | with_reducible refine br_pos (by omega) (fun _ => ?_) | with_reducible refine br_neg (by omega) (fun _ => ?_) | with_reducible refine br_elim (fun _ => ?_) (fun _ => ?_) | with_reducible refine dr_intro (by kernel_rfl) ?_ | with_reducible refine nd_intro (by omega) ?_)
  all_goals (try simp only [dutyOk, timeOk] at *)
  all_goals (try (rw [IntWalk.i64_in (b - a) (by grind)]))
  all_goals grind
theorem lp_Or (o : Bool) (a b : Int) : lim C0 (.at_ 57 3) [.int .i64 0, .sl o 1 [.int .i64 a, .int .i64 b], .int .i64 2, .int .i64 0] = some [.int .i64 (if a = 0 then b else a)] := by
  have e2 : ∀ a b, lim C0 (.at_ 57 3) [.int .i64 0, .sl o 1 [.int .i64 a, .int .i64 b], .int .i64 2, .int .i64 2] = some [.int .i64 0] := by
    intro a b
    refine F57.atS rfl rfl ?_
    repeat' (first | (simp only [go_sem, reduceIte, Nat.reduceEqDiff, Nat.reduceAdd, Nat.reduceSub, Nat.reduceLeDiff, Nat.reduceLT, Nat.reduceMul, Nat.reduceBEq, reduceCtorEq, Int.reduceLT, Int.reduceLE, Int.reduceEq, Int.reduceToNat, Int.reduceAdd, Int.reduceSub, Int.reduceNeg, IntWalk.i64_in, *]) | with_reducible refine br_pos (by omega) (fun _ => ?_) | with_reducible refine br_neg (by omega) (fun _ => ?_) | with_reducible refine br_elim (fun _ => ?_) (fun _ => ?_) | with_reducible refine dr_intro (by kernel_rfl) ?_ | with_reducible refine nd_intro (by omega) ?_)
  have e1 : ∀ a b, lim C0 (.at_ 57 3) [.int .i64 0, .sl o 1 [.int .i64 a, .int .i64 b], .int .i64 2, .int .i64 1] = some [.int .i64 b] := by
    intro a b
    refine F57.atS rfl rfl ?_
    repeat' (first | (simp only [go_sem, reduceIte, Nat.reduceEqDiff, Nat.reduceAdd, Nat.reduceSub, Nat.reduceLeDiff, Nat.reduceLT, Nat.reduceMul, Nat.reduceBEq, reduceCtorEq, Int.reduceLT, Int.reduceLE, Int.reduceEq, Int.reduceToNat, Int.reduceAdd, Int.reduceSub, Int.reduceNeg, IntWalk.i64_in, *]) | with_reducible refine br_pos (by omega) (fun _ => ?_) | with_reducible refine br_neg (by omega) (fun _ => ?_) | with_reducible refine br_elim (fun _ => ?_) (fun _ => ?_) | with_reducible refine dr_intro (by kernel_rfl) ?_ | with_reducible refine nd_intro (by omega) ?_)
  refine F57.atS rfl rfl ?_
  repeat' (first | (simp only [go_sem, reduceIte, Nat.reduceEqDiff, Nat.reduceAdd, Nat.reduceSub, Nat.reduceLeDiff, Nat.reduceLT, Nat.reduceMul, Nat.reduceBEq, reduceCtorEq, Int.reduceLT, Int.reduceLE, Int.reduceEq, Int.reduceToNat, Int.reduceAdd, Int.reduceSub, Int.reduceNeg, IntWalk.i64_in, *]) | with_reducible refine br_pos (by omega) (fun _ => ?_) | with_reducible refine br_neg (by omega) (fun _ => ?_) | with_reducible refine br_elim (fun _ => ?_) (fun _ => ?_) | with_reducible refine dr_intro (by kernel_rfl) ?_ | with_reducible refine nd_intro (by omega) ?_)
@[go_sem] theorem ev_Or (o : Bool) (a b : Int) : lim C0 (.func 57) [.sl o 1 [.int .i64 a, .int .i64 b]] = some [.int .i64 (if a = 0 then b else a)] := by
  have h := lp_Or o a b
  refine F57.fnS (xn _ _ (by decide)) rfl rfl ?_
  repeat' (first | (simp only [go_sem, reduceIte, Nat.reduceEqDiff, Nat.reduceAdd, Nat.reduceSub, Nat.reduceLeDiff, Nat.reduceLT, Nat.reduceMul, Nat.reduceBEq, reduceCtorEq, Int.reduceLT, Int.reduceLE, Int.reduceEq, Int.reduceToNat, Int.reduceAdd, Int.reduceSub, Int.reduceNeg, IntWalk.i64_in, *]) | with_reducible refine br_pos (by omega) (fun _ => ?_) | with_reducible refine br_neg (by omega) (fun _ => ?_) | with_reducible refine br_elim (fun _ => ?_) (fun _ => ?_) | with_reducible refine dr_intro (by kernel_rfl) ?_ | with_reducible refine nd_intro (by omega) ?_)
@[go_sem] theorem ev_compare (k k' : List UInt8) (a b a' b' : Int) : lim C0 (.func 40) [.agg [.str (bs k), .int .i64 a, .int .i64 b], .agg [.str (bs k'), .int .i64 a', .int .i64 b']] =
    some [.int .i64 (if a < a' then -1 else if a' < a then 1 else if Op.bytesLess k k' then -1 else if k = k' then 0 else 1)] := by
  refine F40.fnS (xn _ _ (by decide)) rfl rfl ?_
  repeat' (first | (simp only [go_sem, reduceIte, Nat.reduceEqDiff, Nat.reduceAdd, Nat.reduceSub, Nat.reduceLeDiff, Nat.reduceLT, Nat.reduceMul, Nat.reduceBEq, reduceCtorEq, Int.reduceLT, Int.reduceLE, Int.reduceEq, Int.reduceToNat, Int.reduceAdd, Int.reduceSub, Int.reduceNeg, IntWalk.i64_in, *]) | with_reducible refine br_pos (by omega) (fun _ => ?_) | with_reducible refine br_neg (by omega) (fun _ => ?_) | with_reducible refine br_elim (fun _ => ?_) (fun _ => ?_) | with_reducible refine dr_intro (by kernel_rfl) ?_ | with_reducible refine nd_intro (by omega) ?_)
  all_goals (first | (simp_all []; done) | grind)
@[go_sem] theorem ev_fits1 (k k' : List UInt8) (a b a' b' : Int) : lim C0 (.func 61) [.agg [.str (bs k'), .int .i64 a', .int .i64 b'], .cptr (.agg [.str (bs k), .int .i64 a, .int .i64 b]) 0] =
    some [.bool (clash ⟨k', a', b'⟩ ⟨k, a, b⟩)] := by
  refine F61.fnS (xn _ _ (by decide)) rfl rfl ?_
  repeat' (first | (simp only [go_sem, reduceIte, Nat.reduceEqDiff, Nat.reduceAdd, Nat.reduceSub, Nat.reduceLeDiff, Nat.reduceLT, Nat.reduceMul, Nat.reduceBEq, reduceCtorEq, Int.reduceLT, Int.reduceLE, Int.reduceEq, Int.reduceToNat, Int.reduceAdd, Int.reduceSub, Int.reduceNeg, IntWalk.i64_in, *]) | with_reducible refine br_pos (by omega) (fun _ => ?_) | with_reducible refine br_neg (by omega) (fun _ => ?_) | with_reducible refine br_elim (fun _ => ?_) (fun _ => ?_) | with_reducible refine dr_intro (by kernel_rfl) ?_ | with_reducible refine nd_intro (by omega) ?_)
  all_goals (first | (simp_all [clash, rst]; done) | grind [clash, rst])
theorem lp_IndexFunc (f : FuncId) (caps : List V) (q : Duty → Bool) (l : List Duty) (hl : l.length < 4611686018427387904) (hm : C0.mt f = []) (hs : sig C0 f = some (1, true))
    (hq : ∀ k a b, lim C0 (.func f) (.agg [.str (bs k), .int .i64 a, .int .i64 b] :: caps) = some [.bool (q ⟨k, a, b⟩)]) (i : Nat) (h : i ≤ l.length) (h0 : (l.take i).any q = false) :
    lim C0 (.at_ 82 2) [.sl false 3 (l.map dutyV), .fn f caps, .int .i64 l.length, .int .i64 i] = some [.int .i64 (match l.findIdx? q with | some j => (j : Int) | none => -1)] := by
  induction hk : l.length - i generalizing i with
  | zero =>
    have h2 : ¬ i < l.length := by omega
    have h3 : l.findIdx? q = none := by
      rw [List.findIdx?_eq_none_iff]
      intro x hx
      have : l.take i = l := List.take_of_length_le (by omega)
      rw [this] at h0
      simpa using List.any_eq_false.1 h0 x hx
    refine F82.atS rfl rfl ?_
    repeat' (first | (simp only [go_sem, reduceIte, Nat.reduceEqDiff, Nat.reduceAdd, Nat.reduceSub, Nat.reduceLeDiff, Nat.reduceLT, Nat.reduceMul, Nat.reduceBEq, reduceCtorEq, Int.reduceLT, Int.reduceLE, Int.reduceEq, Int.reduceToNat, Int.reduceAdd, Int.reduceSub, Int.reduceNeg, IntWalk.i64_in, *]) | with_reducible refine br_pos (by omega) (fun _ => ?_) | with_reducible refine br_neg (by omega) (fun _ => ?_) | with_reducible refine br_elim (fun _ => ?_) (fun _ => ?_) | with_reducible refine dr_intro (by kernel_rfl) ?_ | with_reducible refine nd_intro (by omega) ?_)
  | succ k ih =>
    have h2 : i < l.length := by omega
    have hw := wrapS (i := i) (by omega)
    have ht : (l.take (i + 1)).any q = q l[i] := by rw [List.take_succ_eq_append_getElem h2, List.any_append, h0]; simp
    by_cases hqi : q l[i] = true
    · have h3 : l.findIdx? q = some i := by
        rw [List.findIdx?_eq_some_iff_getElem]
        refine ⟨h2, hqi, fun j hj => ?_⟩
        have := List.any_eq_false.1 h0 l[j] (by rw [List.mem_take_iff_getElem]; exact ⟨j, by omega, rfl⟩)
        simpa using this
      clear ih
      refine F82.atS rfl rfl ?_
      repeat' (first | (simp only [go_sem, reduceIte, Nat.reduceEqDiff, Nat.reduceAdd, Nat.reduceSub, Nat.reduceLeDiff, Nat.reduceLT, Nat.reduceMul, Nat.reduceBEq, reduceCtorEq, Int.reduceLT, Int.reduceLE, Int.reduceEq, Int.reduceToNat, Int.reduceAdd, Int.reduceSub, Int.reduceNeg, IntWalk.i64_in, *, getS h2, dutyV]) | with_reducible refine br_pos (by omega) (fun _ => ?_) | with_reducible refine br_neg (by omega) (fun _ => ?_) | with_reducible refine br_elim (fun _ => ?_) (fun _ => ?_) | with_reducible refine dr_intro (by kernel_rfl) ?_ | with_reducible refine nd_intro (by omega) ?_)
    · have ih' := ih (i + 1) (by omega) (by rw [ht]; simpa using hqi) (by omega)
      clear ih
      refine F82.atS rfl rfl ?_
      repeat' (first | (simp only [go_sem, reduceIte, Nat.reduceEqDiff, Nat.reduceAdd, Nat.reduceSub, Nat.reduceLeDiff, Nat.reduceLT, Nat.reduceMul, Nat.reduceBEq, reduceCtorEq, Int.reduceLT, Int.reduceLE, Int.reduceEq, Int.reduceToNat, Int.reduceAdd, Int.reduceSub, Int.reduceNeg, IntWalk.i64_in, *, getS h2, dutyV]) | with_reducible refine br_pos (by omega) (fun _ => ?_) | with_reducible refine br_neg (by omega) (fun _ => ?_) | with_reducible refine br_elim (fun _ => ?_) (fun _ => ?_) | with_reducible refine dr_intro (by kernel_rfl) ?_ | with_reducible refine nd_intro (by omega) ?_)
theorem ev_fits (k : List UInt8) (a b : Int) (l : List Duty) (hl : l.length < 4611686018427387904) : lim C0 (.func 41) [.agg [.str (bs k), .int .i64 a, .int .i64 b], .sl false 3 (l.map dutyV)] =
    some [.bool (l.all fun e => !clash e ⟨k, a, b⟩)] := by
  have hx := lp_IndexFunc 61 [.cptr (.agg [.str (bs k), .int .i64 a, .int .i64 b]) 0] (fun e => clash e ⟨k, a, b⟩) l hl mt_61 sg61 (fun _ _ _ => ev_fits1 _ _ _ _ _ _) 0 (by omega) (by simp)
  simp only [Int.cast_ofNat_Int] at hx
  have he : lim C0 (.func 82) [.sl false 3 (l.map dutyV), .fn 61 [.cptr (.agg [.str (bs k), .int .i64 a, .int .i64 b]) 0]] = some [.int .i64 (match l.findIdx? (fun e => clash e ⟨k, a, b⟩) with | some j => (j : Int) | none => -1)] := by
    refine F82.fnS (xn _ _ (by decide)) rfl rfl ?_
    repeat' (first | (simp only [go_sem, reduceIte, Nat.reduceEqDiff, Nat.reduceAdd, Nat.reduceSub, Nat.reduceLeDiff, Nat.reduceLT, Nat.reduceMul, Nat.reduceBEq, reduceCtorEq, Int.reduceLT, Int.reduceLE, Int.reduceEq, Int.reduceToNat, Int.reduceAdd, Int.reduceSub, Int.reduceNeg, IntWalk.i64_in, *]) | with_reducible refine br_pos (by omega) (fun _ => ?_) | with_reducible refine br_neg (by omega) (fun _ => ?_) | with_reducible refine br_elim (fun _ => ?_) (fun _ => ?_) | with_reducible refine dr_intro (by kernel_rfl) ?_ | with_reducible refine nd_intro (by omega) ?_)
  have hc : lim C0 (.func 60) [.sl false 3 (l.map dutyV), .fn 61 [.cptr (.agg [.str (bs k), .int .i64 a, .int .i64 b]) 0]] = some [.bool (l.any fun e => clash e ⟨k, a, b⟩)] := by
    have hd : decide (0 ≤ (match l.findIdx? (fun e => clash e ⟨k, a, b⟩) with | some j => (j : Int) | none => -1)) = l.any fun e => clash e ⟨k, a, b⟩ := by
      cases hf : l.findIdx? (fun e => clash e ⟨k, a, b⟩) with
      | none => 
        have := List.findIdx?_eq_none_iff.1 hf
        symm
        simpa using this
      | some j =>
        obtain ⟨h1, h2, _⟩ := List.findIdx?_eq_some_iff_getElem.1 hf
        symm
        simp only [Int.natCast_nonneg, decide_true, List.any_eq_true]
        exact ⟨_, List.getElem_mem h1, h2⟩
    refine F60.fnS (xn _ _ (by decide)) rfl rfl ?_
    repeat' (first | (simp only [go_sem, reduceIte, Nat.reduceEqDiff, Nat.reduceAdd, Nat.reduceSub, Nat.reduceLeDiff, Nat.reduceLT, Nat.reduceMul, Nat.reduceBEq, reduceCtorEq, Int.reduceLT, Int.reduceLE, Int.reduceEq, Int.reduceToNat, Int.reduceAdd, Int.reduceSub, Int.reduceNeg, IntWalk.i64_in, *]) | with_reducible refine br_pos (by omega) (fun _ => ?_) | with_reducible refine br_neg (by omega) (fun _ => ?_) | with_reducible refine br_elim (fun _ => ?_) (fun _ => ?_) | with_reducible refine dr_intro (by kernel_rfl) ?_ | with_reducible refine nd_intro (by omega) ?_)
  have hn : (!(l.any fun e => clash e ⟨k, a, b⟩)) = l.all fun e => !clash e ⟨k, a, b⟩ := by rw [List.not_any_eq_all_not]
  refine F41.fnS (xn _ _ (by decide)) rfl rfl ?_
  repeat' (first | (simp only [go_sem, reduceIte, Nat.reduceEqDiff, Nat.reduceAdd, Nat.reduceSub, Nat.reduceLeDiff, Nat.reduceLT, Nat.reduceMul, Nat.reduceBEq, reduceCtorEq, Int.reduceLT, Int.reduceLE, Int.reduceEq, Int.reduceToNat, Int.reduceAdd, Int.reduceSub, Int.reduceNeg, IntWalk.i64_in, *]) | with_reducible refine br_pos (by omega) (fun _ => ?_) | with_reducible refine br_neg (by omega) (fun _ => ?_) | with_reducible refine br_elim (fun _ => ?_) (fun _ => ?_) | with_reducible refine dr_intro (by kernel_rfl) ?_ | with_reducible refine nd_intro (by omega) ?_)
theorem validGo_cons (pre : List Duty) (d : Duty) (r : List Duty) : validGo pre (d :: r) = (dutyOk d && lastBefore pre d && pre.all (fun e => !clash e d) && validGo (pre ++ [d]) r) := rfl
theorem last_take {l : List Duty} {i : Nat} (h : 0 < i) (h2 : i ≤ l.length) : (l.take i).getLast? = some (l[i - 1]'(by omega)) := by
  rw [List.getLast?_eq_getElem?, List.length_take, List.getElem?_take]
  rw [show min i l.length - 1 = i - 1 by omega, if_pos (by omega), List.getElem?_eq_getElem (by omega)]
theorem lp_ValidDuties (l : List Duty) (hl : l.length < 4611686018427387904) (hk : ∀ d ∈ l, d.keeper.length < 4611686018427387904) (i : Nat) (h : i ≤ l.length) :
    lim C0 (.at_ 31 2) [.sl false 3 (l.map dutyV), .sl false 3 (l.map dutyV), .int .i64 l.length, .int .i64 i] = some [.bool (validGo (l.take i) (l.drop i) && decide (l.length ≤ 60))] := by
  have hf := ev_few l.length 60 ⟨by omega, by omega⟩
  have ht : decide ((l.length : Int) ≤ 60) = decide (l.length ≤ 60) := by congr 1; apply propext; omega
  induction hk' : l.length - i generalizing i with
  | zero =>
    have h2 : ¬ i < l.length := by omega
    have h3 : l.drop i = [] := List.drop_eq_nil_of_le (by omega)
    refine F31.atS rfl rfl ?_
    repeat' (first | (simp only [go_sem, reduceIte, Nat.reduceEqDiff, Nat.reduceAdd, Nat.reduceSub, Nat.reduceLeDiff, Nat.reduceLT, Nat.reduceMul, Nat.reduceBEq, reduceCtorEq, Int.reduceLT, Int.reduceLE, Int.reduceEq, Int.reduceToNat, Int.reduceAdd, Int.reduceSub, Int.reduceNeg, IntWalk.i64_in, *, hf, h3, ht, validGo]) | with_reducible refine br_pos (by omega) (fun _ => ?_) | with_reducible refine br_neg (by omega) (fun _ => ?_) | with_reducible refine br_elim (fun _ => ?_) (fun _ => ?_) | with_reducible refine dr_intro (by kernel_rfl) ?_ | with_reducible refine nd_intro (by omega) ?_)
  | succ k ih =>
    have h2 : i < l.length := by omega
    have hw := wrapS (i := i) (by omega)
    have ih' := ih (i + 1) (by omega) (by omega)
    have hkk := hk l[i] (List.getElem_mem h2)
    rw [List.drop_eq_getElem_cons h2, validGo_cons]
    rw [List.take_succ_eq_append_getElem h2] at ih'
    have hfit := ev_fits l[i].keeper l[i].from_ l[i].until_ (l.take i) (by rw [List.length_take]; omega)
    have hfit : lim C0 (.func 41) [.agg [.str (bs l[i].keeper), .int .i64 l[i].from_, .int .i64 l[i].until_], .sl false 3 ((l.map dutyV).take i)] = some [.bool ((l.take i).all fun e => !clash e l[i])] := by
      rw [← List.map_take]; exact hfit
    have hd : lim C0 (.func 39) [.agg [.str (bs l[i].keeper), .int .i64 l[i].from_, .int .i64 l[i].until_]] = some [.bool (dutyOk l[i])] := ev_isDuty l[i].keeper l[i].from_ l[i].until_ hkk
    clear ih hf ht hk
    by_cases h0 : 0 < i
    · have hw2 := wrapP (i := i) (by omega) (by omega)
      have h5 : i - 1 < l.length := by omega
      have hb : lastBefore (l.take i) l[i] = before l[i - 1] l[i] := by simp only [lastBefore, last_take (by omega : 0 < i) h]
      refine F31.atS rfl rfl ?_
      repeat' (first | (simp only [go_sem, reduceIte, Nat.reduceEqDiff, Nat.reduceAdd, Nat.reduceSub, Nat.reduceLeDiff, Nat.reduceLT, Nat.reduceMul, Nat.reduceBEq, reduceCtorEq, Int.reduceLT, Int.reduceLE, Int.reduceEq, Int.reduceToNat, Int.reduceAdd, Int.reduceSub, Int.reduceNeg, IntWalk.i64_in, *, getS h2, getS h5, dutyV]) | with_reducible refine br_pos (by omega) (fun _ => ?_) | with_reducible refine br_neg (by omega) (fun _ => ?_) | with_reducible refine br_elim (fun _ => ?_) (fun _ => ?_) | with_reducible refine dr_intro (by kernel_rfl) ?_ | with_reducible refine nd_intro (by omega) ?_)
      all_goals (first | (simp_all [before]; done) | grind [before])
    · have hb : lastBefore (l.take i) l[i] = true := by
        have : l.take i = [] := by rw [show i = 0 by omega, List.take_zero]
        rw [this]; rfl
      refine F31.atS rfl rfl ?_
      repeat' (first | (simp only [go_sem, reduceIte, Nat.reduceEqDiff, Nat.reduceAdd, Nat.reduceSub, Nat.reduceLeDiff, Nat.reduceLT, Nat.reduceMul, Nat.reduceBEq, reduceCtorEq, Int.reduceLT, Int.reduceLE, Int.reduceEq, Int.reduceToNat, Int.reduceAdd, Int.reduceSub, Int.reduceNeg, IntWalk.i64_in, *, getS h2, dutyV]) | with_reducible refine br_pos (by omega) (fun _ => ?_) | with_reducible refine br_neg (by omega) (fun _ => ?_) | with_reducible refine br_elim (fun _ => ?_) (fun _ => ?_) | with_reducible refine dr_intro (by kernel_rfl) ?_ | with_reducible refine nd_intro (by omega) ?_)
      all_goals (first | (simp_all []; done) | grind)
end Go.Lm.Ga

namespace Go.Lm.Ga
open Go.Proofs Prg
set_option linter.unusedSimpArgs false
set_option maxRecDepth 100000

theorem ev_ValidDuties (l : List Duty) (hl : l.length < 4611686018427387904) (hk : ∀ d ∈ l, d.keeper.length < 4611686018427387904) :
    lim C0 (.func 31) [.sl false 3 (l.map dutyV)] = some [.bool (valid l)] := by
  have h0 := lp_ValidDuties l hl hk 0 (by omega)
  simp only [Int.cast_ofNat_Int, List.take_zero, List.drop_zero] at h0
  refine F31.fnS (xn _ _ (by decide)) rfl rfl ?_
  repeat' (first | (simp only [go_sem, reduceIte, Nat.reduceEqDiff, Nat.reduceAdd, Nat.reduceSub, Nat.reduceLeDiff, Nat.reduceLT, Nat.reduceMul, Nat.reduceBEq, reduceCtorEq, Int.reduceLT, Int.reduceLE, Int.reduceEq, Int.reduceToNat, Int.reduceAdd, Int.reduceSub, Int.reduceNeg, IntWalk.i64_in, *, valid]) | with_reducible refine br_pos (by omega) (fun _ => ?_) | with_reducible refine br_neg (by omega) (fun _ => ?_) | with_reducible refine br_elim (fun _ => ?_) (fun _ => ?_) | with_reducible refine dr_intro (by kernel_rfl) ?_ | with_reducible refine nd_intro (by omega) ?_)

theorem lp_l28Ok2 (l : List Duty) (hl : l.length < 4611686018427387904) (i : Nat) (h2 : i < l.length) (b : Bool)
    (hn : lim C0 (.at_ 29 2) [.sl false 3 (l.map dutyV), .int .i64 ((i + 1 : Nat) : Int)] = some [.bool b]) (k : Nat) (h : k ≤ i) :
    lim C0 (.at_ 29 7) [.sl false 3 (l.map dutyV), .int .i64 i, .int .i64 k] = some [.bool (((l.take i).drop k).all (fun e => !clash e l[i]) && b)] := by
  have hw := wrapS (i := i) (by omega)
  induction hk' : i - k generalizing k with
  | zero =>
    have h3 : ¬ k < i := by omega
    have h4 : (l.take i).drop k = [] := List.drop_eq_nil_of_le (by rw [List.length_take]; omega)
    refine F29.atS rfl rfl ?_
    repeat' (first | (simp only [go_sem, reduceIte, Nat.reduceEqDiff, Nat.reduceAdd, Nat.reduceSub, Nat.reduceLeDiff, Nat.reduceLT, Nat.reduceMul, Nat.reduceBEq, reduceCtorEq, Int.reduceLT, Int.reduceLE, Int.reduceEq, Int.reduceToNat, Int.reduceAdd, Int.reduceSub, Int.reduceNeg, IntWalk.i64_in, *, h4]) | with_reducible refine br_pos (by omega) (fun _ => ?_) | with_reducible refine br_neg (by omega) (fun _ => ?_) | with_reducible refine br_elim (fun _ => ?_) (fun _ => ?_) | with_reducible refine dr_intro (by kernel_rfl) ?_ | with_reducible refine nd_intro (by omega) ?_)
  | succ n ih =>
    have h3 : k < i := by omega
    have h5 : k < l.length := by omega
    have hw2 := wrapS (i := k) (by omega)
    have ih' := ih (k + 1) (by omega) (by omega)
    have h6 : (l.take i).drop k = l[k] :: (l.take i).drop (k + 1) := by
      rw [List.drop_eq_getElem_cons (by rw [List.length_take]; omega), List.getElem_take]
    clear ih
    refine F29.atS rfl rfl ?_
    repeat' (first | (simp only [go_sem, reduceIte, Nat.reduceEqDiff, Nat.reduceAdd, Nat.reduceSub, Nat.reduceLeDiff, Nat.reduceLT, Nat.reduceMul, Nat.reduceBEq, reduceCtorEq, Int.reduceLT, Int.reduceLE, Int.reduceEq, Int.reduceToNat, Int.reduceAdd, Int.reduceSub, Int.reduceNeg, IntWalk.i64_in, *, getS h2, getS h5, dutyV]) | with_reducible refine br_pos (by omega) (fun _ => ?_) | with_reducible refine br_neg (by omega) (fun _ => ?_) | with_reducible refine br_elim (fun _ => ?_) (fun _ => ?_) | with_reducible refine dr_intro (by kernel_rfl) ?_ | with_reducible refine nd_intro (by omega) ?_)
    all_goals (first | (simp_all [clash, rst]; done) | grind [clash, rst])
theorem lp_l28Ok (l : List Duty) (hl : l.length < 4611686018427387904) (hk : ∀ d ∈ l, d.keeper.length < 4611686018427387904) (i : Nat) (h : i ≤ l.length) :
    lim C0 (.at_ 29 2) [.sl false 3 (l.map dutyV), .int .i64 i] = some [.bool (validGo (l.take i) (l.drop i) && decide (l.length ≤ 60))] := by
  have ht : decide ((l.length : Int) ≤ 60) = decide (l.length ≤ 60) := by congr 1; apply propext; omega
  induction hk' : l.length - i generalizing i with
  | zero =>
    have h2 : ¬ i < l.length := by omega
    have h3 : l.drop i = [] := List.drop_eq_nil_of_le (by omega)
    refine F29.atS rfl rfl ?_
    repeat' (first | (simp only [go_sem, reduceIte, Nat.reduceEqDiff, Nat.reduceAdd, Nat.reduceSub, Nat.reduceLeDiff, Nat.reduceLT, Nat.reduceMul, Nat.reduceBEq, reduceCtorEq, Int.reduceLT, Int.reduceLE, Int.reduceEq, Int.reduceToNat, Int.reduceAdd, Int.reduceSub, Int.reduceNeg, IntWalk.i64_in, *, h3, ht, validGo]) | with_reducible refine br_pos (by omega) (fun _ => ?_) | with_reducible refine br_neg (by omega) (fun _ => ?_) | with_reducible refine br_elim (fun _ => ?_) (fun _ => ?_) | with_reducible refine dr_intro (by kernel_rfl) ?_ | with_reducible refine nd_intro (by omega) ?_)
  | succ k ih =>
    have h2 : i < l.length := by omega
    have ih' := ih (i + 1) (by omega) (by omega)
    have hkk := hk l[i] (List.getElem_mem h2)
    rw [List.drop_eq_getElem_cons h2, validGo_cons]
    rw [List.take_succ_eq_append_getElem h2] at ih'
    have hin := lp_l28Ok2 l hl i h2 _ ih' 0 (by omega)
    simp only [Int.cast_ofNat_Int, List.drop_zero] at hin
    have hd : lim C0 (.func 36) [.cptr (.agg [.str (bs l[i].keeper), .int .i64 l[i].from_, .int .i64 l[i].until_]) 0] = some [.bool (dutyOk l[i])] := ev_l28One l[i].keeper l[i].from_ l[i].until_ hkk
    clear ih ht hk ih'
    by_cases h0 : 0 < i
    · have hw2 := wrapP (i := i) (by omega) (by omega)
      have h5 : i - 1 < l.length := by omega
      have hb : lastBefore (l.take i) l[i] = before l[i - 1] l[i] := by simp only [lastBefore, last_take (by omega : 0 < i) h]
      refine F29.atS rfl rfl ?_
      repeat' (first | (simp only [go_sem, reduceIte, Nat.reduceEqDiff, Nat.reduceAdd, Nat.reduceSub, Nat.reduceLeDiff, Nat.reduceLT, Nat.reduceMul, Nat.reduceBEq, reduceCtorEq, Int.reduceLT, Int.reduceLE, Int.reduceEq, Int.reduceToNat, Int.reduceAdd, Int.reduceSub, Int.reduceNeg, IntWalk.i64_in, *, getS h2, getS h5, dutyV]) | with_reducible refine br_pos (by omega) (fun _ => ?_) | with_reducible refine br_neg (by omega) (fun _ => ?_) | with_reducible refine br_elim (fun _ => ?_) (fun _ => ?_) | with_reducible refine dr_intro (by kernel_rfl) ?_ | with_reducible refine nd_intro (by omega) ?_)
      all_goals (first | (simp_all [before]; done) | grind [before])
    · have hb : lastBefore (l.take i) l[i] = true := by
        have : l.take i = [] := by rw [show i = 0 by omega, List.take_zero]
        rw [this]; rfl
      refine F29.atS rfl rfl ?_
      repeat' (first | (simp only [go_sem, reduceIte, Nat.reduceEqDiff, Nat.reduceAdd, Nat.reduceSub, Nat.reduceLeDiff, Nat.reduceLT, Nat.reduceMul, Nat.reduceBEq, reduceCtorEq, Int.reduceLT, Int.reduceLE, Int.reduceEq, Int.reduceToNat, Int.reduceAdd, Int.reduceSub, Int.reduceNeg, IntWalk.i64_in, *, getS h2, dutyV]) | with_reducible refine br_pos (by omega) (fun _ => ?_) | with_reducible refine br_neg (by omega) (fun _ => ?_) | with_reducible refine br_elim (fun _ => ?_) (fun _ => ?_) | with_reducible refine dr_intro (by kernel_rfl) ?_ | with_reducible refine nd_intro (by omega) ?_)
      all_goals (first | (simp_all []; done) | grind)
theorem ev_l28Ok (l : List Duty) (hl : l.length < 4611686018427387904) (hk : ∀ d ∈ l, d.keeper.length < 4611686018427387904) :
    lim C0 (.func 29) [.sl false 3 (l.map dutyV)] = some [.bool (valid l)] := by
  have h0 := lp_l28Ok l hl hk 0 (by omega)
  simp only [Int.cast_ofNat_Int, List.take_zero, List.drop_zero] at h0
  refine F29.fnS (xn _ _ (by decide)) rfl rfl ?_
  repeat' (first | (simp only [go_sem, reduceIte, Nat.reduceEqDiff, Nat.reduceAdd, Nat.reduceSub, Nat.reduceLeDiff, Nat.reduceLT, Nat.reduceMul, Nat.reduceBEq, reduceCtorEq, Int.reduceLT, Int.reduceLE, Int.reduceEq, Int.reduceToNat, Int.reduceAdd, Int.reduceSub, Int.reduceNeg, IntWalk.i64_in, *, valid]) | with_reducible refine br_pos (by omega) (fun _ => ?_) | with_reducible refine br_neg (by omega) (fun _ => ?_) | with_reducible refine br_elim (fun _ => ?_) (fun _ => ?_) | with_reducible refine dr_intro (by kernel_rfl) ?_ | with_reducible refine nd_intro (by omega) ?_)

def betweenC (l : List Duty) (a b : Int) : Int := if valid l then (if timeOk a && timeOk b && decide (a ≤ b) then 0 else 2) else 1
theorem ev_betweenCode (l : List Duty) (hl : l.length < 4611686018427387904) (hk : ∀ d ∈ l, d.keeper.length < 4611686018427387904) (a b : Int) :
    lim C0 (.func 19) [.sl false 3 (l.map dutyV), .int .i64 a, .int .i64 b] = some [.int .i64 (betweenC l a b)] := by
  have h0 := ev_ValidDuties l hl hk
  refine F19.fnS (xn _ _ (by decide)) rfl rfl ?_
  repeat' (first | (simp only [go_sem, reduceIte, Nat.reduceEqDiff, Nat.reduceAdd, Nat.reduceSub, Nat.reduceLeDiff, Nat.reduceLT, Nat.reduceMul, Nat.reduceBEq, reduceCtorEq, Int.reduceLT, Int.reduceLE, Int.reduceEq, Int.reduceToNat, Int.reduceAdd, Int.reduceSub, Int.reduceNeg, IntWalk.i64_in, *]) | with_reducible refine br_pos (by omega) (fun _ => ?_) | with_reducible refine br_neg (by omega) (fun _ => ?_) | with_reducible refine br_elim (fun _ => ?_) (fun _ => ?_) | with_reducible refine dr_intro (by kernel_rfl) ?_ | with_reducible refine nd_intro (by omega) ?_)
  all_goals (first | (simp_all [betweenC, timeOk]; done) | grind [betweenC, timeOk])
theorem ev_l28Span (l : List Duty) (hl : l.length < 4611686018427387904) (hk : ∀ d ∈ l, d.keeper.length < 4611686018427387904) (a b : Int) :
    lim C0 (.func 14) [.sl false 3 (l.map dutyV), .int .i64 a, .int .i64 b] = some [.int .i64 (betweenC l a b)] := by
  have h0 := ev_l28Ok l hl hk
  refine F14.fnS (xn _ _ (by decide)) rfl rfl ?_
  repeat' (first | (simp only [go_sem, reduceIte, Nat.reduceEqDiff, Nat.reduceAdd, Nat.reduceSub, Nat.reduceLeDiff, Nat.reduceLT, Nat.reduceMul, Nat.reduceBEq, reduceCtorEq, Int.reduceLT, Int.reduceLE, Int.reduceEq, Int.reduceToNat, Int.reduceAdd, Int.reduceSub, Int.reduceNeg, IntWalk.i64_in, *]) | with_reducible refine br_pos (by omega) (fun _ => ?_) | with_reducible refine br_neg (by omega) (fun _ => ?_) | with_reducible refine br_elim (fun _ => ?_) (fun _ => ?_) | with_reducible refine dr_intro (by kernel_rfl) ?_ | with_reducible refine nd_intro (by omega) ?_)
  all_goals (first | (simp_all [betweenC, timeOk]; done) | grind [betweenC, timeOk])
end Go.Lm.Ga

namespace Go.Lm.Ga
open Go.Proofs Prg
set_option linter.unusedSimpArgs false
set_option maxRecDepth 100000

/-! Sizes. -/
def szGo : List Duty → Int → Int
  | [], left => left
  | d :: r, left => if left - d.keeper.length < 0 then -1 else szGo r (left - d.keeper.length)
def szS (l : List Duty) (left : Int) : Int := if left - l.length < 0 then -1 else szGo l (left - l.length)
theorem szGo_le : ∀ (l : List Duty) (left : Int), 0 ≤ szGo l left → 0 ≤ left ∧ ∀ d ∈ l, (d.keeper.length : Int) ≤ left
  | [], left, h => ⟨h, by simp⟩
  | d :: r, left, h => by
    unfold szGo at h
    split at h
    · omega
    · obtain ⟨h1, h2⟩ := szGo_le r _ h
      refine ⟨by omega, ?_⟩
      intro e he
      rcases List.mem_cons.1 he with rfl | he
      · omega
      · have := h2 e he; omega
theorem szS_le {l : List Duty} {left : Int} (h : 0 ≤ szS l left) : (l.length : Int) ≤ left ∧ ∀ d ∈ l, (d.keeper.length : Int) ≤ left := by
  unfold szS at h
  split at h
  · omega
  · obtain ⟨h1, h2⟩ := szGo_le _ _ h
    exact ⟨by omega, fun d hd => by have := h2 d hd; omega⟩
theorem ev_szDuty (k : List UInt8) (a b left : Int) (hk : k.length < 4611686018427387904) (hl : 0 ≤ left ∧ left ≤ 1048576) : lim C0 (.func 13) [.agg [.str (bs k), .int .i64 a, .int .i64 b], .int .i64 left] =
    some [.int .i64 (if left - k.length < 0 then -1 else left - k.length)] := by
  have hw : IntKind.i64.wrap (left - k.length) = left - k.length := IntWalk.i64_in _ ⟨by omega, by omega⟩
  refine F13.fnS (xn _ _ (by decide)) rfl rfl ?_
  repeat' (first | (simp only [go_sem, reduceIte, Nat.reduceEqDiff, Nat.reduceAdd, Nat.reduceSub, Nat.reduceLeDiff, Nat.reduceLT, Nat.reduceMul, Nat.reduceBEq, reduceCtorEq, Int.reduceLT, Int.reduceLE, Int.reduceEq, Int.reduceToNat, Int.reduceAdd, Int.reduceSub, Int.reduceNeg, IntWalk.i64_in, *]) | with_reducible refine br_pos (by omega) (fun _ => ?_) | with_reducible refine br_neg (by omega) (fun _ => ?_) | with_reducible refine br_elim (fun _ => ?_) (fun _ => ?_) | with_reducible refine dr_intro (by kernel_rfl) ?_ | with_reducible refine nd_intro (by omega) ?_)
theorem lp_szDutyS (l : List Duty) (hl : l.length < 4611686018427387904) (hk : ∀ d ∈ l, d.keeper.length < 4611686018427387904) (i : Nat) (h : i ≤ l.length) (left : Int) (hle : 0 ≤ left ∧ left ≤ 1048576) :
    lim C0 (.at_ 4 5) [.sl false 3 (l.map dutyV), .int .i64 left, .int .i64 i] = some [.int .i64 (szGo (l.drop i) left)] := by
  induction hk' : l.length - i generalizing i left with
  | zero =>
    have h2 : ¬ i < l.length := by omega
    have h3 : l.drop i = [] := List.drop_eq_nil_of_le (by omega)
    refine F4.atS rfl rfl ?_
    repeat' (first | (simp only [go_sem, reduceIte, Nat.reduceEqDiff, Nat.reduceAdd, Nat.reduceSub, Nat.reduceLeDiff, Nat.reduceLT, Nat.reduceMul, Nat.reduceBEq, reduceCtorEq, Int.reduceLT, Int.reduceLE, Int.reduceEq, Int.reduceToNat, Int.reduceAdd, Int.reduceSub, Int.reduceNeg, IntWalk.i64_in, *, h3, szGo]) | with_reducible refine br_pos (by omega) (fun _ => ?_) | with_reducible refine br_neg (by omega) (fun _ => ?_) | with_reducible refine br_elim (fun _ => ?_) (fun _ => ?_) | with_reducible refine dr_intro (by kernel_rfl) ?_ | with_reducible refine nd_intro (by omega) ?_)
  | succ k ih =>
    have h2 : i < l.length := by omega
    have hw := wrapS (i := i) (by omega)
    have hz := ev_szDuty l[i].keeper l[i].from_ l[i].until_ left (hk _ (List.getElem_mem h2)) hle
    rw [List.drop_eq_getElem_cons h2, szGo]
    by_cases hlt : left - l[i].keeper.length < 0
    · rw [if_pos hlt] at hz ⊢
      clear ih hk
      refine F4.atS rfl rfl ?_
      repeat' (first | (simp only [go_sem, reduceIte, Nat.reduceEqDiff, Nat.reduceAdd, Nat.reduceSub, Nat.reduceLeDiff, Nat.reduceLT, Nat.reduceMul, Nat.reduceBEq, reduceCtorEq, Int.reduceLT, Int.reduceLE, Int.reduceEq, Int.reduceToNat, Int.reduceAdd, Int.reduceSub, Int.reduceNeg, IntWalk.i64_in, *, getS h2, dutyV]) | with_reducible refine br_pos (by omega) (fun _ => ?_) | with_reducible refine br_neg (by omega) (fun _ => ?_) | with_reducible refine br_elim (fun _ => ?_) (fun _ => ?_) | with_reducible refine dr_intro (by kernel_rfl) ?_ | with_reducible refine nd_intro (by omega) ?_)
    · rw [if_neg hlt] at hz ⊢
      have ih' := ih (i + 1) (by omega) (left - l[i].keeper.length) ⟨by omega, by omega⟩ (by omega)
      clear ih hk
      refine F4.atS rfl rfl ?_
      repeat' (first | (simp only [go_sem, reduceIte, Nat.reduceEqDiff, Nat.reduceAdd, Nat.reduceSub, Nat.reduceLeDiff, Nat.reduceLT, Nat.reduceMul, Nat.reduceBEq, reduceCtorEq, Int.reduceLT, Int.reduceLE, Int.reduceEq, Int.reduceToNat, Int.reduceAdd, Int.reduceSub, Int.reduceNeg, IntWalk.i64_in, *, getS h2, dutyV]) | with_reducible refine br_pos (by omega) (fun _ => ?_) | with_reducible refine br_neg (by omega) (fun _ => ?_) | with_reducible refine br_elim (fun _ => ?_) (fun _ => ?_) | with_reducible refine dr_intro (by kernel_rfl) ?_ | with_reducible refine nd_intro (by omega) ?_)
theorem ev_szDutyS (l : List Duty) (hl : l.length < 4611686018427387904) (hk : ∀ d ∈ l, d.keeper.length < 4611686018427387904) :
    lim C0 (.func 4) [.sl false 3 (l.map dutyV), .int .i64 1048576] = some [.int .i64 (szS l 1048576)] := by
  have hw : IntKind.i64.wrap (1048576 - l.length) = 1048576 - l.length := IntWalk.i64_in _ ⟨by omega, by omega⟩
  by_cases h : 1048576 - (l.length : Int) < 0
  · have hs : szS l 1048576 = -1 := by unfold szS; rw [if_pos h]
    refine F4.fnS (xn _ _ (by decide)) rfl rfl ?_
    repeat' (first | (simp only [go_sem, reduceIte, Nat.reduceEqDiff, Nat.reduceAdd, Nat.reduceSub, Nat.reduceLeDiff, Nat.reduceLT, Nat.reduceMul, Nat.reduceBEq, reduceCtorEq, Int.reduceLT, Int.reduceLE, Int.reduceEq, Int.reduceToNat, Int.reduceAdd, Int.reduceSub, Int.reduceNeg, IntWalk.i64_in, *]) | with_reducible refine br_pos (by omega) (fun _ => ?_) | with_reducible refine br_neg (by omega) (fun _ => ?_) | with_reducible refine br_elim (fun _ => ?_) (fun _ => ?_) | with_reducible refine dr_intro (by kernel_rfl) ?_ | with_reducible refine nd_intro (by omega) ?_)
  · have h0 := lp_szDutyS l hl hk 0 (by omega) (1048576 - l.length) ⟨by omega, by omega⟩
    simp only [Int.cast_ofNat_Int, List.drop_zero] at h0
    have hs : szS l 1048576 = szGo l (1048576 - l.length) := by unfold szS; rw [if_neg h]
    refine F4.fnS (xn _ _ (by decide)) rfl rfl ?_
    repeat' (first | (simp only [go_sem, reduceIte, Nat.reduceEqDiff, Nat.reduceAdd, Nat.reduceSub, Nat.reduceLeDiff, Nat.reduceLT, Nat.reduceMul, Nat.reduceBEq, reduceCtorEq, Int.reduceLT, Int.reduceLE, Int.reduceEq, Int.reduceToNat, Int.reduceAdd, Int.reduceSub, Int.reduceNeg, IntWalk.i64_in, *]) | with_reducible refine br_pos (by omega) (fun _ => ?_) | with_reducible refine br_neg (by omega) (fun _ => ?_) | with_reducible refine br_elim (fun _ => ?_) (fun _ => ?_) | with_reducible refine dr_intro (by kernel_rfl) ?_ | with_reducible refine nd_intro (by omega) ?_)

/-! Copies. -/
theorem ev_toDuty (k : List UInt8) (a b : Int) : lim C0 (.func 18) [.agg [.str (bs k), .int .i64 a, .int .i64 b]] = some [.agg [.str (bs k), .int .i64 a, .int .i64 b]] := by
  refine F18.fnS (xn _ _ (by decide)) rfl rfl ?_
  repeat' (first | (simp only [go_sem, reduceIte, Nat.reduceEqDiff, Nat.reduceAdd, Nat.reduceSub, Nat.reduceLeDiff, Nat.reduceLT, Nat.reduceMul, Nat.reduceBEq, reduceCtorEq, Int.reduceLT, Int.reduceLE, Int.reduceEq, Int.reduceToNat, Int.reduceAdd, Int.reduceSub, Int.reduceNeg, IntWalk.i64_in, *]) | with_reducible refine br_pos (by omega) (fun _ => ?_) | with_reducible refine br_neg (by omega) (fun _ => ?_) | with_reducible refine br_elim (fun _ => ?_) (fun _ => ?_) | with_reducible refine dr_intro (by kernel_rfl) ?_ | with_reducible refine nd_intro (by omega) ?_)
def dz : Duty := ⟨[], 0, 0⟩
theorem lp_toDutyS (l : List Duty) (hl : l.length ≤ 1048576) (i : Nat) (h : i ≤ l.length) :
    lim C0 (.at_ 6 3) [.sl false 3 (l.map dutyV), .sl true 3 ((l.take i ++ List.replicate (l.length - i) dz).map dutyV), .int .i64 i] = some [.sl true 3 (l.map dutyV)] := by
  obtain ⟨n, hn⟩ : ∃ n, l.length - i = n := ⟨_, rfl⟩
  induction n generalizing i with
  | zero =>
    have h2 : ¬ i < l.length := by omega
    have h3 : (l.take i ++ List.replicate (l.length - i) dz) = l := by rw [hn, List.take_of_length_le (by omega)]; simp
    clear hn
    refine F6.atS rfl rfl ?_
    repeat' (first | (simp only [go_sem, reduceIte, Nat.reduceEqDiff, Nat.reduceAdd, Nat.reduceSub, Nat.reduceLeDiff, Nat.reduceLT, Nat.reduceMul, Nat.reduceBEq, reduceCtorEq, Int.reduceLT, Int.reduceLE, Int.reduceEq, Int.reduceToNat, Int.reduceAdd, Int.reduceSub, Int.reduceNeg, IntWalk.i64_in, *, h3]) | with_reducible refine br_pos (by omega) (fun _ => ?_) | with_reducible refine br_neg (by omega) (fun _ => ?_) | with_reducible refine br_elim (fun _ => ?_) (fun _ => ?_) | with_reducible refine dr_intro (by kernel_rfl) ?_ | with_reducible refine nd_intro (by omega) ?_)
  | succ k ih =>
    have h2 : i < l.length := by omega
    have hw := wrapS (i := i) (by omega)
    have ih' := ih (i + 1) (by omega) (by omega)
    have hz : (l.take i ++ List.replicate (l.length - i) dz)[i]? = some dz := by
      rw [List.getElem?_append_right (by rw [List.length_take]; omega), List.length_take, show i - min i l.length = 0 by omega, hn]; rfl
    have hset : ((l.take i ++ List.replicate (l.length - i) dz).map dutyV).set i (dutyV l[i]) = (l.take (i + 1) ++ List.replicate (l.length - (i + 1)) dz).map dutyV := by
      rw [← List.map_set, List.set_append_right _ _ (by rw [List.length_take]; omega), List.length_take, show i - min i l.length = 0 by omega, List.take_succ_eq_append_getElem h2, hn, List.replicate_succ, List.set_cons_zero, show l.length - (i + 1) = k by omega, List.append_assoc]
      rfl
    simp only [dutyV] at hset
    have hlen : (l.take i ++ List.replicate (l.length - i) dz).length = l.length := by rw [List.length_append, List.length_take, List.length_replicate]; omega
    clear ih hn
    refine F6.atS rfl rfl ?_
    repeat' (first | (simp only [go_sem, reduceIte, Nat.reduceEqDiff, Nat.reduceAdd, Nat.reduceSub, Nat.reduceLeDiff, Nat.reduceLT, Nat.reduceMul, Nat.reduceBEq, reduceCtorEq, Int.reduceLT, Int.reduceLE, Int.reduceEq, Int.reduceToNat, Int.reduceAdd, Int.reduceSub, Int.reduceNeg, IntWalk.i64_in, *, getS h2, dutyV, ev_toDuty]) | with_reducible refine br_pos (by omega) (fun _ => ?_) | with_reducible refine br_neg (by omega) (fun _ => ?_) | with_reducible refine br_elim (fun _ => ?_) (fun _ => ?_) | with_reducible refine dr_intro (by kernel_rfl) ?_ | with_reducible refine nd_intro (by omega) ?_)
theorem ev_toDutyS (l : List Duty) (hl : l.length ≤ 1048576) : lim C0 (.func 6) [.sl false 3 (l.map dutyV)] = some [.sl true 3 (l.map dutyV)] := by
  have h0 := lp_toDutyS l hl 0 (by omega)
  simp only [Int.cast_ofNat_Int, List.take_zero, List.nil_append, Nat.sub_zero, List.map_replicate, dutyV, dz] at h0
  refine F6.fnS (xn _ _ (by decide)) rfl rfl ?_
  repeat' (first | (simp only [go_sem, reduceIte, Nat.reduceEqDiff, Nat.reduceAdd, Nat.reduceSub, Nat.reduceLeDiff, Nat.reduceLT, Nat.reduceMul, Nat.reduceBEq, reduceCtorEq, Int.reduceLT, Int.reduceLE, Int.reduceEq, Int.reduceToNat, Int.reduceAdd, Int.reduceSub, Int.reduceNeg, IntWalk.i64_in, *]) | with_reducible refine br_pos (by omega) (fun _ => ?_) | with_reducible refine br_neg (by omega) (fun _ => ?_) | with_reducible refine br_elim (fun _ => ?_) (fun _ => ?_) | with_reducible refine dr_intro (by kernel_rfl) ?_ | with_reducible refine nd_intro (by omega) ?_)

/-! Comparisons. -/
theorem ev_eqDuty (k k' : List UInt8) (a b a' b' : Int) : lim C0 (.func 25) [.agg [.str (bs k), .int .i64 a, .int .i64 b], .agg [.str (bs k'), .int .i64 a', .int .i64 b']] =
    some [.bool (decide (k = k') && (decide (a = a') && decide (b = b')))] := by
  refine F25.fnS (xn _ _ (by decide)) rfl rfl ?_
  repeat' (first | (simp only [go_sem, reduceIte, Nat.reduceEqDiff, Nat.reduceAdd, Nat.reduceSub, Nat.reduceLeDiff, Nat.reduceLT, Nat.reduceMul, Nat.reduceBEq, reduceCtorEq, Int.reduceLT, Int.reduceLE, Int.reduceEq, Int.reduceToNat, Int.reduceAdd, Int.reduceSub, Int.reduceNeg, IntWalk.i64_in, *]) | with_reducible refine br_pos (by omega) (fun _ => ?_) | with_reducible refine br_neg (by omega) (fun _ => ?_) | with_reducible refine br_elim (fun _ => ?_) (fun _ => ?_) | with_reducible refine dr_intro (by kernel_rfl) ?_ | with_reducible refine nd_intro (by omega) ?_)
  all_goals (first | (simp_all []; done) | grind)
theorem lp_eqDutyS (l : List Duty) (hl : l.length < 4611686018427387904) (i : Nat) (h : i ≤ l.length) :
    lim C0 (.at_ 9 4) [.sl false 3 (l.map dutyV), .sl false 3 (l.map dutyV), .int .i64 i] = some [.bool true] := by
  obtain ⟨n, hn⟩ : ∃ n, l.length - i = n := ⟨_, rfl⟩
  induction n generalizing i with
  | zero =>
    have h2 : ¬ i < l.length := by omega
    refine F9.atS rfl rfl ?_
    repeat' (first | (simp only [go_sem, reduceIte, Nat.reduceEqDiff, Nat.reduceAdd, Nat.reduceSub, Nat.reduceLeDiff, Nat.reduceLT, Nat.reduceMul, Nat.reduceBEq, reduceCtorEq, Int.reduceLT, Int.reduceLE, Int.reduceEq, Int.reduceToNat, Int.reduceAdd, Int.reduceSub, Int.reduceNeg, IntWalk.i64_in, *]) | with_reducible refine br_pos (by omega) (fun _ => ?_) | with_reducible refine br_neg (by omega) (fun _ => ?_) | with_reducible refine br_elim (fun _ => ?_) (fun _ => ?_) | with_reducible refine dr_intro (by kernel_rfl) ?_ | with_reducible refine nd_intro (by omega) ?_)
  | succ k ih =>
    have h2 : i < l.length := by omega
    have hw := wrapS (i := i) (by omega)
    have ih' := ih (i + 1) (by omega) (by omega)
    clear ih hn
    refine F9.atS rfl rfl ?_
    repeat' (first | (simp only [go_sem, reduceIte, Nat.reduceEqDiff, Nat.reduceAdd, Nat.reduceSub, Nat.reduceLeDiff, Nat.reduceLT, Nat.reduceMul, Nat.reduceBEq, reduceCtorEq, Int.reduceLT, Int.reduceLE, Int.reduceEq, Int.reduceToNat, Int.reduceAdd, Int.reduceSub, Int.reduceNeg, IntWalk.i64_in, *, getS h2, dutyV, ev_eqDuty]) | with_reducible refine br_pos (by omega) (fun _ => ?_) | with_reducible refine br_neg (by omega) (fun _ => ?_) | with_reducible refine br_elim (fun _ => ?_) (fun _ => ?_) | with_reducible refine dr_intro (by kernel_rfl) ?_ | with_reducible refine nd_intro (by omega) ?_)
theorem ev_eqDutyS (l : List Duty) (hl : l.length < 4611686018427387904) : lim C0 (.func 9) [.sl false 3 (l.map dutyV), .sl false 3 (l.map dutyV)] = some [.bool true] := by
  have h0 := lp_eqDutyS l hl 0 (by omega)
  simp only [Int.cast_ofNat_Int] at h0
  refine F9.fnS (xn _ _ (by decide)) rfl rfl ?_
  repeat' (first | (simp only [go_sem, reduceIte, Nat.reduceEqDiff, Nat.reduceAdd, Nat.reduceSub, Nat.reduceLeDiff, Nat.reduceLT, Nat.reduceMul, Nat.reduceBEq, reduceCtorEq, Int.reduceLT, Int.reduceLE, Int.reduceEq, Int.reduceToNat, Int.reduceAdd, Int.reduceSub, Int.reduceNeg, IntWalk.i64_in, *]) | with_reducible refine br_pos (by omega) (fun _ => ?_) | with_reducible refine br_neg (by omega) (fun _ => ?_) | with_reducible refine br_elim (fun _ => ?_) (fun _ => ?_) | with_reducible refine dr_intro (by kernel_rfl) ?_ | with_reducible refine nd_intro (by omega) ?_)
theorem lp_eqInt64S (o o' : Bool) (l : List Int) (hl : l.length < 4611686018427387904) (i : Nat) (h : i ≤ l.length) :
    lim C0 (.at_ 24 4) [.sl o 1 (l.map encI), .sl o' 1 (l.map encI), .int .i64 i] = some [.bool true] := by
  obtain ⟨n, hn⟩ : ∃ n, l.length - i = n := ⟨_, rfl⟩
  induction n generalizing i with
  | zero =>
    have h2 : ¬ i < l.length := by omega
    refine F24.atS rfl rfl ?_
    repeat' (first | (simp only [go_sem, reduceIte, Nat.reduceEqDiff, Nat.reduceAdd, Nat.reduceSub, Nat.reduceLeDiff, Nat.reduceLT, Nat.reduceMul, Nat.reduceBEq, reduceCtorEq, Int.reduceLT, Int.reduceLE, Int.reduceEq, Int.reduceToNat, Int.reduceAdd, Int.reduceSub, Int.reduceNeg, IntWalk.i64_in, *]) | with_reducible refine br_pos (by omega) (fun _ => ?_) | with_reducible refine br_neg (by omega) (fun _ => ?_) | with_reducible refine br_elim (fun _ => ?_) (fun _ => ?_) | with_reducible refine dr_intro (by kernel_rfl) ?_ | with_reducible refine nd_intro (by omega) ?_)
  | succ k ih =>
    have h2 : i < l.length := by omega
    have hw := wrapS (i := i) (by omega)
    have ih' := ih (i + 1) (by omega) (by omega)
    clear ih hn
    refine F24.atS rfl rfl ?_
    repeat' (first | (simp only [go_sem, reduceIte, Nat.reduceEqDiff, Nat.reduceAdd, Nat.reduceSub, Nat.reduceLeDiff, Nat.reduceLT, Nat.reduceMul, Nat.reduceBEq, reduceCtorEq, Int.reduceLT, Int.reduceLE, Int.reduceEq, Int.reduceToNat, Int.reduceAdd, Int.reduceSub, Int.reduceNeg, IntWalk.i64_in, *, getS h2, encI]) | with_reducible refine br_pos (by omega) (fun _ => ?_) | with_reducible refine br_neg (by omega) (fun _ => ?_) | with_reducible refine br_elim (fun _ => ?_) (fun _ => ?_) | with_reducible refine dr_intro (by kernel_rfl) ?_ | with_reducible refine nd_intro (by omega) ?_)
theorem ev_eqInt64S (o o' : Bool) (l : List Int) (hl : l.length < 4611686018427387904) : lim C0 (.func 24) [.sl o 1 (l.map encI), .sl o' 1 (l.map encI)] = some [.bool true] := by
  have h0 := lp_eqInt64S o o' l hl 0 (by omega)
  simp only [Int.cast_ofNat_Int] at h0
  refine F24.fnS (xn _ _ (by decide)) rfl rfl ?_
  repeat' (first | (simp only [go_sem, reduceIte, Nat.reduceEqDiff, Nat.reduceAdd, Nat.reduceSub, Nat.reduceLeDiff, Nat.reduceLT, Nat.reduceMul, Nat.reduceBEq, reduceCtorEq, Int.reduceLT, Int.reduceLE, Int.reduceEq, Int.reduceToNat, Int.reduceAdd, Int.reduceSub, Int.reduceNeg, IntWalk.i64_in, *]) | with_reducible refine br_pos (by omega) (fun _ => ?_) | with_reducible refine br_neg (by omega) (fun _ => ?_) | with_reducible refine br_elim (fun _ => ?_) (fun _ => ?_) | with_reducible refine dr_intro (by kernel_rfl) ?_ | with_reducible refine nd_intro (by omega) ?_)
def intsV (o : Bool) (l : List Int) : V := .sl o 1 (l.map encI)
theorem lp_eqInt64SS (o o' : Bool) (l : List (List Int)) (hl : l.length < 4611686018427387904) (hl2 : ∀ x ∈ l, x.length < 4611686018427387904) (i : Nat) (h : i ≤ l.length) :
    lim C0 (.at_ 8 4) [.sl false 1 (l.map (intsV o)), .sl false 1 (l.map (intsV o')), .int .i64 i] = some [.bool true] := by
  obtain ⟨n, hn⟩ : ∃ n, l.length - i = n := ⟨_, rfl⟩
  induction n generalizing i with
  | zero =>
    have h2 : ¬ i < l.length := by omega
    refine F8.atS rfl rfl ?_
    repeat' (first | (simp only [go_sem, reduceIte, Nat.reduceEqDiff, Nat.reduceAdd, Nat.reduceSub, Nat.reduceLeDiff, Nat.reduceLT, Nat.reduceMul, Nat.reduceBEq, reduceCtorEq, Int.reduceLT, Int.reduceLE, Int.reduceEq, Int.reduceToNat, Int.reduceAdd, Int.reduceSub, Int.reduceNeg, IntWalk.i64_in, *]) | with_reducible refine br_pos (by omega) (fun _ => ?_) | with_reducible refine br_neg (by omega) (fun _ => ?_) | with_reducible refine br_elim (fun _ => ?_) (fun _ => ?_) | with_reducible refine dr_intro (by kernel_rfl) ?_ | with_reducible refine nd_intro (by omega) ?_)
  | succ k ih =>
    have h2 : i < l.length := by omega
    have hw := wrapS (i := i) (by omega)
    have ih' := ih (i + 1) (by omega) (by omega)
    have he := ev_eqInt64S o o' l[i] (hl2 _ (List.getElem_mem h2))
    clear ih hn hl2
    refine F8.atS rfl rfl ?_
    repeat' (first | (simp only [go_sem, reduceIte, Nat.reduceEqDiff, Nat.reduceAdd, Nat.reduceSub, Nat.reduceLeDiff, Nat.reduceLT, Nat.reduceMul, Nat.reduceBEq, reduceCtorEq, Int.reduceLT, Int.reduceLE, Int.reduceEq, Int.reduceToNat, Int.reduceAdd, Int.reduceSub, Int.reduceNeg, IntWalk.i64_in, *, getS h2, intsV]) | with_reducible refine br_pos (by omega) (fun _ => ?_) | with_reducible refine br_neg (by omega) (fun _ => ?_) | with_reducible refine br_elim (fun _ => ?_) (fun _ => ?_) | with_reducible refine dr_intro (by kernel_rfl) ?_ | with_reducible refine nd_intro (by omega) ?_)
theorem ev_eqInt64SS (o o' : Bool) (l : List (List Int)) (hl : l.length < 4611686018427387904) (hl2 : ∀ x ∈ l, x.length < 4611686018427387904) :
    lim C0 (.func 8) [.sl false 1 (l.map (intsV o)), .sl false 1 (l.map (intsV o'))] = some [.bool true] := by
  have h0 := lp_eqInt64SS o o' l hl hl2 0 (by omega)
  simp only [Int.cast_ofNat_Int] at h0
  refine F8.fnS (xn _ _ (by decide)) rfl rfl ?_
  repeat' (first | (simp only [go_sem, reduceIte, Nat.reduceEqDiff, Nat.reduceAdd, Nat.reduceSub, Nat.reduceLeDiff, Nat.reduceLT, Nat.reduceMul, Nat.reduceBEq, reduceCtorEq, Int.reduceLT, Int.reduceLE, Int.reduceEq, Int.reduceToNat, Int.reduceAdd, Int.reduceSub, Int.reduceNeg, IntWalk.i64_in, *]) | with_reducible refine br_pos (by omega) (fun _ => ?_) | with_reducible refine br_neg (by omega) (fun _ => ?_) | with_reducible refine br_elim (fun _ => ?_) (fun _ => ?_) | with_reducible refine dr_intro (by kernel_rfl) ?_ | with_reducible refine nd_intro (by omega) ?_)

/-! Marks. -/
def iota (k : Int) : Nat → List Int
  | 0 => []
  | n + 1 => k :: iota (k + 1) n
theorem iota_length : ∀ (n : Nat) (k : Int), (iota k n).length = n
  | 0, _ => rfl
  | n + 1, k => by simp [iota, iota_length n]
theorem take_set (l : List Int) (i : Nat) (x : Int) (h : i < l.length) : (l.set i x).take (i + 1) = l.take i ++ [x] := by
  rw [List.take_succ_eq_append_getElem (by rw [List.length_set]; exact h), List.take_set_of_le (Nat.le_refl i)]; simp
theorem lp_markInt64S (n : Nat) : ∀ (l : List Int) (k : Int) (i : Nat), i ≤ l.length → l.length - i = n → 0 ≤ k → k + n < 4611686018427387904 → l.length < 4611686018427387904 →
    lim C0 (.at_ 27 2) [.sl true 1 (l.map encI), .int .i64 k, .int .i64 i] = some [.int .i64 (k + n), .sl true 1 ((l.take i ++ iota k n).map encI)] := by
  induction n with
  | zero =>
    intro l k i h hn h0 hk hl
    have h2 : ¬ i < l.length := by omega
    have h3 : l.take i ++ iota k 0 = l := by rw [List.take_of_length_le (by omega)]; simp [iota]
    clear hn
    refine F27.atS rfl rfl ?_
    repeat' (first | (simp only [go_sem, reduceIte, Nat.reduceEqDiff, Nat.reduceAdd, Nat.reduceSub, Nat.reduceLeDiff, Nat.reduceLT, Nat.reduceMul, Nat.reduceBEq, reduceCtorEq, Int.reduceLT, Int.reduceLE, Int.reduceEq, Int.reduceToNat, Int.reduceAdd, Int.reduceSub, Int.reduceNeg, IntWalk.i64_in, *, h3]) | with_reducible refine br_pos (by omega) (fun _ => ?_) | with_reducible refine br_neg (by omega) (fun _ => ?_) | with_reducible refine br_elim (fun _ => ?_) (fun _ => ?_) | with_reducible refine dr_intro (by kernel_rfl) ?_ | with_reducible refine nd_intro (by omega) ?_)
  | succ n ih =>
    intro l k i h hn h0 hk hl
    have h2 : i < l.length := by omega
    have hw := wrapS (i := i) (by omega)
    have hw2 : IntKind.i64.wrap (k + 1) = k + 1 := IntWalk.i64_in _ ⟨by omega, by omega⟩
    have ih' := ih (l.set i k) (k + 1) (i + 1) (by rw [List.length_set]; omega) (by rw [List.length_set]; omega) (by omega) (by omega) (by rw [List.length_set]; omega)
    rw [take_set l i k h2, List.append_assoc, show k + 1 + (n : Int) = k + ((n + 1 : Nat) : Int) by omega] at ih'
    have ih' : lim C0 (.at_ 27 2) [.sl true 1 ((l.map encI).set i (.int .i64 k)), .int .i64 (k + 1), .int .i64 ((i + 1 : Nat) : Int)] = some [.int .i64 (k + ((n + 1 : Nat) : Int)), .sl true 1 ((l.take i ++ iota k (n + 1)).map encI)] := by
      rw [List.map_set] at ih'; exact ih'
    clear ih hn
    refine F27.atS rfl rfl ?_
    repeat' (first | (simp only [go_sem, reduceIte, Nat.reduceEqDiff, Nat.reduceAdd, Nat.reduceSub, Nat.reduceLeDiff, Nat.reduceLT, Nat.reduceMul, Nat.reduceBEq, reduceCtorEq, Int.reduceLT, Int.reduceLE, Int.reduceEq, Int.reduceToNat, Int.reduceAdd, Int.reduceSub, Int.reduceNeg, IntWalk.i64_in, *, getS h2, encI]) | with_reducible refine br_pos (by omega) (fun _ => ?_) | with_reducible refine br_neg (by omega) (fun _ => ?_) | with_reducible refine br_elim (fun _ => ?_) (fun _ => ?_) | with_reducible refine dr_intro (by kernel_rfl) ?_ | with_reducible refine nd_intro (by omega) ?_)
theorem ev_markInt64S (l : List Int) (k : Int) (h0 : 0 ≤ k) (hk : k + l.length < 4611686018427387904) :
    lim C0 (.func 27) [.sl true 1 (l.map encI), .int .i64 k] = some [.int .i64 (k + l.length), .sl true 1 ((iota k l.length).map encI)] := by
  have h1 := lp_markInt64S l.length l k 0 (by omega) (by omega) h0 hk (by omega)
  simp only [Int.cast_ofNat_Int, List.take_zero, List.nil_append] at h1
  refine F27.fnS (xn _ _ (by decide)) rfl rfl ?_
  repeat' (first | (simp only [go_sem, reduceIte, Nat.reduceEqDiff, Nat.reduceAdd, Nat.reduceSub, Nat.reduceLeDiff, Nat.reduceLT, Nat.reduceMul, Nat.reduceBEq, reduceCtorEq, Int.reduceLT, Int.reduceLE, Int.reduceEq, Int.reduceToNat, Int.reduceAdd, Int.reduceSub, Int.reduceNeg, IntWalk.i64_in, *]) | with_reducible refine br_pos (by omega) (fun _ => ?_) | with_reducible refine br_neg (by omega) (fun _ => ?_) | with_reducible refine br_elim (fun _ => ?_) (fun _ => ?_) | with_reducible refine dr_intro (by kernel_rfl) ?_ | with_reducible refine nd_intro (by omega) ?_)
theorem lp_heldInt64S (n : Nat) : ∀ (o : Bool) (l : List Int) (k : Int) (i : Nat), i ≤ l.length → l.drop i = iota k n → 0 ≤ k → k + n < 4611686018427387904 → l.length < 4611686018427387904 →
    lim C0 (.at_ 28 2) [.sl o 1 (l.map encI), .int .i64 k, .int .i64 i] = some [.int .i64 (k + n)] := by
  induction n with
  | zero =>
    intro o l k i h hn h0 hk hl
    have h2 : ¬ i < l.length := by have := congrArg List.length hn; rw [List.length_drop, iota_length] at this; omega
    clear hn
    refine F28.atS rfl rfl ?_
    repeat' (first | (simp only [go_sem, reduceIte, Nat.reduceEqDiff, Nat.reduceAdd, Nat.reduceSub, Nat.reduceLeDiff, Nat.reduceLT, Nat.reduceMul, Nat.reduceBEq, reduceCtorEq, Int.reduceLT, Int.reduceLE, Int.reduceEq, Int.reduceToNat, Int.reduceAdd, Int.reduceSub, Int.reduceNeg, IntWalk.i64_in, *]) | with_reducible refine br_pos (by omega) (fun _ => ?_) | with_reducible refine br_neg (by omega) (fun _ => ?_) | with_reducible refine br_elim (fun _ => ?_) (fun _ => ?_) | with_reducible refine dr_intro (by kernel_rfl) ?_ | with_reducible refine nd_intro (by omega) ?_)
  | succ n ih =>
    intro o l k i h hn h0 hk hl
    have h2 : i < l.length := by have := congrArg List.length hn; rw [List.length_drop, iota_length] at this; omega
    have hw := wrapS (i := i) (by omega)
    have hw2 : IntKind.i64.wrap (k + 1) = k + 1 := IntWalk.i64_in _ ⟨by omega, by omega⟩
    rw [List.drop_eq_getElem_cons h2] at hn
    obtain ⟨hn1, hn2⟩ := List.cons.inj hn
    have ih' := ih o l (k + 1) (i + 1) (by omega) hn2 (by omega) (by omega) hl
    rw [show k + 1 + (n : Int) = k + ((n + 1 : Nat) : Int) by omega] at ih'
    clear ih hn hn2
    refine F28.atS rfl rfl ?_
    repeat' (first | (simp only [go_sem, reduceIte, Nat.reduceEqDiff, Nat.reduceAdd, Nat.reduceSub, Nat.reduceLeDiff, Nat.reduceLT, Nat.reduceMul, Nat.reduceBEq, reduceCtorEq, Int.reduceLT, Int.reduceLE, Int.reduceEq, Int.reduceToNat, Int.reduceAdd, Int.reduceSub, Int.reduceNeg, IntWalk.i64_in, *, getS h2, encI]) | with_reducible refine br_pos (by omega) (fun _ => ?_) | with_reducible refine br_neg (by omega) (fun _ => ?_) | with_reducible refine br_elim (fun _ => ?_) (fun _ => ?_) | with_reducible refine dr_intro (by kernel_rfl) ?_ | with_reducible refine nd_intro (by omega) ?_)
theorem ev_heldInt64S (o : Bool) (n : Nat) (k : Int) (h0 : 0 ≤ k) (hk : k + n < 4611686018427387904) :
    lim C0 (.func 28) [.sl o 1 ((iota k n).map encI), .int .i64 k] = some [.int .i64 (k + n)] := by
  have h1 := lp_heldInt64S n o (iota k n) k 0 (by omega) rfl h0 hk (by rw [iota_length]; omega)
  simp only [Int.cast_ofNat_Int] at h1
  refine F28.fnS (xn _ _ (by decide)) rfl rfl ?_
  repeat' (first | (simp only [go_sem, reduceIte, Nat.reduceEqDiff, Nat.reduceAdd, Nat.reduceSub, Nat.reduceLeDiff, Nat.reduceLT, Nat.reduceMul, Nat.reduceBEq, reduceCtorEq, Int.reduceLT, Int.reduceLE, Int.reduceEq, Int.reduceToNat, Int.reduceAdd, Int.reduceSub, Int.reduceNeg, IntWalk.i64_in, *]) | with_reducible refine br_pos (by omega) (fun _ => ?_) | with_reducible refine br_neg (by omega) (fun _ => ?_) | with_reducible refine br_elim (fun _ => ?_) (fun _ => ?_) | with_reducible refine dr_intro (by kernel_rfl) ?_ | with_reducible refine nd_intro (by omega) ?_)
end Go.Lm.Ga

namespace Go.Lm.Ga
open Go.Proofs Prg
set_option linter.unusedSimpArgs false
set_option maxRecDepth 100000

def markLL : List (List Int) → Int → List (List Int)
  | [], _ => []
  | l :: r, k => iota k l.length :: markLL r (k + l.length)
def sumLen : List (List Int) → Int
  | [] => 0
  | l :: r => l.length + sumLen r
theorem sumLen_nonneg : ∀ ls, 0 ≤ sumLen ls
  | [] => by simp [sumLen]
  | l :: r => by have := sumLen_nonneg r; simp only [sumLen]; omega
theorem markLL_length : ∀ ls k, (markLL ls k).length = ls.length
  | [], _ => rfl
  | l :: r, k => by simp [markLL, markLL_length r]
theorem take_setL {α : Type} (l : List α) (i : Nat) (x : α) (h : i < l.length) : (l.set i x).take (i + 1) = l.take i ++ [x] := by
  rw [List.take_succ_eq_append_getElem (by rw [List.length_set]; exact h), List.take_set_of_le (Nat.le_refl i)]; simp
theorem drop_setL {α : Type} (l : List α) (i : Nat) (x : α) : (l.set i x).drop (i + 1) = l.drop (i + 1) := by
  rw [List.drop_set, if_pos (by omega)]
theorem lp_markInt64SS (n : Nat) : ∀ (l : List (List Int)) (k : Int) (i : Nat), i ≤ l.length → l.length - i = n → 0 ≤ k → k + sumLen (l.drop i) < 4611686018427387904 → l.length < 4611686018427387904 →
    lim C0 (.at_ 11 2) [.sl true 1 (l.map (intsV true)), .int .i64 k, .int .i64 i] = some [.int .i64 (k + sumLen (l.drop i)), .sl true 1 ((l.take i ++ markLL (l.drop i) k).map (intsV true))] := by
  induction n with
  | zero =>
    intro l k i h hn h0 hk hl
    have h2 : ¬ i < l.length := by omega
    have h4 : l.drop i = [] := List.drop_eq_nil_of_le (by omega)
    have h3 : l.take i = l := List.take_of_length_le (by omega)
    rw [h4, h3]
    clear hn hk h3 h4
    refine F11.atS rfl rfl ?_
    repeat' (first | (simp only [go_sem, reduceIte, Nat.reduceEqDiff, Nat.reduceAdd, Nat.reduceSub, Nat.reduceLeDiff, Nat.reduceLT, Nat.reduceMul, Nat.reduceBEq, reduceCtorEq, Int.reduceLT, Int.reduceLE, Int.reduceEq, Int.reduceToNat, Int.reduceAdd, Int.reduceSub, Int.reduceNeg, IntWalk.i64_in, *, markLL, sumLen]) | with_reducible refine br_pos (by omega) (fun _ => ?_) | with_reducible refine br_neg (by omega) (fun _ => ?_) | with_reducible refine br_elim (fun _ => ?_) (fun _ => ?_) | with_reducible refine dr_intro (by kernel_rfl) ?_ | with_reducible refine nd_intro (by omega) ?_)
  | succ n ih =>
    intro l k i h hn h0 hk hl
    have h2 : i < l.length := by omega
    have hw := wrapS (i := i) (by omega)
    rw [List.drop_eq_getElem_cons h2] at hk ⊢
    simp only [sumLen] at hk ⊢
    have hs := sumLen_nonneg (l.drop (i + 1))
    have hm := ev_markInt64S l[i] k h0 (by omega)
    have ih' := ih (l.set i (iota k l[i].length)) (k + l[i].length) (i + 1) (by rw [List.length_set]; omega) (by rw [List.length_set]; omega) (by omega) (by rw [drop_setL]; omega) (by rw [List.length_set]; omega)
    rw [take_setL l i _ h2, drop_setL, List.append_assoc, Int.add_assoc] at ih'
    have ih' : lim C0 (.at_ 11 2) [.sl true 1 ((l.map (intsV true)).set i (.sl true 1 ((iota k l[i].length).map encI))), .int .i64 (k + l[i].length), .int .i64 ((i + 1 : Nat) : Int)] = some [.int .i64 (k + (l[i].length + sumLen (l.drop (i + 1)))), .sl true 1 ((l.take i ++ markLL (l[i] :: l.drop (i + 1)) k).map (intsV true))] := by
      rw [List.map_set] at ih'; exact ih'
    clear ih hn hk
    refine F11.atS rfl rfl ?_
    repeat' (first | (simp only [go_sem, reduceIte, Nat.reduceEqDiff, Nat.reduceAdd, Nat.reduceSub, Nat.reduceLeDiff, Nat.reduceLT, Nat.reduceMul, Nat.reduceBEq, reduceCtorEq, Int.reduceLT, Int.reduceLE, Int.reduceEq, Int.reduceToNat, Int.reduceAdd, Int.reduceSub, Int.reduceNeg, IntWalk.i64_in, *, getS h2, intsV]) | with_reducible refine br_pos (by omega) (fun _ => ?_) | with_reducible refine br_neg (by omega) (fun _ => ?_) | with_reducible refine br_elim (fun _ => ?_) (fun _ => ?_) | with_reducible refine dr_intro (by kernel_rfl) ?_ | with_reducible refine nd_intro (by omega) ?_)
theorem ev_markInt64SS (l : List (List Int)) (k : Int) (h0 : 0 ≤ k) (hk : k + sumLen l < 4611686018427387904) (hl : l.length < 4611686018427387904) :
    lim C0 (.func 11) [.sl true 1 (l.map (intsV true)), .int .i64 k] = some [.int .i64 (k + sumLen l), .sl true 1 ((markLL l k).map (intsV true))] := by
  have h1 := lp_markInt64SS l.length l k 0 (by omega) (by omega) h0 (by simpa using hk) hl
  simp only [Int.cast_ofNat_Int, List.take_zero, List.nil_append, List.drop_zero] at h1
  refine F11.fnS (xn _ _ (by decide)) rfl rfl ?_
  repeat' (first | (simp only [go_sem, reduceIte, Nat.reduceEqDiff, Nat.reduceAdd, Nat.reduceSub, Nat.reduceLeDiff, Nat.reduceLT, Nat.reduceMul, Nat.reduceBEq, reduceCtorEq, Int.reduceLT, Int.reduceLE, Int.reduceEq, Int.reduceToNat, Int.reduceAdd, Int.reduceSub, Int.reduceNeg, IntWalk.i64_in, *]) | with_reducible refine br_pos (by omega) (fun _ => ?_) | with_reducible refine br_neg (by omega) (fun _ => ?_) | with_reducible refine br_elim (fun _ => ?_) (fun _ => ?_) | with_reducible refine dr_intro (by kernel_rfl) ?_ | with_reducible refine nd_intro (by omega) ?_)
theorem lp_heldInt64SS (n : Nat) : ∀ (o : Bool) (ls : List (List Int)) (l : List (List Int)) (k : Int) (i : Nat), i ≤ l.length → ls.length = n → l.drop i = markLL ls k → 0 ≤ k → k + sumLen ls < 4611686018427387904 → l.length < 4611686018427387904 →
    lim C0 (.at_ 12 2) [.sl false 1 (l.map (intsV o)), .int .i64 k, .int .i64 i] = some [.int .i64 (k + sumLen ls)] := by
  induction n with
  | zero =>
    intro o ls l k i h hls hn h0 hk hl
    obtain rfl := List.length_eq_zero_iff.1 hls
    have h2 : ¬ i < l.length := by have := congrArg List.length hn; rw [List.length_drop] at this; simp [markLL] at this; omega
    clear hn hls hk
    refine F12.atS rfl rfl ?_
    repeat' (first | (simp only [go_sem, reduceIte, Nat.reduceEqDiff, Nat.reduceAdd, Nat.reduceSub, Nat.reduceLeDiff, Nat.reduceLT, Nat.reduceMul, Nat.reduceBEq, reduceCtorEq, Int.reduceLT, Int.reduceLE, Int.reduceEq, Int.reduceToNat, Int.reduceAdd, Int.reduceSub, Int.reduceNeg, IntWalk.i64_in, *, sumLen]) | with_reducible refine br_pos (by omega) (fun _ => ?_) | with_reducible refine br_neg (by omega) (fun _ => ?_) | with_reducible refine br_elim (fun _ => ?_) (fun _ => ?_) | with_reducible refine dr_intro (by kernel_rfl) ?_ | with_reducible refine nd_intro (by omega) ?_)
  | succ n ih =>
    intro o ls l k i h hls hn h0 hk hl
    cases ls with
    | nil => simp at hls
    | cons x ls =>
    have h2 : i < l.length := by
      rcases Nat.lt_or_ge i l.length with h2 | h2
      · exact h2
      · rw [List.drop_eq_nil_of_le h2] at hn; simp [markLL] at hn
    have hw := wrapS (i := i) (by omega)
    rw [List.drop_eq_getElem_cons h2] at hn
    obtain ⟨hn1, hn2⟩ := List.cons.inj hn
    simp only [sumLen] at hk ⊢
    have hs := sumLen_nonneg ls
    have hm := ev_heldInt64S o x.length k h0 (by omega)
    rw [← hn1] at hm
    have ih' := ih o ls l (k + x.length) (i + 1) (by omega) (by simpa using hls) hn2 (by omega) (by omega) hl
    rw [Int.add_assoc] at ih'
    have hp : ¬ k + (x.length : Int) < 0 := by omega
    clear ih hn hn1 hn2 hk hls
    refine F12.atS rfl rfl ?_
    repeat' (first | (simp only [go_sem, reduceIte, Nat.reduceEqDiff, Nat.reduceAdd, Nat.reduceSub, Nat.reduceLeDiff, Nat.reduceLT, Nat.reduceMul, Nat.reduceBEq, reduceCtorEq, Int.reduceLT, Int.reduceLE, Int.reduceEq, Int.reduceToNat, Int.reduceAdd, Int.reduceSub, Int.reduceNeg, IntWalk.i64_in, *, getS h2, intsV]) | with_reducible refine br_pos (by omega) (fun _ => ?_) | with_reducible refine br_neg (by omega) (fun _ => ?_) | with_reducible refine br_elim (fun _ => ?_) (fun _ => ?_) | with_reducible refine dr_intro (by kernel_rfl) ?_ | with_reducible refine nd_intro (by omega) ?_)
theorem ev_heldInt64SS (o : Bool) (ls : List (List Int)) (k : Int) (h0 : 0 ≤ k) (hk : k + sumLen ls < 4611686018427387904) (hl : ls.length < 4611686018427387904) :
    lim C0 (.func 12) [.sl false 1 ((markLL ls k).map (intsV o)), .int .i64 k] = some [.int .i64 (k + sumLen ls)] := by
  have h1 := lp_heldInt64SS ls.length o ls (markLL ls k) k 0 (by omega) rfl (by simp) h0 hk (by rw [markLL_length]; exact hl)
  simp only [Int.cast_ofNat_Int] at h1
  refine F12.fnS (xn _ _ (by decide)) rfl rfl ?_
  repeat' (first | (simp only [go_sem, reduceIte, Nat.reduceEqDiff, Nat.reduceAdd, Nat.reduceSub, Nat.reduceLeDiff, Nat.reduceLT, Nat.reduceMul, Nat.reduceBEq, reduceCtorEq, Int.reduceLT, Int.reduceLE, Int.reduceEq, Int.reduceToNat, Int.reduceAdd, Int.reduceSub, Int.reduceNeg, IntWalk.i64_in, *]) | with_reducible refine br_pos (by omega) (fun _ => ?_) | with_reducible refine br_neg (by omega) (fun _ => ?_) | with_reducible refine br_elim (fun _ => ?_) (fun _ => ?_) | with_reducible refine dr_intro (by kernel_rfl) ?_ | with_reducible refine nd_intro (by omega) ?_)

/-! Marks in duties. -/
theorem lp_markText (n : Nat) : ∀ (k : Nat) (out : List UInt8), k = n → out.length + k < 4611686018427387904 → ∃ s, lim C0 (.at_ 26 4) [.int .i64 k, .str (bs out)] = some [.str (bs s)] := by
  induction n using Nat.strongRecOn with
  | _ n ih =>
    intro k out hkn h
    subst hkn
    by_cases h0 : 0 < k
    · have hq : IntKind.i64.wrap ((k : Int).tdiv 10) = ((k / 10 : Nat) : Int) := by
        rw [show (10 : Int) = ((10 : Nat) : Int) from rfl, ← Int.ofNat_tdiv]
        exact IntWalk.i64_in _ ⟨by omega, by omega⟩
      obtain ⟨s, ih'⟩ := ih (k / 10) (by omega) (k / 10) (UInt8.ofNat (IntKind.u8.wrap (IntKind.i64.wrap (48 + (k : Int).tmod 10))).toNat :: out) rfl (by simp only [List.length_cons]; omega)
      refine ⟨s, ?_⟩
      clear ih
      have hs : 1 + out.length ≤ 9223372036854775807 := by omega
      refine F26.atS rfl rfl ?_
      repeat' (first | (simp only [go_sem, reduceIte, Nat.reduceEqDiff, Nat.reduceAdd, Nat.reduceSub, Nat.reduceLeDiff, Nat.reduceLT, Nat.reduceMul, Nat.reduceBEq, reduceCtorEq, Int.reduceLT, Int.reduceLE, Int.reduceEq, Int.reduceToNat, Int.reduceAdd, Int.reduceSub, Int.reduceNeg, IntWalk.i64_in, *, bytesOf]) | with_reducible refine br_pos (by omega) (fun _ => ?_) | with_reducible refine br_neg (by omega) (fun _ => ?_) | with_reducible refine br_elim (fun _ => ?_) (fun _ => ?_) | with_reducible refine dr_intro (by kernel_rfl) ?_ | with_reducible refine nd_intro (by omega) ?_)
    · refine ⟨109 :: out, ?_⟩
      have hs : 1 + out.length ≤ 9223372036854775807 := by omega
      refine F26.atS rfl rfl ?_
      repeat' (first | (simp only [go_sem, reduceIte, Nat.reduceEqDiff, Nat.reduceAdd, Nat.reduceSub, Nat.reduceLeDiff, Nat.reduceLT, Nat.reduceMul, Nat.reduceBEq, reduceCtorEq, Int.reduceLT, Int.reduceLE, Int.reduceEq, Int.reduceToNat, Int.reduceAdd, Int.reduceSub, Int.reduceNeg, IntWalk.i64_in, *]) | with_reducible refine br_pos (by omega) (fun _ => ?_) | with_reducible refine br_neg (by omega) (fun _ => ?_) | with_reducible refine br_elim (fun _ => ?_) (fun _ => ?_) | with_reducible refine dr_intro (by kernel_rfl) ?_ | with_reducible refine nd_intro (by omega) ?_)
theorem ev_markText (k : Nat) (h : k < 1152921504606846976) : ∃ s, lim C0 (.func 26) [.int .i64 k] = some [.str (bs s)] := by
  obtain ⟨s, h1⟩ := lp_markText k k [] rfl (by simp; omega)
  by_cases h0 : 0 < k
  · refine ⟨s, ?_⟩
    have h2 : ¬ (k : Int) ≤ 0 := by omega
    refine F26.fnS (xn _ _ (by decide)) rfl rfl ?_
    repeat' (first | (simp only [go_sem, reduceIte, Nat.reduceEqDiff, Nat.reduceAdd, Nat.reduceSub, Nat.reduceLeDiff, Nat.reduceLT, Nat.reduceMul, Nat.reduceBEq, reduceCtorEq, Int.reduceLT, Int.reduceLE, Int.reduceEq, Int.reduceToNat, Int.reduceAdd, Int.reduceSub, Int.reduceNeg, IntWalk.i64_in, *]) | with_reducible refine br_pos (by omega) (fun _ => ?_) | with_reducible refine br_neg (by omega) (fun _ => ?_) | with_reducible refine br_elim (fun _ => ?_) (fun _ => ?_) | with_reducible refine dr_intro (by kernel_rfl) ?_ | with_reducible refine nd_intro (by omega) ?_)
  · refine ⟨[109, 48], ?_⟩
    have h2 : (k : Int) ≤ 0 := by omega
    refine F26.fnS (xn _ _ (by decide)) rfl rfl ?_
    repeat' (first | (simp only [go_sem, reduceIte, Nat.reduceEqDiff, Nat.reduceAdd, Nat.reduceSub, Nat.reduceLeDiff, Nat.reduceLT, Nat.reduceMul, Nat.reduceBEq, reduceCtorEq, Int.reduceLT, Int.reduceLE, Int.reduceEq, Int.reduceToNat, Int.reduceAdd, Int.reduceSub, Int.reduceNeg, IntWalk.i64_in, *]) | with_reducible refine br_pos (by omega) (fun _ => ?_) | with_reducible refine br_neg (by omega) (fun _ => ?_) | with_reducible refine br_elim (fun _ => ?_) (fun _ => ?_) | with_reducible refine dr_intro (by kernel_rfl) ?_ | with_reducible refine nd_intro (by omega) ?_)
theorem lp_markDutyS (n : Nat) : ∀ (l : List Duty) (k : Nat) (i : Nat), i ≤ l.length → l.length - i = n → k + 3 * n < 1152921504606846976 → l.length < 1152921504606846976 →
    ∃ l' : List Duty, lim C0 (.at_ 10 2) [.sl true 3 (l.map dutyV), .int .i64 k, .int .i64 i] = some [.int .i64 ((k + 3 * n : Nat) : Int), .sl true 3 (l'.map dutyV)] := by
  induction n with
  | zero =>
    intro l k i h hn hk hl
    have h2 : ¬ i < l.length := by omega
    refine ⟨l, ?_⟩
    clear hn
    refine F10.atS rfl rfl ?_
    repeat' (first | (simp only [go_sem, reduceIte, Nat.reduceEqDiff, Nat.reduceAdd, Nat.reduceSub, Nat.reduceLeDiff, Nat.reduceLT, Nat.reduceMul, Nat.reduceBEq, reduceCtorEq, Int.reduceLT, Int.reduceLE, Int.reduceEq, Int.reduceToNat, Int.reduceAdd, Int.reduceSub, Int.reduceNeg, IntWalk.i64_in, *]) | with_reducible refine br_pos (by omega) (fun _ => ?_) | with_reducible refine br_neg (by omega) (fun _ => ?_) | with_reducible refine br_elim (fun _ => ?_) (fun _ => ?_) | with_reducible refine dr_intro (by kernel_rfl) ?_ | with_reducible refine nd_intro (by omega) ?_)
  | succ n ih =>
    intro l k i h hn hk hl
    have h2 : i < l.length := by omega
    have hw := wrapS (i := i) (by omega)
    obtain ⟨s, hs⟩ := ev_markText k (by omega)
    have hw1 : IntKind.i64.wrap ((k : Int) + 1) = ((k + 1 : Nat) : Int) := wrapS (by omega)
    have hw2 : IntKind.i64.wrap (((k + 1 : Nat) : Int) + 1) = ((k + 2 : Nat) : Int) := wrapS (by omega)
    have hw3 : IntKind.i64.wrap (((k + 2 : Nat) : Int) + 1) = ((k + 3 : Nat) : Int) := wrapS (by omega)
    obtain ⟨l', ih'⟩ := ih (l.set i ⟨s, ((k + 1 : Nat) : Int), ((k + 2 : Nat) : Int)⟩) (k + 3) (i + 1) (by rw [List.length_set]; omega) (by rw [List.length_set]; omega) (by omega) (by rw [List.length_set]; omega)
    refine ⟨l', ?_⟩
    rw [List.map_set, show k + 3 + 3 * n = k + 3 * (n + 1) by omega] at ih'
    simp only [dutyV] at ih'
    clear ih hn hk
    refine F10.atS rfl rfl ?_
    repeat' (first | (simp only [go_sem, reduceIte, Nat.reduceEqDiff, Nat.reduceAdd, Nat.reduceSub, Nat.reduceLeDiff, Nat.reduceLT, Nat.reduceMul, Nat.reduceBEq, reduceCtorEq, Int.reduceLT, Int.reduceLE, Int.reduceEq, Int.reduceToNat, Int.reduceAdd, Int.reduceSub, Int.reduceNeg, IntWalk.i64_in, *, getS h2, dutyV]) | with_reducible refine br_pos (by omega) (fun _ => ?_) | with_reducible refine br_neg (by omega) (fun _ => ?_) | with_reducible refine br_elim (fun _ => ?_) (fun _ => ?_) | with_reducible refine dr_intro (by kernel_rfl) ?_ | with_reducible refine nd_intro (by omega) ?_)
theorem ev_markDutyS (l : List Duty) (hl : l.length ≤ 1048576) : ∃ l' : List Duty, lim C0 (.func 10) [.sl true 3 (l.map dutyV), .int .i64 1] = some [.int .i64 ((1 + 3 * l.length : Nat) : Int), .sl true 3 (l'.map dutyV)] := by
  obtain ⟨l', h1⟩ := lp_markDutyS l.length l 1 0 (by omega) (by omega) (by omega) (by omega)
  simp only [Int.cast_ofNat_Int] at h1
  refine ⟨l', ?_⟩
  refine F10.fnS (xn _ _ (by decide)) rfl rfl ?_
  repeat' (first | (simp only [go_sem, reduceIte, Nat.reduceEqDiff, Nat.reduceAdd, Nat.reduceSub, Nat.reduceLeDiff, Nat.reduceLT, Nat.reduceMul, Nat.reduceBEq, reduceCtorEq, Int.reduceLT, Int.reduceLE, Int.reduceEq, Int.reduceToNat, Int.reduceAdd, Int.reduceSub, Int.reduceNeg, IntWalk.i64_in, *]) | with_reducible refine br_pos (by omega) (fun _ => ?_) | with_reducible refine br_neg (by omega) (fun _ => ?_) | with_reducible refine br_elim (fun _ => ?_) (fun _ => ?_) | with_reducible refine dr_intro (by kernel_rfl) ?_ | with_reducible refine nd_intro (by omega) ?_)
end Go.Lm.Ga
