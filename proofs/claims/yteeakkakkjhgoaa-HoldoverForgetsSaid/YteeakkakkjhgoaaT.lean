/- The types of the program: kinds, sizes, zero values. Conditions: none. -/
import Derived.Test.YteeakkakkjhgoaaA10
import Derived.Test.YteeakkakkjhgoaaProg
import Derived.KernelRfl
namespace Go.Proofs.Yteeakkakkjhgoaa.A
open Go
theorem tk3 : tk Try.prog 3 = TK.int IntKind.i64 := by kernel_rfl
theorem sz3 : sz Try.prog 3 = some 1 := by kernel_rfl
theorem by3 : byt Try.prog 3 = some 8 := by kernel_rfl
theorem ze3 : zeroOf Try.prog 3 = some [AV.int IntKind.i64 0] := by kernel_rfl
theorem zv3 : zeroV Try.prog 3 = some (AV.int IntKind.i64 0) := by kernel_rfl
theorem tk4 : tk Try.prog 4 = TK.bool := by kernel_rfl
theorem sz4 : sz Try.prog 4 = some 1 := by kernel_rfl
theorem by4 : byt Try.prog 4 = some 1 := by kernel_rfl
theorem ze4 : zeroOf Try.prog 4 = some [AV.bool false] := by kernel_rfl
theorem zv4 : zeroV Try.prog 4 = some (AV.bool false) := by kernel_rfl
theorem tk5 : tk Try.prog 5 = TK.int IntKind.u8 := by kernel_rfl
theorem sz5 : sz Try.prog 5 = some 1 := by kernel_rfl
theorem by5 : byt Try.prog 5 = some 1 := by kernel_rfl
theorem ze5 : zeroOf Try.prog 5 = some [AV.int IntKind.u8 0] := by kernel_rfl
theorem zv5 : zeroV Try.prog 5 = some (AV.int IntKind.u8 0) := by kernel_rfl
theorem tk9 : tk Try.prog 9 = TK.str := by kernel_rfl
theorem sz9 : sz Try.prog 9 = some 1 := by kernel_rfl
theorem by9 : byt Try.prog 9 = some 16 := by kernel_rfl
theorem ze9 : zeroOf Try.prog 9 = some [AV.str ⟨#[]⟩] := by kernel_rfl
theorem zv9 : zeroV Try.prog 9 = some (AV.str ⟨#[]⟩) := by kernel_rfl
theorem tk22 : tk Try.prog 22 = TK.strct [(0, 3), (1, 3), (2, 3), (3, 3)] := by kernel_rfl
theorem sz22 : sz Try.prog 22 = some 4 := by kernel_rfl
theorem by22 : byt Try.prog 22 = some 32 := by kernel_rfl
theorem ze22 : zeroOf Try.prog 22 = some [AV.int IntKind.i64 0, AV.int IntKind.i64 0, AV.int IntKind.i64 0, AV.int IntKind.i64 0] := by kernel_rfl
theorem eq22 : eqKinds Try.prog 22 = some [true, true, true, true] := by kernel_rfl
theorem zv22 : zeroV Try.prog 22 = some (AV.agg [AV.int IntKind.i64 0, AV.int IntKind.i64 0, AV.int IntKind.i64 0, AV.int IntKind.i64 0]) := by kernel_rfl
theorem tk23 : tk Try.prog 23 = TK.strct [(0, 3), (1, 3), (2, 3), (3, 3)] := by kernel_rfl
theorem sz23 : sz Try.prog 23 = some 4 := by kernel_rfl
theorem by23 : byt Try.prog 23 = some 32 := by kernel_rfl
theorem ze23 : zeroOf Try.prog 23 = some [AV.int IntKind.i64 0, AV.int IntKind.i64 0, AV.int IntKind.i64 0, AV.int IntKind.i64 0] := by kernel_rfl
theorem eq23 : eqKinds Try.prog 23 = some [true, true, true, true] := by kernel_rfl
theorem zv23 : zeroV Try.prog 23 = some (AV.agg [AV.int IntKind.i64 0, AV.int IntKind.i64 0, AV.int IntKind.i64 0, AV.int IntKind.i64 0]) := by kernel_rfl
theorem tk24 : tk Try.prog 24 = TK.int IntKind.i64 := by kernel_rfl
theorem sz24 : sz Try.prog 24 = some 1 := by kernel_rfl
theorem by24 : byt Try.prog 24 = some 8 := by kernel_rfl
theorem ze24 : zeroOf Try.prog 24 = some [AV.int IntKind.i64 0] := by kernel_rfl
theorem zv24 : zeroV Try.prog 24 = some (AV.int IntKind.i64 0) := by kernel_rfl
theorem tk26 : tk Try.prog 26 = TK.ptr 52 := by kernel_rfl
theorem sz26 : sz Try.prog 26 = some 1 := by kernel_rfl
theorem by26 : byt Try.prog 26 = some 8 := by kernel_rfl
theorem ze26 : zeroOf Try.prog 26 = some [AV.nilp] := by kernel_rfl
theorem zv26 : zeroV Try.prog 26 = some AV.nilp := by kernel_rfl
theorem tk28 : tk Try.prog 28 = TK.ptr 54 := by kernel_rfl
theorem sz28 : sz Try.prog 28 = some 1 := by kernel_rfl
theorem by28 : byt Try.prog 28 = some 8 := by kernel_rfl
theorem ze28 : zeroOf Try.prog 28 = some [AV.nilp] := by kernel_rfl
theorem zv28 : zeroV Try.prog 28 = some AV.nilp := by kernel_rfl
theorem tk32 : tk Try.prog 32 = TK.slice 41 := by kernel_rfl
theorem sz32 : sz Try.prog 32 = some 1 := by kernel_rfl
theorem by32 : byt Try.prog 32 = some 24 := by kernel_rfl
theorem ze32 : zeroOf Try.prog 32 = some [AV.nils] := by kernel_rfl
theorem zv32 : zeroV Try.prog 32 = some AV.nils := by kernel_rfl
theorem tk40 : tk Try.prog 40 = TK.strct [(0, 5), (1, 3), (2, 3)] := by kernel_rfl
theorem sz40 : sz Try.prog 40 = some 3 := by kernel_rfl
theorem by40 : byt Try.prog 40 = some 24 := by kernel_rfl
theorem ze40 : zeroOf Try.prog 40 = some [AV.int IntKind.u8 0, AV.int IntKind.i64 0, AV.int IntKind.i64 0] := by kernel_rfl
theorem eq40 : eqKinds Try.prog 40 = some [true, true, true] := by kernel_rfl
theorem zv40 : zeroV Try.prog 40 = some (AV.agg [AV.int IntKind.u8 0, AV.int IntKind.i64 0, AV.int IntKind.i64 0]) := by kernel_rfl
theorem tk41 : tk Try.prog 41 = TK.strct [(0, 5), (1, 3), (2, 3)] := by kernel_rfl
theorem sz41 : sz Try.prog 41 = some 3 := by kernel_rfl
theorem by41 : byt Try.prog 41 = some 24 := by kernel_rfl
theorem ze41 : zeroOf Try.prog 41 = some [AV.int IntKind.u8 0, AV.int IntKind.i64 0, AV.int IntKind.i64 0] := by kernel_rfl
theorem eq41 : eqKinds Try.prog 41 = some [true, true, true] := by kernel_rfl
theorem zv41 : zeroV Try.prog 41 = some (AV.agg [AV.int IntKind.u8 0, AV.int IntKind.i64 0, AV.int IntKind.i64 0]) := by kernel_rfl
theorem tk45 : tk Try.prog 45 = TK.slice 3 := by kernel_rfl
theorem sz45 : sz Try.prog 45 = some 1 := by kernel_rfl
theorem by45 : byt Try.prog 45 = some 24 := by kernel_rfl
theorem ze45 : zeroOf Try.prog 45 = some [AV.nils] := by kernel_rfl
theorem zv45 : zeroV Try.prog 45 = some AV.nils := by kernel_rfl
theorem tk51 : tk Try.prog 51 = TK.strct [(0, 23), (4, 45), (5, 4), (6, 4), (7, 3)] := by kernel_rfl
theorem sz51 : sz Try.prog 51 = some 8 := by kernel_rfl
theorem by51 : byt Try.prog 51 = some 72 := by kernel_rfl
theorem ze51 : zeroOf Try.prog 51 = some [AV.int IntKind.i64 0, AV.int IntKind.i64 0, AV.int IntKind.i64 0, AV.int IntKind.i64 0, AV.nils, AV.bool false, AV.bool false, AV.int IntKind.i64 0] := by kernel_rfl
theorem zv51 : zeroV Try.prog 51 = some (AV.agg [AV.int IntKind.i64 0, AV.int IntKind.i64 0, AV.int IntKind.i64 0, AV.int IntKind.i64 0, AV.nils, AV.bool false, AV.bool false, AV.int IntKind.i64 0]) := by kernel_rfl
theorem tk52 : tk Try.prog 52 = TK.strct [(0, 23), (4, 45), (5, 4), (6, 4), (7, 3)] := by kernel_rfl
theorem sz52 : sz Try.prog 52 = some 8 := by kernel_rfl
theorem by52 : byt Try.prog 52 = some 72 := by kernel_rfl
theorem ze52 : zeroOf Try.prog 52 = some [AV.int IntKind.i64 0, AV.int IntKind.i64 0, AV.int IntKind.i64 0, AV.int IntKind.i64 0, AV.nils, AV.bool false, AV.bool false, AV.int IntKind.i64 0] := by kernel_rfl
theorem zv52 : zeroV Try.prog 52 = some (AV.agg [AV.int IntKind.i64 0, AV.int IntKind.i64 0, AV.int IntKind.i64 0, AV.int IntKind.i64 0, AV.nils, AV.bool false, AV.bool false, AV.int IntKind.i64 0]) := by kernel_rfl
theorem tk53 : tk Try.prog 53 = TK.strct [(0, 23), (4, 45), (5, 3), (6, 4), (7, 4)] := by kernel_rfl
theorem sz53 : sz Try.prog 53 = some 8 := by kernel_rfl
theorem by53 : byt Try.prog 53 = some 72 := by kernel_rfl
theorem ze53 : zeroOf Try.prog 53 = some [AV.int IntKind.i64 0, AV.int IntKind.i64 0, AV.int IntKind.i64 0, AV.int IntKind.i64 0, AV.nils, AV.int IntKind.i64 0, AV.bool false, AV.bool false] := by kernel_rfl
theorem zv53 : zeroV Try.prog 53 = some (AV.agg [AV.int IntKind.i64 0, AV.int IntKind.i64 0, AV.int IntKind.i64 0, AV.int IntKind.i64 0, AV.nils, AV.int IntKind.i64 0, AV.bool false, AV.bool false]) := by kernel_rfl
theorem tk54 : tk Try.prog 54 = TK.strct [(0, 23), (4, 45), (5, 3), (6, 4), (7, 4)] := by kernel_rfl
theorem sz54 : sz Try.prog 54 = some 8 := by kernel_rfl
theorem by54 : byt Try.prog 54 = some 72 := by kernel_rfl
theorem ze54 : zeroOf Try.prog 54 = some [AV.int IntKind.i64 0, AV.int IntKind.i64 0, AV.int IntKind.i64 0, AV.int IntKind.i64 0, AV.nils, AV.int IntKind.i64 0, AV.bool false, AV.bool false] := by kernel_rfl
theorem zv54 : zeroV Try.prog 54 = some (AV.agg [AV.int IntKind.i64 0, AV.int IntKind.i64 0, AV.int IntKind.i64 0, AV.int IntKind.i64 0, AV.nils, AV.int IntKind.i64 0, AV.bool false, AV.bool false]) := by kernel_rfl
theorem tk60 : tk Try.prog 60 = TK.int IntKind.u64 := by kernel_rfl
theorem sz60 : sz Try.prog 60 = some 1 := by kernel_rfl
theorem by60 : byt Try.prog 60 = some 8 := by kernel_rfl
theorem ze60 : zeroOf Try.prog 60 = some [AV.int IntKind.u64 0] := by kernel_rfl
theorem zv60 : zeroV Try.prog 60 = some (AV.int IntKind.u64 0) := by kernel_rfl
theorem tk61 : tk Try.prog 61 = TK.int IntKind.u64 := by kernel_rfl
theorem sz61 : sz Try.prog 61 = some 1 := by kernel_rfl
theorem by61 : byt Try.prog 61 = some 8 := by kernel_rfl
theorem ze61 : zeroOf Try.prog 61 = some [AV.int IntKind.u64 0] := by kernel_rfl
theorem zv61 : zeroV Try.prog 61 = some (AV.int IntKind.u64 0) := by kernel_rfl
end Go.Proofs.Yteeakkakkjhgoaa.A
