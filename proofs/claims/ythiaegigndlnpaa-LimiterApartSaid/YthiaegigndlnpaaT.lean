/- The types of the program: kinds, sizes, zero values. Conditions: none. -/
import Derived.Test.YthiaegigndlnpaaA10
import Derived.Test.YthiaegigndlnpaaProg
import Derived.KernelRfl
namespace Go.Proofs.Ythiaegigndlnpaa.A
open Go
theorem tk3 : tk Try.prog 3 = TK.int IntKind.i64 := by kernel_rfl
theorem sz3 : sz Try.prog 3 = some 1 := by kernel_rfl
theorem by3 : byt Try.prog 3 = some 8 := by kernel_rfl
theorem ze3 : zeroOf Try.prog 3 = some [AV.int IntKind.i64 0] := by kernel_rfl
theorem zv3 : zeroV Try.prog 3 = some (AV.int IntKind.i64 0) := by kernel_rfl
theorem tk4 : tk Try.prog 4 = TK.bool := by kernel_rfl
theorem sz4 : sz Try.prog 4 = some 1 := by kernel_rfl
theorem by4 : byt Try.prog 4 = some 1 := by kernel_rfl
theorem ze4 : zeroOf Try.prog 4 = some [AV.bool false] := by kernel_rfl
theorem zv4 : zeroV Try.prog 4 = some (AV.bool false) := by kernel_rfl
theorem tk5 : tk Try.prog 5 = TK.int IntKind.u8 := by kernel_rfl
theorem sz5 : sz Try.prog 5 = some 1 := by kernel_rfl
theorem by5 : byt Try.prog 5 = some 1 := by kernel_rfl
theorem ze5 : zeroOf Try.prog 5 = some [AV.int IntKind.u8 0] := by kernel_rfl
theorem zv5 : zeroV Try.prog 5 = some (AV.int IntKind.u8 0) := by kernel_rfl
theorem tk22 : tk Try.prog 22 = TK.strct [(0, 3), (1, 3), (2, 3), (3, 3), (4, 3)] := by kernel_rfl
theorem sz22 : sz Try.prog 22 = some 5 := by kernel_rfl
theorem by22 : byt Try.prog 22 = some 40 := by kernel_rfl
theorem ze22 : zeroOf Try.prog 22 = some [AV.int IntKind.i64 0, AV.int IntKind.i64 0, AV.int IntKind.i64 0, AV.int IntKind.i64 0, AV.int IntKind.i64 0] := by kernel_rfl
theorem eq22 : eqKinds Try.prog 22 = some [true, true, true, true, true] := by kernel_rfl
theorem zv22 : zeroV Try.prog 22 = some (AV.agg [AV.int IntKind.i64 0, AV.int IntKind.i64 0, AV.int IntKind.i64 0, AV.int IntKind.i64 0, AV.int IntKind.i64 0]) := by kernel_rfl
theorem tk23 : tk Try.prog 23 = TK.strct [(0, 3), (1, 3), (2, 3), (3, 3), (4, 3)] := by kernel_rfl
theorem sz23 : sz Try.prog 23 = some 5 := by kernel_rfl
theorem by23 : byt Try.prog 23 = some 40 := by kernel_rfl
theorem ze23 : zeroOf Try.prog 23 = some [AV.int IntKind.i64 0, AV.int IntKind.i64 0, AV.int IntKind.i64 0, AV.int IntKind.i64 0, AV.int IntKind.i64 0] := by kernel_rfl
theorem eq23 : eqKinds Try.prog 23 = some [true, true, true, true, true] := by kernel_rfl
theorem zv23 : zeroV Try.prog 23 = some (AV.agg [AV.int IntKind.i64 0, AV.int IntKind.i64 0, AV.int IntKind.i64 0, AV.int IntKind.i64 0, AV.int IntKind.i64 0]) := by kernel_rfl
theorem tk24 : tk Try.prog 24 = TK.int IntKind.i64 := by kernel_rfl
theorem sz24 : sz Try.prog 24 = some 1 := by kernel_rfl
theorem by24 : byt Try.prog 24 = some 8 := by kernel_rfl
theorem ze24 : zeroOf Try.prog 24 = some [AV.int IntKind.i64 0] := by kernel_rfl
theorem zv24 : zeroV Try.prog 24 = some (AV.int IntKind.i64 0) := by kernel_rfl
theorem tk26 : tk Try.prog 26 = TK.ptr 49 := by kernel_rfl
theorem sz26 : sz Try.prog 26 = some 1 := by kernel_rfl
theorem by26 : byt Try.prog 26 = some 8 := by kernel_rfl
theorem ze26 : zeroOf Try.prog 26 = some [AV.nilp] := by kernel_rfl
theorem zv26 : zeroV Try.prog 26 = some AV.nilp := by kernel_rfl
theorem tk30 : tk Try.prog 30 = TK.slice 36 := by kernel_rfl
theorem sz30 : sz Try.prog 30 = some 1 := by kernel_rfl
theorem by30 : byt Try.prog 30 = some 24 := by kernel_rfl
theorem ze30 : zeroOf Try.prog 30 = some [AV.nils] := by kernel_rfl
theorem zv30 : zeroV Try.prog 30 = some AV.nils := by kernel_rfl
theorem tk31 : tk Try.prog 31 = TK.ptr 52 := by kernel_rfl
theorem sz31 : sz Try.prog 31 = some 1 := by kernel_rfl
theorem by31 : byt Try.prog 31 = some 8 := by kernel_rfl
theorem ze31 : zeroOf Try.prog 31 = some [AV.nilp] := by kernel_rfl
theorem zv31 : zeroV Try.prog 31 = some AV.nilp := by kernel_rfl
theorem tk35 : tk Try.prog 35 = TK.strct [(0, 3), (1, 3)] := by kernel_rfl
theorem sz35 : sz Try.prog 35 = some 2 := by kernel_rfl
theorem by35 : byt Try.prog 35 = some 16 := by kernel_rfl
theorem ze35 : zeroOf Try.prog 35 = some [AV.int IntKind.i64 0, AV.int IntKind.i64 0] := by kernel_rfl
theorem eq35 : eqKinds Try.prog 35 = some [true, true] := by kernel_rfl
theorem zv35 : zeroV Try.prog 35 = some (AV.agg [AV.int IntKind.i64 0, AV.int IntKind.i64 0]) := by kernel_rfl
theorem tk36 : tk Try.prog 36 = TK.strct [(0, 3), (1, 3)] := by kernel_rfl
theorem sz36 : sz Try.prog 36 = some 2 := by kernel_rfl
theorem by36 : byt Try.prog 36 = some 16 := by kernel_rfl
theorem ze36 : zeroOf Try.prog 36 = some [AV.int IntKind.i64 0, AV.int IntKind.i64 0] := by kernel_rfl
theorem eq36 : eqKinds Try.prog 36 = some [true, true] := by kernel_rfl
theorem zv36 : zeroV Try.prog 36 = some (AV.agg [AV.int IntKind.i64 0, AV.int IntKind.i64 0]) := by kernel_rfl
theorem tk40 : tk Try.prog 40 = TK.slice 3 := by kernel_rfl
theorem sz40 : sz Try.prog 40 = some 1 := by kernel_rfl
theorem by40 : byt Try.prog 40 = some 24 := by kernel_rfl
theorem ze40 : zeroOf Try.prog 40 = some [AV.nils] := by kernel_rfl
theorem zv40 : zeroV Try.prog 40 = some AV.nils := by kernel_rfl
theorem tk47 : tk Try.prog 47 = TK.map 3 54 := by kernel_rfl
theorem sz47 : sz Try.prog 47 = some 1 := by kernel_rfl
theorem by47 : byt Try.prog 47 = some 8 := by kernel_rfl
theorem ze47 : zeroOf Try.prog 47 = some [AV.nilm] := by kernel_rfl
theorem zv47 : zeroV Try.prog 47 = some AV.nilm := by kernel_rfl
theorem tk48 : tk Try.prog 48 = TK.strct [(0, 23), (5, 3), (6, 47)] := by kernel_rfl
theorem sz48 : sz Try.prog 48 = some 7 := by kernel_rfl
theorem by48 : byt Try.prog 48 = some 56 := by kernel_rfl
theorem ze48 : zeroOf Try.prog 48 = some [AV.int IntKind.i64 0, AV.int IntKind.i64 0, AV.int IntKind.i64 0, AV.int IntKind.i64 0, AV.int IntKind.i64 0, AV.int IntKind.i64 0, AV.nilm] := by kernel_rfl
theorem zv48 : zeroV Try.prog 48 = some (AV.agg [AV.int IntKind.i64 0, AV.int IntKind.i64 0, AV.int IntKind.i64 0, AV.int IntKind.i64 0, AV.int IntKind.i64 0, AV.int IntKind.i64 0, AV.nilm]) := by kernel_rfl
theorem tk49 : tk Try.prog 49 = TK.strct [(0, 23), (5, 3), (6, 47)] := by kernel_rfl
theorem sz49 : sz Try.prog 49 = some 7 := by kernel_rfl
theorem by49 : byt Try.prog 49 = some 56 := by kernel_rfl
theorem ze49 : zeroOf Try.prog 49 = some [AV.int IntKind.i64 0, AV.int IntKind.i64 0, AV.int IntKind.i64 0, AV.int IntKind.i64 0, AV.int IntKind.i64 0, AV.int IntKind.i64 0, AV.nilm] := by kernel_rfl
theorem zv49 : zeroV Try.prog 49 = some (AV.agg [AV.int IntKind.i64 0, AV.int IntKind.i64 0, AV.int IntKind.i64 0, AV.int IntKind.i64 0, AV.int IntKind.i64 0, AV.int IntKind.i64 0, AV.nilm]) := by kernel_rfl
theorem tk50 : tk Try.prog 50 = TK.slice 59 := by kernel_rfl
theorem sz50 : sz Try.prog 50 = some 1 := by kernel_rfl
theorem by50 : byt Try.prog 50 = some 24 := by kernel_rfl
theorem ze50 : zeroOf Try.prog 50 = some [AV.nils] := by kernel_rfl
theorem zv50 : zeroV Try.prog 50 = some AV.nils := by kernel_rfl
theorem tk51 : tk Try.prog 51 = TK.strct [(0, 23), (5, 50), (6, 3)] := by kernel_rfl
theorem sz51 : sz Try.prog 51 = some 7 := by kernel_rfl
theorem by51 : byt Try.prog 51 = some 72 := by kernel_rfl
theorem ze51 : zeroOf Try.prog 51 = some [AV.int IntKind.i64 0, AV.int IntKind.i64 0, AV.int IntKind.i64 0, AV.int IntKind.i64 0, AV.int IntKind.i64 0, AV.nils, AV.int IntKind.i64 0] := by kernel_rfl
theorem zv51 : zeroV Try.prog 51 = some (AV.agg [AV.int IntKind.i64 0, AV.int IntKind.i64 0, AV.int IntKind.i64 0, AV.int IntKind.i64 0, AV.int IntKind.i64 0, AV.nils, AV.int IntKind.i64 0]) := by kernel_rfl
theorem tk52 : tk Try.prog 52 = TK.strct [(0, 23), (5, 50), (6, 3)] := by kernel_rfl
theorem sz52 : sz Try.prog 52 = some 7 := by kernel_rfl
theorem by52 : byt Try.prog 52 = some 72 := by kernel_rfl
theorem ze52 : zeroOf Try.prog 52 = some [AV.int IntKind.i64 0, AV.int IntKind.i64 0, AV.int IntKind.i64 0, AV.int IntKind.i64 0, AV.int IntKind.i64 0, AV.nils, AV.int IntKind.i64 0] := by kernel_rfl
theorem zv52 : zeroV Try.prog 52 = some (AV.agg [AV.int IntKind.i64 0, AV.int IntKind.i64 0, AV.int IntKind.i64 0, AV.int IntKind.i64 0, AV.int IntKind.i64 0, AV.nils, AV.int IntKind.i64 0]) := by kernel_rfl
theorem tk53 : tk Try.prog 53 = TK.strct [(0, 3), (1, 3), (2, 4), (3, 3)] := by kernel_rfl
theorem sz53 : sz Try.prog 53 = some 4 := by kernel_rfl
theorem by53 : byt Try.prog 53 = some 32 := by kernel_rfl
theorem ze53 : zeroOf Try.prog 53 = some [AV.int IntKind.i64 0, AV.int IntKind.i64 0, AV.bool false, AV.int IntKind.i64 0] := by kernel_rfl
theorem eq53 : eqKinds Try.prog 53 = some [true, true, false, true] := by kernel_rfl
theorem zv53 : zeroV Try.prog 53 = some (AV.agg [AV.int IntKind.i64 0, AV.int IntKind.i64 0, AV.bool false, AV.int IntKind.i64 0]) := by kernel_rfl
theorem tk54 : tk Try.prog 54 = TK.strct [(0, 3), (1, 3), (2, 4), (3, 3)] := by kernel_rfl
theorem sz54 : sz Try.prog 54 = some 4 := by kernel_rfl
theorem by54 : byt Try.prog 54 = some 32 := by kernel_rfl
theorem ze54 : zeroOf Try.prog 54 = some [AV.int IntKind.i64 0, AV.int IntKind.i64 0, AV.bool false, AV.int IntKind.i64 0] := by kernel_rfl
theorem eq54 : eqKinds Try.prog 54 = some [true, true, false, true] := by kernel_rfl
theorem zv54 : zeroV Try.prog 54 = some (AV.agg [AV.int IntKind.i64 0, AV.int IntKind.i64 0, AV.bool false, AV.int IntKind.i64 0]) := by kernel_rfl
theorem tk58 : tk Try.prog 58 = TK.strct [(0, 3), (1, 3), (2, 3), (3, 4), (4, 3)] := by kernel_rfl
theorem sz58 : sz Try.prog 58 = some 5 := by kernel_rfl
theorem by58 : byt Try.prog 58 = some 40 := by kernel_rfl
theorem ze58 : zeroOf Try.prog 58 = some [AV.int IntKind.i64 0, AV.int IntKind.i64 0, AV.int IntKind.i64 0, AV.bool false, AV.int IntKind.i64 0] := by kernel_rfl
theorem eq58 : eqKinds Try.prog 58 = some [true, true, true, false, true] := by kernel_rfl
theorem zv58 : zeroV Try.prog 58 = some (AV.agg [AV.int IntKind.i64 0, AV.int IntKind.i64 0, AV.int IntKind.i64 0, AV.bool false, AV.int IntKind.i64 0]) := by kernel_rfl
theorem tk59 : tk Try.prog 59 = TK.strct [(0, 3), (1, 3), (2, 3), (3, 4), (4, 3)] := by kernel_rfl
theorem sz59 : sz Try.prog 59 = some 5 := by kernel_rfl
theorem by59 : byt Try.prog 59 = some 40 := by kernel_rfl
theorem ze59 : zeroOf Try.prog 59 = some [AV.int IntKind.i64 0, AV.int IntKind.i64 0, AV.int IntKind.i64 0, AV.bool false, AV.int IntKind.i64 0] := by kernel_rfl
theorem eq59 : eqKinds Try.prog 59 = some [true, true, true, false, true] := by kernel_rfl
theorem zv59 : zeroV Try.prog 59 = some (AV.agg [AV.int IntKind.i64 0, AV.int IntKind.i64 0, AV.int IntKind.i64 0, AV.bool false, AV.int IntKind.i64 0]) := by kernel_rfl
end Go.Proofs.Ythiaegigndlnpaa.A
