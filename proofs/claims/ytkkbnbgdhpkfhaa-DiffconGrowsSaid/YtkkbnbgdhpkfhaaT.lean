/- The types of the program: kinds, sizes, zero values. Conditions: none. -/
import Derived.Test.YtkkbnbgdhpkfhaaA10
import Derived.Test.YtkkbnbgdhpkfhaaProg
import Derived.KernelRfl
namespace Go.Proofs.Ytkkbnbgdhpkfhaa.A
open Go
theorem tk2 : tk Try.prog 2 = TK.int IntKind.i64 := by kernel_rfl
theorem sz2 : sz Try.prog 2 = some 1 := by kernel_rfl
theorem by2 : byt Try.prog 2 = some 8 := by kernel_rfl
theorem ze2 : zeroOf Try.prog 2 = some [AV.int IntKind.i64 0] := by kernel_rfl
theorem tk3 : tk Try.prog 3 = TK.int IntKind.i64 := by kernel_rfl
theorem sz3 : sz Try.prog 3 = some 1 := by kernel_rfl
theorem by3 : byt Try.prog 3 = some 8 := by kernel_rfl
theorem ze3 : zeroOf Try.prog 3 = some [AV.int IntKind.i64 0] := by kernel_rfl
theorem tk4 : tk Try.prog 4 = TK.bool := by kernel_rfl
theorem sz4 : sz Try.prog 4 = some 1 := by kernel_rfl
theorem by4 : byt Try.prog 4 = some 1 := by kernel_rfl
theorem ze4 : zeroOf Try.prog 4 = some [AV.bool false] := by kernel_rfl
theorem tk5 : tk Try.prog 5 = TK.int IntKind.u8 := by kernel_rfl
theorem sz5 : sz Try.prog 5 = some 1 := by kernel_rfl
theorem by5 : byt Try.prog 5 = some 1 := by kernel_rfl
theorem ze5 : zeroOf Try.prog 5 = some [AV.int IntKind.u8 0] := by kernel_rfl
theorem tk6 : tk Try.prog 6 = TK.int IntKind.u8 := by kernel_rfl
theorem sz6 : sz Try.prog 6 = some 1 := by kernel_rfl
theorem by6 : byt Try.prog 6 = some 1 := by kernel_rfl
theorem ze6 : zeroOf Try.prog 6 = some [AV.int IntKind.u8 0] := by kernel_rfl
theorem tk7 : tk Try.prog 7 = TK.strct [(0, 2), (1, 3), (2, 4), (3, 6)] := by kernel_rfl
theorem sz7 : sz Try.prog 7 = some 4 := by kernel_rfl
theorem by7 : byt Try.prog 7 = some 24 := by kernel_rfl
theorem ze7 : zeroOf Try.prog 7 = some [AV.int IntKind.i64 0, AV.int IntKind.i64 0, AV.bool false, AV.int IntKind.u8 0] := by kernel_rfl
theorem eq7 : eqKinds Try.prog 7 = some [true, true, false, true] := by kernel_rfl
theorem tk8 : tk Try.prog 8 = TK.strct [(0, 2), (1, 3), (2, 4), (3, 6)] := by kernel_rfl
theorem sz8 : sz Try.prog 8 = some 4 := by kernel_rfl
theorem by8 : byt Try.prog 8 = some 24 := by kernel_rfl
theorem ze8 : zeroOf Try.prog 8 = some [AV.int IntKind.i64 0, AV.int IntKind.i64 0, AV.bool false, AV.int IntKind.u8 0] := by kernel_rfl
theorem eq8 : eqKinds Try.prog 8 = some [true, true, false, true] := by kernel_rfl
theorem tk9 : tk Try.prog 9 = TK.str := by kernel_rfl
theorem sz9 : sz Try.prog 9 = some 1 := by kernel_rfl
theorem by9 : byt Try.prog 9 = some 16 := by kernel_rfl
theorem ze9 : zeroOf Try.prog 9 = some [AV.str ⟨#[]⟩] := by kernel_rfl
theorem tk22 : tk Try.prog 22 = TK.slice 40 := by kernel_rfl
theorem sz22 : sz Try.prog 22 = some 1 := by kernel_rfl
theorem by22 : byt Try.prog 22 = some 24 := by kernel_rfl
theorem ze22 : zeroOf Try.prog 22 = some [AV.nils] := by kernel_rfl
theorem tk23 : tk Try.prog 23 = TK.func := by kernel_rfl
theorem sz23 : sz Try.prog 23 = some 1 := by kernel_rfl
theorem by23 : byt Try.prog 23 = some 8 := by kernel_rfl
theorem ze23 : zeroOf Try.prog 23 = some [AV.nilf] := by kernel_rfl
theorem tk24 : tk Try.prog 24 = TK.func := by kernel_rfl
theorem sz24 : sz Try.prog 24 = some 1 := by kernel_rfl
theorem by24 : byt Try.prog 24 = some 8 := by kernel_rfl
theorem ze24 : zeroOf Try.prog 24 = some [AV.nilf] := by kernel_rfl
theorem tk25 : tk Try.prog 25 = TK.slice 32 := by kernel_rfl
theorem sz25 : sz Try.prog 25 = some 1 := by kernel_rfl
theorem by25 : byt Try.prog 25 = some 24 := by kernel_rfl
theorem ze25 : zeroOf Try.prog 25 = some [AV.nils] := by kernel_rfl
theorem tk26 : tk Try.prog 26 = TK.int IntKind.i64 := by kernel_rfl
theorem sz26 : sz Try.prog 26 = some 1 := by kernel_rfl
theorem by26 : byt Try.prog 26 = some 8 := by kernel_rfl
theorem ze26 : zeroOf Try.prog 26 = some [AV.int IntKind.i64 0] := by kernel_rfl
theorem tk28 : tk Try.prog 28 = TK.func := by kernel_rfl
theorem sz28 : sz Try.prog 28 = some 1 := by kernel_rfl
theorem by28 : byt Try.prog 28 = some 8 := by kernel_rfl
theorem ze28 : zeroOf Try.prog 28 = some [AV.nilf] := by kernel_rfl
theorem tk29 : tk Try.prog 29 = TK.func := by kernel_rfl
theorem sz29 : sz Try.prog 29 = some 1 := by kernel_rfl
theorem by29 : byt Try.prog 29 = some 8 := by kernel_rfl
theorem ze29 : zeroOf Try.prog 29 = some [AV.nilf] := by kernel_rfl
theorem tk30 : tk Try.prog 30 = TK.func := by kernel_rfl
theorem sz30 : sz Try.prog 30 = some 1 := by kernel_rfl
theorem by30 : byt Try.prog 30 = some 8 := by kernel_rfl
theorem ze30 : zeroOf Try.prog 30 = some [AV.nilf] := by kernel_rfl
theorem tk31 : tk Try.prog 31 = TK.func := by kernel_rfl
theorem sz31 : sz Try.prog 31 = some 1 := by kernel_rfl
theorem by31 : byt Try.prog 31 = some 8 := by kernel_rfl
theorem ze31 : zeroOf Try.prog 31 = some [AV.nilf] := by kernel_rfl
theorem tk32 : tk Try.prog 32 = TK.slice 3 := by kernel_rfl
theorem sz32 : sz Try.prog 32 = some 1 := by kernel_rfl
theorem by32 : byt Try.prog 32 = some 24 := by kernel_rfl
theorem ze32 : zeroOf Try.prog 32 = some [AV.nils] := by kernel_rfl
theorem tk34 : tk Try.prog 34 = TK.func := by kernel_rfl
theorem sz34 : sz Try.prog 34 = some 1 := by kernel_rfl
theorem by34 : byt Try.prog 34 = some 8 := by kernel_rfl
theorem ze34 : zeroOf Try.prog 34 = some [AV.nilf] := by kernel_rfl
theorem tk35 : tk Try.prog 35 = TK.func := by kernel_rfl
theorem sz35 : sz Try.prog 35 = some 1 := by kernel_rfl
theorem by35 : byt Try.prog 35 = some 8 := by kernel_rfl
theorem ze35 : zeroOf Try.prog 35 = some [AV.nilf] := by kernel_rfl
theorem tk36 : tk Try.prog 36 = TK.func := by kernel_rfl
theorem sz36 : sz Try.prog 36 = some 1 := by kernel_rfl
theorem by36 : byt Try.prog 36 = some 8 := by kernel_rfl
theorem ze36 : zeroOf Try.prog 36 = some [AV.nilf] := by kernel_rfl
theorem tk37 : tk Try.prog 37 = TK.func := by kernel_rfl
theorem sz37 : sz Try.prog 37 = some 1 := by kernel_rfl
theorem by37 : byt Try.prog 37 = some 8 := by kernel_rfl
theorem ze37 : zeroOf Try.prog 37 = some [AV.nilf] := by kernel_rfl
theorem tk38 : tk Try.prog 38 = TK.func := by kernel_rfl
theorem sz38 : sz Try.prog 38 = some 1 := by kernel_rfl
theorem by38 : byt Try.prog 38 = some 8 := by kernel_rfl
theorem ze38 : zeroOf Try.prog 38 = some [AV.nilf] := by kernel_rfl
theorem tk39 : tk Try.prog 39 = TK.strct [(0, 3), (1, 3), (2, 3)] := by kernel_rfl
theorem sz39 : sz Try.prog 39 = some 3 := by kernel_rfl
theorem by39 : byt Try.prog 39 = some 24 := by kernel_rfl
theorem ze39 : zeroOf Try.prog 39 = some [AV.int IntKind.i64 0, AV.int IntKind.i64 0, AV.int IntKind.i64 0] := by kernel_rfl
theorem eq39 : eqKinds Try.prog 39 = some [true, true, true] := by kernel_rfl
theorem tk40 : tk Try.prog 40 = TK.strct [(0, 3), (1, 3), (2, 3)] := by kernel_rfl
theorem sz40 : sz Try.prog 40 = some 3 := by kernel_rfl
theorem by40 : byt Try.prog 40 = some 24 := by kernel_rfl
theorem ze40 : zeroOf Try.prog 40 = some [AV.int IntKind.i64 0, AV.int IntKind.i64 0, AV.int IntKind.i64 0] := by kernel_rfl
theorem eq40 : eqKinds Try.prog 40 = some [true, true, true] := by kernel_rfl
theorem tk41 : tk Try.prog 41 = TK.func := by kernel_rfl
theorem sz41 : sz Try.prog 41 = some 1 := by kernel_rfl
theorem by41 : byt Try.prog 41 = some 8 := by kernel_rfl
theorem ze41 : zeroOf Try.prog 41 = some [AV.nilf] := by kernel_rfl
theorem tk42 : tk Try.prog 42 = TK.func := by kernel_rfl
theorem sz42 : sz Try.prog 42 = some 1 := by kernel_rfl
theorem by42 : byt Try.prog 42 = some 8 := by kernel_rfl
theorem ze42 : zeroOf Try.prog 42 = some [AV.nilf] := by kernel_rfl
theorem tk44 : tk Try.prog 44 = TK.func := by kernel_rfl
theorem sz44 : sz Try.prog 44 = some 1 := by kernel_rfl
theorem by44 : byt Try.prog 44 = some 8 := by kernel_rfl
theorem ze44 : zeroOf Try.prog 44 = some [AV.nilf] := by kernel_rfl
theorem tk45 : tk Try.prog 45 = TK.func := by kernel_rfl
theorem sz45 : sz Try.prog 45 = some 1 := by kernel_rfl
theorem by45 : byt Try.prog 45 = some 8 := by kernel_rfl
theorem ze45 : zeroOf Try.prog 45 = some [AV.nilf] := by kernel_rfl
theorem tk46 : tk Try.prog 46 = TK.func := by kernel_rfl
theorem sz46 : sz Try.prog 46 = some 1 := by kernel_rfl
theorem by46 : byt Try.prog 46 = some 8 := by kernel_rfl
theorem ze46 : zeroOf Try.prog 46 = some [AV.nilf] := by kernel_rfl
theorem tk47 : tk Try.prog 47 = TK.func := by kernel_rfl
theorem sz47 : sz Try.prog 47 = some 1 := by kernel_rfl
theorem by47 : byt Try.prog 47 = some 8 := by kernel_rfl
theorem ze47 : zeroOf Try.prog 47 = some [AV.nilf] := by kernel_rfl
theorem tk48 : tk Try.prog 48 = TK.func := by kernel_rfl
theorem sz48 : sz Try.prog 48 = some 1 := by kernel_rfl
theorem by48 : byt Try.prog 48 = some 8 := by kernel_rfl
theorem ze48 : zeroOf Try.prog 48 = some [AV.nilf] := by kernel_rfl
theorem tk49 : tk Try.prog 49 = TK.func := by kernel_rfl
theorem sz49 : sz Try.prog 49 = some 1 := by kernel_rfl
theorem by49 : byt Try.prog 49 = some 8 := by kernel_rfl
theorem ze49 : zeroOf Try.prog 49 = some [AV.nilf] := by kernel_rfl
theorem tk50 : tk Try.prog 50 = TK.func := by kernel_rfl
theorem sz50 : sz Try.prog 50 = some 1 := by kernel_rfl
theorem by50 : byt Try.prog 50 = some 8 := by kernel_rfl
theorem ze50 : zeroOf Try.prog 50 = some [AV.nilf] := by kernel_rfl
theorem tk51 : tk Try.prog 51 = TK.func := by kernel_rfl
theorem sz51 : sz Try.prog 51 = some 1 := by kernel_rfl
theorem by51 : byt Try.prog 51 = some 8 := by kernel_rfl
theorem ze51 : zeroOf Try.prog 51 = some [AV.nilf] := by kernel_rfl
theorem tk52 : tk Try.prog 52 = TK.func := by kernel_rfl
theorem sz52 : sz Try.prog 52 = some 1 := by kernel_rfl
theorem by52 : byt Try.prog 52 = some 8 := by kernel_rfl
theorem ze52 : zeroOf Try.prog 52 = some [AV.nilf] := by kernel_rfl
theorem tk53 : tk Try.prog 53 = TK.func := by kernel_rfl
theorem sz53 : sz Try.prog 53 = some 1 := by kernel_rfl
theorem by53 : byt Try.prog 53 = some 8 := by kernel_rfl
theorem ze53 : zeroOf Try.prog 53 = some [AV.nilf] := by kernel_rfl
theorem tk54 : tk Try.prog 54 = TK.func := by kernel_rfl
theorem sz54 : sz Try.prog 54 = some 1 := by kernel_rfl
theorem by54 : byt Try.prog 54 = some 8 := by kernel_rfl
theorem ze54 : zeroOf Try.prog 54 = some [AV.nilf] := by kernel_rfl
theorem tk55 : tk Try.prog 55 = TK.func := by kernel_rfl
theorem sz55 : sz Try.prog 55 = some 1 := by kernel_rfl
theorem by55 : byt Try.prog 55 = some 8 := by kernel_rfl
theorem ze55 : zeroOf Try.prog 55 = some [AV.nilf] := by kernel_rfl
theorem tk56 : tk Try.prog 56 = TK.func := by kernel_rfl
theorem sz56 : sz Try.prog 56 = some 1 := by kernel_rfl
theorem by56 : byt Try.prog 56 = some 8 := by kernel_rfl
theorem ze56 : zeroOf Try.prog 56 = some [AV.nilf] := by kernel_rfl
theorem tk58 : tk Try.prog 58 = TK.func := by kernel_rfl
theorem sz58 : sz Try.prog 58 = some 1 := by kernel_rfl
theorem by58 : byt Try.prog 58 = some 8 := by kernel_rfl
theorem ze58 : zeroOf Try.prog 58 = some [AV.nilf] := by kernel_rfl
theorem tk59 : tk Try.prog 59 = TK.func := by kernel_rfl
theorem sz59 : sz Try.prog 59 = some 1 := by kernel_rfl
theorem by59 : byt Try.prog 59 = some 8 := by kernel_rfl
theorem ze59 : zeroOf Try.prog 59 = some [AV.nilf] := by kernel_rfl
theorem tk60 : tk Try.prog 60 = TK.func := by kernel_rfl
theorem sz60 : sz Try.prog 60 = some 1 := by kernel_rfl
theorem by60 : byt Try.prog 60 = some 8 := by kernel_rfl
theorem ze60 : zeroOf Try.prog 60 = some [AV.nilf] := by kernel_rfl
theorem tk61 : tk Try.prog 61 = TK.func := by kernel_rfl
theorem sz61 : sz Try.prog 61 = some 1 := by kernel_rfl
theorem by61 : byt Try.prog 61 = some 8 := by kernel_rfl
theorem ze61 : zeroOf Try.prog 61 = some [AV.nilf] := by kernel_rfl
theorem tk62 : tk Try.prog 62 = TK.func := by kernel_rfl
theorem sz62 : sz Try.prog 62 = some 1 := by kernel_rfl
theorem by62 : byt Try.prog 62 = some 8 := by kernel_rfl
theorem ze62 : zeroOf Try.prog 62 = some [AV.nilf] := by kernel_rfl
theorem tk63 : tk Try.prog 63 = TK.int IntKind.u64 := by kernel_rfl
theorem sz63 : sz Try.prog 63 = some 1 := by kernel_rfl
theorem by63 : byt Try.prog 63 = some 8 := by kernel_rfl
theorem ze63 : zeroOf Try.prog 63 = some [AV.int IntKind.u64 0] := by kernel_rfl
theorem tk64 : tk Try.prog 64 = TK.func := by kernel_rfl
theorem sz64 : sz Try.prog 64 = some 1 := by kernel_rfl
theorem by64 : byt Try.prog 64 = some 8 := by kernel_rfl
theorem ze64 : zeroOf Try.prog 64 = some [AV.nilf] := by kernel_rfl
theorem tk65 : tk Try.prog 65 = TK.int IntKind.u64 := by kernel_rfl
theorem sz65 : sz Try.prog 65 = some 1 := by kernel_rfl
theorem by65 : byt Try.prog 65 = some 8 := by kernel_rfl
theorem ze65 : zeroOf Try.prog 65 = some [AV.int IntKind.u64 0] := by kernel_rfl
theorem tk67 : tk Try.prog 67 = TK.func := by kernel_rfl
theorem sz67 : sz Try.prog 67 = some 1 := by kernel_rfl
theorem by67 : byt Try.prog 67 = some 8 := by kernel_rfl
theorem ze67 : zeroOf Try.prog 67 = some [AV.nilf] := by kernel_rfl
theorem tk68 : tk Try.prog 68 = TK.int IntKind.u32 := by kernel_rfl
theorem sz68 : sz Try.prog 68 = some 1 := by kernel_rfl
theorem by68 : byt Try.prog 68 = some 4 := by kernel_rfl
theorem ze68 : zeroOf Try.prog 68 = some [AV.int IntKind.u32 0] := by kernel_rfl
theorem tk70 : tk Try.prog 70 = TK.func := by kernel_rfl
theorem sz70 : sz Try.prog 70 = some 1 := by kernel_rfl
theorem by70 : byt Try.prog 70 = some 8 := by kernel_rfl
theorem ze70 : zeroOf Try.prog 70 = some [AV.nilf] := by kernel_rfl
theorem tk72 : tk Try.prog 72 = TK.func := by kernel_rfl
theorem sz72 : sz Try.prog 72 = some 1 := by kernel_rfl
theorem by72 : byt Try.prog 72 = some 8 := by kernel_rfl
theorem ze72 : zeroOf Try.prog 72 = some [AV.nilf] := by kernel_rfl
end Go.Proofs.Ytkkbnbgdhpkfhaa.A
