/- The code of the functions, without what the walk does not look at. Conditions: none. -/
import Derived.Test.YthiaegigndlnpaaA10
import Derived.Test.YthiaegigndlnpaaProg
import Derived.KernelRfl
set_option linter.unusedVariables false
set_option maxRecDepth 100000
namespace Go.Proofs.Ythiaegigndlnpaa.A
open Go
/-- timesync.timesynclaw28.LimiterChecks -/
def c3 : SC :=
  (.seq (.reg [⟨some 1, (.box 23 (.tmp 0)), none⟩,
   ⟨some 2, (.assign (.const (.bool false))), none⟩])
 (.seq (.reg [⟨some 4, (.load 23 (.tmp 1)), none⟩,
    ⟨some 5, (.call { callee := (.value (.func 10)), args := #[(.tmp 4)], argTypes := #[23] }), none⟩,
    ⟨some 3, (.assign (.tmp 5)), none⟩])
  (.seq (.reg [⟨some 6, (.move (.tmp 3)), none⟩,
     ⟨some 7, (.load 23 (.tmp 1)), none⟩,
     ⟨some 8, (.call { callee := (.value (.func 11)), args := #[(.tmp 7)], argTypes := #[23] }), none⟩,
     ⟨some 9, (.binOp .eql 24 (.tmp 6) (.tmp 8) 24), none⟩,
     ⟨some 10, (.move (.tmp 9)), none⟩,
     ⟨some 11, (.load 23 (.tmp 1)), some (10, true)⟩,
     ⟨some 12, (.call { callee := (.value (.func 12)), args := #[(.tmp 11)], argTypes := #[23] }), some (10, true)⟩,
     ⟨some 13, (.binOp .neq 26 (.tmp 12) (.const (.pointer none)) 26), some (10, true)⟩,
     ⟨some 14, (.move (.tmp 3)), some (10, true)⟩,
     ⟨some 15, (.binOp .eql 24 (.tmp 14) (.const (.int .i64 0)) 24), some (10, true)⟩,
     ⟨some 16, (.binOp .eql 4 (.tmp 13) (.tmp 15) 4), some (10, true)⟩,
     ⟨some 17, (.pick (.tmp 10) (.tmp 16) (.const (.bool false))), none⟩,
     ⟨some 18, (.move (.tmp 17)), none⟩,
     ⟨some 19, (.call { callee := (.value (.func 13)), args := #[], argTypes := #[] }), some (18, true)⟩,
     ⟨some 20, (.pick (.tmp 18) (.tmp 19) (.const (.bool false))), none⟩,
     ⟨some 2, (.assign (.tmp 20)), none⟩])
   .ret)))
theorem k3 : FOK Try.prog 3 21 c3 [2] := ⟨⟨[12, 14, 15, 16, 17], Try.f3, _, by kernel_rfl, by kernel_rfl, rfl, by kernel_rfl, rfl, by kernel_rfl, by decide⟩⟩

/-- timesync.timesynclaw28.LimiterAsks -/
def c4 : SC :=
  (.seq (.reg [⟨some 2, (.box 23 (.tmp 0)), none⟩,
   ⟨some 4, (.assign (.const (.bool false))), none⟩])
 (.seq (.regh (.load ⟨some 16, (.load 23 (.tmp 2)), none⟩ (.tmp 2)
 (.load ⟨some 18, (.load 23 (.tmp 2)), none⟩ (.tmp 2)
 (.step ⟨some 17, (.call { callee := (.value (.func 12)), args := #[(.tmp 16)], argTypes := #[23] }), none⟩
 (.step ⟨some 19, (.call { callee := (.value (.func 14)), args := #[(.tmp 18)], argTypes := #[23] }), none⟩
 (.take ⟨some 5, (.assign (.tmp 17)), none⟩
 (.takf ⟨some 6, (.assign (.tmp 19)), none⟩
 .done)))))))
  (.seq (.seq (.reg [⟨some 20, (.move (.tmp 5)), none⟩,
      ⟨some 21, (.binOp .neq 26 (.tmp 20) (.const (.pointer none)) 26), none⟩,
      ⟨some 22, (.move (.tmp 6)), none⟩,
      ⟨some 23, (.binOp .neq 31 (.tmp 22) (.const (.pointer none)) 31), none⟩,
      ⟨some 24, (.binOp .neq 4 (.tmp 21) (.tmp 23) 4), none⟩])
    (.cond (.tmp 24)
     (.seq (.reg [⟨some 4, (.assign (.const (.bool false))), none⟩])
      .ret)
     .skip))
   (.seq (.seq (.reg [⟨some 25, (.move (.tmp 6)), none⟩,
       ⟨some 26, (.binOp .eql 31 (.tmp 25) (.const (.pointer none)) 31), none⟩,
       ⟨some 27, (.move (.tmp 26)), none⟩,
       ⟨some 28, (.move (.tmp 1)), some (27, false)⟩,
       ⟨some 29, (.call { callee := (.builtin .len), args := #[(.tmp 28)], argTypes := #[30] }), some (27, false)⟩,
       ⟨some 30, (.binOp .gtr 3 (.tmp 29) (.const (.int .i64 150)) 3), some (27, false)⟩,
       ⟨some 31, (.pick (.tmp 27) (.const (.bool true)) (.tmp 30)), none⟩])
     (.cond (.tmp 31)
      (.seq (.reg [⟨some 32, (.call { callee := (.value (.func 13)), args := #[], argTypes := #[] }), none⟩,
         ⟨some 4, (.assign (.tmp 32)), none⟩])
       .ret)
      .skip))
    (.seq (.seq (.reg [⟨some 7, (.assign (.const (.int .i64 0))), none⟩])
      (.block 0
       (.loop
        (.seq (.seq (.reg [⟨some 33, (.move (.tmp 7)), none⟩,
            ⟨some 34, (.move (.tmp 1)), none⟩,
            ⟨some 35, (.call { callee := (.builtin .len), args := #[(.tmp 34)], argTypes := #[30] }), none⟩,
            ⟨some 36, (.binOp .lss 3 (.tmp 33) (.tmp 35) 3), none⟩])
          (.cond (.tmp 36)
           .skip
           (.exit 0)))
         (.seq (.block 1
           (.seq (.regh (.take ⟨some 40, (.move (.tmp 5)), none⟩
 (.take ⟨some 41, (.move (.tmp 1)), none⟩
 (.take ⟨some 42, (.move (.tmp 7)), none⟩
 (.take ⟨some 43, (.indexAddr 30 (.tmp 41) (.tmp 42)), none⟩
 (.take ⟨some 44, (.fieldAddr 36 (.tmp 43) 0), none⟩
 (.load ⟨some 45, (.load 3 (.tmp 44)), none⟩ (.tmp 44)
 (.take ⟨some 46, (.move (.tmp 1)), none⟩
 (.take ⟨some 47, (.move (.tmp 7)), none⟩
 (.take ⟨some 48, (.indexAddr 30 (.tmp 46) (.tmp 47)), none⟩
 (.take ⟨some 49, (.fieldAddr 36 (.tmp 48) 1), none⟩
 (.load ⟨some 50, (.load 3 (.tmp 49)), none⟩ (.tmp 49)
 (.step ⟨some 51, (.call { callee := (.value (.func 15)), args := #[(.tmp 40), (.tmp 45), (.tmp 50)], argTypes := #[26, 3, 3] }), none⟩
 (.take ⟨some 39, (.move (.tmp 51)), none⟩
 (.take ⟨some 52, (.extract (.tmp 39) 0), none⟩
 (.take ⟨some 53, (.extract (.tmp 39) 1), none⟩
 (.take ⟨some 8, (.assign (.tmp 52)), none⟩
 (.takf ⟨some 9, (.assign (.tmp 53)), none⟩
 .done))))))))))))))))))
            (.seq (.regh (.take ⟨some 55, (.move (.tmp 6)), none⟩
 (.take ⟨some 56, (.move (.tmp 1)), none⟩
 (.take ⟨some 57, (.move (.tmp 7)), none⟩
 (.take ⟨some 58, (.indexAddr 30 (.tmp 56) (.tmp 57)), none⟩
 (.take ⟨some 59, (.fieldAddr 36 (.tmp 58) 0), none⟩
 (.load ⟨some 60, (.load 3 (.tmp 59)), none⟩ (.tmp 59)
 (.take ⟨some 61, (.move (.tmp 1)), none⟩
 (.take ⟨some 62, (.move (.tmp 7)), none⟩
 (.take ⟨some 63, (.indexAddr 30 (.tmp 61) (.tmp 62)), none⟩
 (.take ⟨some 64, (.fieldAddr 36 (.tmp 63) 1), none⟩
 (.load ⟨some 65, (.load 3 (.tmp 64)), none⟩ (.tmp 64)
 (.step ⟨some 66, (.call { callee := (.value (.func 16)), args := #[(.tmp 55), (.tmp 60), (.tmp 65)], argTypes := #[31, 3, 3] }), none⟩
 (.take ⟨some 54, (.move (.tmp 66)), none⟩
 (.take ⟨some 67, (.extract (.tmp 54) 0), none⟩
 (.take ⟨some 68, (.extract (.tmp 54) 1), none⟩
 (.take ⟨some 10, (.assign (.tmp 67)), none⟩
 (.takf ⟨some 11, (.assign (.tmp 68)), none⟩
 .done))))))))))))))))))
             (.seq (.reg [⟨some 70, (.move (.tmp 5)), none⟩,
                ⟨some 71, (.move (.tmp 1)), none⟩,
                ⟨some 72, (.move (.tmp 7)), none⟩,
                ⟨some 73, (.indexAddr 30 (.tmp 71) (.tmp 72)), none⟩,
                ⟨some 74, (.fieldAddr 36 (.tmp 73) 0), none⟩,
                ⟨some 75, (.load 3 (.tmp 74)), none⟩,
                ⟨some 76, (.call { callee := (.value (.func 17)), args := #[(.tmp 70), (.tmp 75)], argTypes := #[26, 3] }), none⟩,
                ⟨some 69, (.move (.tmp 76)), none⟩,
                ⟨some 77, (.extract (.tmp 69) 0), none⟩,
                ⟨some 78, (.extract (.tmp 69) 1), none⟩,
                ⟨some 12, (.assign (.tmp 77)), none⟩,
                ⟨some 13, (.assign (.tmp 78)), none⟩])
              (.seq (.reg [⟨some 80, (.move (.tmp 6)), none⟩,
                 ⟨some 81, (.move (.tmp 1)), none⟩,
                 ⟨some 82, (.move (.tmp 7)), none⟩,
                 ⟨some 83, (.indexAddr 30 (.tmp 81) (.tmp 82)), none⟩,
                 ⟨some 84, (.fieldAddr 36 (.tmp 83) 0), none⟩,
                 ⟨some 85, (.load 3 (.tmp 84)), none⟩,
                 ⟨some 86, (.call { callee := (.value (.func 18)), args := #[(.tmp 80), (.tmp 85)], argTypes := #[31, 3] }), none⟩,
                 ⟨some 79, (.move (.tmp 86)), none⟩,
                 ⟨some 87, (.extract (.tmp 79) 0), none⟩,
                 ⟨some 88, (.extract (.tmp 79) 1), none⟩,
                 ⟨some 14, (.assign (.tmp 87)), none⟩,
                 ⟨some 15, (.assign (.tmp 88)), none⟩])
               (.seq (.reg [⟨some 89, (.move (.tmp 8)), none⟩,
                  ⟨some 90, (.move (.tmp 10)), none⟩,
                  ⟨some 91, (.binOp .neq 3 (.tmp 89) (.tmp 90) 3), none⟩,
                  ⟨some 92, (.move (.tmp 91)), none⟩,
                  ⟨some 93, (.move (.tmp 9)), some (92, false)⟩,
                  ⟨some 94, (.move (.tmp 11)), some (92, false)⟩,
                  ⟨some 95, (.binOp .neq 24 (.tmp 93) (.tmp 94) 24), some (92, false)⟩,
                  ⟨some 96, (.pick (.tmp 92) (.const (.bool true)) (.tmp 95)), none⟩,
                  ⟨some 97, (.move (.tmp 96)), none⟩,
                  ⟨some 98, (.move (.tmp 12)), some (97, false)⟩,
                  ⟨some 99, (.move (.tmp 14)), some (97, false)⟩,
                  ⟨some 100, (.binOp .neq 3 (.tmp 98) (.tmp 99) 3), some (97, false)⟩,
                  ⟨some 101, (.pick (.tmp 97) (.const (.bool true)) (.tmp 100)), none⟩,
                  ⟨some 102, (.move (.tmp 101)), none⟩,
                  ⟨some 103, (.move (.tmp 13)), some (102, false)⟩,
                  ⟨some 104, (.move (.tmp 15)), some (102, false)⟩,
                  ⟨some 105, (.binOp .neq 4 (.tmp 103) (.tmp 104) 4), some (102, false)⟩,
                  ⟨some 106, (.pick (.tmp 102) (.const (.bool true)) (.tmp 105)), none⟩,
                  ⟨some 107, (.move (.tmp 106)), none⟩,
                  ⟨some 108, (.move (.tmp 5)), some (107, false)⟩,
                  ⟨some 109, (.call { callee := (.value (.func 20)), args := #[(.tmp 108)], argTypes := #[26] }), some (107, false)⟩,
                  ⟨some 110, (.move (.tmp 6)), some (107, false)⟩,
                  ⟨some 111, (.call { callee := (.value (.func 21)), args := #[(.tmp 110)], argTypes := #[31] }), some (107, false)⟩,
                  ⟨some 112, (.call { callee := (.value (.func 19)), args := #[(.tmp 109), (.tmp 111)], argTypes := #[40, 40] }), some (107, false)⟩,
                  ⟨some 113, (.unOp .not 4 (.tmp 112)), some (107, false)⟩,
                  ⟨some 114, (.pick (.tmp 107) (.const (.bool true)) (.tmp 113)), none⟩])
                (.cond (.tmp 114)
                 (.seq (.reg [⟨some 4, (.assign (.const (.bool false))), none⟩])
                  .ret)
                 .skip)))))))
          (.reg [⟨some 37, (.move (.tmp 7)), none⟩,
            ⟨some 38, (.binOp .add 3 (.tmp 37) (.const (.int .i64 1)) 3), none⟩,
            ⟨some 7, (.assign (.tmp 38)), none⟩]))))))
     (.seq (.reg [⟨some 115, (.call { callee := (.value (.func 13)), args := #[], argTypes := #[] }), none⟩,
        ⟨some 4, (.assign (.tmp 115)), none⟩])
      .ret))))))
theorem k4 : FOK Try.prog 4 116 c4 [4] := ⟨⟨[12, 14, 15, 16, 17], Try.f4, _, by kernel_rfl, by kernel_rfl, rfl, by kernel_rfl, rfl, by kernel_rfl, by decide⟩⟩

/-- timesync.timesynclaw28.LimiterBounds -/
def c5 : SC :=
  (.seq (.reg [⟨some 2, (.box 23 (.tmp 0)), none⟩,
   ⟨some 4, (.assign (.const (.bool false))), none⟩])
 (.seq (.reg [⟨some 15, (.load 23 (.tmp 2)), none⟩,
    ⟨some 16, (.call { callee := (.value (.func 12)), args := #[(.tmp 15)], argTypes := #[23] }), none⟩,
    ⟨some 5, (.assign (.tmp 16)), none⟩])
  (.seq (.seq (.reg [⟨some 17, (.move (.tmp 5)), none⟩,
      ⟨some 18, (.binOp .eql 26 (.tmp 17) (.const (.pointer none)) 26), none⟩,
      ⟨some 19, (.move (.tmp 18)), none⟩,
      ⟨some 20, (.move (.tmp 1)), some (19, false)⟩,
      ⟨some 21, (.call { callee := (.builtin .len), args := #[(.tmp 20)], argTypes := #[30] }), some (19, false)⟩,
      ⟨some 22, (.binOp .gtr 3 (.tmp 21) (.const (.int .i64 150)) 3), some (19, false)⟩,
      ⟨some 23, (.pick (.tmp 19) (.const (.bool true)) (.tmp 22)), none⟩])
    (.cond (.tmp 23)
     (.seq (.reg [⟨some 24, (.move (.tmp 5)), none⟩,
        ⟨some 25, (.binOp .neq 26 (.tmp 24) (.const (.pointer none)) 26), none⟩,
        ⟨some 26, (.load 23 (.tmp 2)), none⟩,
        ⟨some 27, (.call { callee := (.value (.func 10)), args := #[(.tmp 26)], argTypes := #[23] }), none⟩,
        ⟨some 28, (.binOp .eql 24 (.tmp 27) (.const (.int .i64 0)) 24), none⟩,
        ⟨some 29, (.binOp .eql 4 (.tmp 25) (.tmp 28) 4), none⟩,
        ⟨some 30, (.move (.tmp 29)), none⟩,
        ⟨some 31, (.call { callee := (.value (.func 13)), args := #[], argTypes := #[] }), some (30, true)⟩,
        ⟨some 32, (.pick (.tmp 30) (.tmp 31) (.const (.bool false))), none⟩,
        ⟨some 4, (.assign (.tmp 32)), none⟩])
      .ret)
     .skip))
   (.seq (.seq (.reg [⟨some 6, (.assign (.const (.int .i64 0))), none⟩])
     (.block 0
      (.loop
       (.seq (.seq (.reg [⟨some 33, (.move (.tmp 6)), none⟩,
           ⟨some 34, (.move (.tmp 1)), none⟩,
           ⟨some 35, (.call { callee := (.builtin .len), args := #[(.tmp 34)], argTypes := #[30] }), none⟩,
           ⟨some 36, (.binOp .lss 3 (.tmp 33) (.tmp 35) 3), none⟩])
         (.cond (.tmp 36)
          .skip
          (.exit 0)))
        (.seq (.block 1
          (.seq (.regh (.take ⟨some 40, (.move (.tmp 5)), none⟩
 (.take ⟨some 41, (.move (.tmp 1)), none⟩
 (.take ⟨some 42, (.move (.tmp 6)), none⟩
 (.take ⟨some 43, (.indexAddr 30 (.tmp 41) (.tmp 42)), none⟩
 (.take ⟨some 44, (.fieldAddr 36 (.tmp 43) 0), none⟩
 (.load ⟨some 45, (.load 3 (.tmp 44)), none⟩ (.tmp 44)
 (.take ⟨some 46, (.move (.tmp 1)), none⟩
 (.take ⟨some 47, (.move (.tmp 6)), none⟩
 (.take ⟨some 48, (.indexAddr 30 (.tmp 46) (.tmp 47)), none⟩
 (.take ⟨some 49, (.fieldAddr 36 (.tmp 48) 1), none⟩
 (.load ⟨some 50, (.load 3 (.tmp 49)), none⟩ (.tmp 49)
 (.step ⟨some 51, (.call { callee := (.value (.func 15)), args := #[(.tmp 40), (.tmp 45), (.tmp 50)], argTypes := #[26, 3, 3] }), none⟩
 (.take ⟨some 39, (.move (.tmp 51)), none⟩
 (.take ⟨some 52, (.extract (.tmp 39) 0), none⟩
 (.take ⟨some 53, (.extract (.tmp 39) 1), none⟩
 (.take ⟨some 7, (.assign (.tmp 52)), none⟩
 (.takf ⟨some 8, (.assign (.tmp 53)), none⟩
 .done))))))))))))))))))
           (.seq (.reg [⟨some 55, (.move (.tmp 5)), none⟩,
              ⟨some 56, (.move (.tmp 1)), none⟩,
              ⟨some 57, (.move (.tmp 6)), none⟩,
              ⟨some 58, (.indexAddr 30 (.tmp 56) (.tmp 57)), none⟩,
              ⟨some 59, (.fieldAddr 36 (.tmp 58) 0), none⟩,
              ⟨some 60, (.load 3 (.tmp 59)), none⟩,
              ⟨some 61, (.call { callee := (.value (.func 17)), args := #[(.tmp 55), (.tmp 60)], argTypes := #[26, 3] }), none⟩,
              ⟨some 54, (.move (.tmp 61)), none⟩,
              ⟨some 62, (.extract (.tmp 54) 0), none⟩,
              ⟨some 63, (.extract (.tmp 54) 1), none⟩,
              ⟨some 9, (.assign (.tmp 62)), none⟩,
              ⟨some 10, (.assign (.tmp 63)), none⟩])
            (.seq (.seq (.reg [⟨some 64, (.move (.tmp 8)), none⟩,
                ⟨some 65, (.binOp .eql 24 (.tmp 64) (.const (.int .i64 0)) 24), none⟩,
                ⟨some 66, (.move (.tmp 65)), none⟩,
                ⟨some 67, (.move (.tmp 10)), some (66, true)⟩,
                ⟨some 68, (.unOp .not 4 (.tmp 67)), some (66, true)⟩,
                ⟨some 69, (.move (.tmp 68)), some (66, true)⟩,
                ⟨some 70, (.move (.tmp 9)), some (69, false)⟩,
                ⟨some 71, (.binOp .lss 3 (.tmp 70) (.const (.int .i64 0)) 3), some (69, false)⟩,
                ⟨some 72, (.pick (.tmp 69) (.const (.bool true)) (.tmp 71)), some (66, true)⟩,
                ⟨some 73, (.move (.tmp 72)), some (66, true)⟩,
                ⟨some 74, (.move (.tmp 9)), some (73, false)⟩,
                ⟨some 75, (.fieldAddr 23 (.tmp 2) 3), some (73, false)⟩,
                ⟨some 76, (.load 3 (.tmp 75)), some (73, false)⟩,
                ⟨some 77, (.binOp .gtr 3 (.tmp 74) (.tmp 76) 3), some (73, false)⟩,
                ⟨some 78, (.pick (.tmp 73) (.const (.bool true)) (.tmp 77)), some (66, true)⟩,
                ⟨some 79, (.pick (.tmp 66) (.tmp 78) (.const (.bool false))), none⟩])
              (.cond (.tmp 79)
               (.seq (.reg [⟨some 4, (.assign (.const (.bool false))), none⟩])
                .ret)
               .skip))
             (.seq (.reg [⟨some 80, (.move (.tmp 5)), none⟩,
                ⟨some 81, (.call { callee := (.value (.func 20)), args := #[(.tmp 80)], argTypes := #[26] }), none⟩,
                ⟨some 11, (.assign (.tmp 81)), none⟩])
              (.seq (.seq (.reg [⟨some 82, (.move (.tmp 11)), none⟩,
                  ⟨some 83, (.call { callee := (.builtin .len), args := #[(.tmp 82)], argTypes := #[40] }), none⟩,
                  ⟨some 84, (.fieldAddr 23 (.tmp 2) 0), none⟩,
                  ⟨some 85, (.load 3 (.tmp 84)), none⟩,
                  ⟨some 86, (.binOp .gtr 3 (.tmp 83) (.tmp 85) 3), none⟩])
                (.cond (.tmp 86)
                 (.seq (.reg [⟨some 4, (.assign (.const (.bool false))), none⟩])
                  .ret)
                 .skip))
               (.seq (.reg [⟨some 12, (.assign (.const (.int .i64 0))), none⟩])
                (.block 2
                 (.loop
                  (.seq (.seq (.reg [⟨some 87, (.move (.tmp 12)), none⟩,
                      ⟨some 88, (.move (.tmp 11)), none⟩,
                      ⟨some 89, (.call { callee := (.builtin .len), args := #[(.tmp 88)], argTypes := #[40] }), none⟩,
                      ⟨some 90, (.binOp .lss 3 (.tmp 87) (.tmp 89) 3), none⟩])
                    (.cond (.tmp 90)
                     .skip
                     (.exit 2)))
                   (.seq (.block 3
                     (.seq (.reg [⟨some 94, (.move (.tmp 5)), none⟩,
                        ⟨some 95, (.move (.tmp 11)), none⟩,
                        ⟨some 96, (.move (.tmp 12)), none⟩,
                        ⟨some 97, (.indexAddr 40 (.tmp 95) (.tmp 96)), none⟩,
                        ⟨some 98, (.load 3 (.tmp 97)), none⟩,
                        ⟨some 99, (.call { callee := (.value (.func 17)), args := #[(.tmp 94), (.tmp 98)], argTypes := #[26, 3] }), none⟩,
                        ⟨some 93, (.move (.tmp 99)), none⟩,
                        ⟨some 100, (.extract (.tmp 93) 0), none⟩,
                        ⟨some 101, (.extract (.tmp 93) 1), none⟩,
                        ⟨some 13, (.assign (.tmp 100)), none⟩,
                        ⟨some 14, (.assign (.tmp 101)), none⟩])
                      (.seq (.regq [⟨some 102, (.move (.tmp 14)), none⟩,
                         ⟨some 103, (.unOp .not 4 (.tmp 102)), none⟩,
                         ⟨some 104, (.move (.tmp 103)), none⟩,
                         ⟨some 105, (.move (.tmp 13)), some (104, false)⟩,
                         ⟨some 106, (.binOp .lss 3 (.tmp 105) (.const (.int .i64 0)) 3), some (104, false)⟩,
                         ⟨some 107, (.pick (.tmp 104) (.const (.bool true)) (.tmp 106)), none⟩,
                         ⟨some 108, (.move (.tmp 107)), none⟩,
                         ⟨some 109, (.move (.tmp 13)), some (108, false)⟩,
                         ⟨some 110, (.fieldAddr 23 (.tmp 2) 3), some (108, false)⟩,
                         ⟨some 111, (.load 3 (.tmp 110)), some (108, false)⟩,
                         ⟨some 112, (.binOp .gtr 3 (.tmp 109) (.tmp 111) 3), some (108, false)⟩,
                         ⟨some 113, (.pick (.tmp 108) (.const (.bool true)) (.tmp 112)), none⟩,
                         ⟨some 114, (.move (.tmp 113)), none⟩,
                         ⟨some 115, (.move (.tmp 12)), some (114, false)⟩,
                         ⟨some 116, (.binOp .gtr 3 (.tmp 115) (.const (.int .i64 0)) 3), some (114, false)⟩,
                         ⟨some 117, (.move (.tmp 116)), some (114, false)⟩,
                         ⟨some 118, (.move (.tmp 11)), some (117, true)⟩,
                         ⟨some 119, (.move (.tmp 12)), some (117, true)⟩,
                         ⟨some 120, (.indexAddr 40 (.tmp 118) (.tmp 119)), some (117, true)⟩,
                         ⟨some 121, (.load 3 (.tmp 120)), some (117, true)⟩,
                         ⟨some 122, (.move (.tmp 11)), some (117, true)⟩,
                         ⟨some 123, (.move (.tmp 12)), some (117, true)⟩,
                         ⟨some 124, (.binOp .sub 3 (.tmp 123) (.const (.int .i64 1)) 3), some (117, true)⟩,
                         ⟨some 125, (.indexAddr 40 (.tmp 122) (.tmp 124)), some (117, true)⟩,
                         ⟨some 126, (.load 3 (.tmp 125)), some (117, true)⟩,
                         ⟨some 127, (.binOp .leq 3 (.tmp 121) (.tmp 126) 3), some (117, true)⟩,
                         ⟨some 128, (.pick (.tmp 117) (.tmp 127) (.const (.bool false))), some (114, false)⟩,
                         ⟨some 129, (.pick (.tmp 114) (.const (.bool true)) (.tmp 128)), none⟩])
                       (.cond (.tmp 129)
                        (.seq (.reg [⟨some 4, (.assign (.const (.bool false))), none⟩])
                         .ret)
                        .skip))))
                    (.reg [⟨some 91, (.move (.tmp 12)), none⟩,
                      ⟨some 92, (.binOp .add 3 (.tmp 91) (.const (.int .i64 1)) 3), none⟩,
                      ⟨some 12, (.assign (.tmp 92)), none⟩]))))))))))))
         (.reg [⟨some 37, (.move (.tmp 6)), none⟩,
           ⟨some 38, (.binOp .add 3 (.tmp 37) (.const (.int .i64 1)) 3), none⟩,
           ⟨some 6, (.assign (.tmp 38)), none⟩]))))))
    (.seq (.reg [⟨some 130, (.call { callee := (.value (.func 13)), args := #[], argTypes := #[] }), none⟩,
       ⟨some 4, (.assign (.tmp 130)), none⟩])
     .ret)))))
theorem k5 : FOK Try.prog 5 131 c5 [4] := ⟨⟨[12, 14, 15, 16, 17], Try.f5, _, by kernel_rfl, by kernel_rfl, rfl, by kernel_rfl, rfl, by kernel_rfl, by decide⟩⟩

/-- timesync.timesynclaw28.LimiterRate -/
def c6 : SC :=
  (.seq (.reg [⟨some 3, (.box 23 (.tmp 0)), none⟩,
   ⟨some 6, (.assign (.const (.bool false))), none⟩])
 (.seq (.reg [⟨some 14, (.load 23 (.tmp 3)), none⟩,
    ⟨some 15, (.call { callee := (.value (.func 12)), args := #[(.tmp 14)], argTypes := #[23] }), none⟩,
    ⟨some 7, (.assign (.tmp 15)), none⟩])
  (.seq (.seq (.reg [⟨some 16, (.move (.tmp 7)), none⟩,
      ⟨some 17, (.binOp .eql 26 (.tmp 16) (.const (.pointer none)) 26), none⟩,
      ⟨some 18, (.move (.tmp 17)), none⟩,
      ⟨some 19, (.move (.tmp 2)), some (18, false)⟩,
      ⟨some 20, (.call { callee := (.builtin .len), args := #[(.tmp 19)], argTypes := #[40] }), some (18, false)⟩,
      ⟨some 21, (.binOp .gtr 3 (.tmp 20) (.const (.int .i64 60)) 3), some (18, false)⟩,
      ⟨some 22, (.pick (.tmp 18) (.const (.bool true)) (.tmp 21)), none⟩])
    (.cond (.tmp 22)
     (.seq (.reg [⟨some 23, (.call { callee := (.value (.func 13)), args := #[], argTypes := #[] }), none⟩,
        ⟨some 6, (.assign (.tmp 23)), none⟩])
      .ret)
     .skip))
   (.seq (.reg [⟨some 8, (.assign (.const (.slice none 0 0))), none⟩])
    (.seq (.seq (.reg [⟨some 9, (.assign (.const (.int .i64 0))), none⟩])
      (.block 0
       (.loop
        (.seq (.seq (.reg [⟨some 24, (.move (.tmp 9)), none⟩,
            ⟨some 25, (.move (.tmp 2)), none⟩,
            ⟨some 26, (.call { callee := (.builtin .len), args := #[(.tmp 25)], argTypes := #[40] }), none⟩,
            ⟨some 27, (.binOp .lss 3 (.tmp 24) (.tmp 26) 3), none⟩])
          (.cond (.tmp 27)
           .skip
           (.exit 0)))
         (.seq (.block 1
           (.seq (.reg [⟨some 31, (.move (.tmp 7)), none⟩,
              ⟨some 32, (.move (.tmp 1)), none⟩,
              ⟨some 33, (.move (.tmp 2)), none⟩,
              ⟨some 34, (.move (.tmp 9)), none⟩,
              ⟨some 35, (.indexAddr 40 (.tmp 33) (.tmp 34)), none⟩,
              ⟨some 36, (.load 3 (.tmp 35)), none⟩,
              ⟨some 37, (.call { callee := (.value (.func 15)), args := #[(.tmp 31), (.tmp 32), (.tmp 36)], argTypes := #[26, 3, 3] }), none⟩,
              ⟨some 30, (.move (.tmp 37)), none⟩,
              ⟨some 38, (.extract (.tmp 30) 0), none⟩,
              ⟨some 39, (.extract (.tmp 30) 1), none⟩,
              ⟨some 10, (.assign (.tmp 38)), none⟩,
              ⟨some 11, (.assign (.tmp 39)), none⟩])
            (.seq (.reg [⟨some 40, (.move (.tmp 11)), none⟩,
               ⟨some 41, (.binOp .eql 24 (.tmp 40) (.const (.int .i64 0)) 24), none⟩,
               ⟨some 42, (.move (.tmp 41)), none⟩,
               ⟨some 43, (.move (.tmp 10)), some (42, true)⟩,
               ⟨some 44, (.binOp .eql 3 (.tmp 43) (.const (.int .i64 0)) 3), some (42, true)⟩,
               ⟨some 45, (.pick (.tmp 42) (.tmp 44) (.const (.bool false))), none⟩])
             (.cond (.tmp 45)
              (.reg [⟨some 46, (.move (.tmp 8)), none⟩,
                ⟨some 47, (.move (.tmp 2)), none⟩,
                ⟨some 48, (.move (.tmp 9)), none⟩,
                ⟨some 49, (.indexAddr 40 (.tmp 47) (.tmp 48)), none⟩,
                ⟨some 50, (.load 3 (.tmp 49)), none⟩,
                ⟨some 51, (.buildSlice 40 1 #[(0, (.tmp 50))]), none⟩,
                ⟨some 52, (.call { callee := (.builtin .append), args := #[(.tmp 46), (.tmp 51)], argTypes := #[40, 40] }), none⟩,
                ⟨some 8, (.assign (.tmp 52)), none⟩])
              .skip))))
          (.reg [⟨some 28, (.move (.tmp 9)), none⟩,
            ⟨some 29, (.binOp .add 3 (.tmp 28) (.const (.int .i64 1)) 3), none⟩,
            ⟨some 9, (.assign (.tmp 29)), none⟩]))))))
     (.seq (.seq (.reg [⟨some 12, (.assign (.const (.int .i64 0))), none⟩])
       (.block 2
        (.loop
         (.seq (.seq (.reg [⟨some 53, (.move (.tmp 12)), none⟩,
             ⟨some 54, (.move (.tmp 8)), none⟩,
             ⟨some 55, (.call { callee := (.builtin .len), args := #[(.tmp 54)], argTypes := #[40] }), none⟩,
             ⟨some 56, (.binOp .lss 3 (.tmp 53) (.tmp 55) 3), none⟩])
           (.cond (.tmp 56)
            .skip
            (.exit 2)))
          (.seq (.block 3
            (.seq (.seq (.regq [⟨some 59, (.move (.tmp 12)), none⟩,
                ⟨some 60, (.binOp .gtr 3 (.tmp 59) (.const (.int .i64 0)) 3), none⟩,
                ⟨some 61, (.move (.tmp 60)), none⟩,
                ⟨some 62, (.move (.tmp 8)), some (61, true)⟩,
                ⟨some 63, (.move (.tmp 12)), some (61, true)⟩,
                ⟨some 64, (.indexAddr 40 (.tmp 62) (.tmp 63)), some (61, true)⟩,
                ⟨some 65, (.load 3 (.tmp 64)), some (61, true)⟩,
                ⟨some 66, (.move (.tmp 8)), some (61, true)⟩,
                ⟨some 67, (.move (.tmp 12)), some (61, true)⟩,
                ⟨some 68, (.binOp .sub 3 (.tmp 67) (.const (.int .i64 1)) 3), some (61, true)⟩,
                ⟨some 69, (.indexAddr 40 (.tmp 66) (.tmp 68)), some (61, true)⟩,
                ⟨some 70, (.load 3 (.tmp 69)), some (61, true)⟩,
                ⟨some 71, (.binOp .sub 3 (.tmp 65) (.tmp 70) 3), some (61, true)⟩,
                ⟨some 72, (.fieldAddr 23 (.tmp 3) 1), some (61, true)⟩,
                ⟨some 73, (.load 3 (.tmp 72)), some (61, true)⟩,
                ⟨some 74, (.binOp .lss 3 (.tmp 71) (.tmp 73) 3), some (61, true)⟩,
                ⟨some 75, (.pick (.tmp 61) (.tmp 74) (.const (.bool false))), none⟩])
              (.cond (.tmp 75)
               (.seq (.reg [⟨some 6, (.assign (.const (.bool false))), none⟩])
                .ret)
               .skip))
             (.seq (.reg [⟨some 76, (.move (.tmp 12)), none⟩,
                ⟨some 13, (.assign (.tmp 76)), none⟩])
              (.block 4
               (.loop
                (.seq (.seq (.reg [⟨some 77, (.move (.tmp 13)), none⟩,
                    ⟨some 78, (.move (.tmp 8)), none⟩,
                    ⟨some 79, (.call { callee := (.builtin .len), args := #[(.tmp 78)], argTypes := #[40] }), none⟩,
                    ⟨some 80, (.binOp .lss 3 (.tmp 77) (.tmp 79) 3), none⟩])
                  (.cond (.tmp 80)
                   .skip
                   (.exit 4)))
                 (.seq (.block 5
                   (.seq (.regq [⟨some 83, (.move (.tmp 13)), none⟩,
                      ⟨some 84, (.move (.tmp 12)), none⟩,
                      ⟨some 85, (.binOp .sub 3 (.tmp 83) (.tmp 84) 3), none⟩,
                      ⟨some 86, (.binOp .add 3 (.tmp 85) (.const (.int .i64 1)) 3), none⟩,
                      ⟨some 87, (.fieldAddr 23 (.tmp 3) 2), none⟩,
                      ⟨some 88, (.load 3 (.tmp 87)), none⟩,
                      ⟨some 89, (.binOp .mul 3 (.tmp 86) (.tmp 88) 3), none⟩,
                      ⟨some 90, (.fieldAddr 23 (.tmp 3) 3), none⟩,
                      ⟨some 91, (.load 3 (.tmp 90)), none⟩,
                      ⟨some 92, (.move (.tmp 8)), none⟩,
                      ⟨some 93, (.move (.tmp 13)), none⟩,
                      ⟨some 94, (.indexAddr 40 (.tmp 92) (.tmp 93)), none⟩,
                      ⟨some 95, (.load 3 (.tmp 94)), none⟩,
                      ⟨some 96, (.binOp .add 3 (.tmp 91) (.tmp 95) 3), none⟩,
                      ⟨some 97, (.move (.tmp 8)), none⟩,
                      ⟨some 98, (.move (.tmp 12)), none⟩,
                      ⟨some 99, (.indexAddr 40 (.tmp 97) (.tmp 98)), none⟩,
                      ⟨some 100, (.load 3 (.tmp 99)), none⟩,
                      ⟨some 101, (.binOp .sub 3 (.tmp 96) (.tmp 100) 3), none⟩,
                      ⟨some 102, (.binOp .gtr 3 (.tmp 89) (.tmp 101) 3), none⟩])
                    (.cond (.tmp 102)
                     (.seq (.reg [⟨some 6, (.assign (.const (.bool false))), none⟩])
                      .ret)
                     .skip)))
                  (.reg [⟨some 81, (.move (.tmp 13)), none⟩,
                    ⟨some 82, (.binOp .add 3 (.tmp 81) (.const (.int .i64 1)) 3), none⟩,
                    ⟨some 13, (.assign (.tmp 82)), none⟩]))))))))
           (.reg [⟨some 57, (.move (.tmp 12)), none⟩,
             ⟨some 58, (.binOp .add 3 (.tmp 57) (.const (.int .i64 1)) 3), none⟩,
             ⟨some 12, (.assign (.tmp 58)), none⟩]))))))
      (.seq (.reg [⟨some 103, (.call { callee := (.value (.func 13)), args := #[], argTypes := #[] }), none⟩,
         ⟨some 6, (.assign (.tmp 103)), none⟩])
       .ret)))))))
theorem k6 : FOK Try.prog 6 104 c6 [6] := ⟨⟨[12, 14, 15, 16, 17], Try.f6, _, by kernel_rfl, by kernel_rfl, rfl, by kernel_rfl, rfl, by kernel_rfl, by decide⟩⟩

/-- timesync.timesynclaw28.LimiterApart -/
def c7 : SC :=
  (.seq (.reg [⟨some 3, (.box 23 (.tmp 0)), none⟩,
   ⟨some 6, (.assign (.const (.bool false))), none⟩])
 (.seq (.seq (.reg [⟨some 19, (.move (.tmp 1)), none⟩,
     ⟨some 20, (.call { callee := (.builtin .len), args := #[(.tmp 19)], argTypes := #[30] }), none⟩,
     ⟨some 21, (.binOp .gtr 3 (.tmp 20) (.const (.int .i64 100)) 3), none⟩])
   (.cond (.tmp 21)
    (.seq (.reg [⟨some 22, (.call { callee := (.value (.func 13)), args := #[], argTypes := #[] }), none⟩,
       ⟨some 6, (.assign (.tmp 22)), none⟩])
     .ret)
    .skip))
  (.seq (.seq (.reg [⟨some 7, (.assign (.const (.int .i64 0))), none⟩])
    (.block 0
     (.loop
      (.seq (.seq (.reg [⟨some 23, (.move (.tmp 7)), none⟩,
          ⟨some 24, (.move (.tmp 1)), none⟩,
          ⟨some 25, (.call { callee := (.builtin .len), args := #[(.tmp 24)], argTypes := #[30] }), none⟩,
          ⟨some 26, (.binOp .lss 3 (.tmp 23) (.tmp 25) 3), none⟩])
        (.cond (.tmp 26)
         .skip
         (.exit 0)))
       (.seq (.block 1
         (.seq (.regq [⟨some 29, (.move (.tmp 1)), none⟩,
            ⟨some 30, (.move (.tmp 7)), none⟩,
            ⟨some 31, (.indexAddr 30 (.tmp 29) (.tmp 30)), none⟩,
            ⟨some 32, (.fieldAddr 36 (.tmp 31) 0), none⟩,
            ⟨some 33, (.load 3 (.tmp 32)), none⟩,
            ⟨some 34, (.binOp .lss 3 (.tmp 33) (.const (.int .i64 0)) 3), none⟩,
            ⟨some 35, (.move (.tmp 34)), none⟩,
            ⟨some 36, (.move (.tmp 1)), some (35, false)⟩,
            ⟨some 37, (.move (.tmp 7)), some (35, false)⟩,
            ⟨some 38, (.indexAddr 30 (.tmp 36) (.tmp 37)), some (35, false)⟩,
            ⟨some 39, (.fieldAddr 36 (.tmp 38) 0), some (35, false)⟩,
            ⟨some 40, (.load 3 (.tmp 39)), some (35, false)⟩,
            ⟨some 41, (.fieldAddr 23 (.tmp 3) 0), some (35, false)⟩,
            ⟨some 42, (.load 3 (.tmp 41)), some (35, false)⟩,
            ⟨some 43, (.binOp .geq 3 (.tmp 40) (.tmp 42) 3), some (35, false)⟩,
            ⟨some 44, (.pick (.tmp 35) (.const (.bool true)) (.tmp 43)), none⟩,
            ⟨some 45, (.move (.tmp 44)), none⟩,
            ⟨some 46, (.move (.tmp 7)), some (45, false)⟩,
            ⟨some 47, (.binOp .gtr 3 (.tmp 46) (.const (.int .i64 0)) 3), some (45, false)⟩,
            ⟨some 48, (.move (.tmp 47)), some (45, false)⟩,
            ⟨some 49, (.move (.tmp 1)), some (48, true)⟩,
            ⟨some 50, (.move (.tmp 7)), some (48, true)⟩,
            ⟨some 51, (.indexAddr 30 (.tmp 49) (.tmp 50)), some (48, true)⟩,
            ⟨some 52, (.fieldAddr 36 (.tmp 51) 1), some (48, true)⟩,
            ⟨some 53, (.load 3 (.tmp 52)), some (48, true)⟩,
            ⟨some 54, (.move (.tmp 1)), some (48, true)⟩,
            ⟨some 55, (.move (.tmp 7)), some (48, true)⟩,
            ⟨some 56, (.binOp .sub 3 (.tmp 55) (.const (.int .i64 1)) 3), some (48, true)⟩,
            ⟨some 57, (.indexAddr 30 (.tmp 54) (.tmp 56)), some (48, true)⟩,
            ⟨some 58, (.fieldAddr 36 (.tmp 57) 1), some (48, true)⟩,
            ⟨some 59, (.load 3 (.tmp 58)), some (48, true)⟩,
            ⟨some 60, (.binOp .lss 3 (.tmp 53) (.tmp 59) 3), some (48, true)⟩,
            ⟨some 61, (.pick (.tmp 48) (.tmp 60) (.const (.bool false))), some (45, false)⟩,
            ⟨some 62, (.pick (.tmp 45) (.const (.bool true)) (.tmp 61)), none⟩])
          (.cond (.tmp 62)
           (.seq (.reg [⟨some 63, (.call { callee := (.value (.func 13)), args := #[], argTypes := #[] }), none⟩,
              ⟨some 6, (.assign (.tmp 63)), none⟩])
            .ret)
           .skip)))
        (.reg [⟨some 27, (.move (.tmp 7)), none⟩,
          ⟨some 28, (.binOp .add 3 (.tmp 27) (.const (.int .i64 1)) 3), none⟩,
          ⟨some 7, (.assign (.tmp 28)), none⟩]))))))
   (.seq (.regh (.load ⟨some 64, (.load 23 (.tmp 3)), none⟩ (.tmp 3)
 (.load ⟨some 66, (.load 23 (.tmp 3)), none⟩ (.tmp 3)
 (.step ⟨some 65, (.call { callee := (.value (.func 12)), args := #[(.tmp 64)], argTypes := #[23] }), none⟩
 (.step ⟨some 67, (.call { callee := (.value (.func 12)), args := #[(.tmp 66)], argTypes := #[23] }), none⟩
 (.take ⟨some 8, (.assign (.tmp 65)), none⟩
 (.takf ⟨some 9, (.assign (.tmp 67)), none⟩
 .done)))))))
    (.seq (.seq (.reg [⟨some 68, (.move (.tmp 8)), none⟩,
        ⟨some 69, (.binOp .eql 26 (.tmp 68) (.const (.pointer none)) 26), none⟩,
        ⟨some 70, (.move (.tmp 69)), none⟩,
        ⟨some 71, (.move (.tmp 9)), some (70, false)⟩,
        ⟨some 72, (.binOp .eql 26 (.tmp 71) (.const (.pointer none)) 26), some (70, false)⟩,
        ⟨some 73, (.pick (.tmp 70) (.const (.bool true)) (.tmp 72)), none⟩])
      (.cond (.tmp 73)
       (.seq (.reg [⟨some 74, (.load 23 (.tmp 3)), none⟩,
          ⟨some 75, (.call { callee := (.value (.func 10)), args := #[(.tmp 74)], argTypes := #[23] }), none⟩,
          ⟨some 76, (.binOp .neq 24 (.tmp 75) (.const (.int .i64 0)) 24), none⟩,
          ⟨some 77, (.move (.tmp 76)), none⟩,
          ⟨some 78, (.call { callee := (.value (.func 13)), args := #[], argTypes := #[] }), some (77, true)⟩,
          ⟨some 79, (.pick (.tmp 77) (.tmp 78) (.const (.bool false))), none⟩,
          ⟨some 6, (.assign (.tmp 79)), none⟩])
        .ret)
       .skip))
     (.seq (.seq (.reg [⟨some 10, (.assign (.const (.int .i64 0))), none⟩])
       (.block 2
        (.loop
         (.seq (.seq (.reg [⟨some 80, (.move (.tmp 10)), none⟩,
             ⟨some 81, (.move (.tmp 1)), none⟩,
             ⟨some 82, (.call { callee := (.builtin .len), args := #[(.tmp 81)], argTypes := #[30] }), none⟩,
             ⟨some 83, (.binOp .lss 3 (.tmp 80) (.tmp 82) 3), none⟩])
           (.cond (.tmp 83)
            .skip
            (.exit 2)))
          (.seq (.block 3
            (.seq (.regh (.take ⟨some 87, (.move (.tmp 8)), none⟩
 (.take ⟨some 88, (.move (.tmp 1)), none⟩
 (.take ⟨some 89, (.move (.tmp 10)), none⟩
 (.take ⟨some 90, (.indexAddr 30 (.tmp 88) (.tmp 89)), none⟩
 (.take ⟨some 91, (.fieldAddr 36 (.tmp 90) 0), none⟩
 (.load ⟨some 92, (.load 3 (.tmp 91)), none⟩ (.tmp 91)
 (.take ⟨some 93, (.move (.tmp 1)), none⟩
 (.take ⟨some 94, (.move (.tmp 10)), none⟩
 (.take ⟨some 95, (.indexAddr 30 (.tmp 93) (.tmp 94)), none⟩
 (.take ⟨some 96, (.fieldAddr 36 (.tmp 95) 1), none⟩
 (.load ⟨some 97, (.load 3 (.tmp 96)), none⟩ (.tmp 96)
 (.step ⟨some 98, (.call { callee := (.value (.func 15)), args := #[(.tmp 87), (.tmp 92), (.tmp 97)], argTypes := #[26, 3, 3] }), none⟩
 (.take ⟨some 86, (.move (.tmp 98)), none⟩
 (.take ⟨some 99, (.extract (.tmp 86) 0), none⟩
 (.take ⟨some 100, (.extract (.tmp 86) 1), none⟩
 (.take ⟨some 11, (.assign (.tmp 99)), none⟩
 (.takf ⟨some 12, (.assign (.tmp 100)), none⟩
 .done))))))))))))))))))
             (.seq (.seq (.reg [⟨some 101, (.move (.tmp 1)), none⟩,
                 ⟨some 102, (.move (.tmp 10)), none⟩,
                 ⟨some 103, (.indexAddr 30 (.tmp 101) (.tmp 102)), none⟩,
                 ⟨some 104, (.fieldAddr 36 (.tmp 103) 0), none⟩,
                 ⟨some 105, (.load 3 (.tmp 104)), none⟩,
                 ⟨some 106, (.move (.tmp 2)), none⟩,
                 ⟨some 107, (.binOp .neq 3 (.tmp 105) (.tmp 106) 3), none⟩])
               (.cond (.tmp 107)
                (.exit 3)
                .skip))
              (.seq (.reg [⟨some 109, (.move (.tmp 9)), none⟩,
                 ⟨some 110, (.move (.tmp 2)), none⟩,
                 ⟨some 111, (.move (.tmp 1)), none⟩,
                 ⟨some 112, (.move (.tmp 10)), none⟩,
                 ⟨some 113, (.indexAddr 30 (.tmp 111) (.tmp 112)), none⟩,
                 ⟨some 114, (.fieldAddr 36 (.tmp 113) 1), none⟩,
                 ⟨some 115, (.load 3 (.tmp 114)), none⟩,
                 ⟨some 116, (.call { callee := (.value (.func 15)), args := #[(.tmp 109), (.tmp 110), (.tmp 115)], argTypes := #[26, 3, 3] }), none⟩,
                 ⟨some 108, (.move (.tmp 116)), none⟩,
                 ⟨some 117, (.extract (.tmp 108) 0), none⟩,
                 ⟨some 118, (.extract (.tmp 108) 1), none⟩,
                 ⟨some 13, (.assign (.tmp 117)), none⟩,
                 ⟨some 14, (.assign (.tmp 118)), none⟩])
               (.seq (.reg [⟨some 120, (.move (.tmp 8)), none⟩,
                  ⟨some 121, (.move (.tmp 2)), none⟩,
                  ⟨some 122, (.call { callee := (.value (.func 17)), args := #[(.tmp 120), (.tmp 121)], argTypes := #[26, 3] }), none⟩,
                  ⟨some 119, (.move (.tmp 122)), none⟩,
                  ⟨some 123, (.extract (.tmp 119) 0), none⟩,
                  ⟨some 124, (.extract (.tmp 119) 1), none⟩,
                  ⟨some 15, (.assign (.tmp 123)), none⟩,
                  ⟨some 16, (.assign (.tmp 124)), none⟩])
                (.seq (.reg [⟨some 126, (.move (.tmp 9)), none⟩,
                   ⟨some 127, (.move (.tmp 2)), none⟩,
                   ⟨some 128, (.call { callee := (.value (.func 17)), args := #[(.tmp 126), (.tmp 127)], argTypes := #[26, 3] }), none⟩,
                   ⟨some 125, (.move (.tmp 128)), none⟩,
                   ⟨some 129, (.extract (.tmp 125) 0), none⟩,
                   ⟨some 130, (.extract (.tmp 125) 1), none⟩,
                   ⟨some 17, (.assign (.tmp 129)), none⟩,
                   ⟨some 18, (.assign (.tmp 130)), none⟩])
                 (.seq (.reg [⟨some 131, (.move (.tmp 11)), none⟩,
                    ⟨some 132, (.move (.tmp 13)), none⟩,
                    ⟨some 133, (.binOp .neq 3 (.tmp 131) (.tmp 132) 3), none⟩,
                    ⟨some 134, (.move (.tmp 133)), none⟩,
                    ⟨some 135, (.move (.tmp 12)), some (134, false)⟩,
                    ⟨some 136, (.move (.tmp 14)), some (134, false)⟩,
                    ⟨some 137, (.binOp .neq 24 (.tmp 135) (.tmp 136) 24), some (134, false)⟩,
                    ⟨some 138, (.pick (.tmp 134) (.const (.bool true)) (.tmp 137)), none⟩,
                    ⟨some 139, (.move (.tmp 138)), none⟩,
                    ⟨some 140, (.move (.tmp 15)), some (139, false)⟩,
                    ⟨some 141, (.move (.tmp 17)), some (139, false)⟩,
                    ⟨some 142, (.binOp .neq 3 (.tmp 140) (.tmp 141) 3), some (139, false)⟩,
                    ⟨some 143, (.pick (.tmp 139) (.const (.bool true)) (.tmp 142)), none⟩,
                    ⟨some 144, (.move (.tmp 143)), none⟩,
                    ⟨some 145, (.move (.tmp 16)), some (144, false)⟩,
                    ⟨some 146, (.move (.tmp 18)), some (144, false)⟩,
                    ⟨some 147, (.binOp .neq 4 (.tmp 145) (.tmp 146) 4), some (144, false)⟩,
                    ⟨some 148, (.pick (.tmp 144) (.const (.bool true)) (.tmp 147)), none⟩])
                  (.cond (.tmp 148)
                   (.seq (.reg [⟨some 6, (.assign (.const (.bool false))), none⟩])
                    .ret)
                   .skip))))))))
           (.reg [⟨some 84, (.move (.tmp 10)), none⟩,
             ⟨some 85, (.binOp .add 3 (.tmp 84) (.const (.int .i64 1)) 3), none⟩,
             ⟨some 10, (.assign (.tmp 85)), none⟩]))))))
      (.seq (.reg [⟨some 149, (.call { callee := (.value (.func 13)), args := #[], argTypes := #[] }), none⟩,
         ⟨some 6, (.assign (.tmp 149)), none⟩])
       .ret)))))))
theorem k7 : FOK Try.prog 7 150 c7 [6] := ⟨⟨[12, 14, 15, 16, 17], Try.f7, _, by kernel_rfl, by kernel_rfl, rfl, by kernel_rfl, rfl, by kernel_rfl, by decide⟩⟩

/-- timesync.timesynclaw28.LimiterKisses -/
def c8 : SC :=
  (.seq (.reg [⟨some 3, (.box 23 (.tmp 0)), none⟩,
   ⟨some 6, (.assign (.const (.bool false))), none⟩])
 (.seq (.reg [⟨some 14, (.load 23 (.tmp 3)), none⟩,
    ⟨some 15, (.call { callee := (.value (.func 12)), args := #[(.tmp 14)], argTypes := #[23] }), none⟩,
    ⟨some 7, (.assign (.tmp 15)), none⟩])
  (.seq (.seq (.reg [⟨some 16, (.move (.tmp 7)), none⟩,
      ⟨some 17, (.binOp .eql 26 (.tmp 16) (.const (.pointer none)) 26), none⟩,
      ⟨some 18, (.move (.tmp 17)), none⟩,
      ⟨some 19, (.move (.tmp 2)), some (18, false)⟩,
      ⟨some 20, (.call { callee := (.builtin .len), args := #[(.tmp 19)], argTypes := #[40] }), some (18, false)⟩,
      ⟨some 21, (.binOp .gtr 3 (.tmp 20) (.const (.int .i64 100)) 3), some (18, false)⟩,
      ⟨some 22, (.pick (.tmp 18) (.const (.bool true)) (.tmp 21)), none⟩])
    (.cond (.tmp 22)
     (.seq (.reg [⟨some 23, (.call { callee := (.value (.func 13)), args := #[], argTypes := #[] }), none⟩,
        ⟨some 6, (.assign (.tmp 23)), none⟩])
      .ret)
     .skip))
   (.seq (.reg [⟨some 8, (.assign (.const (.bool false))), none⟩])
    (.seq (.reg [⟨some 9, (.assign (.const (.int .i64 0))), none⟩])
     (.seq (.seq (.reg [⟨some 10, (.assign (.const (.int .i64 0))), none⟩])
       (.block 0
        (.loop
         (.seq (.seq (.reg [⟨some 24, (.move (.tmp 10)), none⟩,
             ⟨some 25, (.move (.tmp 2)), none⟩,
             ⟨some 26, (.call { callee := (.builtin .len), args := #[(.tmp 25)], argTypes := #[40] }), none⟩,
             ⟨some 27, (.binOp .lss 3 (.tmp 24) (.tmp 26) 3), none⟩])
           (.cond (.tmp 27)
            .skip
            (.exit 0)))
          (.seq (.block 1
            (.seq (.reg [⟨some 31, (.move (.tmp 7)), none⟩,
               ⟨some 32, (.move (.tmp 1)), none⟩,
               ⟨some 33, (.move (.tmp 2)), none⟩,
               ⟨some 34, (.move (.tmp 10)), none⟩,
               ⟨some 35, (.indexAddr 40 (.tmp 33) (.tmp 34)), none⟩,
               ⟨some 36, (.load 3 (.tmp 35)), none⟩,
               ⟨some 37, (.call { callee := (.value (.func 15)), args := #[(.tmp 31), (.tmp 32), (.tmp 36)], argTypes := #[26, 3, 3] }), none⟩,
               ⟨some 30, (.move (.tmp 37)), none⟩,
               ⟨some 38, (.extract (.tmp 30) 0), none⟩,
               ⟨some 39, (.extract (.tmp 30) 1), none⟩,
               ⟨some 11, (.assign (.tmp 38)), none⟩,
               ⟨some 12, (.assign (.tmp 39)), none⟩])
             (.seq (.seq (.reg [⟨some 40, (.move (.tmp 12)), none⟩,
                 ⟨some 41, (.binOp .neq 24 (.tmp 40) (.const (.int .i64 0)) 24), none⟩])
               (.cond (.tmp 41)
                (.seq (.seq (.reg [⟨some 42, (.move (.tmp 11)), none⟩,
                    ⟨some 43, (.binOp .neq 3 (.tmp 42) (.const (.int .i64 0)) 3), none⟩])
                  (.cond (.tmp 43)
                   (.seq (.reg [⟨some 6, (.assign (.const (.bool false))), none⟩])
                    .ret)
                   .skip))
                 (.exit 1))
                .skip))
              (.seq (.regq [⟨some 44, (.move (.tmp 8)), none⟩,
                 ⟨some 45, (.unOp .not 4 (.tmp 44)), none⟩,
                 ⟨some 46, (.move (.tmp 45)), none⟩,
                 ⟨some 47, (.move (.tmp 2)), some (46, false)⟩,
                 ⟨some 48, (.move (.tmp 10)), some (46, false)⟩,
                 ⟨some 49, (.indexAddr 40 (.tmp 47) (.tmp 48)), some (46, false)⟩,
                 ⟨some 50, (.load 3 (.tmp 49)), some (46, false)⟩,
                 ⟨some 51, (.move (.tmp 9)), some (46, false)⟩,
                 ⟨some 52, (.binOp .sub 3 (.tmp 50) (.tmp 51) 3), some (46, false)⟩,
                 ⟨some 53, (.fieldAddr 23 (.tmp 3) 4), some (46, false)⟩,
                 ⟨some 54, (.load 3 (.tmp 53)), some (46, false)⟩,
                 ⟨some 55, (.binOp .geq 3 (.tmp 52) (.tmp 54) 3), some (46, false)⟩,
                 ⟨some 56, (.pick (.tmp 46) (.const (.bool true)) (.tmp 55)), none⟩,
                 ⟨some 13, (.assign (.tmp 56)), none⟩])
               (.seq (.seq (.reg [⟨some 57, (.move (.tmp 11)), none⟩,
                   ⟨some 58, (.binOp .lss 3 (.tmp 57) (.const (.int .i64 0)) 3), none⟩,
                   ⟨some 59, (.move (.tmp 58)), none⟩,
                   ⟨some 60, (.move (.tmp 11)), some (59, false)⟩,
                   ⟨some 61, (.binOp .gtr 3 (.tmp 60) (.const (.int .i64 2)) 3), some (59, false)⟩,
                   ⟨some 62, (.pick (.tmp 59) (.const (.bool true)) (.tmp 61)), none⟩,
                   ⟨some 63, (.move (.tmp 62)), none⟩,
                   ⟨some 64, (.move (.tmp 11)), some (63, false)⟩,
                   ⟨some 65, (.binOp .eql 3 (.tmp 64) (.const (.int .i64 1)) 3), some (63, false)⟩,
                   ⟨some 66, (.move (.tmp 65)), some (63, false)⟩,
                   ⟨some 67, (.move (.tmp 13)), some (66, true)⟩,
                   ⟨some 68, (.pick (.tmp 66) (.tmp 67) (.const (.bool false))), some (63, false)⟩,
                   ⟨some 69, (.pick (.tmp 63) (.const (.bool true)) (.tmp 68)), none⟩,
                   ⟨some 70, (.move (.tmp 69)), none⟩,
                   ⟨some 71, (.move (.tmp 11)), some (70, false)⟩,
                   ⟨some 72, (.binOp .eql 3 (.tmp 71) (.const (.int .i64 2)) 3), some (70, false)⟩,
                   ⟨some 73, (.move (.tmp 72)), some (70, false)⟩,
                   ⟨some 74, (.move (.tmp 13)), some (73, true)⟩,
                   ⟨some 75, (.unOp .not 4 (.tmp 74)), some (73, true)⟩,
                   ⟨some 76, (.pick (.tmp 73) (.tmp 75) (.const (.bool false))), some (70, false)⟩,
                   ⟨some 77, (.pick (.tmp 70) (.const (.bool true)) (.tmp 76)), none⟩])
                 (.cond (.tmp 77)
                  (.seq (.reg [⟨some 6, (.assign (.const (.bool false))), none⟩])
                   .ret)
                  .skip))
                (.seq (.reg [⟨some 78, (.move (.tmp 11)), none⟩,
                   ⟨some 79, (.binOp .eql 3 (.tmp 78) (.const (.int .i64 2)) 3), none⟩])
                 (.cond (.tmp 79)
                  (.seq (.reg [⟨some 8, (.assign (.const (.bool true))), none⟩])
                   (.reg [⟨some 80, (.move (.tmp 2)), none⟩,
                     ⟨some 81, (.move (.tmp 10)), none⟩,
                     ⟨some 82, (.indexAddr 40 (.tmp 80) (.tmp 81)), none⟩,
                     ⟨some 83, (.load 3 (.tmp 82)), none⟩,
                     ⟨some 9, (.assign (.tmp 83)), none⟩]))
                  .skip)))))))
           (.reg [⟨some 28, (.move (.tmp 10)), none⟩,
             ⟨some 29, (.binOp .add 3 (.tmp 28) (.const (.int .i64 1)) 3), none⟩,
             ⟨some 10, (.assign (.tmp 29)), none⟩]))))))
      (.seq (.reg [⟨some 84, (.call { callee := (.value (.func 13)), args := #[], argTypes := #[] }), none⟩,
         ⟨some 6, (.assign (.tmp 84)), none⟩])
       .ret)))))))
theorem k8 : FOK Try.prog 8 85 c8 [6] := ⟨⟨[12, 14, 15, 16, 17], Try.f8, _, by kernel_rfl, by kernel_rfl, rfl, by kernel_rfl, rfl, by kernel_rfl, by decide⟩⟩

/-- timesync.timesynclaw28.LimiterNobody -/
def c9 : SC :=
  (.seq (.reg [⟨some 4, (.assign (.const (.bool false))), none⟩])
 (.seq (.reg [⟨some 5, (.assign (.const (.pointer none))), none⟩])
  (.seq (.reg [⟨some 11, (.move (.tmp 5)), none⟩,
     ⟨some 12, (.move (.tmp 0)), none⟩,
     ⟨some 13, (.move (.tmp 1)), none⟩,
     ⟨some 14, (.call { callee := (.value (.func 15)), args := #[(.tmp 11), (.tmp 12), (.tmp 13)], argTypes := #[26, 3, 3] }), none⟩,
     ⟨some 10, (.move (.tmp 14)), none⟩,
     ⟨some 15, (.extract (.tmp 10) 0), none⟩,
     ⟨some 16, (.extract (.tmp 10) 1), none⟩,
     ⟨some 6, (.assign (.tmp 15)), none⟩,
     ⟨some 7, (.assign (.tmp 16)), none⟩])
   (.seq (.reg [⟨some 18, (.move (.tmp 5)), none⟩,
      ⟨some 19, (.move (.tmp 0)), none⟩,
      ⟨some 20, (.call { callee := (.value (.func 17)), args := #[(.tmp 18), (.tmp 19)], argTypes := #[26, 3] }), none⟩,
      ⟨some 17, (.move (.tmp 20)), none⟩,
      ⟨some 21, (.extract (.tmp 17) 0), none⟩,
      ⟨some 22, (.extract (.tmp 17) 1), none⟩,
      ⟨some 8, (.assign (.tmp 21)), none⟩,
      ⟨some 9, (.assign (.tmp 22)), none⟩])
    (.seq (.reg [⟨some 23, (.move (.tmp 6)), none⟩,
       ⟨some 24, (.binOp .eql 3 (.tmp 23) (.const (.int .i64 0)) 3), none⟩,
       ⟨some 25, (.move (.tmp 24)), none⟩,
       ⟨some 26, (.move (.tmp 7)), some (25, true)⟩,
       ⟨some 27, (.binOp .eql 24 (.tmp 26) (.const (.int .i64 1)) 24), some (25, true)⟩,
       ⟨some 28, (.pick (.tmp 25) (.tmp 27) (.const (.bool false))), none⟩,
       ⟨some 29, (.move (.tmp 28)), none⟩,
       ⟨some 30, (.move (.tmp 8)), some (29, true)⟩,
       ⟨some 31, (.binOp .eql 3 (.tmp 30) (.const (.int .i64 0)) 3), some (29, true)⟩,
       ⟨some 32, (.pick (.tmp 29) (.tmp 31) (.const (.bool false))), none⟩,
       ⟨some 33, (.move (.tmp 32)), none⟩,
       ⟨some 34, (.move (.tmp 9)), some (33, true)⟩,
       ⟨some 35, (.unOp .not 4 (.tmp 34)), some (33, true)⟩,
       ⟨some 36, (.pick (.tmp 33) (.tmp 35) (.const (.bool false))), none⟩,
       ⟨some 37, (.move (.tmp 36)), none⟩,
       ⟨some 38, (.move (.tmp 5)), some (37, true)⟩,
       ⟨some 39, (.call { callee := (.value (.func 20)), args := #[(.tmp 38)], argTypes := #[26] }), some (37, true)⟩,
       ⟨some 40, (.call { callee := (.builtin .len), args := #[(.tmp 39)], argTypes := #[40] }), some (37, true)⟩,
       ⟨some 41, (.binOp .eql 3 (.tmp 40) (.const (.int .i64 0)) 3), some (37, true)⟩,
       ⟨some 42, (.pick (.tmp 37) (.tmp 41) (.const (.bool false))), none⟩,
       ⟨some 43, (.move (.tmp 42)), none⟩,
       ⟨some 44, (.call { callee := (.value (.func 13)), args := #[], argTypes := #[] }), some (43, true)⟩,
       ⟨some 45, (.pick (.tmp 43) (.tmp 44) (.const (.bool false))), none⟩,
       ⟨some 4, (.assign (.tmp 45)), none⟩])
     .ret)))))
theorem k9 : FOK Try.prog 9 46 c9 [4] := ⟨⟨[12, 14, 15, 16, 17], Try.f9, _, by kernel_rfl, by kernel_rfl, rfl, by kernel_rfl, rfl, by kernel_rfl, by decide⟩⟩

/-- timesync.limiter.Check -/
def c10 : SC :=
  (.seq (.reg [⟨some 1, (.box 23 (.tmp 0)), none⟩,
   ⟨some 2, (.assign (.const (.int .i64 0))), none⟩])
 (.seq (.seq (.reg [⟨some 3, (.fieldAddr 23 (.tmp 1) 0), none⟩,
     ⟨some 4, (.load 3 (.tmp 3)), none⟩,
     ⟨some 5, (.call { callee := (.value (.func 22)), args := #[(.tmp 4), (.const (.int .i64 1)), (.const (.int .i64 64))], argTypes := #[3, 3, 3] }), none⟩,
     ⟨some 6, (.unOp .not 4 (.tmp 5)), none⟩,
     ⟨some 7, (.move (.tmp 6)), none⟩,
     ⟨some 8, (.fieldAddr 23 (.tmp 1) 1), some (7, false)⟩,
     ⟨some 9, (.load 3 (.tmp 8)), some (7, false)⟩,
     ⟨some 10, (.call { callee := (.value (.func 22)), args := #[(.tmp 9), (.const (.int .i64 0)), (.const (.int .i64 1000000000000))], argTypes := #[3, 3, 3] }), some (7, false)⟩,
     ⟨some 11, (.unOp .not 4 (.tmp 10)), some (7, false)⟩,
     ⟨some 12, (.pick (.tmp 7) (.const (.bool true)) (.tmp 11)), none⟩,
     ⟨some 13, (.move (.tmp 12)), none⟩,
     ⟨some 14, (.fieldAddr 23 (.tmp 1) 2), some (13, false)⟩,
     ⟨some 15, (.load 3 (.tmp 14)), some (13, false)⟩,
     ⟨some 16, (.call { callee := (.value (.func 22)), args := #[(.tmp 15), (.const (.int .i64 1)), (.const (.int .i64 1000000000000))], argTypes := #[3, 3, 3] }), some (13, false)⟩,
     ⟨some 17, (.unOp .not 4 (.tmp 16)), some (13, false)⟩,
     ⟨some 18, (.pick (.tmp 13) (.const (.bool true)) (.tmp 17)), none⟩,
     ⟨some 19, (.move (.tmp 18)), none⟩,
     ⟨some 20, (.fieldAddr 23 (.tmp 1) 3), some (19, false)⟩,
     ⟨some 21, (.load 3 (.tmp 20)), some (19, false)⟩,
     ⟨some 22, (.fieldAddr 23 (.tmp 1) 2), some (19, false)⟩,
     ⟨some 23, (.load 3 (.tmp 22)), some (19, false)⟩,
     ⟨some 24, (.call { callee := (.value (.func 22)), args := #[(.tmp 21), (.tmp 23), (.const (.int .i64 10000000000000))], argTypes := #[3, 3, 3] }), some (19, false)⟩,
     ⟨some 25, (.unOp .not 4 (.tmp 24)), some (19, false)⟩,
     ⟨some 26, (.pick (.tmp 19) (.const (.bool true)) (.tmp 25)), none⟩,
     ⟨some 27, (.move (.tmp 26)), none⟩,
     ⟨some 28, (.fieldAddr 23 (.tmp 1) 4), some (27, false)⟩,
     ⟨some 29, (.load 3 (.tmp 28)), some (27, false)⟩,
     ⟨some 30, (.call { callee := (.value (.func 22)), args := #[(.tmp 29), (.const (.int .i64 0)), (.const (.int .i64 1000000000000))], argTypes := #[3, 3, 3] }), some (27, false)⟩,
     ⟨some 31, (.unOp .not 4 (.tmp 30)), some (27, false)⟩,
     ⟨some 32, (.pick (.tmp 27) (.const (.bool true)) (.tmp 31)), none⟩])
   (.cond (.tmp 32)
    (.seq (.reg [⟨some 2, (.assign (.const (.int .i64 3))), none⟩])
     .ret)
    .skip))
  (.seq (.reg [⟨some 2, (.assign (.const (.int .i64 0))), none⟩])
   .ret)))
theorem k10 : FOK Try.prog 10 33 c10 [2] := ⟨⟨[12, 14, 15, 16, 17], Try.f10, _, by kernel_rfl, by kernel_rfl, rfl, by kernel_rfl, rfl, by kernel_rfl, by decide⟩⟩

/-- timesync.timesyncref28.Check -/
def c11 : SC :=
  (.seq (.reg [⟨some 1, (.box 23 (.tmp 0)), none⟩,
   ⟨some 2, (.assign (.const (.int .i64 0))), none⟩])
 (.seq (.seq (.reg [⟨some 3, (.fieldAddr 23 (.tmp 1) 0), none⟩,
     ⟨some 4, (.load 3 (.tmp 3)), none⟩,
     ⟨some 5, (.binOp .lss 3 (.tmp 4) (.const (.int .i64 1)) 3), none⟩,
     ⟨some 6, (.move (.tmp 5)), none⟩,
     ⟨some 7, (.fieldAddr 23 (.tmp 1) 0), some (6, false)⟩,
     ⟨some 8, (.load 3 (.tmp 7)), some (6, false)⟩,
     ⟨some 9, (.binOp .gtr 3 (.tmp 8) (.const (.int .i64 64)) 3), some (6, false)⟩,
     ⟨some 10, (.pick (.tmp 6) (.const (.bool true)) (.tmp 9)), none⟩,
     ⟨some 11, (.move (.tmp 10)), none⟩,
     ⟨some 12, (.fieldAddr 23 (.tmp 1) 1), some (11, false)⟩,
     ⟨some 13, (.load 3 (.tmp 12)), some (11, false)⟩,
     ⟨some 14, (.binOp .lss 3 (.tmp 13) (.const (.int .i64 0)) 3), some (11, false)⟩,
     ⟨some 15, (.pick (.tmp 11) (.const (.bool true)) (.tmp 14)), none⟩,
     ⟨some 16, (.move (.tmp 15)), none⟩,
     ⟨some 17, (.fieldAddr 23 (.tmp 1) 1), some (16, false)⟩,
     ⟨some 18, (.load 3 (.tmp 17)), some (16, false)⟩,
     ⟨some 19, (.binOp .gtr 3 (.tmp 18) (.const (.int .i64 1000000000000)) 3), some (16, false)⟩,
     ⟨some 20, (.pick (.tmp 16) (.const (.bool true)) (.tmp 19)), none⟩,
     ⟨some 21, (.move (.tmp 20)), none⟩,
     ⟨some 22, (.fieldAddr 23 (.tmp 1) 2), some (21, false)⟩,
     ⟨some 23, (.load 3 (.tmp 22)), some (21, false)⟩,
     ⟨some 24, (.binOp .lss 3 (.tmp 23) (.const (.int .i64 1)) 3), some (21, false)⟩,
     ⟨some 25, (.pick (.tmp 21) (.const (.bool true)) (.tmp 24)), none⟩,
     ⟨some 26, (.move (.tmp 25)), none⟩,
     ⟨some 27, (.fieldAddr 23 (.tmp 1) 2), some (26, false)⟩,
     ⟨some 28, (.load 3 (.tmp 27)), some (26, false)⟩,
     ⟨some 29, (.binOp .gtr 3 (.tmp 28) (.const (.int .i64 1000000000000)) 3), some (26, false)⟩,
     ⟨some 30, (.pick (.tmp 26) (.const (.bool true)) (.tmp 29)), none⟩,
     ⟨some 31, (.move (.tmp 30)), none⟩,
     ⟨some 32, (.fieldAddr 23 (.tmp 1) 3), some (31, false)⟩,
     ⟨some 33, (.load 3 (.tmp 32)), some (31, false)⟩,
     ⟨some 34, (.fieldAddr 23 (.tmp 1) 2), some (31, false)⟩,
     ⟨some 35, (.load 3 (.tmp 34)), some (31, false)⟩,
     ⟨some 36, (.binOp .lss 3 (.tmp 33) (.tmp 35) 3), some (31, false)⟩,
     ⟨some 37, (.pick (.tmp 31) (.const (.bool true)) (.tmp 36)), none⟩,
     ⟨some 38, (.move (.tmp 37)), none⟩,
     ⟨some 39, (.fieldAddr 23 (.tmp 1) 3), some (38, false)⟩,
     ⟨some 40, (.load 3 (.tmp 39)), some (38, false)⟩,
     ⟨some 41, (.binOp .gtr 3 (.tmp 40) (.const (.int .i64 10000000000000)) 3), some (38, false)⟩,
     ⟨some 42, (.pick (.tmp 38) (.const (.bool true)) (.tmp 41)), none⟩,
     ⟨some 43, (.move (.tmp 42)), none⟩,
     ⟨some 44, (.fieldAddr 23 (.tmp 1) 4), some (43, false)⟩,
     ⟨some 45, (.load 3 (.tmp 44)), some (43, false)⟩,
     ⟨some 46, (.binOp .lss 3 (.tmp 45) (.const (.int .i64 0)) 3), some (43, false)⟩,
     ⟨some 47, (.pick (.tmp 43) (.const (.bool true)) (.tmp 46)), none⟩,
     ⟨some 48, (.move (.tmp 47)), none⟩,
     ⟨some 49, (.fieldAddr 23 (.tmp 1) 4), some (48, false)⟩,
     ⟨some 50, (.load 3 (.tmp 49)), some (48, false)⟩,
     ⟨some 51, (.binOp .gtr 3 (.tmp 50) (.const (.int .i64 1000000000000)) 3), some (48, false)⟩,
     ⟨some 52, (.pick (.tmp 48) (.const (.bool true)) (.tmp 51)), none⟩])
   (.cond (.tmp 52)
    (.seq (.reg [⟨some 2, (.assign (.const (.int .i64 3))), none⟩])
     .ret)
    .skip))
  (.seq (.reg [⟨some 2, (.assign (.const (.int .i64 0))), none⟩])
   .ret)))
theorem k11 : FOK Try.prog 11 53 c11 [2] := ⟨⟨[12, 14, 15, 16, 17], Try.f11, _, by kernel_rfl, by kernel_rfl, rfl, by kernel_rfl, rfl, by kernel_rfl, by decide⟩⟩

/-- timesync.limiter.New -/
def c12 : SC :=
  (.seq (.reg [⟨some 1, (.box 23 (.tmp 0)), none⟩,
   ⟨some 2, (.assign (.const (.pointer none))), none⟩])
 (.seq (.seq (.reg [⟨some 3, (.load 23 (.tmp 1)), none⟩,
     ⟨some 4, (.call { callee := (.value (.func 10)), args := #[(.tmp 3)], argTypes := #[23] }), none⟩,
     ⟨some 5, (.binOp .neq 24 (.tmp 4) (.const (.int .i64 0)) 24), none⟩])
   (.cond (.tmp 5)
    (.seq (.reg [⟨some 2, (.assign (.const (.pointer none))), none⟩])
     .ret)
    .skip))
  (.seq (.reg [⟨some 6, (.load 23 (.tmp 1)), none⟩,
     ⟨some 7, (.makeMap 47 none), none⟩,
     ⟨some 8, (.build 49 #[(0, (.tmp 6)), (2, (.tmp 7))]), none⟩,
     ⟨some 9, (.box 49 (.tmp 8)), none⟩,
     ⟨some 2, (.assign (.tmp 9)), none⟩])
   .ret)))
theorem k12 : FOK Try.prog 12 10 c12 [2] := ⟨⟨[12, 14, 15, 16, 17], Try.f12, _, by kernel_rfl, by kernel_rfl, rfl, by kernel_rfl, rfl, by kernel_rfl, by decide⟩⟩

/-- timesync.timesynclaw28.awake -/
def c13 : SC :=
  (.seq (.reg [⟨some 0, (.assign (.const (.bool false))), none⟩])
 (.seq (.reg [⟨some 20, (.build 23 #[(0, (.const (.int .i64 2))), (1, (.const (.int .i64 10))), (2, (.const (.int .i64 100))), (3, (.const (.int .i64 250))), (4, (.const (.int .i64 1000)))]), none⟩,
    ⟨some 21, (.call { callee := (.value (.func 12)), args := #[(.tmp 20)], argTypes := #[23] }), none⟩,
    ⟨some 1, (.assign (.tmp 21)), none⟩])
  (.seq (.seq (.reg [⟨some 22, (.move (.tmp 1)), none⟩,
      ⟨some 23, (.binOp .eql 26 (.tmp 22) (.const (.pointer none)) 26), none⟩,
      ⟨some 24, (.move (.tmp 23)), none⟩,
      ⟨some 25, (.build 23 #[]), some (24, false)⟩,
      ⟨some 26, (.call { callee := (.value (.func 12)), args := #[(.tmp 25)], argTypes := #[23] }), some (24, false)⟩,
      ⟨some 27, (.binOp .neq 26 (.tmp 26) (.const (.pointer none)) 26), some (24, false)⟩,
      ⟨some 28, (.pick (.tmp 24) (.const (.bool true)) (.tmp 27)), none⟩])
    (.cond (.tmp 28)
     (.seq (.reg [⟨some 0, (.assign (.const (.bool false))), none⟩])
      .ret)
     .skip))
   (.seq (.reg [⟨some 29, (.buildSlice 40 6 #[(0, (.const (.int .i64 0))), (1, (.const (.int .i64 50))), (2, (.const (.int .i64 90))), (3, (.const (.int .i64 95))), (4, (.const (.int .i64 110))), (5, (.const (.int .i64 150)))]), none⟩,
      ⟨some 2, (.assign (.tmp 29)), none⟩])
    (.seq (.reg [⟨some 30, (.buildSlice 40 6 #[(0, (.const (.int .i64 0))), (1, (.const (.int .i64 0))), (2, (.const (.int .i64 0))), (3, (.const (.int .i64 2))), (4, (.const (.int .i64 1))), (5, (.const (.int .i64 0)))]), none⟩,
       ⟨some 3, (.assign (.tmp 30)), none⟩])
     (.seq (.reg [⟨some 31, (.buildSlice 40 6 #[(0, (.const (.int .i64 100))), (1, (.const (.int .i64 150))), (2, (.const (.int .i64 210))), (3, (.const (.int .i64 205))), (4, (.const (.int .i64 190))), (5, (.const (.int .i64 250)))]), none⟩,
        ⟨some 4, (.assign (.tmp 31)), none⟩])
      (.seq (.seq (.reg [⟨some 5, (.assign (.const (.int .i64 0))), none⟩])
        (.block 0
         (.loop
          (.seq (.seq (.reg [⟨some 32, (.move (.tmp 5)), none⟩,
              ⟨some 33, (.move (.tmp 2)), none⟩,
              ⟨some 34, (.call { callee := (.builtin .len), args := #[(.tmp 33)], argTypes := #[40] }), none⟩,
              ⟨some 35, (.binOp .lss 3 (.tmp 32) (.tmp 34) 3), none⟩])
            (.cond (.tmp 35)
             .skip
             (.exit 0)))
           (.seq (.block 1
             (.seq (.reg [⟨some 39, (.move (.tmp 1)), none⟩,
                ⟨some 40, (.move (.tmp 2)), none⟩,
                ⟨some 41, (.move (.tmp 5)), none⟩,
                ⟨some 42, (.indexAddr 40 (.tmp 40) (.tmp 41)), none⟩,
                ⟨some 43, (.load 3 (.tmp 42)), none⟩,
                ⟨some 44, (.call { callee := (.value (.func 15)), args := #[(.tmp 39), (.const (.int .i64 7)), (.tmp 43)], argTypes := #[26, 3, 3] }), none⟩,
                ⟨some 38, (.move (.tmp 44)), none⟩,
                ⟨some 45, (.extract (.tmp 38) 0), none⟩,
                ⟨some 46, (.extract (.tmp 38) 1), none⟩,
                ⟨some 6, (.assign (.tmp 45)), none⟩,
                ⟨some 7, (.assign (.tmp 46)), none⟩])
              (.seq (.reg [⟨some 48, (.move (.tmp 1)), none⟩,
                 ⟨some 49, (.call { callee := (.value (.func 17)), args := #[(.tmp 48), (.const (.int .i64 7))], argTypes := #[26, 3] }), none⟩,
                 ⟨some 47, (.move (.tmp 49)), none⟩,
                 ⟨some 50, (.extract (.tmp 47) 0), none⟩,
                 ⟨some 51, (.extract (.tmp 47) 1), none⟩,
                 ⟨some 8, (.assign (.tmp 50)), none⟩,
                 ⟨some 9, (.assign (.tmp 51)), none⟩])
               (.seq (.reg [⟨some 52, (.move (.tmp 6)), none⟩,
                  ⟨some 53, (.move (.tmp 3)), none⟩,
                  ⟨some 54, (.move (.tmp 5)), none⟩,
                  ⟨some 55, (.indexAddr 40 (.tmp 53) (.tmp 54)), none⟩,
                  ⟨some 56, (.load 3 (.tmp 55)), none⟩,
                  ⟨some 57, (.binOp .neq 3 (.tmp 52) (.tmp 56) 3), none⟩,
                  ⟨some 58, (.move (.tmp 57)), none⟩,
                  ⟨some 59, (.move (.tmp 7)), some (58, false)⟩,
                  ⟨some 60, (.binOp .neq 24 (.tmp 59) (.const (.int .i64 0)) 24), some (58, false)⟩,
                  ⟨some 61, (.pick (.tmp 58) (.const (.bool true)) (.tmp 60)), none⟩,
                  ⟨some 62, (.move (.tmp 61)), none⟩,
                  ⟨some 63, (.move (.tmp 8)), some (62, false)⟩,
                  ⟨some 64, (.move (.tmp 4)), some (62, false)⟩,
                  ⟨some 65, (.move (.tmp 5)), some (62, false)⟩,
                  ⟨some 66, (.indexAddr 40 (.tmp 64) (.tmp 65)), some (62, false)⟩,
                  ⟨some 67, (.load 3 (.tmp 66)), some (62, false)⟩,
                  ⟨some 68, (.binOp .neq 3 (.tmp 63) (.tmp 67) 3), some (62, false)⟩,
                  ⟨some 69, (.pick (.tmp 62) (.const (.bool true)) (.tmp 68)), none⟩,
                  ⟨some 70, (.move (.tmp 69)), none⟩,
                  ⟨some 71, (.move (.tmp 9)), some (70, false)⟩,
                  ⟨some 72, (.unOp .not 4 (.tmp 71)), some (70, false)⟩,
                  ⟨some 73, (.pick (.tmp 70) (.const (.bool true)) (.tmp 72)), none⟩])
                (.cond (.tmp 73)
                 (.seq (.reg [⟨some 0, (.assign (.const (.bool false))), none⟩])
                  .ret)
                 .skip)))))
            (.reg [⟨some 36, (.move (.tmp 5)), none⟩,
              ⟨some 37, (.binOp .add 3 (.tmp 36) (.const (.int .i64 1)) 3), none⟩,
              ⟨some 5, (.assign (.tmp 37)), none⟩]))))))
       (.seq (.reg [⟨some 75, (.move (.tmp 1)), none⟩,
          ⟨some 76, (.call { callee := (.value (.func 15)), args := #[(.tmp 75), (.const (.int .i64 3)), (.const (.int .i64 150))], argTypes := #[26, 3, 3] }), none⟩,
          ⟨some 74, (.move (.tmp 76)), none⟩,
          ⟨some 77, (.extract (.tmp 74) 0), none⟩,
          ⟨some 78, (.extract (.tmp 74) 1), none⟩,
          ⟨some 10, (.assign (.tmp 77)), none⟩,
          ⟨some 11, (.assign (.tmp 78)), none⟩])
        (.seq (.reg [⟨some 79, (.move (.tmp 1)), none⟩,
           ⟨some 80, (.call { callee := (.value (.func 20)), args := #[(.tmp 79)], argTypes := #[26] }), none⟩,
           ⟨some 12, (.assign (.tmp 80)), none⟩])
         (.seq (.reg [⟨some 82, (.move (.tmp 1)), none⟩,
            ⟨some 83, (.call { callee := (.value (.func 15)), args := #[(.tmp 82), (.const (.int .i64 5)), (.const (.int .i64 150))], argTypes := #[26, 3, 3] }), none⟩,
            ⟨some 81, (.move (.tmp 83)), none⟩,
            ⟨some 84, (.extract (.tmp 81) 0), none⟩,
            ⟨some 85, (.extract (.tmp 81) 1), none⟩,
            ⟨some 13, (.assign (.tmp 84)), none⟩,
            ⟨some 14, (.assign (.tmp 85)), none⟩])
          (.seq (.reg [⟨some 86, (.move (.tmp 1)), none⟩,
             ⟨some 87, (.call { callee := (.value (.func 20)), args := #[(.tmp 86)], argTypes := #[26] }), none⟩,
             ⟨some 15, (.assign (.tmp 87)), none⟩])
           (.seq (.reg [⟨some 89, (.move (.tmp 1)), none⟩,
              ⟨some 90, (.call { callee := (.value (.func 15)), args := #[(.tmp 89), (.const (.int .i64 5)), (.const (.int .i64 149))], argTypes := #[26, 3, 3] }), none⟩,
              ⟨some 88, (.move (.tmp 90)), none⟩,
              ⟨some 91, (.extract (.tmp 88) 0), none⟩,
              ⟨some 92, (.extract (.tmp 88) 1), none⟩,
              ⟨some 16, (.assign (.tmp 91)), none⟩,
              ⟨some 17, (.assign (.tmp 92)), none⟩])
            (.seq (.reg [⟨some 94, (.move (.tmp 1)), none⟩,
               ⟨some 95, (.call { callee := (.value (.func 15)), args := #[(.tmp 94), (.const (.int .i64 (-1))), (.const (.int .i64 150))], argTypes := #[26, 3, 3] }), none⟩,
               ⟨some 93, (.move (.tmp 95)), none⟩,
               ⟨some 96, (.extract (.tmp 93) 0), none⟩,
               ⟨some 97, (.extract (.tmp 93) 1), none⟩,
               ⟨some 18, (.assign (.tmp 96)), none⟩,
               ⟨some 19, (.assign (.tmp 97)), none⟩])
             (.seq (.reg [⟨some 98, (.move (.tmp 10)), none⟩,
                ⟨some 99, (.binOp .eql 3 (.tmp 98) (.const (.int .i64 0)) 3), none⟩,
                ⟨some 100, (.move (.tmp 99)), none⟩,
                ⟨some 101, (.move (.tmp 11)), some (100, true)⟩,
                ⟨some 102, (.binOp .eql 24 (.tmp 101) (.const (.int .i64 0)) 24), some (100, true)⟩,
                ⟨some 103, (.pick (.tmp 100) (.tmp 102) (.const (.bool false))), none⟩,
                ⟨some 104, (.move (.tmp 103)), none⟩,
                ⟨some 105, (.move (.tmp 12)), some (104, true)⟩,
                ⟨some 106, (.buildSlice 40 2 #[(0, (.const (.int .i64 3))), (1, (.const (.int .i64 7)))]), some (104, true)⟩,
                ⟨some 107, (.call { callee := (.value (.func 19)), args := #[(.tmp 105), (.tmp 106)], argTypes := #[40, 40] }), some (104, true)⟩,
                ⟨some 108, (.pick (.tmp 104) (.tmp 107) (.const (.bool false))), none⟩,
                ⟨some 109, (.move (.tmp 108)), none⟩,
                ⟨some 110, (.move (.tmp 13)), some (109, true)⟩,
                ⟨some 111, (.binOp .eql 3 (.tmp 110) (.const (.int .i64 0)) 3), some (109, true)⟩,
                ⟨some 112, (.pick (.tmp 109) (.tmp 111) (.const (.bool false))), none⟩,
                ⟨some 113, (.move (.tmp 112)), none⟩,
                ⟨some 114, (.move (.tmp 14)), some (113, true)⟩,
                ⟨some 115, (.binOp .eql 24 (.tmp 114) (.const (.int .i64 0)) 24), some (113, true)⟩,
                ⟨some 116, (.pick (.tmp 113) (.tmp 115) (.const (.bool false))), none⟩,
                ⟨some 117, (.move (.tmp 116)), none⟩,
                ⟨some 118, (.move (.tmp 15)), some (117, true)⟩,
                ⟨some 119, (.buildSlice 40 2 #[(0, (.const (.int .i64 5))), (1, (.const (.int .i64 7)))]), some (117, true)⟩,
                ⟨some 120, (.call { callee := (.value (.func 19)), args := #[(.tmp 118), (.tmp 119)], argTypes := #[40, 40] }), some (117, true)⟩,
                ⟨some 121, (.pick (.tmp 117) (.tmp 120) (.const (.bool false))), none⟩,
                ⟨some 122, (.move (.tmp 121)), none⟩,
                ⟨some 123, (.move (.tmp 17)), some (122, true)⟩,
                ⟨some 124, (.binOp .eql 24 (.tmp 123) (.const (.int .i64 12)) 24), some (122, true)⟩,
                ⟨some 125, (.pick (.tmp 122) (.tmp 124) (.const (.bool false))), none⟩,
                ⟨some 126, (.move (.tmp 125)), none⟩,
                ⟨some 127, (.move (.tmp 19)), some (126, true)⟩,
                ⟨some 128, (.binOp .eql 24 (.tmp 127) (.const (.int .i64 3)) 24), some (126, true)⟩,
                ⟨some 129, (.pick (.tmp 126) (.tmp 128) (.const (.bool false))), none⟩,
                ⟨some 0, (.assign (.tmp 129)), none⟩])
              .ret))))))))))))))
theorem k13 : FOK Try.prog 13 130 c13 [0] := ⟨⟨[12, 14, 15, 16, 17], Try.f13, _, by kernel_rfl, by kernel_rfl, rfl, by kernel_rfl, rfl, by kernel_rfl, by decide⟩⟩

/-- timesync.timesyncref28.New -/
def c14 : SC :=
  (.seq (.reg [⟨some 1, (.box 23 (.tmp 0)), none⟩,
   ⟨some 2, (.assign (.const (.pointer none))), none⟩])
 (.seq (.seq (.reg [⟨some 3, (.load 23 (.tmp 1)), none⟩,
     ⟨some 4, (.call { callee := (.value (.func 11)), args := #[(.tmp 3)], argTypes := #[23] }), none⟩,
     ⟨some 5, (.binOp .neq 24 (.tmp 4) (.const (.int .i64 0)) 24), none⟩])
   (.cond (.tmp 5)
    (.seq (.reg [⟨some 2, (.assign (.const (.pointer none))), none⟩])
     .ret)
    .skip))
  (.seq (.reg [⟨some 6, (.load 23 (.tmp 1)), none⟩,
     ⟨some 7, (.build 52 #[(0, (.tmp 6))]), none⟩,
     ⟨some 8, (.box 52 (.tmp 7)), none⟩,
     ⟨some 2, (.assign (.tmp 8)), none⟩])
   .ret)))
theorem k14 : FOK Try.prog 14 9 c14 [2] := ⟨⟨[12, 14, 15, 16, 17], Try.f14, _, by kernel_rfl, by kernel_rfl, rfl, by kernel_rfl, rfl, by kernel_rfl, by decide⟩⟩

/-- (*timesync.limiter.Limiter).Ask -/
def c15 : SC :=
  (.seq (.reg [⟨some 6, (.assign (.const (.int .i64 0))), none⟩,
   ⟨some 7, (.assign (.const (.int .i64 0))), none⟩])
 (.seq (.block 0
   (.seq (.reg [⟨some 13, (.move (.tmp 0)), none⟩,
      ⟨some 14, (.binOp .eql 26 (.tmp 13) (.const (.pointer none)) 26), none⟩,
      ⟨some 12, (.assign (.tmp 14)), none⟩])
    (.cond (.tmp 12)
     (.seq (.reg [⟨some 6, (.assign (.const (.int .i64 0))), none⟩,
        ⟨some 7, (.assign (.const (.int .i64 1))), none⟩])
      .ret)
     (.seq (.reg [⟨some 16, (.move (.tmp 1)), none⟩,
        ⟨some 17, (.binOp .lss 3 (.tmp 16) (.const (.int .i64 0)) 3), none⟩,
        ⟨some 18, (.move (.tmp 17)), none⟩,
        ⟨some 19, (.move (.tmp 2)), some (18, false)⟩,
        ⟨some 20, (.call { callee := (.value (.func 22)), args := #[(.tmp 19), (.const (.int .i64 0)), (.const (.int .i64 1125899906842624))], argTypes := #[3, 3, 3] }), some (18, false)⟩,
        ⟨some 21, (.unOp .not 4 (.tmp 20)), some (18, false)⟩,
        ⟨some 22, (.pick (.tmp 18) (.const (.bool true)) (.tmp 21)), none⟩,
        ⟨some 15, (.assign (.tmp 22)), none⟩])
      (.cond (.tmp 15)
       (.seq (.reg [⟨some 6, (.assign (.const (.int .i64 0))), none⟩,
          ⟨some 7, (.assign (.const (.int .i64 3))), none⟩])
        .ret)
       (.seq (.reg [⟨some 24, (.move (.tmp 2)), none⟩,
          ⟨some 25, (.move (.tmp 0)), none⟩,
          ⟨some 26, (.nilCheck (.tmp 25)), none⟩,
          ⟨some 27, (.fieldAddr 49 (.tmp 26) 1), none⟩,
          ⟨some 28, (.load 3 (.tmp 27)), none⟩,
          ⟨some 29, (.binOp .lss 3 (.tmp 24) (.tmp 28) 3), none⟩,
          ⟨some 23, (.assign (.tmp 29)), none⟩])
        (.cond (.tmp 23)
         (.seq (.reg [⟨some 6, (.assign (.const (.int .i64 0))), none⟩,
            ⟨some 7, (.assign (.const (.int .i64 12))), none⟩])
          .ret)
         .skip)))))))
  (.seq (.reg [⟨some 30, (.move (.tmp 0)), none⟩,
     ⟨some 31, (.move (.tmp 2)), none⟩,
     ⟨some 32, (.nilCheck (.tmp 30)), none⟩,
     ⟨some 33, (.fieldAddr 49 (.tmp 32) 1), none⟩,
     ⟨none, (.store 3 (.tmp 33) (.tmp 31)), none⟩])
   (.seq (.reg [⟨some 35, (.move (.tmp 0)), none⟩,
      ⟨some 36, (.nilCheck (.tmp 35)), none⟩,
      ⟨some 37, (.fieldAddr 49 (.tmp 36) 2), none⟩,
      ⟨some 38, (.load 47 (.tmp 37)), none⟩,
      ⟨some 39, (.move (.tmp 1)), none⟩,
      ⟨some 40, (.lookup 47 (.tmp 38) (.tmp 39) true), none⟩,
      ⟨some 34, (.move (.tmp 40)), none⟩,
      ⟨some 41, (.extract (.tmp 34) 0), none⟩,
      ⟨some 42, (.extract (.tmp 34) 1), none⟩,
      ⟨some 8, (.alloc 54), none⟩,
      ⟨none, (.store 54 (.tmp 8) (.tmp 41)), none⟩,
      ⟨some 9, (.assign (.tmp 42)), none⟩])
    (.seq (.seq (.reg [⟨some 43, (.move (.tmp 9)), none⟩,
        ⟨some 44, (.unOp .not 4 (.tmp 43)), none⟩])
      (.cond (.tmp 44)
       (.seq (.seq (.regq [⟨some 45, (.move (.tmp 0)), none⟩,
           ⟨some 46, (.nilCheck (.tmp 45)), none⟩,
           ⟨some 47, (.fieldAddr 49 (.tmp 46) 2), none⟩,
           ⟨some 48, (.load 47 (.tmp 47)), none⟩,
           ⟨some 49, (.call { callee := (.builtin .len), args := #[(.tmp 48)], argTypes := #[47] }), none⟩,
           ⟨some 50, (.move (.tmp 0)), none⟩,
           ⟨some 51, (.nilCheck (.tmp 50)), none⟩,
           ⟨some 52, (.fieldAddr 49 (.tmp 51) 0), none⟩,
           ⟨some 53, (.fieldAddr 23 (.tmp 52) 0), none⟩,
           ⟨some 54, (.load 3 (.tmp 53)), none⟩,
           ⟨some 55, (.binOp .eql 3 (.tmp 49) (.tmp 54) 3), none⟩])
         (.cond (.tmp 55)
          (.reg [⟨some 56, (.move (.tmp 0)), none⟩,
            ⟨some 57, (.call { callee := (.value (.func 23)), args := #[(.tmp 56)], argTypes := #[26] }), none⟩])
          .skip))
        (.seq (.regs [⟨some 58, (.move (.tmp 0)), none⟩,
           ⟨some 59, (.nilCheck (.tmp 58)), none⟩,
           ⟨some 60, (.fieldAddr 49 (.tmp 59) 2), none⟩,
           ⟨some 61, (.load 47 (.tmp 60)), none⟩,
           ⟨some 62, (.move (.tmp 1)), none⟩,
           ⟨some 63, (.move (.tmp 2)), none⟩,
           ⟨some 64, (.move (.tmp 0)), none⟩,
           ⟨some 65, (.nilCheck (.tmp 64)), none⟩,
           ⟨some 66, (.fieldAddr 49 (.tmp 65) 0), none⟩,
           ⟨some 67, (.fieldAddr 23 (.tmp 66) 2), none⟩,
           ⟨some 68, (.load 3 (.tmp 67)), none⟩,
           ⟨some 69, (.build 54 #[(0, (.tmp 63)), (1, (.tmp 68))]), none⟩] [⟨none, (.mapUpdate 47 (.tmp 61) (.tmp 62) (.tmp 69)), none⟩])
         (.seq (.reg [⟨some 6, (.assign (.const (.int .i64 0))), none⟩,
            ⟨some 7, (.assign (.const (.int .i64 0))), none⟩])
          .ret)))
       .skip))
     (.seq (.reg [⟨some 70, (.move (.tmp 2)), none⟩,
        ⟨some 71, (.fieldAddr 54 (.tmp 8) 0), none⟩,
        ⟨some 72, (.load 3 (.tmp 71)), none⟩,
        ⟨some 73, (.binOp .sub 3 (.tmp 70) (.tmp 72) 3), none⟩,
        ⟨some 10, (.assign (.tmp 73)), none⟩])
      (.seq (.reg [⟨some 74, (.move (.tmp 2)), none⟩,
         ⟨some 75, (.fieldAddr 54 (.tmp 8) 1), none⟩,
         ⟨some 76, (.load 3 (.tmp 75)), none⟩,
         ⟨some 77, (.move (.tmp 10)), none⟩,
         ⟨some 78, (.binOp .sub 3 (.tmp 76) (.tmp 77) 3), none⟩,
         ⟨some 79, (.call { callee := (.builtin .max), args := #[(.const (.int .i64 0)), (.tmp 78)], argTypes := #[3, 3] }), none⟩,
         ⟨some 80, (.fieldAddr 54 (.tmp 8) 0), none⟩,
         ⟨none, (.store 3 (.tmp 80) (.tmp 74)), none⟩,
         ⟨some 81, (.fieldAddr 54 (.tmp 8) 1), none⟩,
         ⟨none, (.store 3 (.tmp 81) (.tmp 79)), none⟩])
       (.seq (.reg [⟨some 11, (.assign (.const (.int .i64 0))), none⟩])
        (.seq (.block 1
          (.seq (.regq [⟨some 83, (.move (.tmp 10)), none⟩,
             ⟨some 84, (.move (.tmp 0)), none⟩,
             ⟨some 85, (.nilCheck (.tmp 84)), none⟩,
             ⟨some 86, (.fieldAddr 49 (.tmp 85) 0), none⟩,
             ⟨some 87, (.fieldAddr 23 (.tmp 86) 1), none⟩,
             ⟨some 88, (.load 3 (.tmp 87)), none⟩,
             ⟨some 89, (.binOp .geq 3 (.tmp 83) (.tmp 88) 3), none⟩,
             ⟨some 90, (.move (.tmp 89)), none⟩,
             ⟨some 91, (.fieldAddr 54 (.tmp 8) 1), some (90, true)⟩,
             ⟨some 92, (.load 3 (.tmp 91)), some (90, true)⟩,
             ⟨some 93, (.move (.tmp 0)), some (90, true)⟩,
             ⟨some 94, (.nilCheck (.tmp 93)), some (90, true)⟩,
             ⟨some 95, (.fieldAddr 49 (.tmp 94) 0), some (90, true)⟩,
             ⟨some 96, (.fieldAddr 23 (.tmp 95) 2), some (90, true)⟩,
             ⟨some 97, (.load 3 (.tmp 96)), some (90, true)⟩,
             ⟨some 98, (.binOp .add 3 (.tmp 92) (.tmp 97) 3), some (90, true)⟩,
             ⟨some 99, (.move (.tmp 0)), some (90, true)⟩,
             ⟨some 100, (.nilCheck (.tmp 99)), some (90, true)⟩,
             ⟨some 101, (.fieldAddr 49 (.tmp 100) 0), some (90, true)⟩,
             ⟨some 102, (.fieldAddr 23 (.tmp 101) 3), some (90, true)⟩,
             ⟨some 103, (.load 3 (.tmp 102)), some (90, true)⟩,
             ⟨some 104, (.binOp .leq 3 (.tmp 98) (.tmp 103) 3), some (90, true)⟩,
             ⟨some 105, (.pick (.tmp 90) (.tmp 104) (.const (.bool false))), none⟩,
             ⟨some 82, (.assign (.tmp 105)), none⟩])
           (.cond (.tmp 82)
            (.regs [⟨some 106, (.fieldAddr 54 (.tmp 8) 1), none⟩,
              ⟨some 107, (.load 3 (.tmp 106)), none⟩,
              ⟨some 108, (.move (.tmp 0)), none⟩,
              ⟨some 109, (.nilCheck (.tmp 108)), none⟩,
              ⟨some 110, (.fieldAddr 49 (.tmp 109) 0), none⟩,
              ⟨some 111, (.fieldAddr 23 (.tmp 110) 2), none⟩,
              ⟨some 112, (.load 3 (.tmp 111)), none⟩,
              ⟨some 113, (.binOp .add 3 (.tmp 107) (.tmp 112) 3), none⟩,
              ⟨some 114, (.fieldAddr 54 (.tmp 8) 1), none⟩] [⟨none, (.store 3 (.tmp 114) (.tmp 113)), none⟩])
            (.seq (.regq [⟨some 116, (.fieldAddr 54 (.tmp 8) 2), none⟩,
               ⟨some 117, (.load 4 (.tmp 116)), none⟩,
               ⟨some 118, (.unOp .not 4 (.tmp 117)), none⟩,
               ⟨some 119, (.move (.tmp 118)), none⟩,
               ⟨some 120, (.move (.tmp 2)), some (119, false)⟩,
               ⟨some 121, (.fieldAddr 54 (.tmp 8) 3), some (119, false)⟩,
               ⟨some 122, (.load 3 (.tmp 121)), some (119, false)⟩,
               ⟨some 123, (.binOp .sub 3 (.tmp 120) (.tmp 122) 3), some (119, false)⟩,
               ⟨some 124, (.move (.tmp 0)), some (119, false)⟩,
               ⟨some 125, (.nilCheck (.tmp 124)), some (119, false)⟩,
               ⟨some 126, (.fieldAddr 49 (.tmp 125) 0), some (119, false)⟩,
               ⟨some 127, (.fieldAddr 23 (.tmp 126) 4), some (119, false)⟩,
               ⟨some 128, (.load 3 (.tmp 127)), some (119, false)⟩,
               ⟨some 129, (.binOp .geq 3 (.tmp 123) (.tmp 128) 3), some (119, false)⟩,
               ⟨some 130, (.pick (.tmp 119) (.const (.bool true)) (.tmp 129)), none⟩,
               ⟨some 115, (.assign (.tmp 130)), none⟩])
             (.cond (.tmp 115)
              (.seq (.reg [⟨some 11, (.assign (.const (.int .i64 2))), none⟩])
               (.reg [⟨some 131, (.move (.tmp 2)), none⟩,
                 ⟨some 132, (.fieldAddr 54 (.tmp 8) 2), none⟩,
                 ⟨none, (.store 4 (.tmp 132) (.const (.bool true))), none⟩,
                 ⟨some 133, (.fieldAddr 54 (.tmp 8) 3), none⟩,
                 ⟨none, (.store 3 (.tmp 133) (.tmp 131)), none⟩]))
              (.reg [⟨some 11, (.assign (.const (.int .i64 1))), none⟩]))))))
         (.seq (.regs [⟨some 134, (.move (.tmp 0)), none⟩,
            ⟨some 135, (.nilCheck (.tmp 134)), none⟩,
            ⟨some 136, (.fieldAddr 49 (.tmp 135) 2), none⟩,
            ⟨some 137, (.load 47 (.tmp 136)), none⟩,
            ⟨some 138, (.move (.tmp 1)), none⟩,
            ⟨some 139, (.load 54 (.tmp 8)), none⟩] [⟨none, (.mapUpdate 47 (.tmp 137) (.tmp 138) (.tmp 139)), none⟩])
          (.seq (.reg [⟨some 140, (.move (.tmp 11)), none⟩,
             ⟨some 6, (.assign (.tmp 140)), none⟩,
             ⟨some 7, (.assign (.const (.int .i64 0))), none⟩])
           .ret)))))))))))
theorem k15 : FOK Try.prog 15 141 c15 [6, 7] := ⟨⟨[12, 14, 15, 16, 17], Try.f15, _, by kernel_rfl, by kernel_rfl, rfl, by kernel_rfl, rfl, by kernel_rfl, by decide⟩⟩

/-- (*timesync.timesyncref28.Limiter).Ask -/
def c16 : SC :=
  (.seq (.reg [⟨some 6, (.assign (.const (.int .i64 0))), none⟩,
   ⟨some 7, (.assign (.const (.int .i64 0))), none⟩])
 (.seq (.block 0
   (.seq (.reg [⟨some 13, (.move (.tmp 0)), none⟩,
      ⟨some 14, (.binOp .eql 31 (.tmp 13) (.const (.pointer none)) 31), none⟩,
      ⟨some 12, (.assign (.tmp 14)), none⟩])
    (.cond (.tmp 12)
     (.seq (.reg [⟨some 6, (.assign (.const (.int .i64 0))), none⟩,
        ⟨some 7, (.assign (.const (.int .i64 1))), none⟩])
      .ret)
     (.seq (.reg [⟨some 16, (.move (.tmp 1)), none⟩,
        ⟨some 17, (.binOp .lss 3 (.tmp 16) (.const (.int .i64 0)) 3), none⟩,
        ⟨some 18, (.move (.tmp 17)), none⟩,
        ⟨some 19, (.move (.tmp 2)), some (18, false)⟩,
        ⟨some 20, (.binOp .lss 3 (.tmp 19) (.const (.int .i64 0)) 3), some (18, false)⟩,
        ⟨some 21, (.pick (.tmp 18) (.const (.bool true)) (.tmp 20)), none⟩,
        ⟨some 22, (.move (.tmp 21)), none⟩,
        ⟨some 23, (.move (.tmp 2)), some (22, false)⟩,
        ⟨some 24, (.binOp .gtr 3 (.tmp 23) (.const (.int .i64 1125899906842624)) 3), some (22, false)⟩,
        ⟨some 25, (.pick (.tmp 22) (.const (.bool true)) (.tmp 24)), none⟩,
        ⟨some 15, (.assign (.tmp 25)), none⟩])
      (.cond (.tmp 15)
       (.seq (.reg [⟨some 6, (.assign (.const (.int .i64 0))), none⟩,
          ⟨some 7, (.assign (.const (.int .i64 3))), none⟩])
        .ret)
       (.seq (.reg [⟨some 27, (.move (.tmp 2)), none⟩,
          ⟨some 28, (.move (.tmp 0)), none⟩,
          ⟨some 29, (.nilCheck (.tmp 28)), none⟩,
          ⟨some 30, (.fieldAddr 52 (.tmp 29) 2), none⟩,
          ⟨some 31, (.load 3 (.tmp 30)), none⟩,
          ⟨some 32, (.binOp .lss 3 (.tmp 27) (.tmp 31) 3), none⟩,
          ⟨some 26, (.assign (.tmp 32)), none⟩])
        (.cond (.tmp 26)
         (.seq (.reg [⟨some 6, (.assign (.const (.int .i64 0))), none⟩,
            ⟨some 7, (.assign (.const (.int .i64 12))), none⟩])
          .ret)
         .skip)))))))
  (.seq (.reg [⟨some 33, (.move (.tmp 0)), none⟩,
     ⟨some 34, (.move (.tmp 2)), none⟩,
     ⟨some 35, (.nilCheck (.tmp 33)), none⟩,
     ⟨some 36, (.fieldAddr 52 (.tmp 35) 2), none⟩,
     ⟨none, (.store 3 (.tmp 36) (.tmp 34)), none⟩])
   (.seq (.reg [⟨some 37, (.move (.tmp 0)), none⟩,
      ⟨some 38, (.move (.tmp 1)), none⟩,
      ⟨some 39, (.call { callee := (.value (.func 24)), args := #[(.tmp 37), (.tmp 38)], argTypes := #[31, 3] }), none⟩,
      ⟨some 8, (.assign (.tmp 39)), none⟩])
    (.seq (.seq (.reg [⟨some 40, (.move (.tmp 8)), none⟩,
        ⟨some 41, (.binOp .lss 3 (.tmp 40) (.const (.int .i64 0)) 3), none⟩])
      (.cond (.tmp 41)
       (.seq (.seq (.regq [⟨some 42, (.move (.tmp 0)), none⟩,
           ⟨some 43, (.nilCheck (.tmp 42)), none⟩,
           ⟨some 44, (.fieldAddr 52 (.tmp 43) 1), none⟩,
           ⟨some 45, (.load 50 (.tmp 44)), none⟩,
           ⟨some 46, (.call { callee := (.builtin .len), args := #[(.tmp 45)], argTypes := #[50] }), none⟩,
           ⟨some 47, (.move (.tmp 0)), none⟩,
           ⟨some 48, (.nilCheck (.tmp 47)), none⟩,
           ⟨some 49, (.fieldAddr 52 (.tmp 48) 0), none⟩,
           ⟨some 50, (.fieldAddr 23 (.tmp 49) 0), none⟩,
           ⟨some 51, (.load 3 (.tmp 50)), none⟩,
           ⟨some 52, (.binOp .eql 3 (.tmp 46) (.tmp 51) 3), none⟩])
         (.cond (.tmp 52)
          (.reg [⟨some 53, (.move (.tmp 0)), none⟩,
            ⟨some 54, (.call { callee := (.value (.func 25)), args := #[(.tmp 53)], argTypes := #[31] }), none⟩])
          .skip))
        (.seq (.reg [⟨some 55, (.move (.tmp 0)), none⟩,
           ⟨some 56, (.move (.tmp 1)), none⟩,
           ⟨some 57, (.move (.tmp 2)), none⟩,
           ⟨some 58, (.move (.tmp 0)), none⟩,
           ⟨some 59, (.nilCheck (.tmp 58)), none⟩,
           ⟨some 60, (.fieldAddr 52 (.tmp 59) 0), none⟩,
           ⟨some 61, (.fieldAddr 23 (.tmp 60) 2), none⟩,
           ⟨some 62, (.load 3 (.tmp 61)), none⟩,
           ⟨some 63, (.build 59 #[(0, (.tmp 56)), (1, (.tmp 57)), (2, (.tmp 62))]), none⟩,
           ⟨some 64, (.call { callee := (.value (.func 26)), args := #[(.tmp 55), (.tmp 63)], argTypes := #[31, 59] }), none⟩])
         (.seq (.reg [⟨some 6, (.assign (.const (.int .i64 0))), none⟩,
            ⟨some 7, (.assign (.const (.int .i64 0))), none⟩])
          .ret)))
       .skip))
     (.seq (.reg [⟨some 65, (.move (.tmp 0)), none⟩,
        ⟨some 66, (.nilCheck (.tmp 65)), none⟩,
        ⟨some 67, (.fieldAddr 52 (.tmp 66) 1), none⟩,
        ⟨some 68, (.load 50 (.tmp 67)), none⟩,
        ⟨some 69, (.move (.tmp 8)), none⟩,
        ⟨some 70, (.indexAddr 50 (.tmp 68) (.tmp 69)), none⟩,
        ⟨some 71, (.load 59 (.tmp 70)), none⟩,
        ⟨some 9, (.alloc 59), none⟩,
        ⟨none, (.store 59 (.tmp 9) (.tmp 71)), none⟩])
      (.seq (.reg [⟨some 72, (.fieldAddr 59 (.tmp 9) 2), none⟩,
         ⟨some 73, (.load 3 (.tmp 72)), none⟩,
         ⟨some 74, (.move (.tmp 2)), none⟩,
         ⟨some 75, (.fieldAddr 59 (.tmp 9) 1), none⟩,
         ⟨some 76, (.load 3 (.tmp 75)), none⟩,
         ⟨some 77, (.binOp .sub 3 (.tmp 74) (.tmp 76) 3), none⟩,
         ⟨some 78, (.binOp .sub 3 (.tmp 73) (.tmp 77) 3), none⟩,
         ⟨some 79, (.call { callee := (.builtin .max), args := #[(.const (.int .i64 0)), (.tmp 78)], argTypes := #[3, 3] }), none⟩,
         ⟨some 10, (.assign (.tmp 79)), none⟩])
       (.seq (.reg [⟨some 11, (.assign (.const (.int .i64 0))), none⟩])
        (.seq (.block 1
          (.seq (.regq [⟨some 81, (.move (.tmp 2)), none⟩,
             ⟨some 82, (.fieldAddr 59 (.tmp 9) 1), none⟩,
             ⟨some 83, (.load 3 (.tmp 82)), none⟩,
             ⟨some 84, (.binOp .sub 3 (.tmp 81) (.tmp 83) 3), none⟩,
             ⟨some 85, (.move (.tmp 0)), none⟩,
             ⟨some 86, (.nilCheck (.tmp 85)), none⟩,
             ⟨some 87, (.fieldAddr 52 (.tmp 86) 0), none⟩,
             ⟨some 88, (.fieldAddr 23 (.tmp 87) 1), none⟩,
             ⟨some 89, (.load 3 (.tmp 88)), none⟩,
             ⟨some 90, (.binOp .geq 3 (.tmp 84) (.tmp 89) 3), none⟩,
             ⟨some 91, (.move (.tmp 90)), none⟩,
             ⟨some 92, (.move (.tmp 10)), some (91, true)⟩,
             ⟨some 93, (.move (.tmp 0)), some (91, true)⟩,
             ⟨some 94, (.nilCheck (.tmp 93)), some (91, true)⟩,
             ⟨some 95, (.fieldAddr 52 (.tmp 94) 0), some (91, true)⟩,
             ⟨some 96, (.fieldAddr 23 (.tmp 95) 2), some (91, true)⟩,
             ⟨some 97, (.load 3 (.tmp 96)), some (91, true)⟩,
             ⟨some 98, (.binOp .add 3 (.tmp 92) (.tmp 97) 3), some (91, true)⟩,
             ⟨some 99, (.move (.tmp 0)), some (91, true)⟩,
             ⟨some 100, (.nilCheck (.tmp 99)), some (91, true)⟩,
             ⟨some 101, (.fieldAddr 52 (.tmp 100) 0), some (91, true)⟩,
             ⟨some 102, (.fieldAddr 23 (.tmp 101) 3), some (91, true)⟩,
             ⟨some 103, (.load 3 (.tmp 102)), some (91, true)⟩,
             ⟨some 104, (.binOp .leq 3 (.tmp 98) (.tmp 103) 3), some (91, true)⟩,
             ⟨some 105, (.pick (.tmp 91) (.tmp 104) (.const (.bool false))), none⟩,
             ⟨some 80, (.assign (.tmp 105)), none⟩])
           (.cond (.tmp 80)
            (.reg [⟨some 106, (.move (.tmp 10)), none⟩,
              ⟨some 107, (.move (.tmp 0)), none⟩,
              ⟨some 108, (.nilCheck (.tmp 107)), none⟩,
              ⟨some 109, (.fieldAddr 52 (.tmp 108) 0), none⟩,
              ⟨some 110, (.fieldAddr 23 (.tmp 109) 2), none⟩,
              ⟨some 111, (.load 3 (.tmp 110)), none⟩,
              ⟨some 112, (.binOp .add 3 (.tmp 106) (.tmp 111) 3), none⟩,
              ⟨some 10, (.assign (.tmp 112)), none⟩])
            (.seq (.regq [⟨some 114, (.fieldAddr 59 (.tmp 9) 3), none⟩,
               ⟨some 115, (.load 4 (.tmp 114)), none⟩,
               ⟨some 116, (.unOp .not 4 (.tmp 115)), none⟩,
               ⟨some 117, (.move (.tmp 116)), none⟩,
               ⟨some 118, (.move (.tmp 2)), some (117, false)⟩,
               ⟨some 119, (.fieldAddr 59 (.tmp 9) 4), some (117, false)⟩,
               ⟨some 120, (.load 3 (.tmp 119)), some (117, false)⟩,
               ⟨some 121, (.binOp .sub 3 (.tmp 118) (.tmp 120) 3), some (117, false)⟩,
               ⟨some 122, (.move (.tmp 0)), some (117, false)⟩,
               ⟨some 123, (.nilCheck (.tmp 122)), some (117, false)⟩,
               ⟨some 124, (.fieldAddr 52 (.tmp 123) 0), some (117, false)⟩,
               ⟨some 125, (.fieldAddr 23 (.tmp 124) 4), some (117, false)⟩,
               ⟨some 126, (.load 3 (.tmp 125)), some (117, false)⟩,
               ⟨some 127, (.binOp .geq 3 (.tmp 121) (.tmp 126) 3), some (117, false)⟩,
               ⟨some 128, (.pick (.tmp 117) (.const (.bool true)) (.tmp 127)), none⟩,
               ⟨some 113, (.assign (.tmp 128)), none⟩])
             (.cond (.tmp 113)
              (.seq (.reg [⟨some 11, (.assign (.const (.int .i64 2))), none⟩])
               (.seq (.reg [⟨some 129, (.fieldAddr 59 (.tmp 9) 3), none⟩,
                  ⟨none, (.store 4 (.tmp 129) (.const (.bool true))), none⟩])
                (.reg [⟨some 130, (.move (.tmp 2)), none⟩,
                  ⟨some 131, (.fieldAddr 59 (.tmp 9) 4), none⟩,
                  ⟨none, (.store 3 (.tmp 131) (.tmp 130)), none⟩])))
              (.reg [⟨some 11, (.assign (.const (.int .i64 1))), none⟩]))))))
         (.seq (.reg [⟨some 132, (.move (.tmp 10)), none⟩,
            ⟨some 133, (.fieldAddr 59 (.tmp 9) 2), none⟩,
            ⟨none, (.store 3 (.tmp 133) (.tmp 132)), none⟩])
          (.seq (.reg [⟨some 134, (.move (.tmp 2)), none⟩,
             ⟨some 135, (.fieldAddr 59 (.tmp 9) 1), none⟩,
             ⟨none, (.store 3 (.tmp 135) (.tmp 134)), none⟩])
           (.seq (.regs [⟨some 136, (.move (.tmp 0)), none⟩,
              ⟨some 137, (.nilCheck (.tmp 136)), none⟩,
              ⟨some 138, (.fieldAddr 52 (.tmp 137) 1), none⟩,
              ⟨some 139, (.load 50 (.tmp 138)), none⟩,
              ⟨some 140, (.move (.tmp 8)), none⟩,
              ⟨some 141, (.load 59 (.tmp 9)), none⟩,
              ⟨some 142, (.indexAddr 50 (.tmp 139) (.tmp 140)), none⟩] [⟨none, (.store 59 (.tmp 142) (.tmp 141)), none⟩])
            (.seq (.reg [⟨some 143, (.move (.tmp 11)), none⟩,
               ⟨some 6, (.assign (.tmp 143)), none⟩,
               ⟨some 7, (.assign (.const (.int .i64 0))), none⟩])
             .ret)))))))))))))
theorem k16 : FOK Try.prog 16 144 c16 [6, 7] := ⟨⟨[12, 14, 15, 16, 17], Try.f16, _, by kernel_rfl, by kernel_rfl, rfl, by kernel_rfl, rfl, by kernel_rfl, by decide⟩⟩

/-- (*timesync.limiter.Limiter).Level -/
def c17 : SC :=
  (.seq (.reg [⟨some 4, (.assign (.const (.int .i64 0))), none⟩,
   ⟨some 5, (.assign (.const (.bool false))), none⟩])
 (.seq (.seq (.reg [⟨some 8, (.move (.tmp 0)), none⟩,
     ⟨some 9, (.binOp .eql 26 (.tmp 8) (.const (.pointer none)) 26), none⟩])
   (.cond (.tmp 9)
    (.seq (.reg [⟨some 4, (.assign (.const (.int .i64 0))), none⟩,
       ⟨some 5, (.assign (.const (.bool false))), none⟩])
     .ret)
    .skip))
  (.seq (.reg [⟨some 11, (.move (.tmp 0)), none⟩,
     ⟨some 12, (.nilCheck (.tmp 11)), none⟩,
     ⟨some 13, (.fieldAddr 49 (.tmp 12) 2), none⟩,
     ⟨some 14, (.load 47 (.tmp 13)), none⟩,
     ⟨some 15, (.move (.tmp 1)), none⟩,
     ⟨some 16, (.lookup 47 (.tmp 14) (.tmp 15) true), none⟩,
     ⟨some 10, (.move (.tmp 16)), none⟩,
     ⟨some 17, (.extract (.tmp 10) 0), none⟩,
     ⟨some 18, (.extract (.tmp 10) 1), none⟩,
     ⟨some 6, (.alloc 54), none⟩,
     ⟨none, (.store 54 (.tmp 6) (.tmp 17)), none⟩,
     ⟨some 7, (.assign (.tmp 18)), none⟩])
   (.seq (.reg [⟨some 19, (.fieldAddr 54 (.tmp 6) 1), none⟩,
      ⟨some 20, (.load 3 (.tmp 19)), none⟩,
      ⟨some 21, (.move (.tmp 7)), none⟩,
      ⟨some 4, (.assign (.tmp 20)), none⟩,
      ⟨some 5, (.assign (.tmp 21)), none⟩])
    .ret))))
theorem k17 : FOK Try.prog 17 22 c17 [4, 5] := ⟨⟨[12, 14, 15, 16, 17], Try.f17, _, by kernel_rfl, by kernel_rfl, rfl, by kernel_rfl, rfl, by kernel_rfl, by decide⟩⟩

/-- (*timesync.timesyncref28.Limiter).Level -/
def c18 : SC :=
  (.seq (.reg [⟨some 4, (.assign (.const (.int .i64 0))), none⟩,
   ⟨some 5, (.assign (.const (.bool false))), none⟩])
 (.seq (.seq (.reg [⟨some 6, (.move (.tmp 0)), none⟩,
     ⟨some 7, (.binOp .eql 31 (.tmp 6) (.const (.pointer none)) 31), none⟩,
     ⟨some 8, (.move (.tmp 7)), none⟩,
     ⟨some 9, (.move (.tmp 0)), some (8, false)⟩,
     ⟨some 10, (.move (.tmp 1)), some (8, false)⟩,
     ⟨some 11, (.call { callee := (.value (.func 24)), args := #[(.tmp 9), (.tmp 10)], argTypes := #[31, 3] }), some (8, false)⟩,
     ⟨some 12, (.binOp .lss 3 (.tmp 11) (.const (.int .i64 0)) 3), some (8, false)⟩,
     ⟨some 13, (.pick (.tmp 8) (.const (.bool true)) (.tmp 12)), none⟩])
   (.cond (.tmp 13)
    (.seq (.reg [⟨some 4, (.assign (.const (.int .i64 0))), none⟩,
       ⟨some 5, (.assign (.const (.bool false))), none⟩])
     .ret)
    .skip))
  (.seq (.regq [⟨some 14, (.move (.tmp 0)), none⟩,
     ⟨some 15, (.nilCheck (.tmp 14)), none⟩,
     ⟨some 16, (.fieldAddr 52 (.tmp 15) 1), none⟩,
     ⟨some 17, (.load 50 (.tmp 16)), none⟩,
     ⟨some 18, (.move (.tmp 0)), none⟩,
     ⟨some 19, (.move (.tmp 1)), none⟩,
     ⟨some 20, (.call { callee := (.value (.func 24)), args := #[(.tmp 18), (.tmp 19)], argTypes := #[31, 3] }), none⟩,
     ⟨some 21, (.indexAddr 50 (.tmp 17) (.tmp 20)), none⟩,
     ⟨some 22, (.fieldAddr 59 (.tmp 21) 2), none⟩,
     ⟨some 23, (.load 3 (.tmp 22)), none⟩,
     ⟨some 4, (.assign (.tmp 23)), none⟩,
     ⟨some 5, (.assign (.const (.bool true))), none⟩])
   .ret)))
theorem k18 : FOK Try.prog 18 24 c18 [4, 5] := ⟨⟨[12, 14, 15, 16, 17], Try.f18, _, by kernel_rfl, by kernel_rfl, rfl, by kernel_rfl, rfl, by kernel_rfl, by decide⟩⟩

/-- timesync.timesynclaw28.same -/
def c19 : SC :=
  (.seq (.reg [⟨some 4, (.assign (.const (.bool false))), none⟩])
 (.seq (.seq (.reg [⟨some 6, (.move (.tmp 0)), none⟩,
     ⟨some 7, (.call { callee := (.builtin .len), args := #[(.tmp 6)], argTypes := #[40] }), none⟩,
     ⟨some 8, (.move (.tmp 1)), none⟩,
     ⟨some 9, (.call { callee := (.builtin .len), args := #[(.tmp 8)], argTypes := #[40] }), none⟩,
     ⟨some 10, (.binOp .neq 3 (.tmp 7) (.tmp 9) 3), none⟩])
   (.cond (.tmp 10)
    (.seq (.reg [⟨some 4, (.assign (.const (.bool false))), none⟩])
     .ret)
    .skip))
  (.seq (.seq (.reg [⟨some 5, (.assign (.const (.int .i64 0))), none⟩])
    (.block 0
     (.loop
      (.seq (.seq (.reg [⟨some 11, (.move (.tmp 5)), none⟩,
          ⟨some 12, (.move (.tmp 0)), none⟩,
          ⟨some 13, (.call { callee := (.builtin .len), args := #[(.tmp 12)], argTypes := #[40] }), none⟩,
          ⟨some 14, (.binOp .lss 3 (.tmp 11) (.tmp 13) 3), none⟩])
        (.cond (.tmp 14)
         .skip
         (.exit 0)))
       (.seq (.block 1
         (.seq (.regq [⟨some 17, (.move (.tmp 0)), none⟩,
            ⟨some 18, (.move (.tmp 5)), none⟩,
            ⟨some 19, (.indexAddr 40 (.tmp 17) (.tmp 18)), none⟩,
            ⟨some 20, (.load 3 (.tmp 19)), none⟩,
            ⟨some 21, (.move (.tmp 1)), none⟩,
            ⟨some 22, (.move (.tmp 5)), none⟩,
            ⟨some 23, (.indexAddr 40 (.tmp 21) (.tmp 22)), none⟩,
            ⟨some 24, (.load 3 (.tmp 23)), none⟩,
            ⟨some 25, (.binOp .neq 3 (.tmp 20) (.tmp 24) 3), none⟩])
          (.cond (.tmp 25)
           (.seq (.reg [⟨some 4, (.assign (.const (.bool false))), none⟩])
            .ret)
           .skip)))
        (.reg [⟨some 15, (.move (.tmp 5)), none⟩,
          ⟨some 16, (.binOp .add 3 (.tmp 15) (.const (.int .i64 1)) 3), none⟩,
          ⟨some 5, (.assign (.tmp 16)), none⟩]))))))
   (.seq (.reg [⟨some 4, (.assign (.const (.bool true))), none⟩])
    .ret))))
theorem k19 : FOK Try.prog 19 26 c19 [4] := ⟨⟨[12, 14, 15, 16, 17], Try.f19, _, by kernel_rfl, by kernel_rfl, rfl, by kernel_rfl, rfl, by kernel_rfl, by decide⟩⟩

/-- (*timesync.limiter.Limiter).Clients -/
def c20 : SC :=
  (.seq (.reg [⟨some 2, (.assign (.const (.slice none 0 0))), none⟩])
 (.seq (.seq (.reg [⟨some 3, (.move (.tmp 0)), none⟩,
     ⟨some 4, (.binOp .eql 26 (.tmp 3) (.const (.pointer none)) 26), none⟩])
   (.cond (.tmp 4)
    (.seq (.reg [⟨some 2, (.assign (.const (.slice none 0 0))), none⟩])
     .ret)
    .skip))
  (.seq (.reg [⟨some 5, (.move (.tmp 0)), none⟩,
     ⟨some 6, (.nilCheck (.tmp 5)), none⟩,
     ⟨some 7, (.fieldAddr 49 (.tmp 6) 2), none⟩,
     ⟨some 8, (.load 47 (.tmp 7)), none⟩,
     ⟨some 9, (.call { callee := (.value (.func 28)), args := #[(.tmp 8)], argTypes := #[47] }), none⟩,
     ⟨some 10, (.call { callee := (.value (.func 27)), args := #[(.tmp 9)], argTypes := #[62] }), none⟩,
     ⟨some 2, (.assign (.tmp 10)), none⟩])
   .ret)))
theorem k20 : FOK Try.prog 20 11 c20 [2] := ⟨⟨[12, 14, 15, 16, 17], Try.f20, _, by kernel_rfl, by kernel_rfl, rfl, by kernel_rfl, rfl, by kernel_rfl, by decide⟩⟩

/-- (*timesync.timesyncref28.Limiter).Clients -/
def c21 : SC :=
  (.seq (.reg [⟨some 2, (.assign (.const (.slice none 0 0))), none⟩])
 (.seq (.reg [⟨some 3, (.assign (.const (.slice none 0 0))), none⟩])
  (.seq (.seq (.reg [⟨some 5, (.move (.tmp 0)), none⟩,
      ⟨some 6, (.binOp .eql 31 (.tmp 5) (.const (.pointer none)) 31), none⟩])
    (.cond (.tmp 6)
     (.seq (.reg [⟨some 2, (.assign (.const (.slice none 0 0))), none⟩])
      .ret)
     .skip))
   (.seq (.seq (.reg [⟨some 4, (.assign (.const (.int .i64 0))), none⟩])
     (.block 0
      (.loop
       (.seq (.seq (.reg [⟨some 7, (.move (.tmp 4)), none⟩,
           ⟨some 8, (.move (.tmp 0)), none⟩,
           ⟨some 9, (.nilCheck (.tmp 8)), none⟩,
           ⟨some 10, (.fieldAddr 52 (.tmp 9) 1), none⟩,
           ⟨some 11, (.load 50 (.tmp 10)), none⟩,
           ⟨some 12, (.call { callee := (.builtin .len), args := #[(.tmp 11)], argTypes := #[50] }), none⟩,
           ⟨some 13, (.binOp .lss 3 (.tmp 7) (.tmp 12) 3), none⟩])
         (.cond (.tmp 13)
          .skip
          (.exit 0)))
        (.seq (.block 1
          (.reg [⟨some 16, (.move (.tmp 3)), none⟩,
            ⟨some 17, (.move (.tmp 0)), none⟩,
            ⟨some 18, (.nilCheck (.tmp 17)), none⟩,
            ⟨some 19, (.fieldAddr 52 (.tmp 18) 1), none⟩,
            ⟨some 20, (.load 50 (.tmp 19)), none⟩,
            ⟨some 21, (.move (.tmp 4)), none⟩,
            ⟨some 22, (.indexAddr 50 (.tmp 20) (.tmp 21)), none⟩,
            ⟨some 23, (.fieldAddr 59 (.tmp 22) 0), none⟩,
            ⟨some 24, (.load 3 (.tmp 23)), none⟩,
            ⟨some 25, (.buildSlice 40 1 #[(0, (.tmp 24))]), none⟩,
            ⟨some 26, (.call { callee := (.builtin .append), args := #[(.tmp 16), (.tmp 25)], argTypes := #[40, 40] }), none⟩,
            ⟨some 3, (.assign (.tmp 26)), none⟩]))
         (.reg [⟨some 14, (.move (.tmp 4)), none⟩,
           ⟨some 15, (.binOp .add 3 (.tmp 14) (.const (.int .i64 1)) 3), none⟩,
           ⟨some 4, (.assign (.tmp 15)), none⟩]))))))
    (.seq (.reg [⟨some 27, (.move (.tmp 3)), none⟩,
       ⟨some 2, (.assign (.tmp 27)), none⟩])
     .ret)))))
theorem k21 : FOK Try.prog 21 28 c21 [2] := ⟨⟨[12, 14, 15, 16, 17], Try.f21, _, by kernel_rfl, by kernel_rfl, rfl, by kernel_rfl, rfl, by kernel_rfl, by decide⟩⟩

/-- timesync.limiter.in -/
def c22 : SC :=
  (.seq (.reg [⟨some 6, (.assign (.const (.bool false))), none⟩])
 (.seq (.reg [⟨some 7, (.move (.tmp 0)), none⟩,
    ⟨some 8, (.move (.tmp 1)), none⟩,
    ⟨some 9, (.binOp .geq 3 (.tmp 7) (.tmp 8) 3), none⟩,
    ⟨some 10, (.move (.tmp 9)), none⟩,
    ⟨some 11, (.move (.tmp 0)), some (10, true)⟩,
    ⟨some 12, (.move (.tmp 2)), some (10, true)⟩,
    ⟨some 13, (.binOp .leq 3 (.tmp 11) (.tmp 12) 3), some (10, true)⟩,
    ⟨some 14, (.pick (.tmp 10) (.tmp 13) (.const (.bool false))), none⟩,
    ⟨some 6, (.assign (.tmp 14)), none⟩])
  .ret))
theorem k22 : FOK Try.prog 22 15 c22 [6] := ⟨⟨[12, 14, 15, 16, 17], Try.f22, _, by kernel_rfl, by kernel_rfl, rfl, by kernel_rfl, rfl, by kernel_rfl, by decide⟩⟩

/-- (*timesync.limiter.Limiter).forget -/
def c23 : SC :=
  (.seq (.reg [⟨some 1, (.box 26 (.tmp 0)), none⟩])
 (.seq (.reg [⟨some 4, (.load 26 (.tmp 1)), none⟩,
    ⟨some 5, (.call { callee := (.value (.func 20)), args := #[(.tmp 4)], argTypes := #[26] }), none⟩,
    ⟨some 2, (.assign (.tmp 5)), none⟩])
  (.seq (.reg [⟨some 6, (.move (.tmp 2)), none⟩,
     ⟨some 7, (.makeFunc (Go.Fn.func 30) #[] #[(.tmp 1)]), none⟩,
     ⟨some 8, (.call { callee := (.value (.func 29)), args := #[(.tmp 6), (.tmp 7)], argTypes := #[40, 65] }), none⟩,
     ⟨some 3, (.assign (.tmp 8)), none⟩])
   (.reg [⟨some 9, (.load 26 (.tmp 1)), none⟩,
     ⟨some 10, (.nilCheck (.tmp 9)), none⟩,
     ⟨some 11, (.fieldAddr 49 (.tmp 10) 2), none⟩,
     ⟨some 12, (.load 47 (.tmp 11)), none⟩,
     ⟨some 13, (.move (.tmp 3)), none⟩,
     ⟨none, (.call { callee := (.builtin .delete), args := #[(.tmp 12), (.tmp 13)], argTypes := #[47, 3] }), none⟩]))))
theorem k23 : FOK Try.prog 23 14 c23 [] := ⟨⟨[12, 14, 15, 16, 17], Try.f23, _, by kernel_rfl, by kernel_rfl, rfl, by kernel_rfl, rfl, by kernel_rfl, by decide⟩⟩

/-- (*timesync.timesyncref28.Limiter).find -/
def c24 : SC :=
  (.seq (.reg [⟨some 4, (.assign (.const (.int .i64 0))), none⟩])
 (.seq (.seq (.reg [⟨some 5, (.assign (.const (.int .i64 0))), none⟩])
   (.block 0
    (.loop
     (.seq (.seq (.reg [⟨some 6, (.move (.tmp 5)), none⟩,
         ⟨some 7, (.move (.tmp 0)), none⟩,
         ⟨some 8, (.nilCheck (.tmp 7)), none⟩,
         ⟨some 9, (.fieldAddr 52 (.tmp 8) 1), none⟩,
         ⟨some 10, (.load 50 (.tmp 9)), none⟩,
         ⟨some 11, (.call { callee := (.builtin .len), args := #[(.tmp 10)], argTypes := #[50] }), none⟩,
         ⟨some 12, (.binOp .lss 3 (.tmp 6) (.tmp 11) 3), none⟩])
       (.cond (.tmp 12)
        .skip
        (.exit 0)))
      (.seq (.block 1
        (.seq (.reg [⟨some 15, (.move (.tmp 0)), none⟩,
           ⟨some 16, (.nilCheck (.tmp 15)), none⟩,
           ⟨some 17, (.fieldAddr 52 (.tmp 16) 1), none⟩,
           ⟨some 18, (.load 50 (.tmp 17)), none⟩,
           ⟨some 19, (.move (.tmp 5)), none⟩,
           ⟨some 20, (.indexAddr 50 (.tmp 18) (.tmp 19)), none⟩,
           ⟨some 21, (.fieldAddr 59 (.tmp 20) 0), none⟩,
           ⟨some 22, (.load 3 (.tmp 21)), none⟩,
           ⟨some 23, (.move (.tmp 1)), none⟩,
           ⟨some 24, (.binOp .eql 3 (.tmp 22) (.tmp 23) 3), none⟩])
         (.cond (.tmp 24)
          (.seq (.reg [⟨some 25, (.move (.tmp 5)), none⟩,
             ⟨some 4, (.assign (.tmp 25)), none⟩])
           .ret)
          .skip)))
       (.reg [⟨some 13, (.move (.tmp 5)), none⟩,
         ⟨some 14, (.binOp .add 3 (.tmp 13) (.const (.int .i64 1)) 3), none⟩,
         ⟨some 5, (.assign (.tmp 14)), none⟩]))))))
  (.seq (.reg [⟨some 4, (.assign (.const (.int .i64 (-1)))), none⟩])
   .ret)))
theorem k24 : FOK Try.prog 24 26 c24 [4] := ⟨⟨[12, 14, 15, 16, 17], Try.f24, _, by kernel_rfl, by kernel_rfl, rfl, by kernel_rfl, rfl, by kernel_rfl, by decide⟩⟩

/-- (*timesync.timesyncref28.Limiter).forget -/
def c25 : SC :=
  (.seq (.reg [⟨some 2, (.assign (.const (.int .i64 0))), none⟩])
 (.seq (.seq (.reg [⟨some 3, (.assign (.const (.int .i64 1))), none⟩])
   (.block 0
    (.loop
     (.seq (.seq (.reg [⟨some 4, (.move (.tmp 3)), none⟩,
         ⟨some 5, (.move (.tmp 0)), none⟩,
         ⟨some 6, (.nilCheck (.tmp 5)), none⟩,
         ⟨some 7, (.fieldAddr 52 (.tmp 6) 1), none⟩,
         ⟨some 8, (.load 50 (.tmp 7)), none⟩,
         ⟨some 9, (.call { callee := (.builtin .len), args := #[(.tmp 8)], argTypes := #[50] }), none⟩,
         ⟨some 10, (.binOp .lss 3 (.tmp 4) (.tmp 9) 3), none⟩])
       (.cond (.tmp 10)
        .skip
        (.exit 0)))
      (.seq (.block 1
        (.seq (.regq [⟨some 13, (.move (.tmp 0)), none⟩,
           ⟨some 14, (.nilCheck (.tmp 13)), none⟩,
           ⟨some 15, (.fieldAddr 52 (.tmp 14) 1), none⟩,
           ⟨some 16, (.load 50 (.tmp 15)), none⟩,
           ⟨some 17, (.move (.tmp 3)), none⟩,
           ⟨some 18, (.indexAddr 50 (.tmp 16) (.tmp 17)), none⟩,
           ⟨some 19, (.fieldAddr 59 (.tmp 18) 1), none⟩,
           ⟨some 20, (.load 3 (.tmp 19)), none⟩,
           ⟨some 21, (.move (.tmp 0)), none⟩,
           ⟨some 22, (.nilCheck (.tmp 21)), none⟩,
           ⟨some 23, (.fieldAddr 52 (.tmp 22) 1), none⟩,
           ⟨some 24, (.load 50 (.tmp 23)), none⟩,
           ⟨some 25, (.move (.tmp 2)), none⟩,
           ⟨some 26, (.indexAddr 50 (.tmp 24) (.tmp 25)), none⟩,
           ⟨some 27, (.fieldAddr 59 (.tmp 26) 1), none⟩,
           ⟨some 28, (.load 3 (.tmp 27)), none⟩,
           ⟨some 29, (.binOp .lss 3 (.tmp 20) (.tmp 28) 3), none⟩])
         (.cond (.tmp 29)
          (.reg [⟨some 30, (.move (.tmp 3)), none⟩,
            ⟨some 2, (.assign (.tmp 30)), none⟩])
          .skip)))
       (.reg [⟨some 11, (.move (.tmp 3)), none⟩,
         ⟨some 12, (.binOp .add 3 (.tmp 11) (.const (.int .i64 1)) 3), none⟩,
         ⟨some 3, (.assign (.tmp 12)), none⟩]))))))
  (.regh (.take ⟨some 31, (.move (.tmp 0)), none⟩
 (.take ⟨some 33, (.move (.tmp 0)), none⟩
 (.take ⟨some 34, (.nilCheck (.tmp 33)), none⟩
 (.take ⟨some 35, (.fieldAddr 52 (.tmp 34) 1), none⟩
 (.load ⟨some 36, (.load 50 (.tmp 35)), none⟩ (.tmp 35)
 (.take ⟨some 37, (.move (.tmp 2)), none⟩
 (.take ⟨some 38, (.slice 50 (.tmp 36) none (some (.tmp 37)) none), none⟩
 (.take ⟨some 40, (.move (.tmp 0)), none⟩
 (.take ⟨some 41, (.nilCheck (.tmp 40)), none⟩
 (.take ⟨some 42, (.fieldAddr 52 (.tmp 41) 1), none⟩
 (.load ⟨some 43, (.load 50 (.tmp 42)), none⟩ (.tmp 42)
 (.take ⟨some 44, (.move (.tmp 2)), none⟩
 (.take ⟨some 45, (.binOp .add 3 (.tmp 44) (.const (.int .i64 1)) 3), none⟩
 (.take ⟨some 46, (.slice 50 (.tmp 43) (some (.tmp 45)) none none), none⟩
 (.step ⟨some 32, (.buildSlice 50 0 #[]), none⟩
 (.step ⟨some 39, (.call { callee := (.builtin .append), args := #[(.tmp 32), (.tmp 38)], argTypes := #[50, 50] }), none⟩
 (.step ⟨some 47, (.call { callee := (.builtin .append), args := #[(.tmp 39), (.tmp 46)], argTypes := #[50, 50] }), none⟩
 (.takf ⟨some 48, (.nilCheck (.tmp 31)), none⟩
 (.takf ⟨some 49, (.fieldAddr 52 (.tmp 48) 1), none⟩
 (.fin ⟨none, (.store 50 (.tmp 49) (.tmp 47)), none⟩
 .done)))))))))))))))))))))))
theorem k25 : FOK Try.prog 25 50 c25 [] := ⟨⟨[12, 14, 15, 16, 17], Try.f25, _, by kernel_rfl, by kernel_rfl, rfl, by kernel_rfl, rfl, by kernel_rfl, by decide⟩⟩

/-- (*timesync.timesyncref28.Limiter).insert -/
def c26 : SC :=
  (.seq (.reg [⟨some 3, (.box 59 (.tmp 1)), none⟩])
 (.seq (.reg [⟨some 4, (.assign (.const (.int .i64 0))), none⟩])
  (.seq (.block 0
    (.loop
     (.seq (.seq (.regq [⟨some 5, (.move (.tmp 4)), none⟩,
         ⟨some 6, (.move (.tmp 0)), none⟩,
         ⟨some 7, (.nilCheck (.tmp 6)), none⟩,
         ⟨some 8, (.fieldAddr 52 (.tmp 7) 1), none⟩,
         ⟨some 9, (.load 50 (.tmp 8)), none⟩,
         ⟨some 10, (.call { callee := (.builtin .len), args := #[(.tmp 9)], argTypes := #[50] }), none⟩,
         ⟨some 11, (.binOp .lss 3 (.tmp 5) (.tmp 10) 3), none⟩,
         ⟨some 12, (.move (.tmp 11)), none⟩,
         ⟨some 13, (.move (.tmp 0)), some (12, true)⟩,
         ⟨some 14, (.nilCheck (.tmp 13)), some (12, true)⟩,
         ⟨some 15, (.fieldAddr 52 (.tmp 14) 1), some (12, true)⟩,
         ⟨some 16, (.load 50 (.tmp 15)), some (12, true)⟩,
         ⟨some 17, (.move (.tmp 4)), some (12, true)⟩,
         ⟨some 18, (.indexAddr 50 (.tmp 16) (.tmp 17)), some (12, true)⟩,
         ⟨some 19, (.fieldAddr 59 (.tmp 18) 0), some (12, true)⟩,
         ⟨some 20, (.load 3 (.tmp 19)), some (12, true)⟩,
         ⟨some 21, (.fieldAddr 59 (.tmp 3) 0), some (12, true)⟩,
         ⟨some 22, (.load 3 (.tmp 21)), some (12, true)⟩,
         ⟨some 23, (.binOp .lss 3 (.tmp 20) (.tmp 22) 3), some (12, true)⟩,
         ⟨some 24, (.pick (.tmp 12) (.tmp 23) (.const (.bool false))), none⟩])
       (.cond (.tmp 24)
        .skip
        (.exit 0)))
      (.block 1
       (.reg [⟨some 25, (.move (.tmp 4)), none⟩,
         ⟨some 26, (.binOp .add 3 (.tmp 25) (.const (.int .i64 1)) 3), none⟩,
         ⟨some 4, (.assign (.tmp 26)), none⟩])))))
   (.regh (.take ⟨some 27, (.move (.tmp 0)), none⟩
 (.take ⟨some 29, (.move (.tmp 0)), none⟩
 (.take ⟨some 30, (.nilCheck (.tmp 29)), none⟩
 (.take ⟨some 31, (.fieldAddr 52 (.tmp 30) 1), none⟩
 (.load ⟨some 32, (.load 50 (.tmp 31)), none⟩ (.tmp 31)
 (.take ⟨some 33, (.move (.tmp 4)), none⟩
 (.take ⟨some 34, (.slice 50 (.tmp 32) none (some (.tmp 33)) none), none⟩
 (.load ⟨some 36, (.load 59 (.tmp 3)), none⟩ (.tmp 3)
 (.take ⟨some 39, (.move (.tmp 0)), none⟩
 (.take ⟨some 40, (.nilCheck (.tmp 39)), none⟩
 (.take ⟨some 41, (.fieldAddr 52 (.tmp 40) 1), none⟩
 (.load ⟨some 42, (.load 50 (.tmp 41)), none⟩ (.tmp 41)
 (.take ⟨some 43, (.move (.tmp 4)), none⟩
 (.take ⟨some 44, (.slice 50 (.tmp 42) (some (.tmp 43)) none none), none⟩
 (.both (.step ⟨some 28, (.buildSlice 50 0 #[]), none⟩
 (.both (.step ⟨some 35, (.call { callee := (.builtin .append), args := #[(.tmp 28), (.tmp 34)], argTypes := #[50, 50] }), none⟩
 (.step ⟨some 37, (.buildSlice 50 1 #[(0, (.tmp 36))]), none⟩
 (.step ⟨some 38, (.call { callee := (.builtin .append), args := #[(.tmp 35), (.tmp 37)], argTypes := #[50, 50] }), none⟩
 (.step ⟨some 45, (.call { callee := (.builtin .append), args := #[(.tmp 38), (.tmp 44)], argTypes := #[50, 50] }), none⟩
 (.takf ⟨some 46, (.nilCheck (.tmp 27)), none⟩
 (.takf ⟨some 47, (.fieldAddr 52 (.tmp 46) 1), none⟩
 (.fin ⟨none, (.store 50 (.tmp 47) (.tmp 45)), none⟩
 .done)))))))
 (.step ⟨some 37, (.buildSlice 50 1 #[(0, (.tmp 36))]), none⟩
 (.step ⟨some 35, (.call { callee := (.builtin .append), args := #[(.tmp 28), (.tmp 34)], argTypes := #[50, 50] }), none⟩
 (.step ⟨some 38, (.call { callee := (.builtin .append), args := #[(.tmp 35), (.tmp 37)], argTypes := #[50, 50] }), none⟩
 (.step ⟨some 45, (.call { callee := (.builtin .append), args := #[(.tmp 38), (.tmp 44)], argTypes := #[50, 50] }), none⟩
 (.takf ⟨some 46, (.nilCheck (.tmp 27)), none⟩
 (.takf ⟨some 47, (.fieldAddr 52 (.tmp 46) 1), none⟩
 (.fin ⟨none, (.store 50 (.tmp 47) (.tmp 45)), none⟩
 .done)))))))))
 (.step ⟨some 37, (.buildSlice 50 1 #[(0, (.tmp 36))]), none⟩
 (.step ⟨some 28, (.buildSlice 50 0 #[]), none⟩
 (.step ⟨some 35, (.call { callee := (.builtin .append), args := #[(.tmp 28), (.tmp 34)], argTypes := #[50, 50] }), none⟩
 (.step ⟨some 38, (.call { callee := (.builtin .append), args := #[(.tmp 35), (.tmp 37)], argTypes := #[50, 50] }), none⟩
 (.step ⟨some 45, (.call { callee := (.builtin .append), args := #[(.tmp 38), (.tmp 44)], argTypes := #[50, 50] }), none⟩
 (.takf ⟨some 46, (.nilCheck (.tmp 27)), none⟩
 (.takf ⟨some 47, (.fieldAddr 52 (.tmp 46) 1), none⟩
 (.fin ⟨none, (.store 50 (.tmp 47) (.tmp 45)), none⟩
 .done)))))))))))))))))))))))))))
theorem k26 : FOK Try.prog 26 48 c26 [] := ⟨⟨[12, 14, 15, 16, 17], Try.f26, _, by kernel_rfl, by kernel_rfl, rfl, by kernel_rfl, rfl, by kernel_rfl, by decide⟩⟩

/-- maps.Keys[map[int]timesync.limiter.known,int,timesync.limiter.known] -/
def c28 : SC :=
  (.seq (.reg [⟨some 1, (.box 47 (.tmp 0)), none⟩,
   ⟨some 2, (.assign (.const .nilFunc)), none⟩])
 (.seq (.reg [⟨some 3, (.makeFunc (Go.Fn.func 33) #[] #[(.tmp 1)]), none⟩,
    ⟨some 2, (.assign (.tmp 3)), none⟩])
  .ret))
theorem k28 : FOK Try.prog 28 4 c28 [2] := ⟨⟨[12, 14, 15, 16, 17], Try.f28, _, by kernel_rfl, by kernel_rfl, rfl, by kernel_rfl, rfl, by kernel_rfl, by decide⟩⟩

/-- slices.MinFunc[[]int,int] -/
def c29 : SC :=
  (.seq (.reg [⟨some 4, (.assign (.const (.int .i64 0))), none⟩])
 (.seq (.seq (.reg [⟨some 7, (.move (.tmp 0)), none⟩,
     ⟨some 8, (.call { callee := (.builtin .len), args := #[(.tmp 7)], argTypes := #[40] }), none⟩,
     ⟨some 9, (.binOp .lss 3 (.tmp 8) (.const (.int .i64 1)) 3), none⟩])
   (.cond (.tmp 9)
    (.reg [⟨some 10, (.makeInterface 9 (.const (.string { data := #[115, 108, 105, 99, 101, 115, 46, 77, 105, 110, 70, 117, 110, 99, 58, 32, 101, 109, 112, 116, 121, 32, 108, 105, 115, 116] }))), none⟩,
      ⟨none, (.panic (.tmp 10)), none⟩])
    .skip))
  (.seq (.reg [⟨some 11, (.move (.tmp 0)), none⟩,
     ⟨some 12, (.indexAddr 40 (.tmp 11) (.const (.int .i64 0))), none⟩,
     ⟨some 13, (.load 3 (.tmp 12)), none⟩,
     ⟨some 5, (.assign (.tmp 13)), none⟩])
   (.seq (.seq (.reg [⟨some 6, (.assign (.const (.int .i64 1))), none⟩])
     (.block 0
      (.loop
       (.seq (.seq (.reg [⟨some 14, (.move (.tmp 6)), none⟩,
           ⟨some 15, (.move (.tmp 0)), none⟩,
           ⟨some 16, (.call { callee := (.builtin .len), args := #[(.tmp 15)], argTypes := #[40] }), none⟩,
           ⟨some 17, (.binOp .lss 3 (.tmp 14) (.tmp 16) 3), none⟩])
         (.cond (.tmp 17)
          .skip
          (.exit 0)))
        (.seq (.block 1
          (.seq (.reg [⟨some 20, (.move (.tmp 1)), none⟩,
             ⟨some 21, (.move (.tmp 0)), none⟩,
             ⟨some 22, (.move (.tmp 6)), none⟩,
             ⟨some 23, (.indexAddr 40 (.tmp 21) (.tmp 22)), none⟩,
             ⟨some 24, (.load 3 (.tmp 23)), none⟩,
             ⟨some 25, (.move (.tmp 5)), none⟩,
             ⟨some 26, (.call { callee := (.value (.tmp 20)), args := #[(.tmp 24), (.tmp 25)], argTypes := #[3, 3] }), none⟩,
             ⟨some 27, (.binOp .lss 3 (.tmp 26) (.const (.int .i64 0)) 3), none⟩])
           (.cond (.tmp 27)
            (.reg [⟨some 28, (.move (.tmp 0)), none⟩,
              ⟨some 29, (.move (.tmp 6)), none⟩,
              ⟨some 30, (.indexAddr 40 (.tmp 28) (.tmp 29)), none⟩,
              ⟨some 31, (.load 3 (.tmp 30)), none⟩,
              ⟨some 5, (.assign (.tmp 31)), none⟩])
            .skip)))
         (.reg [⟨some 18, (.move (.tmp 6)), none⟩,
           ⟨some 19, (.binOp .add 3 (.tmp 18) (.const (.int .i64 1)) 3), none⟩,
           ⟨some 6, (.assign (.tmp 19)), none⟩]))))))
    (.seq (.reg [⟨some 32, (.move (.tmp 5)), none⟩,
       ⟨some 4, (.assign (.tmp 32)), none⟩])
     .ret)))))
theorem k29 : FOK Try.prog 29 33 c29 [4] := ⟨⟨[12, 14, 15, 16, 17], Try.f29, _, by kernel_rfl, by kernel_rfl, rfl, by kernel_rfl, rfl, by kernel_rfl, by decide⟩⟩

/-- (*timesync.limiter.Limiter).forget$1 -/
def c30 : SC :=
  (.seq (.reg [⟨some 5, (.assign (.const (.int .i64 0))), none⟩])
 (.seq (.regq [⟨some 6, (.load 26 (.tmp 2)), none⟩,
    ⟨some 7, (.nilCheck (.tmp 6)), none⟩,
    ⟨some 8, (.fieldAddr 49 (.tmp 7) 2), none⟩,
    ⟨some 9, (.load 47 (.tmp 8)), none⟩,
    ⟨some 10, (.move (.tmp 0)), none⟩,
    ⟨some 11, (.lookup 47 (.tmp 9) (.tmp 10) false), none⟩,
    ⟨some 12, (.field 54 (.tmp 11) 0), none⟩,
    ⟨some 13, (.load 26 (.tmp 2)), none⟩,
    ⟨some 14, (.nilCheck (.tmp 13)), none⟩,
    ⟨some 15, (.fieldAddr 49 (.tmp 14) 2), none⟩,
    ⟨some 16, (.load 47 (.tmp 15)), none⟩,
    ⟨some 17, (.move (.tmp 1)), none⟩,
    ⟨some 18, (.lookup 47 (.tmp 16) (.tmp 17) false), none⟩,
    ⟨some 19, (.field 54 (.tmp 18) 0), none⟩,
    ⟨some 20, (.binOp .sub 3 (.tmp 12) (.tmp 19) 3), none⟩,
    ⟨some 5, (.assign (.tmp 20)), none⟩])
  .ret))
theorem k30 : FOK Try.prog 30 21 c30 [5] := ⟨⟨[12, 14, 15, 16, 17], Try.f30, _, by kernel_rfl, by kernel_rfl, rfl, by kernel_rfl, rfl, by kernel_rfl, by decide⟩⟩

end Go.Proofs.Ythiaegigndlnpaa.A
