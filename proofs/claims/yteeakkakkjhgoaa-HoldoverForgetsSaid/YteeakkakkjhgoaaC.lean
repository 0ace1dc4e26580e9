/- The code of the functions, without what the walk does not look at. Conditions: none. -/
import Derived.Test.YteeakkakkjhgoaaA10
import Derived.Test.YteeakkakkjhgoaaProg
import Derived.KernelRfl
set_option linter.unusedVariables false
set_option maxRecDepth 100000
namespace Go.Proofs.Yteeakkakkjhgoaa.A
open Go
/-- timesync.timesynclaw14.HoldoverChecks -/
def c3 : SC :=
  (.seq (.reg [⟨some 1, (.box 23 (.tmp 0)), none⟩,
   ⟨some 2, (.assign (.const (.bool false))), none⟩])
 (.seq (.regh (.load ⟨some 3, (.load 23 (.tmp 1)), none⟩ (.tmp 1)
 (.load ⟨some 5, (.load 23 (.tmp 1)), none⟩ (.tmp 1)
 (.step ⟨some 4, (.call { callee := (.value (.func 9)), args := #[(.tmp 3)], argTypes := #[23] }), none⟩
 (.step ⟨some 6, (.call { callee := (.value (.func 10)), args := #[(.tmp 5)], argTypes := #[23] }), none⟩
 (.take ⟨some 7, (.binOp .eql 24 (.tmp 4) (.tmp 6) 24), none⟩
 (.take ⟨some 8, (.move (.tmp 7)), none⟩
 (.load ⟨some 9, (.load 23 (.tmp 1)), some (8, true)⟩ (.tmp 1)
 (.load ⟨some 12, (.load 23 (.tmp 1)), some (8, true)⟩ (.tmp 1)
 (.step ⟨some 10, (.call { callee := (.value (.func 11)), args := #[(.tmp 9)], argTypes := #[23] }), some (8, true)⟩
 (.take ⟨some 11, (.binOp .eql 26 (.tmp 10) (.const (.pointer none)) 26), some (8, true)⟩
 (.step ⟨some 13, (.call { callee := (.value (.func 12)), args := #[(.tmp 12)], argTypes := #[23] }), some (8, true)⟩
 (.take ⟨some 14, (.binOp .eql 28 (.tmp 13) (.const (.pointer none)) 28), some (8, true)⟩
 (.take ⟨some 15, (.binOp .eql 4 (.tmp 11) (.tmp 14) 4), some (8, true)⟩
 (.take ⟨some 16, (.pick (.tmp 8) (.tmp 15) (.const (.bool false))), none⟩
 (.take ⟨some 17, (.move (.tmp 16)), none⟩
 (.step ⟨some 18, (.call { callee := (.value (.func 13)), args := #[], argTypes := #[] }), some (17, true)⟩
 (.take ⟨some 19, (.pick (.tmp 17) (.tmp 18) (.const (.bool false))), none⟩
 (.takf ⟨some 2, (.assign (.tmp 19)), none⟩
 .done)))))))))))))))))))
  .ret))
theorem k3 : FOK Try.prog 3 20 c3 [2] := ⟨⟨[9, 10, 11, 12, 13], Try.f3, _, by kernel_rfl, by kernel_rfl, rfl, by kernel_rfl, rfl, by kernel_rfl, by decide⟩⟩

/-- timesync.timesynclaw14.HoldoverRuns -/
def c4 : SC :=
  (.seq (.reg [⟨some 2, (.box 23 (.tmp 0)), none⟩,
   ⟨some 4, (.assign (.const (.bool false))), none⟩])
 (.seq (.seq (.reg [⟨some 8, (.move (.tmp 1)), none⟩,
     ⟨some 9, (.call { callee := (.builtin .len), args := #[(.tmp 8)], argTypes := #[32] }), none⟩,
     ⟨some 10, (.binOp .gtr 3 (.tmp 9) (.const (.int .i64 60)) 3), none⟩])
   (.cond (.tmp 10)
    (.seq (.reg [⟨some 11, (.call { callee := (.value (.func 13)), args := #[], argTypes := #[] }), none⟩,
       ⟨some 4, (.assign (.tmp 11)), none⟩])
     .ret)
    .skip))
  (.seq (.reg [⟨some 13, (.load 23 (.tmp 2)), none⟩,
     ⟨some 14, (.move (.tmp 1)), none⟩,
     ⟨some 15, (.call { callee := (.value (.func 14)), args := #[(.tmp 13), (.tmp 14)], argTypes := #[23, 32] }), none⟩,
     ⟨some 12, (.move (.tmp 15)), none⟩,
     ⟨some 16, (.extract (.tmp 12) 0), none⟩,
     ⟨some 17, (.extract (.tmp 12) 1), none⟩,
     ⟨some 18, (.extract (.tmp 12) 2), none⟩,
     ⟨some 5, (.assign (.tmp 16)), none⟩,
     ⟨some 6, (.assign (.tmp 17)), none⟩,
     ⟨some 7, (.assign (.tmp 18)), none⟩])
   (.seq (.reg [⟨some 19, (.move (.tmp 7)), none⟩,
      ⟨some 20, (.move (.tmp 19)), none⟩,
      ⟨some 21, (.call { callee := (.value (.func 13)), args := #[], argTypes := #[] }), some (20, true)⟩,
      ⟨some 22, (.pick (.tmp 20) (.tmp 21) (.const (.bool false))), none⟩,
      ⟨some 4, (.assign (.tmp 22)), none⟩])
    .ret))))
theorem k4 : FOK Try.prog 4 23 c4 [4] := ⟨⟨[9, 10, 11, 12, 13], Try.f4, _, by kernel_rfl, by kernel_rfl, rfl, by kernel_rfl, rfl, by kernel_rfl, by decide⟩⟩

/-- timesync.timesynclaw14.HoldoverErrors -/
def c5 : SC :=
  (.seq (.reg [⟨some 3, (.box 23 (.tmp 0)), none⟩,
   ⟨some 6, (.assign (.const (.bool false))), none⟩])
 (.seq (.seq (.reg [⟨some 14, (.move (.tmp 1)), none⟩,
     ⟨some 15, (.call { callee := (.builtin .len), args := #[(.tmp 14)], argTypes := #[32] }), none⟩,
     ⟨some 16, (.binOp .gtr 3 (.tmp 15) (.const (.int .i64 60)) 3), none⟩])
   (.cond (.tmp 16)
    (.seq (.reg [⟨some 17, (.call { callee := (.value (.func 13)), args := #[], argTypes := #[] }), none⟩,
       ⟨some 6, (.assign (.tmp 17)), none⟩])
     .ret)
    .skip))
  (.seq (.reg [⟨some 19, (.load 23 (.tmp 3)), none⟩,
     ⟨some 20, (.move (.tmp 1)), none⟩,
     ⟨some 21, (.call { callee := (.value (.func 14)), args := #[(.tmp 19), (.tmp 20)], argTypes := #[23, 32] }), none⟩,
     ⟨some 18, (.move (.tmp 21)), none⟩,
     ⟨some 22, (.extract (.tmp 18) 0), none⟩,
     ⟨some 23, (.extract (.tmp 18) 1), none⟩,
     ⟨some 24, (.extract (.tmp 18) 2), none⟩,
     ⟨some 7, (.assign (.tmp 22)), none⟩,
     ⟨some 8, (.assign (.tmp 23)), none⟩,
     ⟨some 9, (.assign (.tmp 24)), none⟩])
   (.seq (.reg [⟨some 26, (.move (.tmp 7)), none⟩,
      ⟨some 27, (.move (.tmp 2)), none⟩,
      ⟨some 28, (.call { callee := (.value (.func 15)), args := #[(.tmp 26), (.tmp 27)], argTypes := #[26, 3] }), none⟩,
      ⟨some 25, (.move (.tmp 28)), none⟩,
      ⟨some 29, (.extract (.tmp 25) 0), none⟩,
      ⟨some 30, (.extract (.tmp 25) 1), none⟩,
      ⟨some 10, (.assign (.tmp 29)), none⟩,
      ⟨some 11, (.assign (.tmp 30)), none⟩])
    (.seq (.reg [⟨some 32, (.move (.tmp 8)), none⟩,
       ⟨some 33, (.move (.tmp 2)), none⟩,
       ⟨some 34, (.call { callee := (.value (.func 16)), args := #[(.tmp 32), (.tmp 33)], argTypes := #[28, 3] }), none⟩,
       ⟨some 31, (.move (.tmp 34)), none⟩,
       ⟨some 35, (.extract (.tmp 31) 0), none⟩,
       ⟨some 36, (.extract (.tmp 31) 1), none⟩,
       ⟨some 12, (.assign (.tmp 35)), none⟩,
       ⟨some 13, (.assign (.tmp 36)), none⟩])
     (.seq (.reg [⟨some 37, (.move (.tmp 9)), none⟩,
        ⟨some 38, (.move (.tmp 37)), none⟩,
        ⟨some 39, (.move (.tmp 10)), some (38, true)⟩,
        ⟨some 40, (.move (.tmp 12)), some (38, true)⟩,
        ⟨some 41, (.binOp .eql 3 (.tmp 39) (.tmp 40) 3), some (38, true)⟩,
        ⟨some 42, (.pick (.tmp 38) (.tmp 41) (.const (.bool false))), none⟩,
        ⟨some 43, (.move (.tmp 42)), none⟩,
        ⟨some 44, (.move (.tmp 11)), some (43, true)⟩,
        ⟨some 45, (.move (.tmp 13)), some (43, true)⟩,
        ⟨some 46, (.binOp .eql 24 (.tmp 44) (.tmp 45) 24), some (43, true)⟩,
        ⟨some 47, (.pick (.tmp 43) (.tmp 46) (.const (.bool false))), none⟩,
        ⟨some 48, (.move (.tmp 47)), none⟩,
        ⟨some 49, (.move (.tmp 7)), some (48, true)⟩,
        ⟨some 50, (.move (.tmp 2)), some (48, true)⟩,
        ⟨some 51, (.call { callee := (.value (.func 17)), args := #[(.tmp 49), (.tmp 50)], argTypes := #[26, 3] }), some (48, true)⟩,
        ⟨some 52, (.move (.tmp 8)), some (48, true)⟩,
        ⟨some 53, (.move (.tmp 2)), some (48, true)⟩,
        ⟨some 54, (.call { callee := (.value (.func 18)), args := #[(.tmp 52), (.tmp 53)], argTypes := #[28, 3] }), some (48, true)⟩,
        ⟨some 55, (.binOp .eql 3 (.tmp 51) (.tmp 54) 3), some (48, true)⟩,
        ⟨some 56, (.pick (.tmp 48) (.tmp 55) (.const (.bool false))), none⟩,
        ⟨some 57, (.move (.tmp 56)), none⟩,
        ⟨some 58, (.call { callee := (.value (.func 13)), args := #[], argTypes := #[] }), some (57, true)⟩,
        ⟨some 59, (.pick (.tmp 57) (.tmp 58) (.const (.bool false))), none⟩,
        ⟨some 6, (.assign (.tmp 59)), none⟩])
      .ret))))))
theorem k5 : FOK Try.prog 5 60 c5 [6] := ⟨⟨[9, 10, 11, 12, 13], Try.f5, _, by kernel_rfl, by kernel_rfl, rfl, by kernel_rfl, rfl, by kernel_rfl, by decide⟩⟩

/-- timesync.timesynclaw14.HoldoverGrows -/
def c6 : SC :=
  (.seq (.reg [⟨some 4, (.box 23 (.tmp 0)), none⟩,
   ⟨some 8, (.assign (.const (.bool false))), none⟩])
 (.seq (.reg [⟨some 16, (.load 23 (.tmp 4)), none⟩,
    ⟨some 17, (.call { callee := (.value (.func 11)), args := #[(.tmp 16)], argTypes := #[23] }), none⟩,
    ⟨some 9, (.assign (.tmp 17)), none⟩])
  (.seq (.seq (.reg [⟨some 18, (.move (.tmp 1)), none⟩,
      ⟨some 19, (.call { callee := (.builtin .len), args := #[(.tmp 18)], argTypes := #[32] }), none⟩,
      ⟨some 20, (.binOp .gtr 3 (.tmp 19) (.const (.int .i64 60)) 3), none⟩,
      ⟨some 21, (.move (.tmp 20)), none⟩,
      ⟨some 22, (.move (.tmp 9)), some (21, false)⟩,
      ⟨some 23, (.binOp .eql 26 (.tmp 22) (.const (.pointer none)) 26), some (21, false)⟩,
      ⟨some 24, (.pick (.tmp 21) (.const (.bool true)) (.tmp 23)), none⟩,
      ⟨some 25, (.move (.tmp 24)), none⟩,
      ⟨some 26, (.move (.tmp 2)), some (25, false)⟩,
      ⟨some 27, (.move (.tmp 3)), some (25, false)⟩,
      ⟨some 28, (.binOp .gtr 3 (.tmp 26) (.tmp 27) 3), some (25, false)⟩,
      ⟨some 29, (.pick (.tmp 25) (.const (.bool true)) (.tmp 28)), none⟩])
    (.cond (.tmp 29)
     (.seq (.reg [⟨some 30, (.call { callee := (.value (.func 13)), args := #[], argTypes := #[] }), none⟩,
        ⟨some 8, (.assign (.tmp 30)), none⟩])
      .ret)
     .skip))
   (.seq (.seq (.reg [⟨some 31, (.move (.tmp 1)), none⟩,
       ⟨some 32, (.call { callee := (.builtin .len), args := #[(.tmp 31)], argTypes := #[32] }), none⟩,
       ⟨some 33, (.move (.const (.int .i64 0))), none⟩])
     (.block 0
      (.loop
       (.seq (.reg [⟨some 34, (.binOp .lss 3 (.tmp 33) (.tmp 32) 3), none⟩])
        (.seq (.cond (.tmp 34)
          .skip
          (.exit 0))
         (.seq (.block 1
           (.seq (.reg [⟨some 35, (.indexAddr 32 (.tmp 31) (.tmp 33)), none⟩,
              ⟨some 36, (.load 41 (.tmp 35)), none⟩,
              ⟨some 11, (.alloc 41), none⟩,
              ⟨none, (.store 41 (.tmp 11) (.tmp 36)), none⟩])
            (.seq (.reg [⟨some 37, (.fieldAddr 41 (.tmp 11) 0), none⟩,
               ⟨some 38, (.load 5 (.tmp 37)), none⟩,
               ⟨some 39, (.binOp .eql 5 (.tmp 38) (.const (.int .u8 0)) 5), none⟩])
             (.cond (.tmp 39)
              (.reg [⟨some 40, (.move (.tmp 9)), none⟩,
                ⟨some 41, (.fieldAddr 41 (.tmp 11) 1), none⟩,
                ⟨some 42, (.load 3 (.tmp 41)), none⟩,
                ⟨some 43, (.fieldAddr 41 (.tmp 11) 2), none⟩,
                ⟨some 44, (.load 3 (.tmp 43)), none⟩,
                ⟨some 45, (.call { callee := (.value (.func 19)), args := #[(.tmp 40), (.tmp 42), (.tmp 44)], argTypes := #[26, 3, 3] }), none⟩])
              (.seq (.reg [⟨some 46, (.fieldAddr 41 (.tmp 11) 0), none⟩,
                 ⟨some 47, (.load 5 (.tmp 46)), none⟩,
                 ⟨some 48, (.binOp .eql 5 (.tmp 47) (.const (.int .u8 1)) 5), none⟩])
               (.cond (.tmp 48)
                (.reg [⟨some 49, (.move (.tmp 9)), none⟩,
                  ⟨some 50, (.fieldAddr 41 (.tmp 11) 1), none⟩,
                  ⟨some 51, (.load 3 (.tmp 50)), none⟩,
                  ⟨some 52, (.call { callee := (.value (.func 20)), args := #[(.tmp 49), (.tmp 51)], argTypes := #[26, 3] }), none⟩])
                .skip))))))
          (.reg [⟨some 53, (.binOp .add 3 (.tmp 33) (.const (.int .i64 1)) 3), none⟩,
            ⟨some 33, (.move (.tmp 53)), none⟩])))))))
    (.seq (.reg [⟨some 55, (.move (.tmp 9)), none⟩,
       ⟨some 56, (.move (.tmp 2)), none⟩,
       ⟨some 57, (.call { callee := (.value (.func 15)), args := #[(.tmp 55), (.tmp 56)], argTypes := #[26, 3] }), none⟩,
       ⟨some 54, (.move (.tmp 57)), none⟩,
       ⟨some 58, (.extract (.tmp 54) 0), none⟩,
       ⟨some 59, (.extract (.tmp 54) 1), none⟩,
       ⟨some 12, (.assign (.tmp 58)), none⟩,
       ⟨some 13, (.assign (.tmp 59)), none⟩])
     (.seq (.reg [⟨some 61, (.move (.tmp 9)), none⟩,
        ⟨some 62, (.move (.tmp 3)), none⟩,
        ⟨some 63, (.call { callee := (.value (.func 15)), args := #[(.tmp 61), (.tmp 62)], argTypes := #[26, 3] }), none⟩,
        ⟨some 60, (.move (.tmp 63)), none⟩,
        ⟨some 64, (.extract (.tmp 60) 0), none⟩,
        ⟨some 65, (.extract (.tmp 60) 1), none⟩,
        ⟨some 14, (.assign (.tmp 64)), none⟩,
        ⟨some 15, (.assign (.tmp 65)), none⟩])
      (.seq (.seq (.reg [⟨some 66, (.move (.tmp 13)), none⟩,
          ⟨some 67, (.binOp .neq 24 (.tmp 66) (.const (.int .i64 0)) 24), none⟩,
          ⟨some 68, (.move (.tmp 67)), none⟩,
          ⟨some 69, (.move (.tmp 15)), some (68, false)⟩,
          ⟨some 70, (.binOp .neq 24 (.tmp 69) (.const (.int .i64 0)) 24), some (68, false)⟩,
          ⟨some 71, (.pick (.tmp 68) (.const (.bool true)) (.tmp 70)), none⟩])
        (.cond (.tmp 71)
         (.seq (.reg [⟨some 72, (.call { callee := (.value (.func 13)), args := #[], argTypes := #[] }), none⟩,
            ⟨some 8, (.assign (.tmp 72)), none⟩])
          .ret)
         .skip))
       (.seq (.reg [⟨some 73, (.move (.tmp 12)), none⟩,
          ⟨some 74, (.fieldAddr 23 (.tmp 4) 0), none⟩,
          ⟨some 75, (.load 3 (.tmp 74)), none⟩,
          ⟨some 76, (.binOp .geq 3 (.tmp 73) (.tmp 75) 3), none⟩,
          ⟨some 77, (.move (.tmp 76)), none⟩,
          ⟨some 78, (.move (.tmp 14)), some (77, true)⟩,
          ⟨some 79, (.move (.tmp 12)), some (77, true)⟩,
          ⟨some 80, (.binOp .geq 3 (.tmp 78) (.tmp 79) 3), some (77, true)⟩,
          ⟨some 81, (.pick (.tmp 77) (.tmp 80) (.const (.bool false))), none⟩,
          ⟨some 82, (.move (.tmp 81)), none⟩,
          ⟨some 83, (.move (.tmp 9)), some (82, true)⟩,
          ⟨some 84, (.move (.tmp 2)), some (82, true)⟩,
          ⟨some 85, (.call { callee := (.value (.func 17)), args := #[(.tmp 83), (.tmp 84)], argTypes := #[26, 3] }), some (82, true)⟩,
          ⟨some 86, (.binOp .neq 3 (.tmp 85) (.const (.int .i64 3)) 3), some (82, true)⟩,
          ⟨some 87, (.move (.tmp 86)), some (82, true)⟩,
          ⟨some 88, (.move (.tmp 9)), some (87, false)⟩,
          ⟨some 89, (.move (.tmp 3)), some (87, false)⟩,
          ⟨some 90, (.call { callee := (.value (.func 17)), args := #[(.tmp 88), (.tmp 89)], argTypes := #[26, 3] }), some (87, false)⟩,
          ⟨some 91, (.binOp .eql 3 (.tmp 90) (.const (.int .i64 3)) 3), some (87, false)⟩,
          ⟨some 92, (.pick (.tmp 87) (.const (.bool true)) (.tmp 91)), some (82, true)⟩,
          ⟨some 93, (.pick (.tmp 82) (.tmp 92) (.const (.bool false))), none⟩,
          ⟨some 94, (.move (.tmp 93)), none⟩,
          ⟨some 95, (.call { callee := (.value (.func 13)), args := #[], argTypes := #[] }), some (94, true)⟩,
          ⟨some 96, (.pick (.tmp 94) (.tmp 95) (.const (.bool false))), none⟩,
          ⟨some 8, (.assign (.tmp 96)), none⟩])
        .ret))))))))
theorem k6 : FOK Try.prog 6 97 c6 [8] := ⟨⟨[9, 10, 11, 12, 13], Try.f6, _, by kernel_rfl, by kernel_rfl, rfl, by kernel_rfl, rfl, by kernel_rfl, by decide⟩⟩

/-- timesync.timesynclaw14.HoldoverForgets -/
def c7 : SC :=
  (.seq (.reg [⟨some 2, (.box 23 (.tmp 0)), none⟩,
   ⟨some 4, (.assign (.const (.bool false))), none⟩])
 (.seq (.reg [⟨some 16, (.load 23 (.tmp 2)), none⟩,
    ⟨some 17, (.call { callee := (.value (.func 11)), args := #[(.tmp 16)], argTypes := #[23] }), none⟩,
    ⟨some 5, (.assign (.tmp 17)), none⟩])
  (.seq (.seq (.reg [⟨some 18, (.move (.tmp 1)), none⟩,
      ⟨some 19, (.call { callee := (.builtin .len), args := #[(.tmp 18)], argTypes := #[45] }), none⟩,
      ⟨some 20, (.binOp .gtr 3 (.tmp 19) (.const (.int .i64 60)) 3), none⟩,
      ⟨some 21, (.move (.tmp 20)), none⟩,
      ⟨some 22, (.move (.tmp 5)), some (21, false)⟩,
      ⟨some 23, (.binOp .eql 26 (.tmp 22) (.const (.pointer none)) 26), some (21, false)⟩,
      ⟨some 24, (.pick (.tmp 21) (.const (.bool true)) (.tmp 23)), none⟩])
    (.cond (.tmp 24)
     (.seq (.reg [⟨some 25, (.call { callee := (.value (.func 13)), args := #[], argTypes := #[] }), none⟩,
        ⟨some 4, (.assign (.tmp 25)), none⟩])
      .ret)
     .skip))
   (.seq (.reg [⟨some 6, (.assign (.const (.slice none 0 0))), none⟩])
    (.seq (.seq (.reg [⟨some 26, (.move (.tmp 1)), none⟩,
        ⟨some 27, (.call { callee := (.builtin .len), args := #[(.tmp 26)], argTypes := #[45] }), none⟩,
        ⟨some 28, (.move (.const (.int .i64 0))), none⟩])
      (.block 0
       (.loop
        (.seq (.reg [⟨some 29, (.binOp .lss 3 (.tmp 28) (.tmp 27) 3), none⟩])
         (.seq (.cond (.tmp 29)
           .skip
           (.exit 0))
          (.seq (.block 1
            (.seq (.reg [⟨some 30, (.move (.tmp 28)), none⟩,
               ⟨some 31, (.indexAddr 45 (.tmp 26) (.tmp 28)), none⟩,
               ⟨some 32, (.load 3 (.tmp 31)), none⟩,
               ⟨some 7, (.assign (.tmp 30)), none⟩,
               ⟨some 8, (.assign (.tmp 32)), none⟩])
             (.seq (.reg [⟨some 33, (.move (.tmp 5)), none⟩,
                ⟨some 34, (.move (.tmp 7)), none⟩,
                ⟨some 35, (.move (.tmp 8)), none⟩,
                ⟨some 36, (.call { callee := (.value (.func 19)), args := #[(.tmp 33), (.tmp 34), (.tmp 35)], argTypes := #[26, 3, 3] }), none⟩,
                ⟨some 37, (.binOp .eql 24 (.tmp 36) (.const (.int .i64 0)) 24), none⟩])
              (.cond (.tmp 37)
               (.reg [⟨some 38, (.move (.tmp 6)), none⟩,
                 ⟨some 39, (.move (.tmp 8)), none⟩,
                 ⟨some 40, (.buildSlice 45 1 #[(0, (.tmp 39))]), none⟩,
                 ⟨some 41, (.call { callee := (.builtin .append), args := #[(.tmp 38), (.tmp 40)], argTypes := #[45, 45] }), none⟩,
                 ⟨some 6, (.assign (.tmp 41)), none⟩])
               .skip))))
           (.reg [⟨some 42, (.binOp .add 3 (.tmp 28) (.const (.int .i64 1)) 3), none⟩,
             ⟨some 28, (.move (.tmp 42)), none⟩])))))))
     (.seq (.seq (.reg [⟨some 43, (.move (.tmp 6)), none⟩,
         ⟨some 44, (.call { callee := (.builtin .len), args := #[(.tmp 43)], argTypes := #[45] }), none⟩,
         ⟨some 45, (.binOp .gtr 3 (.tmp 44) (.const (.int .i64 16)) 3), none⟩])
       (.cond (.tmp 45)
        (.reg [⟨some 46, (.move (.tmp 6)), none⟩,
          ⟨some 47, (.move (.tmp 6)), none⟩,
          ⟨some 48, (.call { callee := (.builtin .len), args := #[(.tmp 47)], argTypes := #[45] }), none⟩,
          ⟨some 49, (.binOp .sub 3 (.tmp 48) (.const (.int .i64 16)) 3), none⟩,
          ⟨some 50, (.slice 45 (.tmp 46) (some (.tmp 49)) none none), none⟩,
          ⟨some 6, (.assign (.tmp 50)), none⟩])
        .skip))
      (.seq (.reg [⟨some 52, (.move (.tmp 5)), none⟩,
         ⟨some 53, (.call { callee := (.value (.func 21)), args := #[(.tmp 52)], argTypes := #[26] }), none⟩,
         ⟨some 51, (.move (.tmp 53)), none⟩,
         ⟨some 54, (.extract (.tmp 51) 0), none⟩,
         ⟨some 55, (.extract (.tmp 51) 1), none⟩,
         ⟨some 9, (.assign (.tmp 54)), none⟩,
         ⟨some 10, (.assign (.tmp 55)), none⟩])
       (.seq (.reg [⟨some 11, (.assign (.const (.int .i64 0))), none⟩,
          ⟨some 12, (.assign (.const (.int .i64 0))), none⟩])
        (.seq (.seq (.reg [⟨some 56, (.move (.tmp 6)), none⟩,
            ⟨some 57, (.call { callee := (.builtin .len), args := #[(.tmp 56)], argTypes := #[45] }), none⟩,
            ⟨some 58, (.move (.const (.int .i64 0))), none⟩])
          (.block 2
           (.loop
            (.seq (.reg [⟨some 59, (.binOp .lss 3 (.tmp 58) (.tmp 57) 3), none⟩])
             (.seq (.cond (.tmp 59)
               .skip
               (.exit 2))
              (.seq (.block 3
                (.seq (.reg [⟨some 60, (.indexAddr 45 (.tmp 56) (.tmp 58)), none⟩,
                   ⟨some 61, (.load 3 (.tmp 60)), none⟩,
                   ⟨some 14, (.assign (.tmp 61)), none⟩])
                 (.seq (.reg [⟨some 62, (.move (.tmp 14)), none⟩,
                    ⟨some 63, (.move (.tmp 9)), none⟩,
                    ⟨some 64, (.binOp .lss 3 (.tmp 62) (.tmp 63) 3), none⟩])
                  (.cond (.tmp 64)
                   (.reg [⟨some 65, (.move (.tmp 11)), none⟩,
                     ⟨some 66, (.binOp .add 3 (.tmp 65) (.const (.int .i64 1)) 3), none⟩,
                     ⟨some 11, (.assign (.tmp 66)), none⟩])
                   (.seq (.reg [⟨some 67, (.move (.tmp 14)), none⟩,
                      ⟨some 68, (.move (.tmp 9)), none⟩,
                      ⟨some 69, (.binOp .eql 3 (.tmp 67) (.tmp 68) 3), none⟩])
                    (.cond (.tmp 69)
                     (.reg [⟨some 70, (.move (.tmp 12)), none⟩,
                       ⟨some 71, (.binOp .add 3 (.tmp 70) (.const (.int .i64 1)) 3), none⟩,
                       ⟨some 12, (.assign (.tmp 71)), none⟩])
                     .skip))))))
               (.reg [⟨some 72, (.binOp .add 3 (.tmp 58) (.const (.int .i64 1)) 3), none⟩,
                 ⟨some 58, (.move (.tmp 72)), none⟩])))))))
         (.seq (.seq (.reg [⟨some 73, (.move (.tmp 6)), none⟩,
             ⟨some 74, (.call { callee := (.builtin .len), args := #[(.tmp 73)], argTypes := #[45] }), none⟩,
             ⟨some 75, (.binOp .eql 3 (.tmp 74) (.const (.int .i64 0)) 3), none⟩])
           (.cond (.tmp 75)
            (.seq (.reg [⟨some 76, (.move (.tmp 10)), none⟩,
               ⟨some 77, (.unOp .not 4 (.tmp 76)), none⟩,
               ⟨some 78, (.move (.tmp 77)), none⟩,
               ⟨some 79, (.move (.tmp 9)), some (78, true)⟩,
               ⟨some 80, (.binOp .eql 3 (.tmp 79) (.const (.int .i64 0)) 3), some (78, true)⟩,
               ⟨some 81, (.pick (.tmp 78) (.tmp 80) (.const (.bool false))), none⟩,
               ⟨some 82, (.move (.tmp 81)), none⟩,
               ⟨some 83, (.call { callee := (.value (.func 13)), args := #[], argTypes := #[] }), some (82, true)⟩,
               ⟨some 84, (.pick (.tmp 82) (.tmp 83) (.const (.bool false))), none⟩,
               ⟨some 4, (.assign (.tmp 84)), none⟩])
             .ret)
            .skip))
          (.seq (.reg [⟨some 85, (.move (.tmp 6)), none⟩,
             ⟨some 86, (.call { callee := (.builtin .len), args := #[(.tmp 85)], argTypes := #[45] }), none⟩,
             ⟨some 87, (.binOp .sub 3 (.tmp 86) (.const (.int .i64 1)) 3), none⟩,
             ⟨some 88, (.binOp .quo 3 (.tmp 87) (.const (.int .i64 2)) 3), none⟩,
             ⟨some 15, (.assign (.tmp 88)), none⟩])
           (.seq (.reg [⟨some 89, (.move (.tmp 10)), none⟩,
              ⟨some 90, (.move (.tmp 89)), none⟩,
              ⟨some 91, (.move (.tmp 11)), some (90, true)⟩,
              ⟨some 92, (.move (.tmp 15)), some (90, true)⟩,
              ⟨some 93, (.binOp .leq 3 (.tmp 91) (.tmp 92) 3), some (90, true)⟩,
              ⟨some 94, (.pick (.tmp 90) (.tmp 93) (.const (.bool false))), none⟩,
              ⟨some 95, (.move (.tmp 94)), none⟩,
              ⟨some 96, (.move (.tmp 11)), some (95, true)⟩,
              ⟨some 97, (.move (.tmp 12)), some (95, true)⟩,
              ⟨some 98, (.binOp .add 3 (.tmp 96) (.tmp 97) 3), some (95, true)⟩,
              ⟨some 99, (.move (.tmp 15)), some (95, true)⟩,
              ⟨some 100, (.binOp .gtr 3 (.tmp 98) (.tmp 99) 3), some (95, true)⟩,
              ⟨some 101, (.pick (.tmp 95) (.tmp 100) (.const (.bool false))), none⟩,
              ⟨some 102, (.move (.tmp 101)), none⟩,
              ⟨some 103, (.call { callee := (.value (.func 13)), args := #[], argTypes := #[] }), some (102, true)⟩,
              ⟨some 104, (.pick (.tmp 102) (.tmp 103) (.const (.bool false))), none⟩,
              ⟨some 4, (.assign (.tmp 104)), none⟩])
            .ret))))))))))))
theorem k7 : FOK Try.prog 7 105 c7 [4] := ⟨⟨[9, 10, 11, 12, 13], Try.f7, _, by kernel_rfl, by kernel_rfl, rfl, by kernel_rfl, rfl, by kernel_rfl, by decide⟩⟩

/-- timesync.timesynclaw14.HoldoverNobody -/
def c8 : SC :=
  (.seq (.reg [⟨some 4, (.assign (.const (.bool false))), none⟩])
 (.seq (.reg [⟨some 5, (.assign (.const (.pointer none))), none⟩])
  (.seq (.reg [⟨some 11, (.move (.tmp 5)), none⟩,
     ⟨some 12, (.call { callee := (.value (.func 21)), args := #[(.tmp 11)], argTypes := #[26] }), none⟩,
     ⟨some 10, (.move (.tmp 12)), none⟩,
     ⟨some 13, (.extract (.tmp 10) 0), none⟩,
     ⟨some 14, (.extract (.tmp 10) 1), none⟩,
     ⟨some 6, (.assign (.tmp 13)), none⟩,
     ⟨some 7, (.assign (.tmp 14)), none⟩])
   (.seq (.reg [⟨some 16, (.move (.tmp 5)), none⟩,
      ⟨some 17, (.move (.tmp 0)), none⟩,
      ⟨some 18, (.call { callee := (.value (.func 15)), args := #[(.tmp 16), (.tmp 17)], argTypes := #[26, 3] }), none⟩,
      ⟨some 15, (.move (.tmp 18)), none⟩,
      ⟨some 19, (.extract (.tmp 15) 0), none⟩,
      ⟨some 20, (.extract (.tmp 15) 1), none⟩,
      ⟨some 8, (.assign (.tmp 19)), none⟩,
      ⟨some 9, (.assign (.tmp 20)), none⟩])
    (.seq (.reg [⟨some 21, (.move (.tmp 5)), none⟩,
       ⟨some 22, (.move (.tmp 0)), none⟩,
       ⟨some 23, (.move (.tmp 1)), none⟩,
       ⟨some 24, (.call { callee := (.value (.func 19)), args := #[(.tmp 21), (.tmp 22), (.tmp 23)], argTypes := #[26, 3, 3] }), none⟩,
       ⟨some 25, (.binOp .eql 24 (.tmp 24) (.const (.int .i64 1)) 24), none⟩,
       ⟨some 26, (.move (.tmp 25)), none⟩,
       ⟨some 27, (.move (.tmp 5)), some (26, true)⟩,
       ⟨some 28, (.move (.tmp 0)), some (26, true)⟩,
       ⟨some 29, (.call { callee := (.value (.func 20)), args := #[(.tmp 27), (.tmp 28)], argTypes := #[26, 3] }), some (26, true)⟩,
       ⟨some 30, (.binOp .eql 24 (.tmp 29) (.const (.int .i64 1)) 24), some (26, true)⟩,
       ⟨some 31, (.pick (.tmp 26) (.tmp 30) (.const (.bool false))), none⟩,
       ⟨some 32, (.move (.tmp 31)), none⟩,
       ⟨some 33, (.move (.tmp 6)), some (32, true)⟩,
       ⟨some 34, (.binOp .eql 3 (.tmp 33) (.const (.int .i64 0)) 3), some (32, true)⟩,
       ⟨some 35, (.pick (.tmp 32) (.tmp 34) (.const (.bool false))), none⟩,
       ⟨some 36, (.move (.tmp 35)), none⟩,
       ⟨some 37, (.move (.tmp 7)), some (36, true)⟩,
       ⟨some 38, (.unOp .not 4 (.tmp 37)), some (36, true)⟩,
       ⟨some 39, (.pick (.tmp 36) (.tmp 38) (.const (.bool false))), none⟩,
       ⟨some 40, (.move (.tmp 39)), none⟩,
       ⟨some 41, (.move (.tmp 8)), some (40, true)⟩,
       ⟨some 42, (.binOp .eql 3 (.tmp 41) (.const (.int .i64 0)) 3), some (40, true)⟩,
       ⟨some 43, (.pick (.tmp 40) (.tmp 42) (.const (.bool false))), none⟩,
       ⟨some 44, (.move (.tmp 43)), none⟩,
       ⟨some 45, (.move (.tmp 9)), some (44, true)⟩,
       ⟨some 46, (.binOp .eql 24 (.tmp 45) (.const (.int .i64 1)) 24), some (44, true)⟩,
       ⟨some 47, (.pick (.tmp 44) (.tmp 46) (.const (.bool false))), none⟩,
       ⟨some 48, (.move (.tmp 47)), none⟩,
       ⟨some 49, (.move (.tmp 5)), some (48, true)⟩,
       ⟨some 50, (.move (.tmp 0)), some (48, true)⟩,
       ⟨some 51, (.call { callee := (.value (.func 17)), args := #[(.tmp 49), (.tmp 50)], argTypes := #[26, 3] }), some (48, true)⟩,
       ⟨some 52, (.binOp .eql 3 (.tmp 51) (.const (.int .i64 0)) 3), some (48, true)⟩,
       ⟨some 53, (.pick (.tmp 48) (.tmp 52) (.const (.bool false))), none⟩,
       ⟨some 54, (.move (.tmp 53)), none⟩,
       ⟨some 55, (.call { callee := (.value (.func 13)), args := #[], argTypes := #[] }), some (54, true)⟩,
       ⟨some 56, (.pick (.tmp 54) (.tmp 55) (.const (.bool false))), none⟩,
       ⟨some 4, (.assign (.tmp 56)), none⟩])
     .ret)))))
theorem k8 : FOK Try.prog 8 57 c8 [4] := ⟨⟨[9, 10, 11, 12, 13], Try.f8, _, by kernel_rfl, by kernel_rfl, rfl, by kernel_rfl, rfl, by kernel_rfl, by decide⟩⟩

/-- timesync.holdover.Check -/
def c9 : SC :=
  (.seq (.reg [⟨some 1, (.box 23 (.tmp 0)), none⟩,
   ⟨some 2, (.assign (.const (.int .i64 0))), none⟩])
 (.seq (.seq (.reg [⟨some 3, (.fieldAddr 23 (.tmp 1) 0), none⟩,
     ⟨some 4, (.load 3 (.tmp 3)), none⟩,
     ⟨some 5, (.call { callee := (.value (.func 22)), args := #[(.tmp 4)], argTypes := #[3] }), none⟩,
     ⟨some 6, (.unOp .not 4 (.tmp 5)), none⟩,
     ⟨some 7, (.move (.tmp 6)), none⟩,
     ⟨some 8, (.fieldAddr 23 (.tmp 1) 1), some (7, false)⟩,
     ⟨some 9, (.load 3 (.tmp 8)), some (7, false)⟩,
     ⟨some 10, (.binOp .lss 3 (.tmp 9) (.const (.int .i64 0)) 3), some (7, false)⟩,
     ⟨some 11, (.pick (.tmp 7) (.const (.bool true)) (.tmp 10)), none⟩,
     ⟨some 12, (.move (.tmp 11)), none⟩,
     ⟨some 13, (.fieldAddr 23 (.tmp 1) 1), some (12, false)⟩,
     ⟨some 14, (.load 3 (.tmp 13)), some (12, false)⟩,
     ⟨some 15, (.binOp .gtr 3 (.tmp 14) (.const (.int .i64 500000)) 3), some (12, false)⟩,
     ⟨some 16, (.pick (.tmp 12) (.const (.bool true)) (.tmp 15)), none⟩,
     ⟨some 17, (.move (.tmp 16)), none⟩,
     ⟨some 18, (.fieldAddr 23 (.tmp 1) 2), some (17, false)⟩,
     ⟨some 19, (.load 3 (.tmp 18)), some (17, false)⟩,
     ⟨some 20, (.binOp .lss 3 (.tmp 19) (.const (.int .i64 0)) 3), some (17, false)⟩,
     ⟨some 21, (.pick (.tmp 17) (.const (.bool true)) (.tmp 20)), none⟩,
     ⟨some 22, (.move (.tmp 21)), none⟩,
     ⟨some 23, (.fieldAddr 23 (.tmp 1) 2), some (22, false)⟩,
     ⟨some 24, (.load 3 (.tmp 23)), some (22, false)⟩,
     ⟨some 25, (.binOp .gtr 3 (.tmp 24) (.const (.int .i64 1000)) 3), some (22, false)⟩,
     ⟨some 26, (.pick (.tmp 22) (.const (.bool true)) (.tmp 25)), none⟩,
     ⟨some 27, (.move (.tmp 26)), none⟩,
     ⟨some 28, (.fieldAddr 23 (.tmp 1) 3), some (27, false)⟩,
     ⟨some 29, (.load 3 (.tmp 28)), some (27, false)⟩,
     ⟨some 30, (.call { callee := (.value (.func 22)), args := #[(.tmp 29)], argTypes := #[3] }), some (27, false)⟩,
     ⟨some 31, (.unOp .not 4 (.tmp 30)), some (27, false)⟩,
     ⟨some 32, (.pick (.tmp 27) (.const (.bool true)) (.tmp 31)), none⟩])
   (.cond (.tmp 32)
    (.seq (.reg [⟨some 2, (.assign (.const (.int .i64 3))), none⟩])
     .ret)
    .skip))
  (.seq (.reg [⟨some 2, (.assign (.const (.int .i64 0))), none⟩])
   .ret)))
theorem k9 : FOK Try.prog 9 33 c9 [2] := ⟨⟨[9, 10, 11, 12, 13], Try.f9, _, by kernel_rfl, by kernel_rfl, rfl, by kernel_rfl, rfl, by kernel_rfl, by decide⟩⟩

/-- timesync.timesyncref14.Check -/
def c10 : SC :=
  (.seq (.reg [⟨some 1, (.box 23 (.tmp 0)), none⟩,
   ⟨some 2, (.assign (.const (.int .i64 0))), none⟩])
 (.seq (.seq (.reg [⟨some 3, (.fieldAddr 23 (.tmp 1) 0), none⟩,
     ⟨some 4, (.load 3 (.tmp 3)), none⟩,
     ⟨some 5, (.binOp .lss 3 (.tmp 4) (.const (.int .i64 0)) 3), none⟩,
     ⟨some 6, (.move (.tmp 5)), none⟩,
     ⟨some 7, (.fieldAddr 23 (.tmp 1) 0), some (6, false)⟩,
     ⟨some 8, (.load 3 (.tmp 7)), some (6, false)⟩,
     ⟨some 9, (.binOp .gtr 3 (.tmp 8) (.const (.int .i64 1125899906842624)) 3), some (6, false)⟩,
     ⟨some 10, (.pick (.tmp 6) (.const (.bool true)) (.tmp 9)), none⟩,
     ⟨some 11, (.move (.tmp 10)), none⟩,
     ⟨some 12, (.fieldAddr 23 (.tmp 1) 1), some (11, false)⟩,
     ⟨some 13, (.load 3 (.tmp 12)), some (11, false)⟩,
     ⟨some 14, (.binOp .lss 3 (.tmp 13) (.const (.int .i64 0)) 3), some (11, false)⟩,
     ⟨some 15, (.pick (.tmp 11) (.const (.bool true)) (.tmp 14)), none⟩,
     ⟨some 16, (.move (.tmp 15)), none⟩,
     ⟨some 17, (.fieldAddr 23 (.tmp 1) 1), some (16, false)⟩,
     ⟨some 18, (.load 3 (.tmp 17)), some (16, false)⟩,
     ⟨some 19, (.binOp .gtr 3 (.tmp 18) (.const (.int .i64 500000)) 3), some (16, false)⟩,
     ⟨some 20, (.pick (.tmp 16) (.const (.bool true)) (.tmp 19)), none⟩,
     ⟨some 21, (.move (.tmp 20)), none⟩,
     ⟨some 22, (.fieldAddr 23 (.tmp 1) 2), some (21, false)⟩,
     ⟨some 23, (.load 3 (.tmp 22)), some (21, false)⟩,
     ⟨some 24, (.binOp .lss 3 (.tmp 23) (.const (.int .i64 0)) 3), some (21, false)⟩,
     ⟨some 25, (.pick (.tmp 21) (.const (.bool true)) (.tmp 24)), none⟩,
     ⟨some 26, (.move (.tmp 25)), none⟩,
     ⟨some 27, (.fieldAddr 23 (.tmp 1) 2), some (26, false)⟩,
     ⟨some 28, (.load 3 (.tmp 27)), some (26, false)⟩,
     ⟨some 29, (.binOp .gtr 3 (.tmp 28) (.const (.int .i64 1000)) 3), some (26, false)⟩,
     ⟨some 30, (.pick (.tmp 26) (.const (.bool true)) (.tmp 29)), none⟩,
     ⟨some 31, (.move (.tmp 30)), none⟩,
     ⟨some 32, (.fieldAddr 23 (.tmp 1) 3), some (31, false)⟩,
     ⟨some 33, (.load 3 (.tmp 32)), some (31, false)⟩,
     ⟨some 34, (.binOp .lss 3 (.tmp 33) (.const (.int .i64 0)) 3), some (31, false)⟩,
     ⟨some 35, (.pick (.tmp 31) (.const (.bool true)) (.tmp 34)), none⟩,
     ⟨some 36, (.move (.tmp 35)), none⟩,
     ⟨some 37, (.fieldAddr 23 (.tmp 1) 3), some (36, false)⟩,
     ⟨some 38, (.load 3 (.tmp 37)), some (36, false)⟩,
     ⟨some 39, (.binOp .gtr 3 (.tmp 38) (.const (.int .i64 1125899906842624)) 3), some (36, false)⟩,
     ⟨some 40, (.pick (.tmp 36) (.const (.bool true)) (.tmp 39)), none⟩])
   (.cond (.tmp 40)
    (.seq (.reg [⟨some 2, (.assign (.const (.int .i64 3))), none⟩])
     .ret)
    .skip))
  (.seq (.reg [⟨some 2, (.assign (.const (.int .i64 0))), none⟩])
   .ret)))
theorem k10 : FOK Try.prog 10 41 c10 [2] := ⟨⟨[9, 10, 11, 12, 13], Try.f10, _, by kernel_rfl, by kernel_rfl, rfl, by kernel_rfl, rfl, by kernel_rfl, by decide⟩⟩

/-- timesync.holdover.New -/
def c11 : SC :=
  (.seq (.reg [⟨some 1, (.box 23 (.tmp 0)), none⟩,
   ⟨some 2, (.assign (.const (.pointer none))), none⟩])
 (.seq (.seq (.reg [⟨some 3, (.load 23 (.tmp 1)), none⟩,
     ⟨some 4, (.call { callee := (.value (.func 9)), args := #[(.tmp 3)], argTypes := #[23] }), none⟩,
     ⟨some 5, (.binOp .neq 24 (.tmp 4) (.const (.int .i64 0)) 24), none⟩])
   (.cond (.tmp 5)
    (.seq (.reg [⟨some 2, (.assign (.const (.pointer none))), none⟩])
     .ret)
    .skip))
  (.seq (.reg [⟨some 6, (.load 23 (.tmp 1)), none⟩,
     ⟨some 7, (.build 52 #[(0, (.tmp 6))]), none⟩,
     ⟨some 8, (.box 52 (.tmp 7)), none⟩,
     ⟨some 2, (.assign (.tmp 8)), none⟩])
   .ret)))
theorem k11 : FOK Try.prog 11 9 c11 [2] := ⟨⟨[9, 10, 11, 12, 13], Try.f11, _, by kernel_rfl, by kernel_rfl, rfl, by kernel_rfl, rfl, by kernel_rfl, by decide⟩⟩

/-- timesync.timesyncref14.New -/
def c12 : SC :=
  (.seq (.reg [⟨some 1, (.box 23 (.tmp 0)), none⟩,
   ⟨some 2, (.assign (.const (.pointer none))), none⟩])
 (.seq (.seq (.reg [⟨some 3, (.load 23 (.tmp 1)), none⟩,
     ⟨some 4, (.call { callee := (.value (.func 10)), args := #[(.tmp 3)], argTypes := #[23] }), none⟩,
     ⟨some 5, (.binOp .neq 24 (.tmp 4) (.const (.int .i64 0)) 24), none⟩])
   (.cond (.tmp 5)
    (.seq (.reg [⟨some 2, (.assign (.const (.pointer none))), none⟩])
     .ret)
    .skip))
  (.seq (.reg [⟨some 6, (.load 23 (.tmp 1)), none⟩,
     ⟨some 7, (.build 54 #[(0, (.tmp 6))]), none⟩,
     ⟨some 8, (.box 54 (.tmp 7)), none⟩,
     ⟨some 2, (.assign (.tmp 8)), none⟩])
   .ret)))
theorem k12 : FOK Try.prog 12 9 c12 [2] := ⟨⟨[9, 10, 11, 12, 13], Try.f12, _, by kernel_rfl, by kernel_rfl, rfl, by kernel_rfl, rfl, by kernel_rfl, by decide⟩⟩

/-- timesync.timesynclaw14.awake -/
def c13 : SC :=
  (.seq (.reg [⟨some 0, (.assign (.const (.bool false))), none⟩])
 (.seq (.reg [⟨some 8, (.build 23 #[(0, (.const (.int .i64 100))), (1, (.const (.int .i64 1000))), (2, (.const (.int .i64 10))), (3, (.const (.int .i64 5000)))]), none⟩,
    ⟨some 9, (.call { callee := (.value (.func 11)), args := #[(.tmp 8)], argTypes := #[23] }), none⟩,
    ⟨some 1, (.assign (.tmp 9)), none⟩])
  (.seq (.seq (.reg [⟨some 10, (.move (.tmp 1)), none⟩,
      ⟨some 11, (.call { callee := (.value (.func 19)), args := #[(.tmp 10), (.const (.int .i64 0)), (.const (.int .i64 7))], argTypes := #[26, 3, 3] }), none⟩,
      ⟨some 12, (.binOp .neq 24 (.tmp 11) (.const (.int .i64 0)) 24), none⟩,
      ⟨some 13, (.move (.tmp 12)), none⟩,
      ⟨some 14, (.move (.tmp 1)), some (13, false)⟩,
      ⟨some 15, (.call { callee := (.value (.func 19)), args := #[(.tmp 14), (.const (.int .i64 10)), (.const (.int .i64 9))], argTypes := #[26, 3, 3] }), some (13, false)⟩,
      ⟨some 16, (.binOp .neq 24 (.tmp 15) (.const (.int .i64 0)) 24), some (13, false)⟩,
      ⟨some 17, (.pick (.tmp 13) (.const (.bool true)) (.tmp 16)), none⟩,
      ⟨some 18, (.move (.tmp 17)), none⟩,
      ⟨some 19, (.move (.tmp 1)), some (18, false)⟩,
      ⟨some 20, (.call { callee := (.value (.func 20)), args := #[(.tmp 19), (.const (.int .i64 20))], argTypes := #[26, 3] }), some (18, false)⟩,
      ⟨some 21, (.binOp .neq 24 (.tmp 20) (.const (.int .i64 0)) 24), some (18, false)⟩,
      ⟨some 22, (.pick (.tmp 18) (.const (.bool true)) (.tmp 21)), none⟩])
    (.cond (.tmp 22)
     (.seq (.reg [⟨some 0, (.assign (.const (.bool false))), none⟩])
      .ret)
     .skip))
   (.seq (.reg [⟨some 24, (.move (.tmp 1)), none⟩,
      ⟨some 25, (.call { callee := (.value (.func 21)), args := #[(.tmp 24)], argTypes := #[26] }), none⟩,
      ⟨some 23, (.move (.tmp 25)), none⟩,
      ⟨some 26, (.extract (.tmp 23) 0), none⟩,
      ⟨some 27, (.extract (.tmp 23) 1), none⟩,
      ⟨some 2, (.assign (.tmp 26)), none⟩,
      ⟨some 3, (.assign (.tmp 27)), none⟩])
    (.seq (.reg [⟨some 29, (.move (.tmp 1)), none⟩,
       ⟨some 30, (.call { callee := (.value (.func 15)), args := #[(.tmp 29), (.const (.int .i64 20))], argTypes := #[26, 3] }), none⟩,
       ⟨some 28, (.move (.tmp 30)), none⟩,
       ⟨some 31, (.extract (.tmp 28) 0), none⟩,
       ⟨some 32, (.extract (.tmp 28) 1), none⟩,
       ⟨some 4, (.assign (.tmp 31)), none⟩,
       ⟨some 5, (.assign (.tmp 32)), none⟩])
     (.seq (.reg [⟨some 34, (.move (.tmp 1)), none⟩,
        ⟨some 35, (.call { callee := (.value (.func 15)), args := #[(.tmp 34), (.const (.int .i64 1000000020))], argTypes := #[26, 3] }), none⟩,
        ⟨some 33, (.move (.tmp 35)), none⟩,
        ⟨some 36, (.extract (.tmp 33) 0), none⟩,
        ⟨some 37, (.extract (.tmp 33) 1), none⟩,
        ⟨some 6, (.assign (.tmp 36)), none⟩,
        ⟨some 7, (.assign (.tmp 37)), none⟩])
      (.seq (.reg [⟨some 38, (.move (.tmp 2)), none⟩,
         ⟨some 39, (.binOp .eql 3 (.tmp 38) (.const (.int .i64 7)) 3), none⟩,
         ⟨some 40, (.move (.tmp 39)), none⟩,
         ⟨some 41, (.move (.tmp 3)), some (40, true)⟩,
         ⟨some 42, (.pick (.tmp 40) (.tmp 41) (.const (.bool false))), none⟩,
         ⟨some 43, (.move (.tmp 42)), none⟩,
         ⟨some 44, (.move (.tmp 4)), some (43, true)⟩,
         ⟨some 45, (.binOp .eql 3 (.tmp 44) (.const (.int .i64 100)) 3), some (43, true)⟩,
         ⟨some 46, (.pick (.tmp 43) (.tmp 45) (.const (.bool false))), none⟩,
         ⟨some 47, (.move (.tmp 46)), none⟩,
         ⟨some 48, (.move (.tmp 5)), some (47, true)⟩,
         ⟨some 49, (.binOp .eql 24 (.tmp 48) (.const (.int .i64 0)) 24), some (47, true)⟩,
         ⟨some 50, (.pick (.tmp 47) (.tmp 49) (.const (.bool false))), none⟩,
         ⟨some 51, (.move (.tmp 50)), none⟩,
         ⟨some 52, (.move (.tmp 6)), some (51, true)⟩,
         ⟨some 53, (.binOp .eql 3 (.tmp 52) (.const (.int .i64 1101)) 3), some (51, true)⟩,
         ⟨some 54, (.pick (.tmp 51) (.tmp 53) (.const (.bool false))), none⟩,
         ⟨some 55, (.move (.tmp 54)), none⟩,
         ⟨some 56, (.move (.tmp 7)), some (55, true)⟩,
         ⟨some 57, (.binOp .eql 24 (.tmp 56) (.const (.int .i64 0)) 24), some (55, true)⟩,
         ⟨some 58, (.pick (.tmp 55) (.tmp 57) (.const (.bool false))), none⟩,
         ⟨some 59, (.move (.tmp 58)), none⟩,
         ⟨some 60, (.move (.tmp 1)), some (59, true)⟩,
         ⟨some 61, (.call { callee := (.value (.func 17)), args := #[(.tmp 60), (.const (.int .i64 20))], argTypes := #[26, 3] }), some (59, true)⟩,
         ⟨some 62, (.binOp .eql 3 (.tmp 61) (.const (.int .i64 2)) 3), some (59, true)⟩,
         ⟨some 63, (.pick (.tmp 59) (.tmp 62) (.const (.bool false))), none⟩,
         ⟨some 64, (.move (.tmp 63)), none⟩,
         ⟨some 65, (.move (.tmp 1)), some (64, true)⟩,
         ⟨some 66, (.call { callee := (.value (.func 17)), args := #[(.tmp 65), (.const (.int .i64 5000000020))], argTypes := #[26, 3] }), some (64, true)⟩,
         ⟨some 67, (.binOp .eql 3 (.tmp 66) (.const (.int .i64 3)) 3), some (64, true)⟩,
         ⟨some 68, (.pick (.tmp 64) (.tmp 67) (.const (.bool false))), none⟩,
         ⟨some 0, (.assign (.tmp 68)), none⟩])
       .ret)))))))
theorem k13 : FOK Try.prog 13 69 c13 [0] := ⟨⟨[9, 10, 11, 12, 13], Try.f13, _, by kernel_rfl, by kernel_rfl, rfl, by kernel_rfl, rfl, by kernel_rfl, by decide⟩⟩

/-- timesync.timesynclaw14.run -/
def c14 : SC :=
  (.seq (.reg [⟨some 2, (.box 23 (.tmp 0)), none⟩,
   ⟨some 4, (.assign (.const (.pointer none))), none⟩,
   ⟨some 5, (.assign (.const (.pointer none))), none⟩,
   ⟨some 6, (.assign (.const (.bool false))), none⟩])
 (.seq (.regh (.load ⟨some 19, (.load 23 (.tmp 2)), none⟩ (.tmp 2)
 (.load ⟨some 21, (.load 23 (.tmp 2)), none⟩ (.tmp 2)
 (.step ⟨some 20, (.call { callee := (.value (.func 11)), args := #[(.tmp 19)], argTypes := #[23] }), none⟩
 (.step ⟨some 22, (.call { callee := (.value (.func 12)), args := #[(.tmp 21)], argTypes := #[23] }), none⟩
 (.take ⟨some 7, (.assign (.tmp 20)), none⟩
 (.takf ⟨some 8, (.assign (.tmp 22)), none⟩
 .done)))))))
  (.seq (.seq (.reg [⟨some 23, (.move (.tmp 7)), none⟩,
      ⟨some 24, (.binOp .eql 26 (.tmp 23) (.const (.pointer none)) 26), none⟩,
      ⟨some 25, (.move (.tmp 8)), none⟩,
      ⟨some 26, (.binOp .eql 28 (.tmp 25) (.const (.pointer none)) 28), none⟩,
      ⟨some 27, (.binOp .neq 4 (.tmp 24) (.tmp 26) 4), none⟩])
    (.cond (.tmp 27)
     (.seq (.reg [⟨some 4, (.assign (.const (.pointer none))), none⟩,
        ⟨some 5, (.assign (.const (.pointer none))), none⟩,
        ⟨some 6, (.assign (.const (.bool false))), none⟩])
      .ret)
     .skip))
   (.seq (.seq (.reg [⟨some 28, (.move (.tmp 1)), none⟩,
       ⟨some 29, (.call { callee := (.builtin .len), args := #[(.tmp 28)], argTypes := #[32] }), none⟩,
       ⟨some 30, (.move (.const (.int .i64 0))), none⟩])
     (.block 0
      (.loop
       (.seq (.reg [⟨some 31, (.binOp .lss 3 (.tmp 30) (.tmp 29) 3), none⟩])
        (.seq (.cond (.tmp 31)
          .skip
          (.exit 0))
         (.seq (.block 1
           (.seq (.reg [⟨some 32, (.indexAddr 32 (.tmp 28) (.tmp 30)), none⟩,
              ⟨some 33, (.load 41 (.tmp 32)), none⟩,
              ⟨some 10, (.alloc 41), none⟩,
              ⟨none, (.store 41 (.tmp 10) (.tmp 33)), none⟩])
            (.seq (.seq (.reg [⟨some 34, (.fieldAddr 41 (.tmp 10) 0), none⟩,
                ⟨some 35, (.load 5 (.tmp 34)), none⟩])
              (.block 2
               (.seq (.reg [⟨some 37, (.binOp .eql 5 (.tmp 35) (.const (.int .u8 0)) 5), none⟩,
                  ⟨some 36, (.assign (.tmp 37)), none⟩])
                (.cond (.tmp 36)
                 (.seq (.regq [⟨some 38, (.move (.tmp 7)), none⟩,
                    ⟨some 39, (.fieldAddr 41 (.tmp 10) 1), none⟩,
                    ⟨some 40, (.load 3 (.tmp 39)), none⟩,
                    ⟨some 41, (.fieldAddr 41 (.tmp 10) 2), none⟩,
                    ⟨some 42, (.load 3 (.tmp 41)), none⟩,
                    ⟨some 43, (.call { callee := (.value (.func 19)), args := #[(.tmp 38), (.tmp 40), (.tmp 42)], argTypes := #[26, 3, 3] }), none⟩,
                    ⟨some 44, (.move (.tmp 8)), none⟩,
                    ⟨some 45, (.fieldAddr 41 (.tmp 10) 1), none⟩,
                    ⟨some 46, (.load 3 (.tmp 45)), none⟩,
                    ⟨some 47, (.fieldAddr 41 (.tmp 10) 2), none⟩,
                    ⟨some 48, (.load 3 (.tmp 47)), none⟩,
                    ⟨some 49, (.call { callee := (.value (.func 23)), args := #[(.tmp 44), (.tmp 46), (.tmp 48)], argTypes := #[28, 3, 3] }), none⟩,
                    ⟨some 50, (.binOp .neq 24 (.tmp 43) (.tmp 49) 24), none⟩])
                  (.cond (.tmp 50)
                   (.seq (.reg [⟨some 51, (.move (.tmp 7)), none⟩,
                      ⟨some 52, (.move (.tmp 8)), none⟩,
                      ⟨some 4, (.assign (.tmp 51)), none⟩,
                      ⟨some 5, (.assign (.tmp 52)), none⟩,
                      ⟨some 6, (.assign (.const (.bool false))), none⟩])
                    .ret)
                   .skip))
                 (.seq (.reg [⟨some 54, (.binOp .eql 5 (.tmp 35) (.const (.int .u8 1)) 5), none⟩,
                    ⟨some 53, (.assign (.tmp 54)), none⟩])
                  (.cond (.tmp 53)
                   (.seq (.regq [⟨some 55, (.move (.tmp 7)), none⟩,
                      ⟨some 56, (.fieldAddr 41 (.tmp 10) 1), none⟩,
                      ⟨some 57, (.load 3 (.tmp 56)), none⟩,
                      ⟨some 58, (.call { callee := (.value (.func 20)), args := #[(.tmp 55), (.tmp 57)], argTypes := #[26, 3] }), none⟩,
                      ⟨some 59, (.move (.tmp 8)), none⟩,
                      ⟨some 60, (.fieldAddr 41 (.tmp 10) 1), none⟩,
                      ⟨some 61, (.load 3 (.tmp 60)), none⟩,
                      ⟨some 62, (.call { callee := (.value (.func 24)), args := #[(.tmp 59), (.tmp 61)], argTypes := #[28, 3] }), none⟩,
                      ⟨some 63, (.binOp .neq 24 (.tmp 58) (.tmp 62) 24), none⟩])
                    (.cond (.tmp 63)
                     (.seq (.reg [⟨some 64, (.move (.tmp 7)), none⟩,
                        ⟨some 65, (.move (.tmp 8)), none⟩,
                        ⟨some 4, (.assign (.tmp 64)), none⟩,
                        ⟨some 5, (.assign (.tmp 65)), none⟩,
                        ⟨some 6, (.assign (.const (.bool false))), none⟩])
                      .ret)
                     .skip))
                   .skip))))))
             (.seq (.reg [⟨some 67, (.move (.tmp 7)), none⟩,
                ⟨some 68, (.fieldAddr 41 (.tmp 10) 1), none⟩,
                ⟨some 69, (.load 3 (.tmp 68)), none⟩,
                ⟨some 70, (.call { callee := (.value (.func 15)), args := #[(.tmp 67), (.tmp 69)], argTypes := #[26, 3] }), none⟩,
                ⟨some 66, (.move (.tmp 70)), none⟩,
                ⟨some 71, (.extract (.tmp 66) 0), none⟩,
                ⟨some 72, (.extract (.tmp 66) 1), none⟩,
                ⟨some 11, (.assign (.tmp 71)), none⟩,
                ⟨some 12, (.assign (.tmp 72)), none⟩])
              (.seq (.reg [⟨some 74, (.move (.tmp 8)), none⟩,
                 ⟨some 75, (.fieldAddr 41 (.tmp 10) 1), none⟩,
                 ⟨some 76, (.load 3 (.tmp 75)), none⟩,
                 ⟨some 77, (.call { callee := (.value (.func 16)), args := #[(.tmp 74), (.tmp 76)], argTypes := #[28, 3] }), none⟩,
                 ⟨some 73, (.move (.tmp 77)), none⟩,
                 ⟨some 78, (.extract (.tmp 73) 0), none⟩,
                 ⟨some 79, (.extract (.tmp 73) 1), none⟩,
                 ⟨some 13, (.assign (.tmp 78)), none⟩,
                 ⟨some 14, (.assign (.tmp 79)), none⟩])
               (.seq (.seq (.regq [⟨some 80, (.move (.tmp 11)), none⟩,
                   ⟨some 81, (.move (.tmp 13)), none⟩,
                   ⟨some 82, (.binOp .neq 3 (.tmp 80) (.tmp 81) 3), none⟩,
                   ⟨some 83, (.move (.tmp 82)), none⟩,
                   ⟨some 84, (.move (.tmp 12)), some (83, false)⟩,
                   ⟨some 85, (.move (.tmp 14)), some (83, false)⟩,
                   ⟨some 86, (.binOp .neq 24 (.tmp 84) (.tmp 85) 24), some (83, false)⟩,
                   ⟨some 87, (.pick (.tmp 83) (.const (.bool true)) (.tmp 86)), none⟩,
                   ⟨some 88, (.move (.tmp 87)), none⟩,
                   ⟨some 89, (.move (.tmp 7)), some (88, false)⟩,
                   ⟨some 90, (.fieldAddr 41 (.tmp 10) 1), some (88, false)⟩,
                   ⟨some 91, (.load 3 (.tmp 90)), some (88, false)⟩,
                   ⟨some 92, (.call { callee := (.value (.func 17)), args := #[(.tmp 89), (.tmp 91)], argTypes := #[26, 3] }), some (88, false)⟩,
                   ⟨some 93, (.move (.tmp 8)), some (88, false)⟩,
                   ⟨some 94, (.fieldAddr 41 (.tmp 10) 1), some (88, false)⟩,
                   ⟨some 95, (.load 3 (.tmp 94)), some (88, false)⟩,
                   ⟨some 96, (.call { callee := (.value (.func 18)), args := #[(.tmp 93), (.tmp 95)], argTypes := #[28, 3] }), some (88, false)⟩,
                   ⟨some 97, (.binOp .neq 3 (.tmp 92) (.tmp 96) 3), some (88, false)⟩,
                   ⟨some 98, (.pick (.tmp 88) (.const (.bool true)) (.tmp 97)), none⟩])
                 (.cond (.tmp 98)
                  (.seq (.reg [⟨some 99, (.move (.tmp 7)), none⟩,
                     ⟨some 100, (.move (.tmp 8)), none⟩,
                     ⟨some 4, (.assign (.tmp 99)), none⟩,
                     ⟨some 5, (.assign (.tmp 100)), none⟩,
                     ⟨some 6, (.assign (.const (.bool false))), none⟩])
                   .ret)
                  .skip))
                (.seq (.reg [⟨some 102, (.move (.tmp 7)), none⟩,
                   ⟨some 103, (.call { callee := (.value (.func 21)), args := #[(.tmp 102)], argTypes := #[26] }), none⟩,
                   ⟨some 101, (.move (.tmp 103)), none⟩,
                   ⟨some 104, (.extract (.tmp 101) 0), none⟩,
                   ⟨some 105, (.extract (.tmp 101) 1), none⟩,
                   ⟨some 15, (.assign (.tmp 104)), none⟩,
                   ⟨some 16, (.assign (.tmp 105)), none⟩])
                 (.seq (.reg [⟨some 107, (.move (.tmp 8)), none⟩,
                    ⟨some 108, (.call { callee := (.value (.func 25)), args := #[(.tmp 107)], argTypes := #[28] }), none⟩,
                    ⟨some 106, (.move (.tmp 108)), none⟩,
                    ⟨some 109, (.extract (.tmp 106) 0), none⟩,
                    ⟨some 110, (.extract (.tmp 106) 1), none⟩,
                    ⟨some 17, (.assign (.tmp 109)), none⟩,
                    ⟨some 18, (.assign (.tmp 110)), none⟩])
                  (.seq (.reg [⟨some 111, (.move (.tmp 15)), none⟩,
                     ⟨some 112, (.move (.tmp 17)), none⟩,
                     ⟨some 113, (.binOp .neq 3 (.tmp 111) (.tmp 112) 3), none⟩,
                     ⟨some 114, (.move (.tmp 113)), none⟩,
                     ⟨some 115, (.move (.tmp 16)), some (114, false)⟩,
                     ⟨some 116, (.move (.tmp 18)), some (114, false)⟩,
                     ⟨some 117, (.binOp .neq 4 (.tmp 115) (.tmp 116) 4), some (114, false)⟩,
                     ⟨some 118, (.pick (.tmp 114) (.const (.bool true)) (.tmp 117)), none⟩])
                   (.cond (.tmp 118)
                    (.seq (.reg [⟨some 119, (.move (.tmp 7)), none⟩,
                       ⟨some 120, (.move (.tmp 8)), none⟩,
                       ⟨some 4, (.assign (.tmp 119)), none⟩,
                       ⟨some 5, (.assign (.tmp 120)), none⟩,
                       ⟨some 6, (.assign (.const (.bool false))), none⟩])
                     .ret)
                    .skip))))))))))
          (.reg [⟨some 121, (.binOp .add 3 (.tmp 30) (.const (.int .i64 1)) 3), none⟩,
            ⟨some 30, (.move (.tmp 121)), none⟩])))))))
    (.seq (.reg [⟨some 122, (.move (.tmp 7)), none⟩,
       ⟨some 123, (.move (.tmp 8)), none⟩,
       ⟨some 4, (.assign (.tmp 122)), none⟩,
       ⟨some 5, (.assign (.tmp 123)), none⟩,
       ⟨some 6, (.assign (.const (.bool true))), none⟩])
     .ret)))))
theorem k14 : FOK Try.prog 14 124 c14 [4, 5, 6] := ⟨⟨[9, 10, 11, 12, 13], Try.f14, _, by kernel_rfl, by kernel_rfl, rfl, by kernel_rfl, rfl, by kernel_rfl, by decide⟩⟩

/-- (*timesync.holdover.Memory).Error -/
def c15 : SC :=
  (.seq (.reg [⟨some 4, (.assign (.const (.int .i64 0))), none⟩,
   ⟨some 5, (.assign (.const (.int .i64 0))), none⟩])
 (.seq (.block 0
   (.seq (.reg [⟨some 8, (.move (.tmp 0)), none⟩,
      ⟨some 9, (.binOp .eql 26 (.tmp 8) (.const (.pointer none)) 26), none⟩,
      ⟨some 7, (.assign (.tmp 9)), none⟩])
    (.cond (.tmp 7)
     (.seq (.reg [⟨some 4, (.assign (.const (.int .i64 0))), none⟩,
        ⟨some 5, (.assign (.const (.int .i64 1))), none⟩])
      .ret)
     (.seq (.reg [⟨some 11, (.move (.tmp 1)), none⟩,
        ⟨some 12, (.call { callee := (.value (.func 22)), args := #[(.tmp 11)], argTypes := #[3] }), none⟩,
        ⟨some 13, (.unOp .not 4 (.tmp 12)), none⟩,
        ⟨some 10, (.assign (.tmp 13)), none⟩])
      (.cond (.tmp 10)
       (.seq (.reg [⟨some 4, (.assign (.const (.int .i64 0))), none⟩,
          ⟨some 5, (.assign (.const (.int .i64 3))), none⟩])
        .ret)
       (.seq (.reg [⟨some 15, (.move (.tmp 0)), none⟩,
          ⟨some 16, (.nilCheck (.tmp 15)), none⟩,
          ⟨some 17, (.fieldAddr 52 (.tmp 16) 3), none⟩,
          ⟨some 18, (.load 4 (.tmp 17)), none⟩,
          ⟨some 19, (.move (.tmp 18)), none⟩,
          ⟨some 20, (.move (.tmp 1)), some (19, true)⟩,
          ⟨some 21, (.move (.tmp 0)), some (19, true)⟩,
          ⟨some 22, (.nilCheck (.tmp 21)), some (19, true)⟩,
          ⟨some 23, (.fieldAddr 52 (.tmp 22) 4), some (19, true)⟩,
          ⟨some 24, (.load 3 (.tmp 23)), some (19, true)⟩,
          ⟨some 25, (.binOp .lss 3 (.tmp 20) (.tmp 24) 3), some (19, true)⟩,
          ⟨some 26, (.pick (.tmp 19) (.tmp 25) (.const (.bool false))), none⟩,
          ⟨some 14, (.assign (.tmp 26)), none⟩])
        (.cond (.tmp 14)
         (.seq (.reg [⟨some 4, (.assign (.const (.int .i64 0))), none⟩,
            ⟨some 5, (.assign (.const (.int .i64 12))), none⟩])
          .ret)
         (.seq (.reg [⟨some 28, (.move (.tmp 0)), none⟩,
            ⟨some 29, (.nilCheck (.tmp 28)), none⟩,
            ⟨some 30, (.fieldAddr 52 (.tmp 29) 1), none⟩,
            ⟨some 31, (.load 45 (.tmp 30)), none⟩,
            ⟨some 32, (.call { callee := (.builtin .len), args := #[(.tmp 31)], argTypes := #[45] }), none⟩,
            ⟨some 33, (.binOp .eql 3 (.tmp 32) (.const (.int .i64 0)) 3), none⟩,
            ⟨some 27, (.assign (.tmp 33)), none⟩])
          (.cond (.tmp 27)
           (.seq (.reg [⟨some 4, (.assign (.const (.int .i64 0))), none⟩,
              ⟨some 5, (.assign (.const (.int .i64 15))), none⟩])
            .ret)
           (.seq (.reg [⟨some 35, (.move (.tmp 0)), none⟩,
              ⟨some 36, (.nilCheck (.tmp 35)), none⟩,
              ⟨some 37, (.fieldAddr 52 (.tmp 36) 2), none⟩,
              ⟨some 38, (.load 4 (.tmp 37)), none⟩,
              ⟨some 34, (.assign (.tmp 38)), none⟩])
            (.cond (.tmp 34)
             (.seq (.reg [⟨some 39, (.move (.tmp 0)), none⟩,
                ⟨some 40, (.nilCheck (.tmp 39)), none⟩,
                ⟨some 41, (.fieldAddr 52 (.tmp 40) 0), none⟩,
                ⟨some 42, (.fieldAddr 23 (.tmp 41) 0), none⟩,
                ⟨some 43, (.load 3 (.tmp 42)), none⟩,
                ⟨some 4, (.assign (.tmp 43)), none⟩,
                ⟨some 5, (.assign (.const (.int .i64 0))), none⟩])
              .ret)
             .skip)))))))))))
  (.seq (.reg [⟨some 44, (.move (.tmp 1)), none⟩,
     ⟨some 45, (.move (.tmp 0)), none⟩,
     ⟨some 46, (.nilCheck (.tmp 45)), none⟩,
     ⟨some 47, (.fieldAddr 52 (.tmp 46) 4), none⟩,
     ⟨some 48, (.load 3 (.tmp 47)), none⟩,
     ⟨some 49, (.binOp .sub 3 (.tmp 44) (.tmp 48) 3), none⟩,
     ⟨some 6, (.assign (.tmp 49)), none⟩])
   (.seq (.regq [⟨some 50, (.move (.tmp 0)), none⟩,
      ⟨some 51, (.nilCheck (.tmp 50)), none⟩,
      ⟨some 52, (.fieldAddr 52 (.tmp 51) 0), none⟩,
      ⟨some 53, (.fieldAddr 23 (.tmp 52) 0), none⟩,
      ⟨some 54, (.load 3 (.tmp 53)), none⟩,
      ⟨some 55, (.move (.tmp 6)), none⟩,
      ⟨some 56, (.move (.tmp 0)), none⟩,
      ⟨some 57, (.nilCheck (.tmp 56)), none⟩,
      ⟨some 58, (.fieldAddr 52 (.tmp 57) 0), none⟩,
      ⟨some 59, (.fieldAddr 23 (.tmp 58) 1), none⟩,
      ⟨some 60, (.load 3 (.tmp 59)), none⟩,
      ⟨some 61, (.call { callee := (.value (.func 26)), args := #[(.tmp 55), (.tmp 60), (.const (.int .i64 1000000000))], argTypes := #[3, 3, 3] }), none⟩,
      ⟨some 62, (.binOp .add 3 (.tmp 54) (.tmp 61) 3), none⟩,
      ⟨some 63, (.move (.tmp 6)), none⟩,
      ⟨some 64, (.move (.tmp 6)), none⟩,
      ⟨some 65, (.move (.tmp 0)), none⟩,
      ⟨some 66, (.nilCheck (.tmp 65)), none⟩,
      ⟨some 67, (.fieldAddr 52 (.tmp 66) 0), none⟩,
      ⟨some 68, (.fieldAddr 23 (.tmp 67) 2), none⟩,
      ⟨some 69, (.load 3 (.tmp 68)), none⟩,
      ⟨some 70, (.call { callee := (.value (.func 26)), args := #[(.tmp 64), (.tmp 69), (.const (.int .i64 86400000000000))], argTypes := #[3, 3, 3] }), none⟩,
      ⟨some 71, (.call { callee := (.value (.func 26)), args := #[(.tmp 63), (.tmp 70), (.const (.int .i64 1000000000))], argTypes := #[3, 3, 3] }), none⟩,
      ⟨some 72, (.binOp .add 3 (.tmp 62) (.tmp 71) 3), none⟩,
      ⟨some 4, (.assign (.tmp 72)), none⟩,
      ⟨some 5, (.assign (.const (.int .i64 0))), none⟩])
    .ret))))
theorem k15 : FOK Try.prog 15 73 c15 [4, 5] := ⟨⟨[9, 10, 11, 12, 13], Try.f15, _, by kernel_rfl, by kernel_rfl, rfl, by kernel_rfl, rfl, by kernel_rfl, by decide⟩⟩

/-- (*timesync.timesyncref14.Memory).Error -/
def c16 : SC :=
  (.seq (.reg [⟨some 4, (.assign (.const (.int .i64 0))), none⟩,
   ⟨some 5, (.assign (.const (.int .i64 0))), none⟩])
 (.seq (.seq (.reg [⟨some 9, (.move (.tmp 0)), none⟩,
     ⟨some 10, (.binOp .eql 28 (.tmp 9) (.const (.pointer none)) 28), none⟩])
   (.cond (.tmp 10)
    (.seq (.reg [⟨some 4, (.assign (.const (.int .i64 0))), none⟩,
       ⟨some 5, (.assign (.const (.int .i64 1))), none⟩])
     .ret)
    .skip))
  (.seq (.seq (.reg [⟨some 11, (.move (.tmp 1)), none⟩,
      ⟨some 12, (.binOp .lss 3 (.tmp 11) (.const (.int .i64 0)) 3), none⟩,
      ⟨some 13, (.move (.tmp 12)), none⟩,
      ⟨some 14, (.move (.tmp 1)), some (13, false)⟩,
      ⟨some 15, (.binOp .gtr 3 (.tmp 14) (.const (.int .i64 1125899906842624)) 3), some (13, false)⟩,
      ⟨some 16, (.pick (.tmp 13) (.const (.bool true)) (.tmp 15)), none⟩])
    (.cond (.tmp 16)
     (.seq (.reg [⟨some 4, (.assign (.const (.int .i64 0))), none⟩,
        ⟨some 5, (.assign (.const (.int .i64 3))), none⟩])
      .ret)
     .skip))
   (.seq (.seq (.reg [⟨some 17, (.move (.tmp 0)), none⟩,
       ⟨some 18, (.nilCheck (.tmp 17)), none⟩,
       ⟨some 19, (.fieldAddr 54 (.tmp 18) 3), none⟩,
       ⟨some 20, (.load 4 (.tmp 19)), none⟩,
       ⟨some 21, (.move (.tmp 20)), none⟩,
       ⟨some 22, (.move (.tmp 1)), some (21, true)⟩,
       ⟨some 23, (.move (.tmp 0)), some (21, true)⟩,
       ⟨some 24, (.nilCheck (.tmp 23)), some (21, true)⟩,
       ⟨some 25, (.fieldAddr 54 (.tmp 24) 2), some (21, true)⟩,
       ⟨some 26, (.load 3 (.tmp 25)), some (21, true)⟩,
       ⟨some 27, (.binOp .lss 3 (.tmp 22) (.tmp 26) 3), some (21, true)⟩,
       ⟨some 28, (.pick (.tmp 21) (.tmp 27) (.const (.bool false))), none⟩])
     (.cond (.tmp 28)
      (.seq (.reg [⟨some 4, (.assign (.const (.int .i64 0))), none⟩,
         ⟨some 5, (.assign (.const (.int .i64 12))), none⟩])
       .ret)
      .skip))
    (.seq (.seq (.reg [⟨some 29, (.move (.tmp 0)), none⟩,
        ⟨some 30, (.nilCheck (.tmp 29)), none⟩,
        ⟨some 31, (.fieldAddr 54 (.tmp 30) 1), none⟩,
        ⟨some 32, (.load 45 (.tmp 31)), none⟩,
        ⟨some 33, (.call { callee := (.builtin .len), args := #[(.tmp 32)], argTypes := #[45] }), none⟩,
        ⟨some 34, (.binOp .eql 3 (.tmp 33) (.const (.int .i64 0)) 3), none⟩])
      (.cond (.tmp 34)
       (.seq (.reg [⟨some 4, (.assign (.const (.int .i64 0))), none⟩,
          ⟨some 5, (.assign (.const (.int .i64 15))), none⟩])
        .ret)
       .skip))
     (.seq (.seq (.reg [⟨some 35, (.move (.tmp 0)), none⟩,
         ⟨some 36, (.nilCheck (.tmp 35)), none⟩,
         ⟨some 37, (.fieldAddr 54 (.tmp 36) 4), none⟩,
         ⟨some 38, (.load 4 (.tmp 37)), none⟩,
         ⟨some 39, (.unOp .not 4 (.tmp 38)), none⟩])
       (.cond (.tmp 39)
        (.seq (.reg [⟨some 40, (.move (.tmp 0)), none⟩,
           ⟨some 41, (.nilCheck (.tmp 40)), none⟩,
           ⟨some 42, (.fieldAddr 54 (.tmp 41) 0), none⟩,
           ⟨some 43, (.fieldAddr 23 (.tmp 42) 0), none⟩,
           ⟨some 44, (.load 3 (.tmp 43)), none⟩,
           ⟨some 4, (.assign (.tmp 44)), none⟩,
           ⟨some 5, (.assign (.const (.int .i64 0))), none⟩])
         .ret)
        .skip))
      (.seq (.reg [⟨some 45, (.move (.tmp 1)), none⟩,
         ⟨some 46, (.move (.tmp 0)), none⟩,
         ⟨some 47, (.nilCheck (.tmp 46)), none⟩,
         ⟨some 48, (.fieldAddr 54 (.tmp 47) 2), none⟩,
         ⟨some 49, (.load 3 (.tmp 48)), none⟩,
         ⟨some 50, (.binOp .sub 3 (.tmp 45) (.tmp 49) 3), none⟩,
         ⟨some 6, (.assign (.tmp 50)), none⟩])
       (.seq (.reg [⟨some 51, (.move (.tmp 6)), none⟩,
          ⟨some 52, (.move (.tmp 0)), none⟩,
          ⟨some 53, (.nilCheck (.tmp 52)), none⟩,
          ⟨some 54, (.fieldAddr 54 (.tmp 53) 0), none⟩,
          ⟨some 55, (.fieldAddr 23 (.tmp 54) 1), none⟩,
          ⟨some 56, (.load 3 (.tmp 55)), none⟩,
          ⟨some 57, (.call { callee := (.value (.func 27)), args := #[(.tmp 51), (.tmp 56), (.const (.int .i64 1000000000))], argTypes := #[3, 3, 3] }), none⟩,
          ⟨some 7, (.assign (.tmp 57)), none⟩])
        (.seq (.reg [⟨some 58, (.move (.tmp 6)), none⟩,
           ⟨some 59, (.move (.tmp 6)), none⟩,
           ⟨some 60, (.move (.tmp 0)), none⟩,
           ⟨some 61, (.nilCheck (.tmp 60)), none⟩,
           ⟨some 62, (.fieldAddr 54 (.tmp 61) 0), none⟩,
           ⟨some 63, (.fieldAddr 23 (.tmp 62) 2), none⟩,
           ⟨some 64, (.load 3 (.tmp 63)), none⟩,
           ⟨some 65, (.call { callee := (.value (.func 27)), args := #[(.tmp 59), (.tmp 64), (.const (.int .i64 86400000000000))], argTypes := #[3, 3, 3] }), none⟩,
           ⟨some 66, (.call { callee := (.value (.func 27)), args := #[(.tmp 58), (.tmp 65), (.const (.int .i64 1000000000))], argTypes := #[3, 3, 3] }), none⟩,
           ⟨some 8, (.assign (.tmp 66)), none⟩])
         (.seq (.reg [⟨some 67, (.move (.tmp 0)), none⟩,
            ⟨some 68, (.nilCheck (.tmp 67)), none⟩,
            ⟨some 69, (.fieldAddr 54 (.tmp 68) 0), none⟩,
            ⟨some 70, (.fieldAddr 23 (.tmp 69) 0), none⟩,
            ⟨some 71, (.load 3 (.tmp 70)), none⟩,
            ⟨some 72, (.move (.tmp 7)), none⟩,
            ⟨some 73, (.binOp .add 3 (.tmp 71) (.tmp 72) 3), none⟩,
            ⟨some 74, (.move (.tmp 8)), none⟩,
            ⟨some 75, (.binOp .add 3 (.tmp 73) (.tmp 74) 3), none⟩,
            ⟨some 4, (.assign (.tmp 75)), none⟩,
            ⟨some 5, (.assign (.const (.int .i64 0))), none⟩])
          .ret))))))))))
theorem k16 : FOK Try.prog 16 76 c16 [4, 5] := ⟨⟨[9, 10, 11, 12, 13], Try.f16, _, by kernel_rfl, by kernel_rfl, rfl, by kernel_rfl, rfl, by kernel_rfl, by decide⟩⟩

/-- (*timesync.holdover.Memory).State -/
def c17 : SC :=
  (.seq (.reg [⟨some 4, (.assign (.const (.int .i64 0))), none⟩])
 (.seq (.seq (.reg [⟨some 7, (.move (.tmp 0)), none⟩,
     ⟨some 8, (.binOp .eql 26 (.tmp 7) (.const (.pointer none)) 26), none⟩,
     ⟨some 9, (.move (.tmp 8)), none⟩,
     ⟨some 10, (.move (.tmp 0)), some (9, false)⟩,
     ⟨some 11, (.nilCheck (.tmp 10)), some (9, false)⟩,
     ⟨some 12, (.fieldAddr 52 (.tmp 11) 1), some (9, false)⟩,
     ⟨some 13, (.load 45 (.tmp 12)), some (9, false)⟩,
     ⟨some 14, (.call { callee := (.builtin .len), args := #[(.tmp 13)], argTypes := #[45] }), some (9, false)⟩,
     ⟨some 15, (.binOp .eql 3 (.tmp 14) (.const (.int .i64 0)) 3), some (9, false)⟩,
     ⟨some 16, (.pick (.tmp 9) (.const (.bool true)) (.tmp 15)), none⟩])
   (.cond (.tmp 16)
    (.seq (.reg [⟨some 4, (.assign (.const (.int .i64 0))), none⟩])
     .ret)
    .skip))
  (.seq (.seq (.reg [⟨some 17, (.move (.tmp 0)), none⟩,
      ⟨some 18, (.nilCheck (.tmp 17)), none⟩,
      ⟨some 19, (.fieldAddr 52 (.tmp 18) 2), none⟩,
      ⟨some 20, (.load 4 (.tmp 19)), none⟩])
    (.cond (.tmp 20)
     (.seq (.reg [⟨some 4, (.assign (.const (.int .i64 1))), none⟩])
      .ret)
     .skip))
   (.seq (.seq (.reg [⟨some 22, (.move (.tmp 0)), none⟩,
       ⟨some 23, (.move (.tmp 1)), none⟩,
       ⟨some 24, (.move (.tmp 0)), none⟩,
       ⟨some 25, (.nilCheck (.tmp 24)), none⟩,
       ⟨some 26, (.fieldAddr 52 (.tmp 25) 4), none⟩,
       ⟨some 27, (.load 3 (.tmp 26)), none⟩,
       ⟨some 28, (.call { callee := (.builtin .max), args := #[(.tmp 23), (.tmp 27)], argTypes := #[3, 3] }), none⟩,
       ⟨some 29, (.call { callee := (.value (.func 15)), args := #[(.tmp 22), (.tmp 28)], argTypes := #[26, 3] }), none⟩,
       ⟨some 21, (.move (.tmp 29)), none⟩,
       ⟨some 30, (.extract (.tmp 21) 0), none⟩,
       ⟨some 31, (.extract (.tmp 21) 1), none⟩,
       ⟨some 5, (.assign (.tmp 30)), none⟩,
       ⟨some 6, (.assign (.tmp 31)), none⟩])
     (.seq (.reg [⟨some 32, (.move (.tmp 6)), none⟩,
        ⟨some 33, (.binOp .neq 24 (.tmp 32) (.const (.int .i64 0)) 24), none⟩,
        ⟨some 34, (.move (.tmp 33)), none⟩,
        ⟨some 35, (.move (.tmp 5)), some (34, false)⟩,
        ⟨some 36, (.move (.tmp 0)), some (34, false)⟩,
        ⟨some 37, (.nilCheck (.tmp 36)), some (34, false)⟩,
        ⟨some 38, (.fieldAddr 52 (.tmp 37) 0), some (34, false)⟩,
        ⟨some 39, (.fieldAddr 23 (.tmp 38) 3), some (34, false)⟩,
        ⟨some 40, (.load 3 (.tmp 39)), some (34, false)⟩,
        ⟨some 41, (.binOp .gtr 3 (.tmp 35) (.tmp 40) 3), some (34, false)⟩,
        ⟨some 42, (.pick (.tmp 34) (.const (.bool true)) (.tmp 41)), none⟩])
      (.cond (.tmp 42)
       (.seq (.reg [⟨some 4, (.assign (.const (.int .i64 3))), none⟩])
        .ret)
       .skip)))
    (.seq (.reg [⟨some 4, (.assign (.const (.int .i64 2))), none⟩])
     .ret)))))
theorem k17 : FOK Try.prog 17 43 c17 [4] := ⟨⟨[9, 10, 11, 12, 13], Try.f17, _, by kernel_rfl, by kernel_rfl, rfl, by kernel_rfl, rfl, by kernel_rfl, by decide⟩⟩

/-- (*timesync.timesyncref14.Memory).State -/
def c18 : SC :=
  (.seq (.reg [⟨some 4, (.assign (.const (.int .i64 0))), none⟩])
 (.seq (.seq (.reg [⟨some 7, (.move (.tmp 0)), none⟩,
     ⟨some 8, (.binOp .eql 28 (.tmp 7) (.const (.pointer none)) 28), none⟩,
     ⟨some 9, (.move (.tmp 8)), none⟩,
     ⟨some 10, (.move (.tmp 0)), some (9, false)⟩,
     ⟨some 11, (.nilCheck (.tmp 10)), some (9, false)⟩,
     ⟨some 12, (.fieldAddr 54 (.tmp 11) 1), some (9, false)⟩,
     ⟨some 13, (.load 45 (.tmp 12)), some (9, false)⟩,
     ⟨some 14, (.call { callee := (.builtin .len), args := #[(.tmp 13)], argTypes := #[45] }), some (9, false)⟩,
     ⟨some 15, (.binOp .eql 3 (.tmp 14) (.const (.int .i64 0)) 3), some (9, false)⟩,
     ⟨some 16, (.pick (.tmp 9) (.const (.bool true)) (.tmp 15)), none⟩])
   (.cond (.tmp 16)
    (.seq (.reg [⟨some 4, (.assign (.const (.int .i64 0))), none⟩])
     .ret)
    .skip))
  (.seq (.seq (.reg [⟨some 17, (.move (.tmp 0)), none⟩,
      ⟨some 18, (.nilCheck (.tmp 17)), none⟩,
      ⟨some 19, (.fieldAddr 54 (.tmp 18) 4), none⟩,
      ⟨some 20, (.load 4 (.tmp 19)), none⟩,
      ⟨some 21, (.unOp .not 4 (.tmp 20)), none⟩])
    (.cond (.tmp 21)
     (.seq (.reg [⟨some 4, (.assign (.const (.int .i64 1))), none⟩])
      .ret)
     .skip))
   (.seq (.reg [⟨some 23, (.move (.tmp 0)), none⟩,
      ⟨some 24, (.move (.tmp 1)), none⟩,
      ⟨some 25, (.move (.tmp 0)), none⟩,
      ⟨some 26, (.nilCheck (.tmp 25)), none⟩,
      ⟨some 27, (.fieldAddr 54 (.tmp 26) 2), none⟩,
      ⟨some 28, (.load 3 (.tmp 27)), none⟩,
      ⟨some 29, (.call { callee := (.builtin .max), args := #[(.tmp 24), (.tmp 28)], argTypes := #[3, 3] }), none⟩,
      ⟨some 30, (.call { callee := (.value (.func 16)), args := #[(.tmp 23), (.tmp 29)], argTypes := #[28, 3] }), none⟩,
      ⟨some 22, (.move (.tmp 30)), none⟩,
      ⟨some 31, (.extract (.tmp 22) 0), none⟩,
      ⟨some 32, (.extract (.tmp 22) 1), none⟩,
      ⟨some 5, (.assign (.tmp 31)), none⟩,
      ⟨some 6, (.assign (.tmp 32)), none⟩])
    (.seq (.seq (.reg [⟨some 33, (.move (.tmp 6)), none⟩,
        ⟨some 34, (.binOp .neq 24 (.tmp 33) (.const (.int .i64 0)) 24), none⟩,
        ⟨some 35, (.move (.tmp 34)), none⟩,
        ⟨some 36, (.move (.tmp 5)), some (35, false)⟩,
        ⟨some 37, (.move (.tmp 0)), some (35, false)⟩,
        ⟨some 38, (.nilCheck (.tmp 37)), some (35, false)⟩,
        ⟨some 39, (.fieldAddr 54 (.tmp 38) 0), some (35, false)⟩,
        ⟨some 40, (.fieldAddr 23 (.tmp 39) 3), some (35, false)⟩,
        ⟨some 41, (.load 3 (.tmp 40)), some (35, false)⟩,
        ⟨some 42, (.binOp .gtr 3 (.tmp 36) (.tmp 41) 3), some (35, false)⟩,
        ⟨some 43, (.pick (.tmp 35) (.const (.bool true)) (.tmp 42)), none⟩])
      (.cond (.tmp 43)
       (.seq (.reg [⟨some 4, (.assign (.const (.int .i64 3))), none⟩])
        .ret)
       .skip))
     (.seq (.reg [⟨some 4, (.assign (.const (.int .i64 2))), none⟩])
      .ret))))))
theorem k18 : FOK Try.prog 18 44 c18 [4] := ⟨⟨[9, 10, 11, 12, 13], Try.f18, _, by kernel_rfl, by kernel_rfl, rfl, by kernel_rfl, rfl, by kernel_rfl, by decide⟩⟩

/-- (*timesync.holdover.Memory).Learn -/
def c19 : SC :=
  (.seq (.reg [⟨some 6, (.assign (.const (.int .i64 0))), none⟩])
 (.seq (.block 0
   (.seq (.reg [⟨some 8, (.move (.tmp 0)), none⟩,
      ⟨some 9, (.binOp .eql 26 (.tmp 8) (.const (.pointer none)) 26), none⟩,
      ⟨some 7, (.assign (.tmp 9)), none⟩])
    (.cond (.tmp 7)
     (.seq (.reg [⟨some 6, (.assign (.const (.int .i64 1))), none⟩])
      .ret)
     (.seq (.reg [⟨some 11, (.move (.tmp 1)), none⟩,
        ⟨some 12, (.call { callee := (.value (.func 22)), args := #[(.tmp 11)], argTypes := #[3] }), none⟩,
        ⟨some 13, (.unOp .not 4 (.tmp 12)), none⟩,
        ⟨some 14, (.move (.tmp 13)), none⟩,
        ⟨some 15, (.move (.tmp 2)), some (14, false)⟩,
        ⟨some 16, (.binOp .lss 3 (.tmp 15) (.const (.int .i64 (-500000))) 3), some (14, false)⟩,
        ⟨some 17, (.pick (.tmp 14) (.const (.bool true)) (.tmp 16)), none⟩,
        ⟨some 18, (.move (.tmp 17)), none⟩,
        ⟨some 19, (.move (.tmp 2)), some (18, false)⟩,
        ⟨some 20, (.binOp .gtr 3 (.tmp 19) (.const (.int .i64 500000)) 3), some (18, false)⟩,
        ⟨some 21, (.pick (.tmp 18) (.const (.bool true)) (.tmp 20)), none⟩,
        ⟨some 10, (.assign (.tmp 21)), none⟩])
      (.cond (.tmp 10)
       (.seq (.reg [⟨some 6, (.assign (.const (.int .i64 3))), none⟩])
        .ret)
       (.seq (.reg [⟨some 23, (.move (.tmp 0)), none⟩,
          ⟨some 24, (.move (.tmp 1)), none⟩,
          ⟨some 25, (.call { callee := (.value (.func 28)), args := #[(.tmp 23), (.tmp 24)], argTypes := #[26, 3] }), none⟩,
          ⟨some 22, (.assign (.tmp 25)), none⟩])
        (.cond (.tmp 22)
         (.seq (.reg [⟨some 6, (.assign (.const (.int .i64 12))), none⟩])
          .ret)
         .skip)))))))
  (.seq (.reg [⟨some 26, (.move (.tmp 0)), none⟩,
     ⟨some 27, (.move (.tmp 0)), none⟩,
     ⟨some 28, (.nilCheck (.tmp 27)), none⟩,
     ⟨some 29, (.fieldAddr 52 (.tmp 28) 1), none⟩,
     ⟨some 30, (.load 45 (.tmp 29)), none⟩,
     ⟨some 31, (.move (.tmp 2)), none⟩,
     ⟨some 32, (.buildSlice 45 1 #[(0, (.tmp 31))]), none⟩,
     ⟨some 33, (.call { callee := (.builtin .append), args := #[(.tmp 30), (.tmp 32)], argTypes := #[45, 45] }), none⟩,
     ⟨some 34, (.nilCheck (.tmp 26)), none⟩,
     ⟨some 35, (.fieldAddr 52 (.tmp 34) 1), none⟩,
     ⟨none, (.store 45 (.tmp 35) (.tmp 33)), none⟩])
   (.seq (.seq (.reg [⟨some 36, (.move (.tmp 0)), none⟩,
       ⟨some 37, (.nilCheck (.tmp 36)), none⟩,
       ⟨some 38, (.fieldAddr 52 (.tmp 37) 1), none⟩,
       ⟨some 39, (.load 45 (.tmp 38)), none⟩,
       ⟨some 40, (.call { callee := (.builtin .len), args := #[(.tmp 39)], argTypes := #[45] }), none⟩,
       ⟨some 41, (.binOp .gtr 3 (.tmp 40) (.const (.int .i64 16)) 3), none⟩])
     (.cond (.tmp 41)
      (.seq (.regs [⟨some 42, (.move (.tmp 0)), none⟩,
         ⟨some 43, (.nilCheck (.tmp 42)), none⟩,
         ⟨some 44, (.fieldAddr 52 (.tmp 43) 1), none⟩,
         ⟨some 45, (.load 45 (.tmp 44)), none⟩,
         ⟨some 46, (.move (.tmp 0)), none⟩,
         ⟨some 47, (.nilCheck (.tmp 46)), none⟩,
         ⟨some 48, (.fieldAddr 52 (.tmp 47) 1), none⟩,
         ⟨some 49, (.load 45 (.tmp 48)), none⟩,
         ⟨some 50, (.slice 45 (.tmp 49) (some (.const (.int .i64 1))) none none), none⟩] [⟨some 51, (.call { callee := (.builtin .copy), args := #[(.tmp 45), (.tmp 50)], argTypes := #[45, 45] }), none⟩])
       (.reg [⟨some 52, (.move (.tmp 0)), none⟩,
         ⟨some 53, (.move (.tmp 0)), none⟩,
         ⟨some 54, (.nilCheck (.tmp 53)), none⟩,
         ⟨some 55, (.fieldAddr 52 (.tmp 54) 1), none⟩,
         ⟨some 56, (.load 45 (.tmp 55)), none⟩,
         ⟨some 57, (.slice 45 (.tmp 56) none (some (.const (.int .i64 16))) none), none⟩,
         ⟨some 58, (.nilCheck (.tmp 52)), none⟩,
         ⟨some 59, (.fieldAddr 52 (.tmp 58) 1), none⟩,
         ⟨none, (.store 45 (.tmp 59) (.tmp 57)), none⟩]))
      .skip))
    (.seq (.reg [⟨some 60, (.move (.tmp 0)), none⟩,
       ⟨some 61, (.move (.tmp 0)), none⟩,
       ⟨some 62, (.move (.tmp 0)), none⟩,
       ⟨some 63, (.move (.tmp 1)), none⟩,
       ⟨some 64, (.nilCheck (.tmp 60)), none⟩,
       ⟨some 65, (.fieldAddr 52 (.tmp 64) 2), none⟩,
       ⟨none, (.store 4 (.tmp 65) (.const (.bool true))), none⟩,
       ⟨some 66, (.nilCheck (.tmp 61)), none⟩,
       ⟨some 67, (.fieldAddr 52 (.tmp 66) 3), none⟩,
       ⟨none, (.store 4 (.tmp 67) (.const (.bool true))), none⟩,
       ⟨some 68, (.nilCheck (.tmp 62)), none⟩,
       ⟨some 69, (.fieldAddr 52 (.tmp 68) 4), none⟩,
       ⟨none, (.store 3 (.tmp 69) (.tmp 63)), none⟩])
     (.seq (.reg [⟨some 6, (.assign (.const (.int .i64 0))), none⟩])
      .ret))))))
theorem k19 : FOK Try.prog 19 70 c19 [6] := ⟨⟨[9, 10, 11, 12, 13], Try.f19, _, by kernel_rfl, by kernel_rfl, rfl, by kernel_rfl, rfl, by kernel_rfl, by decide⟩⟩

/-- (*timesync.holdover.Memory).Lose -/
def c20 : SC :=
  (.seq (.reg [⟨some 4, (.assign (.const (.int .i64 0))), none⟩])
 (.seq (.block 0
   (.seq (.reg [⟨some 6, (.move (.tmp 0)), none⟩,
      ⟨some 7, (.binOp .eql 26 (.tmp 6) (.const (.pointer none)) 26), none⟩,
      ⟨some 5, (.assign (.tmp 7)), none⟩])
    (.cond (.tmp 5)
     (.seq (.reg [⟨some 4, (.assign (.const (.int .i64 1))), none⟩])
      .ret)
     (.seq (.reg [⟨some 9, (.move (.tmp 1)), none⟩,
        ⟨some 10, (.call { callee := (.value (.func 22)), args := #[(.tmp 9)], argTypes := #[3] }), none⟩,
        ⟨some 11, (.unOp .not 4 (.tmp 10)), none⟩,
        ⟨some 8, (.assign (.tmp 11)), none⟩])
      (.cond (.tmp 8)
       (.seq (.reg [⟨some 4, (.assign (.const (.int .i64 3))), none⟩])
        .ret)
       (.seq (.reg [⟨some 13, (.move (.tmp 0)), none⟩,
          ⟨some 14, (.move (.tmp 1)), none⟩,
          ⟨some 15, (.call { callee := (.value (.func 28)), args := #[(.tmp 13), (.tmp 14)], argTypes := #[26, 3] }), none⟩,
          ⟨some 12, (.assign (.tmp 15)), none⟩])
        (.cond (.tmp 12)
         (.seq (.reg [⟨some 4, (.assign (.const (.int .i64 12))), none⟩])
          .ret)
         (.seq (.reg [⟨some 17, (.move (.tmp 0)), none⟩,
            ⟨some 18, (.nilCheck (.tmp 17)), none⟩,
            ⟨some 19, (.fieldAddr 52 (.tmp 18) 2), none⟩,
            ⟨some 20, (.load 4 (.tmp 19)), none⟩,
            ⟨some 21, (.unOp .not 4 (.tmp 20)), none⟩,
            ⟨some 16, (.assign (.tmp 21)), none⟩])
          (.cond (.tmp 16)
           (.seq (.reg [⟨some 4, (.assign (.const (.int .i64 15))), none⟩])
            .ret)
           .skip)))))))))
  (.seq (.reg [⟨some 22, (.move (.tmp 0)), none⟩,
     ⟨some 23, (.move (.tmp 0)), none⟩,
     ⟨some 24, (.move (.tmp 1)), none⟩,
     ⟨some 25, (.nilCheck (.tmp 22)), none⟩,
     ⟨some 26, (.fieldAddr 52 (.tmp 25) 2), none⟩,
     ⟨none, (.store 4 (.tmp 26) (.const (.bool false))), none⟩,
     ⟨some 27, (.nilCheck (.tmp 23)), none⟩,
     ⟨some 28, (.fieldAddr 52 (.tmp 27) 4), none⟩,
     ⟨none, (.store 3 (.tmp 28) (.tmp 24)), none⟩])
   (.seq (.reg [⟨some 4, (.assign (.const (.int .i64 0))), none⟩])
    .ret))))
theorem k20 : FOK Try.prog 20 29 c20 [4] := ⟨⟨[9, 10, 11, 12, 13], Try.f20, _, by kernel_rfl, by kernel_rfl, rfl, by kernel_rfl, rfl, by kernel_rfl, by decide⟩⟩

/-- (*timesync.holdover.Memory).Estimate -/
def c21 : SC :=
  (.seq (.reg [⟨some 2, (.assign (.const (.int .i64 0))), none⟩,
   ⟨some 3, (.assign (.const (.bool false))), none⟩])
 (.seq (.seq (.reg [⟨some 5, (.move (.tmp 0)), none⟩,
     ⟨some 6, (.binOp .eql 26 (.tmp 5) (.const (.pointer none)) 26), none⟩,
     ⟨some 7, (.move (.tmp 6)), none⟩,
     ⟨some 8, (.move (.tmp 0)), some (7, false)⟩,
     ⟨some 9, (.nilCheck (.tmp 8)), some (7, false)⟩,
     ⟨some 10, (.fieldAddr 52 (.tmp 9) 1), some (7, false)⟩,
     ⟨some 11, (.load 45 (.tmp 10)), some (7, false)⟩,
     ⟨some 12, (.call { callee := (.builtin .len), args := #[(.tmp 11)], argTypes := #[45] }), some (7, false)⟩,
     ⟨some 13, (.binOp .eql 3 (.tmp 12) (.const (.int .i64 0)) 3), some (7, false)⟩,
     ⟨some 14, (.pick (.tmp 7) (.const (.bool true)) (.tmp 13)), none⟩])
   (.cond (.tmp 14)
    (.seq (.reg [⟨some 2, (.assign (.const (.int .i64 0))), none⟩,
       ⟨some 3, (.assign (.const (.bool false))), none⟩])
     .ret)
    .skip))
  (.seq (.reg [⟨some 15, (.move (.tmp 0)), none⟩,
     ⟨some 16, (.nilCheck (.tmp 15)), none⟩,
     ⟨some 17, (.fieldAddr 52 (.tmp 16) 1), none⟩,
     ⟨some 18, (.load 45 (.tmp 17)), none⟩,
     ⟨some 19, (.call { callee := (.builtin .len), args := #[(.tmp 18)], argTypes := #[45] }), none⟩,
     ⟨some 20, (.makeSlice 45 (.tmp 19) (.tmp 19)), none⟩,
     ⟨some 4, (.assign (.tmp 20)), none⟩])
   (.seq (.reg [⟨some 21, (.move (.tmp 4)), none⟩,
      ⟨some 22, (.move (.tmp 0)), none⟩,
      ⟨some 23, (.nilCheck (.tmp 22)), none⟩,
      ⟨some 24, (.fieldAddr 52 (.tmp 23) 1), none⟩,
      ⟨some 25, (.load 45 (.tmp 24)), none⟩,
      ⟨some 26, (.call { callee := (.builtin .copy), args := #[(.tmp 21), (.tmp 25)], argTypes := #[45, 45] }), none⟩])
    (.seq (.reg [⟨some 27, (.move (.tmp 4)), none⟩,
       ⟨some 28, (.call { callee := (.value (.func 29)), args := #[(.tmp 27)], argTypes := #[45] }), none⟩])
     (.seq (.reg [⟨some 29, (.move (.tmp 4)), none⟩,
        ⟨some 30, (.move (.tmp 4)), none⟩,
        ⟨some 31, (.call { callee := (.builtin .len), args := #[(.tmp 30)], argTypes := #[45] }), none⟩,
        ⟨some 32, (.binOp .sub 3 (.tmp 31) (.const (.int .i64 1)) 3), none⟩,
        ⟨some 33, (.binOp .quo 3 (.tmp 32) (.const (.int .i64 2)) 3), none⟩,
        ⟨some 34, (.indexAddr 45 (.tmp 29) (.tmp 33)), none⟩,
        ⟨some 35, (.load 3 (.tmp 34)), none⟩,
        ⟨some 2, (.assign (.tmp 35)), none⟩,
        ⟨some 3, (.assign (.const (.bool true))), none⟩])
      .ret))))))
theorem k21 : FOK Try.prog 21 36 c21 [2, 3] := ⟨⟨[9, 10, 11, 12, 13], Try.f21, _, by kernel_rfl, by kernel_rfl, rfl, by kernel_rfl, rfl, by kernel_rfl, by decide⟩⟩

/-- timesync.holdover.isTime -/
def c22 : SC :=
  (.seq (.reg [⟨some 2, (.assign (.const (.bool false))), none⟩])
 (.seq (.reg [⟨some 3, (.move (.tmp 0)), none⟩,
    ⟨some 4, (.binOp .geq 3 (.tmp 3) (.const (.int .i64 0)) 3), none⟩,
    ⟨some 5, (.move (.tmp 4)), none⟩,
    ⟨some 6, (.move (.tmp 0)), some (5, true)⟩,
    ⟨some 7, (.binOp .leq 3 (.tmp 6) (.const (.int .i64 1125899906842624)) 3), some (5, true)⟩,
    ⟨some 8, (.pick (.tmp 5) (.tmp 7) (.const (.bool false))), none⟩,
    ⟨some 2, (.assign (.tmp 8)), none⟩])
  .ret))
theorem k22 : FOK Try.prog 22 9 c22 [2] := ⟨⟨[9, 10, 11, 12, 13], Try.f22, _, by kernel_rfl, by kernel_rfl, rfl, by kernel_rfl, rfl, by kernel_rfl, by decide⟩⟩

/-- (*timesync.timesyncref14.Memory).Learn -/
def c23 : SC :=
  (.seq (.reg [⟨some 6, (.assign (.const (.int .i64 0))), none⟩])
 (.seq (.seq (.reg [⟨some 8, (.move (.tmp 0)), none⟩,
     ⟨some 9, (.binOp .eql 28 (.tmp 8) (.const (.pointer none)) 28), none⟩])
   (.cond (.tmp 9)
    (.seq (.reg [⟨some 6, (.assign (.const (.int .i64 1))), none⟩])
     .ret)
    .skip))
  (.seq (.seq (.reg [⟨some 10, (.move (.tmp 1)), none⟩,
      ⟨some 11, (.binOp .lss 3 (.tmp 10) (.const (.int .i64 0)) 3), none⟩,
      ⟨some 12, (.move (.tmp 11)), none⟩,
      ⟨some 13, (.move (.tmp 1)), some (12, false)⟩,
      ⟨some 14, (.binOp .gtr 3 (.tmp 13) (.const (.int .i64 1125899906842624)) 3), some (12, false)⟩,
      ⟨some 15, (.pick (.tmp 12) (.const (.bool true)) (.tmp 14)), none⟩,
      ⟨some 16, (.move (.tmp 15)), none⟩,
      ⟨some 17, (.move (.tmp 2)), some (16, false)⟩,
      ⟨some 18, (.binOp .lss 3 (.tmp 17) (.const (.int .i64 (-500000))) 3), some (16, false)⟩,
      ⟨some 19, (.pick (.tmp 16) (.const (.bool true)) (.tmp 18)), none⟩,
      ⟨some 20, (.move (.tmp 19)), none⟩,
      ⟨some 21, (.move (.tmp 2)), some (20, false)⟩,
      ⟨some 22, (.binOp .gtr 3 (.tmp 21) (.const (.int .i64 500000)) 3), some (20, false)⟩,
      ⟨some 23, (.pick (.tmp 20) (.const (.bool true)) (.tmp 22)), none⟩])
    (.cond (.tmp 23)
     (.seq (.reg [⟨some 6, (.assign (.const (.int .i64 3))), none⟩])
      .ret)
     .skip))
   (.seq (.seq (.reg [⟨some 24, (.move (.tmp 0)), none⟩,
       ⟨some 25, (.move (.tmp 1)), none⟩,
       ⟨some 26, (.call { callee := (.value (.func 30)), args := #[(.tmp 24), (.tmp 25)], argTypes := #[28, 3] }), none⟩,
       ⟨some 7, (.assign (.tmp 26)), none⟩])
     (.seq (.reg [⟨some 27, (.move (.tmp 7)), none⟩,
        ⟨some 28, (.binOp .neq 24 (.tmp 27) (.const (.int .i64 0)) 24), none⟩])
      (.cond (.tmp 28)
       (.seq (.reg [⟨some 29, (.move (.tmp 7)), none⟩,
          ⟨some 6, (.assign (.tmp 29)), none⟩])
        .ret)
       .skip)))
    (.seq (.reg [⟨some 30, (.move (.tmp 0)), none⟩,
       ⟨some 31, (.move (.tmp 0)), none⟩,
       ⟨some 32, (.nilCheck (.tmp 31)), none⟩,
       ⟨some 33, (.fieldAddr 54 (.tmp 32) 1), none⟩,
       ⟨some 34, (.load 45 (.tmp 33)), none⟩,
       ⟨some 35, (.move (.tmp 2)), none⟩,
       ⟨some 36, (.buildSlice 45 1 #[(0, (.tmp 35))]), none⟩,
       ⟨some 37, (.call { callee := (.builtin .append), args := #[(.tmp 34), (.tmp 36)], argTypes := #[45, 45] }), none⟩,
       ⟨some 38, (.nilCheck (.tmp 30)), none⟩,
       ⟨some 39, (.fieldAddr 54 (.tmp 38) 1), none⟩,
       ⟨none, (.store 45 (.tmp 39) (.tmp 37)), none⟩])
     (.seq (.seq (.reg [⟨some 40, (.move (.tmp 0)), none⟩,
         ⟨some 41, (.nilCheck (.tmp 40)), none⟩,
         ⟨some 42, (.fieldAddr 54 (.tmp 41) 1), none⟩,
         ⟨some 43, (.load 45 (.tmp 42)), none⟩,
         ⟨some 44, (.call { callee := (.builtin .len), args := #[(.tmp 43)], argTypes := #[45] }), none⟩,
         ⟨some 45, (.binOp .gtr 3 (.tmp 44) (.const (.int .i64 16)) 3), none⟩])
       (.cond (.tmp 45)
        (.reg [⟨some 46, (.move (.tmp 0)), none⟩,
          ⟨some 47, (.buildSlice 45 0 #[]), none⟩,
          ⟨some 48, (.move (.tmp 0)), none⟩,
          ⟨some 49, (.nilCheck (.tmp 48)), none⟩,
          ⟨some 50, (.fieldAddr 54 (.tmp 49) 1), none⟩,
          ⟨some 51, (.load 45 (.tmp 50)), none⟩,
          ⟨some 52, (.slice 45 (.tmp 51) (some (.const (.int .i64 1))) none none), none⟩,
          ⟨some 53, (.call { callee := (.builtin .append), args := #[(.tmp 47), (.tmp 52)], argTypes := #[45, 45] }), none⟩,
          ⟨some 54, (.nilCheck (.tmp 46)), none⟩,
          ⟨some 55, (.fieldAddr 54 (.tmp 54) 1), none⟩,
          ⟨none, (.store 45 (.tmp 55) (.tmp 53)), none⟩])
        .skip))
      (.seq (.reg [⟨some 56, (.move (.tmp 0)), none⟩,
         ⟨some 57, (.move (.tmp 1)), none⟩,
         ⟨some 58, (.nilCheck (.tmp 56)), none⟩,
         ⟨some 59, (.fieldAddr 54 (.tmp 58) 2), none⟩,
         ⟨none, (.store 3 (.tmp 59) (.tmp 57)), none⟩])
       (.seq (.reg [⟨some 60, (.move (.tmp 0)), none⟩,
          ⟨some 61, (.nilCheck (.tmp 60)), none⟩,
          ⟨some 62, (.fieldAddr 54 (.tmp 61) 3), none⟩,
          ⟨none, (.store 4 (.tmp 62) (.const (.bool true))), none⟩])
        (.seq (.reg [⟨some 63, (.move (.tmp 0)), none⟩,
           ⟨some 64, (.nilCheck (.tmp 63)), none⟩,
           ⟨some 65, (.fieldAddr 54 (.tmp 64) 4), none⟩,
           ⟨none, (.store 4 (.tmp 65) (.const (.bool false))), none⟩])
         (.seq (.reg [⟨some 6, (.assign (.const (.int .i64 0))), none⟩])
          .ret))))))))))
theorem k23 : FOK Try.prog 23 66 c23 [6] := ⟨⟨[9, 10, 11, 12, 13], Try.f23, _, by kernel_rfl, by kernel_rfl, rfl, by kernel_rfl, rfl, by kernel_rfl, by decide⟩⟩

/-- (*timesync.timesyncref14.Memory).Lose -/
def c24 : SC :=
  (.seq (.reg [⟨some 4, (.assign (.const (.int .i64 0))), none⟩])
 (.seq (.seq (.reg [⟨some 6, (.move (.tmp 0)), none⟩,
     ⟨some 7, (.binOp .eql 28 (.tmp 6) (.const (.pointer none)) 28), none⟩])
   (.cond (.tmp 7)
    (.seq (.reg [⟨some 4, (.assign (.const (.int .i64 1))), none⟩])
     .ret)
    .skip))
  (.seq (.seq (.reg [⟨some 8, (.move (.tmp 1)), none⟩,
      ⟨some 9, (.binOp .lss 3 (.tmp 8) (.const (.int .i64 0)) 3), none⟩,
      ⟨some 10, (.move (.tmp 9)), none⟩,
      ⟨some 11, (.move (.tmp 1)), some (10, false)⟩,
      ⟨some 12, (.binOp .gtr 3 (.tmp 11) (.const (.int .i64 1125899906842624)) 3), some (10, false)⟩,
      ⟨some 13, (.pick (.tmp 10) (.const (.bool true)) (.tmp 12)), none⟩])
    (.cond (.tmp 13)
     (.seq (.reg [⟨some 4, (.assign (.const (.int .i64 3))), none⟩])
      .ret)
     .skip))
   (.seq (.seq (.reg [⟨some 14, (.move (.tmp 0)), none⟩,
       ⟨some 15, (.move (.tmp 1)), none⟩,
       ⟨some 16, (.call { callee := (.value (.func 30)), args := #[(.tmp 14), (.tmp 15)], argTypes := #[28, 3] }), none⟩,
       ⟨some 5, (.assign (.tmp 16)), none⟩])
     (.seq (.reg [⟨some 17, (.move (.tmp 5)), none⟩,
        ⟨some 18, (.binOp .neq 24 (.tmp 17) (.const (.int .i64 0)) 24), none⟩])
      (.cond (.tmp 18)
       (.seq (.reg [⟨some 19, (.move (.tmp 5)), none⟩,
          ⟨some 4, (.assign (.tmp 19)), none⟩])
        .ret)
       .skip)))
    (.seq (.seq (.reg [⟨some 20, (.move (.tmp 0)), none⟩,
        ⟨some 21, (.nilCheck (.tmp 20)), none⟩,
        ⟨some 22, (.fieldAddr 54 (.tmp 21) 1), none⟩,
        ⟨some 23, (.load 45 (.tmp 22)), none⟩,
        ⟨some 24, (.call { callee := (.builtin .len), args := #[(.tmp 23)], argTypes := #[45] }), none⟩,
        ⟨some 25, (.binOp .eql 3 (.tmp 24) (.const (.int .i64 0)) 3), none⟩,
        ⟨some 26, (.move (.tmp 25)), none⟩,
        ⟨some 27, (.move (.tmp 0)), some (26, false)⟩,
        ⟨some 28, (.nilCheck (.tmp 27)), some (26, false)⟩,
        ⟨some 29, (.fieldAddr 54 (.tmp 28) 4), some (26, false)⟩,
        ⟨some 30, (.load 4 (.tmp 29)), some (26, false)⟩,
        ⟨some 31, (.pick (.tmp 26) (.const (.bool true)) (.tmp 30)), none⟩])
      (.cond (.tmp 31)
       (.seq (.reg [⟨some 4, (.assign (.const (.int .i64 15))), none⟩])
        .ret)
       .skip))
     (.seq (.reg [⟨some 32, (.move (.tmp 0)), none⟩,
        ⟨some 33, (.move (.tmp 1)), none⟩,
        ⟨some 34, (.nilCheck (.tmp 32)), none⟩,
        ⟨some 35, (.fieldAddr 54 (.tmp 34) 2), none⟩,
        ⟨none, (.store 3 (.tmp 35) (.tmp 33)), none⟩])
      (.seq (.reg [⟨some 36, (.move (.tmp 0)), none⟩,
         ⟨some 37, (.nilCheck (.tmp 36)), none⟩,
         ⟨some 38, (.fieldAddr 54 (.tmp 37) 4), none⟩,
         ⟨none, (.store 4 (.tmp 38) (.const (.bool true))), none⟩])
       (.seq (.reg [⟨some 4, (.assign (.const (.int .i64 0))), none⟩])
        .ret))))))))
theorem k24 : FOK Try.prog 24 39 c24 [4] := ⟨⟨[9, 10, 11, 12, 13], Try.f24, _, by kernel_rfl, by kernel_rfl, rfl, by kernel_rfl, rfl, by kernel_rfl, by decide⟩⟩

/-- (*timesync.timesyncref14.Memory).Estimate -/
def c25 : SC :=
  (.seq (.reg [⟨some 2, (.assign (.const (.int .i64 0))), none⟩,
   ⟨some 3, (.assign (.const (.bool false))), none⟩])
 (.seq (.seq (.reg [⟨some 5, (.move (.tmp 0)), none⟩,
     ⟨some 6, (.binOp .eql 28 (.tmp 5) (.const (.pointer none)) 28), none⟩])
   (.cond (.tmp 6)
    (.seq (.reg [⟨some 2, (.assign (.const (.int .i64 0))), none⟩,
       ⟨some 3, (.assign (.const (.bool false))), none⟩])
     .ret)
    .skip))
  (.seq (.seq (.reg [⟨some 4, (.assign (.const (.int .i64 0))), none⟩])
    (.block 0
     (.loop
      (.seq (.seq (.reg [⟨some 7, (.move (.tmp 4)), none⟩,
          ⟨some 8, (.move (.tmp 0)), none⟩,
          ⟨some 9, (.nilCheck (.tmp 8)), none⟩,
          ⟨some 10, (.fieldAddr 54 (.tmp 9) 1), none⟩,
          ⟨some 11, (.load 45 (.tmp 10)), none⟩,
          ⟨some 12, (.call { callee := (.builtin .len), args := #[(.tmp 11)], argTypes := #[45] }), none⟩,
          ⟨some 13, (.binOp .lss 3 (.tmp 7) (.tmp 12) 3), none⟩])
        (.cond (.tmp 13)
         .skip
         (.exit 0)))
       (.seq (.block 1
         (.seq (.regq [⟨some 16, (.move (.tmp 0)), none⟩,
            ⟨some 17, (.move (.tmp 4)), none⟩,
            ⟨some 18, (.call { callee := (.value (.func 31)), args := #[(.tmp 16), (.tmp 17)], argTypes := #[28, 3] }), none⟩,
            ⟨some 19, (.move (.tmp 0)), none⟩,
            ⟨some 20, (.nilCheck (.tmp 19)), none⟩,
            ⟨some 21, (.fieldAddr 54 (.tmp 20) 1), none⟩,
            ⟨some 22, (.load 45 (.tmp 21)), none⟩,
            ⟨some 23, (.call { callee := (.builtin .len), args := #[(.tmp 22)], argTypes := #[45] }), none⟩,
            ⟨some 24, (.binOp .sub 3 (.tmp 23) (.const (.int .i64 1)) 3), none⟩,
            ⟨some 25, (.binOp .quo 3 (.tmp 24) (.const (.int .i64 2)) 3), none⟩,
            ⟨some 26, (.binOp .eql 3 (.tmp 18) (.tmp 25) 3), none⟩])
          (.cond (.tmp 26)
           (.seq (.reg [⟨some 27, (.move (.tmp 0)), none⟩,
              ⟨some 28, (.nilCheck (.tmp 27)), none⟩,
              ⟨some 29, (.fieldAddr 54 (.tmp 28) 1), none⟩,
              ⟨some 30, (.load 45 (.tmp 29)), none⟩,
              ⟨some 31, (.move (.tmp 4)), none⟩,
              ⟨some 32, (.indexAddr 45 (.tmp 30) (.tmp 31)), none⟩,
              ⟨some 33, (.load 3 (.tmp 32)), none⟩,
              ⟨some 2, (.assign (.tmp 33)), none⟩,
              ⟨some 3, (.assign (.const (.bool true))), none⟩])
            .ret)
           .skip)))
        (.reg [⟨some 14, (.move (.tmp 4)), none⟩,
          ⟨some 15, (.binOp .add 3 (.tmp 14) (.const (.int .i64 1)) 3), none⟩,
          ⟨some 4, (.assign (.tmp 15)), none⟩]))))))
   (.seq (.reg [⟨some 2, (.assign (.const (.int .i64 0))), none⟩,
      ⟨some 3, (.assign (.const (.bool false))), none⟩])
    .ret))))
theorem k25 : FOK Try.prog 25 34 c25 [2, 3] := ⟨⟨[9, 10, 11, 12, 13], Try.f25, _, by kernel_rfl, by kernel_rfl, rfl, by kernel_rfl, rfl, by kernel_rfl, by decide⟩⟩

/-- timesync.holdover.up -/
def c26 : SC :=
  (.seq (.reg [⟨some 6, (.assign (.const (.int .i64 0))), none⟩])
 (.seq (.reg [⟨some 10, (.move (.tmp 0)), none⟩,
    ⟨some 11, (.unOp .neg 3 (.tmp 10)), none⟩,
    ⟨some 12, (.move (.tmp 1)), none⟩,
    ⟨some 13, (.move (.tmp 2)), none⟩,
    ⟨some 14, (.call { callee := (.value (.func 32)), args := #[(.tmp 11), (.tmp 12), (.tmp 13)], argTypes := #[3, 3, 3] }), none⟩,
    ⟨some 9, (.move (.tmp 14)), none⟩,
    ⟨some 15, (.extract (.tmp 9) 0), none⟩,
    ⟨some 16, (.extract (.tmp 9) 1), none⟩,
    ⟨some 7, (.assign (.tmp 15)), none⟩,
    ⟨some 8, (.assign (.tmp 16)), none⟩])
  (.seq (.reg [⟨some 17, (.move (.tmp 7)), none⟩,
     ⟨some 18, (.unOp .neg 3 (.tmp 17)), none⟩,
     ⟨some 6, (.assign (.tmp 18)), none⟩])
   .ret)))
theorem k26 : FOK Try.prog 26 19 c26 [6] := ⟨⟨[9, 10, 11, 12, 13], Try.f26, _, by kernel_rfl, by kernel_rfl, rfl, by kernel_rfl, rfl, by kernel_rfl, by decide⟩⟩

/-- timesync.timesyncref14.ceil -/
def c27 : SC :=
  (.seq (.reg [⟨some 6, (.assign (.const (.int .i64 0))), none⟩])
 (.seq (.reg [⟨some 10, (.move (.tmp 0)), none⟩,
    ⟨some 11, (.unOp .neg 3 (.tmp 10)), none⟩,
    ⟨some 12, (.move (.tmp 1)), none⟩,
    ⟨some 13, (.move (.tmp 2)), none⟩,
    ⟨some 14, (.call { callee := (.value (.func 33)), args := #[(.tmp 11), (.tmp 12), (.tmp 13)], argTypes := #[3, 3, 3] }), none⟩,
    ⟨some 9, (.move (.tmp 14)), none⟩,
    ⟨some 15, (.extract (.tmp 9) 0), none⟩,
    ⟨some 16, (.extract (.tmp 9) 1), none⟩,
    ⟨some 7, (.assign (.tmp 15)), none⟩,
    ⟨some 8, (.assign (.tmp 16)), none⟩])
  (.seq (.reg [⟨some 17, (.move (.tmp 7)), none⟩,
     ⟨some 18, (.unOp .neg 3 (.tmp 17)), none⟩,
     ⟨some 6, (.assign (.tmp 18)), none⟩])
   .ret)))
theorem k27 : FOK Try.prog 27 19 c27 [6] := ⟨⟨[9, 10, 11, 12, 13], Try.f27, _, by kernel_rfl, by kernel_rfl, rfl, by kernel_rfl, rfl, by kernel_rfl, by decide⟩⟩

/-- (*timesync.holdover.Memory).before -/
def c28 : SC :=
  (.seq (.reg [⟨some 4, (.assign (.const (.bool false))), none⟩])
 (.seq (.reg [⟨some 5, (.move (.tmp 0)), none⟩,
    ⟨some 6, (.nilCheck (.tmp 5)), none⟩,
    ⟨some 7, (.fieldAddr 52 (.tmp 6) 3), none⟩,
    ⟨some 8, (.load 4 (.tmp 7)), none⟩,
    ⟨some 9, (.move (.tmp 8)), none⟩,
    ⟨some 10, (.move (.tmp 1)), some (9, true)⟩,
    ⟨some 11, (.move (.tmp 0)), some (9, true)⟩,
    ⟨some 12, (.nilCheck (.tmp 11)), some (9, true)⟩,
    ⟨some 13, (.fieldAddr 52 (.tmp 12) 4), some (9, true)⟩,
    ⟨some 14, (.load 3 (.tmp 13)), some (9, true)⟩,
    ⟨some 15, (.binOp .leq 3 (.tmp 10) (.tmp 14) 3), some (9, true)⟩,
    ⟨some 16, (.pick (.tmp 9) (.tmp 15) (.const (.bool false))), none⟩,
    ⟨some 4, (.assign (.tmp 16)), none⟩])
  .ret))
theorem k28 : FOK Try.prog 28 17 c28 [4] := ⟨⟨[9, 10, 11, 12, 13], Try.f28, _, by kernel_rfl, by kernel_rfl, rfl, by kernel_rfl, rfl, by kernel_rfl, by decide⟩⟩

/-- (*timesync.timesyncref14.Memory).order -/
def c30 : SC :=
  (.seq (.reg [⟨some 4, (.assign (.const (.int .i64 0))), none⟩])
 (.seq (.seq (.reg [⟨some 5, (.move (.tmp 0)), none⟩,
     ⟨some 6, (.nilCheck (.tmp 5)), none⟩,
     ⟨some 7, (.fieldAddr 54 (.tmp 6) 3), none⟩,
     ⟨some 8, (.load 4 (.tmp 7)), none⟩,
     ⟨some 9, (.move (.tmp 8)), none⟩,
     ⟨some 10, (.move (.tmp 1)), some (9, true)⟩,
     ⟨some 11, (.move (.tmp 0)), some (9, true)⟩,
     ⟨some 12, (.nilCheck (.tmp 11)), some (9, true)⟩,
     ⟨some 13, (.fieldAddr 54 (.tmp 12) 2), some (9, true)⟩,
     ⟨some 14, (.load 3 (.tmp 13)), some (9, true)⟩,
     ⟨some 15, (.binOp .leq 3 (.tmp 10) (.tmp 14) 3), some (9, true)⟩,
     ⟨some 16, (.pick (.tmp 9) (.tmp 15) (.const (.bool false))), none⟩])
   (.cond (.tmp 16)
    (.seq (.reg [⟨some 4, (.assign (.const (.int .i64 12))), none⟩])
     .ret)
    .skip))
  (.seq (.reg [⟨some 4, (.assign (.const (.int .i64 0))), none⟩])
   .ret)))
theorem k30 : FOK Try.prog 30 17 c30 [4] := ⟨⟨[9, 10, 11, 12, 13], Try.f30, _, by kernel_rfl, by kernel_rfl, rfl, by kernel_rfl, rfl, by kernel_rfl, by decide⟩⟩

/-- (*timesync.timesyncref14.Memory).less -/
def c31 : SC :=
  (.seq (.reg [⟨some 4, (.assign (.const (.int .i64 0))), none⟩])
 (.seq (.reg [⟨some 5, (.assign (.const (.int .i64 0))), none⟩])
  (.seq (.seq (.reg [⟨some 6, (.assign (.const (.int .i64 0))), none⟩])
    (.block 0
     (.loop
      (.seq (.seq (.reg [⟨some 7, (.move (.tmp 6)), none⟩,
          ⟨some 8, (.move (.tmp 0)), none⟩,
          ⟨some 9, (.nilCheck (.tmp 8)), none⟩,
          ⟨some 10, (.fieldAddr 54 (.tmp 9) 1), none⟩,
          ⟨some 11, (.load 45 (.tmp 10)), none⟩,
          ⟨some 12, (.call { callee := (.builtin .len), args := #[(.tmp 11)], argTypes := #[45] }), none⟩,
          ⟨some 13, (.binOp .lss 3 (.tmp 7) (.tmp 12) 3), none⟩])
        (.cond (.tmp 13)
         .skip
         (.exit 0)))
       (.seq (.block 1
         (.seq (.regq [⟨some 16, (.move (.tmp 0)), none⟩,
            ⟨some 17, (.nilCheck (.tmp 16)), none⟩,
            ⟨some 18, (.fieldAddr 54 (.tmp 17) 1), none⟩,
            ⟨some 19, (.load 45 (.tmp 18)), none⟩,
            ⟨some 20, (.move (.tmp 6)), none⟩,
            ⟨some 21, (.indexAddr 45 (.tmp 19) (.tmp 20)), none⟩,
            ⟨some 22, (.load 3 (.tmp 21)), none⟩,
            ⟨some 23, (.move (.tmp 0)), none⟩,
            ⟨some 24, (.nilCheck (.tmp 23)), none⟩,
            ⟨some 25, (.fieldAddr 54 (.tmp 24) 1), none⟩,
            ⟨some 26, (.load 45 (.tmp 25)), none⟩,
            ⟨some 27, (.move (.tmp 1)), none⟩,
            ⟨some 28, (.indexAddr 45 (.tmp 26) (.tmp 27)), none⟩,
            ⟨some 29, (.load 3 (.tmp 28)), none⟩,
            ⟨some 30, (.binOp .lss 3 (.tmp 22) (.tmp 29) 3), none⟩,
            ⟨some 31, (.move (.tmp 30)), none⟩,
            ⟨some 32, (.move (.tmp 0)), some (31, false)⟩,
            ⟨some 33, (.nilCheck (.tmp 32)), some (31, false)⟩,
            ⟨some 34, (.fieldAddr 54 (.tmp 33) 1), some (31, false)⟩,
            ⟨some 35, (.load 45 (.tmp 34)), some (31, false)⟩,
            ⟨some 36, (.move (.tmp 6)), some (31, false)⟩,
            ⟨some 37, (.indexAddr 45 (.tmp 35) (.tmp 36)), some (31, false)⟩,
            ⟨some 38, (.load 3 (.tmp 37)), some (31, false)⟩,
            ⟨some 39, (.move (.tmp 0)), some (31, false)⟩,
            ⟨some 40, (.nilCheck (.tmp 39)), some (31, false)⟩,
            ⟨some 41, (.fieldAddr 54 (.tmp 40) 1), some (31, false)⟩,
            ⟨some 42, (.load 45 (.tmp 41)), some (31, false)⟩,
            ⟨some 43, (.move (.tmp 1)), some (31, false)⟩,
            ⟨some 44, (.indexAddr 45 (.tmp 42) (.tmp 43)), some (31, false)⟩,
            ⟨some 45, (.load 3 (.tmp 44)), some (31, false)⟩,
            ⟨some 46, (.binOp .eql 3 (.tmp 38) (.tmp 45) 3), some (31, false)⟩,
            ⟨some 47, (.move (.tmp 46)), some (31, false)⟩,
            ⟨some 48, (.move (.tmp 6)), some (47, true)⟩,
            ⟨some 49, (.move (.tmp 1)), some (47, true)⟩,
            ⟨some 50, (.binOp .lss 3 (.tmp 48) (.tmp 49) 3), some (47, true)⟩,
            ⟨some 51, (.pick (.tmp 47) (.tmp 50) (.const (.bool false))), some (31, false)⟩,
            ⟨some 52, (.pick (.tmp 31) (.const (.bool true)) (.tmp 51)), none⟩])
          (.cond (.tmp 52)
           (.reg [⟨some 53, (.move (.tmp 5)), none⟩,
             ⟨some 54, (.binOp .add 3 (.tmp 53) (.const (.int .i64 1)) 3), none⟩,
             ⟨some 5, (.assign (.tmp 54)), none⟩])
           .skip)))
        (.reg [⟨some 14, (.move (.tmp 6)), none⟩,
          ⟨some 15, (.binOp .add 3 (.tmp 14) (.const (.int .i64 1)) 3), none⟩,
          ⟨some 6, (.assign (.tmp 15)), none⟩]))))))
   (.seq (.reg [⟨some 55, (.move (.tmp 5)), none⟩,
      ⟨some 4, (.assign (.tmp 55)), none⟩])
    .ret))))
theorem k31 : FOK Try.prog 31 56 c31 [4] := ⟨⟨[9, 10, 11, 12, 13], Try.f31, _, by kernel_rfl, by kernel_rfl, rfl, by kernel_rfl, rfl, by kernel_rfl, by decide⟩⟩

/-- timesync.fixed.MulDiv -/
def c32 : SC :=
  (.seq (.reg [⟨some 6, (.assign (.const (.int .i64 0))), none⟩,
   ⟨some 7, (.assign (.const (.bool false))), none⟩])
 (.seq (.reg [⟨some 14, (.move (.tmp 0)), none⟩,
    ⟨some 15, (.call { callee := (.value (.func 37)), args := #[(.tmp 14)], argTypes := #[3] }), none⟩,
    ⟨some 16, (.move (.tmp 1)), none⟩,
    ⟨some 17, (.call { callee := (.value (.func 37)), args := #[(.tmp 16)], argTypes := #[3] }), none⟩,
    ⟨some 18, (.call { callee := (.value (.func 36)), args := #[(.tmp 15), (.tmp 17)], argTypes := #[61, 61] }), none⟩,
    ⟨some 13, (.move (.tmp 18)), none⟩,
    ⟨some 19, (.extract (.tmp 13) 0), none⟩,
    ⟨some 20, (.extract (.tmp 13) 1), none⟩,
    ⟨some 8, (.assign (.tmp 19)), none⟩,
    ⟨some 9, (.assign (.tmp 20)), none⟩])
  (.seq (.seq (.reg [⟨some 21, (.move (.tmp 8)), none⟩,
      ⟨some 22, (.move (.tmp 2)), none⟩,
      ⟨some 23, (.call { callee := (.value (.func 37)), args := #[(.tmp 22)], argTypes := #[3] }), none⟩,
      ⟨some 24, (.binOp .geq 61 (.tmp 21) (.tmp 23) 61), none⟩])
    (.cond (.tmp 24)
     (.seq (.reg [⟨some 6, (.assign (.const (.int .i64 0))), none⟩,
        ⟨some 7, (.assign (.const (.bool false))), none⟩])
      .ret)
     .skip))
   (.seq (.reg [⟨some 26, (.move (.tmp 8)), none⟩,
      ⟨some 27, (.move (.tmp 9)), none⟩,
      ⟨some 28, (.move (.tmp 2)), none⟩,
      ⟨some 29, (.call { callee := (.value (.func 37)), args := #[(.tmp 28)], argTypes := #[3] }), none⟩,
      ⟨some 30, (.call { callee := (.value (.func 38)), args := #[(.tmp 26), (.tmp 27), (.tmp 29)], argTypes := #[61, 61, 61] }), none⟩,
      ⟨some 25, (.move (.tmp 30)), none⟩,
      ⟨some 31, (.extract (.tmp 25) 0), none⟩,
      ⟨some 32, (.extract (.tmp 25) 1), none⟩,
      ⟨some 10, (.assign (.tmp 31)), none⟩,
      ⟨some 11, (.assign (.tmp 32)), none⟩])
    (.seq (.reg [⟨some 33, (.move (.tmp 0)), none⟩,
       ⟨some 34, (.binOp .lss 3 (.tmp 33) (.const (.int .i64 0)) 3), none⟩,
       ⟨some 35, (.move (.tmp 1)), none⟩,
       ⟨some 36, (.binOp .lss 3 (.tmp 35) (.const (.int .i64 0)) 3), none⟩,
       ⟨some 37, (.binOp .neq 4 (.tmp 34) (.tmp 36) 4), none⟩,
       ⟨some 38, (.move (.tmp 2)), none⟩,
       ⟨some 39, (.binOp .lss 3 (.tmp 38) (.const (.int .i64 0)) 3), none⟩,
       ⟨some 40, (.binOp .neq 4 (.tmp 37) (.tmp 39) 4), none⟩,
       ⟨some 12, (.assign (.tmp 40)), none⟩])
     (.seq (.seq (.reg [⟨some 41, (.move (.tmp 12)), none⟩,
         ⟨some 42, (.move (.tmp 41)), none⟩,
         ⟨some 43, (.move (.tmp 11)), some (42, true)⟩,
         ⟨some 44, (.binOp .neq 61 (.tmp 43) (.const (.int .u64 0)) 61), some (42, true)⟩,
         ⟨some 45, (.pick (.tmp 42) (.tmp 44) (.const (.bool false))), none⟩])
       (.cond (.tmp 45)
        (.seq (.reg [⟨some 46, (.move (.tmp 10)), none⟩,
           ⟨some 47, (.binOp .add 61 (.tmp 46) (.const (.int .u64 1)) 61), none⟩,
           ⟨some 10, (.assign (.tmp 47)), none⟩])
         (.seq (.reg [⟨some 48, (.move (.tmp 10)), none⟩,
            ⟨some 49, (.binOp .eql 61 (.tmp 48) (.const (.int .u64 0)) 61), none⟩])
          (.cond (.tmp 49)
           (.seq (.reg [⟨some 6, (.assign (.const (.int .i64 0))), none⟩,
              ⟨some 7, (.assign (.const (.bool false))), none⟩])
            .ret)
           .skip)))
        .skip))
      (.seq (.reg [⟨some 50, (.move (.tmp 10)), none⟩,
         ⟨some 51, (.move (.tmp 12)), none⟩,
         ⟨some 52, (.call { callee := (.value (.func 39)), args := #[(.tmp 50), (.tmp 51)], argTypes := #[61, 4] }), none⟩,
         ⟨some 53, (.extract (.tmp 52) 0), none⟩,
         ⟨some 54, (.extract (.tmp 52) 1), none⟩,
         ⟨some 6, (.assign (.tmp 53)), none⟩,
         ⟨some 7, (.assign (.tmp 54)), none⟩])
       .ret)))))))
theorem k32 : FOK Try.prog 32 55 c32 [6, 7] := ⟨⟨[9, 10, 11, 12, 13], Try.f32, _, by kernel_rfl, by kernel_rfl, rfl, by kernel_rfl, rfl, by kernel_rfl, by decide⟩⟩

/-- timesync.timesyncref01.MulDiv -/
def c33 : SC :=
  (.seq (.reg [⟨some 6, (.assign (.const (.int .i64 0))), none⟩,
   ⟨some 7, (.assign (.const (.bool false))), none⟩])
 (.seq (.seq (.reg [⟨some 14, (.move (.tmp 2)), none⟩,
     ⟨some 15, (.binOp .eql 3 (.tmp 14) (.const (.int .i64 0)) 3), none⟩])
   (.cond (.tmp 15)
    (.seq (.reg [⟨some 6, (.assign (.const (.int .i64 0))), none⟩,
       ⟨some 7, (.assign (.const (.bool false))), none⟩])
     .ret)
    .skip))
  (.seq (.reg [⟨some 17, (.move (.tmp 0)), none⟩,
     ⟨some 18, (.call { callee := (.value (.func 41)), args := #[(.tmp 17)], argTypes := #[3] }), none⟩,
     ⟨some 19, (.move (.tmp 1)), none⟩,
     ⟨some 20, (.call { callee := (.value (.func 41)), args := #[(.tmp 19)], argTypes := #[3] }), none⟩,
     ⟨some 21, (.call { callee := (.value (.func 40)), args := #[(.tmp 18), (.tmp 20)], argTypes := #[61, 61] }), none⟩,
     ⟨some 16, (.move (.tmp 21)), none⟩,
     ⟨some 22, (.extract (.tmp 16) 0), none⟩,
     ⟨some 23, (.extract (.tmp 16) 1), none⟩,
     ⟨some 8, (.assign (.tmp 22)), none⟩,
     ⟨some 9, (.assign (.tmp 23)), none⟩])
   (.seq (.reg [⟨some 25, (.move (.tmp 8)), none⟩,
      ⟨some 26, (.move (.tmp 9)), none⟩,
      ⟨some 27, (.move (.tmp 2)), none⟩,
      ⟨some 28, (.call { callee := (.value (.func 41)), args := #[(.tmp 27)], argTypes := #[3] }), none⟩,
      ⟨some 29, (.call { callee := (.value (.func 42)), args := #[(.tmp 25), (.tmp 26), (.tmp 28)], argTypes := #[61, 61, 61] }), none⟩,
      ⟨some 24, (.move (.tmp 29)), none⟩,
      ⟨some 30, (.extract (.tmp 24) 0), none⟩,
      ⟨some 31, (.extract (.tmp 24) 1), none⟩,
      ⟨some 32, (.extract (.tmp 24) 2), none⟩,
      ⟨some 10, (.assign (.tmp 30)), none⟩,
      ⟨some 11, (.assign (.tmp 31)), none⟩,
      ⟨some 12, (.assign (.tmp 32)), none⟩])
    (.seq (.reg [⟨some 33, (.move (.tmp 0)), none⟩,
       ⟨some 34, (.binOp .lss 3 (.tmp 33) (.const (.int .i64 0)) 3), none⟩,
       ⟨some 35, (.move (.tmp 1)), none⟩,
       ⟨some 36, (.binOp .lss 3 (.tmp 35) (.const (.int .i64 0)) 3), none⟩,
       ⟨some 37, (.binOp .neq 4 (.tmp 34) (.tmp 36) 4), none⟩,
       ⟨some 38, (.move (.tmp 2)), none⟩,
       ⟨some 39, (.binOp .lss 3 (.tmp 38) (.const (.int .i64 0)) 3), none⟩,
       ⟨some 40, (.binOp .neq 4 (.tmp 37) (.tmp 39) 4), none⟩,
       ⟨some 13, (.assign (.tmp 40)), none⟩])
     (.seq (.seq (.reg [⟨some 41, (.move (.tmp 13)), none⟩,
         ⟨some 42, (.move (.tmp 41)), none⟩,
         ⟨some 43, (.move (.tmp 12)), some (42, true)⟩,
         ⟨some 44, (.binOp .gtr 61 (.tmp 43) (.const (.int .u64 0)) 61), some (42, true)⟩,
         ⟨some 45, (.pick (.tmp 42) (.tmp 44) (.const (.bool false))), none⟩])
       (.cond (.tmp 45)
        (.seq (.reg [⟨some 46, (.move (.tmp 11)), none⟩,
           ⟨some 47, (.binOp .add 61 (.tmp 46) (.const (.int .u64 1)) 61), none⟩,
           ⟨some 11, (.assign (.tmp 47)), none⟩])
         (.seq (.reg [⟨some 48, (.move (.tmp 11)), none⟩,
            ⟨some 49, (.binOp .eql 61 (.tmp 48) (.const (.int .u64 0)) 61), none⟩])
          (.cond (.tmp 49)
           (.reg [⟨some 50, (.move (.tmp 10)), none⟩,
             ⟨some 51, (.binOp .add 61 (.tmp 50) (.const (.int .u64 1)) 61), none⟩,
             ⟨some 10, (.assign (.tmp 51)), none⟩])
           .skip)))
        .skip))
      (.seq (.reg [⟨some 52, (.move (.tmp 13)), none⟩,
         ⟨some 53, (.move (.tmp 10)), none⟩,
         ⟨some 54, (.move (.tmp 11)), none⟩,
         ⟨some 55, (.call { callee := (.value (.func 43)), args := #[(.tmp 52), (.tmp 53), (.tmp 54)], argTypes := #[4, 61, 61] }), none⟩,
         ⟨some 56, (.extract (.tmp 55) 0), none⟩,
         ⟨some 57, (.extract (.tmp 55) 1), none⟩,
         ⟨some 6, (.assign (.tmp 56)), none⟩,
         ⟨some 7, (.assign (.tmp 57)), none⟩])
       .ret)))))))
theorem k33 : FOK Try.prog 33 58 c33 [6, 7] := ⟨⟨[9, 10, 11, 12, 13], Try.f33, _, by kernel_rfl, by kernel_rfl, rfl, by kernel_rfl, rfl, by kernel_rfl, by decide⟩⟩

/-- math.bits.Mul64 -/
def c36 : SC :=
  (.seq (.reg [⟨some 4, (.assign (.const (.int .u64 0))), none⟩,
   ⟨some 5, (.assign (.const (.int .u64 0))), none⟩])
 (.seq (.reg [⟨some 14, (.move (.tmp 0)), none⟩,
    ⟨some 15, (.binOp .and 61 (.tmp 14) (.const (.int .u64 4294967295)) 61), none⟩,
    ⟨some 6, (.assign (.tmp 15)), none⟩])
  (.seq (.reg [⟨some 16, (.move (.tmp 0)), none⟩,
     ⟨some 17, (.binOp .shr 61 (.tmp 16) (.const (.int .u64 32)) 60), none⟩,
     ⟨some 7, (.assign (.tmp 17)), none⟩])
   (.seq (.reg [⟨some 18, (.move (.tmp 1)), none⟩,
      ⟨some 19, (.binOp .and 61 (.tmp 18) (.const (.int .u64 4294967295)) 61), none⟩,
      ⟨some 8, (.assign (.tmp 19)), none⟩])
    (.seq (.reg [⟨some 20, (.move (.tmp 1)), none⟩,
       ⟨some 21, (.binOp .shr 61 (.tmp 20) (.const (.int .u64 32)) 60), none⟩,
       ⟨some 9, (.assign (.tmp 21)), none⟩])
     (.seq (.reg [⟨some 22, (.move (.tmp 6)), none⟩,
        ⟨some 23, (.move (.tmp 8)), none⟩,
        ⟨some 24, (.binOp .mul 61 (.tmp 22) (.tmp 23) 61), none⟩,
        ⟨some 10, (.assign (.tmp 24)), none⟩])
      (.seq (.reg [⟨some 25, (.move (.tmp 7)), none⟩,
         ⟨some 26, (.move (.tmp 8)), none⟩,
         ⟨some 27, (.binOp .mul 61 (.tmp 25) (.tmp 26) 61), none⟩,
         ⟨some 28, (.move (.tmp 10)), none⟩,
         ⟨some 29, (.binOp .shr 61 (.tmp 28) (.const (.int .u64 32)) 60), none⟩,
         ⟨some 30, (.binOp .add 61 (.tmp 27) (.tmp 29) 61), none⟩,
         ⟨some 11, (.assign (.tmp 30)), none⟩])
       (.seq (.reg [⟨some 31, (.move (.tmp 11)), none⟩,
          ⟨some 32, (.binOp .and 61 (.tmp 31) (.const (.int .u64 4294967295)) 61), none⟩,
          ⟨some 12, (.assign (.tmp 32)), none⟩])
        (.seq (.reg [⟨some 33, (.move (.tmp 11)), none⟩,
           ⟨some 34, (.binOp .shr 61 (.tmp 33) (.const (.int .u64 32)) 60), none⟩,
           ⟨some 13, (.assign (.tmp 34)), none⟩])
         (.seq (.reg [⟨some 35, (.move (.tmp 12)), none⟩,
            ⟨some 36, (.move (.tmp 6)), none⟩,
            ⟨some 37, (.move (.tmp 9)), none⟩,
            ⟨some 38, (.binOp .mul 61 (.tmp 36) (.tmp 37) 61), none⟩,
            ⟨some 39, (.binOp .add 61 (.tmp 35) (.tmp 38) 61), none⟩,
            ⟨some 12, (.assign (.tmp 39)), none⟩])
          (.seq (.reg [⟨some 40, (.move (.tmp 7)), none⟩,
             ⟨some 41, (.move (.tmp 9)), none⟩,
             ⟨some 42, (.binOp .mul 61 (.tmp 40) (.tmp 41) 61), none⟩,
             ⟨some 43, (.move (.tmp 13)), none⟩,
             ⟨some 44, (.binOp .add 61 (.tmp 42) (.tmp 43) 61), none⟩,
             ⟨some 45, (.move (.tmp 12)), none⟩,
             ⟨some 46, (.binOp .shr 61 (.tmp 45) (.const (.int .u64 32)) 60), none⟩,
             ⟨some 47, (.binOp .add 61 (.tmp 44) (.tmp 46) 61), none⟩,
             ⟨some 4, (.assign (.tmp 47)), none⟩])
           (.seq (.reg [⟨some 48, (.move (.tmp 0)), none⟩,
              ⟨some 49, (.move (.tmp 1)), none⟩,
              ⟨some 50, (.binOp .mul 61 (.tmp 48) (.tmp 49) 61), none⟩,
              ⟨some 5, (.assign (.tmp 50)), none⟩])
            .ret))))))))))))
theorem k36 : FOK Try.prog 36 51 c36 [4, 5] := ⟨⟨[9, 10, 11, 12, 13], Try.f36, _, by kernel_rfl, by kernel_rfl, rfl, by kernel_rfl, rfl, by kernel_rfl, by decide⟩⟩

/-- timesync.fixed.size -/
def c37 : SC :=
  (.seq (.reg [⟨some 2, (.assign (.const (.int .u64 0))), none⟩])
 (.seq (.seq (.reg [⟨some 3, (.move (.tmp 0)), none⟩,
     ⟨some 4, (.binOp .lss 3 (.tmp 3) (.const (.int .i64 0)) 3), none⟩])
   (.cond (.tmp 4)
    (.seq (.reg [⟨some 5, (.move (.tmp 0)), none⟩,
       ⟨some 6, (.convert 3 61 (.tmp 5)), none⟩,
       ⟨some 7, (.unOp .neg 61 (.tmp 6)), none⟩,
       ⟨some 2, (.assign (.tmp 7)), none⟩])
     .ret)
    .skip))
  (.seq (.reg [⟨some 8, (.move (.tmp 0)), none⟩,
     ⟨some 9, (.convert 3 61 (.tmp 8)), none⟩,
     ⟨some 2, (.assign (.tmp 9)), none⟩])
   .ret)))
theorem k37 : FOK Try.prog 37 10 c37 [2] := ⟨⟨[9, 10, 11, 12, 13], Try.f37, _, by kernel_rfl, by kernel_rfl, rfl, by kernel_rfl, rfl, by kernel_rfl, by decide⟩⟩

/-- math.bits.Div64 -/
def c38 : SC :=
  (.seq (.reg [⟨some 6, (.assign (.const (.int .u64 0))), none⟩,
   ⟨some 7, (.assign (.const (.int .u64 0))), none⟩])
 (.seq (.seq (.reg [⟨some 19, (.move (.tmp 2)), none⟩,
     ⟨some 20, (.binOp .eql 61 (.tmp 19) (.const (.int .u64 0)) 61), none⟩])
   (.cond (.tmp 20)
    (.reg [⟨some 21, (.load 81 (.global 0)), none⟩,
      ⟨none, (.panic (.tmp 21)), none⟩])
    .skip))
  (.seq (.seq (.reg [⟨some 22, (.move (.tmp 2)), none⟩,
      ⟨some 23, (.move (.tmp 0)), none⟩,
      ⟨some 24, (.binOp .leq 61 (.tmp 22) (.tmp 23) 61), none⟩])
    (.cond (.tmp 24)
     (.reg [⟨some 25, (.load 81 (.global 1)), none⟩,
       ⟨none, (.panic (.tmp 25)), none⟩])
     .skip))
   (.seq (.seq (.reg [⟨some 26, (.move (.tmp 0)), none⟩,
       ⟨some 27, (.binOp .eql 61 (.tmp 26) (.const (.int .u64 0)) 61), none⟩])
     (.cond (.tmp 27)
      (.seq (.regq [⟨some 28, (.move (.tmp 1)), none⟩,
         ⟨some 29, (.move (.tmp 2)), none⟩,
         ⟨some 30, (.binOp .quo 61 (.tmp 28) (.tmp 29) 61), none⟩,
         ⟨some 31, (.move (.tmp 1)), none⟩,
         ⟨some 32, (.move (.tmp 2)), none⟩,
         ⟨some 33, (.binOp .rem 61 (.tmp 31) (.tmp 32) 61), none⟩,
         ⟨some 6, (.assign (.tmp 30)), none⟩,
         ⟨some 7, (.assign (.tmp 33)), none⟩])
       .ret)
      .skip))
    (.seq (.reg [⟨some 34, (.move (.tmp 2)), none⟩,
       ⟨some 35, (.call { callee := (.value (.func 55)), args := #[(.tmp 34)], argTypes := #[61] }), none⟩,
       ⟨some 36, (.convert 3 60 (.tmp 35)), none⟩,
       ⟨some 8, (.assign (.tmp 36)), none⟩])
     (.seq (.reg [⟨some 37, (.move (.tmp 2)), none⟩,
        ⟨some 38, (.move (.tmp 8)), none⟩,
        ⟨some 39, (.binOp .shl 61 (.tmp 37) (.tmp 38) 60), none⟩,
        ⟨some 2, (.assign (.tmp 39)), none⟩])
      (.seq (.reg [⟨some 40, (.move (.tmp 2)), none⟩,
         ⟨some 41, (.binOp .shr 61 (.tmp 40) (.const (.int .u64 32)) 60), none⟩,
         ⟨some 9, (.assign (.tmp 41)), none⟩])
       (.seq (.reg [⟨some 42, (.move (.tmp 2)), none⟩,
          ⟨some 43, (.binOp .and 61 (.tmp 42) (.const (.int .u64 4294967295)) 61), none⟩,
          ⟨some 10, (.assign (.tmp 43)), none⟩])
        (.seq (.reg [⟨some 44, (.move (.tmp 0)), none⟩,
           ⟨some 45, (.move (.tmp 8)), none⟩,
           ⟨some 46, (.binOp .shl 61 (.tmp 44) (.tmp 45) 60), none⟩,
           ⟨some 47, (.move (.tmp 1)), none⟩,
           ⟨some 48, (.move (.tmp 8)), none⟩,
           ⟨some 49, (.binOp .sub 60 (.const (.int .u64 64)) (.tmp 48) 60), none⟩,
           ⟨some 50, (.binOp .shr 61 (.tmp 47) (.tmp 49) 60), none⟩,
           ⟨some 51, (.binOp .or 61 (.tmp 46) (.tmp 50) 61), none⟩,
           ⟨some 11, (.assign (.tmp 51)), none⟩])
         (.seq (.reg [⟨some 52, (.move (.tmp 1)), none⟩,
            ⟨some 53, (.move (.tmp 8)), none⟩,
            ⟨some 54, (.binOp .shl 61 (.tmp 52) (.tmp 53) 60), none⟩,
            ⟨some 12, (.assign (.tmp 54)), none⟩])
          (.seq (.reg [⟨some 55, (.move (.tmp 12)), none⟩,
             ⟨some 56, (.binOp .shr 61 (.tmp 55) (.const (.int .u64 32)) 60), none⟩,
             ⟨some 13, (.assign (.tmp 56)), none⟩])
           (.seq (.reg [⟨some 57, (.move (.tmp 12)), none⟩,
              ⟨some 58, (.binOp .and 61 (.tmp 57) (.const (.int .u64 4294967295)) 61), none⟩,
              ⟨some 14, (.assign (.tmp 58)), none⟩])
            (.seq (.reg [⟨some 59, (.move (.tmp 11)), none⟩,
               ⟨some 60, (.move (.tmp 9)), none⟩,
               ⟨some 61, (.binOp .quo 61 (.tmp 59) (.tmp 60) 61), none⟩,
               ⟨some 15, (.assign (.tmp 61)), none⟩])
             (.seq (.reg [⟨some 62, (.move (.tmp 11)), none⟩,
                ⟨some 63, (.move (.tmp 15)), none⟩,
                ⟨some 64, (.move (.tmp 9)), none⟩,
                ⟨some 65, (.binOp .mul 61 (.tmp 63) (.tmp 64) 61), none⟩,
                ⟨some 66, (.binOp .sub 61 (.tmp 62) (.tmp 65) 61), none⟩,
                ⟨some 16, (.assign (.tmp 66)), none⟩])
              (.seq (.block 0
                (.loop
                 (.seq (.seq (.reg [⟨some 67, (.move (.tmp 15)), none⟩,
                     ⟨some 68, (.binOp .geq 61 (.tmp 67) (.const (.int .u64 4294967296)) 61), none⟩,
                     ⟨some 69, (.move (.tmp 68)), none⟩,
                     ⟨some 70, (.move (.tmp 15)), some (69, false)⟩,
                     ⟨some 71, (.move (.tmp 10)), some (69, false)⟩,
                     ⟨some 72, (.binOp .mul 61 (.tmp 70) (.tmp 71) 61), some (69, false)⟩,
                     ⟨some 73, (.move (.tmp 16)), some (69, false)⟩,
                     ⟨some 74, (.binOp .mul 61 (.const (.int .u64 4294967296)) (.tmp 73) 61), some (69, false)⟩,
                     ⟨some 75, (.move (.tmp 13)), some (69, false)⟩,
                     ⟨some 76, (.binOp .add 61 (.tmp 74) (.tmp 75) 61), some (69, false)⟩,
                     ⟨some 77, (.binOp .gtr 61 (.tmp 72) (.tmp 76) 61), some (69, false)⟩,
                     ⟨some 78, (.pick (.tmp 69) (.const (.bool true)) (.tmp 77)), none⟩])
                   (.cond (.tmp 78)
                    .skip
                    (.exit 0)))
                  (.block 1
                   (.seq (.reg [⟨some 79, (.move (.tmp 15)), none⟩,
                      ⟨some 80, (.binOp .sub 61 (.tmp 79) (.const (.int .u64 1)) 61), none⟩,
                      ⟨some 15, (.assign (.tmp 80)), none⟩])
                    (.seq (.reg [⟨some 81, (.move (.tmp 16)), none⟩,
                       ⟨some 82, (.move (.tmp 9)), none⟩,
                       ⟨some 83, (.binOp .add 61 (.tmp 81) (.tmp 82) 61), none⟩,
                       ⟨some 16, (.assign (.tmp 83)), none⟩])
                     (.seq (.reg [⟨some 84, (.move (.tmp 16)), none⟩,
                        ⟨some 85, (.binOp .geq 61 (.tmp 84) (.const (.int .u64 4294967296)) 61), none⟩])
                      (.cond (.tmp 85)
                       (.exit 0)
                       .skip))))))))
               (.seq (.reg [⟨some 86, (.move (.tmp 11)), none⟩,
                  ⟨some 87, (.binOp .mul 61 (.tmp 86) (.const (.int .u64 4294967296)) 61), none⟩,
                  ⟨some 88, (.move (.tmp 13)), none⟩,
                  ⟨some 89, (.binOp .add 61 (.tmp 87) (.tmp 88) 61), none⟩,
                  ⟨some 90, (.move (.tmp 15)), none⟩,
                  ⟨some 91, (.move (.tmp 2)), none⟩,
                  ⟨some 92, (.binOp .mul 61 (.tmp 90) (.tmp 91) 61), none⟩,
                  ⟨some 93, (.binOp .sub 61 (.tmp 89) (.tmp 92) 61), none⟩,
                  ⟨some 17, (.assign (.tmp 93)), none⟩])
                (.seq (.reg [⟨some 94, (.move (.tmp 17)), none⟩,
                   ⟨some 95, (.move (.tmp 9)), none⟩,
                   ⟨some 96, (.binOp .quo 61 (.tmp 94) (.tmp 95) 61), none⟩,
                   ⟨some 18, (.assign (.tmp 96)), none⟩])
                 (.seq (.reg [⟨some 97, (.move (.tmp 17)), none⟩,
                    ⟨some 98, (.move (.tmp 18)), none⟩,
                    ⟨some 99, (.move (.tmp 9)), none⟩,
                    ⟨some 100, (.binOp .mul 61 (.tmp 98) (.tmp 99) 61), none⟩,
                    ⟨some 101, (.binOp .sub 61 (.tmp 97) (.tmp 100) 61), none⟩,
                    ⟨some 16, (.assign (.tmp 101)), none⟩])
                  (.seq (.block 2
                    (.loop
                     (.seq (.seq (.reg [⟨some 102, (.move (.tmp 18)), none⟩,
                         ⟨some 103, (.binOp .geq 61 (.tmp 102) (.const (.int .u64 4294967296)) 61), none⟩,
                         ⟨some 104, (.move (.tmp 103)), none⟩,
                         ⟨some 105, (.move (.tmp 18)), some (104, false)⟩,
                         ⟨some 106, (.move (.tmp 10)), some (104, false)⟩,
                         ⟨some 107, (.binOp .mul 61 (.tmp 105) (.tmp 106) 61), some (104, false)⟩,
                         ⟨some 108, (.move (.tmp 16)), some (104, false)⟩,
                         ⟨some 109, (.binOp .mul 61 (.const (.int .u64 4294967296)) (.tmp 108) 61), some (104, false)⟩,
                         ⟨some 110, (.move (.tmp 14)), some (104, false)⟩,
                         ⟨some 111, (.binOp .add 61 (.tmp 109) (.tmp 110) 61), some (104, false)⟩,
                         ⟨some 112, (.binOp .gtr 61 (.tmp 107) (.tmp 111) 61), some (104, false)⟩,
                         ⟨some 113, (.pick (.tmp 104) (.const (.bool true)) (.tmp 112)), none⟩])
                       (.cond (.tmp 113)
                        .skip
                        (.exit 2)))
                      (.block 3
                       (.seq (.reg [⟨some 114, (.move (.tmp 18)), none⟩,
                          ⟨some 115, (.binOp .sub 61 (.tmp 114) (.const (.int .u64 1)) 61), none⟩,
                          ⟨some 18, (.assign (.tmp 115)), none⟩])
                        (.seq (.reg [⟨some 116, (.move (.tmp 16)), none⟩,
                           ⟨some 117, (.move (.tmp 9)), none⟩,
                           ⟨some 118, (.binOp .add 61 (.tmp 116) (.tmp 117) 61), none⟩,
                           ⟨some 16, (.assign (.tmp 118)), none⟩])
                         (.seq (.reg [⟨some 119, (.move (.tmp 16)), none⟩,
                            ⟨some 120, (.binOp .geq 61 (.tmp 119) (.const (.int .u64 4294967296)) 61), none⟩])
                          (.cond (.tmp 120)
                           (.exit 2)
                           .skip))))))))
                   (.seq (.reg [⟨some 121, (.move (.tmp 15)), none⟩,
                      ⟨some 122, (.binOp .mul 61 (.tmp 121) (.const (.int .u64 4294967296)) 61), none⟩,
                      ⟨some 123, (.move (.tmp 18)), none⟩,
                      ⟨some 124, (.binOp .add 61 (.tmp 122) (.tmp 123) 61), none⟩,
                      ⟨some 125, (.move (.tmp 17)), none⟩,
                      ⟨some 126, (.binOp .mul 61 (.tmp 125) (.const (.int .u64 4294967296)) 61), none⟩,
                      ⟨some 127, (.move (.tmp 14)), none⟩,
                      ⟨some 128, (.binOp .add 61 (.tmp 126) (.tmp 127) 61), none⟩,
                      ⟨some 129, (.move (.tmp 18)), none⟩,
                      ⟨some 130, (.move (.tmp 2)), none⟩,
                      ⟨some 131, (.binOp .mul 61 (.tmp 129) (.tmp 130) 61), none⟩,
                      ⟨some 132, (.binOp .sub 61 (.tmp 128) (.tmp 131) 61), none⟩,
                      ⟨some 133, (.move (.tmp 8)), none⟩,
                      ⟨some 134, (.binOp .shr 61 (.tmp 132) (.tmp 133) 60), none⟩,
                      ⟨some 6, (.assign (.tmp 124)), none⟩,
                      ⟨some 7, (.assign (.tmp 134)), none⟩])
                    .ret))))))))))))))))))))
theorem k38 : FOK Try.prog 38 135 c38 [6, 7] := ⟨⟨[9, 10, 11, 12, 13], Try.f38, _, by kernel_rfl, by kernel_rfl, rfl, by kernel_rfl, rfl, by kernel_rfl, by decide⟩⟩

/-- timesync.fixed.signed -/
def c39 : SC :=
  (.seq (.reg [⟨some 4, (.assign (.const (.int .i64 0))), none⟩,
   ⟨some 5, (.assign (.const (.bool false))), none⟩])
 (.seq (.seq (.reg [⟨some 6, (.move (.tmp 1)), none⟩])
   (.cond (.tmp 6)
    (.seq (.seq (.reg [⟨some 7, (.move (.tmp 0)), none⟩,
        ⟨some 8, (.binOp .gtr 61 (.tmp 7) (.const (.int .u64 9223372036854775808)) 61), none⟩])
      (.cond (.tmp 8)
       (.seq (.reg [⟨some 4, (.assign (.const (.int .i64 0))), none⟩,
          ⟨some 5, (.assign (.const (.bool false))), none⟩])
        .ret)
       .skip))
     (.seq (.reg [⟨some 9, (.move (.tmp 0)), none⟩,
        ⟨some 10, (.unOp .neg 61 (.tmp 9)), none⟩,
        ⟨some 11, (.convert 61 3 (.tmp 10)), none⟩,
        ⟨some 4, (.assign (.tmp 11)), none⟩,
        ⟨some 5, (.assign (.const (.bool true))), none⟩])
      .ret))
    .skip))
  (.seq (.seq (.reg [⟨some 12, (.move (.tmp 0)), none⟩,
      ⟨some 13, (.binOp .geq 61 (.tmp 12) (.const (.int .u64 9223372036854775808)) 61), none⟩])
    (.cond (.tmp 13)
     (.seq (.reg [⟨some 4, (.assign (.const (.int .i64 0))), none⟩,
        ⟨some 5, (.assign (.const (.bool false))), none⟩])
      .ret)
     .skip))
   (.seq (.reg [⟨some 14, (.move (.tmp 0)), none⟩,
      ⟨some 15, (.convert 61 3 (.tmp 14)), none⟩,
      ⟨some 4, (.assign (.tmp 15)), none⟩,
      ⟨some 5, (.assign (.const (.bool true))), none⟩])
    .ret))))
theorem k39 : FOK Try.prog 39 16 c39 [4, 5] := ⟨⟨[9, 10, 11, 12, 13], Try.f39, _, by kernel_rfl, by kernel_rfl, rfl, by kernel_rfl, rfl, by kernel_rfl, by decide⟩⟩

/-- timesync.timesyncref01.product -/
def c40 : SC :=
  (.seq (.reg [⟨some 4, (.assign (.const (.int .u64 0))), none⟩,
   ⟨some 5, (.assign (.const (.int .u64 0))), none⟩])
 (.seq (.reg [⟨some 13, (.move (.tmp 0)), none⟩,
    ⟨some 14, (.binOp .quo 61 (.tmp 13) (.const (.int .u64 4294967296)) 61), none⟩,
    ⟨some 15, (.move (.tmp 0)), none⟩,
    ⟨some 16, (.binOp .rem 61 (.tmp 15) (.const (.int .u64 4294967296)) 61), none⟩,
    ⟨some 17, (.move (.tmp 1)), none⟩,
    ⟨some 18, (.binOp .quo 61 (.tmp 17) (.const (.int .u64 4294967296)) 61), none⟩,
    ⟨some 19, (.move (.tmp 1)), none⟩,
    ⟨some 20, (.binOp .rem 61 (.tmp 19) (.const (.int .u64 4294967296)) 61), none⟩,
    ⟨some 6, (.assign (.tmp 14)), none⟩,
    ⟨some 7, (.assign (.tmp 16)), none⟩,
    ⟨some 8, (.assign (.tmp 18)), none⟩,
    ⟨some 9, (.assign (.tmp 20)), none⟩])
  (.seq (.reg [⟨some 21, (.move (.tmp 7)), none⟩,
     ⟨some 22, (.move (.tmp 9)), none⟩,
     ⟨some 23, (.binOp .mul 61 (.tmp 21) (.tmp 22) 61), none⟩,
     ⟨some 10, (.assign (.tmp 23)), none⟩])
   (.seq (.reg [⟨some 24, (.move (.tmp 6)), none⟩,
      ⟨some 25, (.move (.tmp 9)), none⟩,
      ⟨some 26, (.binOp .mul 61 (.tmp 24) (.tmp 25) 61), none⟩,
      ⟨some 27, (.move (.tmp 10)), none⟩,
      ⟨some 28, (.binOp .quo 61 (.tmp 27) (.const (.int .u64 4294967296)) 61), none⟩,
      ⟨some 29, (.binOp .add 61 (.tmp 26) (.tmp 28) 61), none⟩,
      ⟨some 11, (.assign (.tmp 29)), none⟩])
    (.seq (.reg [⟨some 30, (.move (.tmp 7)), none⟩,
       ⟨some 31, (.move (.tmp 8)), none⟩,
       ⟨some 32, (.binOp .mul 61 (.tmp 30) (.tmp 31) 61), none⟩,
       ⟨some 33, (.move (.tmp 11)), none⟩,
       ⟨some 34, (.binOp .rem 61 (.tmp 33) (.const (.int .u64 4294967296)) 61), none⟩,
       ⟨some 35, (.binOp .add 61 (.tmp 32) (.tmp 34) 61), none⟩,
       ⟨some 12, (.assign (.tmp 35)), none⟩])
     (.seq (.reg [⟨some 36, (.move (.tmp 6)), none⟩,
        ⟨some 37, (.move (.tmp 8)), none⟩,
        ⟨some 38, (.binOp .mul 61 (.tmp 36) (.tmp 37) 61), none⟩,
        ⟨some 39, (.move (.tmp 11)), none⟩,
        ⟨some 40, (.binOp .quo 61 (.tmp 39) (.const (.int .u64 4294967296)) 61), none⟩,
        ⟨some 41, (.binOp .add 61 (.tmp 38) (.tmp 40) 61), none⟩,
        ⟨some 42, (.move (.tmp 12)), none⟩,
        ⟨some 43, (.binOp .quo 61 (.tmp 42) (.const (.int .u64 4294967296)) 61), none⟩,
        ⟨some 44, (.binOp .add 61 (.tmp 41) (.tmp 43) 61), none⟩,
        ⟨some 45, (.move (.tmp 12)), none⟩,
        ⟨some 46, (.binOp .rem 61 (.tmp 45) (.const (.int .u64 4294967296)) 61), none⟩,
        ⟨some 47, (.binOp .mul 61 (.tmp 46) (.const (.int .u64 4294967296)) 61), none⟩,
        ⟨some 48, (.move (.tmp 10)), none⟩,
        ⟨some 49, (.binOp .rem 61 (.tmp 48) (.const (.int .u64 4294967296)) 61), none⟩,
        ⟨some 50, (.binOp .add 61 (.tmp 47) (.tmp 49) 61), none⟩,
        ⟨some 4, (.assign (.tmp 44)), none⟩,
        ⟨some 5, (.assign (.tmp 50)), none⟩])
      .ret))))))
theorem k40 : FOK Try.prog 40 51 c40 [4, 5] := ⟨⟨[9, 10, 11, 12, 13], Try.f40, _, by kernel_rfl, by kernel_rfl, rfl, by kernel_rfl, rfl, by kernel_rfl, by decide⟩⟩

/-- timesync.timesyncref01.size -/
def c41 : SC :=
  (.seq (.reg [⟨some 2, (.assign (.const (.int .u64 0))), none⟩])
 (.seq (.seq (.reg [⟨some 3, (.move (.tmp 0)), none⟩,
     ⟨some 4, (.binOp .lss 3 (.tmp 3) (.const (.int .i64 0)) 3), none⟩])
   (.cond (.tmp 4)
    (.seq (.reg [⟨some 5, (.move (.tmp 0)), none⟩,
       ⟨some 6, (.binOp .add 3 (.tmp 5) (.const (.int .i64 1)) 3), none⟩,
       ⟨some 7, (.unOp .neg 3 (.tmp 6)), none⟩,
       ⟨some 8, (.convert 3 61 (.tmp 7)), none⟩,
       ⟨some 9, (.binOp .add 61 (.tmp 8) (.const (.int .u64 1)) 61), none⟩,
       ⟨some 2, (.assign (.tmp 9)), none⟩])
     .ret)
    .skip))
  (.seq (.reg [⟨some 10, (.move (.tmp 0)), none⟩,
     ⟨some 11, (.convert 3 61 (.tmp 10)), none⟩,
     ⟨some 2, (.assign (.tmp 11)), none⟩])
   .ret)))
theorem k41 : FOK Try.prog 41 12 c41 [2] := ⟨⟨[9, 10, 11, 12, 13], Try.f41, _, by kernel_rfl, by kernel_rfl, rfl, by kernel_rfl, rfl, by kernel_rfl, by decide⟩⟩

/-- timesync.timesyncref01.divide -/
def c42 : SC :=
  (.seq (.reg [⟨some 6, (.assign (.const (.int .u64 0))), none⟩,
   ⟨some 7, (.assign (.const (.int .u64 0))), none⟩,
   ⟨some 8, (.assign (.const (.int .u64 0))), none⟩])
 (.seq (.reg [⟨some 9, (.assign (.const (.int .u64 0))), none⟩,
    ⟨some 10, (.assign (.const (.int .u64 0))), none⟩,
    ⟨some 11, (.assign (.const (.int .u64 0))), none⟩])
  (.seq (.seq (.reg [⟨some 12, (.assign (.const (.int .i64 0))), none⟩])
    (.block 0
     (.loop
      (.seq (.seq (.reg [⟨some 14, (.move (.tmp 12)), none⟩,
          ⟨some 15, (.binOp .lss 3 (.tmp 14) (.const (.int .i64 128)) 3), none⟩])
        (.cond (.tmp 15)
         .skip
         (.exit 0)))
       (.seq (.block 1
         (.seq (.reg [⟨some 18, (.move (.tmp 11)), none⟩,
            ⟨some 19, (.binOp .shr 61 (.tmp 18) (.const (.int .u64 63)) 60), none⟩,
            ⟨some 13, (.assign (.tmp 19)), none⟩])
          (.seq (.reg [⟨some 20, (.move (.tmp 11)), none⟩,
             ⟨some 21, (.binOp .shl 61 (.tmp 20) (.const (.int .u64 1)) 60), none⟩,
             ⟨some 22, (.move (.tmp 0)), none⟩,
             ⟨some 23, (.binOp .shr 61 (.tmp 22) (.const (.int .u64 63)) 60), none⟩,
             ⟨some 24, (.binOp .or 61 (.tmp 21) (.tmp 23) 61), none⟩,
             ⟨some 11, (.assign (.tmp 24)), none⟩])
           (.seq (.reg [⟨some 25, (.move (.tmp 0)), none⟩,
              ⟨some 26, (.binOp .shl 61 (.tmp 25) (.const (.int .u64 1)) 60), none⟩,
              ⟨some 27, (.move (.tmp 1)), none⟩,
              ⟨some 28, (.binOp .shr 61 (.tmp 27) (.const (.int .u64 63)) 60), none⟩,
              ⟨some 29, (.binOp .or 61 (.tmp 26) (.tmp 28) 61), none⟩,
              ⟨some 0, (.assign (.tmp 29)), none⟩])
            (.seq (.reg [⟨some 30, (.move (.tmp 1)), none⟩,
               ⟨some 31, (.binOp .shl 61 (.tmp 30) (.const (.int .u64 1)) 60), none⟩,
               ⟨some 1, (.assign (.tmp 31)), none⟩])
             (.seq (.reg [⟨some 32, (.move (.tmp 9)), none⟩,
                ⟨some 33, (.binOp .shl 61 (.tmp 32) (.const (.int .u64 1)) 60), none⟩,
                ⟨some 34, (.move (.tmp 10)), none⟩,
                ⟨some 35, (.binOp .shr 61 (.tmp 34) (.const (.int .u64 63)) 60), none⟩,
                ⟨some 36, (.binOp .or 61 (.tmp 33) (.tmp 35) 61), none⟩,
                ⟨some 9, (.assign (.tmp 36)), none⟩])
              (.seq (.reg [⟨some 37, (.move (.tmp 10)), none⟩,
                 ⟨some 38, (.binOp .shl 61 (.tmp 37) (.const (.int .u64 1)) 60), none⟩,
                 ⟨some 10, (.assign (.tmp 38)), none⟩])
               (.seq (.reg [⟨some 39, (.move (.tmp 13)), none⟩,
                  ⟨some 40, (.binOp .eql 61 (.tmp 39) (.const (.int .u64 1)) 61), none⟩,
                  ⟨some 41, (.move (.tmp 40)), none⟩,
                  ⟨some 42, (.move (.tmp 11)), some (41, false)⟩,
                  ⟨some 43, (.move (.tmp 2)), some (41, false)⟩,
                  ⟨some 44, (.binOp .geq 61 (.tmp 42) (.tmp 43) 61), some (41, false)⟩,
                  ⟨some 45, (.pick (.tmp 41) (.const (.bool true)) (.tmp 44)), none⟩])
                (.cond (.tmp 45)
                 (.seq (.reg [⟨some 46, (.move (.tmp 11)), none⟩,
                    ⟨some 47, (.move (.tmp 2)), none⟩,
                    ⟨some 48, (.binOp .sub 61 (.tmp 46) (.tmp 47) 61), none⟩,
                    ⟨some 11, (.assign (.tmp 48)), none⟩])
                  (.reg [⟨some 49, (.move (.tmp 10)), none⟩,
                    ⟨some 50, (.binOp .or 61 (.tmp 49) (.const (.int .u64 1)) 61), none⟩,
                    ⟨some 10, (.assign (.tmp 50)), none⟩]))
                 .skip)))))))))
        (.reg [⟨some 16, (.move (.tmp 12)), none⟩,
          ⟨some 17, (.binOp .add 3 (.tmp 16) (.const (.int .i64 1)) 3), none⟩,
          ⟨some 12, (.assign (.tmp 17)), none⟩]))))))
   (.seq (.reg [⟨some 51, (.move (.tmp 9)), none⟩,
      ⟨some 52, (.move (.tmp 10)), none⟩,
      ⟨some 53, (.move (.tmp 11)), none⟩,
      ⟨some 6, (.assign (.tmp 51)), none⟩,
      ⟨some 7, (.assign (.tmp 52)), none⟩,
      ⟨some 8, (.assign (.tmp 53)), none⟩])
    .ret))))
theorem k42 : FOK Try.prog 42 54 c42 [6, 7, 8] := ⟨⟨[9, 10, 11, 12, 13], Try.f42, _, by kernel_rfl, by kernel_rfl, rfl, by kernel_rfl, rfl, by kernel_rfl, by decide⟩⟩

/-- timesync.timesyncref01.signed -/
def c43 : SC :=
  (.seq (.reg [⟨some 6, (.assign (.const (.int .i64 0))), none⟩,
   ⟨some 7, (.assign (.const (.bool false))), none⟩])
 (.seq (.seq (.reg [⟨some 8, (.move (.tmp 1)), none⟩,
     ⟨some 9, (.binOp .gtr 61 (.tmp 8) (.const (.int .u64 0)) 61), none⟩,
     ⟨some 10, (.move (.tmp 9)), none⟩,
     ⟨some 11, (.move (.tmp 2)), some (10, false)⟩,
     ⟨some 12, (.binOp .gtr 61 (.tmp 11) (.const (.int .u64 9223372036854775808)) 61), some (10, false)⟩,
     ⟨some 13, (.pick (.tmp 10) (.const (.bool true)) (.tmp 12)), none⟩,
     ⟨some 14, (.move (.tmp 13)), none⟩,
     ⟨some 15, (.move (.tmp 2)), some (14, false)⟩,
     ⟨some 16, (.binOp .eql 61 (.tmp 15) (.const (.int .u64 9223372036854775808)) 61), some (14, false)⟩,
     ⟨some 17, (.move (.tmp 16)), some (14, false)⟩,
     ⟨some 18, (.move (.tmp 0)), some (17, true)⟩,
     ⟨some 19, (.unOp .not 4 (.tmp 18)), some (17, true)⟩,
     ⟨some 20, (.pick (.tmp 17) (.tmp 19) (.const (.bool false))), some (14, false)⟩,
     ⟨some 21, (.pick (.tmp 14) (.const (.bool true)) (.tmp 20)), none⟩])
   (.cond (.tmp 21)
    (.seq (.reg [⟨some 6, (.assign (.const (.int .i64 0))), none⟩,
       ⟨some 7, (.assign (.const (.bool false))), none⟩])
     .ret)
    .skip))
  (.seq (.seq (.reg [⟨some 22, (.move (.tmp 0)), none⟩,
      ⟨some 23, (.unOp .not 4 (.tmp 22)), none⟩])
    (.cond (.tmp 23)
     (.seq (.reg [⟨some 24, (.move (.tmp 2)), none⟩,
        ⟨some 25, (.convert 61 3 (.tmp 24)), none⟩,
        ⟨some 6, (.assign (.tmp 25)), none⟩,
        ⟨some 7, (.assign (.const (.bool true))), none⟩])
      .ret)
     .skip))
   (.seq (.seq (.reg [⟨some 26, (.move (.tmp 2)), none⟩,
       ⟨some 27, (.binOp .eql 61 (.tmp 26) (.const (.int .u64 0)) 61), none⟩])
     (.cond (.tmp 27)
      (.seq (.reg [⟨some 6, (.assign (.const (.int .i64 0))), none⟩,
         ⟨some 7, (.assign (.const (.bool true))), none⟩])
       .ret)
      .skip))
    (.seq (.reg [⟨some 28, (.move (.tmp 2)), none⟩,
       ⟨some 29, (.binOp .sub 61 (.tmp 28) (.const (.int .u64 1)) 61), none⟩,
       ⟨some 30, (.convert 61 3 (.tmp 29)), none⟩,
       ⟨some 31, (.unOp .neg 3 (.tmp 30)), none⟩,
       ⟨some 32, (.binOp .sub 3 (.tmp 31) (.const (.int .i64 1)) 3), none⟩,
       ⟨some 6, (.assign (.tmp 32)), none⟩,
       ⟨some 7, (.assign (.const (.bool true))), none⟩])
     .ret)))))
theorem k43 : FOK Try.prog 43 33 c43 [6, 7] := ⟨⟨[9, 10, 11, 12, 13], Try.f43, _, by kernel_rfl, by kernel_rfl, rfl, by kernel_rfl, rfl, by kernel_rfl, by decide⟩⟩

/-- math.bits.Len32 -/
def c53 : SC :=
  (.seq (.reg [⟨some 2, (.assign (.const (.int .i64 0))), none⟩])
 (.seq (.seq (.reg [⟨some 3, (.move (.tmp 0)), none⟩,
     ⟨some 4, (.binOp .geq 78 (.tmp 3) (.const (.int .u32 65536)) 78), none⟩])
   (.cond (.tmp 4)
    (.seq (.reg [⟨some 5, (.move (.tmp 0)), none⟩,
       ⟨some 6, (.binOp .shr 78 (.tmp 5) (.const (.int .u64 16)) 60), none⟩,
       ⟨some 0, (.assign (.tmp 6)), none⟩])
     (.reg [⟨some 2, (.assign (.const (.int .i64 16))), none⟩]))
    .skip))
  (.seq (.seq (.reg [⟨some 7, (.move (.tmp 0)), none⟩,
      ⟨some 8, (.binOp .geq 78 (.tmp 7) (.const (.int .u32 256)) 78), none⟩])
    (.cond (.tmp 8)
     (.seq (.reg [⟨some 9, (.move (.tmp 0)), none⟩,
        ⟨some 10, (.binOp .shr 78 (.tmp 9) (.const (.int .u64 8)) 60), none⟩,
        ⟨some 0, (.assign (.tmp 10)), none⟩])
      (.reg [⟨some 11, (.move (.tmp 2)), none⟩,
        ⟨some 12, (.binOp .add 3 (.tmp 11) (.const (.int .i64 8)) 3), none⟩,
        ⟨some 2, (.assign (.tmp 12)), none⟩]))
     .skip))
   (.seq (.reg [⟨some 13, (.move (.tmp 2)), none⟩,
      ⟨some 14, (.move (.tmp 0)), none⟩,
      ⟨some 15, (.convert 78 5 (.tmp 14)), none⟩,
      ⟨some 16, (.index 9 (.const (.string { data := ((((([0, 1, 2, 2, 3, 3, 3, 3, 4, 4, 4, 4, 4, 4, 4, 4, 5, 5, 5, 5, 5, 5, 5, 5, 5, 5, 5, 5, 5, 5, 5, 5, 6, 6, 6, 6, 6, 6, 6, 6, 6, 6, 6, 6, 6, 6, 6, 6, 6, 6, 6, 6, 6, 6, 6, 6, 6, 6, 6, 6, 6, 6, 6, 6].append) [7, 7, 7, 7, 7, 7, 7, 7, 7, 7, 7, 7, 7, 7, 7, 7, 7, 7, 7, 7, 7, 7, 7, 7, 7, 7, 7, 7, 7, 7, 7, 7, 7, 7, 7, 7, 7, 7, 7, 7, 7, 7, 7, 7, 7, 7, 7, 7, 7, 7, 7, 7, 7, 7, 7, 7, 7, 7, 7, 7, 7, 7, 7, 7]).append) (([8, 8, 8, 8, 8, 8, 8, 8, 8, 8, 8, 8, 8, 8, 8, 8, 8, 8, 8, 8, 8, 8, 8, 8, 8, 8, 8, 8, 8, 8, 8, 8, 8, 8, 8, 8, 8, 8, 8, 8, 8, 8, 8, 8, 8, 8, 8, 8, 8, 8, 8, 8, 8, 8, 8, 8, 8, 8, 8, 8, 8, 8, 8, 8].append) [8, 8, 8, 8, 8, 8, 8, 8, 8, 8, 8, 8, 8, 8, 8, 8, 8, 8, 8, 8, 8, 8, 8, 8, 8, 8, 8, 8, 8, 8, 8, 8, 8, 8, 8, 8, 8, 8, 8, 8, 8, 8, 8, 8, 8, 8, 8, 8, 8, 8, 8, 8, 8, 8, 8, 8, 8, 8, 8, 8, 8, 8, 8, 8])).toArray) })) (.tmp 15)), none⟩,
      ⟨some 17, (.convert 5 3 (.tmp 16)), none⟩,
      ⟨some 18, (.binOp .add 3 (.tmp 13) (.tmp 17) 3), none⟩,
      ⟨some 2, (.assign (.tmp 18)), none⟩])
    .ret))))
theorem k53 : FOK Try.prog 53 19 c53 [2] := ⟨⟨[9, 10, 11, 12, 13], Try.f53, _, by kernel_rfl, by kernel_rfl, rfl, by kernel_rfl, rfl, by kernel_rfl, by decide⟩⟩

/-- math.bits.Len64 -/
def c54 : SC :=
  (.seq (.reg [⟨some 2, (.assign (.const (.int .i64 0))), none⟩])
 (.seq (.seq (.reg [⟨some 3, (.move (.tmp 0)), none⟩,
     ⟨some 4, (.binOp .geq 61 (.tmp 3) (.const (.int .u64 4294967296)) 61), none⟩])
   (.cond (.tmp 4)
    (.seq (.reg [⟨some 5, (.move (.tmp 0)), none⟩,
       ⟨some 6, (.binOp .shr 61 (.tmp 5) (.const (.int .u64 32)) 60), none⟩,
       ⟨some 0, (.assign (.tmp 6)), none⟩])
     (.reg [⟨some 2, (.assign (.const (.int .i64 32))), none⟩]))
    .skip))
  (.seq (.seq (.reg [⟨some 7, (.move (.tmp 0)), none⟩,
      ⟨some 8, (.binOp .geq 61 (.tmp 7) (.const (.int .u64 65536)) 61), none⟩])
    (.cond (.tmp 8)
     (.seq (.reg [⟨some 9, (.move (.tmp 0)), none⟩,
        ⟨some 10, (.binOp .shr 61 (.tmp 9) (.const (.int .u64 16)) 60), none⟩,
        ⟨some 0, (.assign (.tmp 10)), none⟩])
      (.reg [⟨some 11, (.move (.tmp 2)), none⟩,
        ⟨some 12, (.binOp .add 3 (.tmp 11) (.const (.int .i64 16)) 3), none⟩,
        ⟨some 2, (.assign (.tmp 12)), none⟩]))
     .skip))
   (.seq (.seq (.reg [⟨some 13, (.move (.tmp 0)), none⟩,
       ⟨some 14, (.binOp .geq 61 (.tmp 13) (.const (.int .u64 256)) 61), none⟩])
     (.cond (.tmp 14)
      (.seq (.reg [⟨some 15, (.move (.tmp 0)), none⟩,
         ⟨some 16, (.binOp .shr 61 (.tmp 15) (.const (.int .u64 8)) 60), none⟩,
         ⟨some 0, (.assign (.tmp 16)), none⟩])
       (.reg [⟨some 17, (.move (.tmp 2)), none⟩,
         ⟨some 18, (.binOp .add 3 (.tmp 17) (.const (.int .i64 8)) 3), none⟩,
         ⟨some 2, (.assign (.tmp 18)), none⟩]))
      .skip))
    (.seq (.reg [⟨some 19, (.move (.tmp 2)), none⟩,
       ⟨some 20, (.move (.tmp 0)), none⟩,
       ⟨some 21, (.convert 61 5 (.tmp 20)), none⟩,
       ⟨some 22, (.index 9 (.const (.string { data := ((((([0, 1, 2, 2, 3, 3, 3, 3, 4, 4, 4, 4, 4, 4, 4, 4, 5, 5, 5, 5, 5, 5, 5, 5, 5, 5, 5, 5, 5, 5, 5, 5, 6, 6, 6, 6, 6, 6, 6, 6, 6, 6, 6, 6, 6, 6, 6, 6, 6, 6, 6, 6, 6, 6, 6, 6, 6, 6, 6, 6, 6, 6, 6, 6].append) [7, 7, 7, 7, 7, 7, 7, 7, 7, 7, 7, 7, 7, 7, 7, 7, 7, 7, 7, 7, 7, 7, 7, 7, 7, 7, 7, 7, 7, 7, 7, 7, 7, 7, 7, 7, 7, 7, 7, 7, 7, 7, 7, 7, 7, 7, 7, 7, 7, 7, 7, 7, 7, 7, 7, 7, 7, 7, 7, 7, 7, 7, 7, 7]).append) (([8, 8, 8, 8, 8, 8, 8, 8, 8, 8, 8, 8, 8, 8, 8, 8, 8, 8, 8, 8, 8, 8, 8, 8, 8, 8, 8, 8, 8, 8, 8, 8, 8, 8, 8, 8, 8, 8, 8, 8, 8, 8, 8, 8, 8, 8, 8, 8, 8, 8, 8, 8, 8, 8, 8, 8, 8, 8, 8, 8, 8, 8, 8, 8].append) [8, 8, 8, 8, 8, 8, 8, 8, 8, 8, 8, 8, 8, 8, 8, 8, 8, 8, 8, 8, 8, 8, 8, 8, 8, 8, 8, 8, 8, 8, 8, 8, 8, 8, 8, 8, 8, 8, 8, 8, 8, 8, 8, 8, 8, 8, 8, 8, 8, 8, 8, 8, 8, 8, 8, 8, 8, 8, 8, 8, 8, 8, 8, 8])).toArray) })) (.tmp 21)), none⟩,
       ⟨some 23, (.convert 5 3 (.tmp 22)), none⟩,
       ⟨some 24, (.binOp .add 3 (.tmp 19) (.tmp 23) 3), none⟩,
       ⟨some 2, (.assign (.tmp 24)), none⟩])
     .ret)))))
theorem k54 : FOK Try.prog 54 25 c54 [2] := ⟨⟨[9, 10, 11, 12, 13], Try.f54, _, by kernel_rfl, by kernel_rfl, rfl, by kernel_rfl, rfl, by kernel_rfl, by decide⟩⟩

/-- math.bits.LeadingZeros64 -/
def c55 : SC :=
  (.seq (.reg [⟨some 2, (.assign (.const (.int .i64 0))), none⟩])
 (.seq (.reg [⟨some 3, (.move (.tmp 0)), none⟩,
    ⟨some 4, (.call { callee := (.value (.func 54)), args := #[(.tmp 3)], argTypes := #[61] }), none⟩,
    ⟨some 5, (.binOp .sub 3 (.const (.int .i64 64)) (.tmp 4) 3), none⟩,
    ⟨some 2, (.assign (.tmp 5)), none⟩])
  .ret))
theorem k55 : FOK Try.prog 55 6 c55 [2] := ⟨⟨[9, 10, 11, 12, 13], Try.f55, _, by kernel_rfl, by kernel_rfl, rfl, by kernel_rfl, rfl, by kernel_rfl, by decide⟩⟩

end Go.Proofs.Yteeakkakkjhgoaa.A
