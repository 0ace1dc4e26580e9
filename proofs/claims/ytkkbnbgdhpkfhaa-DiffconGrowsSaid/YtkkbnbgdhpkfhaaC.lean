/- The code of the functions, without what the walk does not look at. Conditions: none. -/
import Derived.Test.YtkkbnbgdhpkfhaaA10
import Derived.Test.YtkkbnbgdhpkfhaaProg
import Derived.KernelRfl
set_option linter.unusedVariables false
set_option maxRecDepth 100000
namespace Go.Proofs.Ytkkbnbgdhpkfhaa.A
open Go
/-- timesync.timesynclaw51.DiffconBounds -/
def c3 : SC :=
  (.seq (.reg [⟨some 4, (.assign (.const (.bool false))), none⟩])
 (.seq (.seq (.reg [⟨some 9, (.move (.tmp 1)), none⟩,
     ⟨some 10, (.call { callee := (.value (.func 11)), args := #[(.tmp 9)], argTypes := #[22] }), none⟩])
   (.cond (.tmp 10)
    (.seq (.reg [⟨some 11, (.call { callee := (.value (.func 12)), args := #[], argTypes := #[] }), none⟩,
       ⟨some 4, (.assign (.tmp 11)), none⟩])
     .ret)
    .skip))
  (.seq (.reg [⟨some 13, (.move (.tmp 0)), none⟩,
     ⟨some 14, (.move (.tmp 1)), none⟩,
     ⟨some 15, (.call { callee := (.value (.func 13)), args := #[(.tmp 13), (.tmp 14)], argTypes := #[3, 22] }), none⟩,
     ⟨some 12, (.move (.tmp 15)), none⟩,
     ⟨some 16, (.extract (.tmp 12) 0), none⟩,
     ⟨some 17, (.extract (.tmp 12) 1), none⟩,
     ⟨some 5, (.assign (.tmp 16)), none⟩,
     ⟨some 6, (.assign (.tmp 17)), none⟩])
   (.seq (.reg [⟨some 19, (.move (.tmp 0)), none⟩,
      ⟨some 20, (.move (.tmp 1)), none⟩,
      ⟨some 21, (.call { callee := (.value (.func 14)), args := #[(.tmp 19), (.tmp 20)], argTypes := #[3, 22] }), none⟩,
      ⟨some 18, (.move (.tmp 21)), none⟩,
      ⟨some 22, (.extract (.tmp 18) 0), none⟩,
      ⟨some 23, (.extract (.tmp 18) 1), none⟩,
      ⟨some 7, (.assign (.tmp 22)), none⟩,
      ⟨some 8, (.assign (.tmp 23)), none⟩])
    (.seq (.reg [⟨some 24, (.move (.tmp 0)), none⟩,
       ⟨some 25, (.move (.tmp 1)), none⟩,
       ⟨some 26, (.call { callee := (.value (.func 15)), args := #[(.tmp 24), (.tmp 25)], argTypes := #[3, 22] }), none⟩,
       ⟨some 27, (.move (.tmp 0)), none⟩,
       ⟨some 28, (.move (.tmp 1)), none⟩,
       ⟨some 29, (.call { callee := (.value (.func 16)), args := #[(.tmp 27), (.tmp 28)], argTypes := #[3, 22] }), none⟩,
       ⟨some 30, (.binOp .eql 26 (.tmp 26) (.tmp 29) 26), none⟩,
       ⟨some 31, (.move (.tmp 30)), none⟩,
       ⟨some 32, (.move (.tmp 5)), some (31, true)⟩,
       ⟨some 33, (.move (.tmp 7)), some (31, true)⟩,
       ⟨some 34, (.call { callee := (.value (.func 17)), args := #[(.tmp 32), (.tmp 33)], argTypes := #[25, 25] }), some (31, true)⟩,
       ⟨some 35, (.pick (.tmp 31) (.tmp 34) (.const (.bool false))), none⟩,
       ⟨some 36, (.move (.tmp 35)), none⟩,
       ⟨some 37, (.move (.tmp 6)), some (36, true)⟩,
       ⟨some 38, (.move (.tmp 8)), some (36, true)⟩,
       ⟨some 39, (.binOp .eql 26 (.tmp 37) (.tmp 38) 26), some (36, true)⟩,
       ⟨some 40, (.pick (.tmp 36) (.tmp 39) (.const (.bool false))), none⟩,
       ⟨some 41, (.move (.tmp 40)), none⟩,
       ⟨some 42, (.call { callee := (.value (.func 12)), args := #[], argTypes := #[] }), some (41, true)⟩,
       ⟨some 43, (.pick (.tmp 41) (.tmp 42) (.const (.bool false))), none⟩,
       ⟨some 4, (.assign (.tmp 43)), none⟩])
     .ret)))))
theorem k3 : FOK Try.prog 3 44 c3 [4] := ⟨⟨Try.f3, _, by kernel_rfl, by kernel_rfl, rfl, by kernel_rfl, rfl, by kernel_rfl, by decide⟩⟩

/-- timesync.timesynclaw51.DiffconSolves -/
def c4 : SC :=
  (.seq (.reg [⟨some 8, (.assign (.const (.bool false))), none⟩])
 (.seq (.seq (.reg [⟨some 17, (.move (.tmp 1)), none⟩,
     ⟨some 18, (.call { callee := (.value (.func 11)), args := #[(.tmp 17)], argTypes := #[22] }), none⟩])
   (.cond (.tmp 18)
    (.seq (.reg [⟨some 19, (.call { callee := (.value (.func 12)), args := #[], argTypes := #[] }), none⟩,
       ⟨some 8, (.assign (.tmp 19)), none⟩])
     .ret)
    .skip))
  (.seq (.reg [⟨some 21, (.move (.tmp 0)), none⟩,
     ⟨some 22, (.move (.tmp 1)), none⟩,
     ⟨some 23, (.call { callee := (.value (.func 18)), args := #[(.tmp 21), (.tmp 22)], argTypes := #[3, 22] }), none⟩,
     ⟨some 20, (.move (.tmp 23)), none⟩,
     ⟨some 24, (.extract (.tmp 20) 0), none⟩,
     ⟨some 25, (.extract (.tmp 20) 1), none⟩,
     ⟨some 9, (.assign (.tmp 24)), none⟩,
     ⟨some 10, (.assign (.tmp 25)), none⟩])
   (.seq (.reg [⟨some 27, (.move (.tmp 0)), none⟩,
      ⟨some 28, (.move (.tmp 1)), none⟩,
      ⟨some 29, (.call { callee := (.value (.func 19)), args := #[(.tmp 27), (.tmp 28)], argTypes := #[3, 22] }), none⟩,
      ⟨some 26, (.move (.tmp 29)), none⟩,
      ⟨some 30, (.extract (.tmp 26) 0), none⟩,
      ⟨some 31, (.extract (.tmp 26) 1), none⟩,
      ⟨some 11, (.assign (.tmp 30)), none⟩,
      ⟨some 12, (.assign (.tmp 31)), none⟩])
    (.seq (.reg [⟨some 33, (.move (.tmp 0)), none⟩,
       ⟨some 34, (.move (.tmp 1)), none⟩,
       ⟨some 35, (.move (.tmp 2)), none⟩,
       ⟨some 36, (.move (.tmp 3)), none⟩,
       ⟨some 37, (.call { callee := (.value (.func 20)), args := #[(.tmp 33), (.tmp 34), (.tmp 35), (.tmp 36)], argTypes := #[3, 22, 3, 3] }), none⟩,
       ⟨some 32, (.move (.tmp 37)), none⟩,
       ⟨some 38, (.extract (.tmp 32) 0), none⟩,
       ⟨some 39, (.extract (.tmp 32) 1), none⟩,
       ⟨some 13, (.assign (.tmp 38)), none⟩,
       ⟨some 14, (.assign (.tmp 39)), none⟩])
     (.seq (.reg [⟨some 41, (.move (.tmp 0)), none⟩,
        ⟨some 42, (.move (.tmp 1)), none⟩,
        ⟨some 43, (.move (.tmp 2)), none⟩,
        ⟨some 44, (.move (.tmp 3)), none⟩,
        ⟨some 45, (.call { callee := (.value (.func 21)), args := #[(.tmp 41), (.tmp 42), (.tmp 43), (.tmp 44)], argTypes := #[3, 22, 3, 3] }), none⟩,
        ⟨some 40, (.move (.tmp 45)), none⟩,
        ⟨some 46, (.extract (.tmp 40) 0), none⟩,
        ⟨some 47, (.extract (.tmp 40) 1), none⟩,
        ⟨some 15, (.assign (.tmp 46)), none⟩,
        ⟨some 16, (.assign (.tmp 47)), none⟩])
      (.seq (.reg [⟨some 48, (.move (.tmp 9)), none⟩,
         ⟨some 49, (.move (.tmp 11)), none⟩,
         ⟨some 50, (.call { callee := (.value (.func 22)), args := #[(.tmp 48), (.tmp 49)], argTypes := #[32, 32] }), none⟩,
         ⟨some 51, (.move (.tmp 50)), none⟩,
         ⟨some 52, (.move (.tmp 10)), some (51, true)⟩,
         ⟨some 53, (.move (.tmp 12)), some (51, true)⟩,
         ⟨some 54, (.binOp .eql 26 (.tmp 52) (.tmp 53) 26), some (51, true)⟩,
         ⟨some 55, (.pick (.tmp 51) (.tmp 54) (.const (.bool false))), none⟩,
         ⟨some 56, (.move (.tmp 55)), none⟩,
         ⟨some 57, (.move (.tmp 13)), some (56, true)⟩,
         ⟨some 58, (.move (.tmp 15)), some (56, true)⟩,
         ⟨some 59, (.call { callee := (.value (.func 22)), args := #[(.tmp 57), (.tmp 58)], argTypes := #[32, 32] }), some (56, true)⟩,
         ⟨some 60, (.pick (.tmp 56) (.tmp 59) (.const (.bool false))), none⟩,
         ⟨some 61, (.move (.tmp 60)), none⟩,
         ⟨some 62, (.move (.tmp 14)), some (61, true)⟩,
         ⟨some 63, (.move (.tmp 16)), some (61, true)⟩,
         ⟨some 64, (.binOp .eql 26 (.tmp 62) (.tmp 63) 26), some (61, true)⟩,
         ⟨some 65, (.pick (.tmp 61) (.tmp 64) (.const (.bool false))), none⟩,
         ⟨some 66, (.move (.tmp 65)), none⟩,
         ⟨some 67, (.call { callee := (.value (.func 12)), args := #[], argTypes := #[] }), some (66, true)⟩,
         ⟨some 68, (.pick (.tmp 66) (.tmp 67) (.const (.bool false))), none⟩,
         ⟨some 8, (.assign (.tmp 68)), none⟩])
       .ret)))))))
theorem k4 : FOK Try.prog 4 69 c4 [8] := ⟨⟨Try.f4, _, by kernel_rfl, by kernel_rfl, rfl, by kernel_rfl, rfl, by kernel_rfl, by decide⟩⟩

/-- timesync.timesynclaw51.DiffconHolds -/
def c5 : SC :=
  (.seq (.reg [⟨some 4, (.assign (.const (.bool false))), none⟩])
 (.seq (.reg [⟨some 5, (.move (.tmp 0)), none⟩,
    ⟨some 6, (.move (.tmp 1)), none⟩,
    ⟨some 7, (.call { callee := (.value (.func 23)), args := #[(.tmp 5), (.tmp 6)], argTypes := #[22, 32] }), none⟩,
    ⟨some 8, (.move (.tmp 0)), none⟩,
    ⟨some 9, (.move (.tmp 1)), none⟩,
    ⟨some 10, (.call { callee := (.value (.func 24)), args := #[(.tmp 8), (.tmp 9)], argTypes := #[22, 32] }), none⟩,
    ⟨some 11, (.binOp .eql 4 (.tmp 7) (.tmp 10) 4), none⟩,
    ⟨some 12, (.move (.tmp 11)), none⟩,
    ⟨some 13, (.call { callee := (.value (.func 12)), args := #[], argTypes := #[] }), some (12, true)⟩,
    ⟨some 14, (.pick (.tmp 12) (.tmp 13) (.const (.bool false))), none⟩,
    ⟨some 4, (.assign (.tmp 14)), none⟩])
  .ret))
theorem k5 : FOK Try.prog 5 15 c5 [4] := ⟨⟨Try.f5, _, by kernel_rfl, by kernel_rfl, rfl, by kernel_rfl, rfl, by kernel_rfl, by decide⟩⟩

/-- timesync.timesynclaw51.DiffconClosed -/
def c6 : SC :=
  (.seq (.reg [⟨some 4, (.assign (.const (.bool false))), none⟩])
 (.seq (.seq (.reg [⟨some 16, (.move (.tmp 1)), none⟩,
     ⟨some 17, (.call { callee := (.value (.func 11)), args := #[(.tmp 16)], argTypes := #[22] }), none⟩,
     ⟨some 18, (.move (.tmp 17)), none⟩,
     ⟨some 19, (.move (.tmp 0)), some (18, false)⟩,
     ⟨some 20, (.move (.tmp 1)), some (18, false)⟩,
     ⟨some 21, (.call { callee := (.value (.func 15)), args := #[(.tmp 19), (.tmp 20)], argTypes := #[3, 22] }), some (18, false)⟩,
     ⟨some 22, (.binOp .neq 26 (.tmp 21) (.const (.int .i64 0)) 26), some (18, false)⟩,
     ⟨some 23, (.pick (.tmp 18) (.const (.bool true)) (.tmp 22)), none⟩])
   (.cond (.tmp 23)
    (.seq (.reg [⟨some 24, (.call { callee := (.value (.func 12)), args := #[], argTypes := #[] }), none⟩,
       ⟨some 4, (.assign (.tmp 24)), none⟩])
     .ret)
    .skip))
  (.seq (.reg [⟨some 26, (.move (.tmp 0)), none⟩,
     ⟨some 27, (.move (.tmp 1)), none⟩,
     ⟨some 28, (.call { callee := (.value (.func 13)), args := #[(.tmp 26), (.tmp 27)], argTypes := #[3, 22] }), none⟩,
     ⟨some 25, (.move (.tmp 28)), none⟩,
     ⟨some 29, (.extract (.tmp 25) 0), none⟩,
     ⟨some 30, (.extract (.tmp 25) 1), none⟩,
     ⟨some 5, (.assign (.tmp 29)), none⟩,
     ⟨some 6, (.assign (.tmp 30)), none⟩])
   (.seq (.seq (.reg [⟨some 31, (.move (.tmp 6)), none⟩,
       ⟨some 32, (.binOp .neq 26 (.tmp 31) (.const (.int .i64 0)) 26), none⟩])
     (.cond (.tmp 32)
      (.seq (.reg [⟨some 33, (.move (.tmp 6)), none⟩,
         ⟨some 34, (.binOp .eql 26 (.tmp 33) (.const (.int .i64 20)) 26), none⟩,
         ⟨some 35, (.move (.tmp 34)), none⟩,
         ⟨some 36, (.move (.tmp 5)), some (35, true)⟩,
         ⟨some 37, (.call { callee := (.builtin .len), args := #[(.tmp 36)], argTypes := #[25] }), some (35, true)⟩,
         ⟨some 38, (.binOp .eql 3 (.tmp 37) (.const (.int .i64 0)) 3), some (35, true)⟩,
         ⟨some 39, (.pick (.tmp 35) (.tmp 38) (.const (.bool false))), none⟩,
         ⟨some 40, (.move (.tmp 39)), none⟩,
         ⟨some 41, (.call { callee := (.value (.func 12)), args := #[], argTypes := #[] }), some (40, true)⟩,
         ⟨some 42, (.pick (.tmp 40) (.tmp 41) (.const (.bool false))), none⟩,
         ⟨some 4, (.assign (.tmp 42)), none⟩])
       .ret)
      .skip))
    (.seq (.seq (.reg [⟨some 43, (.move (.tmp 5)), none⟩,
        ⟨some 44, (.call { callee := (.builtin .len), args := #[(.tmp 43)], argTypes := #[25] }), none⟩,
        ⟨some 45, (.move (.tmp 0)), none⟩,
        ⟨some 46, (.binOp .neq 3 (.tmp 44) (.tmp 45) 3), none⟩])
      (.cond (.tmp 46)
       (.seq (.reg [⟨some 4, (.assign (.const (.bool false))), none⟩])
        .ret)
       .skip))
     (.seq (.seq (.reg [⟨some 47, (.move (.tmp 5)), none⟩,
         ⟨some 48, (.call { callee := (.builtin .len), args := #[(.tmp 47)], argTypes := #[25] }), none⟩,
         ⟨some 49, (.move (.const (.int .i64 0))), none⟩])
       (.block 0
        (.loop
         (.seq (.reg [⟨some 50, (.binOp .lss 3 (.tmp 49) (.tmp 48) 3), none⟩])
          (.seq (.cond (.tmp 50)
            .skip
            (.exit 0))
           (.seq (.block 1
             (.seq (.reg [⟨some 51, (.move (.tmp 49)), none⟩,
                ⟨some 52, (.indexAddr 25 (.tmp 47) (.tmp 49)), none⟩,
                ⟨some 53, (.load 32 (.tmp 52)), none⟩,
                ⟨some 7, (.assign (.tmp 51)), none⟩,
                ⟨some 8, (.assign (.tmp 53)), none⟩])
              (.seq (.reg [⟨some 54, (.move (.tmp 8)), none⟩,
                 ⟨some 55, (.call { callee := (.builtin .len), args := #[(.tmp 54)], argTypes := #[32] }), none⟩,
                 ⟨some 56, (.move (.tmp 0)), none⟩,
                 ⟨some 57, (.binOp .neq 3 (.tmp 55) (.tmp 56) 3), none⟩,
                 ⟨some 58, (.move (.tmp 57)), none⟩,
                 ⟨some 59, (.move (.tmp 8)), some (58, false)⟩,
                 ⟨some 60, (.move (.tmp 7)), some (58, false)⟩,
                 ⟨some 61, (.indexAddr 32 (.tmp 59) (.tmp 60)), some (58, false)⟩,
                 ⟨some 62, (.load 3 (.tmp 61)), some (58, false)⟩,
                 ⟨some 63, (.binOp .neq 3 (.tmp 62) (.const (.int .i64 0)) 3), some (58, false)⟩,
                 ⟨some 64, (.pick (.tmp 58) (.const (.bool true)) (.tmp 63)), none⟩])
               (.cond (.tmp 64)
                (.seq (.reg [⟨some 4, (.assign (.const (.bool false))), none⟩])
                 .ret)
                .skip))))
            (.reg [⟨some 65, (.binOp .add 3 (.tmp 49) (.const (.int .i64 1)) 3), none⟩,
              ⟨some 49, (.move (.tmp 65)), none⟩])))))))
      (.seq (.seq (.reg [⟨some 66, (.move (.tmp 1)), none⟩,
          ⟨some 67, (.call { callee := (.builtin .len), args := #[(.tmp 66)], argTypes := #[22] }), none⟩,
          ⟨some 68, (.move (.const (.int .i64 0))), none⟩])
        (.block 2
         (.loop
          (.seq (.reg [⟨some 69, (.binOp .lss 3 (.tmp 68) (.tmp 67) 3), none⟩])
           (.seq (.cond (.tmp 69)
             .skip
             (.exit 2))
            (.seq (.block 3
              (.seq (.reg [⟨some 70, (.indexAddr 22 (.tmp 66) (.tmp 68)), none⟩,
                 ⟨some 71, (.load 40 (.tmp 70)), none⟩,
                 ⟨some 10, (.alloc 40), none⟩,
                 ⟨none, (.store 40 (.tmp 10) (.tmp 71)), none⟩])
               (.seq (.regq [⟨some 72, (.move (.tmp 5)), none⟩,
                  ⟨some 73, (.fieldAddr 40 (.tmp 10) 0), none⟩,
                  ⟨some 74, (.load 3 (.tmp 73)), none⟩,
                  ⟨some 75, (.indexAddr 25 (.tmp 72) (.tmp 74)), none⟩,
                  ⟨some 76, (.load 32 (.tmp 75)), none⟩,
                  ⟨some 77, (.fieldAddr 40 (.tmp 10) 1), none⟩,
                  ⟨some 78, (.load 3 (.tmp 77)), none⟩,
                  ⟨some 79, (.indexAddr 32 (.tmp 76) (.tmp 78)), none⟩,
                  ⟨some 80, (.load 3 (.tmp 79)), none⟩,
                  ⟨some 81, (.fieldAddr 40 (.tmp 10) 2), none⟩,
                  ⟨some 82, (.load 3 (.tmp 81)), none⟩,
                  ⟨some 83, (.binOp .gtr 3 (.tmp 80) (.tmp 82) 3), none⟩])
                (.cond (.tmp 83)
                 (.seq (.reg [⟨some 4, (.assign (.const (.bool false))), none⟩])
                  .ret)
                 .skip))))
             (.reg [⟨some 84, (.binOp .add 3 (.tmp 68) (.const (.int .i64 1)) 3), none⟩,
               ⟨some 68, (.move (.tmp 84)), none⟩])))))))
       (.seq (.seq (.reg [⟨some 85, (.move (.tmp 5)), none⟩,
           ⟨some 86, (.call { callee := (.builtin .len), args := #[(.tmp 85)], argTypes := #[25] }), none⟩,
           ⟨some 87, (.move (.const (.int .i64 0))), none⟩])
         (.block 4
          (.loop
           (.seq (.reg [⟨some 88, (.binOp .lss 3 (.tmp 87) (.tmp 86) 3), none⟩])
            (.seq (.cond (.tmp 88)
              .skip
              (.exit 4))
             (.seq (.block 5
               (.seq (.reg [⟨some 89, (.indexAddr 25 (.tmp 85) (.tmp 87)), none⟩,
                  ⟨some 90, (.load 32 (.tmp 89)), none⟩,
                  ⟨some 12, (.assign (.tmp 90)), none⟩])
                (.seq (.reg [⟨some 91, (.move (.tmp 12)), none⟩,
                   ⟨some 92, (.call { callee := (.builtin .len), args := #[(.tmp 91)], argTypes := #[32] }), none⟩,
                   ⟨some 93, (.move (.const (.int .i64 0))), none⟩])
                 (.block 6
                  (.loop
                   (.seq (.reg [⟨some 94, (.binOp .lss 3 (.tmp 93) (.tmp 92) 3), none⟩])
                    (.seq (.cond (.tmp 94)
                      .skip
                      (.exit 6))
                     (.seq (.block 7
                       (.seq (.reg [⟨some 95, (.move (.tmp 93)), none⟩,
                          ⟨some 13, (.assign (.tmp 95)), none⟩])
                        (.seq (.reg [⟨some 96, (.move (.tmp 5)), none⟩,
                           ⟨some 97, (.move (.tmp 13)), none⟩,
                           ⟨some 98, (.indexAddr 25 (.tmp 96) (.tmp 97)), none⟩,
                           ⟨some 99, (.load 32 (.tmp 98)), none⟩,
                           ⟨some 100, (.call { callee := (.builtin .len), args := #[(.tmp 99)], argTypes := #[32] }), none⟩,
                           ⟨some 101, (.move (.const (.int .i64 0))), none⟩])
                         (.block 8
                          (.loop
                           (.seq (.reg [⟨some 102, (.binOp .lss 3 (.tmp 101) (.tmp 100) 3), none⟩])
                            (.seq (.cond (.tmp 102)
                              .skip
                              (.exit 8))
                             (.seq (.block 9
                               (.seq (.reg [⟨some 103, (.move (.tmp 101)), none⟩,
                                  ⟨some 104, (.indexAddr 32 (.tmp 99) (.tmp 101)), none⟩,
                                  ⟨some 105, (.load 3 (.tmp 104)), none⟩,
                                  ⟨some 14, (.assign (.tmp 103)), none⟩,
                                  ⟨some 15, (.assign (.tmp 105)), none⟩])
                                (.seq (.regq [⟨some 106, (.move (.tmp 12)), none⟩,
                                   ⟨some 107, (.move (.tmp 13)), none⟩,
                                   ⟨some 108, (.indexAddr 32 (.tmp 106) (.tmp 107)), none⟩,
                                   ⟨some 109, (.load 3 (.tmp 108)), none⟩,
                                   ⟨some 110, (.binOp .neq 3 (.tmp 109) (.const (.int .i64 4611686018427387904)) 3), none⟩,
                                   ⟨some 111, (.move (.tmp 110)), none⟩,
                                   ⟨some 112, (.move (.tmp 15)), some (111, true)⟩,
                                   ⟨some 113, (.binOp .neq 3 (.tmp 112) (.const (.int .i64 4611686018427387904)) 3), some (111, true)⟩,
                                   ⟨some 114, (.pick (.tmp 111) (.tmp 113) (.const (.bool false))), none⟩,
                                   ⟨some 115, (.move (.tmp 114)), none⟩,
                                   ⟨some 116, (.move (.tmp 12)), some (115, true)⟩,
                                   ⟨some 117, (.move (.tmp 14)), some (115, true)⟩,
                                   ⟨some 118, (.indexAddr 32 (.tmp 116) (.tmp 117)), some (115, true)⟩,
                                   ⟨some 119, (.load 3 (.tmp 118)), some (115, true)⟩,
                                   ⟨some 120, (.move (.tmp 12)), some (115, true)⟩,
                                   ⟨some 121, (.move (.tmp 13)), some (115, true)⟩,
                                   ⟨some 122, (.indexAddr 32 (.tmp 120) (.tmp 121)), some (115, true)⟩,
                                   ⟨some 123, (.load 3 (.tmp 122)), some (115, true)⟩,
                                   ⟨some 124, (.move (.tmp 15)), some (115, true)⟩,
                                   ⟨some 125, (.binOp .add 3 (.tmp 123) (.tmp 124) 3), some (115, true)⟩,
                                   ⟨some 126, (.binOp .gtr 3 (.tmp 119) (.tmp 125) 3), some (115, true)⟩,
                                   ⟨some 127, (.pick (.tmp 115) (.tmp 126) (.const (.bool false))), none⟩])
                                 (.cond (.tmp 127)
                                  (.seq (.reg [⟨some 4, (.assign (.const (.bool false))), none⟩])
                                   .ret)
                                  .skip))))
                              (.reg [⟨some 128, (.binOp .add 3 (.tmp 101) (.const (.int .i64 1)) 3), none⟩,
                                ⟨some 101, (.move (.tmp 128)), none⟩])))))))))
                      (.reg [⟨some 129, (.binOp .add 3 (.tmp 93) (.const (.int .i64 1)) 3), none⟩,
                        ⟨some 93, (.move (.tmp 129)), none⟩])))))))))
              (.reg [⟨some 130, (.binOp .add 3 (.tmp 87) (.const (.int .i64 1)) 3), none⟩,
                ⟨some 87, (.move (.tmp 130)), none⟩])))))))
        (.seq (.reg [⟨some 131, (.call { callee := (.value (.func 12)), args := #[], argTypes := #[] }), none⟩,
           ⟨some 4, (.assign (.tmp 131)), none⟩])
         .ret)))))))))
theorem k6 : FOK Try.prog 6 132 c6 [4] := ⟨⟨Try.f6, _, by kernel_rfl, by kernel_rfl, rfl, by kernel_rfl, rfl, by kernel_rfl, by decide⟩⟩

/-- timesync.timesynclaw51.DiffconTight -/
def c7 : SC :=
  (.seq (.reg [⟨some 10, (.assign (.const (.bool false))), none⟩])
 (.seq (.seq (.reg [⟨some 18, (.move (.tmp 1)), none⟩,
     ⟨some 19, (.call { callee := (.value (.func 11)), args := #[(.tmp 18)], argTypes := #[22] }), none⟩,
     ⟨some 20, (.move (.tmp 19)), none⟩,
     ⟨some 21, (.move (.tmp 0)), some (20, false)⟩,
     ⟨some 22, (.move (.tmp 1)), some (20, false)⟩,
     ⟨some 23, (.call { callee := (.value (.func 15)), args := #[(.tmp 21), (.tmp 22)], argTypes := #[3, 22] }), some (20, false)⟩,
     ⟨some 24, (.binOp .neq 26 (.tmp 23) (.const (.int .i64 0)) 26), some (20, false)⟩,
     ⟨some 25, (.pick (.tmp 20) (.const (.bool true)) (.tmp 24)), none⟩])
   (.cond (.tmp 25)
    (.seq (.reg [⟨some 26, (.call { callee := (.value (.func 12)), args := #[], argTypes := #[] }), none⟩,
       ⟨some 10, (.assign (.tmp 26)), none⟩])
     .ret)
    .skip))
  (.seq (.regq [⟨some 27, (.move (.tmp 2)), none⟩,
     ⟨some 28, (.convert 5 3 (.tmp 27)), none⟩,
     ⟨some 29, (.move (.tmp 0)), none⟩,
     ⟨some 30, (.binOp .rem 3 (.tmp 28) (.tmp 29) 3), none⟩,
     ⟨some 31, (.move (.tmp 3)), none⟩,
     ⟨some 32, (.convert 5 3 (.tmp 31)), none⟩,
     ⟨some 33, (.move (.tmp 0)), none⟩,
     ⟨some 34, (.binOp .rem 3 (.tmp 32) (.tmp 33) 3), none⟩,
     ⟨some 11, (.assign (.tmp 30)), none⟩,
     ⟨some 12, (.assign (.tmp 34)), none⟩])
   (.seq (.reg [⟨some 36, (.move (.tmp 0)), none⟩,
      ⟨some 37, (.move (.tmp 1)), none⟩,
      ⟨some 38, (.call { callee := (.value (.func 13)), args := #[(.tmp 36), (.tmp 37)], argTypes := #[3, 22] }), none⟩,
      ⟨some 35, (.move (.tmp 38)), none⟩,
      ⟨some 39, (.extract (.tmp 35) 0), none⟩,
      ⟨some 40, (.extract (.tmp 35) 1), none⟩,
      ⟨some 13, (.assign (.tmp 39)), none⟩,
      ⟨some 14, (.assign (.tmp 40)), none⟩])
    (.seq (.reg [⟨some 42, (.move (.tmp 0)), none⟩,
       ⟨some 43, (.move (.tmp 1)), none⟩,
       ⟨some 44, (.move (.tmp 11)), none⟩,
       ⟨some 45, (.move (.tmp 12)), none⟩,
       ⟨some 46, (.call { callee := (.value (.func 20)), args := #[(.tmp 42), (.tmp 43), (.tmp 44), (.tmp 45)], argTypes := #[3, 22, 3, 3] }), none⟩,
       ⟨some 41, (.move (.tmp 46)), none⟩,
       ⟨some 47, (.extract (.tmp 41) 0), none⟩,
       ⟨some 48, (.extract (.tmp 41) 1), none⟩,
       ⟨some 15, (.assign (.tmp 47)), none⟩,
       ⟨some 16, (.assign (.tmp 48)), none⟩])
     (.seq (.seq (.reg [⟨some 49, (.move (.tmp 14)), none⟩,
         ⟨some 50, (.binOp .neq 26 (.tmp 49) (.const (.int .i64 0)) 26), none⟩])
       (.cond (.tmp 50)
        (.seq (.reg [⟨some 51, (.move (.tmp 14)), none⟩,
           ⟨some 52, (.binOp .eql 26 (.tmp 51) (.const (.int .i64 20)) 26), none⟩,
           ⟨some 53, (.move (.tmp 52)), none⟩,
           ⟨some 54, (.move (.tmp 16)), some (53, true)⟩,
           ⟨some 55, (.binOp .eql 26 (.tmp 54) (.const (.int .i64 20)) 26), some (53, true)⟩,
           ⟨some 56, (.pick (.tmp 53) (.tmp 55) (.const (.bool false))), none⟩,
           ⟨some 57, (.move (.tmp 56)), none⟩,
           ⟨some 58, (.move (.tmp 15)), some (57, true)⟩,
           ⟨some 59, (.call { callee := (.builtin .len), args := #[(.tmp 58)], argTypes := #[32] }), some (57, true)⟩,
           ⟨some 60, (.binOp .eql 3 (.tmp 59) (.const (.int .i64 0)) 3), some (57, true)⟩,
           ⟨some 61, (.pick (.tmp 57) (.tmp 60) (.const (.bool false))), none⟩,
           ⟨some 62, (.move (.tmp 61)), none⟩,
           ⟨some 63, (.call { callee := (.value (.func 12)), args := #[], argTypes := #[] }), some (62, true)⟩,
           ⟨some 64, (.pick (.tmp 62) (.tmp 63) (.const (.bool false))), none⟩,
           ⟨some 10, (.assign (.tmp 64)), none⟩])
         .ret)
        .skip))
      (.seq (.seq (.reg [⟨some 65, (.move (.tmp 13)), none⟩,
          ⟨some 66, (.call { callee := (.builtin .len), args := #[(.tmp 65)], argTypes := #[25] }), none⟩,
          ⟨some 67, (.move (.tmp 0)), none⟩,
          ⟨some 68, (.binOp .neq 3 (.tmp 66) (.tmp 67) 3), none⟩,
          ⟨some 69, (.move (.tmp 68)), none⟩,
          ⟨some 70, (.move (.tmp 13)), some (69, false)⟩,
          ⟨some 71, (.move (.tmp 11)), some (69, false)⟩,
          ⟨some 72, (.indexAddr 25 (.tmp 70) (.tmp 71)), some (69, false)⟩,
          ⟨some 73, (.load 32 (.tmp 72)), some (69, false)⟩,
          ⟨some 74, (.call { callee := (.builtin .len), args := #[(.tmp 73)], argTypes := #[32] }), some (69, false)⟩,
          ⟨some 75, (.move (.tmp 0)), some (69, false)⟩,
          ⟨some 76, (.binOp .neq 3 (.tmp 74) (.tmp 75) 3), some (69, false)⟩,
          ⟨some 77, (.pick (.tmp 69) (.const (.bool true)) (.tmp 76)), none⟩])
        (.cond (.tmp 77)
         (.seq (.reg [⟨some 10, (.assign (.const (.bool false))), none⟩])
          .ret)
         .skip))
       (.seq (.seq (.reg [⟨some 78, (.move (.tmp 13)), none⟩,
           ⟨some 79, (.move (.tmp 11)), none⟩,
           ⟨some 80, (.indexAddr 25 (.tmp 78) (.tmp 79)), none⟩,
           ⟨some 81, (.load 32 (.tmp 80)), none⟩,
           ⟨some 82, (.move (.tmp 12)), none⟩,
           ⟨some 83, (.indexAddr 32 (.tmp 81) (.tmp 82)), none⟩,
           ⟨some 84, (.load 3 (.tmp 83)), none⟩,
           ⟨some 85, (.binOp .eql 3 (.tmp 84) (.const (.int .i64 4611686018427387904)) 3), none⟩])
         (.cond (.tmp 85)
          (.seq (.reg [⟨some 86, (.move (.tmp 16)), none⟩,
             ⟨some 87, (.binOp .eql 26 (.tmp 86) (.const (.int .i64 11)) 26), none⟩,
             ⟨some 88, (.move (.tmp 87)), none⟩,
             ⟨some 89, (.move (.tmp 15)), some (88, true)⟩,
             ⟨some 90, (.call { callee := (.builtin .len), args := #[(.tmp 89)], argTypes := #[32] }), some (88, true)⟩,
             ⟨some 91, (.binOp .eql 3 (.tmp 90) (.const (.int .i64 0)) 3), some (88, true)⟩,
             ⟨some 92, (.pick (.tmp 88) (.tmp 91) (.const (.bool false))), none⟩,
             ⟨some 93, (.move (.tmp 92)), none⟩,
             ⟨some 94, (.call { callee := (.value (.func 12)), args := #[], argTypes := #[] }), some (93, true)⟩,
             ⟨some 95, (.pick (.tmp 93) (.tmp 94) (.const (.bool false))), none⟩,
             ⟨some 10, (.assign (.tmp 95)), none⟩])
           .ret)
          .skip))
        (.seq (.seq (.regq [⟨some 96, (.move (.tmp 16)), none⟩,
            ⟨some 97, (.binOp .neq 26 (.tmp 96) (.const (.int .i64 0)) 26), none⟩,
            ⟨some 98, (.move (.tmp 97)), none⟩,
            ⟨some 99, (.move (.tmp 15)), some (98, false)⟩,
            ⟨some 100, (.call { callee := (.builtin .len), args := #[(.tmp 99)], argTypes := #[32] }), some (98, false)⟩,
            ⟨some 101, (.move (.tmp 0)), some (98, false)⟩,
            ⟨some 102, (.binOp .neq 3 (.tmp 100) (.tmp 101) 3), some (98, false)⟩,
            ⟨some 103, (.pick (.tmp 98) (.const (.bool true)) (.tmp 102)), none⟩,
            ⟨some 104, (.move (.tmp 103)), none⟩,
            ⟨some 105, (.move (.tmp 15)), some (104, false)⟩,
            ⟨some 106, (.move (.tmp 11)), some (104, false)⟩,
            ⟨some 107, (.indexAddr 32 (.tmp 105) (.tmp 106)), some (104, false)⟩,
            ⟨some 108, (.load 3 (.tmp 107)), some (104, false)⟩,
            ⟨some 109, (.binOp .neq 3 (.tmp 108) (.const (.int .i64 0)) 3), some (104, false)⟩,
            ⟨some 110, (.pick (.tmp 104) (.const (.bool true)) (.tmp 109)), none⟩,
            ⟨some 111, (.move (.tmp 110)), none⟩,
            ⟨some 112, (.move (.tmp 15)), some (111, false)⟩,
            ⟨some 113, (.move (.tmp 12)), some (111, false)⟩,
            ⟨some 114, (.indexAddr 32 (.tmp 112) (.tmp 113)), some (111, false)⟩,
            ⟨some 115, (.load 3 (.tmp 114)), some (111, false)⟩,
            ⟨some 116, (.move (.tmp 13)), some (111, false)⟩,
            ⟨some 117, (.move (.tmp 11)), some (111, false)⟩,
            ⟨some 118, (.indexAddr 25 (.tmp 116) (.tmp 117)), some (111, false)⟩,
            ⟨some 119, (.load 32 (.tmp 118)), some (111, false)⟩,
            ⟨some 120, (.move (.tmp 12)), some (111, false)⟩,
            ⟨some 121, (.indexAddr 32 (.tmp 119) (.tmp 120)), some (111, false)⟩,
            ⟨some 122, (.load 3 (.tmp 121)), some (111, false)⟩,
            ⟨some 123, (.binOp .neq 3 (.tmp 115) (.tmp 122) 3), some (111, false)⟩,
            ⟨some 124, (.pick (.tmp 111) (.const (.bool true)) (.tmp 123)), none⟩,
            ⟨some 125, (.move (.tmp 124)), none⟩,
            ⟨some 126, (.move (.tmp 1)), some (125, false)⟩,
            ⟨some 127, (.move (.tmp 15)), some (125, false)⟩,
            ⟨some 128, (.call { callee := (.value (.func 23)), args := #[(.tmp 126), (.tmp 127)], argTypes := #[22, 32] }), some (125, false)⟩,
            ⟨some 129, (.unOp .not 4 (.tmp 128)), some (125, false)⟩,
            ⟨some 130, (.pick (.tmp 125) (.const (.bool true)) (.tmp 129)), none⟩])
          (.cond (.tmp 130)
           (.seq (.reg [⟨some 10, (.assign (.const (.bool false))), none⟩])
            .ret)
           .skip))
         (.seq (.reg [⟨some 131, (.move (.tmp 4)), none⟩,
            ⟨some 132, (.move (.tmp 4)), none⟩,
            ⟨some 133, (.call { callee := (.builtin .len), args := #[(.tmp 132)], argTypes := #[32] }), none⟩,
            ⟨some 134, (.move (.tmp 0)), none⟩,
            ⟨some 135, (.call { callee := (.builtin .min), args := #[(.tmp 133), (.tmp 134)], argTypes := #[3, 3] }), none⟩,
            ⟨some 136, (.slice 32 (.tmp 131) none (some (.tmp 135)) none), none⟩,
            ⟨some 137, (.call { callee := (.value (.func 25)), args := #[(.tmp 136)], argTypes := #[32] }), none⟩,
            ⟨some 4, (.assign (.tmp 137)), none⟩])
          (.seq (.seq (.reg [⟨some 138, (.move (.tmp 4)), none⟩,
              ⟨some 139, (.call { callee := (.builtin .len), args := #[(.tmp 138)], argTypes := #[32] }), none⟩,
              ⟨some 140, (.move (.const (.int .i64 0))), none⟩])
            (.block 0
             (.loop
              (.seq (.reg [⟨some 141, (.binOp .lss 3 (.tmp 140) (.tmp 139) 3), none⟩])
               (.seq (.cond (.tmp 141)
                 .skip
                 (.exit 0))
                (.seq (.block 1
                  (.seq (.reg [⟨some 142, (.move (.tmp 140)), none⟩,
                     ⟨some 17, (.assign (.tmp 142)), none⟩])
                   (.reg [⟨some 143, (.move (.tmp 4)), none⟩,
                     ⟨some 144, (.move (.tmp 17)), none⟩,
                     ⟨some 145, (.indexAddr 32 (.tmp 143) (.tmp 144)), none⟩,
                     ⟨some 146, (.load 3 (.tmp 145)), none⟩,
                     ⟨some 147, (.binOp .rem 3 (.tmp 146) (.const (.int .i64 1152921504606846976)) 3), none⟩,
                     ⟨some 148, (.indexAddr 32 (.tmp 143) (.tmp 144)), none⟩,
                     ⟨none, (.store 3 (.tmp 148) (.tmp 147)), none⟩])))
                 (.reg [⟨some 149, (.binOp .add 3 (.tmp 140) (.const (.int .i64 1)) 3), none⟩,
                   ⟨some 140, (.move (.tmp 149)), none⟩])))))))
           (.seq (.seq (.regq [⟨some 150, (.move (.tmp 4)), none⟩,
               ⟨some 151, (.call { callee := (.builtin .len), args := #[(.tmp 150)], argTypes := #[32] }), none⟩,
               ⟨some 152, (.move (.tmp 0)), none⟩,
               ⟨some 153, (.binOp .eql 3 (.tmp 151) (.tmp 152) 3), none⟩,
               ⟨some 154, (.move (.tmp 153)), none⟩,
               ⟨some 155, (.move (.tmp 1)), some (154, true)⟩,
               ⟨some 156, (.move (.tmp 4)), some (154, true)⟩,
               ⟨some 157, (.call { callee := (.value (.func 23)), args := #[(.tmp 155), (.tmp 156)], argTypes := #[22, 32] }), some (154, true)⟩,
               ⟨some 158, (.pick (.tmp 154) (.tmp 157) (.const (.bool false))), none⟩,
               ⟨some 159, (.move (.tmp 158)), none⟩,
               ⟨some 160, (.move (.tmp 4)), some (159, true)⟩,
               ⟨some 161, (.move (.tmp 12)), some (159, true)⟩,
               ⟨some 162, (.indexAddr 32 (.tmp 160) (.tmp 161)), some (159, true)⟩,
               ⟨some 163, (.load 3 (.tmp 162)), some (159, true)⟩,
               ⟨some 164, (.move (.tmp 4)), some (159, true)⟩,
               ⟨some 165, (.move (.tmp 11)), some (159, true)⟩,
               ⟨some 166, (.indexAddr 32 (.tmp 164) (.tmp 165)), some (159, true)⟩,
               ⟨some 167, (.load 3 (.tmp 166)), some (159, true)⟩,
               ⟨some 168, (.binOp .sub 3 (.tmp 163) (.tmp 167) 3), some (159, true)⟩,
               ⟨some 169, (.move (.tmp 13)), some (159, true)⟩,
               ⟨some 170, (.move (.tmp 11)), some (159, true)⟩,
               ⟨some 171, (.indexAddr 25 (.tmp 169) (.tmp 170)), some (159, true)⟩,
               ⟨some 172, (.load 32 (.tmp 171)), some (159, true)⟩,
               ⟨some 173, (.move (.tmp 12)), some (159, true)⟩,
               ⟨some 174, (.indexAddr 32 (.tmp 172) (.tmp 173)), some (159, true)⟩,
               ⟨some 175, (.load 3 (.tmp 174)), some (159, true)⟩,
               ⟨some 176, (.binOp .gtr 3 (.tmp 168) (.tmp 175) 3), some (159, true)⟩,
               ⟨some 177, (.pick (.tmp 159) (.tmp 176) (.const (.bool false))), none⟩])
             (.cond (.tmp 177)
              (.seq (.reg [⟨some 10, (.assign (.const (.bool false))), none⟩])
               .ret)
              .skip))
            (.seq (.reg [⟨some 178, (.call { callee := (.value (.func 12)), args := #[], argTypes := #[] }), none⟩,
               ⟨some 10, (.assign (.tmp 178)), none⟩])
             .ret)))))))))))))
theorem k7 : FOK Try.prog 7 179 c7 [10] := ⟨⟨Try.f7, _, by kernel_rfl, by kernel_rfl, rfl, by kernel_rfl, rfl, by kernel_rfl, by decide⟩⟩

/-- timesync.timesynclaw51.DiffconDecides -/
def c8 : SC :=
  (.seq (.reg [⟨some 6, (.assign (.const (.bool false))), none⟩])
 (.seq (.seq (.reg [⟨some 12, (.move (.tmp 1)), none⟩,
     ⟨some 13, (.call { callee := (.value (.func 11)), args := #[(.tmp 12)], argTypes := #[22] }), none⟩,
     ⟨some 14, (.move (.tmp 13)), none⟩,
     ⟨some 15, (.move (.tmp 0)), some (14, false)⟩,
     ⟨some 16, (.move (.tmp 1)), some (14, false)⟩,
     ⟨some 17, (.call { callee := (.value (.func 15)), args := #[(.tmp 15), (.tmp 16)], argTypes := #[3, 22] }), some (14, false)⟩,
     ⟨some 18, (.binOp .neq 26 (.tmp 17) (.const (.int .i64 0)) 26), some (14, false)⟩,
     ⟨some 19, (.pick (.tmp 14) (.const (.bool true)) (.tmp 18)), none⟩])
   (.cond (.tmp 19)
    (.seq (.reg [⟨some 20, (.call { callee := (.value (.func 12)), args := #[], argTypes := #[] }), none⟩,
       ⟨some 6, (.assign (.tmp 20)), none⟩])
     .ret)
    .skip))
  (.seq (.reg [⟨some 22, (.move (.tmp 0)), none⟩,
     ⟨some 23, (.move (.tmp 1)), none⟩,
     ⟨some 24, (.call { callee := (.value (.func 18)), args := #[(.tmp 22), (.tmp 23)], argTypes := #[3, 22] }), none⟩,
     ⟨some 21, (.move (.tmp 24)), none⟩,
     ⟨some 25, (.extract (.tmp 21) 0), none⟩,
     ⟨some 26, (.extract (.tmp 21) 1), none⟩,
     ⟨some 7, (.assign (.tmp 25)), none⟩,
     ⟨some 8, (.assign (.tmp 26)), none⟩])
   (.seq (.reg [⟨some 28, (.move (.tmp 0)), none⟩,
      ⟨some 29, (.move (.tmp 1)), none⟩,
      ⟨some 30, (.call { callee := (.value (.func 26)), args := #[(.tmp 28), (.tmp 29)], argTypes := #[3, 22] }), none⟩,
      ⟨some 27, (.move (.tmp 30)), none⟩,
      ⟨some 31, (.extract (.tmp 27) 0), none⟩,
      ⟨some 32, (.extract (.tmp 27) 1), none⟩,
      ⟨some 9, (.assign (.tmp 31)), none⟩,
      ⟨some 10, (.assign (.tmp 32)), none⟩])
    (.seq (.seq (.reg [⟨some 33, (.move (.tmp 8)), none⟩,
        ⟨some 34, (.binOp .neq 26 (.tmp 33) (.const (.int .i64 0)) 26), none⟩])
      (.cond (.tmp 34)
       (.seq (.reg [⟨some 35, (.move (.tmp 8)), none⟩,
          ⟨some 36, (.binOp .eql 26 (.tmp 35) (.const (.int .i64 20)) 26), none⟩,
          ⟨some 37, (.move (.tmp 36)), none⟩,
          ⟨some 38, (.move (.tmp 7)), some (37, true)⟩,
          ⟨some 39, (.call { callee := (.builtin .len), args := #[(.tmp 38)], argTypes := #[32] }), some (37, true)⟩,
          ⟨some 40, (.binOp .eql 3 (.tmp 39) (.const (.int .i64 0)) 3), some (37, true)⟩,
          ⟨some 41, (.pick (.tmp 37) (.tmp 40) (.const (.bool false))), none⟩,
          ⟨some 42, (.move (.tmp 41)), none⟩,
          ⟨some 43, (.move (.tmp 10)), some (42, true)⟩,
          ⟨some 44, (.pick (.tmp 42) (.tmp 43) (.const (.bool false))), none⟩,
          ⟨some 45, (.move (.tmp 44)), none⟩,
          ⟨some 46, (.move (.tmp 1)), some (45, true)⟩,
          ⟨some 47, (.move (.tmp 9)), some (45, true)⟩,
          ⟨some 48, (.call { callee := (.value (.func 27)), args := #[(.tmp 46), (.tmp 47)], argTypes := #[22, 32] }), some (45, true)⟩,
          ⟨some 49, (.pick (.tmp 45) (.tmp 48) (.const (.bool false))), none⟩,
          ⟨some 50, (.move (.tmp 49)), none⟩,
          ⟨some 51, (.call { callee := (.value (.func 12)), args := #[], argTypes := #[] }), some (50, true)⟩,
          ⟨some 52, (.pick (.tmp 50) (.tmp 51) (.const (.bool false))), none⟩,
          ⟨some 6, (.assign (.tmp 52)), none⟩])
        .ret)
       .skip))
     (.seq (.seq (.reg [⟨some 53, (.move (.tmp 10)), none⟩,
         ⟨some 54, (.move (.tmp 53)), none⟩,
         ⟨some 55, (.move (.tmp 9)), some (54, false)⟩,
         ⟨some 56, (.call { callee := (.builtin .len), args := #[(.tmp 55)], argTypes := #[32] }), some (54, false)⟩,
         ⟨some 57, (.binOp .neq 3 (.tmp 56) (.const (.int .i64 0)) 3), some (54, false)⟩,
         ⟨some 58, (.pick (.tmp 54) (.const (.bool true)) (.tmp 57)), none⟩,
         ⟨some 59, (.move (.tmp 58)), none⟩,
         ⟨some 60, (.move (.tmp 7)), some (59, false)⟩,
         ⟨some 61, (.call { callee := (.builtin .len), args := #[(.tmp 60)], argTypes := #[32] }), some (59, false)⟩,
         ⟨some 62, (.move (.tmp 0)), some (59, false)⟩,
         ⟨some 63, (.binOp .neq 3 (.tmp 61) (.tmp 62) 3), some (59, false)⟩,
         ⟨some 64, (.pick (.tmp 59) (.const (.bool true)) (.tmp 63)), none⟩,
         ⟨some 65, (.move (.tmp 64)), none⟩,
         ⟨some 66, (.move (.tmp 1)), some (65, false)⟩,
         ⟨some 67, (.move (.tmp 7)), some (65, false)⟩,
         ⟨some 68, (.call { callee := (.value (.func 23)), args := #[(.tmp 66), (.tmp 67)], argTypes := #[22, 32] }), some (65, false)⟩,
         ⟨some 69, (.unOp .not 4 (.tmp 68)), some (65, false)⟩,
         ⟨some 70, (.pick (.tmp 65) (.const (.bool true)) (.tmp 69)), none⟩,
         ⟨some 71, (.move (.tmp 70)), none⟩,
         ⟨some 72, (.move (.tmp 7)), some (71, false)⟩,
         ⟨some 73, (.call { callee := (.value (.func 28)), args := #[(.tmp 72)], argTypes := #[32] }), some (71, false)⟩,
         ⟨some 74, (.binOp .gtr 3 (.tmp 73) (.const (.int .i64 0)) 3), some (71, false)⟩,
         ⟨some 75, (.pick (.tmp 71) (.const (.bool true)) (.tmp 74)), none⟩])
       (.cond (.tmp 75)
        (.seq (.reg [⟨some 6, (.assign (.const (.bool false))), none⟩])
         .ret)
        .skip))
      (.seq (.seq (.reg [⟨some 76, (.move (.tmp 2)), none⟩,
          ⟨some 77, (.call { callee := (.builtin .len), args := #[(.tmp 76)], argTypes := #[32] }), none⟩,
          ⟨some 78, (.move (.tmp 0)), none⟩,
          ⟨some 79, (.binOp .neq 3 (.tmp 77) (.tmp 78) 3), none⟩,
          ⟨some 80, (.move (.tmp 79)), none⟩,
          ⟨some 81, (.move (.tmp 2)), some (80, false)⟩,
          ⟨some 82, (.call { callee := (.value (.func 28)), args := #[(.tmp 81)], argTypes := #[32] }), some (80, false)⟩,
          ⟨some 83, (.binOp .gtr 3 (.tmp 82) (.const (.int .i64 0)) 3), some (80, false)⟩,
          ⟨some 84, (.pick (.tmp 80) (.const (.bool true)) (.tmp 83)), none⟩,
          ⟨some 85, (.move (.tmp 84)), none⟩,
          ⟨some 86, (.move (.tmp 1)), some (85, false)⟩,
          ⟨some 87, (.move (.tmp 2)), some (85, false)⟩,
          ⟨some 88, (.call { callee := (.value (.func 23)), args := #[(.tmp 86), (.tmp 87)], argTypes := #[22, 32] }), some (85, false)⟩,
          ⟨some 89, (.unOp .not 4 (.tmp 88)), some (85, false)⟩,
          ⟨some 90, (.pick (.tmp 85) (.const (.bool true)) (.tmp 89)), none⟩])
        (.cond (.tmp 90)
         (.seq (.reg [⟨some 91, (.call { callee := (.value (.func 12)), args := #[], argTypes := #[] }), none⟩,
            ⟨some 6, (.assign (.tmp 91)), none⟩])
          .ret)
         .skip))
       (.seq (.seq (.reg [⟨some 92, (.move (.tmp 7)), none⟩,
           ⟨some 93, (.call { callee := (.builtin .len), args := #[(.tmp 92)], argTypes := #[32] }), none⟩,
           ⟨some 94, (.move (.const (.int .i64 0))), none⟩])
         (.block 0
          (.loop
           (.seq (.reg [⟨some 95, (.binOp .lss 3 (.tmp 94) (.tmp 93) 3), none⟩])
            (.seq (.cond (.tmp 95)
              .skip
              (.exit 0))
             (.seq (.block 1
               (.seq (.reg [⟨some 96, (.move (.tmp 94)), none⟩,
                  ⟨some 11, (.assign (.tmp 96)), none⟩])
                (.seq (.regq [⟨some 97, (.move (.tmp 2)), none⟩,
                   ⟨some 98, (.move (.tmp 11)), none⟩,
                   ⟨some 99, (.indexAddr 32 (.tmp 97) (.tmp 98)), none⟩,
                   ⟨some 100, (.load 3 (.tmp 99)), none⟩,
                   ⟨some 101, (.move (.tmp 7)), none⟩,
                   ⟨some 102, (.move (.tmp 11)), none⟩,
                   ⟨some 103, (.indexAddr 32 (.tmp 101) (.tmp 102)), none⟩,
                   ⟨some 104, (.load 3 (.tmp 103)), none⟩,
                   ⟨some 105, (.binOp .gtr 3 (.tmp 100) (.tmp 104) 3), none⟩])
                 (.cond (.tmp 105)
                  (.seq (.reg [⟨some 6, (.assign (.const (.bool false))), none⟩])
                   .ret)
                  .skip))))
              (.reg [⟨some 106, (.binOp .add 3 (.tmp 94) (.const (.int .i64 1)) 3), none⟩,
                ⟨some 94, (.move (.tmp 106)), none⟩])))))))
        (.seq (.reg [⟨some 107, (.call { callee := (.value (.func 12)), args := #[], argTypes := #[] }), none⟩,
           ⟨some 6, (.assign (.tmp 107)), none⟩])
         .ret)))))))))
theorem k8 : FOK Try.prog 8 108 c8 [6] := ⟨⟨Try.f8, _, by kernel_rfl, by kernel_rfl, rfl, by kernel_rfl, rfl, by kernel_rfl, by decide⟩⟩

/-- timesync.timesynclaw51.DiffconAdds -/
def c9 : SC :=
  (.seq (.reg [⟨some 3, (.box 40 (.tmp 1)), none⟩,
   ⟨some 4, (.assign (.const (.bool false))), none⟩])
 (.seq (.seq (.reg [⟨some 11, (.move (.tmp 0)), none⟩,
     ⟨some 12, (.call { callee := (.builtin .len), args := #[(.tmp 11)], argTypes := #[25] }), none⟩,
     ⟨some 13, (.binOp .gtr 3 (.tmp 12) (.const (.int .i64 200)) 3), none⟩])
   (.cond (.tmp 13)
    (.seq (.reg [⟨some 14, (.call { callee := (.value (.func 12)), args := #[], argTypes := #[] }), none⟩,
       ⟨some 4, (.assign (.tmp 14)), none⟩])
     .ret)
    .skip))
  (.seq (.seq (.reg [⟨some 15, (.move (.tmp 0)), none⟩,
      ⟨some 16, (.call { callee := (.builtin .len), args := #[(.tmp 15)], argTypes := #[25] }), none⟩,
      ⟨some 17, (.move (.const (.int .i64 0))), none⟩])
    (.block 0
     (.loop
      (.seq (.reg [⟨some 18, (.binOp .lss 3 (.tmp 17) (.tmp 16) 3), none⟩])
       (.seq (.cond (.tmp 18)
         .skip
         (.exit 0))
        (.seq (.block 1
          (.seq (.reg [⟨some 19, (.indexAddr 25 (.tmp 15) (.tmp 17)), none⟩,
             ⟨some 20, (.load 32 (.tmp 19)), none⟩,
             ⟨some 6, (.assign (.tmp 20)), none⟩])
           (.seq (.reg [⟨some 21, (.move (.tmp 6)), none⟩,
              ⟨some 22, (.call { callee := (.builtin .len), args := #[(.tmp 21)], argTypes := #[32] }), none⟩,
              ⟨some 23, (.binOp .gtr 3 (.tmp 22) (.const (.int .i64 200)) 3), none⟩])
            (.cond (.tmp 23)
             (.seq (.reg [⟨some 24, (.call { callee := (.value (.func 12)), args := #[], argTypes := #[] }), none⟩,
                ⟨some 4, (.assign (.tmp 24)), none⟩])
              .ret)
             .skip))))
         (.reg [⟨some 25, (.binOp .add 3 (.tmp 17) (.const (.int .i64 1)) 3), none⟩,
           ⟨some 17, (.move (.tmp 25)), none⟩])))))))
   (.seq (.reg [⟨some 27, (.move (.tmp 0)), none⟩,
      ⟨some 28, (.load 40 (.tmp 3)), none⟩,
      ⟨some 29, (.call { callee := (.value (.func 29)), args := #[(.tmp 27), (.tmp 28)], argTypes := #[25, 40] }), none⟩,
      ⟨some 26, (.move (.tmp 29)), none⟩,
      ⟨some 30, (.extract (.tmp 26) 0), none⟩,
      ⟨some 31, (.extract (.tmp 26) 1), none⟩,
      ⟨some 7, (.assign (.tmp 30)), none⟩,
      ⟨some 8, (.assign (.tmp 31)), none⟩])
    (.seq (.reg [⟨some 33, (.move (.tmp 0)), none⟩,
       ⟨some 34, (.load 40 (.tmp 3)), none⟩,
       ⟨some 35, (.call { callee := (.value (.func 30)), args := #[(.tmp 33), (.tmp 34)], argTypes := #[25, 40] }), none⟩,
       ⟨some 32, (.move (.tmp 35)), none⟩,
       ⟨some 36, (.extract (.tmp 32) 0), none⟩,
       ⟨some 37, (.extract (.tmp 32) 1), none⟩,
       ⟨some 9, (.assign (.tmp 36)), none⟩,
       ⟨some 10, (.assign (.tmp 37)), none⟩])
     (.seq (.reg [⟨some 38, (.move (.tmp 7)), none⟩,
        ⟨some 39, (.move (.tmp 9)), none⟩,
        ⟨some 40, (.call { callee := (.value (.func 17)), args := #[(.tmp 38), (.tmp 39)], argTypes := #[25, 25] }), none⟩,
        ⟨some 41, (.move (.tmp 40)), none⟩,
        ⟨some 42, (.move (.tmp 8)), some (41, true)⟩,
        ⟨some 43, (.move (.tmp 10)), some (41, true)⟩,
        ⟨some 44, (.binOp .eql 26 (.tmp 42) (.tmp 43) 26), some (41, true)⟩,
        ⟨some 45, (.pick (.tmp 41) (.tmp 44) (.const (.bool false))), none⟩,
        ⟨some 46, (.move (.tmp 45)), none⟩,
        ⟨some 47, (.call { callee := (.value (.func 12)), args := #[], argTypes := #[] }), some (46, true)⟩,
        ⟨some 48, (.pick (.tmp 46) (.tmp 47) (.const (.bool false))), none⟩,
        ⟨some 4, (.assign (.tmp 48)), none⟩])
      .ret))))))
theorem k9 : FOK Try.prog 9 49 c9 [4] := ⟨⟨Try.f9, _, by kernel_rfl, by kernel_rfl, rfl, by kernel_rfl, rfl, by kernel_rfl, by decide⟩⟩

/-- timesync.timesynclaw51.DiffconGrows -/
def c10 : SC :=
  (.seq (.reg [⟨some 5, (.box 40 (.tmp 2)), none⟩,
   ⟨some 6, (.assign (.const (.bool false))), none⟩])
 (.seq (.rega (.take ⟨some 20, (.move (.tmp 1)), none⟩
 (.both (.step ⟨some 21, (.call { callee := (.value (.func 31)), args := #[(.tmp 20)], argTypes := #[22] }), none⟩
 (.step ⟨some 22, (.load 40 (.tmp 5)), none⟩
 (.step ⟨some 23, (.buildSlice 22 1 #[(0, (.tmp 22))]), none⟩
 (.step ⟨some 24, (.call { callee := (.builtin .append), args := #[(.tmp 21), (.tmp 23)], argTypes := #[22, 22] }), none⟩
 (.take ⟨some 7, (.assign (.tmp 24)), none⟩
 .done)))))
 (.step ⟨some 22, (.load 40 (.tmp 5)), none⟩
 (.both (.step ⟨some 21, (.call { callee := (.value (.func 31)), args := #[(.tmp 20)], argTypes := #[22] }), none⟩
 (.step ⟨some 23, (.buildSlice 22 1 #[(0, (.tmp 22))]), none⟩
 (.step ⟨some 24, (.call { callee := (.builtin .append), args := #[(.tmp 21), (.tmp 23)], argTypes := #[22, 22] }), none⟩
 (.take ⟨some 7, (.assign (.tmp 24)), none⟩
 .done))))
 (.step ⟨some 23, (.buildSlice 22 1 #[(0, (.tmp 22))]), none⟩
 (.step ⟨some 21, (.call { callee := (.value (.func 31)), args := #[(.tmp 20)], argTypes := #[22] }), none⟩
 (.step ⟨some 24, (.call { callee := (.builtin .append), args := #[(.tmp 21), (.tmp 23)], argTypes := #[22, 22] }), none⟩
 (.take ⟨some 7, (.assign (.tmp 24)), none⟩
 .done)))))))))
  (.seq (.seq (.reg [⟨some 25, (.move (.tmp 1)), none⟩,
      ⟨some 26, (.call { callee := (.builtin .len), args := #[(.tmp 25)], argTypes := #[22] }), none⟩,
      ⟨some 27, (.binOp .geq 3 (.tmp 26) (.const (.int .i64 4096)) 3), none⟩,
      ⟨some 28, (.move (.tmp 27)), none⟩,
      ⟨some 29, (.move (.tmp 0)), some (28, false)⟩,
      ⟨some 30, (.move (.tmp 7)), some (28, false)⟩,
      ⟨some 31, (.call { callee := (.value (.func 15)), args := #[(.tmp 29), (.tmp 30)], argTypes := #[3, 22] }), some (28, false)⟩,
      ⟨some 32, (.binOp .neq 26 (.tmp 31) (.const (.int .i64 0)) 26), some (28, false)⟩,
      ⟨some 33, (.pick (.tmp 28) (.const (.bool true)) (.tmp 32)), none⟩])
    (.cond (.tmp 33)
     (.seq (.reg [⟨some 34, (.call { callee := (.value (.func 12)), args := #[], argTypes := #[] }), none⟩,
        ⟨some 6, (.assign (.tmp 34)), none⟩])
      .ret)
     .skip))
   (.seq (.reg [⟨some 36, (.move (.tmp 0)), none⟩,
      ⟨some 37, (.move (.tmp 1)), none⟩,
      ⟨some 38, (.call { callee := (.value (.func 13)), args := #[(.tmp 36), (.tmp 37)], argTypes := #[3, 22] }), none⟩,
      ⟨some 35, (.move (.tmp 38)), none⟩,
      ⟨some 39, (.extract (.tmp 35) 0), none⟩,
      ⟨some 40, (.extract (.tmp 35) 1), none⟩,
      ⟨some 8, (.assign (.tmp 39)), none⟩,
      ⟨some 9, (.assign (.tmp 40)), none⟩])
    (.seq (.reg [⟨some 42, (.move (.tmp 0)), none⟩,
       ⟨some 43, (.move (.tmp 7)), none⟩,
       ⟨some 44, (.call { callee := (.value (.func 13)), args := #[(.tmp 42), (.tmp 43)], argTypes := #[3, 22] }), none⟩,
       ⟨some 41, (.move (.tmp 44)), none⟩,
       ⟨some 45, (.extract (.tmp 41) 0), none⟩,
       ⟨some 46, (.extract (.tmp 41) 1), none⟩,
       ⟨some 10, (.assign (.tmp 45)), none⟩,
       ⟨some 11, (.assign (.tmp 46)), none⟩])
     (.seq (.seq (.reg [⟨some 47, (.move (.tmp 9)), none⟩,
         ⟨some 48, (.binOp .neq 26 (.tmp 47) (.const (.int .i64 0)) 26), none⟩])
       (.cond (.tmp 48)
        (.seq (.reg [⟨some 49, (.move (.tmp 9)), none⟩,
           ⟨some 50, (.binOp .eql 26 (.tmp 49) (.const (.int .i64 20)) 26), none⟩,
           ⟨some 51, (.move (.tmp 50)), none⟩,
           ⟨some 52, (.move (.tmp 11)), some (51, true)⟩,
           ⟨some 53, (.binOp .eql 26 (.tmp 52) (.const (.int .i64 20)) 26), some (51, true)⟩,
           ⟨some 54, (.pick (.tmp 51) (.tmp 53) (.const (.bool false))), none⟩,
           ⟨some 55, (.move (.tmp 54)), none⟩,
           ⟨some 56, (.call { callee := (.value (.func 12)), args := #[], argTypes := #[] }), some (55, true)⟩,
           ⟨some 57, (.pick (.tmp 55) (.tmp 56) (.const (.bool false))), none⟩,
           ⟨some 6, (.assign (.tmp 57)), none⟩])
         .ret)
        .skip))
      (.seq (.reg [⟨some 12, (.assign (.const (.slice none 0 0))), none⟩])
       (.seq (.seq (.reg [⟨some 58, (.move (.tmp 8)), none⟩,
           ⟨some 59, (.call { callee := (.builtin .len), args := #[(.tmp 58)], argTypes := #[25] }), none⟩,
           ⟨some 60, (.move (.const (.int .i64 0))), none⟩])
         (.block 0
          (.loop
           (.seq (.reg [⟨some 61, (.binOp .lss 3 (.tmp 60) (.tmp 59) 3), none⟩])
            (.seq (.cond (.tmp 61)
              .skip
              (.exit 0))
             (.seq (.block 1
               (.seq (.reg [⟨some 62, (.indexAddr 25 (.tmp 58) (.tmp 60)), none⟩,
                  ⟨some 63, (.load 32 (.tmp 62)), none⟩,
                  ⟨some 14, (.assign (.tmp 63)), none⟩])
                (.reg [⟨some 64, (.move (.tmp 12)), none⟩,
                  ⟨some 65, (.move (.tmp 14)), none⟩,
                  ⟨some 66, (.call { callee := (.value (.func 25)), args := #[(.tmp 65)], argTypes := #[32] }), none⟩,
                  ⟨some 67, (.buildSlice 25 1 #[(0, (.tmp 66))]), none⟩,
                  ⟨some 68, (.call { callee := (.builtin .append), args := #[(.tmp 64), (.tmp 67)], argTypes := #[25, 25] }), none⟩,
                  ⟨some 12, (.assign (.tmp 68)), none⟩])))
              (.reg [⟨some 69, (.binOp .add 3 (.tmp 60) (.const (.int .i64 1)) 3), none⟩,
                ⟨some 60, (.move (.tmp 69)), none⟩])))))))
        (.seq (.reg [⟨some 71, (.move (.tmp 8)), none⟩,
           ⟨some 72, (.load 40 (.tmp 5)), none⟩,
           ⟨some 73, (.call { callee := (.value (.func 29)), args := #[(.tmp 71), (.tmp 72)], argTypes := #[25, 40] }), none⟩,
           ⟨some 70, (.move (.tmp 73)), none⟩,
           ⟨some 74, (.extract (.tmp 70) 0), none⟩,
           ⟨some 75, (.extract (.tmp 70) 1), none⟩,
           ⟨some 15, (.assign (.tmp 74)), none⟩,
           ⟨some 16, (.assign (.tmp 75)), none⟩])
         (.seq (.seq (.reg [⟨some 76, (.move (.tmp 16)), none⟩,
             ⟨some 77, (.move (.tmp 11)), none⟩,
             ⟨some 78, (.binOp .neq 26 (.tmp 76) (.tmp 77) 26), none⟩,
             ⟨some 79, (.move (.tmp 78)), none⟩,
             ⟨some 80, (.move (.tmp 15)), some (79, false)⟩,
             ⟨some 81, (.move (.tmp 10)), some (79, false)⟩,
             ⟨some 82, (.call { callee := (.value (.func 17)), args := #[(.tmp 80), (.tmp 81)], argTypes := #[25, 25] }), some (79, false)⟩,
             ⟨some 83, (.unOp .not 4 (.tmp 82)), some (79, false)⟩,
             ⟨some 84, (.pick (.tmp 79) (.const (.bool true)) (.tmp 83)), none⟩,
             ⟨some 85, (.move (.tmp 84)), none⟩,
             ⟨some 86, (.move (.tmp 8)), some (85, false)⟩,
             ⟨some 87, (.move (.tmp 12)), some (85, false)⟩,
             ⟨some 88, (.call { callee := (.value (.func 17)), args := #[(.tmp 86), (.tmp 87)], argTypes := #[25, 25] }), some (85, false)⟩,
             ⟨some 89, (.unOp .not 4 (.tmp 88)), some (85, false)⟩,
             ⟨some 90, (.pick (.tmp 85) (.const (.bool true)) (.tmp 89)), none⟩])
           (.cond (.tmp 90)
            (.seq (.reg [⟨some 6, (.assign (.const (.bool false))), none⟩])
             .ret)
            .skip))
          (.seq (.seq (.reg [⟨some 91, (.move (.tmp 15)), none⟩,
              ⟨some 92, (.call { callee := (.builtin .len), args := #[(.tmp 91)], argTypes := #[25] }), none⟩,
              ⟨some 93, (.move (.const (.int .i64 0))), none⟩])
            (.block 2
             (.loop
              (.seq (.reg [⟨some 94, (.binOp .lss 3 (.tmp 93) (.tmp 92) 3), none⟩])
               (.seq (.cond (.tmp 94)
                 .skip
                 (.exit 2))
                (.seq (.block 3
                  (.seq (.reg [⟨some 95, (.indexAddr 25 (.tmp 91) (.tmp 93)), none⟩,
                     ⟨some 96, (.load 32 (.tmp 95)), none⟩,
                     ⟨some 18, (.assign (.tmp 96)), none⟩])
                   (.seq (.reg [⟨some 97, (.move (.tmp 18)), none⟩,
                      ⟨some 98, (.call { callee := (.builtin .len), args := #[(.tmp 97)], argTypes := #[32] }), none⟩,
                      ⟨some 99, (.move (.const (.int .i64 0))), none⟩])
                    (.block 4
                     (.loop
                      (.seq (.reg [⟨some 100, (.binOp .lss 3 (.tmp 99) (.tmp 98) 3), none⟩])
                       (.seq (.cond (.tmp 100)
                         .skip
                         (.exit 4))
                        (.seq (.block 5
                          (.seq (.reg [⟨some 101, (.move (.tmp 99)), none⟩,
                             ⟨some 19, (.assign (.tmp 101)), none⟩])
                           (.reg [⟨some 102, (.move (.tmp 18)), none⟩,
                             ⟨some 103, (.move (.tmp 19)), none⟩,
                             ⟨some 104, (.indexAddr 32 (.tmp 102) (.tmp 103)), none⟩,
                             ⟨some 105, (.load 3 (.tmp 104)), none⟩,
                             ⟨some 106, (.binOp .add 3 (.tmp 105) (.const (.int .i64 1)) 3), none⟩,
                             ⟨some 107, (.indexAddr 32 (.tmp 102) (.tmp 103)), none⟩,
                             ⟨none, (.store 3 (.tmp 107) (.tmp 106)), none⟩])))
                         (.reg [⟨some 108, (.binOp .add 3 (.tmp 99) (.const (.int .i64 1)) 3), none⟩,
                           ⟨some 99, (.move (.tmp 108)), none⟩])))))))))
                 (.reg [⟨some 109, (.binOp .add 3 (.tmp 93) (.const (.int .i64 1)) 3), none⟩,
                   ⟨some 93, (.move (.tmp 109)), none⟩])))))))
           (.seq (.reg [⟨some 110, (.move (.tmp 8)), none⟩,
              ⟨some 111, (.move (.tmp 12)), none⟩,
              ⟨some 112, (.call { callee := (.value (.func 17)), args := #[(.tmp 110), (.tmp 111)], argTypes := #[25, 25] }), none⟩,
              ⟨some 113, (.move (.tmp 112)), none⟩,
              ⟨some 114, (.call { callee := (.value (.func 12)), args := #[], argTypes := #[] }), some (113, true)⟩,
              ⟨some 115, (.pick (.tmp 113) (.tmp 114) (.const (.bool false))), none⟩,
              ⟨some 6, (.assign (.tmp 115)), none⟩])
            .ret))))))))))))
theorem k10 : FOK Try.prog 10 116 c10 [6] := ⟨⟨Try.f10, _, by kernel_rfl, by kernel_rfl, rfl, by kernel_rfl, rfl, by kernel_rfl, by decide⟩⟩

/-- timesync.timesynclaw51.long -/
def c11 : SC :=
  (.seq (.reg [⟨some 2, (.assign (.const (.bool false))), none⟩])
 (.seq (.reg [⟨some 3, (.move (.tmp 0)), none⟩,
    ⟨some 4, (.call { callee := (.builtin .len), args := #[(.tmp 3)], argTypes := #[22] }), none⟩,
    ⟨some 5, (.binOp .gtr 3 (.tmp 4) (.const (.int .i64 4100)) 3), none⟩,
    ⟨some 2, (.assign (.tmp 5)), none⟩])
  .ret))
theorem k11 : FOK Try.prog 11 6 c11 [2] := ⟨⟨Try.f11, _, by kernel_rfl, by kernel_rfl, rfl, by kernel_rfl, rfl, by kernel_rfl, by decide⟩⟩

/-- timesync.timesynclaw51.awake -/
def c12 : SC :=
  (.seq (.reg [⟨some 0, (.assign (.const (.bool false))), none⟩])
 (.seq (.reg [⟨some 11, (.build 40 #[(0, (.const (.int .i64 0))), (1, (.const (.int .i64 1))), (2, (.const (.int .i64 5)))]), none⟩,
    ⟨some 12, (.build 40 #[(0, (.const (.int .i64 1))), (1, (.const (.int .i64 2))), (2, (.const (.int .i64 (-2))))]), none⟩,
    ⟨some 13, (.buildSlice 22 2 #[(0, (.tmp 11)), (1, (.tmp 12))]), none⟩,
    ⟨some 1, (.assign (.tmp 13)), none⟩])
  (.seq (.reg [⟨some 15, (.move (.tmp 1)), none⟩,
     ⟨some 16, (.call { callee := (.value (.func 13)), args := #[(.const (.int .i64 3)), (.tmp 15)], argTypes := #[3, 22] }), none⟩,
     ⟨some 14, (.move (.tmp 16)), none⟩,
     ⟨some 17, (.extract (.tmp 14) 0), none⟩,
     ⟨some 18, (.extract (.tmp 14) 1), none⟩,
     ⟨some 2, (.assign (.tmp 17)), none⟩,
     ⟨some 3, (.assign (.tmp 18)), none⟩])
   (.seq (.reg [⟨some 20, (.move (.tmp 1)), none⟩,
      ⟨some 21, (.call { callee := (.value (.func 18)), args := #[(.const (.int .i64 3)), (.tmp 20)], argTypes := #[3, 22] }), none⟩,
      ⟨some 19, (.move (.tmp 21)), none⟩,
      ⟨some 22, (.extract (.tmp 19) 0), none⟩,
      ⟨some 23, (.extract (.tmp 19) 1), none⟩,
      ⟨some 4, (.assign (.tmp 22)), none⟩,
      ⟨some 5, (.assign (.tmp 23)), none⟩])
    (.seq (.reg [⟨some 25, (.move (.tmp 1)), none⟩,
       ⟨some 26, (.call { callee := (.value (.func 20)), args := #[(.const (.int .i64 3)), (.tmp 25), (.const (.int .i64 1)), (.const (.int .i64 2))], argTypes := #[3, 22, 3, 3] }), none⟩,
       ⟨some 24, (.move (.tmp 26)), none⟩,
       ⟨some 27, (.extract (.tmp 24) 0), none⟩,
       ⟨some 28, (.extract (.tmp 24) 1), none⟩,
       ⟨some 6, (.assign (.tmp 27)), none⟩,
       ⟨some 7, (.assign (.tmp 28)), none⟩])
     (.seq (.reg [⟨some 30, (.build 40 #[(0, (.const (.int .i64 0))), (1, (.const (.int .i64 1))), (2, (.const (.int .i64 1)))]), none⟩,
        ⟨some 31, (.build 40 #[(0, (.const (.int .i64 1))), (1, (.const (.int .i64 0))), (2, (.const (.int .i64 (-2))))]), none⟩,
        ⟨some 32, (.buildSlice 22 2 #[(0, (.tmp 30)), (1, (.tmp 31))]), none⟩,
        ⟨some 33, (.call { callee := (.value (.func 26)), args := #[(.const (.int .i64 2)), (.tmp 32)], argTypes := #[3, 22] }), none⟩,
        ⟨some 29, (.move (.tmp 33)), none⟩,
        ⟨some 34, (.extract (.tmp 29) 0), none⟩,
        ⟨some 35, (.extract (.tmp 29) 1), none⟩,
        ⟨some 8, (.assign (.tmp 34)), none⟩,
        ⟨some 9, (.assign (.tmp 35)), none⟩])
      (.seq (.reg [⟨some 36, (.buildSlice 32 3 #[(0, (.const (.int .i64 0))), (1, (.const (.int .i64 5))), (2, (.const (.int .i64 3)))]), none⟩,
         ⟨some 37, (.buildSlice 32 3 #[(0, (.const (.int .i64 4611686018427387904))), (1, (.const (.int .i64 0))), (2, (.const (.int .i64 (-2))))]), none⟩,
         ⟨some 38, (.buildSlice 32 3 #[(0, (.const (.int .i64 4611686018427387904))), (1, (.const (.int .i64 4611686018427387904))), (2, (.const (.int .i64 0)))]), none⟩,
         ⟨some 39, (.buildSlice 25 3 #[(0, (.tmp 36)), (1, (.tmp 37)), (2, (.tmp 38))]), none⟩,
         ⟨some 10, (.assign (.tmp 39)), none⟩])
       (.seq (.rega (.take ⟨some 40, (.move (.tmp 3)), none⟩
 (.take ⟨some 41, (.binOp .eql 26 (.tmp 40) (.const (.int .i64 0)) 26), none⟩
 (.take ⟨some 42, (.move (.tmp 41)), none⟩
 (.take ⟨some 43, (.move (.tmp 2)), some (42, true)⟩
 (.take ⟨some 44, (.move (.tmp 10)), some (42, true)⟩
 (.step ⟨some 45, (.call { callee := (.value (.func 17)), args := #[(.tmp 43), (.tmp 44)], argTypes := #[25, 25] }), some (42, true)⟩
 (.take ⟨some 46, (.pick (.tmp 42) (.tmp 45) (.const (.bool false))), none⟩
 (.take ⟨some 47, (.move (.tmp 46)), none⟩
 (.take ⟨some 48, (.move (.tmp 4)), some (47, true)⟩
 (.step ⟨some 49, (.buildSlice 32 3 #[(0, (.const (.int .i64 0))), (1, (.const (.int .i64 0))), (2, (.const (.int .i64 (-2))))]), some (47, true)⟩
 (.step ⟨some 50, (.call { callee := (.value (.func 22)), args := #[(.tmp 48), (.tmp 49)], argTypes := #[32, 32] }), some (47, true)⟩
 (.take ⟨some 51, (.pick (.tmp 47) (.tmp 50) (.const (.bool false))), none⟩
 (.take ⟨some 52, (.move (.tmp 51)), none⟩
 (.take ⟨some 53, (.move (.tmp 5)), some (52, true)⟩
 (.take ⟨some 54, (.binOp .eql 26 (.tmp 53) (.const (.int .i64 0)) 26), some (52, true)⟩
 (.take ⟨some 55, (.pick (.tmp 52) (.tmp 54) (.const (.bool false))), none⟩
 (.take ⟨some 56, (.move (.tmp 55)), none⟩
 (.take ⟨some 57, (.move (.tmp 6)), some (56, true)⟩
 (.step ⟨some 58, (.buildSlice 32 3 #[(0, (.const (.int .i64 0))), (1, (.const (.int .i64 0))), (2, (.const (.int .i64 (-2))))]), some (56, true)⟩
 (.step ⟨some 59, (.call { callee := (.value (.func 22)), args := #[(.tmp 57), (.tmp 58)], argTypes := #[32, 32] }), some (56, true)⟩
 (.take ⟨some 60, (.pick (.tmp 56) (.tmp 59) (.const (.bool false))), none⟩
 (.take ⟨some 61, (.move (.tmp 60)), none⟩
 (.take ⟨some 62, (.move (.tmp 7)), some (61, true)⟩
 (.take ⟨some 63, (.binOp .eql 26 (.tmp 62) (.const (.int .i64 0)) 26), some (61, true)⟩
 (.take ⟨some 64, (.pick (.tmp 61) (.tmp 63) (.const (.bool false))), none⟩
 (.take ⟨some 65, (.move (.tmp 64)), none⟩
 (.take ⟨some 66, (.move (.tmp 9)), some (65, true)⟩
 (.take ⟨some 67, (.pick (.tmp 65) (.tmp 66) (.const (.bool false))), none⟩
 (.take ⟨some 68, (.move (.tmp 67)), none⟩
 (.take ⟨some 69, (.move (.tmp 8)), some (68, true)⟩
 (.take ⟨some 70, (.call { callee := (.builtin .len), args := #[(.tmp 69)], argTypes := #[32] }), some (68, true)⟩
 (.take ⟨some 71, (.binOp .eql 3 (.tmp 70) (.const (.int .i64 2)) 3), some (68, true)⟩
 (.take ⟨some 72, (.pick (.tmp 68) (.tmp 71) (.const (.bool false))), none⟩
 (.take ⟨some 73, (.move (.tmp 72)), none⟩
 (.take ⟨some 74, (.move (.tmp 8)), some (73, true)⟩
 (.take ⟨some 75, (.indexAddr 32 (.tmp 74) (.const (.int .i64 0))), some (73, true)⟩
 (.take ⟨some 77, (.move (.tmp 8)), some (73, true)⟩
 (.take ⟨some 78, (.indexAddr 32 (.tmp 77) (.const (.int .i64 1))), some (73, true)⟩
 (.both (.step ⟨some 76, (.load 3 (.tmp 75)), some (73, true)⟩
 (.step ⟨some 79, (.load 3 (.tmp 78)), some (73, true)⟩
 (.take ⟨some 80, (.binOp .add 3 (.tmp 76) (.tmp 79) 3), some (73, true)⟩
 (.take ⟨some 81, (.binOp .eql 3 (.tmp 80) (.const (.int .i64 1)) 3), some (73, true)⟩
 (.take ⟨some 82, (.pick (.tmp 73) (.tmp 81) (.const (.bool false))), none⟩
 (.take ⟨some 83, (.move (.tmp 82)), none⟩
 (.take ⟨some 84, (.move (.tmp 1)), some (83, true)⟩
 (.take ⟨some 85, (.move (.tmp 4)), some (83, true)⟩
 (.step ⟨some 86, (.call { callee := (.value (.func 23)), args := #[(.tmp 84), (.tmp 85)], argTypes := #[22, 32] }), some (83, true)⟩
 (.take ⟨some 87, (.pick (.tmp 83) (.tmp 86) (.const (.bool false))), none⟩
 (.take ⟨some 88, (.move (.tmp 87)), none⟩
 (.take ⟨some 89, (.move (.tmp 1)), some (88, true)⟩
 (.step ⟨some 90, (.call { callee := (.value (.func 23)), args := #[(.tmp 89), (.const (.slice none 0 0))], argTypes := #[22, 32] }), some (88, true)⟩
 (.take ⟨some 91, (.unOp .not 4 (.tmp 90)), some (88, true)⟩
 (.take ⟨some 92, (.pick (.tmp 88) (.tmp 91) (.const (.bool false))), none⟩
 (.take ⟨some 0, (.assign (.tmp 92)), none⟩
 .done))))))))))))))))
 (.step ⟨some 79, (.load 3 (.tmp 78)), some (73, true)⟩
 (.step ⟨some 76, (.load 3 (.tmp 75)), some (73, true)⟩
 (.take ⟨some 80, (.binOp .add 3 (.tmp 76) (.tmp 79) 3), some (73, true)⟩
 (.take ⟨some 81, (.binOp .eql 3 (.tmp 80) (.const (.int .i64 1)) 3), some (73, true)⟩
 (.take ⟨some 82, (.pick (.tmp 73) (.tmp 81) (.const (.bool false))), none⟩
 (.take ⟨some 83, (.move (.tmp 82)), none⟩
 (.take ⟨some 84, (.move (.tmp 1)), some (83, true)⟩
 (.take ⟨some 85, (.move (.tmp 4)), some (83, true)⟩
 (.step ⟨some 86, (.call { callee := (.value (.func 23)), args := #[(.tmp 84), (.tmp 85)], argTypes := #[22, 32] }), some (83, true)⟩
 (.take ⟨some 87, (.pick (.tmp 83) (.tmp 86) (.const (.bool false))), none⟩
 (.take ⟨some 88, (.move (.tmp 87)), none⟩
 (.take ⟨some 89, (.move (.tmp 1)), some (88, true)⟩
 (.step ⟨some 90, (.call { callee := (.value (.func 23)), args := #[(.tmp 89), (.const (.slice none 0 0))], argTypes := #[22, 32] }), some (88, true)⟩
 (.take ⟨some 91, (.unOp .not 4 (.tmp 90)), some (88, true)⟩
 (.take ⟨some 92, (.pick (.tmp 88) (.tmp 91) (.const (.bool false))), none⟩
 (.take ⟨some 0, (.assign (.tmp 92)), none⟩
 .done))))))))))))))))))))))))))))))))))))))))))))))))))))))))
        .ret))))))))
theorem k12 : FOK Try.prog 12 93 c12 [0] := ⟨⟨Try.f12, _, by kernel_rfl, by kernel_rfl, rfl, by kernel_rfl, rfl, by kernel_rfl, by decide⟩⟩

/-- timesync.diffcon.Bounds -/
def c13 : SC :=
  (.seq (.reg [⟨some 4, (.assign (.const (.slice none 0 0))), none⟩,
   ⟨some 5, (.assign (.const (.int .i64 0))), none⟩])
 (.seq (.seq (.reg [⟨some 11, (.move (.tmp 0)), none⟩,
     ⟨some 12, (.move (.tmp 1)), none⟩,
     ⟨some 13, (.call { callee := (.value (.func 15)), args := #[(.tmp 11), (.tmp 12)], argTypes := #[3, 22] }), none⟩,
     ⟨some 6, (.assign (.tmp 13)), none⟩])
   (.seq (.reg [⟨some 14, (.move (.tmp 6)), none⟩,
      ⟨some 15, (.binOp .neq 26 (.tmp 14) (.const (.int .i64 0)) 26), none⟩])
    (.cond (.tmp 15)
     (.seq (.reg [⟨some 16, (.move (.tmp 6)), none⟩,
        ⟨some 4, (.assign (.const (.slice none 0 0))), none⟩,
        ⟨some 5, (.assign (.tmp 16)), none⟩])
      .ret)
     .skip)))
  (.seq (.seq (.reg [⟨some 18, (.move (.tmp 0)), none⟩,
      ⟨some 19, (.move (.tmp 1)), none⟩,
      ⟨some 20, (.call { callee := (.value (.func 32)), args := #[(.tmp 18), (.tmp 19)], argTypes := #[3, 22] }), none⟩,
      ⟨some 17, (.move (.tmp 20)), none⟩,
      ⟨some 21, (.extract (.tmp 17) 0), none⟩,
      ⟨some 22, (.extract (.tmp 17) 1), none⟩,
      ⟨some 7, (.assign (.tmp 21)), none⟩,
      ⟨some 8, (.assign (.tmp 22)), none⟩])
    (.seq (.reg [⟨some 23, (.move (.tmp 8)), none⟩,
       ⟨some 24, (.unOp .not 4 (.tmp 23)), none⟩])
     (.cond (.tmp 24)
      (.seq (.reg [⟨some 4, (.assign (.const (.slice none 0 0))), none⟩,
         ⟨some 5, (.assign (.const (.int .i64 20))), none⟩])
       .ret)
      .skip)))
   (.seq (.reg [⟨some 9, (.assign (.const (.slice none 0 0))), none⟩])
    (.seq (.seq (.reg [⟨some 25, (.move (.tmp 0)), none⟩,
        ⟨some 26, (.move (.const (.int .i64 0))), none⟩])
      (.block 0
       (.loop
        (.seq (.reg [⟨some 27, (.binOp .lss 3 (.tmp 26) (.tmp 25) 3), none⟩])
         (.seq (.cond (.tmp 27)
           .skip
           (.exit 0))
          (.seq (.block 1
            (.seq (.reg [⟨some 28, (.move (.tmp 26)), none⟩,
               ⟨some 10, (.assign (.tmp 28)), none⟩])
             (.reg [⟨some 29, (.move (.tmp 9)), none⟩,
               ⟨some 30, (.move (.tmp 0)), none⟩,
               ⟨some 31, (.move (.tmp 1)), none⟩,
               ⟨some 32, (.move (.tmp 10)), none⟩,
               ⟨some 33, (.call { callee := (.value (.func 33)), args := #[(.tmp 30), (.tmp 31), (.tmp 32)], argTypes := #[3, 22, 3] }), none⟩,
               ⟨some 34, (.buildSlice 25 1 #[(0, (.tmp 33))]), none⟩,
               ⟨some 35, (.call { callee := (.builtin .append), args := #[(.tmp 29), (.tmp 34)], argTypes := #[25, 25] }), none⟩,
               ⟨some 9, (.assign (.tmp 35)), none⟩])))
           (.reg [⟨some 36, (.binOp .add 3 (.tmp 26) (.const (.int .i64 1)) 3), none⟩,
             ⟨some 26, (.move (.tmp 36)), none⟩])))))))
     (.seq (.reg [⟨some 37, (.move (.tmp 9)), none⟩,
        ⟨some 4, (.assign (.tmp 37)), none⟩,
        ⟨some 5, (.assign (.const (.int .i64 0))), none⟩])
      .ret))))))
theorem k13 : FOK Try.prog 13 38 c13 [4, 5] := ⟨⟨Try.f13, _, by kernel_rfl, by kernel_rfl, rfl, by kernel_rfl, rfl, by kernel_rfl, by decide⟩⟩

/-- timesync.timesyncref51.Bounds -/
def c14 : SC :=
  (.seq (.reg [⟨some 4, (.assign (.const (.slice none 0 0))), none⟩,
   ⟨some 5, (.assign (.const (.int .i64 0))), none⟩])
 (.seq (.reg [⟨some 17, (.move (.tmp 0)), none⟩,
    ⟨some 18, (.move (.tmp 1)), none⟩,
    ⟨some 19, (.call { callee := (.value (.func 19)), args := #[(.tmp 17), (.tmp 18)], argTypes := #[3, 22] }), none⟩,
    ⟨some 16, (.move (.tmp 19)), none⟩,
    ⟨some 20, (.extract (.tmp 16) 0), none⟩,
    ⟨some 21, (.extract (.tmp 16) 1), none⟩,
    ⟨some 6, (.assign (.tmp 20)), none⟩,
    ⟨some 7, (.assign (.tmp 21)), none⟩])
  (.seq (.seq (.reg [⟨some 22, (.move (.tmp 7)), none⟩,
      ⟨some 23, (.binOp .neq 26 (.tmp 22) (.const (.int .i64 0)) 26), none⟩])
    (.cond (.tmp 23)
     (.seq (.reg [⟨some 24, (.move (.tmp 7)), none⟩,
        ⟨some 4, (.assign (.const (.slice none 0 0))), none⟩,
        ⟨some 5, (.assign (.tmp 24)), none⟩])
      .ret)
     .skip))
   (.seq (.reg [⟨some 25, (.move (.tmp 0)), none⟩,
      ⟨some 26, (.makeSlice 25 (.tmp 25) (.tmp 25)), none⟩,
      ⟨some 8, (.assign (.tmp 26)), none⟩])
    (.seq (.seq (.reg [⟨some 9, (.assign (.const (.int .i64 0))), none⟩])
      (.block 0
       (.loop
        (.seq (.seq (.reg [⟨some 27, (.move (.tmp 9)), none⟩,
            ⟨some 28, (.move (.tmp 0)), none⟩,
            ⟨some 29, (.binOp .lss 3 (.tmp 27) (.tmp 28) 3), none⟩])
          (.cond (.tmp 29)
           .skip
           (.exit 0)))
         (.seq (.block 1
           (.seq (.reg [⟨some 32, (.move (.tmp 8)), none⟩,
              ⟨some 33, (.move (.tmp 9)), none⟩,
              ⟨some 34, (.move (.tmp 0)), none⟩,
              ⟨some 35, (.makeSlice 32 (.tmp 34) (.tmp 34)), none⟩,
              ⟨some 36, (.indexAddr 25 (.tmp 32) (.tmp 33)), none⟩,
              ⟨none, (.store 32 (.tmp 36) (.tmp 35)), none⟩])
            (.seq (.seq (.reg [⟨some 10, (.assign (.const (.int .i64 0))), none⟩])
              (.block 2
               (.loop
                (.seq (.seq (.reg [⟨some 37, (.move (.tmp 10)), none⟩,
                    ⟨some 38, (.move (.tmp 0)), none⟩,
                    ⟨some 39, (.binOp .lss 3 (.tmp 37) (.tmp 38) 3), none⟩])
                  (.cond (.tmp 39)
                   .skip
                   (.exit 2)))
                 (.seq (.block 3
                   (.reg [⟨some 42, (.move (.tmp 8)), none⟩,
                     ⟨some 43, (.move (.tmp 9)), none⟩,
                     ⟨some 44, (.indexAddr 25 (.tmp 42) (.tmp 43)), none⟩,
                     ⟨some 45, (.load 32 (.tmp 44)), none⟩,
                     ⟨some 46, (.move (.tmp 10)), none⟩,
                     ⟨some 47, (.indexAddr 32 (.tmp 45) (.tmp 46)), none⟩,
                     ⟨none, (.store 3 (.tmp 47) (.const (.int .i64 4611686018427387904))), none⟩]))
                  (.reg [⟨some 40, (.move (.tmp 10)), none⟩,
                    ⟨some 41, (.binOp .add 3 (.tmp 40) (.const (.int .i64 1)) 3), none⟩,
                    ⟨some 10, (.assign (.tmp 41)), none⟩]))))))
             (.reg [⟨some 48, (.move (.tmp 8)), none⟩,
               ⟨some 49, (.move (.tmp 9)), none⟩,
               ⟨some 50, (.indexAddr 25 (.tmp 48) (.tmp 49)), none⟩,
               ⟨some 51, (.load 32 (.tmp 50)), none⟩,
               ⟨some 52, (.move (.tmp 9)), none⟩,
               ⟨some 53, (.indexAddr 32 (.tmp 51) (.tmp 52)), none⟩,
               ⟨none, (.store 3 (.tmp 53) (.const (.int .i64 0))), none⟩]))))
          (.reg [⟨some 30, (.move (.tmp 9)), none⟩,
            ⟨some 31, (.binOp .add 3 (.tmp 30) (.const (.int .i64 1)) 3), none⟩,
            ⟨some 9, (.assign (.tmp 31)), none⟩]))))))
     (.seq (.seq (.reg [⟨some 11, (.assign (.const (.int .i64 0))), none⟩])
       (.block 4
        (.loop
         (.seq (.seq (.reg [⟨some 54, (.move (.tmp 11)), none⟩,
             ⟨some 55, (.move (.tmp 1)), none⟩,
             ⟨some 56, (.call { callee := (.builtin .len), args := #[(.tmp 55)], argTypes := #[22] }), none⟩,
             ⟨some 57, (.binOp .lss 3 (.tmp 54) (.tmp 56) 3), none⟩])
           (.cond (.tmp 57)
            .skip
            (.exit 4)))
          (.seq (.block 5
            (.seq (.reg [⟨some 60, (.move (.tmp 1)), none⟩,
               ⟨some 61, (.move (.tmp 11)), none⟩,
               ⟨some 62, (.indexAddr 22 (.tmp 60) (.tmp 61)), none⟩,
               ⟨some 63, (.load 40 (.tmp 62)), none⟩,
               ⟨some 12, (.alloc 40), none⟩,
               ⟨none, (.store 40 (.tmp 12) (.tmp 63)), none⟩])
             (.seq (.regq [⟨some 64, (.fieldAddr 40 (.tmp 12) 2), none⟩,
                ⟨some 65, (.load 3 (.tmp 64)), none⟩,
                ⟨some 66, (.move (.tmp 8)), none⟩,
                ⟨some 67, (.fieldAddr 40 (.tmp 12) 0), none⟩,
                ⟨some 68, (.load 3 (.tmp 67)), none⟩,
                ⟨some 69, (.indexAddr 25 (.tmp 66) (.tmp 68)), none⟩,
                ⟨some 70, (.load 32 (.tmp 69)), none⟩,
                ⟨some 71, (.fieldAddr 40 (.tmp 12) 1), none⟩,
                ⟨some 72, (.load 3 (.tmp 71)), none⟩,
                ⟨some 73, (.indexAddr 32 (.tmp 70) (.tmp 72)), none⟩,
                ⟨some 74, (.load 3 (.tmp 73)), none⟩,
                ⟨some 75, (.binOp .lss 3 (.tmp 65) (.tmp 74) 3), none⟩])
              (.cond (.tmp 75)
               (.regs [⟨some 76, (.move (.tmp 8)), none⟩,
                 ⟨some 77, (.fieldAddr 40 (.tmp 12) 0), none⟩,
                 ⟨some 78, (.load 3 (.tmp 77)), none⟩,
                 ⟨some 79, (.indexAddr 25 (.tmp 76) (.tmp 78)), none⟩,
                 ⟨some 80, (.load 32 (.tmp 79)), none⟩,
                 ⟨some 81, (.fieldAddr 40 (.tmp 12) 1), none⟩,
                 ⟨some 82, (.load 3 (.tmp 81)), none⟩,
                 ⟨some 83, (.fieldAddr 40 (.tmp 12) 2), none⟩,
                 ⟨some 84, (.load 3 (.tmp 83)), none⟩,
                 ⟨some 85, (.indexAddr 32 (.tmp 80) (.tmp 82)), none⟩] [⟨none, (.store 3 (.tmp 85) (.tmp 84)), none⟩])
               .skip))))
           (.reg [⟨some 58, (.move (.tmp 11)), none⟩,
             ⟨some 59, (.binOp .add 3 (.tmp 58) (.const (.int .i64 1)) 3), none⟩,
             ⟨some 11, (.assign (.tmp 59)), none⟩]))))))
      (.seq (.seq (.reg [⟨some 13, (.assign (.const (.int .i64 0))), none⟩])
        (.block 6
         (.loop
          (.seq (.seq (.reg [⟨some 86, (.move (.tmp 13)), none⟩,
              ⟨some 87, (.move (.tmp 0)), none⟩,
              ⟨some 88, (.binOp .lss 3 (.tmp 86) (.tmp 87) 3), none⟩])
            (.cond (.tmp 88)
             .skip
             (.exit 6)))
           (.seq (.block 7
             (.seq (.reg [⟨some 14, (.assign (.const (.int .i64 0))), none⟩])
              (.block 8
               (.loop
                (.seq (.seq (.reg [⟨some 91, (.move (.tmp 14)), none⟩,
                    ⟨some 92, (.move (.tmp 0)), none⟩,
                    ⟨some 93, (.binOp .lss 3 (.tmp 91) (.tmp 92) 3), none⟩])
                  (.cond (.tmp 93)
                   .skip
                   (.exit 8)))
                 (.seq (.block 9
                   (.seq (.reg [⟨some 15, (.assign (.const (.int .i64 0))), none⟩])
                    (.block 10
                     (.loop
                      (.seq (.seq (.reg [⟨some 96, (.move (.tmp 15)), none⟩,
                          ⟨some 97, (.move (.tmp 0)), none⟩,
                          ⟨some 98, (.binOp .lss 3 (.tmp 96) (.tmp 97) 3), none⟩])
                        (.cond (.tmp 98)
                         .skip
                         (.exit 10)))
                       (.seq (.block 11
                         (.seq (.regq [⟨some 101, (.move (.tmp 8)), none⟩,
                            ⟨some 102, (.move (.tmp 14)), none⟩,
                            ⟨some 103, (.indexAddr 25 (.tmp 101) (.tmp 102)), none⟩,
                            ⟨some 104, (.load 32 (.tmp 103)), none⟩,
                            ⟨some 105, (.move (.tmp 13)), none⟩,
                            ⟨some 106, (.indexAddr 32 (.tmp 104) (.tmp 105)), none⟩,
                            ⟨some 107, (.load 3 (.tmp 106)), none⟩,
                            ⟨some 108, (.binOp .neq 3 (.tmp 107) (.const (.int .i64 4611686018427387904)) 3), none⟩,
                            ⟨some 109, (.move (.tmp 108)), none⟩,
                            ⟨some 110, (.move (.tmp 8)), some (109, true)⟩,
                            ⟨some 111, (.move (.tmp 13)), some (109, true)⟩,
                            ⟨some 112, (.indexAddr 25 (.tmp 110) (.tmp 111)), some (109, true)⟩,
                            ⟨some 113, (.load 32 (.tmp 112)), some (109, true)⟩,
                            ⟨some 114, (.move (.tmp 15)), some (109, true)⟩,
                            ⟨some 115, (.indexAddr 32 (.tmp 113) (.tmp 114)), some (109, true)⟩,
                            ⟨some 116, (.load 3 (.tmp 115)), some (109, true)⟩,
                            ⟨some 117, (.binOp .neq 3 (.tmp 116) (.const (.int .i64 4611686018427387904)) 3), some (109, true)⟩,
                            ⟨some 118, (.pick (.tmp 109) (.tmp 117) (.const (.bool false))), none⟩,
                            ⟨some 119, (.move (.tmp 118)), none⟩,
                            ⟨some 120, (.move (.tmp 8)), some (119, true)⟩,
                            ⟨some 121, (.move (.tmp 14)), some (119, true)⟩,
                            ⟨some 122, (.indexAddr 25 (.tmp 120) (.tmp 121)), some (119, true)⟩,
                            ⟨some 123, (.load 32 (.tmp 122)), some (119, true)⟩,
                            ⟨some 124, (.move (.tmp 13)), some (119, true)⟩,
                            ⟨some 125, (.indexAddr 32 (.tmp 123) (.tmp 124)), some (119, true)⟩,
                            ⟨some 126, (.load 3 (.tmp 125)), some (119, true)⟩,
                            ⟨some 127, (.move (.tmp 8)), some (119, true)⟩,
                            ⟨some 128, (.move (.tmp 13)), some (119, true)⟩,
                            ⟨some 129, (.indexAddr 25 (.tmp 127) (.tmp 128)), some (119, true)⟩,
                            ⟨some 130, (.load 32 (.tmp 129)), some (119, true)⟩,
                            ⟨some 131, (.move (.tmp 15)), some (119, true)⟩,
                            ⟨some 132, (.indexAddr 32 (.tmp 130) (.tmp 131)), some (119, true)⟩,
                            ⟨some 133, (.load 3 (.tmp 132)), some (119, true)⟩,
                            ⟨some 134, (.binOp .add 3 (.tmp 126) (.tmp 133) 3), some (119, true)⟩,
                            ⟨some 135, (.move (.tmp 8)), some (119, true)⟩,
                            ⟨some 136, (.move (.tmp 14)), some (119, true)⟩,
                            ⟨some 137, (.indexAddr 25 (.tmp 135) (.tmp 136)), some (119, true)⟩,
                            ⟨some 138, (.load 32 (.tmp 137)), some (119, true)⟩,
                            ⟨some 139, (.move (.tmp 15)), some (119, true)⟩,
                            ⟨some 140, (.indexAddr 32 (.tmp 138) (.tmp 139)), some (119, true)⟩,
                            ⟨some 141, (.load 3 (.tmp 140)), some (119, true)⟩,
                            ⟨some 142, (.binOp .lss 3 (.tmp 134) (.tmp 141) 3), some (119, true)⟩,
                            ⟨some 143, (.pick (.tmp 119) (.tmp 142) (.const (.bool false))), none⟩])
                          (.cond (.tmp 143)
                           (.regs [⟨some 144, (.move (.tmp 8)), none⟩,
                             ⟨some 145, (.move (.tmp 14)), none⟩,
                             ⟨some 146, (.indexAddr 25 (.tmp 144) (.tmp 145)), none⟩,
                             ⟨some 147, (.load 32 (.tmp 146)), none⟩,
                             ⟨some 148, (.move (.tmp 15)), none⟩,
                             ⟨some 149, (.move (.tmp 8)), none⟩,
                             ⟨some 150, (.move (.tmp 14)), none⟩,
                             ⟨some 151, (.indexAddr 25 (.tmp 149) (.tmp 150)), none⟩,
                             ⟨some 152, (.load 32 (.tmp 151)), none⟩,
                             ⟨some 153, (.move (.tmp 13)), none⟩,
                             ⟨some 154, (.indexAddr 32 (.tmp 152) (.tmp 153)), none⟩,
                             ⟨some 155, (.load 3 (.tmp 154)), none⟩,
                             ⟨some 156, (.move (.tmp 8)), none⟩,
                             ⟨some 157, (.move (.tmp 13)), none⟩,
                             ⟨some 158, (.indexAddr 25 (.tmp 156) (.tmp 157)), none⟩,
                             ⟨some 159, (.load 32 (.tmp 158)), none⟩,
                             ⟨some 160, (.move (.tmp 15)), none⟩,
                             ⟨some 161, (.indexAddr 32 (.tmp 159) (.tmp 160)), none⟩,
                             ⟨some 162, (.load 3 (.tmp 161)), none⟩,
                             ⟨some 163, (.binOp .add 3 (.tmp 155) (.tmp 162) 3), none⟩,
                             ⟨some 164, (.indexAddr 32 (.tmp 147) (.tmp 148)), none⟩] [⟨none, (.store 3 (.tmp 164) (.tmp 163)), none⟩])
                           .skip)))
                        (.reg [⟨some 99, (.move (.tmp 15)), none⟩,
                          ⟨some 100, (.binOp .add 3 (.tmp 99) (.const (.int .i64 1)) 3), none⟩,
                          ⟨some 15, (.assign (.tmp 100)), none⟩])))))))
                  (.reg [⟨some 94, (.move (.tmp 14)), none⟩,
                    ⟨some 95, (.binOp .add 3 (.tmp 94) (.const (.int .i64 1)) 3), none⟩,
                    ⟨some 14, (.assign (.tmp 95)), none⟩])))))))
            (.reg [⟨some 89, (.move (.tmp 13)), none⟩,
              ⟨some 90, (.binOp .add 3 (.tmp 89) (.const (.int .i64 1)) 3), none⟩,
              ⟨some 13, (.assign (.tmp 90)), none⟩]))))))
       (.seq (.reg [⟨some 165, (.move (.tmp 8)), none⟩,
          ⟨some 4, (.assign (.tmp 165)), none⟩,
          ⟨some 5, (.assign (.const (.int .i64 0))), none⟩])
        .ret))))))))
theorem k14 : FOK Try.prog 14 166 c14 [4, 5] := ⟨⟨Try.f14, _, by kernel_rfl, by kernel_rfl, rfl, by kernel_rfl, rfl, by kernel_rfl, by decide⟩⟩

/-- timesync.diffcon.Check -/
def c15 : SC :=
  (.seq (.reg [⟨some 4, (.assign (.const (.int .i64 0))), none⟩])
 (.seq (.seq (.reg [⟨some 7, (.move (.tmp 0)), none⟩,
     ⟨some 8, (.call { callee := (.value (.func 34)), args := #[(.tmp 7), (.const (.int .i64 1)), (.const (.int .i64 160))], argTypes := #[3, 3, 3] }), none⟩,
     ⟨some 9, (.unOp .not 4 (.tmp 8)), none⟩])
   (.cond (.tmp 9)
    (.seq (.reg [⟨some 4, (.assign (.const (.int .i64 3))), none⟩])
     .ret)
    .skip))
  (.seq (.seq (.reg [⟨some 10, (.move (.tmp 1)), none⟩,
      ⟨some 11, (.call { callee := (.builtin .len), args := #[(.tmp 10)], argTypes := #[22] }), none⟩,
      ⟨some 12, (.binOp .gtr 3 (.tmp 11) (.const (.int .i64 4096)) 3), none⟩])
    (.cond (.tmp 12)
     (.seq (.reg [⟨some 4, (.assign (.const (.int .i64 6))), none⟩])
      .ret)
     .skip))
   (.seq (.seq (.reg [⟨some 13, (.move (.tmp 1)), none⟩,
       ⟨some 14, (.call { callee := (.builtin .len), args := #[(.tmp 13)], argTypes := #[22] }), none⟩,
       ⟨some 15, (.move (.const (.int .i64 0))), none⟩])
     (.block 0
      (.loop
       (.seq (.reg [⟨some 16, (.binOp .lss 3 (.tmp 15) (.tmp 14) 3), none⟩])
        (.seq (.cond (.tmp 16)
          .skip
          (.exit 0))
         (.seq (.block 1
           (.seq (.reg [⟨some 17, (.indexAddr 22 (.tmp 13) (.tmp 15)), none⟩,
              ⟨some 18, (.load 40 (.tmp 17)), none⟩,
              ⟨some 6, (.alloc 40), none⟩,
              ⟨none, (.store 40 (.tmp 6) (.tmp 18)), none⟩])
            (.seq (.reg [⟨some 19, (.fieldAddr 40 (.tmp 6) 0), none⟩,
               ⟨some 20, (.load 3 (.tmp 19)), none⟩,
               ⟨some 21, (.move (.tmp 0)), none⟩,
               ⟨some 22, (.binOp .sub 3 (.tmp 21) (.const (.int .i64 1)) 3), none⟩,
               ⟨some 23, (.call { callee := (.value (.func 34)), args := #[(.tmp 20), (.const (.int .i64 0)), (.tmp 22)], argTypes := #[3, 3, 3] }), none⟩,
               ⟨some 24, (.unOp .not 4 (.tmp 23)), none⟩,
               ⟨some 25, (.move (.tmp 24)), none⟩,
               ⟨some 26, (.fieldAddr 40 (.tmp 6) 1), some (25, false)⟩,
               ⟨some 27, (.load 3 (.tmp 26)), some (25, false)⟩,
               ⟨some 28, (.move (.tmp 0)), some (25, false)⟩,
               ⟨some 29, (.binOp .sub 3 (.tmp 28) (.const (.int .i64 1)) 3), some (25, false)⟩,
               ⟨some 30, (.call { callee := (.value (.func 34)), args := #[(.tmp 27), (.const (.int .i64 0)), (.tmp 29)], argTypes := #[3, 3, 3] }), some (25, false)⟩,
               ⟨some 31, (.unOp .not 4 (.tmp 30)), some (25, false)⟩,
               ⟨some 32, (.pick (.tmp 25) (.const (.bool true)) (.tmp 31)), none⟩,
               ⟨some 33, (.move (.tmp 32)), none⟩,
               ⟨some 34, (.fieldAddr 40 (.tmp 6) 2), some (33, false)⟩,
               ⟨some 35, (.load 3 (.tmp 34)), some (33, false)⟩,
               ⟨some 36, (.call { callee := (.value (.func 34)), args := #[(.tmp 35), (.const (.int .i64 (-9007199254740992))), (.const (.int .i64 9007199254740992))], argTypes := #[3, 3, 3] }), some (33, false)⟩,
               ⟨some 37, (.unOp .not 4 (.tmp 36)), some (33, false)⟩,
               ⟨some 38, (.pick (.tmp 33) (.const (.bool true)) (.tmp 37)), none⟩])
             (.cond (.tmp 38)
              (.seq (.reg [⟨some 4, (.assign (.const (.int .i64 3))), none⟩])
               .ret)
              .skip))))
          (.reg [⟨some 39, (.binOp .add 3 (.tmp 15) (.const (.int .i64 1)) 3), none⟩,
            ⟨some 15, (.move (.tmp 39)), none⟩])))))))
    (.seq (.reg [⟨some 4, (.assign (.const (.int .i64 0))), none⟩])
     .ret)))))
theorem k15 : FOK Try.prog 15 40 c15 [4] := ⟨⟨Try.f15, _, by kernel_rfl, by kernel_rfl, rfl, by kernel_rfl, rfl, by kernel_rfl, by decide⟩⟩

/-- timesync.timesyncref51.Check -/
def c16 : SC :=
  (.seq (.reg [⟨some 4, (.assign (.const (.int .i64 0))), none⟩])
 (.seq (.seq (.reg [⟨some 6, (.move (.tmp 0)), none⟩,
     ⟨some 7, (.binOp .lss 3 (.tmp 6) (.const (.int .i64 1)) 3), none⟩,
     ⟨some 8, (.move (.tmp 7)), none⟩,
     ⟨some 9, (.move (.tmp 0)), some (8, false)⟩,
     ⟨some 10, (.binOp .gtr 3 (.tmp 9) (.const (.int .i64 160)) 3), some (8, false)⟩,
     ⟨some 11, (.pick (.tmp 8) (.const (.bool true)) (.tmp 10)), none⟩])
   (.cond (.tmp 11)
    (.seq (.reg [⟨some 4, (.assign (.const (.int .i64 3))), none⟩])
     .ret)
    .skip))
  (.seq (.seq (.reg [⟨some 12, (.move (.tmp 1)), none⟩,
      ⟨some 13, (.call { callee := (.builtin .len), args := #[(.tmp 12)], argTypes := #[22] }), none⟩,
      ⟨some 14, (.binOp .gtr 3 (.tmp 13) (.const (.int .i64 4096)) 3), none⟩])
    (.cond (.tmp 14)
     (.seq (.reg [⟨some 4, (.assign (.const (.int .i64 6))), none⟩])
      .ret)
     .skip))
   (.seq (.seq (.reg [⟨some 5, (.assign (.const (.int .i64 0))), none⟩])
     (.block 0
      (.loop
       (.seq (.seq (.reg [⟨some 15, (.move (.tmp 5)), none⟩,
           ⟨some 16, (.move (.tmp 1)), none⟩,
           ⟨some 17, (.call { callee := (.builtin .len), args := #[(.tmp 16)], argTypes := #[22] }), none⟩,
           ⟨some 18, (.binOp .lss 3 (.tmp 15) (.tmp 17) 3), none⟩])
         (.cond (.tmp 18)
          .skip
          (.exit 0)))
        (.seq (.block 1
          (.seq (.reg [⟨some 21, (.move (.tmp 0)), none⟩,
             ⟨some 22, (.move (.tmp 1)), none⟩,
             ⟨some 23, (.move (.tmp 5)), none⟩,
             ⟨some 24, (.indexAddr 22 (.tmp 22) (.tmp 23)), none⟩,
             ⟨some 25, (.load 40 (.tmp 24)), none⟩,
             ⟨some 26, (.call { callee := (.value (.func 35)), args := #[(.tmp 21), (.tmp 25)], argTypes := #[3, 40] }), none⟩,
             ⟨some 27, (.unOp .not 4 (.tmp 26)), none⟩])
           (.cond (.tmp 27)
            (.seq (.reg [⟨some 4, (.assign (.const (.int .i64 3))), none⟩])
             .ret)
            .skip)))
         (.reg [⟨some 19, (.move (.tmp 5)), none⟩,
           ⟨some 20, (.binOp .add 3 (.tmp 19) (.const (.int .i64 1)) 3), none⟩,
           ⟨some 5, (.assign (.tmp 20)), none⟩]))))))
    (.seq (.reg [⟨some 4, (.assign (.const (.int .i64 0))), none⟩])
     .ret)))))
theorem k16 : FOK Try.prog 16 28 c16 [4] := ⟨⟨Try.f16, _, by kernel_rfl, by kernel_rfl, rfl, by kernel_rfl, rfl, by kernel_rfl, by decide⟩⟩

/-- timesync.timesynclaw51.same -/
def c17 : SC :=
  (.seq (.reg [⟨some 4, (.assign (.const (.bool false))), none⟩])
 (.seq (.reg [⟨some 5, (.move (.tmp 0)), none⟩,
    ⟨some 6, (.move (.tmp 1)), none⟩,
    ⟨some 7, (.call { callee := (.value (.func 36)), args := #[(.tmp 5), (.tmp 6), (.func 22)], argTypes := #[25, 25, 36] }), none⟩,
    ⟨some 4, (.assign (.tmp 7)), none⟩])
  .ret))
theorem k17 : FOK Try.prog 17 8 c17 [4] := ⟨⟨Try.f17, _, by kernel_rfl, by kernel_rfl, rfl, by kernel_rfl, rfl, by kernel_rfl, by decide⟩⟩

/-- timesync.diffcon.Solve -/
def c18 : SC :=
  (.seq (.reg [⟨some 4, (.assign (.const (.slice none 0 0))), none⟩,
   ⟨some 5, (.assign (.const (.int .i64 0))), none⟩])
 (.seq (.seq (.reg [⟨some 9, (.move (.tmp 0)), none⟩,
     ⟨some 10, (.move (.tmp 1)), none⟩,
     ⟨some 11, (.call { callee := (.value (.func 15)), args := #[(.tmp 9), (.tmp 10)], argTypes := #[3, 22] }), none⟩,
     ⟨some 6, (.assign (.tmp 11)), none⟩])
   (.seq (.reg [⟨some 12, (.move (.tmp 6)), none⟩,
      ⟨some 13, (.binOp .neq 26 (.tmp 12) (.const (.int .i64 0)) 26), none⟩])
    (.cond (.tmp 13)
     (.seq (.reg [⟨some 14, (.move (.tmp 6)), none⟩,
        ⟨some 4, (.assign (.const (.slice none 0 0))), none⟩,
        ⟨some 5, (.assign (.tmp 14)), none⟩])
      .ret)
     .skip)))
  (.seq (.reg [⟨some 16, (.move (.tmp 0)), none⟩,
     ⟨some 17, (.move (.tmp 1)), none⟩,
     ⟨some 18, (.call { callee := (.value (.func 32)), args := #[(.tmp 16), (.tmp 17)], argTypes := #[3, 22] }), none⟩,
     ⟨some 15, (.move (.tmp 18)), none⟩,
     ⟨some 19, (.extract (.tmp 15) 0), none⟩,
     ⟨some 20, (.extract (.tmp 15) 1), none⟩,
     ⟨some 7, (.assign (.tmp 19)), none⟩,
     ⟨some 8, (.assign (.tmp 20)), none⟩])
   (.seq (.seq (.reg [⟨some 21, (.move (.tmp 8)), none⟩,
       ⟨some 22, (.unOp .not 4 (.tmp 21)), none⟩])
     (.cond (.tmp 22)
      (.seq (.reg [⟨some 4, (.assign (.const (.slice none 0 0))), none⟩,
         ⟨some 5, (.assign (.const (.int .i64 20))), none⟩])
       .ret)
      .skip))
    (.seq (.reg [⟨some 23, (.move (.tmp 7)), none⟩,
       ⟨some 4, (.assign (.tmp 23)), none⟩,
       ⟨some 5, (.assign (.const (.int .i64 0))), none⟩])
     .ret)))))
theorem k18 : FOK Try.prog 18 24 c18 [4, 5] := ⟨⟨Try.f18, _, by kernel_rfl, by kernel_rfl, rfl, by kernel_rfl, rfl, by kernel_rfl, by decide⟩⟩

/-- timesync.timesyncref51.Solve -/
def c19 : SC :=
  (.seq (.reg [⟨some 4, (.assign (.const (.slice none 0 0))), none⟩,
   ⟨some 5, (.assign (.const (.int .i64 0))), none⟩])
 (.seq (.reg [⟨some 13, (.move (.tmp 0)), none⟩,
    ⟨some 14, (.move (.tmp 1)), none⟩,
    ⟨some 15, (.call { callee := (.value (.func 16)), args := #[(.tmp 13), (.tmp 14)], argTypes := #[3, 22] }), none⟩,
    ⟨some 6, (.assign (.tmp 15)), none⟩])
  (.seq (.seq (.reg [⟨some 16, (.move (.tmp 6)), none⟩,
      ⟨some 17, (.binOp .neq 26 (.tmp 16) (.const (.int .i64 0)) 26), none⟩])
    (.cond (.tmp 17)
     (.seq (.reg [⟨some 18, (.move (.tmp 6)), none⟩,
        ⟨some 4, (.assign (.const (.slice none 0 0))), none⟩,
        ⟨some 5, (.assign (.tmp 18)), none⟩])
      .ret)
     .skip))
   (.seq (.reg [⟨some 19, (.move (.tmp 0)), none⟩,
      ⟨some 20, (.makeSlice 32 (.tmp 19) (.tmp 19)), none⟩,
      ⟨some 7, (.assign (.tmp 20)), none⟩])
    (.seq (.seq (.reg [⟨some 8, (.assign (.const (.int .i64 0))), none⟩])
      (.block 0
       (.loop
        (.seq (.seq (.reg [⟨some 21, (.move (.tmp 8)), none⟩,
            ⟨some 22, (.move (.tmp 0)), none⟩,
            ⟨some 23, (.binOp .leq 3 (.tmp 21) (.tmp 22) 3), none⟩])
          (.cond (.tmp 23)
           .skip
           (.exit 0)))
         (.seq (.block 1
           (.seq (.reg [⟨some 26, (.buildSlice 32 0 #[]), none⟩,
              ⟨some 27, (.move (.tmp 7)), none⟩,
              ⟨some 28, (.call { callee := (.builtin .append), args := #[(.tmp 26), (.tmp 27)], argTypes := #[32, 32] }), none⟩,
              ⟨some 9, (.assign (.tmp 28)), none⟩])
            (.seq (.reg [⟨some 10, (.assign (.const (.bool false))), none⟩])
             (.seq (.seq (.reg [⟨some 11, (.assign (.const (.int .i64 0))), none⟩])
               (.block 2
                (.loop
                 (.seq (.seq (.reg [⟨some 29, (.move (.tmp 11)), none⟩,
                     ⟨some 30, (.move (.tmp 1)), none⟩,
                     ⟨some 31, (.call { callee := (.builtin .len), args := #[(.tmp 30)], argTypes := #[22] }), none⟩,
                     ⟨some 32, (.binOp .lss 3 (.tmp 29) (.tmp 31) 3), none⟩])
                   (.cond (.tmp 32)
                    .skip
                    (.exit 2)))
                  (.seq (.block 3
                    (.seq (.reg [⟨some 35, (.move (.tmp 1)), none⟩,
                       ⟨some 36, (.move (.tmp 11)), none⟩,
                       ⟨some 37, (.indexAddr 22 (.tmp 35) (.tmp 36)), none⟩,
                       ⟨some 38, (.load 40 (.tmp 37)), none⟩,
                       ⟨some 12, (.alloc 40), none⟩,
                       ⟨none, (.store 40 (.tmp 12) (.tmp 38)), none⟩])
                     (.seq (.regq [⟨some 39, (.move (.tmp 7)), none⟩,
                        ⟨some 40, (.fieldAddr 40 (.tmp 12) 0), none⟩,
                        ⟨some 41, (.load 3 (.tmp 40)), none⟩,
                        ⟨some 42, (.indexAddr 32 (.tmp 39) (.tmp 41)), none⟩,
                        ⟨some 43, (.load 3 (.tmp 42)), none⟩,
                        ⟨some 44, (.fieldAddr 40 (.tmp 12) 2), none⟩,
                        ⟨some 45, (.load 3 (.tmp 44)), none⟩,
                        ⟨some 46, (.binOp .add 3 (.tmp 43) (.tmp 45) 3), none⟩,
                        ⟨some 47, (.move (.tmp 9)), none⟩,
                        ⟨some 48, (.fieldAddr 40 (.tmp 12) 1), none⟩,
                        ⟨some 49, (.load 3 (.tmp 48)), none⟩,
                        ⟨some 50, (.indexAddr 32 (.tmp 47) (.tmp 49)), none⟩,
                        ⟨some 51, (.load 3 (.tmp 50)), none⟩,
                        ⟨some 52, (.binOp .lss 3 (.tmp 46) (.tmp 51) 3), none⟩])
                      (.cond (.tmp 52)
                       (.seq (.regs [⟨some 53, (.move (.tmp 9)), none⟩,
                          ⟨some 54, (.fieldAddr 40 (.tmp 12) 1), none⟩,
                          ⟨some 55, (.load 3 (.tmp 54)), none⟩,
                          ⟨some 56, (.move (.tmp 7)), none⟩,
                          ⟨some 57, (.fieldAddr 40 (.tmp 12) 0), none⟩,
                          ⟨some 58, (.load 3 (.tmp 57)), none⟩,
                          ⟨some 59, (.indexAddr 32 (.tmp 56) (.tmp 58)), none⟩,
                          ⟨some 60, (.load 3 (.tmp 59)), none⟩,
                          ⟨some 61, (.fieldAddr 40 (.tmp 12) 2), none⟩,
                          ⟨some 62, (.load 3 (.tmp 61)), none⟩,
                          ⟨some 63, (.binOp .add 3 (.tmp 60) (.tmp 62) 3), none⟩,
                          ⟨some 64, (.indexAddr 32 (.tmp 53) (.tmp 55)), none⟩] [⟨none, (.store 3 (.tmp 64) (.tmp 63)), none⟩])
                        (.reg [⟨some 10, (.assign (.const (.bool true))), none⟩]))
                       .skip))))
                   (.reg [⟨some 33, (.move (.tmp 11)), none⟩,
                     ⟨some 34, (.binOp .add 3 (.tmp 33) (.const (.int .i64 1)) 3), none⟩,
                     ⟨some 11, (.assign (.tmp 34)), none⟩]))))))
              (.seq (.seq (.reg [⟨some 65, (.move (.tmp 10)), none⟩,
                  ⟨some 66, (.unOp .not 4 (.tmp 65)), none⟩])
                (.cond (.tmp 66)
                 (.seq (.reg [⟨some 67, (.move (.tmp 7)), none⟩,
                    ⟨some 4, (.assign (.tmp 67)), none⟩,
                    ⟨some 5, (.assign (.const (.int .i64 0))), none⟩])
                  .ret)
                 .skip))
               (.reg [⟨some 68, (.move (.tmp 9)), none⟩,
                 ⟨some 7, (.assign (.tmp 68)), none⟩]))))))
          (.reg [⟨some 24, (.move (.tmp 8)), none⟩,
            ⟨some 25, (.binOp .add 3 (.tmp 24) (.const (.int .i64 1)) 3), none⟩,
            ⟨some 8, (.assign (.tmp 25)), none⟩]))))))
     (.seq (.reg [⟨some 4, (.assign (.const (.slice none 0 0))), none⟩,
        ⟨some 5, (.assign (.const (.int .i64 20))), none⟩])
      .ret))))))
theorem k19 : FOK Try.prog 19 69 c19 [4, 5] := ⟨⟨Try.f19, _, by kernel_rfl, by kernel_rfl, rfl, by kernel_rfl, rfl, by kernel_rfl, by decide⟩⟩

/-- timesync.diffcon.Tight -/
def c20 : SC :=
  (.seq (.reg [⟨some 8, (.assign (.const (.slice none 0 0))), none⟩,
   ⟨some 9, (.assign (.const (.int .i64 0))), none⟩])
 (.seq (.seq (.reg [⟨some 18, (.move (.tmp 0)), none⟩,
     ⟨some 19, (.move (.tmp 1)), none⟩,
     ⟨some 20, (.call { callee := (.value (.func 15)), args := #[(.tmp 18), (.tmp 19)], argTypes := #[3, 22] }), none⟩,
     ⟨some 10, (.assign (.tmp 20)), none⟩])
   (.seq (.reg [⟨some 21, (.move (.tmp 10)), none⟩,
      ⟨some 22, (.binOp .neq 26 (.tmp 21) (.const (.int .i64 0)) 26), none⟩])
    (.cond (.tmp 22)
     (.seq (.reg [⟨some 23, (.move (.tmp 10)), none⟩,
        ⟨some 8, (.assign (.const (.slice none 0 0))), none⟩,
        ⟨some 9, (.assign (.tmp 23)), none⟩])
      .ret)
     .skip)))
  (.seq (.seq (.reg [⟨some 24, (.move (.tmp 2)), none⟩,
      ⟨some 25, (.move (.tmp 0)), none⟩,
      ⟨some 26, (.binOp .sub 3 (.tmp 25) (.const (.int .i64 1)) 3), none⟩,
      ⟨some 27, (.call { callee := (.value (.func 34)), args := #[(.tmp 24), (.const (.int .i64 0)), (.tmp 26)], argTypes := #[3, 3, 3] }), none⟩,
      ⟨some 28, (.unOp .not 4 (.tmp 27)), none⟩,
      ⟨some 29, (.move (.tmp 28)), none⟩,
      ⟨some 30, (.move (.tmp 3)), some (29, false)⟩,
      ⟨some 31, (.move (.tmp 0)), some (29, false)⟩,
      ⟨some 32, (.binOp .sub 3 (.tmp 31) (.const (.int .i64 1)) 3), some (29, false)⟩,
      ⟨some 33, (.call { callee := (.value (.func 34)), args := #[(.tmp 30), (.const (.int .i64 0)), (.tmp 32)], argTypes := #[3, 3, 3] }), some (29, false)⟩,
      ⟨some 34, (.unOp .not 4 (.tmp 33)), some (29, false)⟩,
      ⟨some 35, (.pick (.tmp 29) (.const (.bool true)) (.tmp 34)), none⟩])
    (.cond (.tmp 35)
     (.seq (.reg [⟨some 8, (.assign (.const (.slice none 0 0))), none⟩,
        ⟨some 9, (.assign (.const (.int .i64 3))), none⟩])
      .ret)
     .skip))
   (.seq (.reg [⟨some 37, (.move (.tmp 0)), none⟩,
      ⟨some 38, (.move (.tmp 1)), none⟩,
      ⟨some 39, (.call { callee := (.value (.func 32)), args := #[(.tmp 37), (.tmp 38)], argTypes := #[3, 22] }), none⟩,
      ⟨some 36, (.move (.tmp 39)), none⟩,
      ⟨some 40, (.extract (.tmp 36) 0), none⟩,
      ⟨some 41, (.extract (.tmp 36) 1), none⟩,
      ⟨some 11, (.assign (.tmp 40)), none⟩,
      ⟨some 12, (.assign (.tmp 41)), none⟩])
    (.seq (.seq (.reg [⟨some 42, (.move (.tmp 12)), none⟩,
        ⟨some 43, (.unOp .not 4 (.tmp 42)), none⟩])
      (.cond (.tmp 43)
       (.seq (.reg [⟨some 8, (.assign (.const (.slice none 0 0))), none⟩,
          ⟨some 9, (.assign (.const (.int .i64 20))), none⟩])
        .ret)
       .skip))
     (.seq (.reg [⟨some 44, (.move (.tmp 0)), none⟩,
        ⟨some 45, (.move (.tmp 1)), none⟩,
        ⟨some 46, (.move (.tmp 2)), none⟩,
        ⟨some 47, (.call { callee := (.value (.func 33)), args := #[(.tmp 44), (.tmp 45), (.tmp 46)], argTypes := #[3, 22, 3] }), none⟩,
        ⟨some 13, (.assign (.tmp 47)), none⟩])
      (.seq (.seq (.reg [⟨some 48, (.move (.tmp 13)), none⟩,
          ⟨some 49, (.move (.tmp 3)), none⟩,
          ⟨some 50, (.indexAddr 32 (.tmp 48) (.tmp 49)), none⟩,
          ⟨some 51, (.load 3 (.tmp 50)), none⟩,
          ⟨some 52, (.binOp .eql 3 (.tmp 51) (.const (.int .i64 4611686018427387904)) 3), none⟩])
        (.cond (.tmp 52)
         (.seq (.reg [⟨some 8, (.assign (.const (.slice none 0 0))), none⟩,
            ⟨some 9, (.assign (.const (.int .i64 11))), none⟩])
          .ret)
         .skip))
       (.seq (.reg [⟨some 14, (.assign (.const (.int .i64 0))), none⟩])
        (.seq (.seq (.reg [⟨some 53, (.move (.tmp 1)), none⟩,
            ⟨some 54, (.call { callee := (.builtin .len), args := #[(.tmp 53)], argTypes := #[22] }), none⟩,
            ⟨some 55, (.move (.const (.int .i64 0))), none⟩])
          (.block 0
           (.loop
            (.seq (.reg [⟨some 56, (.binOp .lss 3 (.tmp 55) (.tmp 54) 3), none⟩])
             (.seq (.cond (.tmp 56)
               .skip
               (.exit 0))
              (.seq (.block 1
                (.seq (.reg [⟨some 57, (.indexAddr 22 (.tmp 53) (.tmp 55)), none⟩,
                   ⟨some 58, (.load 40 (.tmp 57)), none⟩,
                   ⟨some 16, (.alloc 40), none⟩,
                   ⟨none, (.store 40 (.tmp 16) (.tmp 58)), none⟩])
                 (.seq (.reg [⟨some 59, (.move (.tmp 13)), none⟩,
                    ⟨some 60, (.fieldAddr 40 (.tmp 16) 0), none⟩,
                    ⟨some 61, (.load 3 (.tmp 60)), none⟩,
                    ⟨some 62, (.indexAddr 32 (.tmp 59) (.tmp 61)), none⟩,
                    ⟨some 63, (.load 3 (.tmp 62)), none⟩,
                    ⟨some 64, (.binOp .eql 3 (.tmp 63) (.const (.int .i64 4611686018427387904)) 3), none⟩,
                    ⟨some 65, (.move (.tmp 64)), none⟩,
                    ⟨some 66, (.move (.tmp 13)), some (65, true)⟩,
                    ⟨some 67, (.fieldAddr 40 (.tmp 16) 1), some (65, true)⟩,
                    ⟨some 68, (.load 3 (.tmp 67)), some (65, true)⟩,
                    ⟨some 69, (.indexAddr 32 (.tmp 66) (.tmp 68)), some (65, true)⟩,
                    ⟨some 70, (.load 3 (.tmp 69)), some (65, true)⟩,
                    ⟨some 71, (.binOp .neq 3 (.tmp 70) (.const (.int .i64 4611686018427387904)) 3), some (65, true)⟩,
                    ⟨some 72, (.pick (.tmp 65) (.tmp 71) (.const (.bool false))), none⟩])
                  (.cond (.tmp 72)
                   (.regq [⟨some 73, (.move (.tmp 14)), none⟩,
                     ⟨some 74, (.move (.tmp 13)), none⟩,
                     ⟨some 75, (.fieldAddr 40 (.tmp 16) 1), none⟩,
                     ⟨some 76, (.load 3 (.tmp 75)), none⟩,
                     ⟨some 77, (.indexAddr 32 (.tmp 74) (.tmp 76)), none⟩,
                     ⟨some 78, (.load 3 (.tmp 77)), none⟩,
                     ⟨some 79, (.fieldAddr 40 (.tmp 16) 2), none⟩,
                     ⟨some 80, (.load 3 (.tmp 79)), none⟩,
                     ⟨some 81, (.binOp .sub 3 (.tmp 78) (.tmp 80) 3), none⟩,
                     ⟨some 82, (.move (.tmp 11)), none⟩,
                     ⟨some 83, (.fieldAddr 40 (.tmp 16) 0), none⟩,
                     ⟨some 84, (.load 3 (.tmp 83)), none⟩,
                     ⟨some 85, (.indexAddr 32 (.tmp 82) (.tmp 84)), none⟩,
                     ⟨some 86, (.load 3 (.tmp 85)), none⟩,
                     ⟨some 87, (.binOp .sub 3 (.tmp 81) (.tmp 86) 3), none⟩,
                     ⟨some 88, (.call { callee := (.builtin .max), args := #[(.tmp 73), (.tmp 87)], argTypes := #[3, 3] }), none⟩,
                     ⟨some 14, (.assign (.tmp 88)), none⟩])
                   .skip))))
               (.reg [⟨some 89, (.binOp .add 3 (.tmp 55) (.const (.int .i64 1)) 3), none⟩,
                 ⟨some 55, (.move (.tmp 89)), none⟩])))))))
         (.seq (.seq (.reg [⟨some 90, (.move (.tmp 13)), none⟩,
             ⟨some 91, (.call { callee := (.builtin .len), args := #[(.tmp 90)], argTypes := #[32] }), none⟩,
             ⟨some 92, (.move (.const (.int .i64 0))), none⟩])
           (.block 2
            (.loop
             (.seq (.reg [⟨some 93, (.binOp .lss 3 (.tmp 92) (.tmp 91) 3), none⟩])
              (.seq (.cond (.tmp 93)
                .skip
                (.exit 2))
               (.seq (.block 3
                 (.seq (.reg [⟨some 94, (.move (.tmp 92)), none⟩,
                    ⟨some 17, (.assign (.tmp 94)), none⟩])
                  (.seq (.reg [⟨some 95, (.move (.tmp 13)), none⟩,
                     ⟨some 96, (.move (.tmp 17)), none⟩,
                     ⟨some 97, (.indexAddr 32 (.tmp 95) (.tmp 96)), none⟩,
                     ⟨some 98, (.load 3 (.tmp 97)), none⟩,
                     ⟨some 99, (.binOp .eql 3 (.tmp 98) (.const (.int .i64 4611686018427387904)) 3), none⟩])
                   (.cond (.tmp 99)
                    (.reg [⟨some 100, (.move (.tmp 13)), none⟩,
                      ⟨some 101, (.move (.tmp 17)), none⟩,
                      ⟨some 102, (.move (.tmp 11)), none⟩,
                      ⟨some 103, (.move (.tmp 17)), none⟩,
                      ⟨some 104, (.indexAddr 32 (.tmp 102) (.tmp 103)), none⟩,
                      ⟨some 105, (.load 3 (.tmp 104)), none⟩,
                      ⟨some 106, (.move (.tmp 14)), none⟩,
                      ⟨some 107, (.binOp .add 3 (.tmp 105) (.tmp 106) 3), none⟩,
                      ⟨some 108, (.indexAddr 32 (.tmp 100) (.tmp 101)), none⟩,
                      ⟨none, (.store 3 (.tmp 108) (.tmp 107)), none⟩])
                    .skip))))
                (.reg [⟨some 109, (.binOp .add 3 (.tmp 92) (.const (.int .i64 1)) 3), none⟩,
                  ⟨some 92, (.move (.tmp 109)), none⟩])))))))
          (.seq (.reg [⟨some 110, (.move (.tmp 13)), none⟩,
             ⟨some 8, (.assign (.tmp 110)), none⟩,
             ⟨some 9, (.assign (.const (.int .i64 0))), none⟩])
           .ret)))))))))))
theorem k20 : FOK Try.prog 20 111 c20 [8, 9] := ⟨⟨Try.f20, _, by kernel_rfl, by kernel_rfl, rfl, by kernel_rfl, rfl, by kernel_rfl, by decide⟩⟩

/-- timesync.timesyncref51.Tight -/
def c21 : SC :=
  (.seq (.reg [⟨some 8, (.assign (.const (.slice none 0 0))), none⟩,
   ⟨some 9, (.assign (.const (.int .i64 0))), none⟩])
 (.seq (.reg [⟨some 19, (.move (.tmp 0)), none⟩,
    ⟨some 20, (.move (.tmp 1)), none⟩,
    ⟨some 21, (.call { callee := (.value (.func 16)), args := #[(.tmp 19), (.tmp 20)], argTypes := #[3, 22] }), none⟩,
    ⟨some 10, (.assign (.tmp 21)), none⟩])
  (.seq (.seq (.reg [⟨some 22, (.move (.tmp 10)), none⟩,
      ⟨some 23, (.binOp .neq 26 (.tmp 22) (.const (.int .i64 0)) 26), none⟩])
    (.cond (.tmp 23)
     (.seq (.reg [⟨some 24, (.move (.tmp 10)), none⟩,
        ⟨some 8, (.assign (.const (.slice none 0 0))), none⟩,
        ⟨some 9, (.assign (.tmp 24)), none⟩])
      .ret)
     .skip))
   (.seq (.seq (.reg [⟨some 25, (.move (.tmp 2)), none⟩,
       ⟨some 26, (.binOp .lss 3 (.tmp 25) (.const (.int .i64 0)) 3), none⟩,
       ⟨some 27, (.move (.tmp 26)), none⟩,
       ⟨some 28, (.move (.tmp 2)), some (27, false)⟩,
       ⟨some 29, (.move (.tmp 0)), some (27, false)⟩,
       ⟨some 30, (.binOp .geq 3 (.tmp 28) (.tmp 29) 3), some (27, false)⟩,
       ⟨some 31, (.pick (.tmp 27) (.const (.bool true)) (.tmp 30)), none⟩,
       ⟨some 32, (.move (.tmp 31)), none⟩,
       ⟨some 33, (.move (.tmp 3)), some (32, false)⟩,
       ⟨some 34, (.binOp .lss 3 (.tmp 33) (.const (.int .i64 0)) 3), some (32, false)⟩,
       ⟨some 35, (.pick (.tmp 32) (.const (.bool true)) (.tmp 34)), none⟩,
       ⟨some 36, (.move (.tmp 35)), none⟩,
       ⟨some 37, (.move (.tmp 3)), some (36, false)⟩,
       ⟨some 38, (.move (.tmp 0)), some (36, false)⟩,
       ⟨some 39, (.binOp .geq 3 (.tmp 37) (.tmp 38) 3), some (36, false)⟩,
       ⟨some 40, (.pick (.tmp 36) (.const (.bool true)) (.tmp 39)), none⟩])
     (.cond (.tmp 40)
      (.seq (.reg [⟨some 8, (.assign (.const (.slice none 0 0))), none⟩,
         ⟨some 9, (.assign (.const (.int .i64 3))), none⟩])
       .ret)
      .skip))
    (.seq (.reg [⟨some 42, (.move (.tmp 0)), none⟩,
       ⟨some 43, (.move (.tmp 1)), none⟩,
       ⟨some 44, (.call { callee := (.value (.func 14)), args := #[(.tmp 42), (.tmp 43)], argTypes := #[3, 22] }), none⟩,
       ⟨some 41, (.move (.tmp 44)), none⟩,
       ⟨some 45, (.extract (.tmp 41) 0), none⟩,
       ⟨some 46, (.extract (.tmp 41) 1), none⟩,
       ⟨some 11, (.assign (.tmp 45)), none⟩,
       ⟨some 10, (.assign (.tmp 46)), none⟩])
     (.seq (.seq (.reg [⟨some 47, (.move (.tmp 10)), none⟩,
         ⟨some 48, (.binOp .neq 26 (.tmp 47) (.const (.int .i64 0)) 26), none⟩])
       (.cond (.tmp 48)
        (.seq (.reg [⟨some 49, (.move (.tmp 10)), none⟩,
           ⟨some 8, (.assign (.const (.slice none 0 0))), none⟩,
           ⟨some 9, (.assign (.tmp 49)), none⟩])
         .ret)
        .skip))
      (.seq (.seq (.reg [⟨some 50, (.move (.tmp 11)), none⟩,
          ⟨some 51, (.move (.tmp 2)), none⟩,
          ⟨some 52, (.indexAddr 25 (.tmp 50) (.tmp 51)), none⟩,
          ⟨some 53, (.load 32 (.tmp 52)), none⟩,
          ⟨some 54, (.move (.tmp 3)), none⟩,
          ⟨some 55, (.indexAddr 32 (.tmp 53) (.tmp 54)), none⟩,
          ⟨some 56, (.load 3 (.tmp 55)), none⟩,
          ⟨some 57, (.binOp .eql 3 (.tmp 56) (.const (.int .i64 4611686018427387904)) 3), none⟩])
        (.cond (.tmp 57)
         (.seq (.reg [⟨some 8, (.assign (.const (.slice none 0 0))), none⟩,
            ⟨some 9, (.assign (.const (.int .i64 11))), none⟩])
          .ret)
         .skip))
       (.seq (.reg [⟨some 59, (.move (.tmp 0)), none⟩,
          ⟨some 60, (.move (.tmp 1)), none⟩,
          ⟨some 61, (.call { callee := (.value (.func 19)), args := #[(.tmp 59), (.tmp 60)], argTypes := #[3, 22] }), none⟩,
          ⟨some 58, (.move (.tmp 61)), none⟩,
          ⟨some 62, (.extract (.tmp 58) 0), none⟩,
          ⟨some 63, (.extract (.tmp 58) 1), none⟩,
          ⟨some 12, (.assign (.tmp 62)), none⟩,
          ⟨some 13, (.assign (.tmp 63)), none⟩])
        (.seq (.reg [⟨some 14, (.assign (.const (.int .i64 0))), none⟩])
         (.seq (.seq (.reg [⟨some 15, (.assign (.const (.int .i64 0))), none⟩])
           (.block 0
            (.loop
             (.seq (.seq (.reg [⟨some 64, (.move (.tmp 15)), none⟩,
                 ⟨some 65, (.move (.tmp 1)), none⟩,
                 ⟨some 66, (.call { callee := (.builtin .len), args := #[(.tmp 65)], argTypes := #[22] }), none⟩,
                 ⟨some 67, (.binOp .lss 3 (.tmp 64) (.tmp 66) 3), none⟩])
               (.cond (.tmp 67)
                .skip
                (.exit 0)))
              (.seq (.block 1
                (.seq (.reg [⟨some 70, (.move (.tmp 1)), none⟩,
                   ⟨some 71, (.move (.tmp 15)), none⟩,
                   ⟨some 72, (.indexAddr 22 (.tmp 70) (.tmp 71)), none⟩,
                   ⟨some 73, (.load 40 (.tmp 72)), none⟩,
                   ⟨some 16, (.alloc 40), none⟩,
                   ⟨none, (.store 40 (.tmp 16) (.tmp 73)), none⟩])
                 (.seq (.regq [⟨some 74, (.move (.tmp 11)), none⟩,
                    ⟨some 75, (.move (.tmp 2)), none⟩,
                    ⟨some 76, (.indexAddr 25 (.tmp 74) (.tmp 75)), none⟩,
                    ⟨some 77, (.load 32 (.tmp 76)), none⟩,
                    ⟨some 78, (.fieldAddr 40 (.tmp 16) 0), none⟩,
                    ⟨some 79, (.load 3 (.tmp 78)), none⟩,
                    ⟨some 80, (.indexAddr 32 (.tmp 77) (.tmp 79)), none⟩,
                    ⟨some 81, (.load 3 (.tmp 80)), none⟩,
                    ⟨some 82, (.binOp .eql 3 (.tmp 81) (.const (.int .i64 4611686018427387904)) 3), none⟩,
                    ⟨some 83, (.move (.tmp 82)), none⟩,
                    ⟨some 84, (.move (.tmp 11)), some (83, true)⟩,
                    ⟨some 85, (.move (.tmp 2)), some (83, true)⟩,
                    ⟨some 86, (.indexAddr 25 (.tmp 84) (.tmp 85)), some (83, true)⟩,
                    ⟨some 87, (.load 32 (.tmp 86)), some (83, true)⟩,
                    ⟨some 88, (.fieldAddr 40 (.tmp 16) 1), some (83, true)⟩,
                    ⟨some 89, (.load 3 (.tmp 88)), some (83, true)⟩,
                    ⟨some 90, (.indexAddr 32 (.tmp 87) (.tmp 89)), some (83, true)⟩,
                    ⟨some 91, (.load 3 (.tmp 90)), some (83, true)⟩,
                    ⟨some 92, (.binOp .neq 3 (.tmp 91) (.const (.int .i64 4611686018427387904)) 3), some (83, true)⟩,
                    ⟨some 93, (.pick (.tmp 83) (.tmp 92) (.const (.bool false))), none⟩,
                    ⟨some 94, (.move (.tmp 93)), none⟩,
                    ⟨some 95, (.move (.tmp 11)), some (94, true)⟩,
                    ⟨some 96, (.move (.tmp 2)), some (94, true)⟩,
                    ⟨some 97, (.indexAddr 25 (.tmp 95) (.tmp 96)), some (94, true)⟩,
                    ⟨some 98, (.load 32 (.tmp 97)), some (94, true)⟩,
                    ⟨some 99, (.fieldAddr 40 (.tmp 16) 1), some (94, true)⟩,
                    ⟨some 100, (.load 3 (.tmp 99)), some (94, true)⟩,
                    ⟨some 101, (.indexAddr 32 (.tmp 98) (.tmp 100)), some (94, true)⟩,
                    ⟨some 102, (.load 3 (.tmp 101)), some (94, true)⟩,
                    ⟨some 103, (.move (.tmp 12)), some (94, true)⟩,
                    ⟨some 104, (.fieldAddr 40 (.tmp 16) 0), some (94, true)⟩,
                    ⟨some 105, (.load 3 (.tmp 104)), some (94, true)⟩,
                    ⟨some 106, (.indexAddr 32 (.tmp 103) (.tmp 105)), some (94, true)⟩,
                    ⟨some 107, (.load 3 (.tmp 106)), some (94, true)⟩,
                    ⟨some 108, (.binOp .sub 3 (.tmp 102) (.tmp 107) 3), some (94, true)⟩,
                    ⟨some 109, (.fieldAddr 40 (.tmp 16) 2), some (94, true)⟩,
                    ⟨some 110, (.load 3 (.tmp 109)), some (94, true)⟩,
                    ⟨some 111, (.binOp .sub 3 (.tmp 108) (.tmp 110) 3), some (94, true)⟩,
                    ⟨some 112, (.move (.tmp 14)), some (94, true)⟩,
                    ⟨some 113, (.binOp .gtr 3 (.tmp 111) (.tmp 112) 3), some (94, true)⟩,
                    ⟨some 114, (.pick (.tmp 94) (.tmp 113) (.const (.bool false))), none⟩])
                  (.cond (.tmp 114)
                   (.regq [⟨some 115, (.move (.tmp 11)), none⟩,
                     ⟨some 116, (.move (.tmp 2)), none⟩,
                     ⟨some 117, (.indexAddr 25 (.tmp 115) (.tmp 116)), none⟩,
                     ⟨some 118, (.load 32 (.tmp 117)), none⟩,
                     ⟨some 119, (.fieldAddr 40 (.tmp 16) 1), none⟩,
                     ⟨some 120, (.load 3 (.tmp 119)), none⟩,
                     ⟨some 121, (.indexAddr 32 (.tmp 118) (.tmp 120)), none⟩,
                     ⟨some 122, (.load 3 (.tmp 121)), none⟩,
                     ⟨some 123, (.move (.tmp 12)), none⟩,
                     ⟨some 124, (.fieldAddr 40 (.tmp 16) 0), none⟩,
                     ⟨some 125, (.load 3 (.tmp 124)), none⟩,
                     ⟨some 126, (.indexAddr 32 (.tmp 123) (.tmp 125)), none⟩,
                     ⟨some 127, (.load 3 (.tmp 126)), none⟩,
                     ⟨some 128, (.binOp .sub 3 (.tmp 122) (.tmp 127) 3), none⟩,
                     ⟨some 129, (.fieldAddr 40 (.tmp 16) 2), none⟩,
                     ⟨some 130, (.load 3 (.tmp 129)), none⟩,
                     ⟨some 131, (.binOp .sub 3 (.tmp 128) (.tmp 130) 3), none⟩,
                     ⟨some 14, (.assign (.tmp 131)), none⟩])
                   .skip))))
               (.reg [⟨some 68, (.move (.tmp 15)), none⟩,
                 ⟨some 69, (.binOp .add 3 (.tmp 68) (.const (.int .i64 1)) 3), none⟩,
                 ⟨some 15, (.assign (.tmp 69)), none⟩]))))))
          (.seq (.reg [⟨some 132, (.move (.tmp 0)), none⟩,
             ⟨some 133, (.makeSlice 32 (.tmp 132) (.tmp 132)), none⟩,
             ⟨some 17, (.assign (.tmp 133)), none⟩])
           (.seq (.seq (.reg [⟨some 18, (.assign (.const (.int .i64 0))), none⟩])
             (.block 2
              (.loop
               (.seq (.seq (.reg [⟨some 134, (.move (.tmp 18)), none⟩,
                   ⟨some 135, (.move (.tmp 0)), none⟩,
                   ⟨some 136, (.binOp .lss 3 (.tmp 134) (.tmp 135) 3), none⟩])
                 (.cond (.tmp 136)
                  .skip
                  (.exit 2)))
                (.seq (.block 3
                  (.seq (.reg [⟨some 139, (.move (.tmp 17)), none⟩,
                     ⟨some 140, (.move (.tmp 18)), none⟩,
                     ⟨some 141, (.move (.tmp 11)), none⟩,
                     ⟨some 142, (.move (.tmp 2)), none⟩,
                     ⟨some 143, (.indexAddr 25 (.tmp 141) (.tmp 142)), none⟩,
                     ⟨some 144, (.load 32 (.tmp 143)), none⟩,
                     ⟨some 145, (.move (.tmp 18)), none⟩,
                     ⟨some 146, (.indexAddr 32 (.tmp 144) (.tmp 145)), none⟩,
                     ⟨some 147, (.load 3 (.tmp 146)), none⟩,
                     ⟨some 148, (.indexAddr 32 (.tmp 139) (.tmp 140)), none⟩,
                     ⟨none, (.store 3 (.tmp 148) (.tmp 147)), none⟩])
                   (.seq (.reg [⟨some 149, (.move (.tmp 11)), none⟩,
                      ⟨some 150, (.move (.tmp 2)), none⟩,
                      ⟨some 151, (.indexAddr 25 (.tmp 149) (.tmp 150)), none⟩,
                      ⟨some 152, (.load 32 (.tmp 151)), none⟩,
                      ⟨some 153, (.move (.tmp 18)), none⟩,
                      ⟨some 154, (.indexAddr 32 (.tmp 152) (.tmp 153)), none⟩,
                      ⟨some 155, (.load 3 (.tmp 154)), none⟩,
                      ⟨some 156, (.binOp .eql 3 (.tmp 155) (.const (.int .i64 4611686018427387904)) 3), none⟩])
                    (.cond (.tmp 156)
                     (.reg [⟨some 157, (.move (.tmp 17)), none⟩,
                       ⟨some 158, (.move (.tmp 18)), none⟩,
                       ⟨some 159, (.move (.tmp 12)), none⟩,
                       ⟨some 160, (.move (.tmp 18)), none⟩,
                       ⟨some 161, (.indexAddr 32 (.tmp 159) (.tmp 160)), none⟩,
                       ⟨some 162, (.load 3 (.tmp 161)), none⟩,
                       ⟨some 163, (.move (.tmp 14)), none⟩,
                       ⟨some 164, (.binOp .add 3 (.tmp 162) (.tmp 163) 3), none⟩,
                       ⟨some 165, (.indexAddr 32 (.tmp 157) (.tmp 158)), none⟩,
                       ⟨none, (.store 3 (.tmp 165) (.tmp 164)), none⟩])
                     .skip))))
                 (.reg [⟨some 137, (.move (.tmp 18)), none⟩,
                   ⟨some 138, (.binOp .add 3 (.tmp 137) (.const (.int .i64 1)) 3), none⟩,
                   ⟨some 18, (.assign (.tmp 138)), none⟩]))))))
            (.seq (.reg [⟨some 166, (.move (.tmp 17)), none⟩,
               ⟨some 8, (.assign (.tmp 166)), none⟩,
               ⟨some 9, (.assign (.const (.int .i64 0))), none⟩])
             .ret)))))))))))))
theorem k21 : FOK Try.prog 21 167 c21 [8, 9] := ⟨⟨Try.f21, _, by kernel_rfl, by kernel_rfl, rfl, by kernel_rfl, rfl, by kernel_rfl, by decide⟩⟩

/-- slices.Equal[[]int,int] -/
def c22 : SC :=
  (.seq (.reg [⟨some 4, (.assign (.const (.bool false))), none⟩])
 (.seq (.seq (.reg [⟨some 6, (.move (.tmp 0)), none⟩,
     ⟨some 7, (.call { callee := (.builtin .len), args := #[(.tmp 6)], argTypes := #[32] }), none⟩,
     ⟨some 8, (.move (.tmp 1)), none⟩,
     ⟨some 9, (.call { callee := (.builtin .len), args := #[(.tmp 8)], argTypes := #[32] }), none⟩,
     ⟨some 10, (.binOp .neq 3 (.tmp 7) (.tmp 9) 3), none⟩])
   (.cond (.tmp 10)
    (.seq (.reg [⟨some 4, (.assign (.const (.bool false))), none⟩])
     .ret)
    .skip))
  (.seq (.seq (.reg [⟨some 11, (.move (.tmp 0)), none⟩,
      ⟨some 12, (.call { callee := (.builtin .len), args := #[(.tmp 11)], argTypes := #[32] }), none⟩,
      ⟨some 13, (.move (.const (.int .i64 0))), none⟩])
    (.block 0
     (.loop
      (.seq (.reg [⟨some 14, (.binOp .lss 3 (.tmp 13) (.tmp 12) 3), none⟩])
       (.seq (.cond (.tmp 14)
         .skip
         (.exit 0))
        (.seq (.block 1
          (.seq (.reg [⟨some 15, (.move (.tmp 13)), none⟩,
             ⟨some 5, (.assign (.tmp 15)), none⟩])
           (.seq (.regq [⟨some 16, (.move (.tmp 0)), none⟩,
              ⟨some 17, (.move (.tmp 5)), none⟩,
              ⟨some 18, (.indexAddr 32 (.tmp 16) (.tmp 17)), none⟩,
              ⟨some 19, (.load 3 (.tmp 18)), none⟩,
              ⟨some 20, (.move (.tmp 1)), none⟩,
              ⟨some 21, (.move (.tmp 5)), none⟩,
              ⟨some 22, (.indexAddr 32 (.tmp 20) (.tmp 21)), none⟩,
              ⟨some 23, (.load 3 (.tmp 22)), none⟩,
              ⟨some 24, (.binOp .neq 3 (.tmp 19) (.tmp 23) 3), none⟩])
            (.cond (.tmp 24)
             (.seq (.reg [⟨some 4, (.assign (.const (.bool false))), none⟩])
              .ret)
             .skip))))
         (.reg [⟨some 25, (.binOp .add 3 (.tmp 13) (.const (.int .i64 1)) 3), none⟩,
           ⟨some 13, (.move (.tmp 25)), none⟩])))))))
   (.seq (.reg [⟨some 4, (.assign (.const (.bool true))), none⟩])
    .ret))))
theorem k22 : FOK Try.prog 22 26 c22 [4] := ⟨⟨Try.f22, _, by kernel_rfl, by kernel_rfl, rfl, by kernel_rfl, rfl, by kernel_rfl, by decide⟩⟩

/-- timesync.diffcon.Holds -/
def c23 : SC :=
  (.seq (.reg [⟨some 3, (.box 32 (.tmp 1)), none⟩,
   ⟨some 4, (.assign (.const (.bool false))), none⟩])
 (.seq (.reg [⟨some 5, (.move (.tmp 0)), none⟩,
    ⟨some 6, (.makeFunc (Go.Fn.func 38) #[] #[(.tmp 3)]), none⟩,
    ⟨some 7, (.call { callee := (.value (.func 37)), args := #[(.tmp 5), (.tmp 6)], argTypes := #[22, 56] }), none⟩,
    ⟨some 8, (.unOp .not 4 (.tmp 7)), none⟩,
    ⟨some 4, (.assign (.tmp 8)), none⟩])
  .ret))
theorem k23 : FOK Try.prog 23 9 c23 [4] := ⟨⟨Try.f23, _, by kernel_rfl, by kernel_rfl, rfl, by kernel_rfl, rfl, by kernel_rfl, by decide⟩⟩

/-- timesync.timesyncref51.Holds -/
def c24 : SC :=
  (.seq (.reg [⟨some 4, (.assign (.const (.bool false))), none⟩])
 (.seq (.seq (.reg [⟨some 5, (.assign (.const (.int .i64 0))), none⟩])
   (.block 0
    (.loop
     (.seq (.seq (.reg [⟨some 7, (.move (.tmp 5)), none⟩,
         ⟨some 8, (.move (.tmp 0)), none⟩,
         ⟨some 9, (.call { callee := (.builtin .len), args := #[(.tmp 8)], argTypes := #[22] }), none⟩,
         ⟨some 10, (.binOp .lss 3 (.tmp 7) (.tmp 9) 3), none⟩])
       (.cond (.tmp 10)
        .skip
        (.exit 0)))
      (.seq (.block 1
        (.seq (.reg [⟨some 13, (.move (.tmp 0)), none⟩,
           ⟨some 14, (.move (.tmp 5)), none⟩,
           ⟨some 15, (.indexAddr 22 (.tmp 13) (.tmp 14)), none⟩,
           ⟨some 16, (.load 40 (.tmp 15)), none⟩,
           ⟨some 6, (.alloc 40), none⟩,
           ⟨none, (.store 40 (.tmp 6) (.tmp 16)), none⟩])
         (.seq (.regq [⟨some 17, (.fieldAddr 40 (.tmp 6) 0), none⟩,
            ⟨some 18, (.load 3 (.tmp 17)), none⟩,
            ⟨some 19, (.binOp .lss 3 (.tmp 18) (.const (.int .i64 0)) 3), none⟩,
            ⟨some 20, (.move (.tmp 19)), none⟩,
            ⟨some 21, (.fieldAddr 40 (.tmp 6) 0), some (20, false)⟩,
            ⟨some 22, (.load 3 (.tmp 21)), some (20, false)⟩,
            ⟨some 23, (.move (.tmp 1)), some (20, false)⟩,
            ⟨some 24, (.call { callee := (.builtin .len), args := #[(.tmp 23)], argTypes := #[32] }), some (20, false)⟩,
            ⟨some 25, (.binOp .geq 3 (.tmp 22) (.tmp 24) 3), some (20, false)⟩,
            ⟨some 26, (.pick (.tmp 20) (.const (.bool true)) (.tmp 25)), none⟩,
            ⟨some 27, (.move (.tmp 26)), none⟩,
            ⟨some 28, (.fieldAddr 40 (.tmp 6) 1), some (27, false)⟩,
            ⟨some 29, (.load 3 (.tmp 28)), some (27, false)⟩,
            ⟨some 30, (.binOp .lss 3 (.tmp 29) (.const (.int .i64 0)) 3), some (27, false)⟩,
            ⟨some 31, (.pick (.tmp 27) (.const (.bool true)) (.tmp 30)), none⟩,
            ⟨some 32, (.move (.tmp 31)), none⟩,
            ⟨some 33, (.fieldAddr 40 (.tmp 6) 1), some (32, false)⟩,
            ⟨some 34, (.load 3 (.tmp 33)), some (32, false)⟩,
            ⟨some 35, (.move (.tmp 1)), some (32, false)⟩,
            ⟨some 36, (.call { callee := (.builtin .len), args := #[(.tmp 35)], argTypes := #[32] }), some (32, false)⟩,
            ⟨some 37, (.binOp .geq 3 (.tmp 34) (.tmp 36) 3), some (32, false)⟩,
            ⟨some 38, (.pick (.tmp 32) (.const (.bool true)) (.tmp 37)), none⟩,
            ⟨some 39, (.move (.tmp 38)), none⟩,
            ⟨some 40, (.move (.tmp 1)), some (39, false)⟩,
            ⟨some 41, (.fieldAddr 40 (.tmp 6) 0), some (39, false)⟩,
            ⟨some 42, (.load 3 (.tmp 41)), some (39, false)⟩,
            ⟨some 43, (.indexAddr 32 (.tmp 40) (.tmp 42)), some (39, false)⟩,
            ⟨some 44, (.load 3 (.tmp 43)), some (39, false)⟩,
            ⟨some 45, (.move (.tmp 1)), some (39, false)⟩,
            ⟨some 46, (.fieldAddr 40 (.tmp 6) 1), some (39, false)⟩,
            ⟨some 47, (.load 3 (.tmp 46)), some (39, false)⟩,
            ⟨some 48, (.indexAddr 32 (.tmp 45) (.tmp 47)), some (39, false)⟩,
            ⟨some 49, (.load 3 (.tmp 48)), some (39, false)⟩,
            ⟨some 50, (.fieldAddr 40 (.tmp 6) 2), some (39, false)⟩,
            ⟨some 51, (.load 3 (.tmp 50)), some (39, false)⟩,
            ⟨some 52, (.call { callee := (.value (.func 40)), args := #[(.tmp 44), (.tmp 49), (.tmp 51)], argTypes := #[3, 3, 3] }), some (39, false)⟩,
            ⟨some 53, (.unOp .not 4 (.tmp 52)), some (39, false)⟩,
            ⟨some 54, (.pick (.tmp 39) (.const (.bool true)) (.tmp 53)), none⟩])
          (.cond (.tmp 54)
           (.seq (.reg [⟨some 4, (.assign (.const (.bool false))), none⟩])
            .ret)
           .skip))))
       (.reg [⟨some 11, (.move (.tmp 5)), none⟩,
         ⟨some 12, (.binOp .add 3 (.tmp 11) (.const (.int .i64 1)) 3), none⟩,
         ⟨some 5, (.assign (.tmp 12)), none⟩]))))))
  (.seq (.reg [⟨some 4, (.assign (.const (.bool true))), none⟩])
   .ret)))
theorem k24 : FOK Try.prog 24 55 c24 [4] := ⟨⟨Try.f24, _, by kernel_rfl, by kernel_rfl, rfl, by kernel_rfl, rfl, by kernel_rfl, by decide⟩⟩

/-- slices.Clone[[]int,int] -/
def c25 : SC :=
  (.seq (.reg [⟨some 2, (.assign (.const (.slice none 0 0))), none⟩])
 (.seq (.seq (.reg [⟨some 3, (.move (.tmp 0)), none⟩,
     ⟨some 4, (.binOp .eql 32 (.tmp 3) (.const (.slice none 0 0)) 32), none⟩])
   (.cond (.tmp 4)
    (.seq (.reg [⟨some 2, (.assign (.const (.slice none 0 0))), none⟩])
     .ret)
    .skip))
  (.seq (.reg [⟨some 5, (.buildSlice 32 0 #[]), none⟩,
     ⟨some 6, (.move (.tmp 0)), none⟩,
     ⟨some 7, (.call { callee := (.builtin .append), args := #[(.tmp 5), (.tmp 6)], argTypes := #[32, 32] }), none⟩,
     ⟨some 2, (.assign (.tmp 7)), none⟩])
   .ret)))
theorem k25 : FOK Try.prog 25 8 c25 [2] := ⟨⟨Try.f25, _, by kernel_rfl, by kernel_rfl, rfl, by kernel_rfl, rfl, by kernel_rfl, by decide⟩⟩

/-- timesync.diffcon.Cycle -/
def c26 : SC :=
  (.seq (.reg [⟨some 4, (.assign (.const (.slice none 0 0))), none⟩,
   ⟨some 5, (.assign (.const (.bool false))), none⟩])
 (.seq (.seq (.reg [⟨some 10, (.move (.tmp 0)), none⟩,
     ⟨some 11, (.move (.tmp 1)), none⟩,
     ⟨some 12, (.call { callee := (.value (.func 15)), args := #[(.tmp 10), (.tmp 11)], argTypes := #[3, 22] }), none⟩,
     ⟨some 13, (.binOp .neq 26 (.tmp 12) (.const (.int .i64 0)) 26), none⟩])
   (.cond (.tmp 13)
    (.seq (.reg [⟨some 4, (.assign (.const (.slice none 0 0))), none⟩,
       ⟨some 5, (.assign (.const (.bool false))), none⟩])
     .ret)
    .skip))
  (.seq (.reg [⟨some 15, (.move (.tmp 1)), none⟩,
     ⟨some 16, (.move (.tmp 0)), none⟩,
     ⟨some 17, (.makeSlice 32 (.tmp 16) (.tmp 16)), none⟩,
     ⟨some 18, (.call { callee := (.value (.func 41)), args := #[(.tmp 15), (.tmp 17)], argTypes := #[22, 32] }), none⟩,
     ⟨some 14, (.move (.tmp 18)), none⟩,
     ⟨some 19, (.extract (.tmp 14) 0), none⟩,
     ⟨some 20, (.extract (.tmp 14) 1), none⟩,
     ⟨some 6, (.assign (.tmp 19)), none⟩,
     ⟨some 7, (.assign (.tmp 20)), none⟩])
   (.seq (.seq (.reg [⟨some 21, (.move (.tmp 7)), none⟩,
       ⟨some 22, (.binOp .lss 3 (.tmp 21) (.const (.int .i64 0)) 3), none⟩])
     (.cond (.tmp 22)
      (.seq (.reg [⟨some 4, (.assign (.const (.slice none 0 0))), none⟩,
         ⟨some 5, (.assign (.const (.bool false))), none⟩])
       .ret)
      .skip))
    (.seq (.seq (.reg [⟨some 23, (.move (.tmp 0)), none⟩,
        ⟨some 24, (.move (.const (.int .i64 0))), none⟩])
      (.block 0
       (.loop
        (.seq (.reg [⟨some 25, (.binOp .lss 3 (.tmp 24) (.tmp 23) 3), none⟩])
         (.seq (.cond (.tmp 25)
           .skip
           (.exit 0))
          (.seq (.block 1
            (.reg [⟨some 26, (.move (.tmp 1)), none⟩,
              ⟨some 27, (.move (.tmp 6)), none⟩,
              ⟨some 28, (.move (.tmp 7)), none⟩,
              ⟨some 29, (.indexAddr 32 (.tmp 27) (.tmp 28)), none⟩,
              ⟨some 30, (.load 3 (.tmp 29)), none⟩,
              ⟨some 31, (.indexAddr 22 (.tmp 26) (.tmp 30)), none⟩,
              ⟨some 32, (.fieldAddr 40 (.tmp 31) 0), none⟩,
              ⟨some 33, (.load 3 (.tmp 32)), none⟩,
              ⟨some 7, (.assign (.tmp 33)), none⟩]))
           (.reg [⟨some 34, (.binOp .add 3 (.tmp 24) (.const (.int .i64 1)) 3), none⟩,
             ⟨some 24, (.move (.tmp 34)), none⟩])))))))
     (.seq (.reg [⟨some 8, (.assign (.const (.slice none 0 0))), none⟩])
      (.seq (.seq (.reg [⟨some 35, (.move (.tmp 7)), none⟩,
          ⟨some 9, (.assign (.tmp 35)), none⟩])
        (.block 2
         (.loop
          (.block 3
           (.seq (.reg [⟨some 36, (.move (.tmp 8)), none⟩,
              ⟨some 37, (.move (.tmp 6)), none⟩,
              ⟨some 38, (.move (.tmp 9)), none⟩,
              ⟨some 39, (.indexAddr 32 (.tmp 37) (.tmp 38)), none⟩,
              ⟨some 40, (.load 3 (.tmp 39)), none⟩,
              ⟨some 41, (.buildSlice 32 1 #[(0, (.tmp 40))]), none⟩,
              ⟨some 42, (.call { callee := (.builtin .append), args := #[(.tmp 36), (.tmp 41)], argTypes := #[32, 32] }), none⟩,
              ⟨some 8, (.assign (.tmp 42)), none⟩])
            (.seq (.reg [⟨some 43, (.move (.tmp 1)), none⟩,
               ⟨some 44, (.move (.tmp 6)), none⟩,
               ⟨some 45, (.move (.tmp 9)), none⟩,
               ⟨some 46, (.indexAddr 32 (.tmp 44) (.tmp 45)), none⟩,
               ⟨some 47, (.load 3 (.tmp 46)), none⟩,
               ⟨some 48, (.indexAddr 22 (.tmp 43) (.tmp 47)), none⟩,
               ⟨some 49, (.fieldAddr 40 (.tmp 48) 0), none⟩,
               ⟨some 50, (.load 3 (.tmp 49)), none⟩,
               ⟨some 9, (.assign (.tmp 50)), none⟩])
             (.seq (.reg [⟨some 51, (.move (.tmp 9)), none⟩,
                ⟨some 52, (.move (.tmp 7)), none⟩,
                ⟨some 53, (.binOp .eql 3 (.tmp 51) (.tmp 52) 3), none⟩])
              (.cond (.tmp 53)
               (.exit 2)
               .skip))))))))
       (.seq (.reg [⟨some 54, (.move (.tmp 8)), none⟩,
          ⟨some 55, (.call { callee := (.value (.func 42)), args := #[(.tmp 54)], argTypes := #[32] }), none⟩])
        (.seq (.reg [⟨some 56, (.move (.tmp 8)), none⟩,
           ⟨some 4, (.assign (.tmp 56)), none⟩,
           ⟨some 5, (.assign (.const (.bool true))), none⟩])
         .ret)))))))))
theorem k26 : FOK Try.prog 26 57 c26 [4, 5] := ⟨⟨Try.f26, _, by kernel_rfl, by kernel_rfl, rfl, by kernel_rfl, rfl, by kernel_rfl, by decide⟩⟩

/-- timesync.timesynclaw51.proves -/
def c27 : SC :=
  (.seq (.reg [⟨some 4, (.assign (.const (.bool false))), none⟩])
 (.seq (.seq (.reg [⟨some 10, (.move (.tmp 1)), none⟩,
     ⟨some 11, (.call { callee := (.builtin .len), args := #[(.tmp 10)], argTypes := #[32] }), none⟩,
     ⟨some 12, (.binOp .eql 3 (.tmp 11) (.const (.int .i64 0)) 3), none⟩,
     ⟨some 13, (.move (.tmp 12)), none⟩,
     ⟨some 14, (.move (.tmp 1)), some (13, false)⟩,
     ⟨some 15, (.call { callee := (.builtin .len), args := #[(.tmp 14)], argTypes := #[32] }), some (13, false)⟩,
     ⟨some 16, (.binOp .gtr 3 (.tmp 15) (.const (.int .i64 160)) 3), some (13, false)⟩,
     ⟨some 17, (.pick (.tmp 13) (.const (.bool true)) (.tmp 16)), none⟩])
   (.cond (.tmp 17)
    (.seq (.reg [⟨some 4, (.assign (.const (.bool false))), none⟩])
     .ret)
    .skip))
  (.seq (.reg [⟨some 5, (.assign (.const (.int .i64 0))), none⟩])
   (.seq (.reg [⟨some 6, (.assign (.const (.slice none 0 0))), none⟩])
    (.seq (.seq (.reg [⟨some 18, (.move (.tmp 1)), none⟩,
        ⟨some 19, (.call { callee := (.builtin .len), args := #[(.tmp 18)], argTypes := #[32] }), none⟩,
        ⟨some 20, (.move (.const (.int .i64 0))), none⟩])
      (.block 0
       (.loop
        (.seq (.reg [⟨some 21, (.binOp .lss 3 (.tmp 20) (.tmp 19) 3), none⟩])
         (.seq (.cond (.tmp 21)
           .skip
           (.exit 0))
          (.seq (.block 1
            (.seq (.reg [⟨some 22, (.move (.tmp 20)), none⟩,
               ⟨some 23, (.indexAddr 32 (.tmp 18) (.tmp 20)), none⟩,
               ⟨some 24, (.load 3 (.tmp 23)), none⟩,
               ⟨some 7, (.assign (.tmp 22)), none⟩,
               ⟨some 8, (.assign (.tmp 24)), none⟩])
             (.seq (.reg [⟨some 25, (.move (.tmp 1)), none⟩,
                ⟨some 26, (.move (.tmp 7)), none⟩,
                ⟨some 27, (.binOp .add 3 (.tmp 26) (.const (.int .i64 1)) 3), none⟩,
                ⟨some 28, (.move (.tmp 1)), none⟩,
                ⟨some 29, (.call { callee := (.builtin .len), args := #[(.tmp 28)], argTypes := #[32] }), none⟩,
                ⟨some 30, (.binOp .rem 3 (.tmp 27) (.tmp 29) 3), none⟩,
                ⟨some 31, (.indexAddr 32 (.tmp 25) (.tmp 30)), none⟩,
                ⟨some 32, (.load 3 (.tmp 31)), none⟩,
                ⟨some 9, (.assign (.tmp 32)), none⟩])
              (.seq (.seq (.regq [⟨some 33, (.move (.tmp 8)), none⟩,
                  ⟨some 34, (.binOp .lss 3 (.tmp 33) (.const (.int .i64 0)) 3), none⟩,
                  ⟨some 35, (.move (.tmp 34)), none⟩,
                  ⟨some 36, (.move (.tmp 8)), some (35, false)⟩,
                  ⟨some 37, (.move (.tmp 0)), some (35, false)⟩,
                  ⟨some 38, (.call { callee := (.builtin .len), args := #[(.tmp 37)], argTypes := #[22] }), some (35, false)⟩,
                  ⟨some 39, (.binOp .geq 3 (.tmp 36) (.tmp 38) 3), some (35, false)⟩,
                  ⟨some 40, (.pick (.tmp 35) (.const (.bool true)) (.tmp 39)), none⟩,
                  ⟨some 41, (.move (.tmp 40)), none⟩,
                  ⟨some 42, (.move (.tmp 9)), some (41, false)⟩,
                  ⟨some 43, (.binOp .lss 3 (.tmp 42) (.const (.int .i64 0)) 3), some (41, false)⟩,
                  ⟨some 44, (.pick (.tmp 41) (.const (.bool true)) (.tmp 43)), none⟩,
                  ⟨some 45, (.move (.tmp 44)), none⟩,
                  ⟨some 46, (.move (.tmp 9)), some (45, false)⟩,
                  ⟨some 47, (.move (.tmp 0)), some (45, false)⟩,
                  ⟨some 48, (.call { callee := (.builtin .len), args := #[(.tmp 47)], argTypes := #[22] }), some (45, false)⟩,
                  ⟨some 49, (.binOp .geq 3 (.tmp 46) (.tmp 48) 3), some (45, false)⟩,
                  ⟨some 50, (.pick (.tmp 45) (.const (.bool true)) (.tmp 49)), none⟩,
                  ⟨some 51, (.move (.tmp 50)), none⟩,
                  ⟨some 52, (.move (.tmp 0)), some (51, false)⟩,
                  ⟨some 53, (.move (.tmp 8)), some (51, false)⟩,
                  ⟨some 54, (.indexAddr 22 (.tmp 52) (.tmp 53)), some (51, false)⟩,
                  ⟨some 55, (.fieldAddr 40 (.tmp 54) 1), some (51, false)⟩,
                  ⟨some 56, (.load 3 (.tmp 55)), some (51, false)⟩,
                  ⟨some 57, (.move (.tmp 0)), some (51, false)⟩,
                  ⟨some 58, (.move (.tmp 9)), some (51, false)⟩,
                  ⟨some 59, (.indexAddr 22 (.tmp 57) (.tmp 58)), some (51, false)⟩,
                  ⟨some 60, (.fieldAddr 40 (.tmp 59) 0), some (51, false)⟩,
                  ⟨some 61, (.load 3 (.tmp 60)), some (51, false)⟩,
                  ⟨some 62, (.binOp .neq 3 (.tmp 56) (.tmp 61) 3), some (51, false)⟩,
                  ⟨some 63, (.pick (.tmp 51) (.const (.bool true)) (.tmp 62)), none⟩,
                  ⟨some 64, (.move (.tmp 63)), none⟩,
                  ⟨some 65, (.move (.tmp 6)), some (64, false)⟩,
                  ⟨some 66, (.move (.tmp 0)), some (64, false)⟩,
                  ⟨some 67, (.move (.tmp 8)), some (64, false)⟩,
                  ⟨some 68, (.indexAddr 22 (.tmp 66) (.tmp 67)), some (64, false)⟩,
                  ⟨some 69, (.fieldAddr 40 (.tmp 68) 0), some (64, false)⟩,
                  ⟨some 70, (.load 3 (.tmp 69)), some (64, false)⟩,
                  ⟨some 71, (.call { callee := (.value (.func 43)), args := #[(.tmp 65), (.tmp 70)], argTypes := #[32, 3] }), some (64, false)⟩,
                  ⟨some 72, (.pick (.tmp 64) (.const (.bool true)) (.tmp 71)), none⟩])
                (.cond (.tmp 72)
                 (.seq (.reg [⟨some 4, (.assign (.const (.bool false))), none⟩])
                  .ret)
                 .skip))
               (.seq (.reg [⟨some 73, (.move (.tmp 6)), none⟩,
                  ⟨some 74, (.move (.tmp 0)), none⟩,
                  ⟨some 75, (.move (.tmp 8)), none⟩,
                  ⟨some 76, (.indexAddr 22 (.tmp 74) (.tmp 75)), none⟩,
                  ⟨some 77, (.fieldAddr 40 (.tmp 76) 0), none⟩,
                  ⟨some 78, (.load 3 (.tmp 77)), none⟩,
                  ⟨some 79, (.buildSlice 32 1 #[(0, (.tmp 78))]), none⟩,
                  ⟨some 80, (.call { callee := (.builtin .append), args := #[(.tmp 73), (.tmp 79)], argTypes := #[32, 32] }), none⟩,
                  ⟨some 6, (.assign (.tmp 80)), none⟩])
                (.reg [⟨some 81, (.move (.tmp 5)), none⟩,
                  ⟨some 82, (.move (.tmp 0)), none⟩,
                  ⟨some 83, (.move (.tmp 8)), none⟩,
                  ⟨some 84, (.indexAddr 22 (.tmp 82) (.tmp 83)), none⟩,
                  ⟨some 85, (.fieldAddr 40 (.tmp 84) 2), none⟩,
                  ⟨some 86, (.load 3 (.tmp 85)), none⟩,
                  ⟨some 87, (.binOp .add 3 (.tmp 81) (.tmp 86) 3), none⟩,
                  ⟨some 5, (.assign (.tmp 87)), none⟩]))))))
           (.reg [⟨some 88, (.binOp .add 3 (.tmp 20) (.const (.int .i64 1)) 3), none⟩,
             ⟨some 20, (.move (.tmp 88)), none⟩])))))))
     (.seq (.reg [⟨some 89, (.move (.tmp 5)), none⟩,
        ⟨some 90, (.binOp .lss 3 (.tmp 89) (.const (.int .i64 0)) 3), none⟩,
        ⟨some 4, (.assign (.tmp 90)), none⟩])
      .ret))))))
theorem k27 : FOK Try.prog 27 91 c27 [4] := ⟨⟨Try.f27, _, by kernel_rfl, by kernel_rfl, rfl, by kernel_rfl, rfl, by kernel_rfl, by decide⟩⟩

/-- slices.Max[[]int,int] -/
def c28 : SC :=
  (.seq (.reg [⟨some 2, (.assign (.const (.int .i64 0))), none⟩])
 (.seq (.seq (.reg [⟨some 5, (.move (.tmp 0)), none⟩,
     ⟨some 6, (.call { callee := (.builtin .len), args := #[(.tmp 5)], argTypes := #[32] }), none⟩,
     ⟨some 7, (.binOp .lss 3 (.tmp 6) (.const (.int .i64 1)) 3), none⟩])
   (.cond (.tmp 7)
    (.reg [⟨some 8, (.makeInterface 9 (.const (.string { data := #[115, 108, 105, 99, 101, 115, 46, 77, 97, 120, 58, 32, 101, 109, 112, 116, 121, 32, 108, 105, 115, 116] }))), none⟩,
      ⟨none, (.panic (.tmp 8)), none⟩])
    .skip))
  (.seq (.reg [⟨some 9, (.move (.tmp 0)), none⟩,
     ⟨some 10, (.indexAddr 32 (.tmp 9) (.const (.int .i64 0))), none⟩,
     ⟨some 11, (.load 3 (.tmp 10)), none⟩,
     ⟨some 3, (.assign (.tmp 11)), none⟩])
   (.seq (.seq (.reg [⟨some 4, (.assign (.const (.int .i64 1))), none⟩])
     (.block 0
      (.loop
       (.seq (.seq (.reg [⟨some 12, (.move (.tmp 4)), none⟩,
           ⟨some 13, (.move (.tmp 0)), none⟩,
           ⟨some 14, (.call { callee := (.builtin .len), args := #[(.tmp 13)], argTypes := #[32] }), none⟩,
           ⟨some 15, (.binOp .lss 3 (.tmp 12) (.tmp 14) 3), none⟩])
         (.cond (.tmp 15)
          .skip
          (.exit 0)))
        (.seq (.block 1
          (.reg [⟨some 18, (.move (.tmp 3)), none⟩,
            ⟨some 19, (.move (.tmp 0)), none⟩,
            ⟨some 20, (.move (.tmp 4)), none⟩,
            ⟨some 21, (.indexAddr 32 (.tmp 19) (.tmp 20)), none⟩,
            ⟨some 22, (.load 3 (.tmp 21)), none⟩,
            ⟨some 23, (.call { callee := (.builtin .max), args := #[(.tmp 18), (.tmp 22)], argTypes := #[3, 3] }), none⟩,
            ⟨some 3, (.assign (.tmp 23)), none⟩]))
         (.reg [⟨some 16, (.move (.tmp 4)), none⟩,
           ⟨some 17, (.binOp .add 3 (.tmp 16) (.const (.int .i64 1)) 3), none⟩,
           ⟨some 4, (.assign (.tmp 17)), none⟩]))))))
    (.seq (.reg [⟨some 24, (.move (.tmp 3)), none⟩,
       ⟨some 2, (.assign (.tmp 24)), none⟩])
     .ret)))))
theorem k28 : FOK Try.prog 28 25 c28 [2] := ⟨⟨Try.f28, _, by kernel_rfl, by kernel_rfl, rfl, by kernel_rfl, rfl, by kernel_rfl, by decide⟩⟩

/-- timesync.diffcon.Add -/
def c29 : SC :=
  (.seq (.reg [⟨some 3, (.box 40 (.tmp 1)), none⟩,
   ⟨some 4, (.assign (.const (.slice none 0 0))), none⟩,
   ⟨some 5, (.assign (.const (.int .i64 0))), none⟩])
 (.seq (.seq (.reg [⟨some 13, (.move (.tmp 0)), none⟩,
     ⟨some 14, (.load 40 (.tmp 3)), none⟩,
     ⟨some 15, (.call { callee := (.value (.func 44)), args := #[(.tmp 13), (.tmp 14)], argTypes := #[25, 40] }), none⟩,
     ⟨some 16, (.unOp .not 4 (.tmp 15)), none⟩])
   (.cond (.tmp 16)
    (.seq (.reg [⟨some 4, (.assign (.const (.slice none 0 0))), none⟩,
       ⟨some 5, (.assign (.const (.int .i64 2))), none⟩])
     .ret)
    .skip))
  (.seq (.seq (.regq [⟨some 17, (.move (.tmp 0)), none⟩,
      ⟨some 18, (.fieldAddr 40 (.tmp 3) 1), none⟩,
      ⟨some 19, (.load 3 (.tmp 18)), none⟩,
      ⟨some 20, (.indexAddr 25 (.tmp 17) (.tmp 19)), none⟩,
      ⟨some 21, (.load 32 (.tmp 20)), none⟩,
      ⟨some 22, (.fieldAddr 40 (.tmp 3) 0), none⟩,
      ⟨some 23, (.load 3 (.tmp 22)), none⟩,
      ⟨some 24, (.indexAddr 32 (.tmp 21) (.tmp 23)), none⟩,
      ⟨some 25, (.load 3 (.tmp 24)), none⟩,
      ⟨some 6, (.assign (.tmp 25)), none⟩])
    (.seq (.reg [⟨some 26, (.move (.tmp 6)), none⟩,
       ⟨some 27, (.binOp .neq 3 (.tmp 26) (.const (.int .i64 4611686018427387904)) 3), none⟩,
       ⟨some 28, (.move (.tmp 27)), none⟩,
       ⟨some 29, (.move (.tmp 6)), some (28, true)⟩,
       ⟨some 30, (.fieldAddr 40 (.tmp 3) 2), some (28, true)⟩,
       ⟨some 31, (.load 3 (.tmp 30)), some (28, true)⟩,
       ⟨some 32, (.binOp .add 3 (.tmp 29) (.tmp 31) 3), some (28, true)⟩,
       ⟨some 33, (.binOp .lss 3 (.tmp 32) (.const (.int .i64 0)) 3), some (28, true)⟩,
       ⟨some 34, (.pick (.tmp 28) (.tmp 33) (.const (.bool false))), none⟩])
     (.cond (.tmp 34)
      (.seq (.reg [⟨some 4, (.assign (.const (.slice none 0 0))), none⟩,
         ⟨some 5, (.assign (.const (.int .i64 20))), none⟩])
       .ret)
      .skip)))
   (.seq (.reg [⟨some 7, (.assign (.const (.slice none 0 0))), none⟩])
    (.seq (.seq (.reg [⟨some 35, (.move (.tmp 0)), none⟩,
        ⟨some 36, (.call { callee := (.builtin .len), args := #[(.tmp 35)], argTypes := #[25] }), none⟩,
        ⟨some 37, (.move (.const (.int .i64 0))), none⟩])
      (.block 0
       (.loop
        (.seq (.reg [⟨some 38, (.binOp .lss 3 (.tmp 37) (.tmp 36) 3), none⟩])
         (.seq (.cond (.tmp 38)
           .skip
           (.exit 0))
          (.seq (.block 1
            (.seq (.reg [⟨some 39, (.indexAddr 25 (.tmp 35) (.tmp 37)), none⟩,
               ⟨some 40, (.load 32 (.tmp 39)), none⟩,
               ⟨some 9, (.assign (.tmp 40)), none⟩])
             (.seq (.reg [⟨some 41, (.move (.tmp 9)), none⟩,
                ⟨some 42, (.call { callee := (.value (.func 25)), args := #[(.tmp 41)], argTypes := #[32] }), none⟩,
                ⟨some 10, (.assign (.tmp 42)), none⟩])
              (.seq (.seq (.reg [⟨some 43, (.move (.tmp 0)), none⟩,
                  ⟨some 44, (.fieldAddr 40 (.tmp 3) 1), none⟩,
                  ⟨some 45, (.load 3 (.tmp 44)), none⟩,
                  ⟨some 46, (.indexAddr 25 (.tmp 43) (.tmp 45)), none⟩,
                  ⟨some 47, (.load 32 (.tmp 46)), none⟩,
                  ⟨some 48, (.call { callee := (.builtin .len), args := #[(.tmp 47)], argTypes := #[32] }), none⟩,
                  ⟨some 49, (.move (.const (.int .i64 0))), none⟩])
                (.block 2
                 (.loop
                  (.seq (.reg [⟨some 50, (.binOp .lss 3 (.tmp 49) (.tmp 48) 3), none⟩])
                   (.seq (.cond (.tmp 50)
                     .skip
                     (.exit 2))
                    (.seq (.block 3
                      (.seq (.reg [⟨some 51, (.move (.tmp 49)), none⟩,
                         ⟨some 52, (.indexAddr 32 (.tmp 47) (.tmp 49)), none⟩,
                         ⟨some 53, (.load 3 (.tmp 52)), none⟩,
                         ⟨some 11, (.assign (.tmp 51)), none⟩,
                         ⟨some 12, (.assign (.tmp 53)), none⟩])
                       (.seq (.reg [⟨some 54, (.move (.tmp 9)), none⟩,
                          ⟨some 55, (.fieldAddr 40 (.tmp 3) 0), none⟩,
                          ⟨some 56, (.load 3 (.tmp 55)), none⟩,
                          ⟨some 57, (.indexAddr 32 (.tmp 54) (.tmp 56)), none⟩,
                          ⟨some 58, (.load 3 (.tmp 57)), none⟩,
                          ⟨some 59, (.binOp .neq 3 (.tmp 58) (.const (.int .i64 4611686018427387904)) 3), none⟩,
                          ⟨some 60, (.move (.tmp 59)), none⟩,
                          ⟨some 61, (.move (.tmp 12)), some (60, true)⟩,
                          ⟨some 62, (.binOp .neq 3 (.tmp 61) (.const (.int .i64 4611686018427387904)) 3), some (60, true)⟩,
                          ⟨some 63, (.pick (.tmp 60) (.tmp 62) (.const (.bool false))), none⟩])
                        (.cond (.tmp 63)
                         (.regs [⟨some 64, (.move (.tmp 10)), none⟩,
                           ⟨some 65, (.move (.tmp 11)), none⟩,
                           ⟨some 66, (.move (.tmp 10)), none⟩,
                           ⟨some 67, (.move (.tmp 11)), none⟩,
                           ⟨some 68, (.indexAddr 32 (.tmp 66) (.tmp 67)), none⟩,
                           ⟨some 69, (.load 3 (.tmp 68)), none⟩,
                           ⟨some 70, (.move (.tmp 9)), none⟩,
                           ⟨some 71, (.fieldAddr 40 (.tmp 3) 0), none⟩,
                           ⟨some 72, (.load 3 (.tmp 71)), none⟩,
                           ⟨some 73, (.indexAddr 32 (.tmp 70) (.tmp 72)), none⟩,
                           ⟨some 74, (.load 3 (.tmp 73)), none⟩,
                           ⟨some 75, (.fieldAddr 40 (.tmp 3) 2), none⟩,
                           ⟨some 76, (.load 3 (.tmp 75)), none⟩,
                           ⟨some 77, (.binOp .add 3 (.tmp 74) (.tmp 76) 3), none⟩,
                           ⟨some 78, (.move (.tmp 12)), none⟩,
                           ⟨some 79, (.binOp .add 3 (.tmp 77) (.tmp 78) 3), none⟩,
                           ⟨some 80, (.call { callee := (.builtin .min), args := #[(.tmp 69), (.tmp 79)], argTypes := #[3, 3] }), none⟩,
                           ⟨some 81, (.indexAddr 32 (.tmp 64) (.tmp 65)), none⟩] [⟨none, (.store 3 (.tmp 81) (.tmp 80)), none⟩])
                         .skip))))
                     (.reg [⟨some 82, (.binOp .add 3 (.tmp 49) (.const (.int .i64 1)) 3), none⟩,
                       ⟨some 49, (.move (.tmp 82)), none⟩])))))))
               (.reg [⟨some 83, (.move (.tmp 7)), none⟩,
                 ⟨some 84, (.move (.tmp 10)), none⟩,
                 ⟨some 85, (.buildSlice 25 1 #[(0, (.tmp 84))]), none⟩,
                 ⟨some 86, (.call { callee := (.builtin .append), args := #[(.tmp 83), (.tmp 85)], argTypes := #[25, 25] }), none⟩,
                 ⟨some 7, (.assign (.tmp 86)), none⟩])))))
           (.reg [⟨some 87, (.binOp .add 3 (.tmp 37) (.const (.int .i64 1)) 3), none⟩,
             ⟨some 37, (.move (.tmp 87)), none⟩])))))))
     (.seq (.reg [⟨some 88, (.move (.tmp 7)), none⟩,
        ⟨some 4, (.assign (.tmp 88)), none⟩,
        ⟨some 5, (.assign (.const (.int .i64 0))), none⟩])
      .ret))))))
theorem k29 : FOK Try.prog 29 89 c29 [4, 5] := ⟨⟨Try.f29, _, by kernel_rfl, by kernel_rfl, rfl, by kernel_rfl, rfl, by kernel_rfl, by decide⟩⟩

/-- timesync.timesyncref51.Add -/
def c30 : SC :=
  (.seq (.reg [⟨some 3, (.box 40 (.tmp 1)), none⟩,
   ⟨some 4, (.assign (.const (.slice none 0 0))), none⟩,
   ⟨some 5, (.assign (.const (.int .i64 0))), none⟩])
 (.seq (.reg [⟨some 13, (.move (.tmp 0)), none⟩,
    ⟨some 14, (.call { callee := (.builtin .len), args := #[(.tmp 13)], argTypes := #[25] }), none⟩,
    ⟨some 6, (.assign (.tmp 14)), none⟩])
  (.seq (.seq (.reg [⟨some 15, (.move (.tmp 6)), none⟩,
      ⟨some 16, (.binOp .lss 3 (.tmp 15) (.const (.int .i64 1)) 3), none⟩,
      ⟨some 17, (.move (.tmp 16)), none⟩,
      ⟨some 18, (.move (.tmp 6)), some (17, false)⟩,
      ⟨some 19, (.binOp .gtr 3 (.tmp 18) (.const (.int .i64 160)) 3), some (17, false)⟩,
      ⟨some 20, (.pick (.tmp 17) (.const (.bool true)) (.tmp 19)), none⟩,
      ⟨some 21, (.move (.tmp 20)), none⟩,
      ⟨some 22, (.move (.tmp 6)), some (21, false)⟩,
      ⟨some 23, (.load 40 (.tmp 3)), some (21, false)⟩,
      ⟨some 24, (.call { callee := (.value (.func 35)), args := #[(.tmp 22), (.tmp 23)], argTypes := #[3, 40] }), some (21, false)⟩,
      ⟨some 25, (.unOp .not 4 (.tmp 24)), some (21, false)⟩,
      ⟨some 26, (.pick (.tmp 21) (.const (.bool true)) (.tmp 25)), none⟩])
    (.cond (.tmp 26)
     (.seq (.reg [⟨some 4, (.assign (.const (.slice none 0 0))), none⟩,
        ⟨some 5, (.assign (.const (.int .i64 2))), none⟩])
      .ret)
     .skip))
   (.seq (.seq (.reg [⟨some 7, (.assign (.const (.int .i64 0))), none⟩])
     (.block 0
      (.loop
       (.seq (.seq (.reg [⟨some 27, (.move (.tmp 7)), none⟩,
           ⟨some 28, (.move (.tmp 6)), none⟩,
           ⟨some 29, (.binOp .lss 3 (.tmp 27) (.tmp 28) 3), none⟩])
         (.cond (.tmp 29)
          .skip
          (.exit 0)))
        (.seq (.block 1
          (.seq (.seq (.reg [⟨some 32, (.move (.tmp 0)), none⟩,
              ⟨some 33, (.move (.tmp 7)), none⟩,
              ⟨some 34, (.indexAddr 25 (.tmp 32) (.tmp 33)), none⟩,
              ⟨some 35, (.load 32 (.tmp 34)), none⟩,
              ⟨some 36, (.call { callee := (.builtin .len), args := #[(.tmp 35)], argTypes := #[32] }), none⟩,
              ⟨some 37, (.move (.tmp 6)), none⟩,
              ⟨some 38, (.binOp .neq 3 (.tmp 36) (.tmp 37) 3), none⟩])
            (.cond (.tmp 38)
             (.seq (.reg [⟨some 4, (.assign (.const (.slice none 0 0))), none⟩,
                ⟨some 5, (.assign (.const (.int .i64 2))), none⟩])
              .ret)
             .skip))
           (.seq (.reg [⟨some 8, (.assign (.const (.int .i64 0))), none⟩])
            (.block 2
             (.loop
              (.seq (.seq (.reg [⟨some 39, (.move (.tmp 8)), none⟩,
                  ⟨some 40, (.move (.tmp 6)), none⟩,
                  ⟨some 41, (.binOp .lss 3 (.tmp 39) (.tmp 40) 3), none⟩])
                (.cond (.tmp 41)
                 .skip
                 (.exit 2)))
               (.seq (.block 3
                 (.seq (.reg [⟨some 44, (.move (.tmp 0)), none⟩,
                    ⟨some 45, (.move (.tmp 7)), none⟩,
                    ⟨some 46, (.indexAddr 25 (.tmp 44) (.tmp 45)), none⟩,
                    ⟨some 47, (.load 32 (.tmp 46)), none⟩,
                    ⟨some 48, (.move (.tmp 8)), none⟩,
                    ⟨some 49, (.indexAddr 32 (.tmp 47) (.tmp 48)), none⟩,
                    ⟨some 50, (.load 3 (.tmp 49)), none⟩,
                    ⟨some 9, (.assign (.tmp 50)), none⟩])
                  (.seq (.reg [⟨some 51, (.move (.tmp 9)), none⟩,
                     ⟨some 52, (.binOp .neq 3 (.tmp 51) (.const (.int .i64 4611686018427387904)) 3), none⟩,
                     ⟨some 53, (.move (.tmp 52)), none⟩,
                     ⟨some 54, (.move (.tmp 9)), some (53, true)⟩,
                     ⟨some 55, (.binOp .lss 3 (.tmp 54) (.const (.int .i64 (-2305843009213693952))) 3), some (53, true)⟩,
                     ⟨some 56, (.move (.tmp 55)), some (53, true)⟩,
                     ⟨some 57, (.move (.tmp 9)), some (56, false)⟩,
                     ⟨some 58, (.binOp .gtr 3 (.tmp 57) (.const (.int .i64 2305843009213693952)) 3), some (56, false)⟩,
                     ⟨some 59, (.pick (.tmp 56) (.const (.bool true)) (.tmp 58)), some (53, true)⟩,
                     ⟨some 60, (.pick (.tmp 53) (.tmp 59) (.const (.bool false))), none⟩,
                     ⟨some 61, (.move (.tmp 60)), none⟩,
                     ⟨some 62, (.move (.tmp 7)), some (61, false)⟩,
                     ⟨some 63, (.move (.tmp 8)), some (61, false)⟩,
                     ⟨some 64, (.binOp .eql 3 (.tmp 62) (.tmp 63) 3), some (61, false)⟩,
                     ⟨some 65, (.move (.tmp 64)), some (61, false)⟩,
                     ⟨some 66, (.move (.tmp 9)), some (65, true)⟩,
                     ⟨some 67, (.binOp .neq 3 (.tmp 66) (.const (.int .i64 0)) 3), some (65, true)⟩,
                     ⟨some 68, (.pick (.tmp 65) (.tmp 67) (.const (.bool false))), some (61, false)⟩,
                     ⟨some 69, (.pick (.tmp 61) (.const (.bool true)) (.tmp 68)), none⟩])
                   (.cond (.tmp 69)
                    (.seq (.reg [⟨some 4, (.assign (.const (.slice none 0 0))), none⟩,
                       ⟨some 5, (.assign (.const (.int .i64 2))), none⟩])
                     .ret)
                    .skip))))
                (.reg [⟨some 42, (.move (.tmp 8)), none⟩,
                  ⟨some 43, (.binOp .add 3 (.tmp 42) (.const (.int .i64 1)) 3), none⟩,
                  ⟨some 8, (.assign (.tmp 43)), none⟩]))))))))
         (.reg [⟨some 30, (.move (.tmp 7)), none⟩,
           ⟨some 31, (.binOp .add 3 (.tmp 30) (.const (.int .i64 1)) 3), none⟩,
           ⟨some 7, (.assign (.tmp 31)), none⟩]))))))
    (.seq (.seq (.regq [⟨some 70, (.move (.tmp 0)), none⟩,
        ⟨some 71, (.fieldAddr 40 (.tmp 3) 1), none⟩,
        ⟨some 72, (.load 3 (.tmp 71)), none⟩,
        ⟨some 73, (.indexAddr 25 (.tmp 70) (.tmp 72)), none⟩,
        ⟨some 74, (.load 32 (.tmp 73)), none⟩,
        ⟨some 75, (.fieldAddr 40 (.tmp 3) 0), none⟩,
        ⟨some 76, (.load 3 (.tmp 75)), none⟩,
        ⟨some 77, (.indexAddr 32 (.tmp 74) (.tmp 76)), none⟩,
        ⟨some 78, (.load 3 (.tmp 77)), none⟩,
        ⟨some 79, (.binOp .neq 3 (.tmp 78) (.const (.int .i64 4611686018427387904)) 3), none⟩,
        ⟨some 80, (.move (.tmp 79)), none⟩,
        ⟨some 81, (.move (.tmp 0)), some (80, true)⟩,
        ⟨some 82, (.fieldAddr 40 (.tmp 3) 1), some (80, true)⟩,
        ⟨some 83, (.load 3 (.tmp 82)), some (80, true)⟩,
        ⟨some 84, (.indexAddr 25 (.tmp 81) (.tmp 83)), some (80, true)⟩,
        ⟨some 85, (.load 32 (.tmp 84)), some (80, true)⟩,
        ⟨some 86, (.fieldAddr 40 (.tmp 3) 0), some (80, true)⟩,
        ⟨some 87, (.load 3 (.tmp 86)), some (80, true)⟩,
        ⟨some 88, (.indexAddr 32 (.tmp 85) (.tmp 87)), some (80, true)⟩,
        ⟨some 89, (.load 3 (.tmp 88)), some (80, true)⟩,
        ⟨some 90, (.fieldAddr 40 (.tmp 3) 2), some (80, true)⟩,
        ⟨some 91, (.load 3 (.tmp 90)), some (80, true)⟩,
        ⟨some 92, (.binOp .add 3 (.tmp 89) (.tmp 91) 3), some (80, true)⟩,
        ⟨some 93, (.binOp .lss 3 (.tmp 92) (.const (.int .i64 0)) 3), some (80, true)⟩,
        ⟨some 94, (.pick (.tmp 80) (.tmp 93) (.const (.bool false))), none⟩])
      (.cond (.tmp 94)
       (.seq (.reg [⟨some 4, (.assign (.const (.slice none 0 0))), none⟩,
          ⟨some 5, (.assign (.const (.int .i64 20))), none⟩])
        .ret)
       .skip))
     (.seq (.reg [⟨some 95, (.move (.tmp 6)), none⟩,
        ⟨some 96, (.makeSlice 25 (.tmp 95) (.tmp 95)), none⟩,
        ⟨some 10, (.assign (.tmp 96)), none⟩])
      (.seq (.seq (.reg [⟨some 11, (.assign (.const (.int .i64 0))), none⟩])
        (.block 4
         (.loop
          (.seq (.seq (.reg [⟨some 97, (.move (.tmp 11)), none⟩,
              ⟨some 98, (.move (.tmp 6)), none⟩,
              ⟨some 99, (.binOp .lss 3 (.tmp 97) (.tmp 98) 3), none⟩])
            (.cond (.tmp 99)
             .skip
             (.exit 4)))
           (.seq (.block 5
             (.seq (.reg [⟨some 102, (.move (.tmp 10)), none⟩,
                ⟨some 103, (.move (.tmp 11)), none⟩,
                ⟨some 104, (.buildSlice 32 0 #[]), none⟩,
                ⟨some 105, (.move (.tmp 0)), none⟩,
                ⟨some 106, (.move (.tmp 11)), none⟩,
                ⟨some 107, (.indexAddr 25 (.tmp 105) (.tmp 106)), none⟩,
                ⟨some 108, (.load 32 (.tmp 107)), none⟩,
                ⟨some 109, (.call { callee := (.builtin .append), args := #[(.tmp 104), (.tmp 108)], argTypes := #[32, 32] }), none⟩,
                ⟨some 110, (.indexAddr 25 (.tmp 102) (.tmp 103)), none⟩,
                ⟨none, (.store 32 (.tmp 110) (.tmp 109)), none⟩])
              (.seq (.reg [⟨some 12, (.assign (.const (.int .i64 0))), none⟩])
               (.block 6
                (.loop
                 (.seq (.seq (.reg [⟨some 111, (.move (.tmp 12)), none⟩,
                     ⟨some 112, (.move (.tmp 6)), none⟩,
                     ⟨some 113, (.binOp .lss 3 (.tmp 111) (.tmp 112) 3), none⟩])
                   (.cond (.tmp 113)
                    .skip
                    (.exit 6)))
                  (.seq (.block 7
                    (.seq (.regq [⟨some 116, (.move (.tmp 0)), none⟩,
                       ⟨some 117, (.move (.tmp 11)), none⟩,
                       ⟨some 118, (.indexAddr 25 (.tmp 116) (.tmp 117)), none⟩,
                       ⟨some 119, (.load 32 (.tmp 118)), none⟩,
                       ⟨some 120, (.fieldAddr 40 (.tmp 3) 0), none⟩,
                       ⟨some 121, (.load 3 (.tmp 120)), none⟩,
                       ⟨some 122, (.indexAddr 32 (.tmp 119) (.tmp 121)), none⟩,
                       ⟨some 123, (.load 3 (.tmp 122)), none⟩,
                       ⟨some 124, (.binOp .neq 3 (.tmp 123) (.const (.int .i64 4611686018427387904)) 3), none⟩,
                       ⟨some 125, (.move (.tmp 124)), none⟩,
                       ⟨some 126, (.move (.tmp 0)), some (125, true)⟩,
                       ⟨some 127, (.fieldAddr 40 (.tmp 3) 1), some (125, true)⟩,
                       ⟨some 128, (.load 3 (.tmp 127)), some (125, true)⟩,
                       ⟨some 129, (.indexAddr 25 (.tmp 126) (.tmp 128)), some (125, true)⟩,
                       ⟨some 130, (.load 32 (.tmp 129)), some (125, true)⟩,
                       ⟨some 131, (.move (.tmp 12)), some (125, true)⟩,
                       ⟨some 132, (.indexAddr 32 (.tmp 130) (.tmp 131)), some (125, true)⟩,
                       ⟨some 133, (.load 3 (.tmp 132)), some (125, true)⟩,
                       ⟨some 134, (.binOp .neq 3 (.tmp 133) (.const (.int .i64 4611686018427387904)) 3), some (125, true)⟩,
                       ⟨some 135, (.pick (.tmp 125) (.tmp 134) (.const (.bool false))), none⟩,
                       ⟨some 136, (.move (.tmp 135)), none⟩,
                       ⟨some 137, (.move (.tmp 0)), some (136, true)⟩,
                       ⟨some 138, (.move (.tmp 11)), some (136, true)⟩,
                       ⟨some 139, (.indexAddr 25 (.tmp 137) (.tmp 138)), some (136, true)⟩,
                       ⟨some 140, (.load 32 (.tmp 139)), some (136, true)⟩,
                       ⟨some 141, (.fieldAddr 40 (.tmp 3) 0), some (136, true)⟩,
                       ⟨some 142, (.load 3 (.tmp 141)), some (136, true)⟩,
                       ⟨some 143, (.indexAddr 32 (.tmp 140) (.tmp 142)), some (136, true)⟩,
                       ⟨some 144, (.load 3 (.tmp 143)), some (136, true)⟩,
                       ⟨some 145, (.fieldAddr 40 (.tmp 3) 2), some (136, true)⟩,
                       ⟨some 146, (.load 3 (.tmp 145)), some (136, true)⟩,
                       ⟨some 147, (.binOp .add 3 (.tmp 144) (.tmp 146) 3), some (136, true)⟩,
                       ⟨some 148, (.move (.tmp 0)), some (136, true)⟩,
                       ⟨some 149, (.fieldAddr 40 (.tmp 3) 1), some (136, true)⟩,
                       ⟨some 150, (.load 3 (.tmp 149)), some (136, true)⟩,
                       ⟨some 151, (.indexAddr 25 (.tmp 148) (.tmp 150)), some (136, true)⟩,
                       ⟨some 152, (.load 32 (.tmp 151)), some (136, true)⟩,
                       ⟨some 153, (.move (.tmp 12)), some (136, true)⟩,
                       ⟨some 154, (.indexAddr 32 (.tmp 152) (.tmp 153)), some (136, true)⟩,
                       ⟨some 155, (.load 3 (.tmp 154)), some (136, true)⟩,
                       ⟨some 156, (.binOp .add 3 (.tmp 147) (.tmp 155) 3), some (136, true)⟩,
                       ⟨some 157, (.move (.tmp 10)), some (136, true)⟩,
                       ⟨some 158, (.move (.tmp 11)), some (136, true)⟩,
                       ⟨some 159, (.indexAddr 25 (.tmp 157) (.tmp 158)), some (136, true)⟩,
                       ⟨some 160, (.load 32 (.tmp 159)), some (136, true)⟩,
                       ⟨some 161, (.move (.tmp 12)), some (136, true)⟩,
                       ⟨some 162, (.indexAddr 32 (.tmp 160) (.tmp 161)), some (136, true)⟩,
                       ⟨some 163, (.load 3 (.tmp 162)), some (136, true)⟩,
                       ⟨some 164, (.binOp .lss 3 (.tmp 156) (.tmp 163) 3), some (136, true)⟩,
                       ⟨some 165, (.pick (.tmp 136) (.tmp 164) (.const (.bool false))), none⟩])
                     (.cond (.tmp 165)
                      (.regs [⟨some 166, (.move (.tmp 10)), none⟩,
                        ⟨some 167, (.move (.tmp 11)), none⟩,
                        ⟨some 168, (.indexAddr 25 (.tmp 166) (.tmp 167)), none⟩,
                        ⟨some 169, (.load 32 (.tmp 168)), none⟩,
                        ⟨some 170, (.move (.tmp 12)), none⟩,
                        ⟨some 171, (.move (.tmp 0)), none⟩,
                        ⟨some 172, (.move (.tmp 11)), none⟩,
                        ⟨some 173, (.indexAddr 25 (.tmp 171) (.tmp 172)), none⟩,
                        ⟨some 174, (.load 32 (.tmp 173)), none⟩,
                        ⟨some 175, (.fieldAddr 40 (.tmp 3) 0), none⟩,
                        ⟨some 176, (.load 3 (.tmp 175)), none⟩,
                        ⟨some 177, (.indexAddr 32 (.tmp 174) (.tmp 176)), none⟩,
                        ⟨some 178, (.load 3 (.tmp 177)), none⟩,
                        ⟨some 179, (.fieldAddr 40 (.tmp 3) 2), none⟩,
                        ⟨some 180, (.load 3 (.tmp 179)), none⟩,
                        ⟨some 181, (.binOp .add 3 (.tmp 178) (.tmp 180) 3), none⟩,
                        ⟨some 182, (.move (.tmp 0)), none⟩,
                        ⟨some 183, (.fieldAddr 40 (.tmp 3) 1), none⟩,
                        ⟨some 184, (.load 3 (.tmp 183)), none⟩,
                        ⟨some 185, (.indexAddr 25 (.tmp 182) (.tmp 184)), none⟩,
                        ⟨some 186, (.load 32 (.tmp 185)), none⟩,
                        ⟨some 187, (.move (.tmp 12)), none⟩,
                        ⟨some 188, (.indexAddr 32 (.tmp 186) (.tmp 187)), none⟩,
                        ⟨some 189, (.load 3 (.tmp 188)), none⟩,
                        ⟨some 190, (.binOp .add 3 (.tmp 181) (.tmp 189) 3), none⟩,
                        ⟨some 191, (.indexAddr 32 (.tmp 169) (.tmp 170)), none⟩] [⟨none, (.store 3 (.tmp 191) (.tmp 190)), none⟩])
                      .skip)))
                   (.reg [⟨some 114, (.move (.tmp 12)), none⟩,
                     ⟨some 115, (.binOp .add 3 (.tmp 114) (.const (.int .i64 1)) 3), none⟩,
                     ⟨some 12, (.assign (.tmp 115)), none⟩]))))))))
            (.reg [⟨some 100, (.move (.tmp 11)), none⟩,
              ⟨some 101, (.binOp .add 3 (.tmp 100) (.const (.int .i64 1)) 3), none⟩,
              ⟨some 11, (.assign (.tmp 101)), none⟩]))))))
       (.seq (.reg [⟨some 192, (.move (.tmp 10)), none⟩,
          ⟨some 4, (.assign (.tmp 192)), none⟩,
          ⟨some 5, (.assign (.const (.int .i64 0))), none⟩])
        .ret))))))))
theorem k30 : FOK Try.prog 30 193 c30 [4, 5] := ⟨⟨Try.f30, _, by kernel_rfl, by kernel_rfl, rfl, by kernel_rfl, rfl, by kernel_rfl, by decide⟩⟩

/-- slices.Clone[[]timesync.api.Con,timesync.api.Con] -/
def c31 : SC :=
  (.seq (.reg [⟨some 2, (.assign (.const (.slice none 0 0))), none⟩])
 (.seq (.seq (.reg [⟨some 3, (.move (.tmp 0)), none⟩,
     ⟨some 4, (.binOp .eql 22 (.tmp 3) (.const (.slice none 0 0)) 22), none⟩])
   (.cond (.tmp 4)
    (.seq (.reg [⟨some 2, (.assign (.const (.slice none 0 0))), none⟩])
     .ret)
    .skip))
  (.seq (.reg [⟨some 5, (.buildSlice 22 0 #[]), none⟩,
     ⟨some 6, (.move (.tmp 0)), none⟩,
     ⟨some 7, (.call { callee := (.builtin .append), args := #[(.tmp 5), (.tmp 6)], argTypes := #[22, 22] }), none⟩,
     ⟨some 2, (.assign (.tmp 7)), none⟩])
   .ret)))
theorem k31 : FOK Try.prog 31 8 c31 [2] := ⟨⟨Try.f31, _, by kernel_rfl, by kernel_rfl, rfl, by kernel_rfl, rfl, by kernel_rfl, by decide⟩⟩

/-- timesync.diffcon.solve -/
def c32 : SC :=
  (.seq (.reg [⟨some 4, (.assign (.const (.slice none 0 0))), none⟩,
   ⟨some 5, (.assign (.const (.bool false))), none⟩])
 (.seq (.reg [⟨some 9, (.move (.tmp 0)), none⟩,
    ⟨some 10, (.makeSlice 32 (.tmp 9) (.tmp 9)), none⟩,
    ⟨some 6, (.assign (.tmp 10)), none⟩])
  (.seq (.reg [⟨some 12, (.move (.tmp 1)), none⟩,
     ⟨some 13, (.move (.tmp 6)), none⟩,
     ⟨some 14, (.call { callee := (.value (.func 41)), args := #[(.tmp 12), (.tmp 13)], argTypes := #[22, 32] }), none⟩,
     ⟨some 11, (.move (.tmp 14)), none⟩,
     ⟨some 15, (.extract (.tmp 11) 0), none⟩,
     ⟨some 16, (.extract (.tmp 11) 1), none⟩,
     ⟨some 7, (.assign (.tmp 15)), none⟩,
     ⟨some 8, (.assign (.tmp 16)), none⟩])
   (.seq (.reg [⟨some 17, (.move (.tmp 6)), none⟩,
      ⟨some 18, (.move (.tmp 8)), none⟩,
      ⟨some 19, (.binOp .lss 3 (.tmp 18) (.const (.int .i64 0)) 3), none⟩,
      ⟨some 4, (.assign (.tmp 17)), none⟩,
      ⟨some 5, (.assign (.tmp 19)), none⟩])
    .ret))))
theorem k32 : FOK Try.prog 32 20 c32 [4, 5] := ⟨⟨Try.f32, _, by kernel_rfl, by kernel_rfl, rfl, by kernel_rfl, rfl, by kernel_rfl, by decide⟩⟩

/-- timesync.diffcon.from -/
def c33 : SC :=
  (.seq (.reg [⟨some 6, (.assign (.const (.slice none 0 0))), none⟩])
 (.seq (.reg [⟨some 8, (.buildSlice 32 1 #[(0, (.const (.int .i64 4611686018427387904)))]), none⟩,
    ⟨some 9, (.move (.tmp 0)), none⟩,
    ⟨some 10, (.call { callee := (.value (.func 45)), args := #[(.tmp 8), (.tmp 9)], argTypes := #[32, 3] }), none⟩,
    ⟨some 7, (.assign (.tmp 10)), none⟩])
  (.seq (.reg [⟨some 11, (.move (.tmp 7)), none⟩,
     ⟨some 12, (.move (.tmp 2)), none⟩,
     ⟨some 13, (.indexAddr 32 (.tmp 11) (.tmp 12)), none⟩,
     ⟨none, (.store 3 (.tmp 13) (.const (.int .i64 0))), none⟩])
   (.seq (.reg [⟨some 14, (.move (.tmp 1)), none⟩,
      ⟨some 15, (.move (.tmp 7)), none⟩,
      ⟨some 16, (.call { callee := (.value (.func 41)), args := #[(.tmp 14), (.tmp 15)], argTypes := #[22, 32] }), none⟩])
    (.seq (.reg [⟨some 17, (.move (.tmp 7)), none⟩,
       ⟨some 6, (.assign (.tmp 17)), none⟩])
     .ret)))))
theorem k33 : FOK Try.prog 33 18 c33 [6] := ⟨⟨Try.f33, _, by kernel_rfl, by kernel_rfl, rfl, by kernel_rfl, rfl, by kernel_rfl, by decide⟩⟩

/-- timesync.diffcon.within[int] -/
def c34 : SC :=
  (.seq (.reg [⟨some 6, (.assign (.const (.bool false))), none⟩])
 (.seq (.reg [⟨some 7, (.move (.tmp 1)), none⟩,
    ⟨some 8, (.move (.tmp 0)), none⟩,
    ⟨some 9, (.binOp .leq 3 (.tmp 7) (.tmp 8) 3), none⟩,
    ⟨some 10, (.move (.tmp 9)), none⟩,
    ⟨some 11, (.move (.tmp 0)), some (10, true)⟩,
    ⟨some 12, (.move (.tmp 2)), some (10, true)⟩,
    ⟨some 13, (.binOp .leq 3 (.tmp 11) (.tmp 12) 3), some (10, true)⟩,
    ⟨some 14, (.pick (.tmp 10) (.tmp 13) (.const (.bool false))), none⟩,
    ⟨some 6, (.assign (.tmp 14)), none⟩])
  .ret))
theorem k34 : FOK Try.prog 34 15 c34 [6] := ⟨⟨Try.f34, _, by kernel_rfl, by kernel_rfl, rfl, by kernel_rfl, rfl, by kernel_rfl, by decide⟩⟩

/-- timesync.timesyncref51.right -/
def c35 : SC :=
  (.seq (.reg [⟨some 3, (.box 40 (.tmp 1)), none⟩,
   ⟨some 4, (.assign (.const (.bool false))), none⟩])
 (.seq (.reg [⟨some 5, (.fieldAddr 40 (.tmp 3) 0), none⟩,
    ⟨some 6, (.load 3 (.tmp 5)), none⟩,
    ⟨some 7, (.binOp .geq 3 (.tmp 6) (.const (.int .i64 0)) 3), none⟩,
    ⟨some 8, (.move (.tmp 7)), none⟩,
    ⟨some 9, (.fieldAddr 40 (.tmp 3) 0), some (8, true)⟩,
    ⟨some 10, (.load 3 (.tmp 9)), some (8, true)⟩,
    ⟨some 11, (.move (.tmp 0)), some (8, true)⟩,
    ⟨some 12, (.binOp .lss 3 (.tmp 10) (.tmp 11) 3), some (8, true)⟩,
    ⟨some 13, (.pick (.tmp 8) (.tmp 12) (.const (.bool false))), none⟩,
    ⟨some 14, (.move (.tmp 13)), none⟩,
    ⟨some 15, (.fieldAddr 40 (.tmp 3) 1), some (14, true)⟩,
    ⟨some 16, (.load 3 (.tmp 15)), some (14, true)⟩,
    ⟨some 17, (.binOp .geq 3 (.tmp 16) (.const (.int .i64 0)) 3), some (14, true)⟩,
    ⟨some 18, (.pick (.tmp 14) (.tmp 17) (.const (.bool false))), none⟩,
    ⟨some 19, (.move (.tmp 18)), none⟩,
    ⟨some 20, (.fieldAddr 40 (.tmp 3) 1), some (19, true)⟩,
    ⟨some 21, (.load 3 (.tmp 20)), some (19, true)⟩,
    ⟨some 22, (.move (.tmp 0)), some (19, true)⟩,
    ⟨some 23, (.binOp .lss 3 (.tmp 21) (.tmp 22) 3), some (19, true)⟩,
    ⟨some 24, (.pick (.tmp 19) (.tmp 23) (.const (.bool false))), none⟩,
    ⟨some 25, (.move (.tmp 24)), none⟩,
    ⟨some 26, (.fieldAddr 40 (.tmp 3) 2), some (25, true)⟩,
    ⟨some 27, (.load 3 (.tmp 26)), some (25, true)⟩,
    ⟨some 28, (.binOp .geq 3 (.tmp 27) (.const (.int .i64 (-9007199254740992))) 3), some (25, true)⟩,
    ⟨some 29, (.pick (.tmp 25) (.tmp 28) (.const (.bool false))), none⟩,
    ⟨some 30, (.move (.tmp 29)), none⟩,
    ⟨some 31, (.fieldAddr 40 (.tmp 3) 2), some (30, true)⟩,
    ⟨some 32, (.load 3 (.tmp 31)), some (30, true)⟩,
    ⟨some 33, (.binOp .leq 3 (.tmp 32) (.const (.int .i64 9007199254740992)) 3), some (30, true)⟩,
    ⟨some 34, (.pick (.tmp 30) (.tmp 33) (.const (.bool false))), none⟩,
    ⟨some 4, (.assign (.tmp 34)), none⟩])
  .ret))
theorem k35 : FOK Try.prog 35 35 c35 [4] := ⟨⟨Try.f35, _, by kernel_rfl, by kernel_rfl, rfl, by kernel_rfl, rfl, by kernel_rfl, by decide⟩⟩

/-- slices.EqualFunc[[][]int,[][]int,[]int,[]int] -/
def c36 : SC :=
  (.seq (.reg [⟨some 6, (.assign (.const (.bool false))), none⟩])
 (.seq (.seq (.reg [⟨some 10, (.move (.tmp 0)), none⟩,
     ⟨some 11, (.call { callee := (.builtin .len), args := #[(.tmp 10)], argTypes := #[25] }), none⟩,
     ⟨some 12, (.move (.tmp 1)), none⟩,
     ⟨some 13, (.call { callee := (.builtin .len), args := #[(.tmp 12)], argTypes := #[25] }), none⟩,
     ⟨some 14, (.binOp .neq 3 (.tmp 11) (.tmp 13) 3), none⟩])
   (.cond (.tmp 14)
    (.seq (.reg [⟨some 6, (.assign (.const (.bool false))), none⟩])
     .ret)
    .skip))
  (.seq (.seq (.reg [⟨some 15, (.move (.tmp 0)), none⟩,
      ⟨some 16, (.call { callee := (.builtin .len), args := #[(.tmp 15)], argTypes := #[25] }), none⟩,
      ⟨some 17, (.move (.const (.int .i64 0))), none⟩])
    (.block 0
     (.loop
      (.seq (.reg [⟨some 18, (.binOp .lss 3 (.tmp 17) (.tmp 16) 3), none⟩])
       (.seq (.cond (.tmp 18)
         .skip
         (.exit 0))
        (.seq (.block 1
          (.seq (.reg [⟨some 19, (.move (.tmp 17)), none⟩,
             ⟨some 20, (.indexAddr 25 (.tmp 15) (.tmp 17)), none⟩,
             ⟨some 21, (.load 32 (.tmp 20)), none⟩,
             ⟨some 7, (.assign (.tmp 19)), none⟩,
             ⟨some 8, (.assign (.tmp 21)), none⟩])
           (.seq (.reg [⟨some 22, (.move (.tmp 1)), none⟩,
              ⟨some 23, (.move (.tmp 7)), none⟩,
              ⟨some 24, (.indexAddr 25 (.tmp 22) (.tmp 23)), none⟩,
              ⟨some 25, (.load 32 (.tmp 24)), none⟩,
              ⟨some 9, (.assign (.tmp 25)), none⟩])
            (.seq (.reg [⟨some 26, (.move (.tmp 2)), none⟩,
               ⟨some 27, (.move (.tmp 8)), none⟩,
               ⟨some 28, (.move (.tmp 9)), none⟩,
               ⟨some 29, (.call { callee := (.value (.tmp 26)), args := #[(.tmp 27), (.tmp 28)], argTypes := #[32, 32] }), none⟩,
               ⟨some 30, (.unOp .not 4 (.tmp 29)), none⟩])
             (.cond (.tmp 30)
              (.seq (.reg [⟨some 6, (.assign (.const (.bool false))), none⟩])
               .ret)
              .skip)))))
         (.reg [⟨some 31, (.binOp .add 3 (.tmp 17) (.const (.int .i64 1)) 3), none⟩,
           ⟨some 17, (.move (.tmp 31)), none⟩])))))))
   (.seq (.reg [⟨some 6, (.assign (.const (.bool true))), none⟩])
    .ret))))
theorem k36 : FOK Try.prog 36 32 c36 [6] := ⟨⟨Try.f36, _, by kernel_rfl, by kernel_rfl, rfl, by kernel_rfl, rfl, by kernel_rfl, by decide⟩⟩

/-- slices.ContainsFunc[[]timesync.api.Con,timesync.api.Con] -/
def c37 : SC :=
  (.seq (.reg [⟨some 4, (.assign (.const (.bool false))), none⟩])
 (.seq (.reg [⟨some 5, (.move (.tmp 0)), none⟩,
    ⟨some 6, (.move (.tmp 1)), none⟩,
    ⟨some 7, (.call { callee := (.value (.func 46)), args := #[(.tmp 5), (.tmp 6)], argTypes := #[22, 56] }), none⟩,
    ⟨some 8, (.binOp .geq 3 (.tmp 7) (.const (.int .i64 0)) 3), none⟩,
    ⟨some 4, (.assign (.tmp 8)), none⟩])
  .ret))
theorem k37 : FOK Try.prog 37 9 c37 [4] := ⟨⟨Try.f37, _, by kernel_rfl, by kernel_rfl, rfl, by kernel_rfl, rfl, by kernel_rfl, by decide⟩⟩

/-- timesync.diffcon.Holds$1 -/
def c38 : SC :=
  (.seq (.reg [⟨some 2, (.box 40 (.tmp 0)), none⟩,
   ⟨some 3, (.assign (.const (.bool false))), none⟩])
 (.seq (.regq [⟨some 4, (.fieldAddr 40 (.tmp 2) 0), none⟩,
    ⟨some 5, (.load 3 (.tmp 4)), none⟩,
    ⟨some 6, (.load 32 (.tmp 1)), none⟩,
    ⟨some 7, (.call { callee := (.builtin .len), args := #[(.tmp 6)], argTypes := #[32] }), none⟩,
    ⟨some 8, (.binOp .sub 3 (.tmp 7) (.const (.int .i64 1)) 3), none⟩,
    ⟨some 9, (.call { callee := (.value (.func 34)), args := #[(.tmp 5), (.const (.int .i64 0)), (.tmp 8)], argTypes := #[3, 3, 3] }), none⟩,
    ⟨some 10, (.unOp .not 4 (.tmp 9)), none⟩,
    ⟨some 11, (.move (.tmp 10)), none⟩,
    ⟨some 12, (.fieldAddr 40 (.tmp 2) 1), some (11, false)⟩,
    ⟨some 13, (.load 3 (.tmp 12)), some (11, false)⟩,
    ⟨some 14, (.load 32 (.tmp 1)), some (11, false)⟩,
    ⟨some 15, (.call { callee := (.builtin .len), args := #[(.tmp 14)], argTypes := #[32] }), some (11, false)⟩,
    ⟨some 16, (.binOp .sub 3 (.tmp 15) (.const (.int .i64 1)) 3), some (11, false)⟩,
    ⟨some 17, (.call { callee := (.value (.func 34)), args := #[(.tmp 13), (.const (.int .i64 0)), (.tmp 16)], argTypes := #[3, 3, 3] }), some (11, false)⟩,
    ⟨some 18, (.unOp .not 4 (.tmp 17)), some (11, false)⟩,
    ⟨some 19, (.pick (.tmp 11) (.const (.bool true)) (.tmp 18)), none⟩,
    ⟨some 20, (.move (.tmp 19)), none⟩,
    ⟨some 21, (.load 32 (.tmp 1)), some (20, false)⟩,
    ⟨some 22, (.fieldAddr 40 (.tmp 2) 0), some (20, false)⟩,
    ⟨some 23, (.load 3 (.tmp 22)), some (20, false)⟩,
    ⟨some 24, (.indexAddr 32 (.tmp 21) (.tmp 23)), some (20, false)⟩,
    ⟨some 25, (.load 3 (.tmp 24)), some (20, false)⟩,
    ⟨some 26, (.load 32 (.tmp 1)), some (20, false)⟩,
    ⟨some 27, (.fieldAddr 40 (.tmp 2) 1), some (20, false)⟩,
    ⟨some 28, (.load 3 (.tmp 27)), some (20, false)⟩,
    ⟨some 29, (.indexAddr 32 (.tmp 26) (.tmp 28)), some (20, false)⟩,
    ⟨some 30, (.load 3 (.tmp 29)), some (20, false)⟩,
    ⟨some 31, (.fieldAddr 40 (.tmp 2) 2), some (20, false)⟩,
    ⟨some 32, (.load 3 (.tmp 31)), some (20, false)⟩,
    ⟨some 33, (.call { callee := (.value (.func 39)), args := #[(.tmp 25), (.tmp 30), (.tmp 32)], argTypes := #[3, 3, 3] }), some (20, false)⟩,
    ⟨some 34, (.unOp .not 4 (.tmp 33)), some (20, false)⟩,
    ⟨some 35, (.pick (.tmp 20) (.const (.bool true)) (.tmp 34)), none⟩,
    ⟨some 3, (.assign (.tmp 35)), none⟩])
  .ret))
theorem k38 : FOK Try.prog 38 36 c38 [3] := ⟨⟨Try.f38, _, by kernel_rfl, by kernel_rfl, rfl, by kernel_rfl, rfl, by kernel_rfl, by decide⟩⟩

/-- timesync.diffcon.atMost -/
def c39 : SC :=
  (.seq (.reg [⟨some 6, (.assign (.const (.bool false))), none⟩])
 (.seq (.reg [⟨some 8, (.move (.tmp 1)), none⟩,
    ⟨some 9, (.move (.tmp 0)), none⟩,
    ⟨some 10, (.binOp .sub 3 (.tmp 8) (.tmp 9) 3), none⟩,
    ⟨some 7, (.assign (.tmp 10)), none⟩])
  (.seq (.block 0
    (.seq (.reg [⟨some 12, (.move (.tmp 1)), none⟩,
       ⟨some 13, (.binOp .geq 3 (.tmp 12) (.const (.int .i64 0)) 3), none⟩,
       ⟨some 14, (.move (.tmp 13)), none⟩,
       ⟨some 15, (.move (.tmp 0)), some (14, true)⟩,
       ⟨some 16, (.binOp .lss 3 (.tmp 15) (.const (.int .i64 0)) 3), some (14, true)⟩,
       ⟨some 17, (.pick (.tmp 14) (.tmp 16) (.const (.bool false))), none⟩,
       ⟨some 18, (.move (.tmp 17)), none⟩,
       ⟨some 19, (.move (.tmp 7)), some (18, true)⟩,
       ⟨some 20, (.binOp .lss 3 (.tmp 19) (.const (.int .i64 0)) 3), some (18, true)⟩,
       ⟨some 21, (.pick (.tmp 18) (.tmp 20) (.const (.bool false))), none⟩,
       ⟨some 11, (.assign (.tmp 21)), none⟩])
     (.cond (.tmp 11)
      (.seq (.reg [⟨some 6, (.assign (.const (.bool false))), none⟩])
       .ret)
      (.seq (.reg [⟨some 23, (.move (.tmp 1)), none⟩,
         ⟨some 24, (.binOp .lss 3 (.tmp 23) (.const (.int .i64 0)) 3), none⟩,
         ⟨some 25, (.move (.tmp 24)), none⟩,
         ⟨some 26, (.move (.tmp 0)), some (25, true)⟩,
         ⟨some 27, (.binOp .geq 3 (.tmp 26) (.const (.int .i64 0)) 3), some (25, true)⟩,
         ⟨some 28, (.pick (.tmp 25) (.tmp 27) (.const (.bool false))), none⟩,
         ⟨some 29, (.move (.tmp 28)), none⟩,
         ⟨some 30, (.move (.tmp 7)), some (29, true)⟩,
         ⟨some 31, (.binOp .geq 3 (.tmp 30) (.const (.int .i64 0)) 3), some (29, true)⟩,
         ⟨some 32, (.pick (.tmp 29) (.tmp 31) (.const (.bool false))), none⟩,
         ⟨some 22, (.assign (.tmp 32)), none⟩])
       (.cond (.tmp 22)
        (.seq (.reg [⟨some 6, (.assign (.const (.bool true))), none⟩])
         .ret)
        .skip)))))
   (.seq (.reg [⟨some 33, (.move (.tmp 7)), none⟩,
      ⟨some 34, (.move (.tmp 2)), none⟩,
      ⟨some 35, (.binOp .leq 3 (.tmp 33) (.tmp 34) 3), none⟩,
      ⟨some 6, (.assign (.tmp 35)), none⟩])
    .ret))))
theorem k39 : FOK Try.prog 39 36 c39 [6] := ⟨⟨Try.f39, _, by kernel_rfl, by kernel_rfl, rfl, by kernel_rfl, rfl, by kernel_rfl, by decide⟩⟩

/-- timesync.timesyncref51.within -/
def c40 : SC :=
  (.seq (.reg [⟨some 6, (.assign (.const (.bool false))), none⟩])
 (.seq (.seq (.reg [⟨some 7, (.move (.tmp 1)), none⟩,
     ⟨some 8, (.move (.tmp 0)), none⟩,
     ⟨some 9, (.binOp .lss 3 (.tmp 7) (.tmp 8) 3), none⟩])
   (.cond (.tmp 9)
    (.seq (.reg [⟨some 10, (.move (.tmp 2)), none⟩,
       ⟨some 11, (.binOp .geq 3 (.tmp 10) (.const (.int .i64 0)) 3), none⟩,
       ⟨some 12, (.move (.tmp 11)), none⟩,
       ⟨some 13, (.move (.tmp 0)), some (12, false)⟩,
       ⟨some 14, (.convert 3 63 (.tmp 13)), some (12, false)⟩,
       ⟨some 15, (.move (.tmp 1)), some (12, false)⟩,
       ⟨some 16, (.convert 3 63 (.tmp 15)), some (12, false)⟩,
       ⟨some 17, (.binOp .sub 63 (.tmp 14) (.tmp 16) 63), some (12, false)⟩,
       ⟨some 18, (.move (.tmp 2)), some (12, false)⟩,
       ⟨some 19, (.convert 3 63 (.tmp 18)), some (12, false)⟩,
       ⟨some 20, (.unOp .neg 63 (.tmp 19)), some (12, false)⟩,
       ⟨some 21, (.binOp .geq 63 (.tmp 17) (.tmp 20) 63), some (12, false)⟩,
       ⟨some 22, (.pick (.tmp 12) (.const (.bool true)) (.tmp 21)), none⟩,
       ⟨some 6, (.assign (.tmp 22)), none⟩])
     .ret)
    .skip))
  (.seq (.reg [⟨some 23, (.move (.tmp 2)), none⟩,
     ⟨some 24, (.binOp .geq 3 (.tmp 23) (.const (.int .i64 0)) 3), none⟩,
     ⟨some 25, (.move (.tmp 24)), none⟩,
     ⟨some 26, (.move (.tmp 1)), some (25, true)⟩,
     ⟨some 27, (.convert 3 63 (.tmp 26)), some (25, true)⟩,
     ⟨some 28, (.move (.tmp 0)), some (25, true)⟩,
     ⟨some 29, (.convert 3 63 (.tmp 28)), some (25, true)⟩,
     ⟨some 30, (.binOp .sub 63 (.tmp 27) (.tmp 29) 63), some (25, true)⟩,
     ⟨some 31, (.move (.tmp 2)), some (25, true)⟩,
     ⟨some 32, (.convert 3 63 (.tmp 31)), some (25, true)⟩,
     ⟨some 33, (.binOp .leq 63 (.tmp 30) (.tmp 32) 63), some (25, true)⟩,
     ⟨some 34, (.pick (.tmp 25) (.tmp 33) (.const (.bool false))), none⟩,
     ⟨some 6, (.assign (.tmp 34)), none⟩])
   .ret)))
theorem k40 : FOK Try.prog 40 35 c40 [6] := ⟨⟨Try.f40, _, by kernel_rfl, by kernel_rfl, rfl, by kernel_rfl, rfl, by kernel_rfl, by decide⟩⟩

/-- timesync.diffcon.relax -/
def c41 : SC :=
  (.seq (.reg [⟨some 4, (.assign (.const (.slice none 0 0))), none⟩,
   ⟨some 5, (.assign (.const (.int .i64 0))), none⟩])
 (.scope
  (.seq (.reg [⟨some 10, (.buildSlice 32 1 #[(0, (.const (.int .i64 (-1))))]), none⟩,
     ⟨some 11, (.move (.tmp 1)), none⟩,
     ⟨some 12, (.call { callee := (.builtin .len), args := #[(.tmp 11)], argTypes := #[32] }), none⟩,
     ⟨some 13, (.call { callee := (.value (.func 45)), args := #[(.tmp 10), (.tmp 12)], argTypes := #[32, 3] }), none⟩,
     ⟨some 6, (.assign (.tmp 13)), none⟩])
   (.seq (.reg [⟨some 7, (.assign (.const (.int .i64 (-1)))), none⟩])
    (.seq .skip
     (.seq (.seq (.reg [⟨some 14, (.move (.tmp 1)), none⟩,
         ⟨some 15, (.call { callee := (.builtin .len), args := #[(.tmp 14)], argTypes := #[32] }), none⟩,
         ⟨some 16, (.binOp .add 3 (.tmp 15) (.const (.int .i64 1)) 3), none⟩,
         ⟨some 17, (.move (.const (.int .i64 0))), none⟩])
       (.block 0
        (.loop
         (.seq (.reg [⟨some 18, (.binOp .lss 3 (.tmp 17) (.tmp 16) 3), none⟩])
          (.seq (.cond (.tmp 18)
            .skip
            (.exit 0))
           (.seq (.block 1
             (.seq (.reg [⟨some 7, (.assign (.const (.int .i64 (-1)))), none⟩])
              (.seq (.seq (.reg [⟨some 19, (.move (.tmp 0)), none⟩,
                  ⟨some 20, (.call { callee := (.builtin .len), args := #[(.tmp 19)], argTypes := #[22] }), none⟩,
                  ⟨some 21, (.move (.const (.int .i64 0))), none⟩])
                (.block 2
                 (.loop
                  (.seq (.reg [⟨some 22, (.binOp .lss 3 (.tmp 21) (.tmp 20) 3), none⟩])
                   (.seq (.cond (.tmp 22)
                     .skip
                     (.exit 2))
                    (.seq (.block 3
                      (.seq (.reg [⟨some 23, (.move (.tmp 21)), none⟩,
                         ⟨some 24, (.indexAddr 22 (.tmp 19) (.tmp 21)), none⟩,
                         ⟨some 25, (.load 40 (.tmp 24)), none⟩,
                         ⟨some 9, (.alloc 40), none⟩,
                         ⟨some 8, (.assign (.tmp 23)), none⟩,
                         ⟨none, (.store 40 (.tmp 9) (.tmp 25)), none⟩])
                       (.seq (.regq [⟨some 26, (.move (.tmp 1)), none⟩,
                          ⟨some 27, (.fieldAddr 40 (.tmp 9) 0), none⟩,
                          ⟨some 28, (.load 3 (.tmp 27)), none⟩,
                          ⟨some 29, (.indexAddr 32 (.tmp 26) (.tmp 28)), none⟩,
                          ⟨some 30, (.load 3 (.tmp 29)), none⟩,
                          ⟨some 31, (.binOp .neq 3 (.tmp 30) (.const (.int .i64 4611686018427387904)) 3), none⟩,
                          ⟨some 32, (.move (.tmp 31)), none⟩,
                          ⟨some 33, (.move (.tmp 1)), some (32, true)⟩,
                          ⟨some 34, (.fieldAddr 40 (.tmp 9) 0), some (32, true)⟩,
                          ⟨some 35, (.load 3 (.tmp 34)), some (32, true)⟩,
                          ⟨some 36, (.indexAddr 32 (.tmp 33) (.tmp 35)), some (32, true)⟩,
                          ⟨some 37, (.load 3 (.tmp 36)), some (32, true)⟩,
                          ⟨some 38, (.fieldAddr 40 (.tmp 9) 2), some (32, true)⟩,
                          ⟨some 39, (.load 3 (.tmp 38)), some (32, true)⟩,
                          ⟨some 40, (.binOp .add 3 (.tmp 37) (.tmp 39) 3), some (32, true)⟩,
                          ⟨some 41, (.move (.tmp 1)), some (32, true)⟩,
                          ⟨some 42, (.fieldAddr 40 (.tmp 9) 1), some (32, true)⟩,
                          ⟨some 43, (.load 3 (.tmp 42)), some (32, true)⟩,
                          ⟨some 44, (.indexAddr 32 (.tmp 41) (.tmp 43)), some (32, true)⟩,
                          ⟨some 45, (.load 3 (.tmp 44)), some (32, true)⟩,
                          ⟨some 46, (.binOp .lss 3 (.tmp 40) (.tmp 45) 3), some (32, true)⟩,
                          ⟨some 47, (.pick (.tmp 32) (.tmp 46) (.const (.bool false))), none⟩])
                        (.cond (.tmp 47)
                         (.seq (.regs [⟨some 48, (.move (.tmp 1)), none⟩,
                            ⟨some 49, (.fieldAddr 40 (.tmp 9) 1), none⟩,
                            ⟨some 50, (.load 3 (.tmp 49)), none⟩,
                            ⟨some 51, (.move (.tmp 1)), none⟩,
                            ⟨some 52, (.fieldAddr 40 (.tmp 9) 0), none⟩,
                            ⟨some 53, (.load 3 (.tmp 52)), none⟩,
                            ⟨some 54, (.indexAddr 32 (.tmp 51) (.tmp 53)), none⟩,
                            ⟨some 55, (.load 3 (.tmp 54)), none⟩,
                            ⟨some 56, (.fieldAddr 40 (.tmp 9) 2), none⟩,
                            ⟨some 57, (.load 3 (.tmp 56)), none⟩,
                            ⟨some 58, (.binOp .add 3 (.tmp 55) (.tmp 57) 3), none⟩,
                            ⟨some 59, (.indexAddr 32 (.tmp 48) (.tmp 50)), none⟩] [⟨none, (.store 3 (.tmp 59) (.tmp 58)), none⟩])
                          (.seq (.reg [⟨some 60, (.move (.tmp 6)), none⟩,
                             ⟨some 61, (.fieldAddr 40 (.tmp 9) 1), none⟩,
                             ⟨some 62, (.load 3 (.tmp 61)), none⟩,
                             ⟨some 63, (.move (.tmp 8)), none⟩,
                             ⟨some 64, (.indexAddr 32 (.tmp 60) (.tmp 62)), none⟩,
                             ⟨none, (.store 3 (.tmp 64) (.tmp 63)), none⟩])
                           (.seq (.reg [⟨some 65, (.fieldAddr 40 (.tmp 9) 1), none⟩,
                              ⟨some 66, (.load 3 (.tmp 65)), none⟩,
                              ⟨some 7, (.assign (.tmp 66)), none⟩])
                            (.seq (.reg [⟨some 67, (.move (.tmp 1)), none⟩,
                               ⟨some 68, (.move (.tmp 7)), none⟩,
                               ⟨some 69, (.indexAddr 32 (.tmp 67) (.tmp 68)), none⟩,
                               ⟨some 70, (.load 3 (.tmp 69)), none⟩,
                               ⟨some 71, (.move (.tmp 1)), none⟩,
                               ⟨some 72, (.call { callee := (.builtin .len), args := #[(.tmp 71)], argTypes := #[32] }), none⟩,
                               ⟨some 73, (.unOp .neg 3 (.tmp 72)), none⟩,
                               ⟨some 74, (.binOp .mul 3 (.tmp 73) (.const (.int .i64 9007199254740992)) 3), none⟩,
                               ⟨some 75, (.binOp .lss 3 (.tmp 70) (.tmp 74) 3), none⟩])
                             (.cond (.tmp 75)
                              (.exit 0)
                              .skip)))))
                         .skip))))
                     (.reg [⟨some 76, (.binOp .add 3 (.tmp 21) (.const (.int .i64 1)) 3), none⟩,
                       ⟨some 21, (.move (.tmp 76)), none⟩])))))))
               (.seq (.reg [⟨some 77, (.move (.tmp 7)), none⟩,
                  ⟨some 78, (.binOp .lss 3 (.tmp 77) (.const (.int .i64 0)) 3), none⟩])
                (.cond (.tmp 78)
                 (.exit 0)
                 .skip)))))
            (.reg [⟨some 79, (.binOp .add 3 (.tmp 17) (.const (.int .i64 1)) 3), none⟩,
              ⟨some 17, (.move (.tmp 79)), none⟩])))))))
      (.seq (.reg [⟨some 80, (.move (.tmp 6)), none⟩,
         ⟨some 81, (.move (.tmp 7)), none⟩,
         ⟨some 4, (.assign (.tmp 80)), none⟩,
         ⟨some 5, (.assign (.tmp 81)), none⟩])
       .ret)))))))
theorem k41 : FOK Try.prog 41 82 c41 [4, 5] := ⟨⟨Try.f41, _, by kernel_rfl, by kernel_rfl, rfl, by kernel_rfl, rfl, by kernel_rfl, by decide⟩⟩

/-- slices.Reverse[[]int,int] -/
def c42 : SC :=
  (.seq (.reg [⟨some 4, (.move (.tmp 0)), none⟩,
   ⟨some 5, (.call { callee := (.builtin .len), args := #[(.tmp 4)], argTypes := #[32] }), none⟩,
   ⟨some 6, (.binOp .sub 3 (.tmp 5) (.const (.int .i64 1)) 3), none⟩,
   ⟨some 2, (.assign (.const (.int .i64 0))), none⟩,
   ⟨some 3, (.assign (.tmp 6)), none⟩])
 (.block 0
  (.loop
   (.seq (.seq (.reg [⟨some 7, (.move (.tmp 2)), none⟩,
       ⟨some 8, (.move (.tmp 3)), none⟩,
       ⟨some 9, (.binOp .lss 3 (.tmp 7) (.tmp 8) 3), none⟩])
     (.cond (.tmp 9)
      .skip
      (.exit 0)))
    (.seq (.block 1
      (.rega (.take ⟨some 14, (.move (.tmp 0)), none⟩
 (.take ⟨some 15, (.move (.tmp 2)), none⟩
 (.take ⟨some 16, (.move (.tmp 0)), none⟩
 (.take ⟨some 17, (.move (.tmp 3)), none⟩
 (.take ⟨some 18, (.move (.tmp 0)), none⟩
 (.take ⟨some 19, (.move (.tmp 3)), none⟩
 (.take ⟨some 20, (.indexAddr 32 (.tmp 18) (.tmp 19)), none⟩
 (.take ⟨some 22, (.move (.tmp 0)), none⟩
 (.take ⟨some 23, (.move (.tmp 2)), none⟩
 (.take ⟨some 24, (.indexAddr 32 (.tmp 22) (.tmp 23)), none⟩
 (.both (.step ⟨some 21, (.load 3 (.tmp 20)), none⟩
 (.step ⟨some 25, (.load 3 (.tmp 24)), none⟩
 (.take ⟨some 26, (.indexAddr 32 (.tmp 14) (.tmp 15)), none⟩
 (.step ⟨none, (.store 3 (.tmp 26) (.tmp 21)), none⟩
 (.take ⟨some 27, (.indexAddr 32 (.tmp 16) (.tmp 17)), none⟩
 (.step ⟨none, (.store 3 (.tmp 27) (.tmp 25)), none⟩
 .done))))))
 (.step ⟨some 25, (.load 3 (.tmp 24)), none⟩
 (.step ⟨some 21, (.load 3 (.tmp 20)), none⟩
 (.take ⟨some 26, (.indexAddr 32 (.tmp 14) (.tmp 15)), none⟩
 (.step ⟨none, (.store 3 (.tmp 26) (.tmp 21)), none⟩
 (.take ⟨some 27, (.indexAddr 32 (.tmp 16) (.tmp 17)), none⟩
 (.step ⟨none, (.store 3 (.tmp 27) (.tmp 25)), none⟩
 .done)))))))))))))))))))
     (.reg [⟨some 10, (.move (.tmp 2)), none⟩,
       ⟨some 11, (.binOp .add 3 (.tmp 10) (.const (.int .i64 1)) 3), none⟩,
       ⟨some 12, (.move (.tmp 3)), none⟩,
       ⟨some 13, (.binOp .sub 3 (.tmp 12) (.const (.int .i64 1)) 3), none⟩,
       ⟨some 2, (.assign (.tmp 11)), none⟩,
       ⟨some 3, (.assign (.tmp 13)), none⟩]))))))
theorem k42 : FOK Try.prog 42 28 c42 [] := ⟨⟨Try.f42, _, by kernel_rfl, by kernel_rfl, rfl, by kernel_rfl, rfl, by kernel_rfl, by decide⟩⟩

/-- slices.Contains[[]int,int] -/
def c43 : SC :=
  (.seq (.reg [⟨some 4, (.assign (.const (.bool false))), none⟩])
 (.seq (.reg [⟨some 5, (.move (.tmp 0)), none⟩,
    ⟨some 6, (.move (.tmp 1)), none⟩,
    ⟨some 7, (.call { callee := (.value (.func 47)), args := #[(.tmp 5), (.tmp 6)], argTypes := #[32, 3] }), none⟩,
    ⟨some 8, (.binOp .geq 3 (.tmp 7) (.const (.int .i64 0)) 3), none⟩,
    ⟨some 4, (.assign (.tmp 8)), none⟩])
  .ret))
theorem k43 : FOK Try.prog 43 9 c43 [4] := ⟨⟨Try.f43, _, by kernel_rfl, by kernel_rfl, rfl, by kernel_rfl, rfl, by kernel_rfl, by decide⟩⟩

/-- timesync.diffcon.valid -/
def c44 : SC :=
  (.seq (.reg [⟨some 3, (.box 40 (.tmp 1)), none⟩,
   ⟨some 4, (.assign (.const (.bool false))), none⟩])
 (.seq (.seq (.reg [⟨some 9, (.move (.tmp 0)), none⟩,
     ⟨some 10, (.call { callee := (.builtin .len), args := #[(.tmp 9)], argTypes := #[25] }), none⟩,
     ⟨some 11, (.call { callee := (.value (.func 34)), args := #[(.tmp 10), (.const (.int .i64 1)), (.const (.int .i64 160))], argTypes := #[3, 3, 3] }), none⟩,
     ⟨some 12, (.unOp .not 4 (.tmp 11)), none⟩])
   (.cond (.tmp 12)
    (.seq (.reg [⟨some 4, (.assign (.const (.bool false))), none⟩])
     .ret)
    .skip))
  (.seq (.seq (.reg [⟨some 13, (.move (.tmp 0)), none⟩,
      ⟨some 14, (.call { callee := (.builtin .len), args := #[(.tmp 13)], argTypes := #[25] }), none⟩,
      ⟨some 15, (.move (.const (.int .i64 0))), none⟩])
    (.block 0
     (.loop
      (.seq (.reg [⟨some 16, (.binOp .lss 3 (.tmp 15) (.tmp 14) 3), none⟩])
       (.seq (.cond (.tmp 16)
         .skip
         (.exit 0))
        (.seq (.block 1
          (.seq (.reg [⟨some 17, (.move (.tmp 15)), none⟩,
             ⟨some 18, (.indexAddr 25 (.tmp 13) (.tmp 15)), none⟩,
             ⟨some 19, (.load 32 (.tmp 18)), none⟩,
             ⟨some 5, (.assign (.tmp 17)), none⟩,
             ⟨some 6, (.assign (.tmp 19)), none⟩])
           (.seq (.seq (.reg [⟨some 20, (.move (.tmp 6)), none⟩,
               ⟨some 21, (.call { callee := (.builtin .len), args := #[(.tmp 20)], argTypes := #[32] }), none⟩,
               ⟨some 22, (.move (.tmp 0)), none⟩,
               ⟨some 23, (.call { callee := (.builtin .len), args := #[(.tmp 22)], argTypes := #[25] }), none⟩,
               ⟨some 24, (.binOp .neq 3 (.tmp 21) (.tmp 23) 3), none⟩,
               ⟨some 25, (.move (.tmp 24)), none⟩,
               ⟨some 26, (.move (.tmp 6)), some (25, false)⟩,
               ⟨some 27, (.move (.tmp 5)), some (25, false)⟩,
               ⟨some 28, (.indexAddr 32 (.tmp 26) (.tmp 27)), some (25, false)⟩,
               ⟨some 29, (.load 3 (.tmp 28)), some (25, false)⟩,
               ⟨some 30, (.binOp .neq 3 (.tmp 29) (.const (.int .i64 0)) 3), some (25, false)⟩,
               ⟨some 31, (.pick (.tmp 25) (.const (.bool true)) (.tmp 30)), none⟩])
             (.cond (.tmp 31)
              (.seq (.reg [⟨some 4, (.assign (.const (.bool false))), none⟩])
               .ret)
              .skip))
            (.seq (.reg [⟨some 32, (.move (.tmp 6)), none⟩,
               ⟨some 33, (.call { callee := (.builtin .len), args := #[(.tmp 32)], argTypes := #[32] }), none⟩,
               ⟨some 34, (.move (.const (.int .i64 0))), none⟩])
             (.block 2
              (.loop
               (.seq (.reg [⟨some 35, (.binOp .lss 3 (.tmp 34) (.tmp 33) 3), none⟩])
                (.seq (.cond (.tmp 35)
                  .skip
                  (.exit 2))
                 (.seq (.block 3
                   (.seq (.reg [⟨some 36, (.indexAddr 32 (.tmp 32) (.tmp 34)), none⟩,
                      ⟨some 37, (.load 3 (.tmp 36)), none⟩,
                      ⟨some 8, (.assign (.tmp 37)), none⟩])
                    (.seq (.reg [⟨some 38, (.move (.tmp 8)), none⟩,
                       ⟨some 39, (.binOp .neq 3 (.tmp 38) (.const (.int .i64 4611686018427387904)) 3), none⟩,
                       ⟨some 40, (.move (.tmp 39)), none⟩,
                       ⟨some 41, (.move (.tmp 8)), some (40, true)⟩,
                       ⟨some 42, (.call { callee := (.value (.func 34)), args := #[(.tmp 41), (.const (.int .i64 (-2305843009213693952))), (.const (.int .i64 2305843009213693952))], argTypes := #[3, 3, 3] }), some (40, true)⟩,
                       ⟨some 43, (.unOp .not 4 (.tmp 42)), some (40, true)⟩,
                       ⟨some 44, (.pick (.tmp 40) (.tmp 43) (.const (.bool false))), none⟩])
                     (.cond (.tmp 44)
                      (.seq (.reg [⟨some 4, (.assign (.const (.bool false))), none⟩])
                       .ret)
                      .skip))))
                  (.reg [⟨some 45, (.binOp .add 3 (.tmp 34) (.const (.int .i64 1)) 3), none⟩,
                    ⟨some 34, (.move (.tmp 45)), none⟩]))))))))))
         (.reg [⟨some 46, (.binOp .add 3 (.tmp 15) (.const (.int .i64 1)) 3), none⟩,
           ⟨some 15, (.move (.tmp 46)), none⟩])))))))
   (.seq (.reg [⟨some 47, (.fieldAddr 40 (.tmp 3) 0), none⟩,
      ⟨some 48, (.load 3 (.tmp 47)), none⟩,
      ⟨some 49, (.move (.tmp 0)), none⟩,
      ⟨some 50, (.call { callee := (.builtin .len), args := #[(.tmp 49)], argTypes := #[25] }), none⟩,
      ⟨some 51, (.binOp .sub 3 (.tmp 50) (.const (.int .i64 1)) 3), none⟩,
      ⟨some 52, (.call { callee := (.value (.func 34)), args := #[(.tmp 48), (.const (.int .i64 0)), (.tmp 51)], argTypes := #[3, 3, 3] }), none⟩,
      ⟨some 53, (.move (.tmp 52)), none⟩,
      ⟨some 54, (.fieldAddr 40 (.tmp 3) 1), some (53, true)⟩,
      ⟨some 55, (.load 3 (.tmp 54)), some (53, true)⟩,
      ⟨some 56, (.move (.tmp 0)), some (53, true)⟩,
      ⟨some 57, (.call { callee := (.builtin .len), args := #[(.tmp 56)], argTypes := #[25] }), some (53, true)⟩,
      ⟨some 58, (.binOp .sub 3 (.tmp 57) (.const (.int .i64 1)) 3), some (53, true)⟩,
      ⟨some 59, (.call { callee := (.value (.func 34)), args := #[(.tmp 55), (.const (.int .i64 0)), (.tmp 58)], argTypes := #[3, 3, 3] }), some (53, true)⟩,
      ⟨some 60, (.pick (.tmp 53) (.tmp 59) (.const (.bool false))), none⟩,
      ⟨some 61, (.move (.tmp 60)), none⟩,
      ⟨some 62, (.fieldAddr 40 (.tmp 3) 2), some (61, true)⟩,
      ⟨some 63, (.load 3 (.tmp 62)), some (61, true)⟩,
      ⟨some 64, (.call { callee := (.value (.func 34)), args := #[(.tmp 63), (.const (.int .i64 (-9007199254740992))), (.const (.int .i64 9007199254740992))], argTypes := #[3, 3, 3] }), some (61, true)⟩,
      ⟨some 65, (.pick (.tmp 61) (.tmp 64) (.const (.bool false))), none⟩,
      ⟨some 4, (.assign (.tmp 65)), none⟩])
    .ret))))
theorem k44 : FOK Try.prog 44 66 c44 [4] := ⟨⟨Try.f44, _, by kernel_rfl, by kernel_rfl, rfl, by kernel_rfl, rfl, by kernel_rfl, by decide⟩⟩

/-- slices.Repeat[[]int,int] -/
def c45 : SC :=
  (.seq (.reg [⟨some 4, (.assign (.const (.slice none 0 0))), none⟩])
 (.seq (.seq (.reg [⟨some 9, (.move (.tmp 1)), none⟩,
     ⟨some 10, (.binOp .lss 3 (.tmp 9) (.const (.int .i64 0)) 3), none⟩])
   (.cond (.tmp 10)
    (.reg [⟨some 11, (.makeInterface 9 (.const (.string { data := #[99, 97, 110, 110, 111, 116, 32, 98, 101, 32, 110, 101, 103, 97, 116, 105, 118, 101] }))), none⟩,
      ⟨none, (.panic (.tmp 11)), none⟩])
    .skip))
  (.seq (.reg [⟨some 13, (.move (.tmp 0)), none⟩,
     ⟨some 14, (.call { callee := (.builtin .len), args := #[(.tmp 13)], argTypes := #[32] }), none⟩,
     ⟨some 15, (.convert 3 65 (.tmp 14)), none⟩,
     ⟨some 16, (.move (.tmp 1)), none⟩,
     ⟨some 17, (.convert 3 65 (.tmp 16)), none⟩,
     ⟨some 18, (.call { callee := (.value (.func 48)), args := #[(.tmp 15), (.tmp 17)], argTypes := #[65, 65] }), none⟩,
     ⟨some 12, (.move (.tmp 18)), none⟩,
     ⟨some 19, (.extract (.tmp 12) 0), none⟩,
     ⟨some 20, (.extract (.tmp 12) 1), none⟩,
     ⟨some 5, (.assign (.tmp 19)), none⟩,
     ⟨some 6, (.assign (.tmp 20)), none⟩])
   (.seq (.seq (.reg [⟨some 21, (.move (.tmp 5)), none⟩,
       ⟨some 22, (.binOp .gtr 65 (.tmp 21) (.const (.int .u64 0)) 65), none⟩,
       ⟨some 23, (.move (.tmp 22)), none⟩,
       ⟨some 24, (.move (.tmp 6)), some (23, false)⟩,
       ⟨some 25, (.binOp .gtr 65 (.tmp 24) (.const (.int .u64 9223372036854775807)) 65), some (23, false)⟩,
       ⟨some 26, (.pick (.tmp 23) (.const (.bool true)) (.tmp 25)), none⟩])
     (.cond (.tmp 26)
      (.reg [⟨some 27, (.makeInterface 9 (.const (.string { data := #[116, 104, 101, 32, 114, 101, 115, 117, 108, 116, 32, 111, 102, 32, 40, 108, 101, 110, 40, 120, 41, 32, 42, 32, 99, 111, 117, 110, 116, 41, 32, 111, 118, 101, 114, 102, 108, 111, 119, 115] }))), none⟩,
        ⟨none, (.panic (.tmp 27)), none⟩])
      .skip))
    (.seq (.reg [⟨some 28, (.move (.tmp 6)), none⟩,
       ⟨some 29, (.convert 65 3 (.tmp 28)), none⟩,
       ⟨some 30, (.makeSlice 32 (.tmp 29) (.tmp 29)), none⟩,
       ⟨some 7, (.assign (.tmp 30)), none⟩])
     (.seq (.reg [⟨some 31, (.move (.tmp 7)), none⟩,
        ⟨some 32, (.move (.tmp 0)), none⟩,
        ⟨some 33, (.call { callee := (.builtin .copy), args := #[(.tmp 31), (.tmp 32)], argTypes := #[32, 32] }), none⟩,
        ⟨some 8, (.assign (.tmp 33)), none⟩])
      (.seq (.block 0
        (.loop
         (.seq (.seq (.reg [⟨some 34, (.move (.tmp 8)), none⟩,
             ⟨some 35, (.move (.tmp 7)), none⟩,
             ⟨some 36, (.call { callee := (.builtin .len), args := #[(.tmp 35)], argTypes := #[32] }), none⟩,
             ⟨some 37, (.binOp .lss 3 (.tmp 34) (.tmp 36) 3), none⟩])
           (.cond (.tmp 37)
            .skip
            (.exit 0)))
          (.block 1
           (.rega (.take ⟨some 38, (.move (.tmp 8)), none⟩
 (.take ⟨some 39, (.move (.tmp 7)), none⟩
 (.take ⟨some 40, (.move (.tmp 8)), none⟩
 (.take ⟨some 41, (.slice 32 (.tmp 39) (some (.tmp 40)) none none), none⟩
 (.take ⟨some 42, (.move (.tmp 7)), none⟩
 (.take ⟨some 43, (.move (.tmp 8)), none⟩
 (.take ⟨some 44, (.slice 32 (.tmp 42) none (some (.tmp 43)) none), none⟩
 (.step ⟨some 45, (.call { callee := (.builtin .copy), args := #[(.tmp 41), (.tmp 44)], argTypes := #[32, 32] }), none⟩
 (.take ⟨some 46, (.binOp .add 3 (.tmp 38) (.tmp 45) 3), none⟩
 (.take ⟨some 8, (.assign (.tmp 46)), none⟩
 .done)))))))))))))))
       (.seq (.reg [⟨some 47, (.move (.tmp 7)), none⟩,
          ⟨some 4, (.assign (.tmp 47)), none⟩])
        .ret))))))))
theorem k45 : FOK Try.prog 45 48 c45 [4] := ⟨⟨Try.f45, _, by kernel_rfl, by kernel_rfl, rfl, by kernel_rfl, rfl, by kernel_rfl, by decide⟩⟩

/-- slices.IndexFunc[[]timesync.api.Con,timesync.api.Con] -/
def c46 : SC :=
  (.seq (.reg [⟨some 4, (.assign (.const (.int .i64 0))), none⟩])
 (.seq (.seq (.reg [⟨some 6, (.move (.tmp 0)), none⟩,
     ⟨some 7, (.call { callee := (.builtin .len), args := #[(.tmp 6)], argTypes := #[22] }), none⟩,
     ⟨some 8, (.move (.const (.int .i64 0))), none⟩])
   (.block 0
    (.loop
     (.seq (.reg [⟨some 9, (.binOp .lss 3 (.tmp 8) (.tmp 7) 3), none⟩])
      (.seq (.cond (.tmp 9)
        .skip
        (.exit 0))
       (.seq (.block 1
         (.seq (.reg [⟨some 10, (.move (.tmp 8)), none⟩,
            ⟨some 5, (.assign (.tmp 10)), none⟩])
          (.seq (.reg [⟨some 11, (.move (.tmp 1)), none⟩,
             ⟨some 12, (.move (.tmp 0)), none⟩,
             ⟨some 13, (.move (.tmp 5)), none⟩,
             ⟨some 14, (.indexAddr 22 (.tmp 12) (.tmp 13)), none⟩,
             ⟨some 15, (.load 40 (.tmp 14)), none⟩,
             ⟨some 16, (.call { callee := (.value (.tmp 11)), args := #[(.tmp 15)], argTypes := #[40] }), none⟩])
           (.cond (.tmp 16)
            (.seq (.reg [⟨some 17, (.move (.tmp 5)), none⟩,
               ⟨some 4, (.assign (.tmp 17)), none⟩])
             .ret)
            .skip))))
        (.reg [⟨some 18, (.binOp .add 3 (.tmp 8) (.const (.int .i64 1)) 3), none⟩,
          ⟨some 8, (.move (.tmp 18)), none⟩])))))))
  (.seq (.reg [⟨some 4, (.assign (.const (.int .i64 (-1)))), none⟩])
   .ret)))
theorem k46 : FOK Try.prog 46 19 c46 [4] := ⟨⟨Try.f46, _, by kernel_rfl, by kernel_rfl, rfl, by kernel_rfl, rfl, by kernel_rfl, by decide⟩⟩

/-- slices.Index[[]int,int] -/
def c47 : SC :=
  (.seq (.reg [⟨some 4, (.assign (.const (.int .i64 0))), none⟩])
 (.seq (.seq (.reg [⟨some 6, (.move (.tmp 0)), none⟩,
     ⟨some 7, (.call { callee := (.builtin .len), args := #[(.tmp 6)], argTypes := #[32] }), none⟩,
     ⟨some 8, (.move (.const (.int .i64 0))), none⟩])
   (.block 0
    (.loop
     (.seq (.reg [⟨some 9, (.binOp .lss 3 (.tmp 8) (.tmp 7) 3), none⟩])
      (.seq (.cond (.tmp 9)
        .skip
        (.exit 0))
       (.seq (.block 1
         (.seq (.reg [⟨some 10, (.move (.tmp 8)), none⟩,
            ⟨some 5, (.assign (.tmp 10)), none⟩])
          (.seq (.reg [⟨some 11, (.move (.tmp 1)), none⟩,
             ⟨some 12, (.move (.tmp 0)), none⟩,
             ⟨some 13, (.move (.tmp 5)), none⟩,
             ⟨some 14, (.indexAddr 32 (.tmp 12) (.tmp 13)), none⟩,
             ⟨some 15, (.load 3 (.tmp 14)), none⟩,
             ⟨some 16, (.binOp .eql 3 (.tmp 11) (.tmp 15) 3), none⟩])
           (.cond (.tmp 16)
            (.seq (.reg [⟨some 17, (.move (.tmp 5)), none⟩,
               ⟨some 4, (.assign (.tmp 17)), none⟩])
             .ret)
            .skip))))
        (.reg [⟨some 18, (.binOp .add 3 (.tmp 8) (.const (.int .i64 1)) 3), none⟩,
          ⟨some 8, (.move (.tmp 18)), none⟩])))))))
  (.seq (.reg [⟨some 4, (.assign (.const (.int .i64 (-1)))), none⟩])
   .ret)))
theorem k47 : FOK Try.prog 47 19 c47 [4] := ⟨⟨Try.f47, _, by kernel_rfl, by kernel_rfl, rfl, by kernel_rfl, rfl, by kernel_rfl, by decide⟩⟩

/-- math.bits.Mul -/
def c48 : SC :=
  (.seq (.reg [⟨some 4, (.assign (.const (.int .u64 0))), none⟩,
   ⟨some 5, (.assign (.const (.int .u64 0))), none⟩])
 (.seq (.cond (.const (.bool false))
   (.seq (.reg [⟨some 11, (.move (.tmp 0)), none⟩,
      ⟨some 12, (.convert 65 68 (.tmp 11)), none⟩,
      ⟨some 13, (.move (.tmp 1)), none⟩,
      ⟨some 14, (.convert 65 68 (.tmp 13)), none⟩,
      ⟨some 15, (.call { callee := (.value (.func 49)), args := #[(.tmp 12), (.tmp 14)], argTypes := #[68, 68] }), none⟩,
      ⟨some 10, (.move (.tmp 15)), none⟩,
      ⟨some 16, (.extract (.tmp 10) 0), none⟩,
      ⟨some 17, (.extract (.tmp 10) 1), none⟩,
      ⟨some 6, (.assign (.tmp 16)), none⟩,
      ⟨some 7, (.assign (.tmp 17)), none⟩])
    (.seq (.reg [⟨some 18, (.move (.tmp 6)), none⟩,
       ⟨some 19, (.convert 68 65 (.tmp 18)), none⟩,
       ⟨some 20, (.move (.tmp 7)), none⟩,
       ⟨some 21, (.convert 68 65 (.tmp 20)), none⟩,
       ⟨some 4, (.assign (.tmp 19)), none⟩,
       ⟨some 5, (.assign (.tmp 21)), none⟩])
     .ret))
   .skip)
  (.seq (.reg [⟨some 23, (.move (.tmp 0)), none⟩,
     ⟨some 24, (.move (.tmp 1)), none⟩,
     ⟨some 25, (.call { callee := (.value (.func 50)), args := #[(.tmp 23), (.tmp 24)], argTypes := #[63, 63] }), none⟩,
     ⟨some 22, (.move (.tmp 25)), none⟩,
     ⟨some 26, (.extract (.tmp 22) 0), none⟩,
     ⟨some 27, (.extract (.tmp 22) 1), none⟩,
     ⟨some 8, (.assign (.tmp 26)), none⟩,
     ⟨some 9, (.assign (.tmp 27)), none⟩])
   (.seq (.reg [⟨some 28, (.move (.tmp 8)), none⟩,
      ⟨some 29, (.move (.tmp 9)), none⟩,
      ⟨some 4, (.assign (.tmp 28)), none⟩,
      ⟨some 5, (.assign (.tmp 29)), none⟩])
    .ret))))
theorem k48 : FOK Try.prog 48 30 c48 [4, 5] := ⟨⟨Try.f48, _, by kernel_rfl, by kernel_rfl, rfl, by kernel_rfl, rfl, by kernel_rfl, by decide⟩⟩

/-- math.bits.Mul32 -/
def c49 : SC :=
  (.seq (.reg [⟨some 4, (.assign (.const (.int .u32 0))), none⟩,
   ⟨some 5, (.assign (.const (.int .u32 0))), none⟩])
 (.seq (.reg [⟨some 7, (.move (.tmp 0)), none⟩,
    ⟨some 8, (.convert 68 63 (.tmp 7)), none⟩,
    ⟨some 9, (.move (.tmp 1)), none⟩,
    ⟨some 10, (.convert 68 63 (.tmp 9)), none⟩,
    ⟨some 11, (.binOp .mul 63 (.tmp 8) (.tmp 10) 63), none⟩,
    ⟨some 6, (.assign (.tmp 11)), none⟩])
  (.seq (.reg [⟨some 12, (.move (.tmp 6)), none⟩,
     ⟨some 13, (.binOp .shr 63 (.tmp 12) (.const (.int .u64 32)) 65), none⟩,
     ⟨some 14, (.convert 63 68 (.tmp 13)), none⟩,
     ⟨some 15, (.move (.tmp 6)), none⟩,
     ⟨some 16, (.convert 63 68 (.tmp 15)), none⟩,
     ⟨some 4, (.assign (.tmp 14)), none⟩,
     ⟨some 5, (.assign (.tmp 16)), none⟩])
   .ret)))
theorem k49 : FOK Try.prog 49 17 c49 [4, 5] := ⟨⟨Try.f49, _, by kernel_rfl, by kernel_rfl, rfl, by kernel_rfl, rfl, by kernel_rfl, by decide⟩⟩

/-- math.bits.Mul64 -/
def c50 : SC :=
  (.seq (.reg [⟨some 4, (.assign (.const (.int .u64 0))), none⟩,
   ⟨some 5, (.assign (.const (.int .u64 0))), none⟩])
 (.seq (.reg [⟨some 14, (.move (.tmp 0)), none⟩,
    ⟨some 15, (.binOp .and 63 (.tmp 14) (.const (.int .u64 4294967295)) 63), none⟩,
    ⟨some 6, (.assign (.tmp 15)), none⟩])
  (.seq (.reg [⟨some 16, (.move (.tmp 0)), none⟩,
     ⟨some 17, (.binOp .shr 63 (.tmp 16) (.const (.int .u64 32)) 65), none⟩,
     ⟨some 7, (.assign (.tmp 17)), none⟩])
   (.seq (.reg [⟨some 18, (.move (.tmp 1)), none⟩,
      ⟨some 19, (.binOp .and 63 (.tmp 18) (.const (.int .u64 4294967295)) 63), none⟩,
      ⟨some 8, (.assign (.tmp 19)), none⟩])
    (.seq (.reg [⟨some 20, (.move (.tmp 1)), none⟩,
       ⟨some 21, (.binOp .shr 63 (.tmp 20) (.const (.int .u64 32)) 65), none⟩,
       ⟨some 9, (.assign (.tmp 21)), none⟩])
     (.seq (.reg [⟨some 22, (.move (.tmp 6)), none⟩,
        ⟨some 23, (.move (.tmp 8)), none⟩,
        ⟨some 24, (.binOp .mul 63 (.tmp 22) (.tmp 23) 63), none⟩,
        ⟨some 10, (.assign (.tmp 24)), none⟩])
      (.seq (.reg [⟨some 25, (.move (.tmp 7)), none⟩,
         ⟨some 26, (.move (.tmp 8)), none⟩,
         ⟨some 27, (.binOp .mul 63 (.tmp 25) (.tmp 26) 63), none⟩,
         ⟨some 28, (.move (.tmp 10)), none⟩,
         ⟨some 29, (.binOp .shr 63 (.tmp 28) (.const (.int .u64 32)) 65), none⟩,
         ⟨some 30, (.binOp .add 63 (.tmp 27) (.tmp 29) 63), none⟩,
         ⟨some 11, (.assign (.tmp 30)), none⟩])
       (.seq (.reg [⟨some 31, (.move (.tmp 11)), none⟩,
          ⟨some 32, (.binOp .and 63 (.tmp 31) (.const (.int .u64 4294967295)) 63), none⟩,
          ⟨some 12, (.assign (.tmp 32)), none⟩])
        (.seq (.reg [⟨some 33, (.move (.tmp 11)), none⟩,
           ⟨some 34, (.binOp .shr 63 (.tmp 33) (.const (.int .u64 32)) 65), none⟩,
           ⟨some 13, (.assign (.tmp 34)), none⟩])
         (.seq (.reg [⟨some 35, (.move (.tmp 12)), none⟩,
            ⟨some 36, (.move (.tmp 6)), none⟩,
            ⟨some 37, (.move (.tmp 9)), none⟩,
            ⟨some 38, (.binOp .mul 63 (.tmp 36) (.tmp 37) 63), none⟩,
            ⟨some 39, (.binOp .add 63 (.tmp 35) (.tmp 38) 63), none⟩,
            ⟨some 12, (.assign (.tmp 39)), none⟩])
          (.seq (.reg [⟨some 40, (.move (.tmp 7)), none⟩,
             ⟨some 41, (.move (.tmp 9)), none⟩,
             ⟨some 42, (.binOp .mul 63 (.tmp 40) (.tmp 41) 63), none⟩,
             ⟨some 43, (.move (.tmp 13)), none⟩,
             ⟨some 44, (.binOp .add 63 (.tmp 42) (.tmp 43) 63), none⟩,
             ⟨some 45, (.move (.tmp 12)), none⟩,
             ⟨some 46, (.binOp .shr 63 (.tmp 45) (.const (.int .u64 32)) 65), none⟩,
             ⟨some 47, (.binOp .add 63 (.tmp 44) (.tmp 46) 63), none⟩,
             ⟨some 4, (.assign (.tmp 47)), none⟩])
           (.seq (.reg [⟨some 48, (.move (.tmp 0)), none⟩,
              ⟨some 49, (.move (.tmp 1)), none⟩,
              ⟨some 50, (.binOp .mul 63 (.tmp 48) (.tmp 49) 63), none⟩,
              ⟨some 5, (.assign (.tmp 50)), none⟩])
            .ret))))))))))))
theorem k50 : FOK Try.prog 50 51 c50 [4, 5] := ⟨⟨Try.f50, _, by kernel_rfl, by kernel_rfl, rfl, by kernel_rfl, rfl, by kernel_rfl, by decide⟩⟩

end Go.Proofs.Ytkkbnbgdhpkfhaa.A
